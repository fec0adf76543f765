/- The machine X, whole regions at once: the same machine, reckoned with less memory. Conditions: none. What the machine that goes by whole regions comes to, X comes to. Conditions: none. X: ranges over maps, whose order Go leaves open: every choice is gone through. Conditions: none. X: channels, by one goroutine alone: what is sent, received, selected with a default. Conditions: none. -/
import Derived.Test.YtegpndcapbddaaaGreatXb
import Derived.Conc.LoneSelect
namespace Go.X

noncomputable section

/-! Lists, with the recursors themselves -/

def dropQ (n : Nat) : List Value → List Value :=
  Nat.rec (motive := fun _ => List Value → List Value) (fun l => l) (fun _ ih l => List.rec (motive := fun _ => List Value) [] (fun _ t _ => ih t) l) n
def takeQ (n : Nat) : List Value → List Value :=
  Nat.rec (motive := fun _ => List Value → List Value) (fun _ => []) (fun _ ih l => List.rec (motive := fun _ => List Value) [] (fun v t _ => v :: ih t) l) n
/-- Has it at least so many? -/
def longQ (n : Nat) : List Value → Bool :=
  Nat.rec (motive := fun _ => List Value → Bool) (fun _ => true) (fun _ ih l => List.rec (motive := fun _ => Bool) false (fun _ t _ => ih t) l) n
/-- The first ones as they are, then others in the places of those behind them. -/
def overQ (xs : List Value) : List Value → List Value :=
  List.rec (motive := fun _ => List Value → List Value) (fun l => l) (fun x _ ih l => List.rec (motive := fun _ => List Value) [x] (fun _ t _ => x :: ih t) l) xs
def patchQ (n : Nat) (xs : List Value) : List Value → List Value :=
  Nat.rec (motive := fun _ => List Value → List Value) (overQ xs) (fun _ ih l => List.rec (motive := fun _ => List Value) [] (fun v t _ => v :: ih t) l) n
def allQ (p : Value → Bool) (l : List Value) : Bool := List.rec (motive := fun _ => Bool) true (fun v _ ih => cond (p v) ih false) l

def rowQ (h : Hp) (a : Addr) (n : Nat) : Option (List Value) :=
  match a with
  | ⟨b, off, none⟩ => (match h.get b with
    | some (.cells c _ _) => cond (longQ (Nat.add off n) c) (some (takeQ n (dropQ off c))) none
    | _ => none)
  | _ => none
def cellQ (h : Hp) (a : Addr) : Option Value :=
  match a with
  | ⟨b, off, none⟩ => (match h.get b with
    | some (.cells c _ _) => List.rec (motive := fun _ => Option Value) none (fun v _ _ => some v) (dropQ off c)
    | _ => none)
  | _ => none
def loadQ (E : Env) (t : TypeId) (a : Addr) (h : Hp) : Option Value :=
  match E.und t with
  | none => none
  | some d => match aggDesc d with
    | true => (match E.size t with
      | none => none
      | some n => match rowQ h a n with
        | none => none
        | some l => some (.agg l.toArray))
    | false => cellQ h a

def storeRowQ (h : Hp) (a : Addr) (l : List Value) : Option Hp :=
  match a with
  | ⟨b, off, none⟩ => (match h.get b with
    | some (.cells c e m) => cond (Nat.beq m 1) none (cond (longQ (Nat.add off l.length) c) (some (h.put b (.cells (patchQ off l c) e m))) none)
    | _ => none)
  | _ => none
def storeQ (E : Env) (t : TypeId) (a : Addr) (v : Value) (h : Hp) : Option Hp :=
  match E.size t with
  | some n => (match v with
    | .agg cs => cond (Nat.beq cs.toList.length n) (cond (allQ cellV cs.toList) (storeRowQ h a cs.toList) none) none
    | v => cond (Nat.beq n 1) (cond (cellV v) (storeRowQ h a [v]) none) none)
  | none => none

/-! Numbers: what is small is reckoned at once. -/
def posQ (n : Nat) : Option Value := forceN n fun r => some (.int .i64 (.ofNat r))
def natBin (op : BinOp) (m n : Nat) : Option Value :=
  match op with
  | .lss => some (boolV (Nat.blt m n))
  | .leq => some (boolV (Nat.ble m n))
  | .gtr => some (boolV (Nat.blt n m))
  | .geq => some (boolV (Nat.ble n m))
  | .eql => some (boolV (Nat.beq m n))
  | .neq => some (boolV (!Nat.beq m n))
  | .add => cond (Nat.blt (Nat.add m n) 9223372036854775808) (posQ (Nat.add m n)) (intBin .add .i64 (.ofNat m) (.ofNat n))
  | .sub => cond (Nat.ble n m) (cond (Nat.blt m 9223372036854775808) (posQ (Nat.sub m n)) (intBin .sub .i64 (.ofNat m) (.ofNat n))) (intBin .sub .i64 (.ofNat m) (.ofNat n))
  | .mul => cond (Nat.blt (Nat.mul m n) 9223372036854775808) (posQ (Nat.mul m n)) (intBin .mul .i64 (.ofNat m) (.ofNat n))
  | op => intBin op .i64 (.ofNat m) (.ofNat n)
def binQ (E : Env) (h : Hp) (op : BinOp) (t : TypeId) (xo yo : Operand) (x y : Value) : Option Value :=
  match x with
  | .int .i64 (.ofNat m) => (match y with
    | .int .i64 (.ofNat n) => cond (isShift op) (binX E h op t xo yo (.int .i64 (.ofNat m)) (.int .i64 (.ofNat n))) (natBin op m n)
    | y => binX E h op t xo yo (.int .i64 (.ofNat m)) y)
  | x => binX E h op t xo yo x y

def rg_move (_E : Env) (g : Operand → Value) (_h : Hp) (x : Operand) : Option Value := some (g x)
def rg_assign (_E : Env) (g : Operand → Value) (_h : Hp) (x : Operand) : Option Value := some (g x)
def rg_pick (_E : Env) (g : Operand → Value) (_h : Hp) (c a b : Operand) : Option Value := (match g c with | .bool t => some (cond t (g a) (g b)) | _ => none)
def rg_build (E : Env) (g : Operand → Value) (_h : Hp) (t : TypeId) (ps : Array (Nat × Operand)) : Option Value := (match E.zero t, E.und t with
    | some z, some (.struct fs) =>
      (match fs.toList.mapM (fun f => (E.size f.type).map fun n => (f.offset, n)) with
       | some pl => (match Instr.fill (fun i => pl[i]?) z.cells (ps.toList.map fun (i, x) => (i, g x)) with
         | some cs => some (.agg cs)
         | none => none)
       | none => none)
    | some z, some (.array _ e) => (match E.size e with
      | some n => (match Instr.fill (fun i => some (i * n, n)) z.cells (ps.toList.map fun (i, x) => (i, g x)) with
        | some cs => some (.agg cs)
        | none => none)
      | none => none)
    | _, _ => none)
def rg_load (E : Env) (g : Operand → Value) (h : Hp) (t : TypeId) (a : Operand) : Option Value := (match g a with
    | .pointer (some a) => loadQ E t a h
    | _ => none)
def rg_nilCheck (_E : Env) (g : Operand → Value) (_h : Hp) (x : Operand) : Option Value := (match g x with
    | .pointer (some a) => some (.pointer (some a))
    | .func (.func f) a b => some (.func (.func f) a b)
    | .func (.yield f) a b => some (.func (.yield f) a b)
    | .iface t v => some (.iface t v)
    | _ => none)
def rg_binOp (E : Env) (g : Operand → Value) (h : Hp) (op : BinOp) (t : TypeId) (x y : Operand) : Option Value := binQ E h op t x y (g x) (g y)
def rg_unOp (_E : Env) (g : Operand → Value) (_h : Hp) (op : UnOp) (x : Operand) : Option Value := unX op (g x)
def rg_convert (E : Env) (g : Operand → Value) (h : Hp) (s d : TypeId) (x : Operand) : Option Value := convertX E h s d (g x)
def rg_makeInterface (E : Env) (g : Operand → Value) (_h : Hp) (t : TypeId) (x : Operand) : Option Value := (match E.und t with
    | some (.interface _) => none
    | some _ => some (.iface t (g x))
    | none => none)
def rg_makeFunc (_E : Env) (g : Operand → Value) (_h : Hp) (fn : Fn) (a b : Array Operand) : Option Value := (match fn with
    | .yield _ => none
    | fn => some (.func fn (a.map g) (b.map g)))
def rg_slice (E : Env) (g : Operand → Value) (h : Hp) (t : TypeId) (x : Operand) (lo hi mx : Option Operand) : Option Value := sliceX E h t (g x) (lo.map g) (hi.map g) (mx.map g)
def rg_fieldAddr (E : Env) (g : Operand → Value) (_h : Hp) (t : TypeId) (x : Operand) (i : Nat) : Option Value := fieldAddrX E t (g x) i
def rg_field (E : Env) (g : Operand → Value) (_h : Hp) (t : TypeId) (x : Operand) (i : Nat) : Option Value := fieldX E t (g x) i
def rg_indexAddr (E : Env) (g : Operand → Value) (_h : Hp) (t : TypeId) (x i : Operand) : Option Value := indexAddrX E t (g x) (g i)
def rg_index (E : Env) (g : Operand → Value) (_h : Hp) (t : TypeId) (x i : Operand) : Option Value := indexX E t (g x) (g i)
def rg_lookup (E : Env) (g : Operand → Value) (h : Hp) (t : TypeId) (m k : Operand) (ok : Bool) : Option Value := lookupX E h t (g m) (g k) ok
def rg_typeAssert (E : Env) (g : Operand → Value) (_h : Hp) (x : Operand) (t a : TypeId) (ok : Bool) : Option Value := typeAssertX E (g x) t a ok
def rg_extract (_E : Env) (g : Operand → Value) (_h : Hp) (x : Operand) (i : Nat) : Option Value := (match g x with | .tuple vs => vs[i]? | _ => none)
def rg_call (E : Env) (g : Operand → Value) (h : Hp) (b : Builtin) (args : Array Operand) (argTypes : Array TypeId) : Option Value := (match b, argTypes[0]?, (args.toList.map g) with
    | .len, some t, x :: _ => lenX E h t x
    | .max, _, x :: l => foldX max2X x l
    | .min, _, x :: l => foldX min2X x l
    | _, _, _ => none)

def readG (E : Env) (g : Operand → Value) (o : Oper) (h : Hp) : Option Value :=
  match o.op with
  | .move x => rg_move E g h x
  | .assign x => rg_assign E g h x
  | .pick c a b => rg_pick E g h c a b
  | .build t ps => rg_build E g h t ps
  | .load t a => rg_load E g h t a
  | .nilCheck x => rg_nilCheck E g h x
  | .binOp op t x y _ => rg_binOp E g h op t x y
  | .unOp op _ x => rg_unOp E g h op x
  | .convert s d x => rg_convert E g h s d x
  | .makeInterface t x => rg_makeInterface E g h t x
  | .makeFunc fn a b => rg_makeFunc E g h fn a b
  | .slice t x lo hi mx => rg_slice E g h t x lo hi mx
  | .fieldAddr t x i => rg_fieldAddr E g h t x i
  | .field t x i => rg_field E g h t x i
  | .indexAddr t x i => rg_indexAddr E g h t x i
  | .index t x i => rg_index E g h t x i
  | .lookup t m k ok => rg_lookup E g h t m k ok
  | .typeAssert x t a ok => rg_typeAssert E g h x t a ok
  | .extract x i => rg_extract E g h x i
  | .call { callee := .builtin b, args, argTypes } => rg_call E g h b args argTypes
  | _ => none


def ag_alloc (E : Env) (_g : Operand → Value) (e : TypeId) : Option (AObj × (Nat → Value)) := (match E.zero e with
    | some z => some (cellsObj z.cells e, ptrTo)
    | none => none)
def ag_box (_E : Env) (g : Operand → Value) (e : TypeId) (x : Operand) : Option (AObj × (Nat → Value)) := some (cellsObj (g x).cells e, ptrTo)
def ag_buildSlice (E : Env) (g : Operand → Value) (t : TypeId) (n : Nat) (ps : Array (Nat × Operand)) : Option (AObj × (Nat → Value)) := (match E.und t with
    | some (.slice e) => (match E.size e, E.zero e with
      | some (z + 1), some zv => cond (Nat.ble (n * (z + 1)) (2 ^ 24) && Nat.beq zv.cells.size (z + 1))
          (match Instr.fill (fun i => some (i * (z + 1), z + 1)) (repeatCells zv.cells.toList n).toArray (ps.toList.map fun (i, x) => (i, g x)) with
           | some cs => some (cellsObj cs e, fun i => .slice (some ⟨i, 0, none⟩) n n)
           | none => none) none
      | _, _ => none)
    | _ => none)
def ag_makeMap (E : Env) (g : Operand → Value) (t : TypeId) (r : Option Operand) : Option (AObj × (Nat → Value)) := (match r, E.und t with
    | none, _ => some (.map [] 0, fun i => .map (some i))
    | some r, some (.map _ _) => (match g r with
      | .int _ _ => some (.map [] 0, fun i => .map (some i))
      | _ => none)
    | _, _ => none)
def ag_makeSlice (E : Env) (g : Operand → Value) (t : TypeId) (l c : Operand) : Option (AObj × (Nat → Value)) := (match E.und t, natOf (g l), natOf (g c) with
    | some (.slice e), some l, some c => (match E.size e, E.zero e, E.bytes e with
      | some (z + 1), some zv, some by' => cond (Nat.ble l c && Nat.ble c (2 ^ 40) && Nat.ble (by' * c) (2 ^ 47) && Nat.beq zv.cells.size (z + 1))
          (some (cellsObj (repeatCells zv.cells.toList c).toArray e, fun i => .slice (some ⟨i, 0, none⟩) l c)) none
      | _, _, _ => none)
    | _, _, _ => none)
def ag_makeChan (E : Env) (g : Operand → Value) (t : TypeId) (x : Operand) : Option (AObj × (Nat → Value)) := (match E.und t, natOf (g x) with
    | some (.chan _ e), some n => (match E.bytes e with
      | some by' => cond (Nat.ble n 1000000 && Nat.ble (by' * n) 1000000) (some (.chan n [] 0 0, fun i => .chan (some (i + 1)))) none
      | none => none)
    | _, _ => none)

def allocG (E : Env) (g : Operand → Value) (o : Oper) : Option (AObj × (Nat → Value)) :=
  match o.op with
  | .alloc e => ag_alloc E g e
  | .box e x => ag_box E g e x
  | .buildSlice t n ps => ag_buildSlice E g t n ps
  | .makeMap t r => ag_makeMap E g t r
  | .makeSlice t l c => ag_makeSlice E g t l c
  | .makeChan t x => ag_makeChan E g t x
  | _ => none

theorem allocG_eq (E : Env) (tm : Tr Value) (o : Oper) : allocG E (ev tm) o = allocX E tm o := rfl


/-- What has been laid lately, newest first. -/
inductive As where
  | nil
  | cons (i : Nat) (v : Value) (r : As)

def As.get (a : As) (t : Nat) : Option Value := As.rec (motive := fun _ => Option Value) none (fun i v _ ih => cond (Nat.beq i t) (some v) ih) a
def As.on (a : As) (tm : Tr Value) : Tr Value := As.rec (motive := fun _ => Tr Value) tm (fun i v _ ih => ih.set (i + 1) i v) a
/-- A temporary: laid lately, or ahead of it. -/
def getQ (a : As) (tm : Tr Value) (t : Nat) : Option Value := match a.get t with
  | some v => some v
  | none => tm.get t
/-- What is found out once is kept in such: the kernel keeps what a closed term comes to, where it is taken apart. -/
structure Fn1 where
  f : As → Tr Value → Value
structure FnO where
  f : As → Tr Value → Hp → Option (Value × Hp)
structure FnW where
  f : As → Tr Value → Option Bool
structure FnC where
  f : As → Tr Value → List It → Option (List It)
/-- A temporary's value. -/
def valQ (a : As) (tm : Tr Value) (t : Nat) : Value :=
  As.rec (motive := fun _ => Value) (Option.rec (motive := fun _ => Value) undef (fun v => v) (tm.get t)) (fun i v _ ih => Bool.rec (motive := fun _ => Value) ih v (Nat.beq i t)) a
/-- An operand, with its sign looked at once. -/
def opdF (x : Operand) : Fn1 :=
  match x with
  | .tmp t => ⟨fun a tm => valQ a tm t⟩
  | .const v => ⟨fun _ _ => v⟩
  | .global g => ⟨fun _ _ => .pointer (some ⟨g, 0, none⟩)⟩
  | .func f => ⟨fun _ _ => .func (.func f) #[] #[]⟩
def opd (x : Operand) (a : As) (tm : Tr Value) : Value := Fn1.rec (motive := fun _ => Value) (fun f => f a tm) (opdF x)
def evQ (a : As) (tm : Tr Value) (x : Operand) : Value := opd x a tm
def putQ (nt : Nat) (a : As) (d : Option Nat) (v : Value) : As :=
  match d with
  | none => a
  | some d => cond (Nat.blt d nt) (.cons d v a) a

/-- An operation that neither calls nor leaves. -/
def opQ (E : Env) (g : Operand → Value) (o : Oper) (h : Hp) : Option (Value × Hp) :=
  match cls E o with
  | 0 => (match readG E g o h with
    | some v => some (v, h)
    | none => none)
  | 1 => (match allocG E g o with
    | some (b, f) => some (f h.n, h.alloc b)
    | none => none)
  | _ => none

def both (v : Option Value) (h : Hp) : Option (Value × Hp) := match v with
  | some v => some (v, h)
  | none => none

/-- The same, the operation's signs looked at once. `wr`: may it store? -/
def opF (E : Env) (wr : Bool) (o : Oper) : FnO :=
  match o.op with
  | .move x => ⟨fun a tm h => some (opd x a tm, h)⟩
  | .assign x => ⟨fun a tm h => some (opd x a tm, h)⟩
  | .load t x => ⟨fun a tm h => (match opd x a tm with
    | .pointer (some p) => both (loadQ E t p h) h
    | _ => none)⟩
  | .binOp op t x y _ => ⟨fun a tm h => both (binQ E h op t x y (opd x a tm) (opd y a tm)) h⟩
  | .fieldAddr t x i => ⟨fun a tm h => both (fieldAddrX E t (opd x a tm) i) h⟩
  | .indexAddr t x i => ⟨fun a tm h => both (indexAddrX E t (opd x a tm) (opd i a tm)) h⟩
  | .pick c x y => ⟨fun a tm h => (match opd c a tm with
    | .bool t => some (cond t (opd x a tm) (opd y a tm), h)
    | _ => none)⟩
  | .store t x y => cond wr ⟨fun a tm h => (match opd x a tm with
    | .pointer (some p) => (match storeQ E t p (opd y a tm) h with
      | some h' => some (undef, h')
      | none => none)
    | _ => none)⟩ ⟨fun _ _ _ => none⟩
  | _ => ⟨fun a tm h => opQ E (evQ a tm) o h⟩
def opC (E : Env) (wr : Bool) (o : Oper) (a : As) (tm : Tr Value) (h : Hp) : Option (Value × Hp) := FnO.rec (motive := fun _ => Option (Value × Hp)) (fun f => f a tm h) (opF E wr o)

def nthO (n : Nat) : List Oper → Option Oper :=
  Nat.rec (motive := fun _ => List Oper → Option Oper) (fun l => List.rec (motive := fun _ => Option Oper) none (fun o _ _ => some o) l) (fun _ ih l => List.rec (motive := fun _ => Option Oper) none (fun _ t _ => ih t) l) n

/-- Is an operation wanted? -/
def wantF (ops : Array Oper) (o : Oper) : FnW :=
  match o.guard with
  | none => ⟨fun _ _ => some true⟩
  | some (g, want) => (match nthO g ops.toList with
    | some og => (match og.dst with
      | some d => ⟨fun a tm => (match getQ a tm d with
        | some (.bool b) => some (b == want)
        | some (.tuple _) => some false
        | _ => none)⟩
      | none => ⟨fun _ _ => none⟩)
    | none => ⟨fun _ _ => none⟩)
def wantC (ops : Array Oper) (o : Oper) (a : As) (tm : Tr Value) : Option Bool := FnW.rec (motive := fun _ => Option Bool) (fun f => f a tm) (wantF ops o)

/-- An operation as it is done. -/
structure Ci where
  want : As → Tr Value → Option Bool
  run : As → Tr Value → Hp → Option (Value × Hp)
  dst : Option Nat
def ci (E : Env) (wr : Bool) (ops : Array Oper) (i : Nat) : Ci :=
  match nthO i ops.toList with
  | none => ⟨fun _ _ => none, fun _ _ _ => none, none⟩
  | some o => ⟨wantC ops o, opC E wr o, o.dst⟩

/-- How far a region has come. -/
structure Rq where
  rest : List Nat
  a : As
  h : Hp

def regQ (E : Env) (wr : Bool) (ops : Array Oper) (nt : Nat) (tm : Tr Value) (l : List Nat) : As → Hp → Rq :=
  List.rec (motive := fun _ => As → Hp → Rq) (fun a h => ⟨[], a, h⟩) (fun i rest ih a h =>
    match ci E wr ops i with
    | ⟨w, r, d⟩ => (match w a tm with
      | none => ⟨i :: rest, a, h⟩
      | some false => ih (putQ nt a d undef) h
      | some true => (match r a tm h with
        | some (v, h') => ih (putQ nt a d v) h'
        | none => ⟨i :: rest, a, h⟩))) l

/-- A frame, so far. -/
structure Fq where
  todo : List It
  a : As
  h : Hp

/-- What an item of code leads to; none: X is to see to it. -/
def codeF (E : Env) (c : Code) : FnC :=
  match c with
  | .skip => ⟨fun _ _ k => some k⟩
  | .label _ => ⟨fun _ _ k => some k⟩
  | .seq a b => ⟨fun _ _ k => some (.code a :: .code b :: k)⟩
  | .cond c x y => ⟨fun a tm k => (match opd c a tm with
    | .bool t => some (.code (cond t x y) :: k)
    | _ => none)⟩
  | .block id b => ⟨fun _ _ k => some (.code b :: .inBlock id :: k)⟩
  | .loop b => ⟨fun _ _ k => some (.code b :: .inLoop b :: k)⟩
  | .exit id => ⟨fun _ _ k => exitToX id k⟩
  | .region _ ops draw => cond (constsOk ops) (cond draw
      (cond (regionF E ops) ⟨fun _ _ k => some (.draw ops (canonF E ops) :: k)⟩ ⟨fun _ _ _ => none⟩)
      ⟨fun _ _ k => some (.inRegion ops (List.range ops.size) :: k)⟩) ⟨fun _ _ _ => none⟩
  | _ => ⟨fun _ _ _ => none⟩
def codeQ (E : Env) (c : Code) (a : As) (tm : Tr Value) (k : List It) : Option (List It) := FnC.rec (motive := fun _ => Option (List It)) (fun f => f a tm k) (codeF E c)

def frameQ (E : Env) (nt : Nat) (tm : Tr Value) (n : Nat) : List It → As → Hp → Fq :=
  Nat.rec (motive := fun _ => List It → As → Hp → Fq) (fun l a h => ⟨l, a, h⟩) (fun _ ih l a h =>
    match l with
    | [] => ⟨[], a, h⟩
    | i :: k => (match i with
      | .code c => (match codeQ E c a tm k with
        | some k' => ih k' a h
        | none => ⟨.code c :: k, a, h⟩)
      | .inBlock _ => ih k a h
      | .inLoop b => ih (.code b :: .inLoop b :: k) a h
      | .inRegion ops l => (match regQ E true ops nt tm l a h with
        | ⟨[], a, h⟩ => ih k a h
        | ⟨i :: rest, a, h⟩ => ⟨.inRegion ops (i :: rest) :: k, a, h⟩)
      | .draw ops l => (match regQ E false ops nt tm l a h with
        | ⟨[], a, h⟩ => ih k a h
        | ⟨i :: rest, a, h⟩ => ⟨.draw ops (i :: rest) :: k, a, h⟩)
      | i => ⟨i :: k, a, h⟩)) n

def resultsQ (E : Env) (a : As) (tm : Tr Value) (h : Hp) : List ResultVar → Option (List Value)
  | [] => some []
  | .tmp t :: l => (match resultsQ E a tm h l with
    | some r => some (opd (.tmp t) a tm :: r)
    | none => none)
  | .cell x t :: l => (match opd (.tmp x) a tm with
    | .pointer (some p) => (match loadX E t p h, resultsQ E a tm h l with
      | some v, some r => some (v :: r)
      | _, _ => none)
    | _ => none)

/-- A frame that returns, and has nothing deferred, and is no round of a loop: its results are read, its caller goes on. -/
def retQ (E : Env) (fn : FuncId) (a : As) (tm : Tr Value) (df : List Deferred) (kd : CallKind) (ro : Option Nat) (cs : List Fr) (h : Hp) (other : Option St) : Option St :=
  match ro with
  | some _ => other
  | none => (match df with
    | _ :: _ => other
    | [] => (match cs with
      | [] => other
      | c :: r => (match E.fn fn with
        | some f => (match resultsQ E a tm h f.results.toList with
          | some vs => returnX E kd (c :: r) h (oneOf vs)
          | none => none)
        | none => none)))

/-- Steps at once, then one of X's, or two. -/
def stepQ (E : Env) (s : St) : Option St :=
  match s with
  | ⟨⟨fn, nt, tm, todo, df, md, kd, ro⟩, cs, h⟩ => (match md with
    | .run => (match frameQ E nt tm 60 todo .nil h with
      | ⟨todo', a, h'⟩ => (match todo' with
        | [] => retQ E fn a tm df kd ro cs h' (execX E fn nt (a.on tm) [] df kd ro cs h')
        | i :: k => (match i with
          | .code c => (match c with
            | .ret => retQ E fn a tm df kd ro cs h' (execX E fn nt (a.on tm) (.code .ret :: k) df kd ro cs h')
            | c => execX E fn nt (a.on tm) (.code c :: k) df kd ro cs h')
          | i => execX E fn nt (a.on tm) (i :: k) df kd ro cs h')))
    | md => unwindX E fn nt tm todo df md kd ro cs h)

def runQ (E : Env) (n : Nat) : St → St :=
  Nat.rec (motive := fun _ => St → St) (fun s => s) (fun _ ih s => (match stepQ E s with
    | some s' => ih s'
    | none => s)) n

def nthG {α : Type} (n : Nat) : List α → Option α :=
  Nat.rec (motive := fun _ => List α → Option α) (fun l => List.rec (motive := fun _ => Option α) none (fun o _ _ => some o) l) (fun _ ih l => List.rec (motive := fun _ => Option α) none (fun _ t _ => ih t) l) n
theorem nthG_eq {α : Type} : ∀ (n : Nat) (l : List α), nthG n l = l[n]?
  | 0, [] => rfl
  | 0, _ :: _ => rfl
  | _ + 1, [] => rfl
  | n + 1, _ :: l => nthG_eq n l

/-- A program's environment, its types and functions looked up fast. -/
def envQ (P : Program) : Env :=
  { envOf P with
    ty := fun t => nthG t P.types.toList, fn := fun f => nthG f P.funcs.toList
    hty := fun t i h => tyOk P t i (by rw [nthG_eq] at h; simpa using h)
    hfn := fun f i h => by show P.funcs[f]? = some i; rw [nthG_eq] at h; simpa using h }

def truthQ (E : Env) (f : FuncId) (n : Nat) (h : Hp) : Bool :=
  match startX E f [] h with
  | some s => (match endX E f (runQ E n s) with
    | some (.bool b) => b
    | _ => false)
  | none => false

end

end Go.X

namespace Go.X

theorem dropQ_eq : ∀ (n : Nat) (l : List Value), dropQ n l = l.drop n
  | 0, _ => rfl
  | _ + 1, [] => rfl
  | n + 1, _ :: l => dropQ_eq n l
theorem takeQ_eq : ∀ (n : Nat) (l : List Value), takeQ n l = l.take n
  | 0, _ => rfl
  | _ + 1, [] => rfl
  | n + 1, v :: l => by show v :: takeQ n l = _; rw [takeQ_eq n l]; rfl
theorem longQ_eq : ∀ (n : Nat) (l : List Value), longQ n l = Nat.ble n l.length
  | 0, _ => (Nat.ble_eq_true_of_le (Nat.zero_le _)).symm
  | _ + 1, [] => rfl
  | n + 1, _ :: l => by show longQ n l = _; rw [longQ_eq n l]; rfl
theorem allQ_eq (p : Value → Bool) : ∀ l : List Value, allQ p l = l.all p
  | [] => rfl
  | v :: l => by
    show cond (p v) (allQ p l) false = _
    rw [allQ_eq p l]; cases h : p v <;> simp [h]
theorem overQ_eq : ∀ (xs l : List Value), xs.length ≤ l.length → overQ xs l = xs ++ l.drop xs.length
  | [], _, _ => rfl
  | x :: xs, [], h => by simp at h
  | x :: xs, _ :: l, h => by
    show x :: overQ xs l = _
    rw [overQ_eq xs l (by simpa using h)]; rfl
theorem patchQ_eq : ∀ (n : Nat) (xs l : List Value), n + xs.length ≤ l.length → patchQ n xs l = l.take n ++ xs ++ l.drop (n + xs.length)
  | 0, xs, l, h => by
    show overQ xs l = _
    rw [overQ_eq xs l (by omega)]; simp
  | n + 1, xs, [], h => by simp at h
  | n + 1, xs, v :: l, h => by
    show v :: patchQ n xs l = _
    rw [patchQ_eq n xs l (by simp at h; omega), show n + 1 + xs.length = (n + xs.length) + 1 by omega]; rfl
theorem nthO_eq : ∀ (n : Nat) (l : List Oper), nthO n l = l[n]?
  | 0, [] => rfl
  | 0, _ :: _ => rfl
  | _ + 1, [] => rfl
  | n + 1, _ :: l => nthO_eq n l

theorem rowQ_eq (h : Hp) (a : Addr) (n : Nat) : rowQ h a n = rowOf h a n := by
  obtain ⟨b, off, sp⟩ := a
  cases sp with
  | some s => rfl
  | none =>
    simp only [rowQ, rowOf]
    cases h.get b with
    | none => rfl
    | some o => cases o <;> first | rfl | (simp only [longQ_eq, takeQ_eq, dropQ_eq]; rfl)
theorem cellQ_eq (h : Hp) (a : Addr) : cellQ h a = (match rowOf h a 1 with | some [v] => some v | _ => none) := by
  obtain ⟨b, off, sp⟩ := a
  cases sp with
  | some s => rfl
  | none =>
    simp only [cellQ, rowOf]
    cases h.get b with
    | none => rfl
    | some o =>
      cases o with
      | cells c e m =>
        simp only [dropQ_eq]
        cases hd : c.drop off with
        | nil =>
          have : c.length ≤ off := List.drop_eq_nil_iff.1 hd
          have hb : Nat.ble (off + 1) c.length = false := by
            cases hx : Nat.ble (off + 1) c.length with
            | false => rfl
            | true => have := Nat.le_of_ble_eq_true hx; omega
          rw [hb]; rfl
        | cons v t =>
          have hl : off < c.length := by
            rcases Nat.lt_or_ge off c.length with q | q
            · exact q
            · rw [List.drop_eq_nil_iff.2 q] at hd; cases hd
          rw [show Nat.ble (off + 1) c.length = true from Nat.ble_eq_true_of_le hl]
          rfl
      | _ => rfl
theorem loadQ_eq (E : Env) (t : TypeId) (a : Addr) (h : Hp) : loadQ E t a h = loadX E t a h := by
  unfold loadQ loadX
  cases E.und t with
  | none => rfl
  | some d =>
    simp only
    cases aggDesc d with
    | true => simp only [rowQ_eq]; rfl
    | false => simp only [cellQ_eq]; rfl
theorem storeRowQ_eq (h : Hp) (a : Addr) (l : List Value) : storeRowQ h a l = storeRow h a l := by
  obtain ⟨b, off, sp⟩ := a
  cases sp with
  | some s => rfl
  | none =>
    simp only [storeRowQ, storeRow]
    cases h.get b with
    | none => rfl
    | some o =>
      cases o with
      | cells c e m =>
        simp only [longQ_eq]
        show cond (Nat.beq m 1) none (cond (Nat.ble (off + l.length) c.length) _ none) = _
        cases Nat.beq m 1 with
        | true => rfl
        | false =>
          cases hb : Nat.ble (off + l.length) c.length with
          | false => rfl
          | true => simp only [cond_false, cond_true, Bool.not_false, Bool.and_self]; rw [patchQ_eq _ _ _ (Nat.le_of_ble_eq_true hb)]
      | _ => rfl
theorem storeQ_eq (E : Env) (t : TypeId) (a : Addr) (v : Value) (h : Hp) : storeQ E t a v h = storeX E t a v h := by
  unfold storeQ storeX
  cases E.size t with
  | none => rfl
  | some n =>
    simp only
    cases v with
    | agg cs =>
      simp only [Value.cells, allQ_eq, storeRowQ_eq]
      show cond (Nat.beq cs.toList.length n) _ none = cond (Nat.beq cs.size n && _) _ none
      rw [show cs.toList.length = cs.size by simp]
      cases Nat.beq cs.size n <;> simp
    | _ =>
      simp only [Value.cells, storeRowQ_eq]
      show cond (Nat.beq n 1) _ none = cond (Nat.beq 1 n && _) _ none
      rw [show Nat.beq n 1 = Nat.beq 1 n by rw [Bool.eq_iff_iff, Nat.beq_eq, Nat.beq_eq]; exact eq_comm]
      cases Nat.beq 1 n <;> simp [cellV]

theorem posQ_eq (n : Nat) (h : n < 9223372036854775808) : posQ n = someI .i64 (wrapX .i64 (.ofNat n)) := by
  have hb : Nat.blt n 9223372036854775808 = true := Nat.ble_eq_true_of_le h
  simp only [posQ, someI, forceN_eq, forceI_eq, wrapX, hb, cond_true]
theorem natBin_eq (op : BinOp) (m n : Nat) : natBin op m n = intBin op .i64 (.ofNat m) (.ofNat n) := by
  have blt : ∀ a b : Nat, Nat.blt a b = decide (a < b) := fun a b => by
    rw [Bool.eq_iff_iff]; simp [Nat.blt, Nat.ble_eq]; omega
  cases op <;> simp only [natBin, intBin]
  case add =>
    cases hb : Nat.blt (Nat.add m n) 9223372036854775808 with
    | false => rfl
    | true => rw [cond_true, posQ_eq _ (Nat.le_of_ble_eq_true hb)]; rfl
  case mul =>
    cases hb : Nat.blt (Nat.mul m n) 9223372036854775808 with
    | false => rfl
    | true => rw [cond_true, posQ_eq _ (Nat.le_of_ble_eq_true hb)]; rfl
  case sub =>
    cases h1 : Nat.ble n m with
    | false => rfl
    | true =>
      cases h2 : Nat.blt m 9223372036854775808 with
      | false => rfl
      | true =>
        have e1 := Nat.le_of_ble_eq_true h1
        have e2 : m < 9223372036854775808 := Nat.le_of_ble_eq_true h2
        rw [cond_true, cond_true, posQ_eq _ (by show m - n < _; omega)]
        have : (Int.ofNat m - Int.ofNat n) = Int.ofNat (Nat.sub m n) := by
          show ((m : Int) - (n : Int)) = ((m - n : Nat) : Int); omega
        rw [this]
  case eql => congr 2; rw [Bool.eq_iff_iff, Nat.beq_eq, beq_iff_eq]; exact Int.ofNat_inj.symm
  case neq =>
    have : Nat.beq m n = (Int.ofNat m == Int.ofNat n) := by rw [Bool.eq_iff_iff, Nat.beq_eq, beq_iff_eq]; exact Int.ofNat_inj.symm
    rw [this]; rfl
  case lss => congr 2; rw [blt, decide_eq_decide]; exact Int.ofNat_lt.symm
  case leq => congr 2; rw [Bool.eq_iff_iff, Nat.ble_eq, decide_eq_true_iff]; exact Int.ofNat_le.symm
  case gtr => congr 2; rw [blt, decide_eq_decide]; exact Int.ofNat_lt.symm
  case geq => congr 2; rw [Bool.eq_iff_iff, Nat.ble_eq, decide_eq_true_iff]; exact Int.ofNat_le.symm
theorem binQ_eq (E : Env) (h : Hp) (op : BinOp) (t : TypeId) (xo yo : Operand) (x y : Value) : binQ E h op t xo yo x y = binX E h op t xo yo x y := by
  unfold binQ
  split
  · split
    · rename_i m n
      rw [natBin_eq]
      cases hs : isShift op with
      | true => rfl
      | false => simp only [cond_false, binX, hs, kindEq, cond_true]
    · rfl
  · rfl

theorem readG_eq (E : Env) (tm : Tr Value) (o : Oper) (h : Hp) : readG E (ev tm) o h = readX E tm o h := by
  obtain ⟨dst, op, ty, pos, af, gd⟩ := o
  cases op with
  | load t a =>
    show rg_load E (ev tm) h t a = (match ev tm a with | .pointer (some a) => loadX E t a h | _ => none)
    unfold rg_load
    simp only [loadQ_eq]
    all_goals rfl
  | binOp op t x y ty => exact binQ_eq _ _ _ _ _ _ _ _
  | call c =>
    obtain ⟨callee, args, ts⟩ := c
    cases callee <;> rfl
  | _ => rfl

/-! Temporaries -/
theorem get_on (tm : Tr Value) : ∀ (a : As) (t : Nat), (a.on tm).get t = getQ a tm t
  | .nil, _ => rfl
  | .cons i v r, t => by
    show ((r.on tm).set (i + 1) i v).get t = _
    rw [get_set _ _ _ _ _ (Nat.lt_succ_self i), get_on tm r t]
    show _ = (match cond (Nat.beq i t) (some v) (r.get t) with | some v => some v | none => tm.get t)
    by_cases e : i = t
    · subst e; rw [if_pos rfl, Nat.beq_refl]; rfl
    · rw [if_neg e]
      have : Nat.beq i t = false := by
        cases hb : Nat.beq i t with
        | false => rfl
        | true => exact absurd (Nat.eq_of_beq_eq_true hb) e
      rw [this]; rfl
theorem valQ_eq (tm : Tr Value) (t : Nat) : ∀ a : As, valQ a tm t = (match getQ a tm t with | some v => v | none => undef)
  | .nil => by
    show (Option.rec (motive := fun _ => Value) undef (fun v => v) (tm.get t) : Value) = (match tm.get t with | some v => v | none => undef)
    cases tm.get t <;> rfl
  | .cons i v r => by
    have e1 : valQ (.cons i v r) tm t = (Bool.rec (motive := fun _ => Value) (valQ r tm t) v (Nat.beq i t) : Value) := rfl
    have e2 : getQ (.cons i v r) tm t = (match cond (Nat.beq i t) (some v) (r.get t) with | some v => some v | none => tm.get t) := rfl
    rw [e1, e2, valQ_eq tm t r]
    cases Nat.beq i t <;> rfl
theorem opd_eq (x : Operand) (a : As) (tm : Tr Value) : opd x a tm = ev (a.on tm) x := by
  cases x with
  | tmp t =>
    show valQ a tm t = _
    rw [valQ_eq]
    simp only [ev, get_on]; rfl
  | _ => rfl
theorem evQ_eq (a : As) (tm : Tr Value) : evQ a tm = ev (a.on tm) := funext fun x => opd_eq x a tm
theorem putQ_on (nt : Nat) (a : As) (tm : Tr Value) (d : Option Nat) (v : Value) : (putQ nt a d v).on tm = putT nt (a.on tm) d v := by
  cases d with
  | none => rfl
  | some d =>
    simp only [putQ, putT, setT]
    cases Nat.blt d nt <;> rfl

theorem want_eq (ops : Array Oper) (o : Oper) (a : As) (tm : Tr Value) : wantC ops o a tm = wantedX ops (a.on tm) o := by
  unfold wantC wantF wantedX
  cases o.guard with
  | none => rfl
  | some gw =>
    obtain ⟨g, want⟩ := gw
    simp only [nthO_eq, show ops.toList[g]? = ops[g]? by simp]
    cases ops[g]? with
    | none => rfl
    | some og =>
      simp only
      cases og.dst with
      | none => rfl
      | some d => simp only [get_on]; rfl

/-- What is done of an operation: X does it. -/
theorem opC_oper (E : Env) {wr : Bool} {o : Oper} {a : As} {tm : Tr Value} {h h' : Hp} {v : Value} (e : opC E wr o a tm h = some (v, h')) :
    (cls E o = 0 ∧ readX E (a.on tm) o h = some v ∧ h' = h) ∨ (cls E o = 1 ∧ ∃ b f, allocX E (a.on tm) o = some (b, f) ∧ v = f h.n ∧ h' = h.alloc b) ∨
      (wr = true ∧ cls E o = 2 ∧ writeX E (a.on tm) o h = some (.skip h') ∧ v = undef) := by
  have gen : opQ E (evQ a tm) o h = some (v, h') → (cls E o = 0 ∧ readX E (a.on tm) o h = some v ∧ h' = h) ∨ (cls E o = 1 ∧ ∃ b f, allocX E (a.on tm) o = some (b, f) ∧ v = f h.n ∧ h' = h.alloc b) := by
    intro e
    rw [evQ_eq] at e
    unfold opQ at e
    split at e
    · rename_i hc
      rw [readG_eq] at e
      split at e
      · rename_i hv
        cases e
        exact .inl ⟨hc, hv, rfl⟩
      · cases e
    · rename_i hc
      rw [allocG_eq] at e
      split at e
      · rename_i hv
        cases e
        exact .inr ⟨hc, _, _, hv, rfl, rfl⟩
      · cases e
    · cases e
  have rd : ∀ {u : Option Value}, cls E o = 0 → readX E (a.on tm) o h = u → both u h = some (v, h') → (cls E o = 0 ∧ readX E (a.on tm) o h = some v ∧ h' = h) := by
    intro u hc hu e
    cases u with
    | none => cases e
    | some u => cases e; exact ⟨hc, hu, rfl⟩
  obtain ⟨dst, op, ty, pos, af, gd⟩ := o
  cases op with
  | move x =>
    have e : some (opd x a tm, h) = some (v, h') := e
    rw [opd_eq] at e
    cases e
    exact .inl ⟨rfl, rfl, rfl⟩
  | assign x =>
    have e : some (opd x a tm, h) = some (v, h') := e
    rw [opd_eq] at e
    cases e
    exact .inl ⟨rfl, rfl, rfl⟩
  | load t x =>
    have e : (match opd x a tm with | .pointer (some p) => both (loadQ E t p h) h | _ => none) = some (v, h') := e
    rw [opd_eq] at e
    refine .inl ?_
    split at e
    · rename_i p hp
      rw [loadQ_eq] at e
      exact rd rfl (by simp only [readX, hp]) e
    · cases e
  | binOp op t x y _ =>
    have e : both (binQ E h op t x y (opd x a tm) (opd y a tm)) h = some (v, h') := e
    rw [opd_eq, opd_eq, binQ_eq] at e
    exact .inl (rd rfl rfl e)
  | fieldAddr t x i =>
    have e : both (fieldAddrX E t (opd x a tm) i) h = some (v, h') := e
    rw [opd_eq] at e
    exact .inl (rd rfl rfl e)
  | indexAddr t x i =>
    have e : both (indexAddrX E t (opd x a tm) (opd i a tm)) h = some (v, h') := e
    rw [opd_eq, opd_eq] at e
    exact .inl (rd rfl rfl e)
  | pick c x y =>
    have e : (match opd c a tm with | .bool t => some (cond t (opd x a tm) (opd y a tm), h) | _ => none) = some (v, h') := e
    rw [opd_eq, opd_eq, opd_eq] at e
    refine .inl ?_
    split at e
    · rename_i t hc
      cases e
      exact ⟨rfl, by simp only [readX, hc], rfl⟩
    · cases e
  | store t x y =>
    cases wr with
    | false => cases (show (none : Option (Value × Hp)) = some (v, h') from e)
    | true =>
      have e : (match opd x a tm with
        | .pointer (some p) => (match storeQ E t p (opd y a tm) h with
          | some h' => some (undef, h')
          | none => none)
        | _ => none) = some (v, h') := e
      rw [opd_eq, opd_eq] at e
      split at e
      · rename_i p hp
        rw [storeQ_eq] at e
        split at e
        · rename_i h2 hs
          cases e
          exact .inr (.inr ⟨rfl, rfl, by simp only [writeX, hp, hs], rfl⟩)
        · cases e
      · cases e
  | _ => exact (gen e).elim .inl fun q => .inr (.inl q)

section
variable {E : Env} {fn : FuncId} {nt : Nat} {tm : Tr Value} {df : List Deferred} {kd : CallKind} {ro : Option Nat} {cs : List Fr} {k : List It} {ops : Array Oper}

theorem ci_some {wr : Bool} {i : Nat} {o : Oper} (ho : ops[i]? = some o) : ci E wr ops i = ⟨wantC ops o, opC E wr o, o.dst⟩ := by
  unfold ci
  rw [nthO_eq, show ops.toList[i]? = ops[i]? by simp, ho]
theorem ci_none {wr : Bool} {i : Nat} (ho : ops[i]? = none) : ci E wr ops i = ⟨fun _ _ => none, fun _ _ _ => none, none⟩ := by
  unfold ci
  rw [nthO_eq, show ops.toList[i]? = ops[i]? by simp, ho]

theorem regQ_cons {wr : Bool} {i : Nat} {l : List Nat} {a : As} {h : Hp} : regQ E wr ops nt tm (i :: l) a h = (match ci E wr ops i with
    | ⟨w, r, d⟩ => (match w a tm with
      | none => ⟨i :: l, a, h⟩
      | some false => regQ E wr ops nt tm l (putQ nt a d undef) h
      | some true => (match r a tm h with
        | some (v, h') => regQ E wr ops nt tm l (putQ nt a d v) h'
        | none => ⟨i :: l, a, h⟩))) := rfl

theorem reg_runs : ∀ (l : List Nat) (a : As) (h : Hp), Runs E ⟨⟨fn, nt, a.on tm, .inRegion ops l :: k, df, .run, kd, ro⟩, cs, h⟩
    ⟨⟨fn, nt, (regQ E true ops nt tm l a h).a.on tm, .inRegion ops (regQ E true ops nt tm l a h).rest :: k, df, .run, kd, ro⟩, cs, (regQ E true ops nt tm l a h).h⟩
  | [], a, h => .refl _ _
  | i :: l, a, h => by
    rw [regQ_cons]
    cases ho : ops[i]? with
    | none => rw [ci_none ho]; exact .refl _ _
    | some o =>
      rw [ci_some ho]
      simp only [want_eq]
      cases hw : wantedX ops (a.on tm) o with
      | none => exact .refl _ _
      | some b =>
        cases b with
        | false =>
          refine Runs.step ?_ (reg_runs l (putQ nt a o.dst undef) h)
          simp only [stepX, execX, ho, hw, putQ_on]
        | true =>
          simp only
          cases he : opC E true o a tm h with
          | none => exact .refl _ _
          | some r =>
            obtain ⟨v, h'⟩ := r
            refine Runs.step ?_ (reg_runs l (putQ nt a o.dst v) h')
            rw [putQ_on]
            rcases opC_oper E he with ⟨hc, hv, rfl⟩ | ⟨hc, b, f, hv, rfl, rfl⟩ | ⟨_, hc, hv, rfl⟩
            · simp only [stepX, execX, ho, hw, operX, hc, hv, nextX, finishX]
            · simp only [stepX, execX, ho, hw, operX, hc, hv, nextX, finishX]
            · simp only [stepX, execX, ho, hw, operX, hc, hv, nextX, finishX]

theorem draw_runs : ∀ (l : List Nat) (a : As) (h : Hp), Runs E ⟨⟨fn, nt, a.on tm, .draw ops l :: k, df, .run, kd, ro⟩, cs, h⟩
    ⟨⟨fn, nt, (regQ E false ops nt tm l a h).a.on tm, .draw ops (regQ E false ops nt tm l a h).rest :: k, df, .run, kd, ro⟩, cs, (regQ E false ops nt tm l a h).h⟩
  | [], a, h => .refl _ _
  | i :: l, a, h => by
    rw [regQ_cons]
    cases ho : ops[i]? with
    | none => rw [ci_none ho]; exact .refl _ _
    | some o =>
      rw [ci_some ho]
      simp only [want_eq]
      cases hw : wantedX ops (a.on tm) o with
      | none => exact .refl _ _
      | some b =>
        cases b with
        | false =>
          refine Runs.step ?_ (draw_runs l (putQ nt a o.dst undef) h)
          simp only [stepX, execX, drawX, ho, hw, putQ_on]
        | true =>
          simp only
          cases he : opC E false o a tm h with
          | none => exact .refl _ _
          | some r =>
            obtain ⟨v, h'⟩ := r
            refine Runs.step ?_ (draw_runs l (putQ nt a o.dst v) h')
            rw [putQ_on]
            rcases opC_oper E he with ⟨hc, hv, rfl⟩ | ⟨hc, b, f, hv, rfl, rfl⟩ | ⟨hf, _⟩
            · simp only [stepX, execX, drawX, ho, hw, hc, hv]
            · simp only [stepX, execX, drawX, ho, hw, hc, hv]
            · cases hf

theorem code_step {c : Code} {a : As} {h : Hp} {k' : List It} (e : codeQ E c a tm k = some k') :
    stepX E ⟨⟨fn, nt, a.on tm, .code c :: k, df, .run, kd, ro⟩, cs, h⟩ = some ⟨⟨fn, nt, a.on tm, k', df, .run, kd, ro⟩, cs, h⟩ := by
  cases c with
  | skip => cases (show some k = some k' from e); rfl
  | label _ => cases (show some k = some k' from e); rfl
  | seq x y => cases (show some (.code x :: .code y :: k) = some k' from e); rfl
  | cond c x y =>
    have e : (match opd c a tm with | .bool t => some (.code (cond t x y) :: k) | _ => none) = some k' := e
    rw [opd_eq] at e
    split at e
    · rename_i hc
      cases e
      simp only [stepX, execX, hc]
    · cases e
  | block id b => cases (show some (.code b :: .inBlock id :: k) = some k' from e); rfl
  | loop b => cases (show some (.code b :: .inLoop b :: k) = some k' from e); rfl
  | exit id =>
    have e : exitToX id k = some k' := e
    simp only [stepX, execX, e]
  | region id ops dr =>
    simp only [codeQ, codeF] at e
    cases h1 : constsOk ops with
    | false => rw [h1] at e; cases (show (none : Option (List It)) = some k' from e)
    | true =>
      rw [h1, cond_true] at e
      cases dr with
      | false => cases (show some (.inRegion ops (List.range ops.size) :: k) = some k' from e); simp only [stepX, execX, h1, cond_true, cond_false]
      | true =>
        rw [cond_true] at e
        cases h2 : regionF E ops with
        | false => rw [h2] at e; cases (show (none : Option (List It)) = some k' from e)
        | true =>
          rw [h2, cond_true, canonF_eq] at e
          cases (show some (.draw ops (canon E ops) :: k) = some k' from e)
          simp only [stepX, execX, h1, regionF_ok h2, cond_true]
  | _ => cases (show (none : Option (List It)) = some k' from e)

theorem frame_runs : ∀ (n : Nat) (l : List It) (a : As) (h : Hp), Runs E ⟨⟨fn, nt, a.on tm, l, df, .run, kd, ro⟩, cs, h⟩
    ⟨⟨fn, nt, (frameQ E nt tm n l a h).a.on tm, (frameQ E nt tm n l a h).todo, df, .run, kd, ro⟩, cs, (frameQ E nt tm n l a h).h⟩
  | 0, _, _, _ => .refl _ _
  | n + 1, [], _, _ => .refl _ _
  | n + 1, i :: k, a, h => by
    cases i with
    | code c =>
      cases e : codeQ E c a tm k with
      | none =>
        have : frameQ E nt tm (n + 1) (.code c :: k) a h = ⟨.code c :: k, a, h⟩ := by
          show (match codeQ E c a tm k with | some k' => frameQ E nt tm n k' a h | none => ⟨.code c :: k, a, h⟩ : Fq) = _
          rw [e]
        rw [this]; exact .refl _ _
      | some k' =>
        have : frameQ E nt tm (n + 1) (.code c :: k) a h = frameQ E nt tm n k' a h := by
          show (match codeQ E c a tm k with | some k' => frameQ E nt tm n k' a h | none => ⟨.code c :: k, a, h⟩ : Fq) = _
          rw [e]
        rw [this]
        exact Runs.step (code_step e) (frame_runs n k' a h)
    | inBlock _ => exact Runs.step rfl (frame_runs n k a h)
    | inLoop b => exact Runs.step rfl (frame_runs n (.code b :: .inLoop b :: k) a h)
    | inRegion ops l =>
      have hr := reg_runs (E := E) (fn := fn) (nt := nt) (tm := tm) (df := df) (kd := kd) (ro := ro) (cs := cs) (k := k) (ops := ops) l a h
      have hq : frameQ E nt tm (n + 1) (.inRegion ops l :: k) a h = (match regQ E true ops nt tm l a h with
        | ⟨[], a, h⟩ => frameQ E nt tm n k a h
        | ⟨i :: rest, a, h⟩ => ⟨.inRegion ops (i :: rest) :: k, a, h⟩) := rfl
      rw [hq]
      generalize regQ E true ops nt tm l a h = r at hr
      obtain ⟨rest, a', h'⟩ := r
      cases rest with
      | nil => exact hr.trans (Runs.step rfl (frame_runs n k a' h'))
      | cons i rest => exact hr
    | draw ops l =>
      have hr := draw_runs (E := E) (fn := fn) (nt := nt) (tm := tm) (df := df) (kd := kd) (ro := ro) (cs := cs) (k := k) (ops := ops) l a h
      have hq : frameQ E nt tm (n + 1) (.draw ops l :: k) a h = (match regQ E false ops nt tm l a h with
        | ⟨[], a, h⟩ => frameQ E nt tm n k a h
        | ⟨i :: rest, a, h⟩ => ⟨.draw ops (i :: rest) :: k, a, h⟩) := rfl
      rw [hq]
      generalize regQ E false ops nt tm l a h = r at hr
      obtain ⟨rest, a', h'⟩ := r
      cases rest with
      | nil => exact hr.trans (Runs.step rfl (frame_runs n k a' h'))
      | cons i rest => exact hr
    | _ => exact .refl _ _
end

theorem resultsQ_eq (E : Env) (a : As) (tm : Tr Value) (h : Hp) : ∀ l, resultsQ E a tm h l = resultsX E (a.on tm) h l
  | [] => rfl
  | .tmp t :: l => by
    simp only [resultsQ, resultsX, resultsQ_eq E a tm h l, opd_eq]
    rfl
  | .cell x t :: l => by
    simp only [resultsQ, resultsX, resultsQ_eq E a tm h l, opd_eq]
    rfl

theorem ret_runs {E : Env} {fn : FuncId} {nt : Nat} {a : As} {tm : Tr Value} {df : List Deferred} {kd : CallKind} {ro : Option Nat} {cs : List Fr} {h : Hp} {todo : List It} {s' : St}
    (hx : ∀ o, ro = o → execX E fn nt (a.on tm) todo df kd ro cs h = leaveX E ⟨fn, nt, a.on tm, todo, df, .run, kd, ro⟩ cs h none ∨ execX E fn nt (a.on tm) todo df kd ro cs h = leaveX E ⟨fn, nt, a.on tm, todo, df, .run, kd, ro⟩ cs h (some .ret))
    (e : retQ E fn a tm df kd ro cs h (execX E fn nt (a.on tm) todo df kd ro cs h) = some s') : Runs E ⟨⟨fn, nt, a.on tm, todo, df, .run, kd, ro⟩, cs, h⟩ s' := by
  have other : execX E fn nt (a.on tm) todo df kd ro cs h = some s' → Runs E ⟨⟨fn, nt, a.on tm, todo, df, .run, kd, ro⟩, cs, h⟩ s' := fun e => Runs.step e (.refl _ _)
  unfold retQ at e
  cases ro with
  | some o => exact other e
  | none =>
    cases df with
    | cons d ds => exact other e
    | nil =>
      cases cs with
      | nil => exact other e
      | cons c r =>
        have h1 : execX E fn nt (a.on tm) todo [] kd none (c :: r) h = some ⟨⟨fn, nt, a.on tm, todo, [], .returning, kd, none⟩, c :: r, h⟩ := by
          rcases hx _ rfl with q | q <;> rw [q] <;> rfl
        refine Runs.step h1 (Runs.step ?_ (.refl _ _))
        simp only [resultsQ_eq] at e
        exact e

theorem step_runs {E : Env} {s s' : St} (e : stepQ E s = some s') : Runs E s s' := by
  obtain ⟨⟨fn, nt, tm, todo, df, md, kd, ro⟩, cs, h⟩ := s
  cases md with
  | run =>
    have hr := frame_runs (E := E) (fn := fn) (nt := nt) (tm := tm) (df := df) (kd := kd) (ro := ro) (cs := cs) 60 todo .nil h
    simp only [stepQ] at e
    generalize frameQ E nt tm 60 todo .nil h = r at hr e
    obtain ⟨todo', a, h'⟩ := r
    refine hr.trans ?_
    simp only at e
    cases todo' with
    | nil => exact ret_runs (fun _ _ => .inl rfl) e
    | cons i k =>
      cases i with
      | code c =>
        cases c with
        | ret => exact ret_runs (fun _ _ => .inr rfl) e
        | _ => exact Runs.step e (.refl _ _)
      | _ => exact Runs.step e (.refl _ _)
  | returning => exact Runs.step e (.refl _ _)
  | panicking c => exact Runs.step e (.refl _ _)
theorem run_runs {E : Env} : ∀ (n : Nat) (s : St), Runs E s (runQ E n s)
  | 0, s => .refl _ _
  | n + 1, s => by
    have hq : runQ E (n + 1) s = (match stepQ E s with | some s' => runQ E n s' | none => s) := rfl
    rw [hq]
    cases e : stepQ E s with
    | none => exact .refl _ _
    | some s' => exact (step_runs e).trans (run_runs n s')

theorem truthQ_from {E : Env} {f : FuncId} {n : Nat} {h : Hp} (e : truthQ E f n h = true) : ∃ m, truthFrom E f m h = true := by
  unfold truthQ at e
  split at e
  · rename_i s hs
    obtain ⟨m, hm⟩ := run_runs (E := E) n s
    refine ⟨m, ?_⟩
    unfold truthFrom
    rw [hs]
    simp only [hm]
    exact e
  · cases e
theorem truthQ_X {E : Env} {f : FuncId} {n : Nat} (e : truthQ E f n Hp.empty = true) : ∃ m, truthX E f m = true := by
  obtain ⟨m, hm⟩ := truthQ_from e
  exact ⟨m, hm⟩

end Go.X

namespace Go.X

noncomputable section

/-! What may come next of a range over a map -/

def leftX (es : List MapEntry) (seen : List Nat) : List MapEntry := es.filter fun e => !memN e.born seen
def oldX (es : List MapEntry) (seen : List Nat) (since : Nat) : List MapEntry := (leftX es seen).filter fun e => Nat.blt e.born since
def newX (es : List MapEntry) (seen : List Nat) (since : Nat) : List MapEntry := (leftX es seen).filter fun e => !Nat.blt e.born since
def preX : List MapEntry → List (Option MapEntry)
  | [] => [none]
  | _ :: _ => []
def candX (es : List MapEntry) (seen : List Nat) (since : Nat) : List (Option MapEntry) :=
  preX (oldX es seen since) ++ (oldX es seen since ++ newX es seen since).map some
def noneL {α : Type} : List α → Bool
  | [] => true
  | _ :: _ => false
def lastOk (es : List MapEntry) (seen : List Nat) (last : Nat) : Bool := !(!noneL seen && !noneL es && es.all fun e => Nat.ble last e.born)

def nextC (r m since : Nat) (seen : List Nat) (cl : Nat) (h : Hp) : Option MapEntry → Nx
  | some e => .value (.tuple #[.bool true, e.key, e.val]) (h.put r (.iter (some m) since (seen ++ [e.born]) cl))
  | none => .value (.tuple #[.bool false]) h

/-- What an operation of a range over a map may lead to. -/
def candsOf (tm : Tr Value) (h : Hp) (o : Oper) : Option (List Nx) :=
  match o.op with
  | .next it false => (match ev tm it with
    | .pointer (some ⟨r, 0, none⟩) => (match h.get r with
      | some (.iter (some m) since seen last) => (match h.get m with
        | some (.map es cl) => cond (lastOk es seen last) (some ((candX es seen since).map (nextC r m since seen cl h))) none
        | _ => none)
      | _ => none)
    | _ => none)
  | .entry it => (match ev tm it with
    | .pointer (some ⟨r, 0, none⟩) => (match h.get r with
      | some (.iter (some m) _ seen last) => (match h.get m, seen.getLast? with
        | some (.map es cl), some stamp => cond (Nat.beq cl last) (match es.find? (fun e => Nat.beq e.born stamp) with
          | some e => some [.value (.tuple #[e.key, e.val]) h]
          | none => none) none
        | _, _ => none)
      | _ => none)
    | _ => none)
  | _ => none

/-- Does a state stand at a range over a map? What may come next. -/
def atNext (s : St) : Option (List Nx) :=
  match s with
  | ⟨⟨_, _, tm, .inRegion ops (i :: _) :: _, _, .run, _, _⟩, _, h⟩ => (match ops[i]? with
    | some o => (match wantedX ops tm o with
      | some true => candsOf tm h o
      | _ => none)
    | none => none)
  | _ => none

def stepN (E : Env) (n : Nx) (s : St) : Option St :=
  match s with
  | ⟨fr, cs, h⟩ => nextX E fr cs h n

def goodX (E : Env) (f : FuncId) (s : St) : Bool := match endX E f s with
  | some (.bool b) => b
  | _ => false

/-- Where X stands still. -/
def haltQ (E : Env) (s : St) : St :=
  match s with
  | ⟨⟨fn, nt, tm, todo, df, md, kd, ro⟩, cs, h⟩ => (match md with
    | .run => (match frameQ E nt tm 60 todo .nil h with
      | ⟨todo', a, h'⟩ => ⟨⟨fn, nt, a.on tm, todo', df, .run, kd, ro⟩, cs, h'⟩)
    | md => ⟨⟨fn, nt, tm, todo, df, md, kd, ro⟩, cs, h⟩)

/-- Whatever is chosen, so many times at most, it ends and answers true. -/
def runAll (E : Env) (f : FuncId) (N : Nat) : Nat → St → Bool
  | 0, s => goodX E f (runQ E N s)
  | n + 1, s => (match haltQ E (runQ E N s) with
    | ⟨fr, cs, h⟩ => (match atNext ⟨fr, cs, h⟩ with
      | none => goodX E f ⟨fr, cs, h⟩
      | some l => !noneL l && l.all fun q => match stepN E q ⟨fr, cs, h⟩ with | some s' => runAll E f N n s' | none => false))

def allFrom (E : Env) (f : FuncId) (N n : Nat) (h : Hp) : Bool :=
  match startX E f [] h with
  | some s => runAll E f N n s
  | none => false

end

theorem memN_contains (b : Nat) : ∀ l : List Nat, l.contains b = memN b l
  | [] => rfl
  | x :: r => by
    rw [List.contains_cons, memN, memN_contains b r]
    cases h : Nat.beq b x with
    | true => rw [Nat.eq_of_beq_eq_true h]; simp
    | false =>
      have : (b == x) = false := by
        cases hb : (b == x) with
        | false => rfl
        | true => have e := eq_of_beq hb; subst e; rw [Nat.beq_refl] at h; cases h
      rw [this]; rfl

section
variable {M : Mp}

theorem EsRel.cons_iff {e e' : MapEntry} {l m : List MapEntry} : EsRel M (e :: l) (e' :: m) ↔ ERel M e e' ∧ EsRel M l m := by
  constructor
  · rintro ⟨h1, h2⟩
    exact ⟨h2 0 e e' rfl rfl, by simpa using h1, fun i a b ha hb => h2 (i + 1) a b (by simpa using ha) (by simpa using hb)⟩
  · rintro ⟨h1, h2, h3⟩
    refine ⟨by simp [h2], fun i a b ha hb => ?_⟩
    cases i with
    | zero => simp at ha hb; subst ha; subst hb; exact h1
    | succ i => exact h3 i a b (by simpa using ha) (by simpa using hb)

theorem EsRel.filter (p : Nat → Bool) : ∀ {l m : List MapEntry}, EsRel M l m → EsRel M (l.filter fun e => p e.born) (m.filter fun e => p e.born)
  | [], [], _ => ⟨rfl, fun i a b ha hb => by simp at ha⟩
  | [], _ :: _, h => by have := h.1; simp at this
  | _ :: _, [], h => by have := h.1; simp at this
  | e :: l, e' :: m, h => by
    obtain ⟨h1, h2⟩ := EsRel.cons_iff.1 h
    have ih := EsRel.filter p h2
    have hb : e'.born = e.born := h1.2.2
    simp only [List.filter_cons, hb]
    split
    · exact EsRel.cons_iff.2 ⟨h1, ih⟩
    · exact ih

theorem EsRel.append : ∀ {a b c d : List MapEntry}, EsRel M a b → EsRel M c d → EsRel M (a ++ c) (b ++ d)
  | [], [], _, _, _, k => k
  | [], _ :: _, _, _, h, _ => by have := h.1; simp at this
  | _ :: _, [], _, _, h, _ => by have := h.1; simp at this
  | _ :: _, _ :: _, _, _, h, k => EsRel.cons_iff.2 ⟨(EsRel.cons_iff.1 h).1, EsRel.append (EsRel.cons_iff.1 h).2 k⟩

theorem EsRel.all (p : Nat → Bool) : ∀ {l m : List MapEntry}, EsRel M l m → (m.all fun e => p e.born) = l.all fun e => p e.born
  | [], [], _ => rfl
  | [], _ :: _, h => by have := h.1; simp at this
  | _ :: _, [], h => by have := h.1; simp at this
  | e :: l, e' :: m, h => by
    obtain ⟨h1, h2⟩ := EsRel.cons_iff.1 h
    rw [List.all_cons, List.all_cons, EsRel.all p h2, h1.2.2]

theorem EsRel.none {l m : List MapEntry} (h : EsRel M l m) : noneL m = noneL l := by
  match l, m, h with
  | [], [], _ => rfl
  | [], _ :: _, h => have := h.1; simp at this
  | _ :: _, [], h => have := h.1; simp at this
  | _ :: _, _ :: _, _ => rfl
end

theorem noneL_empty {α : Type} (l : Array α) : l.isEmpty = noneL l.toList := by
  obtain ⟨l⟩ := l
  cases l <;> simp [noneL]

/-- The model's candidates. -/
def candM (es : Array MapEntry) (seen : Array Nat) (since : Nat) : Array (Option MapEntry) :=
  (if ((es.filter fun e => !seen.contains e.born).filter fun e => decide (e.born < since)).isEmpty then #[none] else #[]) ++
    (((es.filter fun e => !seen.contains e.born).filter fun e => decide (e.born < since)) ++ ((es.filter fun e => !seen.contains e.born).filter fun e => decide (e.born ≥ since))).map some

section
variable {W : World} {B : Nat → Prop} {E : Env} {M : Mp} {h : Hp} {w : World} {lo : Nat} {cs0 : List Frame}

theorem cand_rel {es : List MapEntry} {es' : Array MapEntry} (he : EsRel M es es'.toList) (seen : List Nat) (since : Nat) :
    (candM es' seen.toArray since).size = (candX es seen since).length ∧
    ∀ (c : Nat) (x : Option MapEntry), (candX es seen since)[c]? = some x → (match (x : Option MapEntry) with
      | none => (candM es' seen.toArray since)[c]? = some none
      | some e => ∃ e', (candM es' seen.toArray since)[c]? = some (some e') ∧ ERel M e e') := by
  have hleft : EsRel M (leftX es seen) (es'.toList.filter fun e => !seen.toArray.contains e.born) := by
    have h1 := he.filter fun n => !memN n seen
    have h2 : (fun e : MapEntry => !seen.toArray.contains e.born) = fun e => !memN e.born seen := by
      funext e; rw [← memN_contains]; simp
    rw [h2]; exact h1
  have hold : EsRel M (oldX es seen since) ((es'.toList.filter fun e => !seen.toArray.contains e.born).filter fun e => decide (e.born < since)) := by
    have h1 := hleft.filter fun n => Nat.blt n since
    have h2 : (fun e : MapEntry => decide (e.born < since)) = fun e => Nat.blt e.born since := by
      funext e
      cases hb : Nat.blt e.born since with
      | true => exact decide_eq_true ((blt_iff _ _).1 hb)
      | false => exact decide_eq_false fun hlt => by rw [(blt_iff _ _).2 hlt] at hb; cases hb
    rw [h2]; exact h1
  have hnew : EsRel M (newX es seen since) ((es'.toList.filter fun e => !seen.toArray.contains e.born).filter fun e => decide (e.born ≥ since)) := by
    have h1 := hleft.filter fun n => !Nat.blt n since
    have h2 : (fun e : MapEntry => decide (e.born ≥ since)) = fun e => !Nat.blt e.born since := by
      funext e
      cases hb : Nat.blt e.born since with
      | true => exact decide_eq_false fun hge => by have := (blt_iff _ _).1 hb; omega
      | false => exact decide_eq_true (by
          rcases Nat.lt_or_ge e.born since with hlt | hge
          · rw [(blt_iff _ _).2 hlt] at hb; cases hb
          · exact hge)
    rw [h2]; exact h1
  have hbody := hold.append hnew
  have hM : (candM es' seen.toArray since).toList = preX ((es'.toList.filter fun e => !seen.toArray.contains e.born).filter fun e => decide (e.born < since)) ++
      ((((es'.toList.filter fun e => !seen.toArray.contains e.born).filter fun e => decide (e.born < since))) ++ ((es'.toList.filter fun e => !seen.toArray.contains e.born).filter fun e => decide (e.born ≥ since))).map some := by
    unfold candM
    rw [noneL_empty]
    simp only [Array.toList_append, Array.toList_map, Array.toList_filter]
    congr 1
    generalize (List.filter (fun e => decide (e.born < since)) (List.filter (fun e => !seen.toArray.contains e.born) es'.toList)) = q
    cases q <;> rfl
  have hsz : (candM es' seen.toArray since).size = (candM es' seen.toArray since).toList.length := (Array.length_toList).symm
  have hget : ∀ c : Nat, (candM es' seen.toArray since)[c]? = (candM es' seen.toArray since).toList[c]? := fun c => (Array.getElem?_toList).symm
  rw [hsz]
  simp only [hget]
  rw [hM]
  unfold candX
  generalize (List.filter (fun e => decide (e.born < since)) (List.filter (fun e => !seen.toArray.contains e.born) es'.toList)) = o' at hold hbody
  generalize (List.filter (fun e => decide (e.born ≥ since)) (List.filter (fun e => !seen.toArray.contains e.born) es'.toList)) = n' at hbody
  generalize oldX es seen since = o at hold hbody
  generalize newX es seen since = n at hbody
  have hpre : preX o' = preX o := by
    match o, o', hold with
    | [], [], _ => rfl
    | [], _ :: _, h => have := h.1; simp at this
    | _ :: _, [], h => have := h.1; simp at this
    | _ :: _, _ :: _, _ => rfl
  rw [hpre]
  have hpn : ∀ x, x ∈ preX o → x = none := by
    intro x hx
    match o, hx with
    | [], hx => simpa [preX] using hx
    | _ :: _, hx => cases hx
  generalize preX o = pre at *
  refine ⟨by simp only [List.length_append, List.length_map]; have := hbody.1; simp only [List.length_append] at this; omega, fun c x hx => ?_⟩
  by_cases hc : c < pre.length
  · rw [List.getElem?_append_left hc] at hx
    have := hpn x (List.mem_of_getElem? hx)
    subst this
    rw [List.getElem?_append_left hc]; exact hx
  · rw [List.getElem?_append_right (by omega), List.getElem?_map, Option.map_eq_some_iff] at hx
    obtain ⟨e, hx, rfl⟩ := hx
    simp only
    rw [List.getElem?_append_right (by omega), List.getElem?_map]
    have hlt : c - pre.length < (o' ++ n').length := by rw [← hbody.1]; exact (List.getElem?_eq_some_iff.1 hx).1
    have h1 : (o' ++ n')[c - pre.length]? = some (o' ++ n')[c - pre.length] := List.getElem?_eq_getElem hlt
    rw [h1]
    exact ⟨_, rfl, hbody.2 _ _ _ hx h1⟩

/-- The model asks which one comes next. -/
theorem choose_next (P : Program) (H : HRel W B M h w) (n : Nat) (hn : 0 < n) : ∃ c w1, (choose (.mapNext n)).run P w = .ok c w1 ∧ HRel W B M h w1 ∧ w1.heap = w.heap ∧ c < n := by
  by_cases hf : (Question.mapNext n).forced = true
  · exact ⟨0, w, by simp [choose, Sem.run, hf], H, rfl, hn⟩
  · refine ⟨(Question.mapNext n).cut (w.tape w.drawn (.mapNext n)), { w with drawn := w.drawn + 1 }, by simp [choose, Sem.run, hf], World.drew_HRel H _ (Nat.le_succ _), rfl, Nat.mod_lt _ hn⟩

theorem next_run (P : Program) (r since last cl : Nat) (seen : Array Nat) (m : Nat) (es : Array MapEntry) (ty : TypeId) (hr : (getObj r).run P w = .ok (.mapIter (some m) since seen last) w) (hm : (getObj m).run P w = .ok (.map es cl) w)
    (hok : (!seen.isEmpty && !es.isEmpty && es.all fun e => decide (e.born ≥ last)) = false) :
    (Instr.next (.pointer (some ⟨r, 0, none⟩)) false ty).run P w =
      ((choose (.mapNext (candM es seen since).size)).run P w).andThen fun c w1 => ((match (candM es seen since)[c]? with
        | some (some e) => (do setObj r (.mapIter (some m) since (seen.push e.born) cl); pure (.tuple #[.bool true, e.key, e.val]) : Sem Value)
        | some none => pure (.tuple #[.bool false])
        | none => stuck "Next: no such candidate") : Sem Value).run P w1 := by
  unfold Instr.next
  simp only [Sem.run_bind, hr, Result.andThen_ok, hm, hok]
  simp only [Bool.false_eq_true, if_false, Sem.run_bind]
  unfold candM
  rfl

theorem find_rel : ∀ {es m : List MapEntry} (stamp : Nat), EsRel M es m → (match es.find? (fun e => Nat.beq e.born stamp) with
    | some e => ∃ e', m.find? (fun e => e.born == stamp) = some e' ∧ ERel M e e'
    | none => True)
  | [], _, _, _ => trivial
  | _ :: _, [], _, h => by have := h.1; simp at this
  | e :: l, e' :: m, stamp, h => by
    obtain ⟨h1, h2⟩ := EsRel.cons_iff.1 h
    have hb : e'.born = e.born := h1.2.2
    rw [List.find?_cons, List.find?_cons, hb]
    cases hq : Nat.beq e.born stamp with
    | true =>
      have : (e.born == stamp) = true := by rw [Nat.eq_of_beq_eq_true hq]; simp
      rw [this]
      exact ⟨e', rfl, h1⟩
    | false =>
      have : (e.born == stamp) = false := by
        cases hb : (e.born == stamp) with
        | false => rfl
        | true => have e := eq_of_beq hb; rw [e, Nat.beq_refl] at hq; cases hq
      rw [this]
      exact find_rel stamp h2

/-- One of the ways is the model's. -/
theorem cand_ok {tm : Tr Value} {o : Oper} {ρ : Operand → Value} {l : List Nx} (H : HRel W B M h w) (hE : ∀ x, x ∈ o.op.operands → VRel M (ev tm x) (ρ x)) (hq : candsOf tm h o = some l) (hn : noneL l = false) :
    ∃ n, n ∈ l ∧ NxOk W B E M h w n ((execOp ρ o).run E.P w) := by
  obtain ⟨dst, op, ty, pos, after, guard⟩ := o
  unfold candsOf at hq
  simp only at hq hE
  split at hq
  case h_3 => cases hq
  · rename_i it
    have hv := hE it (by simp [Op.operands])
    have hexec : execOp ρ ⟨dst, .next it false, ty, pos, after, guard⟩ = (do pure (.value (← Instr.next (ρ it) false ty)) : Sem Next) := rfl
    rw [hexec]
    generalize ρ it = v' at hv
    split at hq
    case h_2 => cases hq
    rename_i r hit
    rw [hit] at hv
    cases hv with
    | ptr hp =>
    rename_i p'
    split at hq
    case h_2 => cases hq
    rename_i m since seen last hg
    split at hq
    case h_2 => cases hq
    rename_i es cl hm
    replace hq := cond_some hq
    obtain ⟨hl, hq⟩ := hq
    cases hq
    have hn : 0 < (candX es seen since).length := by
      cases hc : candX es seen since with
      | nil => rw [hc] at hn; cases hn
      | cons a b => simp
    obtain ⟨b, δ, S, x, hρ, hx, hδ, m', rfl, him⟩ := H.place hp.1 hg (by simp)
    subst hδ
    have ep := hp.2 b 0 S hρ
    simp only [Nat.zero_add] at ep
    subst ep
    obtain ⟨Sm, es', hρm, hxm, he, hgm⟩ := map_place (E := E) H him hm
    have hgr : (getObj b).run E.P w = .ok (.mapIter (some m') since seen.toArray last) w := by simp [getObj, Sem.run, hx]
    have hok : (!seen.toArray.isEmpty && !es'.isEmpty && es'.all fun e => decide (e.born ≥ last)) = false := by
      unfold lastOk at hl
      rw [Bool.not_eq_true'] at hl
      rw [noneL_empty, noneL_empty, he.none]
      have h1 : (es'.all fun e => decide (e.born ≥ last)) = es.all fun e => Nat.ble last e.born := by
        rw [← Array.all_toList]
        rw [he.all (fun n => decide (n ≥ last))]
        congr 1
        funext e
        cases hb : Nat.ble last e.born with
        | true => exact decide_eq_true ((ble_iff _ _).1 hb)
        | false => exact decide_eq_false fun hge => by rw [(ble_iff _ _).2 hge] at hb; cases hb
      rw [h1]
      exact hl
    obtain ⟨hsz, hcand⟩ := cand_rel he seen since
    obtain ⟨c, w1, hch, H1, hw1, hc⟩ := choose_next E.P H (candM es' seen.toArray since).size (by rw [hsz]; exact hn)
    have hrun := next_run E.P b since last cl seen.toArray m' es' ty hgr hgm hok
    rw [hch, Result.andThen_ok] at hrun
    rw [hsz] at hc
    have hcx : (candX es seen since)[c]? = some (candX es seen since)[c] := by simp [hc]
    refine ⟨nextC r m since seen cl h (candX es seen since)[c], List.mem_map_of_mem (List.mem_of_getElem? hcx), ?_⟩
    generalize (candX es seen since)[c] = x at hcx
    cases x with
    | some e =>
      obtain ⟨e', hce', hee⟩ := hcand c _ hcx
      rw [hce'] at hrun
      simp only at hrun
      have hx1 : w1.heap[b]? = some (.mapIter (some m') since seen.toArray last) := by rw [hw1]; exact hx
      have hb' : e'.born = e.born := hee.2.2
      obtain ⟨p1, p2, p3⟩ := HRel.setObj (E := E) H1 (o := .iter (some m) since (seen ++ [e.born]) cl) (x := .mapIter (some m') since (seen.toArray.push e'.born) cl) hρ hx1 (by intro c e f hh; cases hh) ⟨rfl, m', by rw [hb']; simp, him⟩
      refine ⟨.tuple #[.bool true, e'.key, e'.val], _, M, ?_, Ev.refl M, p2, p3, .tuple' (.cons (.bool _) (.cons hee.1 (.cons hee.2.1 (.nil M))))⟩
      rw [Sem.run_bind, hrun]
      simp only [Sem.run_bind, p1, Result.andThen_ok, Sem.run_pure]
    | none =>
      have hce' := hcand c _ hcx
      simp only at hce'
      rw [hce'] at hrun
      simp only at hrun
      refine ⟨.tuple #[.bool false], w1, M, ?_, Ev.refl M, H1, Keep.refl _ _ _, .tuple' (.cons (.bool _) (.nil M))⟩
      rw [Sem.run_bind, hrun]
      simp
  · rename_i it
    have hv := hE it (by simp [Op.operands])
    have hexec : execOp ρ ⟨dst, .entry it, ty, pos, after, guard⟩ = (do pure (.value (← Instr.entry (ρ it))) : Sem Next) := rfl
    rw [hexec]
    generalize ρ it = v' at hv
    split at hq
    case h_2 => cases hq
    rename_i r hit
    rw [hit] at hv
    cases hv with
    | ptr hp =>
    rename_i p'
    split at hq
    case h_2 => cases hq
    rename_i m since seen last hg
    split at hq
    case h_2 => cases hq
    rename_i es cl stamp hm hst
    replace hq := cond_some hq
    obtain ⟨hl, hq⟩ := hq
    split at hq
    case h_2 => cases hq
    rename_i e hfind
    cases hq
    have hl := Nat.eq_of_beq_eq_true hl
    subst hl
    obtain ⟨b, δ, S, x, hρ, hx, hδ, m', rfl, him⟩ := H.place hp.1 hg (by simp)
    subst hδ
    have ep := hp.2 b 0 S hρ
    simp only [Nat.zero_add] at ep
    subst ep
    obtain ⟨Sm, es', hρm, hxm, he, hgm⟩ := map_place (E := E) H him hm
    have hgr : (getObj b).run E.P w = .ok (.mapIter (some m') since seen.toArray cl) w := by simp [getObj, Sem.run, hx]
    have hf := find_rel stamp he
    rw [hfind] at hf
    obtain ⟨e', hfe, hee⟩ := hf
    have hback : seen.toArray.back? = some stamp := by rw [List.back?_toArray]; exact hst
    have hfa : es'.find? (fun e => e.born == stamp) = some e' := by rw [← Array.find?_toList]; exact hfe
    refine ⟨_, List.mem_cons_self, .tuple #[e'.key, e'.val], w, M, ?_, Ev.refl M, H, Keep.refl _ _ _, .tuple' (.cons hee.1 (.cons hee.2.1 (.nil M)))⟩
    unfold Instr.entry
    simp [hgr, hback, hgm, hfa]

theorem stepN_sim [hB : FactX (B W.heap.size → E.q = true)] {s : St} {m : Machine} {l : List Nx} (R : Sim W B E cs0 s m) (hq : atNext s = some l) (hn : noneL l = false) :
    ∃ n, n ∈ l ∧ ∀ s', stepN E n s = some s' → ∃ m', Steps E.P m m' ∧ Sim W B E cs0 s' m' := by
  obtain ⟨M, lo, fr', cs', w, rfl, H, hlo, T, S⟩ := R
  unfold atNext at hq
  split at hq
  case h_2 => cases hq
  rename_i fn nt tm ops i rest k df kd ro cs h
  obtain ⟨fn', tmps, todo', df', md', kd', ro'⟩ := fr'
  obtain ⟨h1, h2, h3, h4, h5, h6⟩ := T
  simp only at h1 h2 h3 h4 h5 h6 H hlo S
  subst h1; subst h2
  cases md' <;> simp only [MdRel] at h5
  split at hq
  case h_2 => cases hq
  rename_i o ho
  split at hq
  case h_2 => cases hq
  rename_i hw
  obtain ⟨hk, T, hs⟩ := h6
  cases hk with
  | cons hi ht =>
  cases hi with
  | inRegion _ _ hc =>
  have hop : ∀ cl, o.op = .defer cl → False := by
    intro cl e
    unfold candsOf at hq
    rw [e] at hq
    cases hq
  have hE := const_rel M H.glob hc ho df' fun t _ => T t
  obtain ⟨n, hnl, hok⟩ := cand_ok (E := E) H hE hq hn
  refine ⟨n, hnl, fun s' hs' => ?_⟩
  unfold stepN at hs'
  simp only at hs'
  have hsem := sem_at (E := E) (M := M) (h := h) (ρ := (Act.mk tmps df').eval) (o := o) h3 hs' (fun cl e => (hop cl e).elim)
  obtain ⟨m', h1, h2⟩ := next_sim (fr := ⟨fn', nt, tm, .inRegion ops (i :: rest) :: k, df, .run, kd', ro⟩) (b := ⟨fn', tmps, [], df', .run, kd', ro'⟩) (tmps := tmps) (df := df') (rest := rest) H hlo ⟨rfl, rfl, h3, h4, trivial, ⟨.cons (.inRegion ops (i :: rest) hc) ht, T, hs⟩⟩ S hs' ho (wanted_plain T hw) (hsem ▸ hok)
  exact ⟨m', h1, h2⟩

theorem halt_runs (E : Env) (s : St) : Runs E s (haltQ E s) := by
  obtain ⟨⟨fn, nt, tm, todo, df, md, kd, ro⟩, cs, h⟩ := s
  cases md with
  | run => exact frame_runs (E := E) (fn := fn) (nt := nt) (tm := tm) (df := df) (kd := kd) (ro := ro) (cs := cs) 60 todo .nil h
  | _ => exact .refl _ _

theorem runAll_sim [hB : FactX (B W.heap.size → E.q = true)] (hm : E.P.follows .mixedOrders = true) {f : FuncId} {N : Nat} : ∀ (n : Nat) {s : St} {m : Machine}, Sim W B E cs0 s m → runAll E f N n s = true →
    ∃ s' m', Steps E.P m m' ∧ Sim W B E cs0 s' m' ∧ goodX E f s' = true
  | 0, s, m, R, h => by
    obtain ⟨k, hk⟩ := run_runs (E := E) N s
    obtain ⟨m', S', R'⟩ := run_sim hm k R
    rw [hk] at R'
    exact ⟨_, m', S', R', h⟩
  | n + 1, s, m, R, h => by
    obtain ⟨k, hk⟩ := (run_runs (E := E) N s).trans (halt_runs E _)
    obtain ⟨m', S', R'⟩ := run_sim hm k R
    rw [hk] at R'
    unfold runAll at h
    generalize haltQ E (runQ E N s) = s1 at h R'
    obtain ⟨fr, cs, hp⟩ := s1
    simp only at h
    split at h
    · exact ⟨_, m', S', R', h⟩
    · rename_i l hq
      rw [Bool.and_eq_true, Bool.not_eq_true'] at h
      obtain ⟨c, hc, hall⟩ := stepN_sim R' hq h.1
      have h2 := List.all_eq_true.1 h.2 c hc
      split at h2
      · rename_i s2 hs2
        obtain ⟨m2, S2, R2⟩ := hall s2 hs2
        obtain ⟨s3, m3, S3, R3, hg⟩ := runAll_sim hm n R2 h2
        exact ⟨s3, m3, (S'.trans S2).trans S3, R3, hg⟩
      · cases h2

/-- Where every run comes to true, whatever the tape and the orders: the call answers true, and what lay in the world lies there still. -/
theorem good_calls (E : Env) {f : FuncId} {M0 : Mp} {h0 : Hp} {w : World} {s0 : St} (H0 : HRel w (fun _ => False) M0 h0 w) (hs : startX E f [] h0 = some s0)
    (hrun : ∀ cs0 m, Sim w (fun _ => False) E cs0 s0 m → ∃ s' m', Steps E.P m m' ∧ Sim w (fun _ => False) E cs0 s' m' ∧ goodX E f s' = true) :
    Calls E.P f #[] w fun e w' => e = .returned (.bool true) ∧ RowKit.Below w.heap.size w w' := by
  intro cs0
  unfold startX at hs
  split at hs
  · rename_i fr hfr
    cases hs
    have R0 : Sim w (fun _ => False) E cs0 ⟨fr, [], h0⟩ (lone (Frame.enter E.P f #[] .normal) cs0 w) :=
      ⟨M0, 0, _, cs0, w, rfl, H0, Nat.zero_le _, enter_sim (args := #[]) (.nil _) (by simpa using hfr) h0 0, rfl⟩
    obtain ⟨s, m', St, ⟨M, lo, fr', cs', w', rfl, H, hlo, T, S⟩, hg⟩ := hrun cs0 _ R0
    unfold goodX at hg
    split at hg
    · rename_i bb he
      subst hg
      unfold endX at he
      split at he
      · rename_i fn nt tm todo ro h
        cases hfn : Nat.beq fn f with
        | false => rw [hfn, cond_false] at he; cases he
        | true =>
          rw [hfn, cond_true] at he
          have e := (beq_iff _ _).1 hfn
          subst e
          split at he
          · rename_i fu hfu
            split at he
            · rename_i vs hvs
              obtain ⟨fn', tmps, todo', df', md', kd', ro'⟩ := fr'
              obtain ⟨h1, h2, h3, h4, h5, h6⟩ := T
              simp only at h1 h2 h3 h4 h5 h6 H S
              subst h1; subst h2
              cases md' <;> simp only [MdRel] at h5
              cases df' with
              | cons d l => exact h4.elim
              | nil =>
                obtain ⟨v', hr, hv⟩ := results_sound H hfu hvs h6
                have hv' : v' = .bool true := by
                  have hone : oneOf vs = .bool true := Option.some.inj he
                  rw [hone] at hv; exact plain_eq 20 rfl hv
                subst hv'
                have hcs : cs' = cs0 := S
                subst hcs
                exact ⟨.returned (.bool true), w', _, ⟨rfl, ⟨H.os, H.tape.1, H.output, H.size, fun b hb => H.old b hb (fun h => h)⟩⟩, St, rfl, rfl, rfl, rfl, fu, E.hfn _ fu hfu, hr⟩
            · cases he
          · cases he
      · cases he
    · cases hg
  · cases hs

/-- Whatever the tape and the orders: it answers true, and what lay in the world lies there still. -/
theorem all_calls (E : Env) (hm : E.P.follows .mixedOrders = true) {f : FuncId} {N n : Nat} {M0 : Mp} {h0 : Hp} {w : World} (H0 : HRel w (fun _ => False) M0 h0 w) (ht : allFrom E f N n h0 = true) :
    Calls E.P f #[] w fun e w' => e = .returned (.bool true) ∧ RowKit.Below w.heap.size w w' := by
  unfold allFrom at ht
  split at ht
  · rename_i s0 hs
    haveI : FactX ((fun _ : Nat => False) w.heap.size → E.q = true) := ⟨fun h => h.elim⟩
    exact good_calls E H0 hs fun cs0 m R => runAll_sim hm n R ht
  · cases ht

theorem tab_all_below (E : Env) (hm : E.P.follows .mixedOrders = true) {f : FuncId} {N n : Nat} {w : World} {g : Nat} {cs : Array Value} {e : TypeId} {fr : Nat × Nat} (hg : w.heap[g]? = some (.cells cs e fr)) (hp : ∀ v, v ∈ cs.toList → plainV 4 v = true) (h255 : g ≤ 255)
    (ht : allFrom E f N n (tabHp g cs.toList e) = true) : Calls E.P f #[] w fun e w' => e = .returned (.bool true) ∧ RowKit.Below w.heap.size w w' :=
  all_calls E hm (HRel.tab hg hp h255) ht

end
end Go.X

namespace Go.X
open Go.Conc

noncomputable section

/-- What a communication comes to. -/
def commOf (E : Env) (tm : Tr Value) (h : Hp) (o : Oper) : Option (Value × Hp) :=
  match o.op with
  | .send ch x => (match ev tm ch with
    | .chan (some (k + 1)) => (match h.get k with
      | some (.chan cap buf s r) => cond (Nat.blt buf.length cap) (some (undef, h.put k (.chan cap (buf ++ [ev tm x]) (s + 1) r))) none
      | _ => none)
    | _ => none)
  | .recv t ch ok => (match E.und t, ev tm ch with
    | some (.chan _ e), .chan (some (k + 1)) => (match E.zero e, h.get k with
      | some _, some (.chan cap (v :: buf) s r) => some (cond ok (.tuple #[v, .bool true]) v, h.put k (.chan cap buf s (r + 1)))
      | _, _ => none)
    | _, _ => none)
  | .select cases blocking => (match blocking, cases.toList with
    | false, [⟨ch, none, e⟩] => (match ev tm ch with
      | .chan (some (k + 1)) => (match E.zero e, h.get k with
        | some _, some (.chan cap (v :: buf) s r) => some (.tuple #[.int .i64 0, .bool true, v], h.put k (.chan cap buf s (r + 1)))
        | some z, some (.chan _ [] _ _) => some (.tuple #[.int .i64 (-1), .bool false, z], h)
        | _, _ => none)
      | _ => none)
    | _, _ => none)
  | _ => none

/-- Does a state stand at a communication? -/
def atComm (E : Env) (s : St) : Option (Value × Hp) :=
  match s with
  | ⟨⟨_, _, tm, .inRegion ops (i :: _) :: _, _, .run, _, _⟩, _, h⟩ => (match ops[i]? with
    | some o => (match wantedX ops tm o with
      | some true => commOf E tm h o
      | _ => none)
    | none => none)
  | _ => none

/-- Whatever is chosen, so many times at most, it ends and answers true; communications are gone through. -/
def runEach (E : Env) (f : FuncId) (N : Nat) : Nat → St → Bool
  | 0, s => goodX E f (runQ E N s)
  | n + 1, s => (match haltQ E (runQ E N s) with
    | ⟨fr, cs, h⟩ => (match atComm E ⟨fr, cs, h⟩ with
      | some (v, h') => (match finishX E fr v with
        | some fr' => runEach E f N n ⟨fr', cs, h'⟩
        | none => false)
      | none => (match atNext ⟨fr, cs, h⟩ with
        | none => goodX E f ⟨fr, cs, h⟩
        | some l => !noneL l && l.all fun q => match stepN E q ⟨fr, cs, h⟩ with | some s' => runEach E f N n s' | none => false)))

def eachFrom (E : Env) (f : FuncId) (N n : Nat) (h : Hp) : Bool :=
  match startX E f [] h with
  | some s => runEach E f N n s
  | none => false

end

section
variable {P : Program} {b : Frame} {tmps : Array Value} {df : List Deferred} {ops : Array Oper} {i : Nat} {o : Oper} {rest : List Nat} {k : List Item} {cs : List Frame} {w w' : World}

theorem stepG_comm {cases : Array CommCase} {blocking : Bool} {shape : CommShape} (ho : ops[i]? = some o) (hw : Region.wanted o (yielded ops tmps) = true)
    (hr : (o.semAt b.roundOf (Act.mk tmps df).eval).run P w = .ok (.comm cases blocking shape) w') :
    ∃ es, stepG P true (G (b.atR ⟨tmps, df⟩ (.inRegion ops (i :: rest) :: k)) cs) w = .comm (G (b.atR ⟨tmps, df⟩ (.inRegion ops (i :: rest) :: k)) cs) cases blocking shape w' es := by
  unfold G
  rw [stepGR_op ho hw]
  simp only [stepG.apply, Sem.runT_eq, hr]
  exact ⟨_, rfl⟩
end

section
variable {W : World} {B : Nat → Prop} {E : Env} {M : Mp} {h : Hp} {w : World} {lo : Nat} {cs0 : List Frame}

theorem chan_place (H : HRel W B M h w) {r r' cap s t : Nat} {buf : List Value} (hi : IdRel M r r') (hg : h.get r = some (.chan cap buf s t)) :
    ∃ S buf', M.ρ r = some (r', 0, S) ∧ w.heap[r']? = some (.chan cap buf' false s t false) ∧ VsRel M buf buf'.toList := by
  obtain ⟨b, δ, S, x, hρ, hx, h0, b', rfl, he⟩ := H.place hi.1 hg (by simp)
  have := hi.2 b δ S hρ
  subst this; subst h0
  exact ⟨S, b', hρ, hx, he⟩

/-- The step that a communication takes. -/
theorem comm_ok {fr : Frame} {cs : List Frame} {tm : Tr Value} {o : Oper} {ρ : Operand → Value} {v : Value} {h' : Hp} (H : HRel W B M h w) (hE : ∀ x, x ∈ o.op.operands → VRel M (ev tm x) (ρ x)) (hq : commOf E tm h o = some (v, h'))
    (hst : ∀ cases blocking shape w', (execOp ρ o).run E.P w = .ok (.comm cases blocking shape) w' → ∃ es, stepG E.P true (G fr cs) w = .comm (G fr cs) cases blocking shape w' es) :
    ∃ v' w', step E.P (lone fr cs w) = .next (lone (fr.finish v') cs w') ∧ HRel W B M h' w' ∧ Keep M h M h' (fun _ => False) ∧ VRel M v v' := by
  obtain ⟨dst, op, ty, pos, after, guard⟩ := o
  unfold commOf at hq
  simp only at hq hE
  split at hq
  case h_4 => cases hq
  · rename_i ch x
    have hc := hE ch (by simp [Op.operands])
    have hx := hE x (by simp [Op.operands])
    have hexec : (execOp ρ ⟨dst, .send ch x, ty, pos, after, guard⟩).run E.P w = .ok (.comm #[{ chan := ρ ch, send := some (ρ x), zero := .tuple #[] }] true .send) w := rfl
    obtain ⟨es, hsg⟩ := hst _ _ _ _ hexec
    clear hst
    split at hq
    case h_2 => cases hq
    rename_i k hck
    rw [hck] at hc
    generalize ρ ch = c' at *
    generalize ρ x = x' at *
    cases hc with
    | chan hi =>
    rename_i r'
    split at hq
    case h_2 => cases hq
    rename_i cap buf s r hg
    replace hq := cond_some hq
    obtain ⟨hlt, hq⟩ := hq
    cases hq
    obtain ⟨S, buf', hρ, hxb, hb⟩ := chan_place H hi hg
    have hroom : buf'.size < cap := by
      have := hb.1
      simp at this
      have := (blt_iff _ _).1 hlt
      omega
    obtain ⟨p1, p2, p3⟩ := HRel.setObj (E := E) H (o := .chan cap (buf ++ [ev tm x]) (s + 1) r) (x := .chan cap (buf'.push x') false (s + 1) r false) hρ hxb (by intro c e f hh; cases hh) ⟨rfl, _, rfl, by rw [Array.toList_push]; exact VsRel.append hb (.cons hx (.nil M))⟩
    exact ⟨undef, _, step_lone_send_room hsg hxb hroom, p2, p3, .undef M⟩
  · rename_i t ch ok
    have hc := hE ch (by simp [Op.operands])
    split at hq
    case h_2 => cases hq
    rename_i dir e k hu hck
    rw [hck] at hc
    split at hq
    case h_2 => cases hq
    rename_i z cap v0 buf s r hz hg
    cases hq
    have hexec : (execOp ρ ⟨dst, .recv t ch ok, ty, pos, after, guard⟩).run E.P w = .ok (.comm #[{ chan := ρ ch, send := none, zero := z }] true (.recv ok)) w := by
      simp [execOp, run_und hu, run_zero hz]
    obtain ⟨es, hsg⟩ := hst _ _ _ _ hexec
    clear hst
    generalize ρ ch = c' at *
    cases hc with
    | chan hi =>
    rename_i r'
    obtain ⟨S, buf', hρ, hxb, hb⟩ := chan_place H hi hg
    obtain ⟨buf'⟩ := buf'
    cases buf' with
    | nil => have := hb.1; simp at this
    | cons y ys =>
    have hb2 := hb.uncons
    obtain ⟨p1, p2, p3⟩ := HRel.setObj (E := E) H (o := .chan cap buf s (r + 1)) (x := .chan cap ((⟨y :: ys⟩ : Array Value).extract 1 (⟨y :: ys⟩ : Array Value).size) false s (r + 1) false) hρ hxb (by intro c e f hh; cases hh) ⟨rfl, _, rfl, by simpa using hb2.2⟩
    refine ⟨got ok y true, _, step_lone_recv_buf ok hsg hxb (by simp), p2, p3, ?_⟩
    cases ok
    · exact hb2.1
    · exact .tuple' (.cons hb2.1 (.cons (.bool _) (.nil M)))
  · rename_i cases blocking
    split at hq
    case h_2 => cases hq
    rename_i ch e hcs
    have hcs' : cases = #[⟨ch, none, e⟩] := Array.toList_inj.1 hcs
    subst hcs'
    have hc := hE ch (by simp [Op.operands])
    split at hq
    case h_2 => cases hq
    rename_i k hck
    rw [hck] at hc
    split at hq
    case h_3 => cases hq
    · rename_i z cap v0 buf s r hz hg
      cases hq
      have hexec : (execOp ρ ⟨dst, .select #[⟨ch, none, e⟩] false, ty, pos, after, guard⟩).run E.P w = .ok (.comm #[{ chan := ρ ch, send := none, zero := z }] false .select) w := by
        simp [execOp, run_zero hz]
      obtain ⟨es, hsg⟩ := hst _ _ _ _ hexec
      clear hst
      generalize ρ ch = c' at *
      cases hc with
      | chan hi =>
      rename_i r'
      obtain ⟨S, buf', hρ, hxb, hb⟩ := chan_place H hi hg
      obtain ⟨buf'⟩ := buf'
      cases buf' with
      | nil => have := hb.1; simp at this
      | cons y ys =>
      have hb2 := hb.uncons
      obtain ⟨p1, p2, p3⟩ := HRel.setObj (E := E) H (o := .chan cap buf s (r + 1)) (x := .chan cap ((⟨y :: ys⟩ : Array Value).extract 1 (⟨y :: ys⟩ : Array Value).size) false s (r + 1) false) hρ hxb (by intro c e f hh; cases hh) ⟨rfl, _, rfl, by simpa using hb2.2⟩
      exact ⟨_, _, step_lone_select_recv_buf hsg hxb (by simp), p2, p3, .tuple' (.cons (.int _ _) (.cons (.bool _) (.cons hb2.1 (.nil M))))⟩
    · rename_i z cap s r hz hg
      cases hq
      have hexec : (execOp ρ ⟨dst, .select #[⟨ch, none, e⟩] false, ty, pos, after, guard⟩).run E.P w = .ok (.comm #[{ chan := ρ ch, send := none, zero := z }] false .select) w := by
        simp [execOp, run_zero hz]
      obtain ⟨es, hsg⟩ := hst _ _ _ _ hexec
      clear hst
      generalize ρ ch = c' at *
      cases hc with
      | chan hi =>
      rename_i r'
      obtain ⟨S, buf', hρ, hxb, hb⟩ := chan_place H hi hg
      have hb0 : buf' = #[] := by
        have := hb.1
        simp at this
        exact Array.eq_empty_of_size_eq_zero this.symm
      subst hb0
      exact ⟨_, _, step_lone_select_default hsg hxb, H, Keep.refl _ _ _, .tuple' (.cons (.int _ _) (.cons (.bool _) (.cons (zero_rel hz M) (.nil M))))⟩

theorem comm_sim {s : St} {m : Machine} {v : Value} {h' : Hp} {fr' : Fr} (R : Sim W B E cs0 s m) (hq : atComm E s = some (v, h')) (hf : finishX E s.fr v = some fr') :
    ∃ m', Steps E.P m m' ∧ Sim W B E cs0 ⟨fr', s.cs, h'⟩ m' := by
  obtain ⟨M, lo, frm, cs', w, rfl, H, hlo, T, S⟩ := R
  unfold atComm at hq
  split at hq
  case h_2 => cases hq
  rename_i fn nt tm ops i rest k df kd ro cs h
  obtain ⟨fn', tmps, todo', df', md', kd', ro'⟩ := frm
  obtain ⟨h1, h2, h3, h4, h5, h6⟩ := T
  simp only at h1 h2 h3 h4 h5 h6 H hlo S hf ⊢
  subst h1; subst h2
  cases md' <;> simp only [MdRel] at h5
  split at hq
  case h_2 => cases hq
  rename_i o ho
  split at hq
  case h_2 => cases hq
  rename_i hw
  obtain ⟨hk, T, hs⟩ := h6
  cases hk with
  | cons hi ht =>
  cases hi with
  | inRegion _ _ hc =>
  rename_i k'
  have hE := const_rel M H.glob hc ho df' fun t _ => T t
  have hsem : o.semAt ro' (Act.mk tmps df').eval = execOp (Act.mk tmps df').eval o := by
    cases ro' with
    | none => exact Oper.semAt_none _ o
    | some l =>
      refine Oper.semAt_eq _ _ _ fun cl e => ?_
      unfold commOf at hq
      rw [e] at hq
      cases hq
  obtain ⟨v', w', hst, H', K, hv⟩ := comm_ok (E := E) (fr := Frame.atR ⟨fn', tmps, [], df', .run, kd', ro'⟩ ⟨tmps, df'⟩ (.inRegion ops (i :: rest) :: k')) (cs := cs') (ρ := (Act.mk tmps df').eval) H hE hq
    fun cases blocking shape w' hr => stepG_comm (b := ⟨fn', tmps, [], df', .run, kd', ro'⟩) ho (wanted_plain T hw) (by rw [← hr]; exact congrArg (fun z => z.run E.P w) hsem)
  refine ⟨_, .one hst, M, lo, _, cs', w', rfl, H', Nat.le_trans hlo K.1, ?_, S.mono (.refl M) fun j hj => K.all j (Nat.lt_of_lt_of_le hj hlo)⟩
  have R : FrWait E M h lo h.n ⟨fn', nt, tm, .inRegion ops (i :: rest) :: k, df, .run, kd', ro⟩ (Frame.atR ⟨fn', tmps, [], df', .run, kd', ro'⟩ ⟨tmps, df'⟩ (.inRegion ops (i :: rest) :: k')) :=
    ⟨rfl, rfl, h3, h4, trivial, ⟨.cons (.inRegion ops (i :: rest) hc) ht, T, hs⟩⟩
  exact finish_sim (R.mono (.refl M) (fun j _ hj => K.all j hj) K.1) hv hf (Nat.le_refl _)

theorem runEach_sim [hB : FactX (B W.heap.size → E.q = true)] (hm : E.P.follows .mixedOrders = true) {f : FuncId} {N : Nat} : ∀ (n : Nat) {s : St} {m : Machine}, Sim W B E cs0 s m → runEach E f N n s = true →
    ∃ s' m', Steps E.P m m' ∧ Sim W B E cs0 s' m' ∧ goodX E f s' = true
  | 0, s, m, R, h => by
    obtain ⟨k, hk⟩ := run_runs (E := E) N s
    obtain ⟨m', S', R'⟩ := run_sim hm k R
    rw [hk] at R'
    exact ⟨_, m', S', R', h⟩
  | n + 1, s, m, R, h => by
    obtain ⟨k, hk⟩ := (run_runs (E := E) N s).trans (halt_runs E _)
    obtain ⟨m', S', R'⟩ := run_sim hm k R
    rw [hk] at R'
    unfold runEach at h
    generalize haltQ E (runQ E N s) = s1 at h R'
    obtain ⟨fr, cs, hp⟩ := s1
    simp only at h
    split at h
    · rename_i v h' hc
      split at h
      · rename_i fr' hf
        obtain ⟨m2, S2, R2⟩ := comm_sim R' hc hf
        obtain ⟨s3, m3, S3, R3, hg⟩ := runEach_sim hm n R2 h
        exact ⟨s3, m3, (S'.trans S2).trans S3, R3, hg⟩
      · cases h
    · split at h
      · exact ⟨_, m', S', R', h⟩
      · rename_i l hq
        rw [Bool.and_eq_true, Bool.not_eq_true'] at h
        obtain ⟨c, hc, hall⟩ := stepN_sim R' hq h.1
        have h2 := List.all_eq_true.1 h.2 c hc
        split at h2
        · rename_i s2 hs2
          obtain ⟨m2, S2, R2⟩ := hall s2 hs2
          obtain ⟨s3, m3, S3, R3, hg⟩ := runEach_sim hm n R2 h2
          exact ⟨s3, m3, (S'.trans S2).trans S3, R3, hg⟩
        · cases h2

theorem each_calls (E : Env) (hm : E.P.follows .mixedOrders = true) {f : FuncId} {N n : Nat} {M0 : Mp} {h0 : Hp} {w : World} (H0 : HRel w (fun _ => False) M0 h0 w) (ht : eachFrom E f N n h0 = true) :
    Calls E.P f #[] w fun e w' => e = .returned (.bool true) ∧ RowKit.Below w.heap.size w w' := by
  unfold eachFrom at ht
  split at ht
  · rename_i s0 hs
    haveI : FactX ((fun _ : Nat => False) w.heap.size → E.q = true) := ⟨fun h => h.elim⟩
    exact good_calls E H0 hs fun cs0 m R => runEach_sim hm n R ht
  · cases ht

theorem each_below (E : Env) (hm : E.P.follows .mixedOrders = true) {f : FuncId} {N n : Nat} (ht : eachFrom E f N n Hp.empty = true) (w : World) :
    Calls E.P f #[] w fun e w' => e = .returned (.bool true) ∧ RowKit.Below w.heap.size w w' := each_calls E hm (HRel.start w) ht

theorem tab_each_below (E : Env) (hm : E.P.follows .mixedOrders = true) {f : FuncId} {N n : Nat} {w : World} {g : Nat} {cs : Array Value} {e : TypeId} {fr : Nat × Nat} (hg : w.heap[g]? = some (.cells cs e fr)) (hp : ∀ v, v ∈ cs.toList → plainV 4 v = true) (h255 : g ≤ 255)
    (ht : eachFrom E f N n (tabHp g cs.toList e) = true) : Calls E.P f #[] w fun e w' => e = .returned (.bool true) ∧ RowKit.Below w.heap.size w w' :=
  each_calls E hm (HRel.tab hg hp h255) ht

end
end Go.X
