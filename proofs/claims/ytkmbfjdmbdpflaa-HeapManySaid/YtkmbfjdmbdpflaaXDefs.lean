/- The abstract machine X, its definitions: a machine of the same programs as the model's, whose steps are reckoned, whose arrays that grew have a capacity that nobody sees, and whose statements are gone through in one order. Conditions: none; that what it finds holds of the model is shown in the texts behind this one. -/
import Derived.Calls
import Derived.AtR
import Derived.KernelRfl
import Derived.Below
namespace Go.X

/-- A row of things by their numbers, reckoned fast. -/
inductive Tr (α : Type) where
  | leaf
  | node (v : Option α) (l r : Tr α)

def Tr.get {α : Type} : Tr α → Nat → Option α
  | .leaf, _ => none
  | .node v l r, n => cond (Nat.beq n 0) v (cond (Nat.beq (Nat.mod n 2) 1) (l.get (Nat.div n 2)) (r.get (Nat.pred (Nat.div n 2))))

def Tr.set {α : Type} : (fuel : Nat) → Tr α → Nat → α → Tr α
  | 0, t, _, _ => t
  | f + 1, .leaf, n, o => cond (Nat.beq n 0) (.node (some o) .leaf .leaf)
      (cond (Nat.beq (Nat.mod n 2) 1) (.node none (Tr.set f .leaf (Nat.div n 2) o) .leaf) (.node none .leaf (Tr.set f .leaf (Nat.pred (Nat.div n 2)) o)))
  | f + 1, .node v l r, n, o => cond (Nat.beq n 0) (.node (some o) l r)
      (cond (Nat.beq (Nat.mod n 2) 1) (.node v (Tr.set f l (Nat.div n 2) o) r) (.node v l (Tr.set f r (Nat.pred (Nat.div n 2)) o)))

/-- A number, reckoned before it is handed on. -/
def forceN {β : Sort _} (n : Nat) (f : Nat → β) : β :=
  match n with
  | 0 => f 0
  | k + 1 => f (k + 1)

def forceI {β : Sort _} (n : Int) (f : Int → β) : β :=
  match n with
  | .ofNat k => forceN k fun k => f (.ofNat k)
  | .negSucc k => forceN k fun k => f (.negSucc k)

theorem forceN_eq {β : Sort _} (n : Nat) (f : Nat → β) : forceN n f = f n := by cases n <;> rfl
theorem forceI_eq {β : Sort _} (n : Int) (f : Int → β) : forceI n f = f n := by cases n <;> simp [forceI, forceN_eq]

/-- A loop over a function: its frame's temporaries, as they were. -/
structure Lp where
  state : LoopState
  pending : Option Code
  fn : FuncId
  nt : Nat
  tm : Tr Value
  params : Array Tmp
  assign : Code
  body : Code
  defers : Nat

/-- What lies in the abstract memory. `cells c e m`: m = 0: its capacity is what it says; 1: it is only read; s + 2: it grew, its capacity is unknown, its elements are of s cells. -/
inductive AObj where
  | cells (c : List Value) (elem : TypeId) (m : Nat)
  | map (es : List MapEntry) (clock : Nat)
  | str (s : ByteArray) (pos : Nat)
  | loop (l : Lp)
  | deferred (ds : Option (List Deferred))
  | dead

structure Hp where
  t : Tr AObj
  n : Nat

def Hp.get (h : Hp) (i : Nat) : Option AObj := match h with | ⟨t, _⟩ => t.get i
def Hp.put (h : Hp) (i : Nat) (o : AObj) : Hp := match h with | ⟨t, n⟩ => ⟨t.set (i + 1) i o, n⟩
def Hp.alloc (h : Hp) (o : AObj) : Hp := match h with | ⟨t, n⟩ => forceN n fun m => ⟨t.set (m + 1) m o, m + 1⟩
/-- The memory that nothing lies in; numbers 0 to 255 are package-level variables'. -/
def Hp.empty : Hp := ⟨.leaf, 256⟩

/-- Is a value without addresses? -/
def plainV : Nat → Value → Bool
  | 0, _ => false
  | n + 1, v => match v with
    | .bool _ => true
    | .int _ _ => true
    | .string _ => true
    | .agg cs => cs.toList.all (plainV n)
    | .iface _ v => plainV n v
    | .nilIface => true
    | .nilFunc => true
    | .pointer none => true
    | .slice none _ _ => true
    | .map none => true
    | _ => false

/-- A program, its types and functions as they are looked up. -/
structure Env where
  P : Program
  ty : Nat → Option TypeInfo
  fn : Nat → Option Func
  hty : ∀ t i, ty t = some i → P.info? t = some i
  hfn : ∀ f i, fn f = some i → P.funcs[f]? = some i
  /-- Is it maps.clone? -/
  ext : Nat → Bool
  hext : ∀ f, ext f = true → ∃ fn, P.funcs[f]? = some fn ∧ (fn.name == "runtime.NumGoroutine") = false ∧ fn.body.isNone = true ∧ Extern.findNext fn = none ∧ Extern.find fn = some Extern.MapsClone.clone
  /-- Is it a function without parameters of which it is known what it answers? -/
  orc : Nat → Option Value
  horc : ∀ f v, orc f = some v → plainV 20 v = true ∧ ∀ w, Calls P f #[] w fun e w' => e = .returned v ∧ RowKit.Below w.heap.size w w'

def Env.und (E : Env) (t : TypeId) : Option TypeDesc :=
  match E.ty t with
  | none => none
  | some i => match i.desc with
    | .named _ u => (match E.ty u with | none => none | some j => some j.desc)
    | d => some d

def Env.size (E : Env) (t : TypeId) : Option Nat := match E.ty t with | none => none | some i => some i.size
def Env.zero (E : Env) (t : TypeId) : Option Value :=
  match E.ty t with
  | none => none
  | some i => (match i.zero with
    | none => none
    | some z => cond (plainV 4 z) (some z) none)
def Env.bytes (E : Env) (t : TypeId) : Option Nat := match E.ty t with | none => none | some i => some i.bytes

def aggDesc : TypeDesc → Bool
  | .struct _ => true
  | .array _ _ => true
  | _ => false

def ev (tm : Tr Value) : Operand → Value
  | .tmp t => (match tm.get t with | some v => v | none => undef)
  | .const v => v
  | .global g => .pointer (some ⟨g, 0, none⟩)
  | .func f => .func (.func f) #[] #[]

/-! Reading -/

def rowOf (h : Hp) (a : Addr) (n : Nat) : Option (List Value) :=
  match a.spot with
  | some _ => none
  | none => match h.get a.block with
    | some (.cells c _ _) => cond (Nat.ble (a.off + n) c.length) (some ((c.drop a.off).take n)) none
    | _ => none

def loadX (E : Env) (t : TypeId) (a : Addr) (h : Hp) : Option Value :=
  match E.und t with
  | none => none
  | some d => match aggDesc d with
    | true => (match E.size t with
      | none => none
      | some n => match rowOf h a n with
        | none => none
        | some l => some (.agg l.toArray))
    | false => (match rowOf h a 1 with
        | some [v] => some v
        | _ => none)

def partX (E : Env) (t : TypeId) (cs : Array Value) (off : Nat) : Option Value :=
  match E.und t with
  | none => none
  | some d => match aggDesc d with
    | true => (match E.size t with
      | none => none
      | some n => some (.agg (cs.extract off (off + n))))
    | false => cs[off]?

def kindEq : IntKind → IntKind → Bool
  | .i8, .i8 => true
  | .i16, .i16 => true
  | .i32, .i32 => true
  | .i64, .i64 => true
  | .u8, .u8 => true
  | .u16, .u16 => true
  | .u32, .u32 => true
  | .u64, .u64 => true
  | _, _ => false

/-- Two values, held against each other sign by sign. -/
def sameV : Nat → Value → Value → Bool
  | 0, _, _ => false
  | n + 1, v, w => match v, w with
    | .bool a, .bool b => a == b
    | .int k a, .int k' b => kindEq k k' && decide (a = b)
    | .string a, .string b => a.data.toList == b.data.toList
    | .pointer none, .pointer none => true
    | .pointer (some a), .pointer (some b) => decide (a = b)
    | .slice none l c, .slice none l' c' => Nat.beq l l' && Nat.beq c c'
    | .slice (some a) l c, .slice (some b) l' c' => decide (a = b) && Nat.beq l l' && Nat.beq c c'
    | .map none, .map none => true
    | .map (some a), .map (some b) => Nat.beq a b
    | .nilFunc, .nilFunc => true
    | .func (.func f) a b, .func (.func g) c d => Nat.beq f g && sameL n a.toList c.toList && sameL n b.toList d.toList
    | .nilIface, .nilIface => true
    | .iface t v, .iface u w => Nat.beq t u && sameV n v w
    | .agg a, .agg b => sameL n a.toList b.toList
    | .tuple a, .tuple b => sameL n a.toList b.toList
    | _, _ => false
where
  sameL (n : Nat) : List Value → List Value → Bool
    | [], [] => true
    | v :: l, w :: m => sameV n v w && sameL n l m
    | _, _ => false

/-- Equality of two values of a type that holds no interface: none: it isn't told. -/
def equalX (E : Env) (h : Hp) : Nat → TypeId → Value → Value → Option Bool
  | 0, _, _, _ => none
  | _n + 1, t, x, y =>
    match E.und t with
    | none => none
    | some d => match d, x, y with
      | .bool, .bool a, .bool b => some (a == b)
      | .int _, .int k a, .int k' b => cond (kindEq k k') (some (a == b)) none
      | .string, .string a, .string b => some (a == b)
      | .pointer _, .pointer none, .pointer b => some b.isNone
      | .pointer _, .pointer (some _), .pointer none => some false
      | .pointer e, .pointer (some a), .pointer (some b) =>
        (match E.size e, h.get a.block, h.get b.block with
         | some (_ + 1), some (.cells c _ 0), some (.cells c' _ 0) =>
           (match a.spot, b.spot with
            | none, none => cond (Nat.ble 1 c.length && Nat.ble 1 c'.length) (some (Nat.beq a.block b.block && Nat.beq a.off b.off)) none
            | _, _ => none)
         | _, _, _ => none)
      | .slice _, .slice none _ _, .slice b _ _ => some b.isNone
      | .slice _, .slice (some _) _ _, .slice none _ _ => some false
      | .map _ _, .map none, .map b => some b.isNone
      | .map _ _, .map (some _), .map none => some false
      | .func _ _ _, .nilFunc, .nilFunc => some true
      | .func _ _ _, .nilFunc, .func _ _ _ => some false
      | .func _ _ _, .func _ _ _, .nilFunc => some false
      | .interface _, .nilIface, .nilIface => some true
      | .interface _, .nilIface, .iface _ _ => some false
      | .interface _, .iface _ _, .nilIface => some false
      | _, _, _ => none

def boolV (b : Bool) : Value := cond b (.bool true) (.bool false)
def someI (k : IntKind) (n : Int) : Option Value := forceI n fun m => some (.int k m)

/-- A number brought into its kind; quickly, where it is small. -/
def wrapX (k : IntKind) (n : Int) : Int :=
  match k, n with
  | .i64, .ofNat m => cond (Nat.blt m 9223372036854775808) (.ofNat m) (IntKind.i64.wrap (.ofNat m))
  | .i64, .negSucc m => cond (Nat.blt m 9223372036854775808) (.negSucc m) (IntKind.i64.wrap (.negSucc m))
  | k, n => k.wrap n

def intBin (op : BinOp) (k : IntKind) (a b : Int) : Option Value :=
  match op with
  | .add => someI k (wrapX k (a + b))
  | .sub => someI k (wrapX k (a - b))
  | .mul => someI k (wrapX k (a * b))
  | .quo => cond (decide (b = 0)) none (someI k (wrapX k (a.tdiv b)))
  | .rem => cond (decide (b = 0)) none (someI k (a.tmod b))
  | .and => someI k (wrapX k (BitVec.ofInt k.bits a &&& BitVec.ofInt k.bits b).toNat)
  | .or => someI k (wrapX k (BitVec.ofInt k.bits a ||| BitVec.ofInt k.bits b).toNat)
  | .xor => someI k (wrapX k (BitVec.ofInt k.bits a ^^^ BitVec.ofInt k.bits b).toNat)
  | .andNot => someI k (wrapX k (BitVec.ofInt k.bits a &&& ~~~BitVec.ofInt k.bits b).toNat)
  | .eql => some (boolV (a == b))
  | .neq => some (boolV (a != b))
  | .lss => some (boolV (a < b))
  | .leq => some (boolV (a ≤ b))
  | .gtr => some (boolV (a > b))
  | .geq => some (boolV (a ≥ b))
  | _ => none

def strBin (op : BinOp) (x y : ByteArray) : Option Value :=
  match op with
  | .add => cond (decide (((x.size + y.size : Nat) : Int) > IntKind.i64.max)) none (some (.string (x ++ y)))
  | .eql => some (boolV (x.toList == y.toList))
  | .neq => some (boolV !(x.toList == y.toList))
  | .lss => some (boolV (Op.bytesLess x.toList y.toList))
  | .leq => some (boolV (Op.bytesLess x.toList y.toList || x.toList == y.toList))
  | .gtr => some (boolV !(Op.bytesLess x.toList y.toList || x.toList == y.toList))
  | .geq => some (boolV !(Op.bytesLess x.toList y.toList))
  | _ => none

def isShift : BinOp → Bool
  | .shl => true
  | .shr => true
  | _ => false

def shiftX (op : BinOp) (k : IntKind) (a b : Int) : Option Value :=
  cond (decide (b < 0)) none
    (match op with
     | .shl => someI k (wrapX k (a * 2 ^ (min b.toNat k.bits)))
     | .shr => someI k (a.fdiv (2 ^ (min b.toNat k.bits)))
     | _ => none)

def structEq (E : Env) (h : Hp) (xs ys : Array Value) : List Field → Option Bool
  | [] => some true
  | f :: fs => cond (f.name == "_") none
    (match partX E f.type xs f.offset, partX E f.type ys f.offset with
     | some a, some b => (match equalX E h 1 f.type a b with
       | some true => structEq E h xs ys fs
       | some false => some false
       | none => none)
     | _, _ => none)

def isConstOp : Operand → Bool
  | .const _ => true
  | _ => false

def binX (E : Env) (h : Hp) (op : BinOp) (t : TypeId) (xo yo : Operand) (x y : Value) : Option Value :=
  match x, y with
  | .int k a, .int k' b => cond (isShift op) (shiftX op k a b) (cond (kindEq k k') (intBin op k a b) none)
  | .string a, .string b => strBin op a b
  | .nilIface, .nilIface =>
    cond (isConstOp xo || isConstOp yo)
      (match op, E.und t with
       | .eql, some (.interface _) => some (.bool true)
       | .neq, some (.interface _) => some (.bool false)
       | _, _ => none) none
  | .float _ _, _ => none
  | .complex _ _ _, _ => none
  | .agg xs, .agg ys =>
    (match E.und t with
     | some (.struct fs) => cond ((E.P.eqGuardType E.P.depth t) || E.P.stoodInHeld t) none
       (match op, structEq E h xs ys fs.toList with
        | .eql, some r => some (boolV r)
        | .neq, some r => some (boolV !r)
        | _, _ => none)
     | _ => none)
  | x, y => (match op with
    | .eql => (match equalX E h 1 t x y with | some r => some (boolV r) | none => none)
    | .neq => (match equalX E h 1 t x y with | some r => some (boolV !r) | none => none)
    | _ => none)

def unX (op : UnOp) (x : Value) : Option Value :=
  match op, x with
  | .neg, .int k n => someI k (wrapX k (0 - n))
  | .xor, .int k n => intBin .xor k (if k.signed then -1 else k.max) n
  | .not, .bool b => some (boolV !b)
  | _, _ => none

/-- The bytes that a row of cells holds. -/
def bytesIn : List Value → List UInt8 → Option (List UInt8)
  | [], acc => some acc.reverse
  | .int .u8 n :: l, acc => bytesIn l (UInt8.ofNat n.toNat :: acc)
  | _, _ => none

def convertX (E : Env) (h : Hp) (src dst : TypeId) (x : Value) : Option Value :=
  match E.und src, E.und dst with
  | some s, some d => (match s, d, x with
    | _, .int k, .int _ n => someI k (wrapX k n)
    | _, .string, .int _ n => some (.string (Utf8.encode n))
    | _, .string, .string s => some (.string s)
    | .slice e, .string, .slice none _ _ => (match E.und e with | some (.int .u8) => some (.string .empty) | _ => none)
    | .slice e, .string, .slice (some a) l _ =>
      (match E.und e with
       | some (.int .u8) => (match rowOf h a l with
         | some r => (match bytesIn r [] with
           | some bs => some (.string ⟨bs.toArray⟩)
           | none => none)
         | none => none)
       | _ => none)
    | _, _, _ => none)
  | _, _ => none

def boundsOk (lo hi m : Nat) : Bool := Nat.ble lo hi && Nat.ble hi m

def natOf : Value → Option Nat
  | .int _ (.ofNat n) => some n
  | _ => none

def optNat (d : Nat) : Option Value → Option Nat
  | none => some d
  | some v => natOf v

/-- The mode of the block that an address leads to. -/
def modeOf (h : Hp) (a : Addr) : Option Nat :=
  match h.get a.block with
  | some (.cells _ _ m) => some m
  | _ => none

def sliceX (E : Env) (h : Hp) (t : TypeId) (x : Value) (lo hi mx : Option Value) : Option Value :=
  match E.und t with
  | some (.string) => (match x, mx with
    | .string s, none => (match optNat 0 lo, optNat s.size hi with
      | some l, some r => cond (boundsOk l r s.size) (some (.string (s.extract l r))) none
      | _, _ => none)
    | _, _ => none)
  | some (.slice e) => (match x, mx, E.size e with
    | .slice none 0 0, none, some _ => (match optNat 0 lo, optNat 0 hi with
      | some 0, some 0 => some (.slice none 0 0)
      | _, _ => none)
    | .slice (some a) n c, none, some z => (match optNat 0 lo, optNat n hi, modeOf h a with
      | some l, some r, some (s + 2) => cond (boundsOk l r c && Nat.beq s z) (some (.slice (some (a.add (l * z))) (r - l) (c - l))) none
      | some l, some r, some _ => cond (boundsOk l r c) (some (.slice (some (cond (Nat.beq c l) a (a.add (l * z)))) (r - l) (c - l))) none
      | _, _, _ => none)
    | _, _, _ => none)
  | some (.array n e) => (match x, mx, E.size e with
    | .pointer (some a), none, some z => (match modeOf h a, optNat 0 lo, optNat n hi with
      | some 0, some l, some r => cond (boundsOk l r n) (some (.slice (some (cond (Nat.beq n l) a (a.add (l * z)))) (r - l) (n - l))) none
      | _, _, _ => none)
    | _, _, _ => none)
  | _ => none

def fieldAddrX (E : Env) (s : TypeId) (x : Value) (i : Nat) : Option Value :=
  match x, E.und s with
  | .pointer (some a), some (.struct fs) => (match fs[i]? with
    | some f => (match E.size f.type with
      | some (_ + 1) => some (.pointer (some (a.add f.offset)))
      | _ => none)
    | none => none)
  | _, _ => none

def fieldX (E : Env) (t : TypeId) (x : Value) (i : Nat) : Option Value :=
  match x, E.und t with
  | .agg cs, some (.struct fs) => (match fs[i]? with
    | some f => partX E f.type cs f.offset
    | none => none)
  | _, _ => none

def indexAddrX (E : Env) (t : TypeId) (x ix : Value) : Option Value :=
  match natOf ix, E.und t, x with
  | some i, some (.array n e), .pointer (some a) => (match E.size e with
    | some z => cond (Nat.blt i n) (some (.pointer (some (a.add (i * z))))) none
    | none => none)
  | some i, some (.slice e), .slice (some a) n _ => (match E.size e with
    | some z => cond (Nat.blt i n) (some (.pointer (some (a.add (i * z))))) none
    | none => none)
  | _, _, _ => none

def indexX (E : Env) (t : TypeId) (x ix : Value) : Option Value :=
  match natOf ix, E.und t, x with
  | some i, some (.array n e), .agg cs => (match E.size e with
    | some z => cond (Nat.blt i n) (partX E e cs (i * z)) none
    | none => none)
  | some i, some .string, .string s => (match s[i]? with
    | some b => some (.int .u8 b.toNat)
    | none => none)
  | _, _, _ => none

def scalarD : TypeDesc → Bool
  | .int _ => true
  | .string => true
  | .bool => true
  | _ => false

def keyFits : TypeDesc → Value → Bool
  | .int j, .int k _ => kindEq j k
  | .string, .string _ => true
  | .bool, .bool _ => true
  | _, _ => false

def scalarV : Value → Bool
  | .int _ _ => true
  | .string _ => true
  | .bool _ => true
  | _ => false

/-- Keys that X takes: integers, strings, bools, and structs of such. -/
def keyOkX (E : Env) (kt : TypeId) (k : Value) : Bool :=
  match E.und kt with
  | some (.struct fs) => (match k with
    | .agg cs => cs.toList.all scalarV && fs.toList.all (fun f => (match E.und f.type with | some d => scalarD d | none => false) && (partX E f.type cs f.offset).isSome)
    | _ => false)
  | some d => keyFits d k
  | none => false

def keyEqX (E : Env) (h : Hp) (kt : TypeId) (k k' : Value) : Option Bool :=
  match E.und kt with
  | some (.struct fs) => (match k, k' with
    | .agg xs, .agg ys => cond (E.P.stoodInHeld kt) none
      (match structEq E h xs ys fs.toList with
       | some true => cond (sameV 4 (.agg xs) (.agg ys)) (some true) none
       | some false => some false
       | none => none)
    | _, _ => none)
  | some d => cond (keyFits d k && keyFits d k') (some (sameV 2 k k')) none
  | none => none

/-- Where a key stands in a map's entries, and its value; none: it isn't told. -/
def findX (E : Env) (h : Hp) (kt : TypeId) (k : Value) : List MapEntry → Nat → Option (Option (Nat × Value))
  | [], _ => some none
  | e :: es, i => (match keyEqX E h kt k e.key with
    | some true => some (some (i, e.val))
    | some false => findX E h kt k es (i + 1)
    | none => none)

def mapOf (h : Hp) : Value → Option (List MapEntry)
  | .map none => some []
  | .map (some r) => (match h.get r with
    | some (.map es _) => some es
    | _ => none)
  | _ => none

def lookupX (E : Env) (h : Hp) (t : TypeId) (m k : Value) (ok : Bool) : Option Value :=
  match E.und t, mapOf h m with
  | some (.map kt et), some es => cond (keyOkX E kt k)
      (match findX E h kt k es 0 with
       | some (some (_, v)) => some (cond ok (.tuple #[v, .bool true]) v)
       | some none => (match E.zero et with
         | some z => some (cond ok (.tuple #[z, .bool false]) z)
         | none => none)
       | none => none) none
  | _, _ => none

def lenX (E : Env) (h : Hp) (t : TypeId) (x : Value) : Option Value :=
  match E.und t, x with
  | some .string, .string s => someI .i64 s.size
  | some (.array n _), _ => someI .i64 n
  | some (.slice _), .slice _ n _ => someI .i64 n
  | some (.map _ _), m => (match mapOf h m with
    | some es => someI .i64 es.length
    | none => none)
  | _, _ => none

def max2X : Value → Value → Option Value
  | .int k x, .int _ y => someI k (if y > x then y else x)
  | _, _ => none

def min2X : Value → Value → Option Value
  | .int k x, .int _ y => someI k (if y < x then y else x)
  | _, _ => none

def foldX (f : Value → Value → Option Value) : Value → List Value → Option Value
  | x, [] => some x
  | x, y :: l => (match f x y with
    | some z => foldX f z l
    | none => none)

def typeAssertX (E : Env) (x : Value) (_t a : TypeId) (ok : Bool) : Option Value :=
  match E.und a, x with
  | some (.interface _), _ => none
  | some _, .iface u v => cond (Nat.beq u a) (some (cond ok (.tuple #[v, .bool true]) v))
      (cond ok (match E.zero a with | some z => some (.tuple #[z, .bool false]) | none => none) none)
  | some _, .nilIface => cond ok (match E.zero a with | some z => some (.tuple #[z, .bool false]) | none => none) none
  | _, _ => none

/-- What an operation that only reads yields; none: it isn't told (or it isn't one). -/
def readX (E : Env) (tm : Tr Value) (o : Oper) (h : Hp) : Option Value :=
  match o.op with
  | .move x => some (ev tm x)
  | .assign x => some (ev tm x)
  | .pick c a b => (match ev tm c with | .bool t => some (cond t (ev tm a) (ev tm b)) | _ => none)
  | .build t ps => (match E.zero t, E.und t with
    | some z, some (.struct fs) =>
      (match fs.toList.mapM (fun f => (E.size f.type).map fun n => (f.offset, n)) with
       | some pl => (match Instr.fill (fun i => pl[i]?) z.cells (ps.toList.map fun (i, x) => (i, ev tm x)) with
         | some cs => some (.agg cs)
         | none => none)
       | none => none)
    | some z, some (.array _ e) => (match E.size e with
      | some n => (match Instr.fill (fun i => some (i * n, n)) z.cells (ps.toList.map fun (i, x) => (i, ev tm x)) with
        | some cs => some (.agg cs)
        | none => none)
      | none => none)
    | _, _ => none)
  | .load t a => (match ev tm a with
    | .pointer (some a) => loadX E t a h
    | _ => none)
  | .nilCheck x => (match ev tm x with
    | .pointer (some a) => some (.pointer (some a))
    | .func (.func f) a b => some (.func (.func f) a b)
    | .func (.yield f) a b => some (.func (.yield f) a b)
    | .iface t v => some (.iface t v)
    | _ => none)
  | .binOp op t x y _ => binX E h op t x y (ev tm x) (ev tm y)
  | .unOp op _ x => unX op (ev tm x)
  | .convert s d x => convertX E h s d (ev tm x)
  | .makeInterface t x => (match E.und t with
    | some (.interface _) => none
    | some _ => some (.iface t (ev tm x))
    | none => none)
  | .makeFunc fn a b => (match fn with
    | .yield _ => none
    | fn => some (.func fn (a.map (ev tm)) (b.map (ev tm))))
  | .slice t x lo hi mx => sliceX E h t (ev tm x) (lo.map (ev tm)) (hi.map (ev tm)) (mx.map (ev tm))
  | .fieldAddr t x i => fieldAddrX E t (ev tm x) i
  | .field t x i => fieldX E t (ev tm x) i
  | .indexAddr t x i => indexAddrX E t (ev tm x) (ev tm i)
  | .index t x i => indexX E t (ev tm x) (ev tm i)
  | .lookup t m k ok => lookupX E h t (ev tm m) (ev tm k) ok
  | .typeAssert x t a ok => typeAssertX E (ev tm x) t a ok
  | .extract x i => (match ev tm x with | .tuple vs => vs[i]? | _ => none)
  | .call { callee := .builtin b, args, argTypes } => (match b, argTypes[0]?, (args.toList.map (ev tm)) with
    | .len, some t, x :: _ => lenX E h t x
    | .max, _, x :: l => foldX max2X x l
    | .min, _, x :: l => foldX min2X x l
    | _, _, _ => none)
  | _ => none

/-- A new block, and what is said of its number. -/
def cellsObj (cs : Array Value) (e : TypeId) : AObj := .cells cs.toList e 0
def ptrTo (i : Nat) : Value := .pointer (some ⟨i, 0, none⟩)

def repeatCells (z : List Value) : Nat → List Value
  | 0 => []
  | n + 1 => z ++ repeatCells z n

def noTuple : Value → Bool
  | .tuple _ => false
  | _ => true

def allocX (E : Env) (tm : Tr Value) (o : Oper) : Option (AObj × (Nat → Value)) :=
  match o.op with
  | .alloc e => (match E.zero e with
    | some z => some (cellsObj z.cells e, ptrTo)
    | none => none)
  | .box e x => some (cellsObj (ev tm x).cells e, ptrTo)
  | .buildSlice t n ps => (match E.und t with
    | some (.slice e) => (match E.size e, E.zero e with
      | some (z + 1), some zv => cond (Nat.ble (n * (z + 1)) (2 ^ 24) && Nat.beq zv.cells.size (z + 1))
          (match Instr.fill (fun i => some (i * (z + 1), z + 1)) (repeatCells zv.cells.toList n).toArray (ps.toList.map fun (i, x) => (i, ev tm x)) with
           | some cs => some (cellsObj cs e, fun i => .slice (some ⟨i, 0, none⟩) n n)
           | none => none) none
      | _, _ => none)
    | _ => none)
  | .makeMap t r => (match r, E.und t with
    | none, _ => some (.map [] 0, fun i => .map (some i))
    | some r, some (.map _ _) => (match ev tm r with
      | .int _ _ => some (.map [] 0, fun i => .map (some i))
      | _ => none)
    | _, _ => none)
  | .makeSlice t l c => (match E.und t, natOf (ev tm l), natOf (ev tm c) with
    | some (.slice e), some l, some c => (match E.size e, E.zero e, E.bytes e with
      | some (z + 1), some zv, some by' => cond (Nat.ble l c && Nat.ble c (2 ^ 40) && Nat.ble (by' * c) (2 ^ 47) && Nat.beq zv.cells.size (z + 1))
          (some (cellsObj (repeatCells zv.cells.toList c).toArray e, fun i => .slice (some ⟨i, 0, none⟩) l c)) none
      | _, _, _ => none)
    | _, _, _ => none)
  | _ => none

/-! Writing -/

def storeRow (h : Hp) (a : Addr) (l : List Value) : Option Hp :=
  match a.spot with
  | some _ => none
  | none => match h.get a.block with
    | some (.cells c e m) => cond (!Nat.beq m 1 && Nat.ble (a.off + l.length) c.length)
        (some (h.put a.block (.cells (c.take a.off ++ l ++ c.drop (a.off + l.length)) e m))) none
    | _ => none

def cellV : Value → Bool
  | .agg _ => false
  | .tuple _ => false
  | _ => true

def storeX (E : Env) (t : TypeId) (a : Addr) (v : Value) (h : Hp) : Option Hp :=
  match E.size t with
  | some n => cond (Nat.beq v.cells.size n && v.cells.toList.all cellV) (storeRow h a v.cells.toList) none
  | none => none

def mapPutX (E : Env) (h : Hp) (t : TypeId) (m k v : Value) : Option Hp :=
  match E.und t, m with
  | some (.map kt _), .map (some r) => (match h.get r with
    | some (.map es cl) => cond (keyOkX E kt k)
      (match findX E h kt k es 0 with
       | some (some (i, _)) => some (h.put r (.map (es.modify i fun e => { e with key := k, val := v }) cl))
       | some none => some (h.put r (.map (es ++ [{ key := k, val := v, born := cl }]) (cl + 1)))
       | none => none) none
    | _ => none)
  | _, _ => none

def mapEntryX (E : Env) (h : Hp) (t : TypeId) (m k : Value) : Option (Value × Hp) :=
  match E.und t, m with
  | some (.map kt et), .map (some r) => (match h.get r with
    | some (.map es cl) => cond (keyOkX E kt k)
      (match findX E h kt k es 0 with
       | some (some (i, v)) => (match es[i]? with
         | some e => some (.tuple #[v, .int .i64 e.born], h.put r (.map (es.modify i fun e => { e with key := k }) cl))
         | none => none)
       | some none => (match E.zero et with
         | some z => some (.tuple #[z, .int .i64 cl], h.put r (.map (es ++ [{ key := k, val := z, born := cl }]) (cl + 1)))
         | none => none)
       | none => none) none
    | _ => none)
  | _, _ => none

def entryStoreX (h : Hp) (m s v : Value) : Option Hp :=
  match m, natOf s with
  | .map (some r), some b => (match h.get r with
    | some (.map es cl) => (match es.findIdx? (fun e => Nat.beq e.born b) with
      | some i => some (h.put r (.map (es.modify i fun e => { e with val := v }) cl))
      | none => none)
    | _ => none)
  | _, _ => none

def deleteX (E : Env) (h : Hp) (t : TypeId) (m k : Value) : Option Hp :=
  match E.und t, m with
  | some (.map kt _), .map (some r) => (match h.get r with
    | some (.map es cl) => cond (keyOkX E kt k)
      (match findX E h kt k es 0 with
       | some (some (i, _)) => some (h.put r (.map (es.eraseIdx i) cl))
       | some none => some h
       | none => none) none
    | _ => none)
  | _, _ => none

/-- The first n items' cells of what is appended, or copied. -/
def firstX (h : Hp) (z n : Nat) : Value → Option (List Value)
  | .slice (some a) l _ => cond (Nat.ble n l) (cond (Nat.beq n 0) (some []) (rowOf h a (n * z))) none
  | .slice none l _ => cond (Nat.ble n l && Nat.beq l 0) (some []) none
  | .string s => cond (Nat.ble n s.size && Nat.beq z 1) (some ((s.data.toList.take n).map fun b => .int .u8 b.toNat)) none
  | _ => none

def lenOfX : Value → Option Nat
  | .slice _ n _ => some n
  | .string s => some s.size
  | _ => none

/-- An append that makes room: its items, behind those that are there. -/
def growX (E : Env) (h : Hp) (e : TypeId) (z b n : Nat) (old xs : List Value) : Option (Value × Hp) :=
  match E.zero e with
  | some zv => cond (Nat.ble (n * b) (2 ^ 40) && Nat.beq zv.cells.size z)
      (some (.slice (some ⟨h.n, 0, none⟩) n n, h.alloc (.cells (old ++ xs) e (z + 2)))) none
  | none => none

def appendX (E : Env) (h : Hp) (t t' : TypeId) (s x : Value) : Option (Value × Hp) :=
  match E.und t, E.und t', lenOfX x with
  | some (.slice e), some d', some n => (match d', E.size e, E.bytes e with
    | .int _, _, _ => none
    | _, some (z + 1), some (b + 1) => (match s, firstX h (z + 1) n x with
      | .slice none 0 0, some xs => cond (Nat.beq n 0) (some (.slice none 0 0, h)) (growX E h e (z + 1) (b + 1) n [] xs)
      | .slice (some a) l c, some xs => cond (Nat.beq n 0) (match modeOf h a with
          | some _ => cond (Nat.ble l c) (some (.slice (some a) l c, h)) none
          | none => none)
        (cond (Nat.ble (l + n) c)
          (match storeRow h (a.add (l * (z + 1))) xs with
           | some h' => cond (xs.all cellV) (some (.slice (some a) (l + n) c, h')) none
           | none => none)
          (match rowOf h a (l * (z + 1)), h.get a.block with
           | some old, some (.cells _ be m) => cond (xs.all cellV)
             (match m with
              | q + 2 => cond (Nat.beq be e && Nat.beq q (z + 1)) (growX E (h.put a.block .dead) e (z + 1) (b + 1) (l + n) old xs) none
              | _ => growX E h e (z + 1) (b + 1) (l + n) old xs) none
           | _, _ => none))
      | _, _ => none)
    | _, _, _ => none)
  | _, _, _ => none

def copyX (E : Env) (h : Hp) (t : TypeId) (d s : Value) : Option (Value × Hp) :=
  match E.und t, lenOfX s with
  | some (.slice e), some n => (match E.size e, d with
    | some (z + 1), .slice (some a) l _ => (match firstX h (z + 1) (min n l) s with
      | some xs => cond (xs.all cellV)
          (match storeRow h a xs with
           | some h' => some (.int .i64 (min n l : Nat), h')
           | none => none) none
      | none => none)
    | some (_ + 1), .slice none 0 0 => some (.int .i64 0, h)
    | _, _ => none)
  | _, _ => none

/-- What an operation leads to. -/
inductive Nx where
  | value (v : Value) (h : Hp)
  | skip (h : Hp)
  | enter (f : FuncId) (args : Array Value)
  | round (l : Nat) (args : Array Value)
  | defer (d : Deferred)
  | recover
  | panic (v : Value)

def resolveX (tm : Tr Value) (c : Call) (type : TypeId) : Option Deferred :=
  match c.callee with
  | .builtin b => some { target := .builtin b c.argTypes type (c.args.map fun | .const _ => true | _ => false), args := c.args.map (ev tm) }
  | .invoke r name => some { target := .fn (.method name) #[], args := #[ev tm r] ++ c.args.map (ev tm) }
  | .value f => (match ev tm f with
    | .func fn first captured => some { target := .fn fn captured, args := first ++ c.args.map (ev tm) }
    | _ => none)

def mkPanic (E : Env) (m : String) : Value := .iface E.P.rt.errorString (strVal m)

/-- The method that an interface value's type has under a name: without embedding; the receiver is the value itself. -/
def methodX (E : Env) (t : TypeId) (name : String) : Option FuncId :=
  match E.ty t with
  | some i => (match i.methods.find? (·.name == name) with
    | some m => (match m.path.toList, m.func with
      | [], some (f, true) => (match i.desc with
        | .pointer _ => some f
        | _ => none)
      | [], some (f, false) => (match E.und t with
        | some (.pointer _) => none
        | some _ => some f
        | none => none)
      | _, _ => none)
    | none => none)
  | none => none

/-- maps.clone. -/
def cloneX (h : Hp) : List Value → Option Nx
  | [.iface t (.map (some r))] => (match h.get r with
    | some (.map es cl) => some (.value (.iface t (.map (some h.n))) (h.alloc (.map es cl)))
    | _ => none)
  | _ => none

def callFnX (E : Env) (h : Hp) (f : FuncId) (args : Array Value) : Option Nx :=
  cond (E.ext f) (cloneX h args.toList)
    (match E.fn f with
     | some fn => cond (fn.body.isSome && !(fn.name == "runtime.NumGoroutine")) (some (.enter f args)) none
     | none => none)

def invokeX (E : Env) (h : Hp) (d : Deferred) : Option Nx :=
  match d.target with
  | .fn (.func f) cap => callFnX E h f (d.args ++ cap)
  | .fn (.yield l) _ => some (.round l d.args)
  | .fn (.method name) _ => (match d.args.toList with
    | .iface t v :: rest => (match methodX E t name with
      | some f => callFnX E h f (#[v] ++ rest.toArray)
      | none => none)
    | _ => none)
  | .builtin b ts _ _ => (match b, ts[0]?, d.args.toList with
    | .append, some t, [s, x] => (match ts[1]? with
      | some t' => (match appendX E h t t' s x with | some (v, h') => some (.value v h') | none => none)
      | none => none)
    | .copy, some t, [a, b] => (match copyX E h t a b with | some (v, h') => some (.value v h') | none => none)
    | .delete, some t, [m, k] => (match deleteX E h t m k with | some h' => some (.value (.tuple #[]) h') | none => none)
    | .recover, _, _ => some .recover
    | .panic, _, x :: _ => (match x with | .iface t v => some (.panic (.iface t v)) | _ => none)
    | _, _, _ => none)
  | _ => none

/-- What an operation that writes, calls or leaves does. -/
def writeX (E : Env) (tm : Tr Value) (o : Oper) (h : Hp) : Option Nx :=
  match o.op with
  | .store t a x => (match ev tm a with
    | .pointer (some a) => (match storeX E t a (ev tm x) h with | some h' => some (.skip h') | none => none)
    | _ => none)
  | .mapUpdate t m k x => (match mapPutX E h t (ev tm m) (ev tm k) (ev tm x) with | some h' => some (.skip h') | none => none)
  | .insert t m k x => (match mapPutX E h t (ev tm m) (ev tm k) (ev tm x) with | some h' => some (.skip h') | none => none)
  | .mapEntry t m k => (match mapEntryX E h t (ev tm m) (ev tm k) with | some (v, h') => some (.value v h') | none => none)
  | .entryStore _ m s x => (match entryStoreX h (ev tm m) (ev tm s) (ev tm x) with | some h' => some (.skip h') | none => none)
  | .range t x => (match E.und t, ev tm x with
    | some .string, .string s => some (.value (ptrTo h.n) (h.alloc (.str s 0)))
    | _, _ => none)
  | .next it true => (match ev tm it with
    | .pointer (some ⟨r, 0, none⟩) => (match h.get r with
      | some (.str s p) => cond (Nat.blt p s.size)
          (some (.value (.tuple #[.bool true, .int .i64 p, .int .i32 (Utf8.decode s p).1]) (h.put r (.str s (p + (Utf8.decode s p).2)))))
          (some (.value (.tuple #[.bool false]) h))
      | _ => none)
    | _ => none)
  | .convert src dst x => (match E.und src, E.und dst, ev tm x with
    | some _, some (.slice e), .string s => (match E.und e with
      | some (.int .u8) => some (.value (.slice (some ⟨h.n, 0, none⟩) s.size s.size) (h.alloc (.cells (s.data.toList.map fun b => .int .u8 b.toNat) e 3)))
      | _ => none)
    | _, _, _ => none)
  | .call c => (match resolveX tm c o.type with
    | some d => invokeX E h d
    | none => none)
  | .defer c => (match resolveX tm c o.type with
    | some d => some (.defer d)
    | none => none)
  | .panic x => (match ev tm x with
    | .iface t v => some (.panic (.iface t v))
    | _ => none)
  | _ => none

end Go.X
