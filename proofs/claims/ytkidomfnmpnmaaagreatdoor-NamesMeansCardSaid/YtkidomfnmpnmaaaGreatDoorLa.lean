/- What names mean: the resolver, plainly (plain). Conditions: none. Names that are changed everywhere alike mean the same (plain). Conditions: the change is one to one among the tree's texts, and keeps what is a type's word. Texts that are read from the left: words, numbers, what may stand behind a term (plain). Conditions: none. Trees of twigs, which may be, and their texts (plain). Conditions: none. What the resolver keeps true as it goes over a tree (plain). Conditions: a tree that may be. What the resolver keeps true: a local's use, captures (plain). Conditions: a tree that may be. What the resolver keeps true: functions, blocks, locals, all twigs (plain). Conditions: a tree that may be. What the resolver keeps true: all twigs of a tree (plain). Conditions: a tree that may be, of at most 1000 twigs, texts of at most 100 bytes. Kids gone over one by one: what holds ahead of each (plain). Conditions: a tree that may be. What a block's kids are gone over from; a rule's premises (plain). Conditions: a tree that may be. The declarations, one by one; the start of what is gone over (plain). Conditions: none. Chapter 4: strconv.FormatInt at base 10, strconv.Itoa, laid at this program by the kit's tool. Conditions: none. Chapter 4: the machine over the chapter's program; what is laid anew by one call (words, forms, rules); FormatInt, Itoa, known as calls that are not gone through. Conditions: the tables (strings.asciiSpace; internal/strconv.uint64pow10). Chapter 4: the machine over the chapter's program, with all its summaries. Conditions: the tables (strings.asciiSpace; internal/strconv.uint64pow10). Chapter 4: what twigs are; how tightly they bind; letters, digits, words, names. Conditions: the table of blanks, for words. Chapter 4: words and names. Conditions: the table of blanks, for words. Chapter 4: names, of the program and of the document. Conditions: the table of blanks. -/
import Derived.Test.YtkidomfnmpnmaaaGreatDoorXa
import Derived.Lib.ItoaNum
import Derived.Lib.ItoaLen
import Derived.Shelf.Strconv.Itoa4
import Derived.Ground.NamesProg
import Derived.Test.YtkidomfnmpnmaaaGreatDoorProg
import Derived.Test.YtkidomfnmpnmaaaGreatDoorRows
import Derived.Test.YtkidomfnmpnmaaaGreatDoorXd
import Derived.Test.YtkidomfnmpnmaaaGreatDoorXc
namespace Go.Nam
abbrev Txt := ByteArray
structure V where
  n : Nat
  K : Int → Int
  s : Int → Txt
  N : Int → Int
  ln : Int → Int
  co : Int → Int
  ks : Int → List Int
structure Fun where
  tw : Int
  up : Int
  nm : Txt
  caps : List Int
structure Sco where
  loc : Txt → Option Int
  ow : Int
structure Nst where
  means : List (Int × Int)
  owners : List Int
  lo : List Int
  cl : List Int
  gl : List Int
  cp : List Int
  ev : List Int
  funcs : List Fun
  main : Int
  wrong : List (Int × Int × Int)
  glob : Txt → Option (Int × Int)
  scopes : List Sco
  owner : Int
  inner : Int
  mains : Int
def put {α : Type} (F : Txt → Option α) (t : Txt) (v : α) : Txt → Option α := fun u => if u = t then some v else F u
def dot : Txt := ⟨#[46]⟩
def Q0c (n : Int) : Txt := ⟨(Go.Lib.itoa n).toArray⟩
def Q6b (N : Int) : Txt := if N = 0 then ⟨#[99, 114, 101, 97, 116, 101]⟩ else if N = 1 then ⟨#[115, 116, 97, 114, 116]⟩ else if N = 2 then ⟨#[115, 116, 111, 112]⟩ else ⟨#[100, 101, 115, 116, 114, 111, 121]⟩
def Q5z (l : List Txt) (t : Txt) : Bool := l.any fun u => decide (u = t)
def mainT : Txt := ⟨#[109, 97, 105, 110]⟩
def QbL : List Txt := [⟨#[105, 110, 116]⟩, ⟨#[102, 110]⟩, ⟨#[116, 111, 107]⟩, ⟨#[104, 97, 110, 100]⟩, ⟨#[97, 114, 114]⟩]
def Q1V (K : Int) : Bool := decide (K ∈ [7, 9, 10, 11, 36])
def ZI (K : Int) : Bool := decide (K ∈ [2, 3, 6, 7, 8, 10])
section
variable (T : V)
def tell (st : Nst) (i e : Int) : Nst := { st with wrong := st.wrong ++ [(T.ln i, T.co i, e)] }
def Kq (st : Nst) (i : Int) (kinds : List Int) : Nst :=
  let m := (st.glob (T.s i)).getD (0, 0)
  if m.1 ∈ kinds then { st with means := st.means.set i.toNat m } else tell T st i 6
def Q2m (st : Nst) (fs : Int) (i : Int) : Nst × Int :=
  let K := T.K i
  let p : Nst × Int × Int :=
    if K = 2 then ({ st with lo := st.lo ++ [i] }, 4, st.lo.length) else
    if K = 3 then ({ st with cl := st.cl ++ [i] }, 5, st.cl.length) else
    if K = 6 then ({ st with gl := st.gl ++ [i] }, 2, st.gl.length) else
    if K = 8 then ({ st with cp := st.cp ++ [i] }, 0, st.cp.length) else
    if K = 10 then ({ st with ev := st.ev ++ [i] }, 6, st.ev.length) else
    if K = 7 then (st, 3, fs) else (st, 0, -1)
  let fs' := if Q1V K = true then fs + 1 else fs
  (if 0 ≤ p.2.2 ∧ st.glob (T.s i) = none then { p.1 with glob := put st.glob (T.s i) (p.2.1, p.2.2) } else p.1, fs')
def QA : Nat → Nst × Int
  | 0 => (⟨List.replicate T.n (0, 0), List.replicate T.n 0, [], [], [], [], [], [], 0, [], fun _ => none, [], -1, 0, 0⟩, 0)
  | k + 1 => Q2m T (QA k).1 (QA k).2 k
def Jd (t : Txt) : List Sco → Option (Int × Int)
  | [] => none
  | s :: r => match s.loc t with
    | some v => some (v, s.ow)
    | none => Jd t r
def Z5 (fs : List Fun) (f v : Int) : List Fun := fs.modify f.toNat fun x => if v ∈ x.caps then x else { x with caps := x.caps ++ [v] }
def Jm (fs : List Fun) (f : Int) : Int := match fs[f.toNat]? with
  | some x => x.up
  | none => -1
def Qdm (fs : List Fun) (f : Int) : Txt := match fs[f.toNat]? with
  | some x => x.nm
  | none => .empty
def Jk (v ow : Int) : Nat → List Fun → Int → List Fun
  | 0, fs, _ => fs
  | k + 1, fs, f => if f = ow then fs else Jk v ow k (Z5 fs f v) (Jm fs f)
def Q7y (st : Nst) (i : Int) : Nst := match Jd (T.s i) st.scopes.reverse with
  | some (v, ow) => { st with means := st.means.set i.toNat (1, v), funcs := Jk v ow (st.funcs.length + 1) st.funcs st.owner }
  | none => Kq T st i [2, 3]
variable (rec : Nst → Int → Nst)
def KM (st : Nst) (i : Int) (fr : Nat) : Nst := ((T.ks i).drop fr).foldl rec st
def Q0O (st : Nst) (i : Int) (fr : Nat) (nm : Txt) : Nst :=
  { KM T rec { st with owner := st.funcs.length, funcs := st.funcs ++ [⟨i, st.owner, nm, []⟩], inner := if st.owner < 0 then 0 else st.inner } i fr with owner := st.owner }
def Q35 (st : Nst) (i : Int) : Nst :=
  let st2 := KM T rec { st with scopes := st.scopes ++ [⟨fun _ => none, st.owner⟩] } i 0
  { st2 with scopes := st2.scopes.dropLast }
def Q8j (st : Nst) (t : Txt) : Bool := match st.scopes.getLast? with
  | some s => (s.loc t).isSome
  | none => false
def setLast (sc : List Sco) (t : Txt) (i : Int) : List Sco := sc.modify (sc.length - 1) fun s => { s with loc := put s.loc t i }
def Q2P (st : Nst) (i : Int) : Nst :=
  let st1 := KM T rec (if Q8j st (T.s i) = true then tell T st i 7 else st) i 0
  if Q8j st (T.s i) = true then st1 else { st1 with scopes := setLast st1.scopes (T.s i) i }
def Qeu (i : Int) : Int := (T.ks i).headD 0
def Zh (st : Nst) (i : Int) : Nst := Kq T { st with owners := st.owners.set (Qeu T i).toNat st.owner } (Qeu T i) [4]
def typS (st : Nst) (i : Int) : Nst := if Q5z QbL (T.s i) = true then st else Kq T st i [5]
def Q0E (key : Int → Txt) : List Int → List Txt → Nst → Nst
  | [], _, st => st
  | k :: l, seen, st => Q0E key l (key k :: seen) (rec (if Q5z seen (key k) = true then tell T st k 7 else st) k)
def Ys (t : Txt) : Option Nat := (List.range T.n).find? fun j => decide (T.s j = t) && ZI (T.K j)
def YS (st : Nst) (i : Int) : Nst :=
  let st1 := if ((Ys T (T.s i)).getD 0 : Int) < i then tell T st i 7 else st
  if T.K i = 3 then Q0E T rec T.s (T.ks i) [] st1 else
  if T.K i = 8 then Q0E T rec (fun k => Q0c (T.N k)) ((T.ks i).drop 1) [] (Zh T st1 i) else
  if T.K i = 10 then Q0O T rec (Zh T st1 i) i 1 (T.s i) else
  if T.K i = 7 then Q0O T rec st1 i 0 (T.s i) else KM T rec st1 i 0
def Q7g (st : Nst) (i : Int) : Nst :=
  let st1 := { st with mains := st.mains + 1 }
  let st2 := if 1 < st1.mains then tell T st1 i 7 else st1
  Q0O T rec { st2 with main := st2.funcs.length } i 0 mainT
def lastOf (l : List Int) (i : Int) : Int := l.foldl (fun c k => if k < i then k else c) 0
def Qdu (st : Nst) (i : Int) : Nst := Q0O T rec st i 0 (T.s (lastOf st.cp i) ++ dot ++ Q6b (T.N i))
def Q0t (fs : List Fun) : Nat → Int → Int
  | 0, f => f
  | k + 1, f => if 0 ≤ Jm fs f then Q0t fs k (Jm fs f) else f
def Q43 (st : Nst) (i : Int) : Nst := Q0O T rec { st with inner := st.inner + 1 } i 0 (Qdm st.funcs (Q0t st.funcs st.funcs.length st.owner) ++ dot ++ Q0c (st.inner + 1))
def Q2u (st : Nst) (i : Int) : Nst :=
  let K := T.K i
  if K = 11 then Q7g T rec st i else if K = 9 then Qdu T rec st i else if K = 36 then Q43 T rec st i else if K = 12 then Q35 T rec st i else
  if K = 13 then Q2P T rec st i else if K = 29 then Q7y T st i else if K = 5 then typS T st i else
  if K = 19 then KM T rec (Kq T st i [4]) i 0 else if K = 21 ∨ K = 22 then Kq T st i [6] else if K = 33 then Kq T st i [5] else
  if ZI K = true then YS T rec st i else KM T rec st i 0
end
def visit (T : V) : Nat → Nst → Int → Nst
  | 0, st, _ => st
  | k + 1, st, i => Q2u T (visit T k) { st with owners := st.owners.set i.toNat st.owner } i
def Q28 (T : V) : Bool := (List.range T.n).any fun j => decide (T.K j = 11)
def Q1K (T : V) : Nst :=
  let st := (QA T T.n).1
  let st1 := if Q28 T = true then st else tell T st 0 13
  if st1.lo = [] then tell T st1 0 13 else st1
def Z0 (T : V) : Nst := visit T (T.n + 1) (Q1K T) 0
end Go.Nam
namespace Go.Nam
inductive F2 {α β : Type} (R : α → β → Prop) : List α → List β → Prop
  | nil : F2 R [] []
  | cons {a b l m} (h : R a b) (t : F2 R l m) : F2 R (a :: l) (b :: m)
structure Ren (T U : V) (ρ : Txt → Txt) : Prop where
  n : U.n = T.n
  K : U.K = T.K
  N : U.N = T.N
  ln : U.ln = T.ln
  co : U.co = T.co
  ks : U.ks = T.ks
  s : ∀ i, U.s i = ρ (T.s i)
  inj : ∀ i j, ρ (T.s i) = ρ (T.s j) → T.s i = T.s j
  five : ∀ i, Q5z QbL (ρ (T.s i)) = Q5z QbL (T.s i)
def FRel {α : Type} (T : V) (ρ : Txt → Txt) (F G : Txt → Option α) : Prop := ∀ i, G (ρ (T.s i)) = F (T.s i)
structure FunRel (x y : Fun) : Prop where
  tw : y.tw = x.tw
  up : y.up = x.up
  caps : y.caps = x.caps
structure ScRel (T : V) (ρ : Txt → Txt) (x y : Sco) : Prop where
  loc : FRel T ρ x.loc y.loc
  ow : y.ow = x.ow
structure StRel (T : V) (ρ : Txt → Txt) (a b : Nst) : Prop where
  means : b.means = a.means
  owners : b.owners = a.owners
  lo : b.lo = a.lo
  cl : b.cl = a.cl
  gl : b.gl = a.gl
  cp : b.cp = a.cp
  ev : b.ev = a.ev
  funcs : F2 FunRel a.funcs b.funcs
  main : b.main = a.main
  wrong : b.wrong = a.wrong
  glob : FRel T ρ a.glob b.glob
  scopes : F2 (ScRel T ρ) a.scopes b.scopes
  owner : b.owner = a.owner
  inner : b.inner = a.inner
  mains : b.mains = a.mains
theorem Qcq {α β : Type} {R : α → β → Prop} {l : List α} {m : List β} (h : F2 R l m) : m.length = l.length := by
  induction h with
  | nil => rfl
  | cons _ _ ih => simp [ih]
theorem Qcr {α β : Type} {R : α → β → Prop} {l l2 : List α} {m m2 : List β} (h : F2 R l m) (h2 : F2 R l2 m2) : F2 R (l ++ l2) (m ++ m2) := by
  induction h with
  | nil => exact h2
  | cons a _ ih => exact .cons a ih
theorem Qef {α β : Type} {R : α → β → Prop} {l : List α} {m : List β} (h : F2 R l m) : F2 R l.dropLast m.dropLast := by
  induction h with
  | nil => exact .nil
  | cons a h ih =>
    cases h with
    | nil => exact .nil
    | cons b h => exact .cons a ih
theorem f2_get {α β : Type} {R : α → β → Prop} {l : List α} {m : List β} (h : F2 R l m) (i : Nat) : (l[i]? = none ∧ m[i]? = none) ∨ ∃ x y, l[i]? = some x ∧ m[i]? = some y ∧ R x y := by
  induction h generalizing i with
  | nil => exact .inl ⟨rfl, rfl⟩
  | cons a h ih =>
    cases i with
    | zero => exact .inr ⟨_, _, rfl, rfl, a⟩
    | succ i => exact ih i
section
variable {T U : V} {ρ : Txt → Txt} (Q : Ren T U ρ)
include Q
variable {rec rec' : Nst → Int → Nst} (hr : ∀ a b i, StRel T ρ a b → StRel T ρ (rec a i) (rec' b i))
include hr
end
end Go.Nam
namespace Go.Ap
open Go.Lib
abbrev B := List UInt8
def isW (b : UInt8) : Bool := (decide (48 ≤ b.toNat) && decide (b.toNat ≤ 57)) || (decide (97 ≤ b.toNat) && decide (b.toNat ≤ 122)) || (decide (65 ≤ b.toNat) && decide (b.toNat ≤ 90)) || decide (b.toNat = 95)
def isG (b : UInt8) : Bool := decide (48 ≤ b.toNat) && decide (b.toNat ≤ 57)
abbrev AllW (s : B) : Prop := ∀ b, b ∈ s → isW b = true
def kws : List B := [[110, 117, 108, 108], [105, 116], [110, 101, 119], [102, 110], [97, 114, 114], [108, 101, 110], [118, 97, 114], [99, 97, 108, 108], [99, 97, 110, 99, 101, 108], [106, 111, 105, 110], [108, 111, 103], [112, 111, 115, 116], [115, 112, 97, 119, 110], [101, 110, 97, 98, 108, 101], [100, 105, 115, 97, 98, 108, 101], [114, 101, 116, 117, 114, 110], [105, 102], [119, 104, 105, 108, 101]]
structure Nm (s : B) : Prop where
  all : AllW s
  ne : s ≠ []
  dg : ∀ b l, s = b :: l → isG b = false
  kw : s ∉ kws
abbrev nt (N : Int) : B := itoa N
def opL : List B := [[43], [45], [42], [60], [61, 61]]
end Go.Ap
namespace Go.Ap
inductive G where
  | mk (K : Int) (s : B) (N : Int) (ks : List G)
def G.K : G → Int
  | .mk K _ _ _ => K
abbrev isT (K : Int) : Prop := 26 ≤ K ∧ K ≤ 36
abbrev isS (K : Int) : Prop := 13 ≤ K ∧ K ≤ 25
abbrev isV (K : Int) : Prop := 29 ≤ K ∧ K ≤ 31
abbrev isD (K : Int) : Prop := K = 2 ∨ K = 3 ∨ K = 6 ∨ K = 7 ∨ K = 8 ∨ K = 10 ∨ K = 11
abbrev Big (N : Int) : Prop := 0 ≤ N ∧ N ≤ 2147483647
inductive Fm : Int → B → Int → List G → Prop
  | prog {ks} (h : ∀ k, k ∈ ks → isD k.K) : Fm 1 [] 0 ks
  | looper {s} (h : Nm s) : Fm 2 s 0 []
  | cls {s ks} (h : Nm s) (hk : ∀ k, k ∈ ks → k.K = 4) : Fm 3 s 0 ks
  | mem {s t} (h : Nm s) (ht : t.K = 5) : Fm 4 s 0 [t]
  | typ {s} (h : AllW s) (h1 : s ≠ []) : Fm 5 s 0 []
  | glob {s t} (h : Nm s) (ht : t.K = 5) : Fm 6 s 0 [t]
  | func {s b} (h : Nm s) (hb : b.K = 12) : Fm 7 s 0 [b]
  | comp {s u ks} (h : Nm s) (hu : u.K = 29) (hk : ∀ k, k ∈ ks → k.K = 9) : Fm 8 s 0 (u :: ks)
  | life {N b} (h : 0 ≤ N ∧ N ≤ 3) (hb : b.K = 12) : Fm 9 [] N [b]
  | event {s N u b} (h : Nm s) (hN : N = 0 ∨ N = 1) (hu : u.K = 29) (hb : b.K = 12) : Fm 10 s N [u, b]
  | main {b} (hb : b.K = 12) : Fm 11 [] 0 [b]
  | block {ks} (h : ∀ k, k ∈ ks → isS k.K) : Fm 12 [] 0 ks
  | var {s t x} (h : Nm s) (ht : t.K = 5) (hx : isT x.K) : Fm 13 s 0 [t, x]
  | set {v x} (hv : isV v.K) (hx : isT x.K) : Fm 14 [] 0 [v, x]
  | word {K x} (hK : 15 ≤ K ∧ K ≤ 18) (hx : isT x.K) : Fm K [] 0 [x]
  | post {s N x} (h : Nm s) (hN : -1 ≤ N ∧ N ≤ 2147483647) (hx : isT x.K) : Fm 19 s N [x]
  | posto {s N x v} (h : Nm s) (hN : -1 ≤ N ∧ N ≤ 2147483647) (hx : isT x.K) (hv : isV v.K) : Fm 19 s N [x, v]
  | spawn {x} (hx : isT x.K) : Fm 20 [] 0 [x]
  | spawno {x v} (hx : isT x.K) (hv : isV v.K) : Fm 20 [] 0 [x, v]
  | able {K s} (hK : K = 21 ∨ K = 22) (h : Nm s) : Fm K s 0 []
  | iff {c a b} (hc : isT c.K) (ha : a.K = 12) (hb : b.K = 12) : Fm 23 [] 0 [c, a, b]
  | whil {c a} (hc : isT c.K) (ha : a.K = 12) : Fm 24 [] 0 [c, a]
  | ret : Fm 25 [] 0 []
  | num {N} (h : Big N) : Fm 26 [] N []
  | null : Fm 27 [] 0 []
  | it : Fm 28 [] 0 []
  | use {s} (h : Nm s) : Fm 29 s 0 []
  | dot {s x} (h : Nm s) (hx : isT x.K) : Fm 30 s 0 [x]
  | ix {x y} (hx : isT x.K) (hy : isT y.K) : Fm 31 [] 0 [x, y]
  | op {s x y} (h : s ∈ opL) (hx : isT x.K) (hy : isT y.K) : Fm 32 s 0 [x, y]
  | new {s} (h : Nm s) : Fm 33 s 0 []
  | arr {K x} (hK : K = 34 ∨ K = 35) (hx : isT x.K) : Fm K [] 0 [x]
  | fn {b} (hb : b.K = 12) : Fm 36 [] 0 [b]
def lw (N : Int) : B := if N = 0 then [99, 114, 101, 97, 116, 101] else if N = 1 then [115, 116, 97, 114, 116] else if N = 2 then [115, 116, 111, 112] else [100, 101, 115, 116, 114, 111, 121]
def fr (N : Int) : B := if N < 0 then [32, 102, 114, 111, 110, 116] else if 0 < N then 32 :: 97 :: 102 :: 116 :: 101 :: 114 :: 32 :: nt N else []
end Go.Ap
namespace Go.Nam
open Go.Ap
def kds (R : Nat → Nat → Prop) : List Int → Nat → Nat → Prop
  | [], p, n => p = n
  | k :: l, p, n => k = p ∧ ∃ q, R p q ∧ kds R l q n
def sub (T : V) : Nat → Nat → Nat → Prop
  | 0, _, _ => False
  | k + 1, a, n => a < T.n ∧ kds (sub T k) (T.ks a) (a + 1) n
def Sb (T : V) (a n : Nat) : Prop := ∃ k, sub T k a n
structure Mc (T : V) (i : Nat) (u : Nat) : Prop where
  lo : 1 ≤ u
  lt : u < i
  K : T.K u = 13
  s : T.s u = T.s i
  en : ∃ e, Sb T u e ∧ e ≤ i
  blk : ∃ B e, Sb T B e ∧ T.K B = 12 ∧ (u : Int) ∈ T.ks B ∧ B < i ∧ i < e
inductive Ch (fs : List Fun) : Int → Int → Prop
  | refl {f} (h : 0 ≤ f) : Ch fs f f
  | step {f g} (h : 0 ≤ f) (c : Ch fs (Jm fs f) g) : Ch fs f g
structure Loc (T : V) (st : Nst) (p : Nat) (s : Sco) (B : Nat) (u : Nat) (t : Txt) : Prop where
  K : T.K u = 13
  tx : T.s u = t
  lo : 1 ≤ u
  mem : (u : Int) ∈ T.ks B
  en : ∃ e, Sb T u e ∧ e ≤ p
  ow : st.owners[u]? = some s.ow
structure ScOk (T : V) (st : Nst) (p : Nat) (s : Sco) (x : Nat × Nat) : Prop where
  sb : Sb T x.1 x.2
  K : T.K x.1 = 12
  lt : x.1 < p
  loc : ∀ t v, s.loc t = some v → ∃ u : Nat, v = u ∧ Loc T st p s x.1 u t
structure CapOk (st : Nst) (p : Nat) (j : Nat) (f : Fun) (v : Int) : Prop where
  up : 0 ≤ f.up
  own : ∃ u : Nat, v = u ∧ u < p ∧ ∃ o, st.owners[u]? = some o ∧ o ≠ j ∧ (o = f.up ∨ ∃ g, st.funcs[f.up.toNat]? = some g ∧ v ∈ g.caps)
structure Inv (T : V) (st : Nst) (p : Nat) (bl : List (Nat × Nat)) (w : Nat) : Prop where
  lm : st.means.length = T.n
  lw : st.owners.length = T.n
  o1 : -1 ≤ st.owner
  o2 : st.owner < st.funcs.length
  up : ∀ (j : Nat) f, st.funcs[j]? = some f → -1 ≤ f.up ∧ f.up < j
  nm : ∀ (j : Nat) f, st.funcs[j]? = some f → f.nm.size ≤ 1000 * (j + 1)
  cp : ∀ k, k ∈ st.cp → 0 ≤ k ∧ k < T.n
  bw : st.wrong.length ≤ w
  bf : st.funcs.length ≤ p
  bs : st.scopes.length ≤ p
  bc : ∀ f, f ∈ st.funcs → f.caps.length ≤ p
  i1 : 0 ≤ st.inner
  i2 : st.inner ≤ p
  m1 : 0 ≤ st.mains
  m2 : st.mains ≤ p
  sc : F2 (ScOk T st p) st.scopes bl
  ch : ∀ o, o ∈ st.scopes.map Sco.ow → Ch st.funcs st.owner o
  mn : ∀ (i : Nat) v, st.means[i]? = some (1, v) → ∃ u : Nat, v = u ∧ Mc T i u
  cf : ∀ (j : Nat) f, st.funcs[j]? = some f → ∀ v, v ∈ f.caps → CapOk st p j f v
structure Keep (p : Nat) (a b : Nst) : Prop where
  ow : b.owner = a.owner
  owners : ∀ u : Nat, u < p → b.owners[u]? = a.owners[u]?
  funcs : ∀ (j : Nat) f, a.funcs[j]? = some f → ∃ g, b.funcs[j]? = some g ∧ g.up = f.up ∧ ∀ v, v ∈ f.caps → v ∈ g.caps
  cp : b.cp = a.cp
  sow : b.scopes.map Sco.ow = a.scopes.map Sco.ow
theorem Keep.refl (p : Nat) (a : Nst) : Keep p a a := ⟨rfl, fun _ _ => rfl, fun _ f h => ⟨f, h, rfl, fun _ hv => hv⟩, rfl, rfl⟩
theorem Keep.trans {p q : Nat} {a b c : Nst} (h : Keep p a b) (k : Keep q b c) (hq : p ≤ q) : Keep p a c :=
  ⟨k.ow.trans h.ow, fun u hu => (k.owners u (by omega)).trans (h.owners u hu), fun j f hf => by
    obtain ⟨g, h1, h2, h3⟩ := h.funcs j f hf; obtain ⟨g', k1, k2, k3⟩ := k.funcs j g h1
    exact ⟨g', k1, k2.trans h2, fun v hv => k3 v (h3 v hv)⟩, k.cp.trans h.cp, k.sow.trans h.sow⟩
theorem Ch.keep {fs gs : List Fun} (hk : ∀ (j : Nat) f, fs[j]? = some f → ∃ g, gs[j]? = some g ∧ g.up = f.up) {f g : Int} (c : Ch fs f g) (hl : f < fs.length) (hu : ∀ (j : Nat) f, fs[j]? = some f → f.up < j) : Ch gs f g := by
  induction c with
  | refl h => exact .refl h
  | @step f g h c ih =>
    have hj : f.toNat < fs.length := by omega
    obtain ⟨x, hx, hxu⟩ := hk f.toNat _ (List.getElem?_eq_getElem hj); have e1 : Jm fs f = fs[f.toNat].up := by unfold Jm; rw [List.getElem?_eq_getElem hj]
    have e2 : Jm gs f = fs[f.toNat].up := by unfold Jm; rw [hx]; exact hxu
    have := hu f.toNat _ (List.getElem?_eq_getElem hj); refine .step h ?_; rw [e2, ← e1]; exact ih (by rw [e1]; omega)
theorem Je {α β : Type} {R Q : α → β → Prop} {l : List α} {m : List β} (h : F2 R l m) (hi : ∀ a b, a ∈ l → b ∈ m → R a b → Q a b) : F2 Q l m := by
  induction h with
  | nil => exact .nil
  | cons a _ ih => exact .cons (hi _ _ (by simp) (by simp) a) (ih fun x y hx hy => hi x y (by simp [hx]) (by simp [hy]))
theorem f2_mem {α β : Type} {R : α → β → Prop} {l : List α} {m : List β} (h : F2 R l m) {a : α} (ha : a ∈ l) : ∃ b, b ∈ m ∧ R a b := by
  induction h with
  | nil => cases ha
  | @cons x y l m r _ ih =>
    rcases List.mem_cons.1 ha with rfl | ha
    · exact ⟨y, by simp, r⟩
    obtain ⟨b, h1, h2⟩ := ih ha; exact ⟨b, by simp [h1], h2⟩
theorem Loc.up {T : V} {st st' : Nst} {p q : Nat} {s : Sco} {B u : Nat} {t : Txt} (h : Loc T st p s B u t) (hq : p ≤ q) (ho : st'.owners[u]? = st.owners[u]?) : Loc T st' q s B u t := by
  obtain ⟨e, h1, h2⟩ := h.en; exact ⟨h.K, h.tx, h.lo, h.mem, ⟨e, h1, by omega⟩, ho.trans h.ow⟩
theorem sub_lt {T : V} : ∀ {k a n : Nat}, sub T k a n → a < n ∧ a < T.n
  | 0, _, _, h => h.elim
  | k + 1, a, n, h => by
    obtain ⟨h1, h2⟩ := h
    have key : ∀ (l : List Int) (p n : Nat), kds (sub T k) l p n → p ≤ n := fun l => by
      induction l with
      | nil => intro p n h; exact Nat.le_of_eq h
      | cons b l ih =>
        intro p n h; obtain ⟨_, q, h3, h4⟩ := h; have := (sub_lt h3).1; have := ih q n h4; omega
    have := key _ _ _ h2; exact ⟨by omega, h1⟩
theorem Q26 {T : V} {k : Nat} : ∀ {l : List Int} {p n : Nat}, kds (sub T k) l p n → p ≤ n
  | [], _, _, h => Nat.le_of_eq h
  | b :: l, p, n, h => by
    obtain ⟨_, q, h3, h4⟩ := h; have := (sub_lt h3).1; have := Q26 h4; omega
theorem Sb.lt {T : V} {a n : Nat} (h : Sb T a n) : a < n := by obtain ⟨k, h⟩ := h; exact (sub_lt h).1
section
variable {T : V} {st st' : Nst} {p q : Nat} {bl : List (Nat × Nat)} {w : Nat}
theorem Inv.on (I : Inv T st p bl w) (hq : p ≤ q) {w' : Nat} (hw : w ≤ w') : Inv T st q bl w' :=
  { I with
    bw := Nat.le_trans I.bw hw
    bf := Nat.le_trans I.bf hq
    bs := Nat.le_trans I.bs hq
    bc := fun f hf => Nat.le_trans (I.bc f hf) hq
    i2 := by have := I.i2; omega
    m2 := by have := I.m2; omega
    sc := Je I.sc fun s x _ _ h => ⟨h.sb, h.K, by have := h.lt; omega, fun t v hv => by
      obtain ⟨u, e, hl⟩ := h.loc t v hv
      exact ⟨u, e, hl.up hq rfl⟩⟩
    cf := fun j f hf v hv => by
      obtain ⟨h1, u, h2, h3, h4⟩ := I.cf j f hf v hv
      exact ⟨h1, u, h2, by omega, h4⟩ }
theorem Inv.tell (I : Inv T st p bl w) (i e : Int) : Inv T (tell T st i e) p bl (w + 1) :=
  { I with
    bw := by
      show (st.wrong ++ _).length ≤ _; rw [List.length_append]; have := I.bw; simp; omega
    sc := Je I.sc fun s x _ _ h => ⟨h.sb, h.K, h.lt, fun t v hv => by
      obtain ⟨u, e, hl⟩ := h.loc t v hv
      exact ⟨u, e, hl.up (Nat.le_refl _) rfl⟩⟩
    cf := fun j f hf v hv => by
      obtain ⟨h1, u, h2, h3, h4⟩ := I.cf j f hf v hv
      exact ⟨h1, u, h2, h3, h4⟩ }
theorem Inv.mean (I : Inv T st p bl w) (i : Int) (ks : List Int) (h1 : (1 : Int) ∉ ks) : Inv T (Kq T st i ks) p bl (w + 1) := by
  unfold Kq; simp only
  split
  · rename_i hm
    exact { I with
      lm := by show (st.means.set _ _).length = _; rw [List.length_set]; exact I.lm
      bw := by have := I.bw; show st.wrong.length ≤ _; omega
      mn := fun j v hj => by
        have hj : (st.means.set i.toNat ((st.glob (T.s i)).getD (0, 0)))[j]? = some (1, v) := hj; rw [List.getElem?_set] at hj
        split at hj
        · split at hj
          · simp only [Option.some.injEq] at hj; rw [hj] at hm; exact absurd hm h1
          cases hj
        exact I.mn j v hj
      sc := Je I.sc fun s x _ _ h => ⟨h.sb, h.K, h.lt, fun t v hv => by
        obtain ⟨u, e, hl⟩ := h.loc t v hv
        exact ⟨u, e, hl.up (Nat.le_refl _) rfl⟩⟩
      cf := fun j f hf v hv => by
        obtain ⟨h1, u, h2, h3, h4⟩ := I.cf j f hf v hv
        exact ⟨h1, u, h2, h3, h4⟩ }
  exact I.tell i 6
theorem YM (i e : Int) : Keep p st (tell T st i e) := ⟨rfl, fun _ _ => rfl, fun _ f h => ⟨f, h, rfl, fun _ hv => hv⟩, rfl, rfl⟩
theorem YN (i : Int) (ks : List Int) : Keep p st (Kq T st i ks) := by
  unfold Kq; simp only
  split
  · exact ⟨rfl, fun _ _ => rfl, fun _ f h => ⟨f, h, rfl, fun _ hv => hv⟩, rfl, rfl⟩
  exact YM i 6
theorem Inv.owner (I : Inv T st p bl w) {i : Nat} (hi : p ≤ i) (o : Int) : Inv T { st with owners := st.owners.set i o } p bl w :=
  { I with
    lw := by show (st.owners.set _ _).length = _; rw [List.length_set]; exact I.lw
    sc := Je I.sc fun s x _ _ h => ⟨h.sb, h.K, h.lt, fun t v hv => by
      obtain ⟨u, e, hl⟩ := h.loc t v hv; refine ⟨u, e, hl.up (Nat.le_refl _) ?_⟩; obtain ⟨e', h1, h2⟩ := hl.en; have := h1.lt; show (st.owners.set i o)[u]? = _
      rw [List.getElem?_set, if_neg (by omega)]⟩
    cf := fun j f hf v hv => by
      obtain ⟨h1, u, h2, h3, o', h4, h5⟩ := I.cf j f hf v hv; refine ⟨h1, u, h2, h3, o', ?_, h5⟩; show (st.owners.set i o)[u]? = _
      rw [List.getElem?_set, if_neg (by omega)]; exact h4 }
theorem Q2S {i : Nat} (hi : p ≤ i) (o : Int) : Keep p st { st with owners := st.owners.set i o } :=
  ⟨rfl, fun u hu => by show (st.owners.set i o)[u]? = _; rw [List.getElem?_set, if_neg (by omega)], fun _ f h => ⟨f, h, rfl, fun _ hv => hv⟩, rfl, rfl⟩
end
end Go.Nam
namespace Go.Nam
open Go.Ap
theorem Ch.nonneg {fs : List Fun} {f g : Int} (c : Ch fs f g) : 0 ≤ f := by cases c <;> assumption
theorem Q5y {fs : List Fun} {f v : Int} {j : Nat} {x : Fun} (h : fs[j]? = some x) : (Z5 fs f v)[j]? = some (if f.toNat = j then (if v ∈ x.caps then x else { x with caps := x.caps ++ [v] }) else x) := by
  unfold Z5; rw [List.getElem?_modify, h]; simp only [Option.map_eq_map, Option.map_some]
theorem Q0V {fs : List Fun} {f v : Int} : (Z5 fs f v).length = fs.length := by simp [Z5]
structure CapTo (v ow : Int) (gs : List Fun) (j : Nat) (x y : Fun) : Prop where
  up : y.up = x.up
  nm : y.nm = x.nm
  tw : y.tw = x.tw
  caps : y.caps = x.caps ∨ (v ∉ x.caps ∧ y.caps = x.caps ++ [v])
  why : v ∈ y.caps → v ∈ x.caps ∨ ((j : Int) ≠ ow ∧ 0 ≤ x.up ∧ (x.up = ow ∨ ∃ z, gs[x.up.toNat]? = some z ∧ v ∈ z.caps))
theorem Qag {v ow : Int} : ∀ (k : Nat) (fs : List Fun) (f : Int), (Jk v ow k fs f).length = fs.length
  | 0, _, _ => rfl
  | k + 1, fs, f => by
    unfold Jk
    split
    · rfl
    rw [Qag k, Q0V]
theorem Q7m {v ow : Int} : ∀ (k : Nat) (fs : List Fun) (f : Int), Ch fs f ow → f < fs.length → (∀ (j : Nat) x, fs[j]? = some x → x.up < j) → f < k →
    (∀ (j : Nat) x, fs[j]? = some x → ∃ y, (Jk v ow k fs f)[j]? = some y ∧ CapTo v ow (Jk v ow k fs f) j x y) ∧ (f ≠ ow → ∃ z, (Jk v ow k fs f)[f.toNat]? = some z ∧ v ∈ z.caps)
  | 0, fs, f, c, _, _, hk => by have := c.nonneg; omega
  | k + 1, fs, f, c, hl, hu, hk => by
    unfold Jk; by_cases e : f = ow
    · rw [if_pos e]; exact ⟨fun j x hx => ⟨x, hx, rfl, rfl, rfl, .inl rfl, fun hv => .inl hv⟩, fun hn => absurd e hn⟩
    rw [if_neg e]; have h0 := c.nonneg
    have c1 : Ch fs (Jm fs f) ow := by
      cases c with
      | refl _ => exact absurd rfl e
      | step _ c => exact c
    have hj : f.toNat < fs.length := by omega
    have eu : Jm fs f = fs[f.toNat].up := by unfold Jm; rw [List.getElem?_eq_getElem hj]
    have hup := hu f.toNat _ (List.getElem?_eq_getElem hj); have hkp : ∀ (j : Nat) x, fs[j]? = some x → ∃ g, (Z5 fs f v)[j]? = some g ∧ g.up = x.up := fun j x hx => ⟨_, Q5y hx, by split <;> (try split) <;> rfl⟩
    have hu1 : ∀ (j : Nat) x, (Z5 fs f v)[j]? = some x → x.up < j := fun j x hx => by
      have hjl : j < fs.length := by
        have := (List.getElem?_eq_some_iff.1 hx).1; rwa [Q0V] at this
      obtain ⟨g, h1, h2⟩ := hkp j _ (List.getElem?_eq_getElem hjl); rw [hx] at h1; cases h1; rw [h2]; exact hu j _ (List.getElem?_eq_getElem hjl)
    have c2 : Ch (Z5 fs f v) (Jm fs f) ow := c1.keep hkp (by rw [eu]; omega) (fun j f hf => hu j f hf); obtain ⟨ih1, ih2⟩ := Q7m k (Z5 fs f v) (Jm fs f) c2 (by rw [Q0V, eu]; omega) hu1 (by rw [eu]; omega); refine ⟨fun j x hx => ?_, fun _ => ?_⟩
    · obtain ⟨y, hy, q⟩ := ih1 j _ (Q5y hx); refine ⟨y, hy, ?_⟩; by_cases ej : f.toNat = j
      · subst ej; rw [if_pos rfl] at q; have ex : x = fs[f.toNat] := by rw [List.getElem?_eq_getElem hj] at hx; exact (Option.some.inj hx).symm
        have why : v ∈ y.caps → v ∈ x.caps ∨ (((f.toNat : Nat) : Int) ≠ ow ∧ 0 ≤ x.up ∧ (x.up = ow ∨ ∃ z, (Jk v ow k (Z5 fs f v) (Jm fs f))[x.up.toNat]? = some z ∧ v ∈ z.caps)) := fun _ => by
          right; have e3 : x.up = Jm fs f := by rw [ex, eu]
          refine ⟨by omega, by rw [e3]; exact c1.nonneg, ?_⟩; by_cases e4 : Jm fs f = ow
          · exact .inl (by rw [e3, e4])
          rw [e3]; exact .inr (ih2 e4)
        by_cases hv : v ∈ x.caps
        · rw [if_pos hv] at q; exact ⟨q.up, q.nm, q.tw, q.caps, why⟩
        rw [if_neg hv] at q; refine ⟨q.up, q.nm, q.tw, .inr ⟨hv, ?_⟩, why⟩; rcases q.caps with h | ⟨h, _⟩
        · exact h
        exact absurd (by simp) h
      rw [if_neg ej] at q; exact q
    obtain ⟨y, hy, q⟩ := ih1 f.toNat _ (Q5y (List.getElem?_eq_getElem hj)); refine ⟨y, hy, ?_⟩; rw [if_pos rfl] at q
    have hin : v ∈ (if v ∈ fs[f.toNat].caps then fs[f.toNat] else { fs[f.toNat] with caps := fs[f.toNat].caps ++ [v] }).caps := by
      split
      · assumption
      simp
    rcases q.caps with h | ⟨h, _⟩
    · rw [h]; exact hin
    exact absurd hin h
theorem Q5f {t : Txt} : ∀ {l : List Sco} {v ow : Int}, Jd t l = some (v, ow) → ∃ s, s ∈ l ∧ s.loc t = some v ∧ ow = s.ow
  | [], _, _, h => by cases h
  | s :: l, v, ow, h => by
    unfold Jd at h
    split at h
    · rename_i u hu; cases h; exact ⟨s, by simp, hu, rfl⟩
    obtain ⟨s', h1, h2, h3⟩ := Q5f h; exact ⟨s', by simp [h1], h2, h3⟩
section
variable {T : V} {st : Nst} {bl : List (Nat × Nat)} {w n a : Nat}
theorem Inv.use (I : Inv T st a bl w) (hn : a < n) (hb : ∀ x, x ∈ bl → n ≤ x.2) : Inv T (Q7y T st a) (a + 1) bl (w + 1) ∧ Keep a st (Q7y T st a) := by
  unfold Q7y
  split
  · rename_i v ow hf; obtain ⟨s, hs, hsv, rfl⟩ := Q5f hf; rw [List.mem_reverse] at hs; obtain ⟨x, hx, ho⟩ := f2_mem I.sc hs; obtain ⟨u, rfl, hl⟩ := ho.loc _ _ hsv; obtain ⟨e, he, hep⟩ := hl.en; have hue := he.lt; have hu := fun (j : Nat) (x : Fun) h => (I.up j x h).2; obtain ⟨c1, _⟩ := Q7m (v := (u : Int)) (st.funcs.length + 1) st.funcs st.owner (I.ch _ (List.mem_map_of_mem hs)) I.o2 hu (by have := I.o2; omega); have clen := Qag (v := (u : Int)) (ow := s.ow) (st.funcs.length + 1) st.funcs st.owner; generalize Jk (u : Int) s.ow (st.funcs.length + 1) st.funcs st.owner = gs at c1 clen
    have back : ∀ (j : Nat) y, gs[j]? = some y → ∃ x, st.funcs[j]? = some x ∧ CapTo u s.ow gs j x y := fun j y hy => by
      have hj : j < st.funcs.length := by rw [← clen]; exact (List.getElem?_eq_some_iff.1 hy).1
      obtain ⟨y', h1, h2⟩ := c1 j _ (List.getElem?_eq_getElem hj); rw [hy] at h1; cases h1; exact ⟨_, List.getElem?_eq_getElem hj, h2⟩
    have hkp : ∀ (j : Nat) f, st.funcs[j]? = some f → ∃ g, gs[j]? = some g ∧ g.up = f.up := fun j f hf => by
      obtain ⟨y, h1, h2⟩ := c1 j f hf; exact ⟨y, h1, h2.up⟩
    refine ⟨{
      lm := by show (st.means.set _ _).length = _; rw [List.length_set]; exact I.lm
      lw := I.lw
      o1 := I.o1
      o2 := by show st.owner < gs.length; rw [clen]; exact I.o2
      up := fun j y hy => by
        obtain ⟨x, h1, h2⟩ := back j y hy; rw [h2.up]; exact I.up j x h1
      nm := fun j y hy => by
        obtain ⟨x, h1, h2⟩ := back j y hy; rw [h2.nm]; exact I.nm j x h1
      cp := I.cp
      bw := by have := I.bw; show st.wrong.length ≤ _; omega
      bf := by have := I.bf; show gs.length ≤ _; omega
      bs := by have := I.bs; show st.scopes.length ≤ _; omega
      bc := fun y hy => by
        obtain ⟨j, hj, rfl⟩ := List.mem_iff_getElem.1 hy; obtain ⟨x, h1, h2⟩ := back j _ (List.getElem?_eq_getElem hj); have := I.bc x (List.mem_of_getElem? h1); rcases h2.caps with h | ⟨_, h⟩
        · rw [h]; omega
        rw [h, List.length_append]; simp; omega
      i1 := I.i1
      i2 := by have := I.i2; show st.inner ≤ _; omega
      m1 := I.m1
      m2 := by have := I.m2; show st.mains ≤ _; omega
      sc := Je I.sc fun s' x' _ _ h => ⟨h.sb, h.K, by have := h.lt; omega, fun t v hv => by
        obtain ⟨u', e', hl'⟩ := h.loc t v hv
        exact ⟨u', e', hl'.up (by omega) rfl⟩⟩
      ch := fun o ho => (I.ch o ho).keep hkp I.o2 hu
      mn := fun j v hj => by
        have hj : (st.means.set a (1, (u : Int)))[j]? = some (1, v) := hj; rw [List.getElem?_set] at hj
        split at hj
        · split at hj
          · rename_i ej _; simp only [Option.some.injEq, Prod.mk.injEq, true_and] at hj; have hvu := hj.symm; subst ej; exact ⟨u, hvu, hl.lo, by omega, hl.K, hl.tx, ⟨e, he, hep⟩, x.1, x.2, ho.sb, ho.K, hl.mem, ho.lt, by have := hb x hx; omega⟩
          cases hj
        exact I.mn j v hj
      cf := fun j y hy v hv => by
        obtain ⟨x', h1, h2⟩ := back j y hy
        have old : v ∈ x'.caps → CapOk { st with means := st.means.set a (1, (u : Int)), funcs := gs } (a + 1) j y v := fun hv => by
          obtain ⟨k1, u', k2, k3, o, k4, k5, k6⟩ := I.cf j x' h1 v hv; refine ⟨by rw [h2.up]; exact k1, u', k2, by omega, o, k4, k5, ?_⟩; rw [h2.up]; rcases k6 with k6 | ⟨g, k6, k7⟩
          · exact .inl k6
          obtain ⟨g', k8, k9⟩ := c1 _ g k6; refine .inr ⟨g', k8, ?_⟩; rcases k9.caps with k | ⟨_, k⟩
          · rw [k]; exact k7
          rw [k]; simp [k7]
        have new : v = u → CapOk { st with means := st.means.set a (1, (u : Int)), funcs := gs } (a + 1) j y v := fun e => by
          subst e; rcases h2.why hv with k | ⟨k1, k2, k3⟩
          · exact old k
          refine ⟨by rw [h2.up]; exact k2, u, rfl, by omega, s.ow, hl.ow, fun e => k1 e.symm, ?_⟩; rw [h2.up]; rcases k3 with k3 | k3
          · exact .inl k3.symm
          exact .inr k3
        rcases h2.caps with h | ⟨_, h⟩
        · rw [h] at hv; exact old hv
        rw [h] at hv; rcases List.mem_append.1 hv with hv | hv
        · exact old hv
        exact new (List.mem_singleton.1 hv) }, rfl, fun _ _ => rfl, fun j f hf => ?_, rfl, rfl⟩
    obtain ⟨y, h1, h2⟩ := c1 j f hf; refine ⟨y, h1, h2.up, fun v hv => ?_⟩; rcases h2.caps with h | ⟨_, h⟩
    · rw [h]; exact hv
    rw [h]; simp [hv]
  exact ⟨(I.mean a [2, 3] (by decide)).on (by omega) (Nat.le_refl _), YN a _⟩
end
end Go.Nam
namespace Go.Nam
open Go.Ap
structure Ctx (T : V) (o : Int) (sow : List Int) (bl : List (Nat × Nat)) (i : Int) : Prop where
  s : isS (T.K i) → 0 ≤ o ∧ sow.getLast? = some o ∧ ∃ x, bl.getLast? = some x ∧ i ∈ T.ks x.1
  t : isT (T.K i) → 0 ≤ o
  b : T.K i = 12 → 0 ≤ o
theorem Q1b {T : V} {o : Int} {sow : List Int} {bl : List (Nat × Nat)} {i : Int} (h : 0 ≤ o) (hs : ¬ isS (T.K i)) : Ctx T o sow bl i := ⟨fun h => absurd h hs, fun _ => h, fun _ => h⟩
theorem Jj {T : V} {o : Int} {sow : List Int} {bl : List (Nat × Nat)} {i : Int} (h : ¬ isS (T.K i) ∧ ¬ isT (T.K i) ∧ T.K i ≠ 12) : Ctx T o sow bl i := ⟨fun h2 => absurd h2 h.1, fun h2 => absurd h2 h.2.1, fun h2 => absurd h2 h.2.2⟩
structure At (T : V) (st : Nst) (a n : Nat) (bl : List (Nat × Nat)) (w : Nat) : Prop where
  I : Inv T st a bl w
  en : ∀ x, x ∈ bl → n ≤ x.2
  cx : Ctx T st.owner (st.scopes.map Sco.ow) bl a
def Kx (T : V) (rec : Nst → Int → Nst) (k : Nat) : Prop := ∀ (a n : Nat) (st : Nst) (bl : List (Nat × Nat)) (w : Nat), sub T k a n → At T st a n bl w → Inv T (rec st a) n bl (w + (4 * (n - a) - 1)) ∧ Keep a st (rec st a)
section
variable {T : V} {rec : Nst → Int → Nst} {k : Nat} {st : Nst} {bl : List (Nat × Nat)} {w n a p : Nat}
theorem KO (hr : Kx T rec k) : ∀ {l : List Int} {p n : Nat} {st : Nst} {w : Nat}, kds (sub T k) l p n → Inv T st p bl w → (∀ x, x ∈ bl → n ≤ x.2) → (∀ j, j ∈ l → Ctx T st.owner (st.scopes.map Sco.ow) bl j) → Inv T (l.foldl rec st) n bl (w + 4 * (n - p)) ∧ Keep p st (l.foldl rec st)
  | [], p, n, st, w, h, I, _, _ => by
    obtain rfl : p = n := h; exact ⟨I.on (Nat.le_refl _) (by omega), .refl _ _⟩
  | j :: l, p, n, st, w, h, I, hb, hc => by
    obtain ⟨rfl, q, h3, h4⟩ := h; have hq := (sub_lt h3).1; have hqn := Q26 h4; obtain ⟨I2, K2⟩ := hr p q st bl w h3 ⟨I, fun x hx => by have := hb x hx; omega, hc _ (by simp)⟩; obtain ⟨I3, K3⟩ := KO hr h4 I2 hb (fun j hj => by rw [K2.ow, K2.sow]; exact hc j (by simp [hj])); exact ⟨I3.on (Nat.le_refl _) (by omega), K2.trans K3 (by omega)⟩
theorem Q3B (hr : Kx T rec k) {key : Int → Txt} : ∀ {l : List Int} {sn : List Txt} {p n : Nat} {st : Nst} {w : Nat}, kds (sub T k) l p n → Inv T st p bl w → (∀ x, x ∈ bl → n ≤ x.2) → (∀ j, j ∈ l → Ctx T st.owner (st.scopes.map Sco.ow) bl j) → Inv T (Q0E T rec key l sn st) n bl (w + 4 * (n - p)) ∧ Keep p st (Q0E T rec key l sn st)
  | [], _, p, n, st, w, h, I, _, _ => by
    obtain rfl : p = n := h; exact ⟨I.on (Nat.le_refl _) (by omega), .refl _ _⟩
  | j :: l, sn, p, n, st, w, h, I, hb, hc => by
    obtain ⟨rfl, q, h3, h4⟩ := h; have hq := (sub_lt h3).1; have hqn := Q26 h4; unfold Q0E
    have J : Inv T (if Q5z sn (key p) = true then tell T st p 7 else st) p bl (w + 1) ∧ Keep p st (if Q5z sn (key p) = true then tell T st p 7 else st) := by
      split
      · exact ⟨I.tell _ _, YM _ _⟩
      exact ⟨I.on (Nat.le_refl _) (by omega), .refl _ _⟩
    obtain ⟨J1, J2⟩ := J; generalize (if Q5z sn (key p) = true then tell T st p 7 else st) = s1 at J1 J2; obtain ⟨I2, K2⟩ := hr p q s1 bl (w + 1) h3 ⟨J1, fun x hx => by have := hb x hx; omega, by rw [J2.ow, J2.sow]; exact hc _ (by simp)⟩; obtain ⟨I3, K3⟩ := Q3B hr (sn := key p :: sn) h4 I2 hb (fun j hj => by rw [K2.ow, K2.sow, J2.ow, J2.sow]; exact hc j (by simp [hj])); exact ⟨I3.on (Nat.le_refl _) (by omega), (J2.trans K2 (Nat.le_refl _)).trans K3 (by omega)⟩
def Ze (st : Nst) (a : Int) (nm : Txt) : Nst := { st with owner := st.funcs.length, funcs := st.funcs ++ [⟨a, st.owner, nm, []⟩], inner := if st.owner < 0 then 0 else st.inner }
theorem Q2V {nm : Txt} (I : Inv T st a bl w) (hn : nm.size ≤ 1000 * (st.funcs.length + 1)) (st0 : Nst) (e0 : st0 = { st with inner := st0.inner, mains := st0.mains, main := st0.main }) (hi : 0 ≤ st0.inner ∧ st0.inner ≤ st.inner + 1) (hm : 0 ≤ st0.mains ∧ st0.mains ≤ st.mains + 1) : Inv T (Ze st0 a nm) (a + 1) bl w := by
  have hi2 := I.i2; have hm2 := I.m2; have hbf := I.bf; have f1 : st0.funcs = st.funcs := by rw [e0]
  have f2 : st0.owner = st.owner := by rw [e0]
  have get : ∀ (j : Nat) f, st.funcs[j]? = some f → (st.funcs ++ [(⟨a, st.owner, nm, []⟩ : Fun)])[j]? = some f := fun j f h => by
    rw [List.getElem?_append_left (List.getElem?_eq_some_iff.1 h).1]; exact h
  have back : ∀ (j : Nat) f, (st.funcs ++ [(⟨a, st.owner, nm, []⟩ : Fun)])[j]? = some f → st.funcs[j]? = some f ∨ (j = st.funcs.length ∧ f = ⟨a, st.owner, nm, []⟩) := fun j f h => by
    by_cases hj : j < st.funcs.length
    · rw [List.getElem?_append_left hj] at h; exact .inl h
    rw [List.getElem?_append_right (by omega)] at h; obtain ⟨h1, h2⟩ := List.getElem?_eq_some_iff.1 h; simp at h1; have : j - st.funcs.length = 0 := by omega
    refine .inr ⟨by omega, ?_⟩; rw [← h2]; simp [this]
  have hup : ∀ (j : Nat) (f : Fun), st.funcs[j]? = some f → f.up < j := fun j f h => (I.up j f h).2
  have hlast : Jm (st.funcs ++ [(⟨a, st.owner, nm, []⟩ : Fun)]) st.funcs.length = st.owner := by
    unfold Jm; rw [Int.toNat_natCast, List.getElem?_append_right (Nat.le_refl _)]; simp
  show Inv T { st0 with owner := st0.funcs.length, funcs := st0.funcs ++ [⟨a, st0.owner, nm, []⟩], inner := if st0.owner < 0 then 0 else st0.inner } (a + 1) bl w; rw [f1, f2]; have e1 : st0.means = st.means := by rw [e0]
  have e2 : st0.owners = st.owners := by rw [e0]
  have e3 : st0.cp = st.cp := by rw [e0]
  have e4 : st0.wrong = st.wrong := by rw [e0]
  have e5 : st0.scopes = st.scopes := by rw [e0]
  exact {
    lm := by show st0.means.length = _; rw [e1]; exact I.lm
    lw := by show st0.owners.length = _; rw [e2]; exact I.lw
    o1 := by show (-1 : Int) ≤ st.funcs.length; omega
    o2 := by show (st.funcs.length : Int) < ((st.funcs ++ [_]).length : Nat); rw [List.length_append]; simp; omega
    up := fun j f h => by
      rcases back j f h with h | ⟨rfl, rfl⟩
      · exact I.up j f h
      exact ⟨I.o1, I.o2⟩
    nm := fun j f h => by
      rcases back j f h with h | ⟨rfl, rfl⟩
      · exact I.nm j f h
      exact hn
    cp := fun k hk => I.cp k (by rw [← e3]; exact hk)
    bw := by show st0.wrong.length ≤ _; rw [e4]; exact I.bw
    bf := by show (st.funcs ++ [_]).length ≤ _; rw [List.length_append]; simp; omega
    bs := by have := I.bs; show st0.scopes.length ≤ _; rw [e5]; omega
    bc := fun f hf => by
      rcases List.mem_append.1 hf with hf | hf
      · have := I.bc f hf; omega
      rw [List.mem_singleton.1 hf]; simp
    i1 := by show 0 ≤ (if st.owner < 0 then 0 else st0.inner); split <;> omega
    i2 := by show (if st.owner < 0 then 0 else st0.inner) ≤ _; split <;> omega
    m1 := hm.1
    m2 := by show st0.mains ≤ _; omega
    sc := by
      show F2 _ st0.scopes bl; rw [e5]
      exact Je I.sc fun s x _ _ h => ⟨h.sb, h.K, by have := h.lt; omega, fun t v hv => by
        obtain ⟨u, e, hl⟩ := h.loc t v hv
        exact ⟨u, e, hl.up (by omega) (by show st0.owners[u]? = _; rw [e2])⟩⟩
    ch := fun o ho => by
      have ho : o ∈ st0.scopes.map Sco.ow := ho; rw [e5] at ho; refine .step (by show (0 : Int) ≤ st.funcs.length; omega) ?_; show Ch _ (Jm (st.funcs ++ [_]) st.funcs.length) o; rw [hlast]; exact (I.ch o ho).keep (fun j f h => ⟨f, get j f h, rfl⟩) I.o2 hup
    mn := fun i v h => I.mn i v (by rw [← e1]; exact h)
    cf := fun j f h v hv => by
      rcases back j f h with h | ⟨rfl, rfl⟩
      · obtain ⟨k1, u, k2, k3, o, k4, k5, k6⟩ := I.cf j f h v hv; refine ⟨k1, u, k2, by omega, o, by show st0.owners[u]? = _; rw [e2]; exact k4, k5, ?_⟩; rcases k6 with k6 | ⟨g, k6, k7⟩
        · exact .inl k6
        exact .inr ⟨g, get _ g k6, k7⟩
      cases hv }
theorem Jx (hr : Kx T rec k) {fr : Nat} {nm : Txt} (I : Inv T st a bl w) (hk : kds (sub T k) ((T.ks a).drop fr) p n) (hp : a + 1 ≤ p) (hb : ∀ x, x ∈ bl → n ≤ x.2) (hn : nm.size ≤ 1000 * (st.funcs.length + 1)) (hc : ∀ j, j ∈ (T.ks a).drop fr → ¬ isS (T.K j))
    (st0 : Nst) (e0 : st0 = { st with inner := st0.inner, mains := st0.mains, main := st0.main }) (hi : 0 ≤ st0.inner ∧ st0.inner ≤ st.inner + 1) (hm : 0 ≤ st0.mains ∧ st0.mains ≤ st.mains + 1) :
    Inv T (Q0O T rec st0 a fr nm) n bl (w + 4 * (n - p)) ∧ Keep a st (Q0O T rec st0 a fr nm) := by
  have hi2 := I.i2; have hm2 := I.m2; have hbf := I.bf; have f1 : st0.funcs = st.funcs := by rw [e0]
  have f2 : st0.owner = st.owner := by rw [e0]
  have get : ∀ (j : Nat) f, st.funcs[j]? = some f → (st.funcs ++ [(⟨a, st.owner, nm, []⟩ : Fun)])[j]? = some f := fun j f h => by
    rw [List.getElem?_append_left (List.getElem?_eq_some_iff.1 h).1]; exact h
  have back : ∀ (j : Nat) f, (st.funcs ++ [(⟨a, st.owner, nm, []⟩ : Fun)])[j]? = some f → st.funcs[j]? = some f ∨ (j = st.funcs.length ∧ f = ⟨a, st.owner, nm, []⟩) := fun j f h => by
    by_cases hj : j < st.funcs.length
    · rw [List.getElem?_append_left hj] at h; exact .inl h
    rw [List.getElem?_append_right (by omega)] at h; obtain ⟨h1, h2⟩ := List.getElem?_eq_some_iff.1 h; simp at h1; have : j - st.funcs.length = 0 := by omega
    refine .inr ⟨by omega, ?_⟩; rw [← h2]; simp [this]
  have hup : ∀ (j : Nat) (f : Fun), st.funcs[j]? = some f → f.up < j := fun j f h => (I.up j f h).2
  have hlast : Jm (st.funcs ++ [(⟨a, st.owner, nm, []⟩ : Fun)]) st.funcs.length = st.owner := by
    unfold Jm; rw [Int.toNat_natCast, List.getElem?_append_right (Nat.le_refl _)]; simp
  have J : Inv T { st0 with owner := st0.funcs.length, funcs := st0.funcs ++ [⟨a, st0.owner, nm, []⟩], inner := if st0.owner < 0 then 0 else st0.inner } (a + 1) bl w := Q2V I hn st0 e0 hi hm; unfold Q0O KM; obtain ⟨I2, K2⟩ := KO hr hk (J.on hp (Nat.le_refl _)) hb (fun j hj => Q1b (by show (0 : Int) ≤ (st0.funcs.length : Int); omega) (hc j hj)); generalize List.foldl rec { st0 with owner := st0.funcs.length, funcs := st0.funcs ++ [⟨a, st0.owner, nm, []⟩], inner := if st0.owner < 0 then 0 else st0.inner } ((T.ks a).drop fr) = s2 at I2 K2 ⊢
  have K3 : ∀ (j : Nat) f, st.funcs[j]? = some f → ∃ g, s2.funcs[j]? = some g ∧ g.up = f.up ∧ ∀ v, v ∈ f.caps → v ∈ g.caps := fun j f h => K2.funcs j f (by
    show (st0.funcs ++ [_])[j]? = _
    rw [f1, f2]; exact get j f h)
  have K4 : ∀ o, o ∈ s2.scopes.map Sco.ow → Ch s2.funcs st.owner o := fun o ho => by
    rw [K2.sow] at ho; have ho : o ∈ st0.scopes.map Sco.ow := ho; have e5 : st0.scopes = st.scopes := by rw [e0]
    rw [e5] at ho; exact (I.ch o ho).keep (fun j f h => by obtain ⟨g, h1, h2, _⟩ := K3 j f h; exact ⟨g, h1, h2⟩) I.o2 hup
  have L : st.owner < (s2.funcs.length : Int) := by
    by_cases h0 : st.owner < 0
    · omega
    have h9 := I.o2; obtain ⟨g, h1, _⟩ := K3 st.owner.toNat _ (List.getElem?_eq_getElem (show st.owner.toNat < st.funcs.length by omega)); have := (List.getElem?_eq_some_iff.1 h1).1; omega
  refine ⟨{ I2 with o1 := ?_, o2 := ?_, sc := ?_, ch := ?_, cf := ?_ }, f2, fun u hu => ?_, K3, ?_, ?_⟩
  · show -1 ≤ st0.owner; rw [f2]; exact I.o1
  · show st0.owner < _; rw [f2]; exact L
  · exact Je I2.sc fun s x _ _ h => ⟨h.sb, h.K, h.lt, fun t v hv => by
      obtain ⟨u, e, hl⟩ := h.loc t v hv
      exact ⟨u, e, hl.up (Nat.le_refl _) rfl⟩⟩
  · intro o ho; show Ch _ st0.owner o; rw [f2]; exact K4 o ho
  · exact fun j f h v hv => by
      obtain ⟨k1, u, k2, k3, o, k4, k5, k6⟩ := I2.cf j f h v hv; exact ⟨k1, u, k2, k3, o, k4, k5, k6⟩
  · have := K2.owners u (by omega); refine this.trans ?_; show st0.owners[u]? = _; rw [e0]
  · refine K2.cp.trans ?_; show st0.cp = _; rw [e0]
  refine K2.sow.trans ?_; show st0.scopes.map _ = _; rw [e0]
theorem Qan (hr : Kx T rec k) (I : Inv T st a bl w) (hs : Sb T a n) (hK : T.K a = 12) (hk : kds (sub T k) (T.ks a) (a + 1) n) (hb : ∀ x, x ∈ bl → n ≤ x.2) (ho : 0 ≤ st.owner) : Inv T (Q35 T rec st a) n bl (w + 4 * (n - (a + 1))) ∧ Keep a st (Q35 T rec st a) := by
  unfold Q35 KM
  have J : Inv T { st with scopes := st.scopes ++ [⟨fun _ => none, st.owner⟩] } (a + 1) (bl ++ [(a, n)]) w := by
    have J := I.on (Nat.le_succ a) (Nat.le_refl w)
    exact { J with
      bs := by have := I.bs; show (st.scopes ++ [_]).length ≤ _; rw [List.length_append]; simp; omega
      sc := Qcr (Je J.sc fun s x _ _ h => ⟨h.sb, h.K, h.lt, fun t v hv => by
          obtain ⟨u, e, hl⟩ := h.loc t v hv
          exact ⟨u, e, hl.up (Nat.le_refl _) rfl⟩⟩) (.cons ⟨hs, hK, Nat.lt_succ_self a, fun t v hv => by cases hv⟩ .nil)
      ch := fun o h => by
        have h : o ∈ (st.scopes ++ [(⟨fun _ => none, st.owner⟩ : Sco)]).map Sco.ow := h; rw [List.map_append] at h; rcases List.mem_append.1 h with h | h
        · exact I.ch o h
        rw [List.map_singleton, List.mem_singleton] at h; subst h; exact .refl ho
      cf := fun j f h v hv => by
        obtain ⟨k1, u, k2, k3, o, k4, k5, k6⟩ := J.cf j f h v hv
        exact ⟨k1, u, k2, k3, o, k4, k5, k6⟩ }
  obtain ⟨I2, K2⟩ := KO hr (l := (T.ks a).drop 0) hk J (fun x hx => by
    rcases List.mem_append.1 hx with hx | hx
    · exact hb x hx
    rw [List.mem_singleton.1 hx]; exact Nat.le_refl _) (fun j hj => ⟨fun _ => ⟨ho, by
      show ((st.scopes ++ [_]).map Sco.ow).getLast? = _
      rw [List.map_append]; simp, (a, n), by simp, hj⟩, fun _ => ho, fun _ => ho⟩)
  have hsow : (List.foldl rec { st with scopes := st.scopes ++ [⟨fun _ => none, st.owner⟩] } ((T.ks a).drop 0)).scopes.dropLast.map Sco.ow = st.scopes.map Sco.ow := by
    rw [List.map_dropLast, K2.sow]; show ((st.scopes ++ [_]).map Sco.ow).dropLast = _; rw [List.map_append]; simp
  refine ⟨{ I2 with bs := ?_, sc := ?_, ch := ?_, cf := ?_ }, K2.ow, fun u hu => K2.owners u (by omega), K2.funcs, K2.cp, hsow⟩
  · exact Nat.le_trans (by show (List.dropLast _).length ≤ _; rw [List.length_dropLast]; exact Nat.sub_le _ _) I2.bs
  · have := Qef I2.sc; rw [List.dropLast_append_of_ne_nil (by simp)] at this; simp only [List.dropLast_singleton, List.append_nil] at this
    exact Je this fun s x _ _ h => ⟨h.sb, h.K, h.lt, fun t v hv => by
      obtain ⟨u, e, hl⟩ := h.loc t v hv
      exact ⟨u, e, hl.up (Nat.le_refl _) rfl⟩⟩
  · intro o h; have h : o ∈ (List.foldl rec { st with scopes := st.scopes ++ [⟨fun _ => none, st.owner⟩] } ((T.ks a).drop 0)).scopes.dropLast.map Sco.ow := h; refine I2.ch o ?_; rw [List.map_dropLast] at h; exact (List.dropLast_sublist _).subset h
  exact fun j f h v hv => by
    obtain ⟨k1, u, k2, k3, o, k4, k5, k6⟩ := I2.cf j f h v hv; exact ⟨k1, u, k2, k3, o, k4, k5, k6⟩
end
end Go.Nam
namespace Go.Nam
open Go.Ap
structure Shp (T : V) : Prop where
  fm : ∀ i : Nat, i < T.n → Fm (T.K i) (T.s i).toList (T.N i) ((T.ks i).map fun k => G.mk (T.K k) [] 0 [])
  s : ∀ i, (T.s i).size ≤ 100
  n : T.n ≤ 1000
theorem Q2a {α : Type} {l : List α} {x : α} (h : l.getLast? = some x) : 0 < l.length ∧ l[l.length - 1]? = some x := by
  rw [List.getLast?_eq_getElem?] at h; have := (List.getElem?_eq_some_iff.1 h).1; exact ⟨by omega, h⟩
theorem f2_at {α β : Type} {R : α → β → Prop} {l : List α} {m : List β} (h : F2 R l m) {i : Nat} {x : α} {y : β} (hx : l[i]? = some x) (hy : m[i]? = some y) : R x y := by
  rcases f2_get h i with ⟨e, _⟩ | ⟨x', y', e1, e2, r⟩
  · rw [e] at hx; cases hx
  rw [e1] at hx; rw [e2] at hy; cases hx; cases hy; exact r
theorem Qee {α β : Type} {R : α → β → Prop} {f : α → α} {l : List α} {m : List β} (h : F2 R l m) : ∀ (i : Nat), (∀ x y, l[i]? = some x → m[i]? = some y → R x y → R (f x) y) → F2 R (l.modify i f) m := by
  induction h with
  | nil => intro i _; rw [List.modify_nil]; exact .nil
  | cons a h ih =>
    intro i hf; cases i with
    | zero => rw [List.modify_zero_cons]; exact .cons (hf _ _ rfl rfl a) h
    | succ i => rw [List.modify_succ_cons]; exact .cons a (ih i fun x y e1 e2 r => hf x y e1 e2 r)
theorem Q9s {α β : Type} {f : α → β} {g : α → α} (hg : ∀ x, f (g x) = f x) : ∀ (l : List α) (i : Nat), (l.modify i g).map f = l.map f
  | [], i => by rw [List.modify_nil]
  | a :: l, 0 => by rw [List.modify_zero_cons, List.map_cons, List.map_cons, hg]
  | a :: l, i + 1 => by rw [List.modify_succ_cons, List.map_cons, List.map_cons, Q9s hg l i]
theorem Qcg (l : List Sco) (t : Txt) (i : Int) : (setLast l t i).map Sco.ow = l.map Sco.ow := Q9s (f := Sco.ow) (g := fun s => { s with loc := put s.loc t i }) (fun _ => rfl) l _
section
variable {T : V} {rec : Nst → Int → Nst} {k : Nat} {st : Nst} {bl : List (Nat × Nat)} {w n a p : Nat}
theorem Q9u (hr : Kx T rec k) (I : Inv T st a bl w) (hs : Sb T a n) (hK : T.K a = 13) (hk : kds (sub T k) (T.ks a) (a + 1) n) (hb : ∀ x, x ∈ bl → n ≤ x.2) (hc : ∀ j, j ∈ T.ks a → ¬ isS (T.K j)) (cx : Ctx T st.owner (st.scopes.map Sco.ow) bl a) (ho : st.owners[a]? = some st.owner) :
    Inv T (Q2P T rec st a) n bl (w + 1 + 4 * (n - (a + 1))) ∧ Keep a st (Q2P T rec st a) := by
  obtain ⟨h0, hsow, x, hx, hxa⟩ := cx.s (by rw [hK]; decide); have ha := hs.lt; unfold Q2P KM
  have J : Inv T (if Q8j st (T.s a) = true then tell T st a 7 else st) a bl (w + 1) ∧ Keep a st (if Q8j st (T.s a) = true then tell T st a 7 else st) ∧ (if Q8j st (T.s a) = true then tell T st a 7 else st).owners = st.owners := by
    split
    · exact ⟨I.tell _ _, YM _ _, rfl⟩
    exact ⟨I.on (Nat.le_refl _) (by omega), .refl _ _, rfl⟩
  obtain ⟨J1, J2, J3⟩ := J; generalize (if Q8j st (T.s a) = true then tell T st a 7 else st) = s1 at J1 J2 J3; obtain ⟨I2, K2⟩ := KO hr (l := (T.ks a).drop 0) hk (J1.on (Nat.le_succ a) (Nat.le_refl _)) hb (fun j hj => Q1b (by rw [J2.ow]; exact h0) (hc j hj)); have K3 := J2.trans K2 (Nat.le_succ a)
  have ho2 : (List.foldl rec s1 ((T.ks a).drop 0)).owners[a]? = some st.owner := by
    rw [K2.owners a (Nat.lt_succ_self a), J3]; exact ho
  generalize List.foldl rec s1 ((T.ks a).drop 0) = s2 at I2 K2 K3 ho2
  split
  · exact ⟨I2, K3⟩
  have hx1 := Q2a hx; have hl2 : bl.length = s2.scopes.length := Qcq I2.sc
  have hows : (s2.scopes.map Sco.ow)[s2.scopes.length - 1]? = some st.owner := by
    rw [K3.sow]; have h5 : (st.scopes.map Sco.ow).length = s2.scopes.length := by rw [← K3.sow, List.length_map]
    have := (Q2a hsow).2; rwa [h5] at this
  refine ⟨{ I2 with bs := ?_, sc := ?_, ch := ?_, cf := ?_ }, K3.ow, K3.owners, K3.funcs, K3.cp, ?_⟩
  · show (List.modify _ _ _).length ≤ _; rw [List.length_modify]; exact I2.bs
  · refine Qee (R := ScOk T { s2 with scopes := setLast s2.scopes (T.s a) a } n) (Je I2.sc fun s x _ _ h => ⟨h.sb, h.K, h.lt, fun t v hv => by
      obtain ⟨u, e, hl⟩ := h.loc t v hv
      exact ⟨u, e, hl.up (Nat.le_refl _) rfl⟩⟩) _ fun s y e1 e2 r => ?_
    rw [← hl2, hx1.2] at e2; cases e2; refine ⟨r.sb, r.K, r.lt, fun t v hv => ?_⟩; have hv : put s.loc (T.s a) (a : Int) t = some v := hv; unfold put at hv
    split at hv
    · rename_i et; cases hv; subst et
      have hxl : x.1 < a := by
        rw [← hl2] at e1; have h7 : 0 < bl.length := hx1.1; have h8 := Qcq I.sc; have h9 : (st.scopes)[bl.length - 1]? = some (st.scopes[bl.length - 1]'(by omega)) := List.getElem?_eq_getElem _; exact (f2_at I.sc h9 hx1.2).lt
      refine ⟨a, rfl, hK, rfl, by omega, hxa, ⟨n, hs, Nat.le_refl _⟩, ?_⟩; rw [List.getElem?_map, e1] at hows; simp only [Option.map_some, Option.some.injEq] at hows; rw [show ({ s with loc := put s.loc (T.s a) (a : Int) } : Sco).ow = st.owner from hows]; exact ho2
    obtain ⟨u, e, hl⟩ := r.loc t v hv; exact ⟨u, e, ⟨hl.K, hl.tx, hl.lo, hl.mem, hl.en, hl.ow⟩⟩
  · intro o h; have h : o ∈ (setLast s2.scopes (T.s a) a).map Sco.ow := h; rw [Qcg] at h; exact I2.ch o h
  · exact fun j f h v hv => by
      obtain ⟨k1, u, k2, k3, o, k4, k5, k6⟩ := I2.cf j f h v hv; exact ⟨k1, u, k2, k3, o, k4, k5, k6⟩
  show (setLast s2.scopes (T.s a) a).map _ = _; rw [Qcg]; exact K3.sow
theorem Q2O (I : Inv T st a bl w) (h : Qeu T a = ((a + 1 : Nat) : Int)) : Inv T (Zh T st a) a bl (w + 1) ∧ Keep a st (Zh T st a) := by
  unfold Zh; rw [h, Int.toNat_natCast]; exact ⟨(I.owner (i := a + 1) (by omega) st.owner).mean _ [4] (by decide), (Q2S (by omega) _).trans (YN _ _) (Nat.le_refl _)⟩
theorem Q9y {l : List Int} {i : Int} {m : Nat} (h : ∀ k, k ∈ l → 0 ≤ k ∧ k < m) (hm : 0 < m) : 0 ≤ lastOf l i ∧ lastOf l i < m := by
  unfold lastOf
  have key : ∀ (l : List Int) (c : Int), (∀ k, k ∈ l → 0 ≤ k ∧ k < m) → 0 ≤ c ∧ c < m → 0 ≤ l.foldl (fun c k => if k < i then k else c) c ∧ l.foldl (fun c k => if k < i then k else c) c < m := fun l => by
    induction l with
    | nil => intro c _ hc; exact hc
    | cons b l ih =>
      intro c h hc; rw [List.foldl_cons]; refine ih _ (fun k hk => h k (by simp [hk])) ?_
      split
      · exact h b (by simp)
      exact hc
  exact key l 0 h ⟨by omega, by omega⟩
theorem Qce {fs : List Fun} (hu : ∀ (j : Nat) f, fs[j]? = some f → -1 ≤ f.up ∧ f.up < j) : ∀ (k : Nat) (f : Int), 0 ≤ f → f < fs.length → 0 ≤ Q0t fs k f ∧ Q0t fs k f ≤ f
  | 0, f, h0, _ => ⟨h0, Int.le_refl _⟩
  | k + 1, f, h0, hl => by
    unfold Q0t; have hj : f.toNat < fs.length := by omega
    have e : Jm fs f = fs[f.toNat].up := by unfold Jm; rw [List.getElem?_eq_getElem hj]
    have := hu f.toNat _ (List.getElem?_eq_getElem hj)
    split
    · have := Qce hu k (Jm fs f) (by assumption) (by omega); omega
    exact ⟨h0, Int.le_refl _⟩
theorem Q1u (a b : ByteArray) : (a ++ b).size = a.size + b.size := ByteArray.size_append
theorem Q2T {n : Int} (h0 : 0 ≤ n) (h1 : n ≤ 1000000) : (Q0c n).size ≤ 21 := by
  have := Go.Lib.itoa_length_le n (by omega) (by omega); simpa [Q0c, ByteArray.size] using this
theorem Q4S (N : Int) : (Q6b N).size ≤ 10 := by
  unfold Q6b
  split
  · decide
  split
  · decide
  split <;> decide
theorem Q4T (P : Shp T) (N i : Int) (l : List Int) : (T.s (lastOf l i) ++ dot ++ Q6b N).size ≤ 1000 := by
  rw [Q1u, Q1u]; have := P.s (lastOf l i); have := Q4S N; have : dot.size = 1 := rfl; omega
theorem Qdl (I : Inv T st a bl w) (f : Int) (h : f ≤ st.owner) (h0 : 0 ≤ f) : (Qdm st.funcs f).size ≤ 1000 * st.funcs.length := by
  have h1 := I.o2; have hj : f.toNat < st.funcs.length := by omega
  unfold Qdm; rw [List.getElem?_eq_getElem hj]; have := I.nm f.toNat _ (List.getElem?_eq_getElem hj); show (st.funcs[f.toNat].nm).size ≤ _; omega
theorem Q1c (I : Inv T st a bl w) (h0 : 0 ≤ st.owner) (ha : a ≤ 1000) : (Qdm st.funcs (Q0t st.funcs st.funcs.length st.owner) ++ dot ++ Q0c (st.inner + 1)).size ≤ 1000 * (st.funcs.length + 1) := by
  obtain ⟨h1, h2⟩ := Qce I.up st.funcs.length st.owner h0 I.o2; have := Qdl I _ h2 h1; have hi1 := I.i1; have hi2 := I.i2; have := Q2T (n := st.inner + 1) (by omega) (by omega); rw [Q1u, Q1u]; have : dot.size = 1 := rfl; omega
end
theorem Zm {T : V} {l : List Int} {P : Int → Prop} (h : ∀ g, g ∈ l.map (fun k => G.mk (T.K k) [] 0 []) → P g.K) : ∀ j, j ∈ l → P (T.K j) := fun j hj => h _ (List.mem_map_of_mem hj)
theorem Q5e {K : Int} {s : B} {N : Int} {ks : List G} (h : Fm K s N ks) (hK : isS K ∨ isT K) : ∀ g, g ∈ ks → ¬ isS g.K := by
  cases h <;> first | (exfalso; omega) | skip
  all_goals intro g hg
  all_goals simp only [List.mem_cons, List.not_mem_nil, or_false] at hg
  all_goals first | exact hg.elim | skip
  all_goals (try rcases hg with rfl | rfl | rfl)
  all_goals (try rcases hg with rfl | rfl)
  all_goals (try subst hg)
  all_goals omega
theorem Q2Y {K : Int} {s : B} {N : Int} {ks : List G} (h : Fm K s N ks) (hK : K = 1 ∨ K = 2 ∨ K = 3 ∨ K = 4 ∨ K = 5 ∨ K = 6) : ∀ g, g ∈ ks → ¬ isS g.K ∧ ¬ isT g.K ∧ g.K ≠ 12 := by
  cases h <;> first | (exfalso; omega) | skip
  all_goals intro g hg
  case prog h => have := h g hg; omega
  case cls =>
    have hk : ∀ k, k ∈ ks → G.K k = 4 := by assumption
    have := hk g hg; omega
  all_goals simp only [List.mem_cons, List.not_mem_nil, or_false] at hg
  all_goals first | exact hg.elim | skip
  all_goals subst hg
  all_goals omega
theorem Q2Z {K : Int} {s : B} {N : Int} {ks : List G} (h : Fm K s N ks) (hK : K = 7 ∨ K = 9 ∨ K = 11) : ∀ g, g ∈ ks → g.K = 12 := by
  cases h <;> first | (exfalso; omega) | skip
  all_goals intro g hg
  all_goals simp only [List.mem_cons, List.not_mem_nil, or_false] at hg
  all_goals subst hg
  all_goals assumption
theorem fm_on {K : Int} {s : B} {N : Int} {ks : List G} (h : Fm K s N ks) (hK : K = 8 ∨ K = 10) : ∃ u r, ks = u :: r ∧ u.K = 29 ∧ ∀ g, g ∈ r → (K = 8 ∧ g.K = 9) ∨ (K = 10 ∧ g.K = 12) := by
  cases h <;> first | (exfalso; omega) | skip
  case comp u ks _ _ _ =>
    have hk : ∀ k, k ∈ ks → G.K k = 9 := by assumption
    exact ⟨u, ks, rfl, by assumption, fun g hg => .inl ⟨rfl, hk g hg⟩⟩
  case event u b _ _ _ _ => exact ⟨u, [b], rfl, by assumption, fun g hg => .inr ⟨rfl, by rw [List.mem_singleton.1 hg]; assumption⟩⟩
theorem fm_lo {K : Int} {s : B} {N : Int} {ks : List G} (h : Fm K s N ks) : 1 ≤ K ∧ K ≤ 36 := by
  cases h <;> omega
section
variable {T : V} {k : Nat} {rec : Nst → Int → Nst} {st : Nst} {bl : List (Nat × Nat)} {w n a : Nat}
theorem Q5o (P : Shp T) (hr : Kx T rec k) (I : Inv T st a bl w) (ha : a < T.n) (hk : kds (sub T k) (T.ks a) (a + 1) n) (hb : ∀ x, x ∈ bl → n ≤ x.2) (hK : ZI (T.K a) = true) : Inv T (YS T rec st a) n bl (w + 2 + 4 * (n - (a + 1))) ∧ Keep a st (YS T rec st a) := by
  have hK' : T.K a = 2 ∨ T.K a = 3 ∨ T.K a = 6 ∨ T.K a = 7 ∨ T.K a = 8 ∨ T.K a = 10 := by simpa [ZI] using hK
  have F := P.fm a ha; have hle := Q26 hk; unfold YS; dsimp only
  have J : Inv T (if ((Ys T (T.s a)).getD 0 : Int) < a then tell T st a 7 else st) a bl (w + 1) ∧ Keep a st (if ((Ys T (T.s a)).getD 0 : Int) < a then tell T st a 7 else st) := by
    split
    · exact ⟨I.tell _ _, YM _ _⟩
    exact ⟨I.on (Nat.le_refl _) (by omega), .refl _ _⟩
  obtain ⟨J1, J2⟩ := J; generalize (if ((Ys T (T.s a)).getD 0 : Int) < a then tell T st a 7 else st) = s1 at J1 J2; have hs1 : (T.s a).size ≤ 1000 * (s1.funcs.length + 1) := by have := P.s a; omega
  by_cases e3 : T.K a = 3
  · rw [if_pos e3]; obtain ⟨I2, K2⟩ := Q3B hr (key := T.s) (sn := []) hk (J1.on (Nat.le_succ a) (Nat.le_refl _)) hb (fun j hj => Jj (Zm (P := fun K => ¬ isS K ∧ ¬ isT K ∧ K ≠ 12) (Q2Y F (by omega)) j hj)); exact ⟨I2.on (Nat.le_refl _) (by omega), J2.trans K2 (by omega)⟩
  rw [if_neg e3]; by_cases eon : T.K a = 8 ∨ T.K a = 10
  · obtain ⟨u, r, e1, e2, e4⟩ := fm_on F eon
    have key : ∃ q, (T.ks a).headD 0 = ((a + 1 : Nat) : Int) ∧ a + 1 < q ∧ q ≤ n ∧ kds (sub T k) ((T.ks a).drop 1) q n ∧ ∀ j, j ∈ (T.ks a).drop 1 → (T.K a = 8 ∧ T.K j = 9) ∨ (T.K a = 10 ∧ T.K j = 12) := by
      cases hks : T.ks a with
      | nil => rw [hks] at e1; cases e1
      | cons b l =>
        rw [hks] at e1 hk; obtain ⟨h1, q, h2, h3⟩ := hk; injection e1 with _ e1
        refine ⟨q, by rw [h1]; rfl, (sub_lt h2).1, Q26 h3, h3, fun j hj => e4 (G.mk (T.K j) [] 0 []) (by rw [← e1]; exact List.mem_map_of_mem (f := fun k => G.mk (T.K k) [] 0 []) hj)⟩
    obtain ⟨q, h1, h2, h3, h4, h5⟩ := key; obtain ⟨L1, L2⟩ := Q2O J1 h1; by_cases e8 : T.K a = 8
    · rw [if_pos e8]; obtain ⟨I2, K2⟩ := Q3B hr (key := fun k => Q0c (T.N k)) (sn := []) h4 (L1.on (show a ≤ q by omega) (Nat.le_refl _)) hb (fun j hj => Jj (by have := h5 j hj; omega)); exact ⟨I2.on (Nat.le_refl _) (by omega), (J2.trans L2 (Nat.le_refl _)).trans K2 (by omega)⟩
    rw [if_neg e8, if_pos (show T.K a = 10 by omega)]
    have hl : (Zh T s1 a).funcs = s1.funcs := by
      unfold Zh Kq; dsimp only
      split <;> rfl
    obtain ⟨I2, K2⟩ := Jx hr (fr := 1) (nm := T.s a) L1 h4 (by omega) hb (by rw [hl]; exact hs1) (fun j hj => by have := h5 j hj; omega) (Zh T s1 a) rfl ⟨L1.i1, by omega⟩ ⟨L1.m1, by omega⟩; exact ⟨I2.on (Nat.le_refl _) (by omega), (J2.trans L2 (Nat.le_refl _)).trans K2 (Nat.le_refl _)⟩
  rw [if_neg (by omega), if_neg (by omega)]; by_cases e7 : T.K a = 7
  · rw [if_pos e7]; obtain ⟨I2, K2⟩ := Jx hr (fr := 0) (nm := T.s a) J1 (p := a + 1) hk (Nat.le_refl _) hb hs1 (fun j hj => by have := Zm (P := fun K => K = 12) (Q2Z F (by omega)) j hj; omega) s1 rfl ⟨J1.i1, by omega⟩ ⟨J1.m1, by omega⟩; exact ⟨I2.on (Nat.le_refl _) (by omega), J2.trans K2 (Nat.le_refl _)⟩
  rw [if_neg e7]; obtain ⟨I2, K2⟩ := KO hr (l := (T.ks a).drop 0) hk (J1.on (Nat.le_succ a) (Nat.le_refl _)) hb (fun j hj => Jj (Zm (P := fun K => ¬ isS K ∧ ¬ isT K ∧ K ≠ 12) (Q2Y F (by omega)) j hj)); exact ⟨I2.on (Nat.le_refl _) (by omega), J2.trans K2 (by omega)⟩
theorem QaZ (P : Shp T) (hr : Kx T rec k) (hs : sub T (k + 1) a n) (A : At T st a n bl w) (ho : st.owners[a]? = some st.owner) : Inv T (Q2u T rec st a) n bl (w + (4 * (n - a) - 1)) ∧ Keep a st (Q2u T rec st a) := by
  obtain ⟨ha, hk⟩ := hs; have hS : Sb T a n := ⟨k + 1, ha, hk⟩; have F := P.fm a ha; have I := A.I; have hlt := hS.lt; have hP := P.n; have fin : ∀ {s' : Nst} {w' : Nat}, Inv T s' n bl w' ∧ Keep a st s' → w' ≤ w + 3 + 4 * (n - (a + 1)) → Inv T s' n bl (w + (4 * (n - a) - 1)) ∧ Keep a st s' := fun h hw => ⟨h.1.on (Nat.le_refl _) (by omega), h.2⟩; unfold Q2u; dsimp only; by_cases e : T.K a = 11
  · rw [if_pos e]; unfold Q7g; dsimp only; have hm1 := I.m1; have hf : ∀ j, j ∈ (T.ks a).drop 0 → ¬ isS (T.K j) := fun j hj => by have := Zm (P := fun K => K = 12) (Q2Z F (by omega)) j hj; omega
    have hnm : mainT.size ≤ 1000 * (st.funcs.length + 1) := by have : mainT.size = 4 := rfl; omega
    by_cases hm : 1 < st.mains + 1
    · rw [if_pos hm]; have r := Jx hr (fr := 0) (nm := mainT) (I.tell a 7) (p := a + 1) hk (Nat.le_refl _) A.en hnm hf { tell T { st with mains := st.mains + 1 } a 7 with main := (tell T { st with mains := st.mains + 1 } a 7).funcs.length } rfl ⟨I.i1, by show st.inner ≤ st.inner + 1; omega⟩ ⟨by show 0 ≤ st.mains + 1; omega, by show st.mains + 1 ≤ st.mains + 1; omega⟩; exact fin (w' := w + 1 + 4 * (n - (a + 1))) ⟨r.1, (YM a 7).trans r.2 (Nat.le_refl _)⟩ (by omega)
    rw [if_neg hm]; exact fin (w' := w + 4 * (n - (a + 1))) (Jx hr (fr := 0) (nm := mainT) I (p := a + 1) hk (Nat.le_refl _) A.en hnm hf { st with mains := st.mains + 1, main := st.funcs.length } rfl ⟨I.i1, by show st.inner ≤ st.inner + 1; omega⟩ ⟨by show 0 ≤ st.mains + 1; omega, by show st.mains + 1 ≤ st.mains + 1; omega⟩) (by omega)
  rw [if_neg e]; by_cases e : T.K a = 9
  · rw [if_pos e]; exact fin (Jx hr (fr := 0) I (p := a + 1) hk (Nat.le_refl _) A.en (by have := Q4T P (T.N a) a st.cp; omega) (fun j hj => by have := Zm (P := fun K => K = 12) (Q2Z F (by omega)) j hj; omega) st rfl ⟨I.i1, by omega⟩ ⟨I.m1, by omega⟩) (by omega)
  rw [if_neg e]; by_cases e : T.K a = 36
  · rw [if_pos e]; have hi1 := I.i1; exact fin (Jx hr (fr := 0) I (p := a + 1) hk (Nat.le_refl _) A.en (Q1c I (A.cx.t (by omega)) (by omega)) (Zm (P := fun K => ¬ isS K) (Q5e F (by omega))) { st with inner := st.inner + 1 } rfl ⟨by show 0 ≤ st.inner + 1; omega, by show st.inner + 1 ≤ _; omega⟩ ⟨I.m1, by show st.mains ≤ _; omega⟩) (by omega)
  rw [if_neg e]; by_cases e : T.K a = 12
  · rw [if_pos e]; exact fin (Qan hr I hS e hk A.en (A.cx.b e)) (by omega)
  rw [if_neg e]; by_cases e : T.K a = 13
  · rw [if_pos e]; exact fin (Q9u hr I hS e hk A.en (Zm (P := fun K => ¬ isS K) (Q5e F (by omega))) A.cx ho) (by omega)
  rw [if_neg e]; have none : ∀ {s' : Nst} {w' : Nat}, Inv T s' a bl w' ∧ Keep a st s' → w' ≤ w + 3 → Inv T s' n bl (w + (4 * (n - a) - 1)) ∧ Keep a st s' := fun h hw => ⟨h.1.on (by omega) (by omega), h.2⟩; by_cases e : T.K a = 29
  · rw [if_pos e]; obtain ⟨I2, K2⟩ := I.use hlt A.en; exact ⟨I2.on (by omega) (by omega), K2⟩
  rw [if_neg e]; by_cases e : T.K a = 5
  · rw [if_pos e]; unfold typS
    split
    · exact none ⟨I, .refl _ _⟩ (by omega)
    exact none ⟨I.mean a [5] (by decide), YN _ _⟩ (by omega)
  rw [if_neg e]; by_cases e : T.K a = 19
  · rw [if_pos e]; have hm := I.mean a [4] (by decide); have km := YN (T := T) (st := st) (p := a) a [4]; obtain ⟨h0, _⟩ := A.cx.s (by omega); obtain ⟨I2, K2⟩ := KO hr (l := (T.ks a).drop 0) hk (hm.on (Nat.le_succ a) (Nat.le_refl _)) A.en (fun j hj => Q1b (by rw [km.ow]; exact h0) (Zm (P := fun K => ¬ isS K) (Q5e F (by omega)) j hj)); exact fin ⟨I2, km.trans K2 (by omega)⟩ (by omega)
  rw [if_neg e]; by_cases e : T.K a = 21 ∨ T.K a = 22
  · rw [if_pos e]; exact none ⟨I.mean a [6] (by decide), YN _ _⟩ (by omega)
  rw [if_neg e]; by_cases e : T.K a = 33
  · rw [if_pos e]; exact none ⟨I.mean a [5] (by decide), YN _ _⟩ (by omega)
  rw [if_neg e]; by_cases e : ZI (T.K a) = true
  · rw [if_pos e]; exact fin (Q5o P hr I ha hk A.en e) (by omega)
  rw [if_neg e]; have hn : T.K a ≠ 2 ∧ T.K a ≠ 3 ∧ T.K a ≠ 6 ∧ T.K a ≠ 7 ∧ T.K a ≠ 8 ∧ T.K a ≠ 10 := by simpa [ZI] using e
  have hlo := fm_lo F
  have hc : ∀ j, j ∈ (T.ks a).drop 0 → Ctx T st.owner (st.scopes.map Sco.ow) bl j := fun j hj => by
    by_cases hts : isS (T.K a) ∨ isT (T.K a)
    · have h0 : 0 ≤ st.owner := by
        rcases hts with h | h
        · exact (A.cx.s h).1
        exact A.cx.t h
      exact Q1b h0 (Zm (P := fun K => ¬ isS K) (Q5e F hts) j hj)
    exact Jj (Zm (P := fun K => ¬ isS K ∧ ¬ isT K ∧ K ≠ 12) (Q2Y F (by omega)) j hj)
  obtain ⟨I2, K2⟩ := KO hr (l := (T.ks a).drop 0) hk (I.on (Nat.le_succ a) (Nat.le_refl _)) A.en hc; exact fin ⟨I2, ⟨K2.ow, fun u hu => K2.owners u (by omega), K2.funcs, K2.cp, K2.sow⟩⟩ (by omega)
theorem Q3c (P : Shp T) : ∀ (k f : Nat), k ≤ f → Kx T (visit T f) k
  | 0, _, _ => fun _ _ _ _ _ h => h.elim
  | k + 1, f, hf => fun a n st bl w hs A => by
    obtain ⟨f, rfl⟩ : ∃ m, f = m + 1 := ⟨f - 1, by omega⟩; unfold visit; rw [Int.toNat_natCast]; have hlw := A.I.lw
    obtain ⟨I2, K2⟩ := QaZ P (Q3c P k f (by omega)) hs (st := { st with owners := st.owners.set a st.owner }) ⟨A.I.owner (Nat.le_refl _) st.owner, A.en, A.cx⟩ (by
      show (st.owners.set a st.owner)[a]? = _
      rw [List.getElem?_set, if_pos rfl, if_pos (by have := hs.1; omega)])
    exact ⟨I2, (Q2S (Nat.le_refl _) _).trans K2 (Nat.le_refl _)⟩
end
end Go.Nam
namespace Go.Nam
open Go.Ap
theorem Q3M {T : V} {k : Nat} (hs : ∀ {a n : Nat}, sub T k a n → n ≤ T.n) : ∀ {l : List Int} {p n : Nat}, kds (sub T k) l p n → p ≤ T.n → n ≤ T.n ∧ p + l.length ≤ T.n
  | [], p, n, h, hp => by
    obtain rfl : p = n := h; exact ⟨hp, by simpa using hp⟩
  | b :: l, p, n, h, _ => by
    obtain ⟨_, q, h3, h4⟩ := h; have h5 := (sub_lt h3).1; obtain ⟨h6, h7⟩ := Q3M hs h4 (hs h3); exact ⟨h6, by rw [List.length_cons]; omega⟩
theorem sub_le {T : V} : ∀ {k a n : Nat}, sub T k a n → n ≤ T.n
  | 0, _, _, h => h.elim
  | _ + 1, _, _, h => (Q3M (fun h => sub_le h) h.2 (by have := h.1; omega)).1
structure FoldAt (T : V) (k : Nat) (l : List Int) (bl : List (Nat × Nat)) (n : Nat) (o : Int) (sow : List Int) (st : Nst) (j : Nat) (p w : Nat) : Prop where
  k : kds (sub T k) (l.drop j) p n
  I : Inv T st p bl w
  en : ∀ x, x ∈ bl → n ≤ x.2
  ow : st.owner = o
  sw : st.scopes.map Sco.ow = sow
  cx : ∀ j, j ∈ l → Ctx T o sow bl j
  b : w + 4 * (n - p) ≤ 100000
theorem FoldAt.step {T : V} {rec : Nst → Int → Nst} {k : Nat} {l : List Int} {bl : List (Nat × Nat)} {n : Nat} {o : Int} {sow : List Int} {st : Nst} {j p w : Nat} (hr : Kx T rec k) (F : FoldAt T k l bl n o sow st j p w) (hj : j < l.length) (st' : Nst) (w' : Nat) (hw : w' = w ∨ w' = w + 1) (I' : Inv T st' p bl w') (K' : Keep p st st') :
    l[j]? = some (p : Int) ∧ p < T.n ∧ ∃ q, sub T k p q ∧ At T st' p q bl w' ∧ w' + (4 * (q - p) - 1) ≤ 100000 ∧ FoldAt T k l bl n o sow (rec st' p) (j + 1) q (w + 4 * (q - p)) := by
  have hd : l.drop j = l[j] :: l.drop (j + 1) := List.drop_eq_getElem_cons hj; have hk := F.k; rw [hd] at hk; obtain ⟨e, q, h3, h4⟩ := hk; have hq := sub_lt h3; have hqn := Q26 h4; have hb := F.b
  have hat : At T st' p q bl w' := ⟨I', fun x hx => by have := F.en x hx; omega, by
    rw [K'.ow, K'.sow, F.ow, F.sw, ← e]
    exact F.cx _ (List.getElem_mem hj)⟩
  obtain ⟨I2, K2⟩ := hr p q st' bl w' h3 hat; exact ⟨by rw [List.getElem?_eq_getElem hj, e], hq.2, q, h3, hat, by omega, h4, I2.on (Nat.le_refl _) (by omega), F.en, by rw [K2.ow, K'.ow, F.ow], by rw [K2.sow, K'.sow, F.sw], F.cx, by omega⟩
theorem FoldAt.len {T : V} {k : Nat} {l : List Int} {bl : List (Nat × Nat)} {n : Nat} {o : Int} {sow : List Int} {st : Nst} {p w : Nat} (F : FoldAt T k l bl n o sow st 0 p w) (hp : p ≤ T.n) : l.length ≤ T.n := by
  have := (Q3M (fun h => sub_le h) F.k hp).2; simp at this; omega
theorem Q5d {rec : Nst → Int → Nst} {l : List Int} {j : Nat} {a : Int} (h : l[j]? = some a) (st : Nst) : (l.take (j + 1)).foldl rec st = rec ((l.take j).foldl rec st) a := by
  rw [List.take_add_one, h, List.foldl_append]; rfl
theorem FoldAt.start {T : V} {k : Nat} {l : List Int} {bl : List (Nat × Nat)} {n p w : Nat} {st : Nst} (h : kds (sub T k) l p n) (I : Inv T st p bl w) (en : ∀ x, x ∈ bl → n ≤ x.2) (cx : ∀ j, j ∈ l → Ctx T st.owner (st.scopes.map Sco.ow) bl j) (b : w + 4 * (n - p) ≤ 100000) : FoldAt T k l bl n st.owner (st.scopes.map Sco.ow) st 0 p w := ⟨h, I, en, rfl, rfl, cx, b⟩
theorem Q0N {T : V} {k : Nat} {st : Nst} {bl : List (Nat × Nat)} {w n a p fr : Nat} {nm : Txt} (I : Inv T st a bl w) (hk : kds (sub T k) ((T.ks a).drop fr) p n) (hp : a + 1 ≤ p) (hb : ∀ x, x ∈ bl → n ≤ x.2) (hn : nm.size ≤ 1000 * (st.funcs.length + 1)) (hc : ∀ j, j ∈ (T.ks a).drop fr → ¬ isS (T.K j))
    (st0 : Nst) (e0 : st0 = { st with inner := st0.inner, mains := st0.mains, main := st0.main }) (hi : 0 ≤ st0.inner ∧ st0.inner ≤ st.inner + 1) (hm : 0 ≤ st0.mains ∧ st0.mains ≤ st.mains + 1) (b : w + 4 * (n - p) ≤ 100000) : FoldAt T k ((T.ks a).drop fr) bl n (Ze st0 a nm).owner ((Ze st0 a nm).scopes.map Sco.ow) (Ze st0 a nm) 0 p w :=
  .start hk ((Q2V I hn st0 e0 hi hm).on hp (Nat.le_refl _)) hb (fun j hj => Q1b (by show (0 : Int) ≤ (st0.funcs.length : Int); omega) (hc j hj)) b
theorem Q6n {T : V} {k : Nat} {s1 : Nst} {bl : List (Nat × Nat)} {w n a : Nat} (P : Shp T) (J1 : Inv T s1 a bl (w + 1)) (ha : a < T.n) (hk : kds (sub T k) (T.ks a) (a + 1) n) (hb : ∀ x, x ∈ bl → n ≤ x.2) (hK : ZI (T.K a) = true) (b : w + 2 + 4 * (n - (a + 1)) ≤ 100000) :
    (T.K a = 3 → FoldAt T k ((T.ks a).drop 0) bl n s1.owner (s1.scopes.map Sco.ow) s1 0 (a + 1) (w + 1)) ∧
    (T.K a = 8 ∨ T.K a = 10 → Qeu T a = ((a + 1 : Nat) : Int) ∧ a + 1 < T.n ∧ 0 < (T.ks a).length ∧ Inv T (Zh T s1 a) a bl (w + 2) ∧ ∃ q, q ≤ T.n ∧
      (T.K a = 8 → FoldAt T k ((T.ks a).drop 1) bl n (Zh T s1 a).owner ((Zh T s1 a).scopes.map Sco.ow) (Zh T s1 a) 0 q (w + 2)) ∧
      (T.K a = 10 → FoldAt T k ((T.ks a).drop 1) bl n (Ze (Zh T s1 a) a (T.s a)).owner ((Ze (Zh T s1 a) a (T.s a)).scopes.map Sco.ow) (Ze (Zh T s1 a) a (T.s a)) 0 q (w + 2))) ∧
    (T.K a = 7 → FoldAt T k ((T.ks a).drop 0) bl n (Ze s1 a (T.s a)).owner ((Ze s1 a (T.s a)).scopes.map Sco.ow) (Ze s1 a (T.s a)) 0 (a + 1) (w + 1)) ∧
    (T.K a ≠ 3 → T.K a ≠ 8 → T.K a ≠ 10 → T.K a ≠ 7 → FoldAt T k ((T.ks a).drop 0) bl n s1.owner (s1.scopes.map Sco.ow) s1 0 (a + 1) (w + 1)) := by
  have hK' : T.K a = 2 ∨ T.K a = 3 ∨ T.K a = 6 ∨ T.K a = 7 ∨ T.K a = 8 ∨ T.K a = 10 := by simpa [ZI] using hK
  have F := P.fm a ha; have hs1 : (T.s a).size ≤ 1000 * (s1.funcs.length + 1) := by have := P.s a; omega
  refine ⟨fun e3 => ?_, fun eon => ?_, fun e7 => ?_, fun e3 e8 e10 e7 => ?_⟩
  · exact .start hk (J1.on (Nat.le_succ a) (Nat.le_refl _)) hb (fun j hj => Jj (Zm (P := fun K => ¬ isS K ∧ ¬ isT K ∧ K ≠ 12) (Q2Y F (by omega)) j hj)) (by omega)
  · obtain ⟨u, r, e1, e2, e4⟩ := fm_on F eon
    have key : ∃ q, (T.ks a).headD 0 = ((a + 1 : Nat) : Int) ∧ a + 1 < T.n ∧ 0 < (T.ks a).length ∧ a + 1 < q ∧ q ≤ n ∧ q ≤ T.n ∧ kds (sub T k) ((T.ks a).drop 1) q n ∧ ∀ j, j ∈ (T.ks a).drop 1 → (T.K a = 8 ∧ T.K j = 9) ∨ (T.K a = 10 ∧ T.K j = 12) := by
      cases hks : T.ks a with
      | nil => rw [hks] at e1; cases e1
      | cons b l =>
        rw [hks] at e1 hk; obtain ⟨h1, q, h2, h3⟩ := hk; injection e1 with _ e1
        exact ⟨q, by rw [h1]; rfl, (sub_lt h2).2, by simp, (sub_lt h2).1, Q26 h3, sub_le h2, h3, fun j hj => e4 (G.mk (T.K j) [] 0 []) (by rw [← e1]; exact List.mem_map_of_mem (f := fun k => G.mk (T.K k) [] 0 []) hj)⟩
    obtain ⟨q, h1, h6, h7, h2, h3, h8, h4, h5⟩ := key; obtain ⟨L1, _⟩ := Q2O J1 h1
    have hl : (Zh T s1 a).funcs = s1.funcs := by
      unfold Zh Kq; dsimp only
      split <;> rfl
    refine ⟨h1, h6, h7, L1, q, h8, fun e8 => ?_, fun e10 => ?_⟩
    · exact .start h4 (L1.on (show a ≤ q by omega) (Nat.le_refl _)) hb (fun j hj => Jj (by have := h5 j hj; omega)) (by omega)
    exact Q0N L1 h4 (by omega) hb (by rw [hl]; exact hs1) (fun j hj => by have := h5 j hj; omega) (Zh T s1 a) rfl ⟨L1.i1, by omega⟩ ⟨L1.m1, by omega⟩ (by omega)
  · exact Q0N (fr := 0) J1 (p := a + 1) hk (Nat.le_refl _) hb hs1 (fun j hj => by have := Zm (P := fun K => K = 12) (Q2Z F (by omega)) j hj; omega) s1 rfl ⟨J1.i1, by omega⟩ ⟨J1.m1, by omega⟩ (by omega)
  exact .start hk (J1.on (Nat.le_succ a) (Nat.le_refl _)) hb (fun j hj => Jj (Zm (P := fun K => ¬ isS K ∧ ¬ isT K ∧ K ≠ 12) (Q2Y F (by omega)) j hj)) (by omega)
end Go.Nam
namespace Go.Nam
open Go.Ap
theorem Inv.block {T : V} {st : Nst} {a n : Nat} {bl : List (Nat × Nat)} {w : Nat} (I : Inv T st a bl w) (hs : Sb T a n) (hK : T.K a = 12) (ho : 0 ≤ st.owner) : Inv T { st with scopes := st.scopes ++ [⟨fun _ => none, st.owner⟩] } (a + 1) (bl ++ [(a, n)]) w := by
  have J := I.on (Nat.le_succ a) (Nat.le_refl w)
  exact { J with
    bs := by have := I.bs; show (st.scopes ++ [_]).length ≤ _; rw [List.length_append]; simp; omega
    sc := Qcr (Je J.sc fun s x _ _ h => ⟨h.sb, h.K, h.lt, fun t v hv => by
        obtain ⟨u, e, hl⟩ := h.loc t v hv
        exact ⟨u, e, hl.up (Nat.le_refl _) rfl⟩⟩) (.cons ⟨hs, hK, Nat.lt_succ_self a, fun t v hv => by cases hv⟩ .nil)
    ch := fun o h => by
      have h : o ∈ (st.scopes ++ [(⟨fun _ => none, st.owner⟩ : Sco)]).map Sco.ow := h; rw [List.map_append] at h; rcases List.mem_append.1 h with h | h
      · exact I.ch o h
      rw [List.map_singleton, List.mem_singleton] at h; subst h; exact .refl ho
    cf := fun j f h v hv => by
      obtain ⟨k1, u, k2, k3, o, k4, k5, k6⟩ := J.cf j f h v hv
      exact ⟨k1, u, k2, k3, o, k4, k5, k6⟩ }
theorem Qc4 {T : V} {k : Nat} {st : Nst} {bl : List (Nat × Nat)} {w n a : Nat} (I : Inv T st a bl w) (hs : Sb T a n) (hK : T.K a = 12) (hk : kds (sub T k) (T.ks a) (a + 1) n) (hb : ∀ x, x ∈ bl → n ≤ x.2) (ho : 0 ≤ st.owner) (b : w + 4 * (n - (a + 1)) ≤ 100000) :
    ∃ o sow, FoldAt T k (T.ks a) (bl ++ [(a, n)]) n o sow { st with scopes := st.scopes ++ [⟨fun _ => none, st.owner⟩] } 0 (a + 1) w :=
  ⟨_, _, .start hk (I.block hs hK ho) (fun x hx => by
    rcases List.mem_append.1 hx with hx | hx
    · exact hb x hx
    rw [List.mem_singleton.1 hx]; exact Nat.le_refl _) (fun j hj => ⟨fun _ => ⟨ho, by
      show ((st.scopes ++ [_]).map Sco.ow).getLast? = _
      rw [List.map_append]; simp, (a, n), by simp, hj⟩, fun _ => ho, fun _ => ho⟩) b⟩
theorem Qbs {T : V} {k : Nat} {st : Nst} {bl : List (Nat × Nat)} {w n a : Nat} (P : Shp T) (I : Inv T st a bl w) (ha : a < T.n) (hK : T.K a = 13) (hk : kds (sub T k) (T.ks a) (a + 1) n) (hb : ∀ x, x ∈ bl → n ≤ x.2) (h0 : 0 ≤ st.owner) (b : w + 1 + 4 * (n - (a + 1)) ≤ 100000) :
    ∃ o sow, FoldAt T k (T.ks a) bl n o sow (if Q8j st (T.s a) = true then tell T st a 7 else st) 0 (a + 1) (w + 1) := by
  have J : Inv T (if Q8j st (T.s a) = true then tell T st a 7 else st) a bl (w + 1) ∧ Keep a st (if Q8j st (T.s a) = true then tell T st a 7 else st) := by
    split
    · exact ⟨I.tell _ _, YM _ _⟩
    exact ⟨I.on (Nat.le_refl _) (by omega), .refl _ _⟩
  obtain ⟨J1, J2⟩ := J; exact ⟨_, _, .start hk (J1.on (Nat.le_succ a) (Nat.le_refl _)) hb (fun j hj => Q1b (by rw [J2.ow]; exact h0) (Zm (P := fun K => ¬ isS K) (Q5e (P.fm a ha) (by rw [hK]; decide)) j hj)) b⟩
theorem post_at {T : V} {k : Nat} {st : Nst} {bl : List (Nat × Nat)} {w n a : Nat} (P : Shp T) (A : At T st a n bl w) (ha : a < T.n) (hK : T.K a = 19) (hk : kds (sub T k) (T.ks a) (a + 1) n) (b : w + 1 + 4 * (n - (a + 1)) ≤ 100000) :
    ∃ o sow, FoldAt T k (T.ks a) bl n o sow (Kq T st a [4]) 0 (a + 1) (w + 1) := by
  have hm := A.I.mean a [4] (by decide); have km := YN (T := T) (st := st) (p := a) a [4]; obtain ⟨h0, _⟩ := A.cx.s (by rw [hK]; decide); exact ⟨_, _, .start hk (hm.on (Nat.le_succ a) (by omega)) A.en (fun j hj => Q1b (by rw [km.ow]; exact h0) (Zm (P := fun K => ¬ isS K) (Q5e (P.fm a ha) (by rw [hK]; decide)) j hj)) b⟩
theorem Qd8 {T : V} {k : Nat} {st : Nst} {bl : List (Nat × Nat)} {w n a : Nat} (P : Shp T) (A : At T st a n bl w) (ha : a < T.n) (h : T.K a ≠ 11 ∧ T.K a ≠ 9 ∧ T.K a ≠ 12 ∧ ZI (T.K a) = false) (hk : kds (sub T k) (T.ks a) (a + 1) n) (b : w + 4 * (n - (a + 1)) ≤ 100000) :
    ∃ o sow, FoldAt T k ((T.ks a).drop 0) bl n o sow st 0 (a + 1) w := by
  have F := P.fm a ha; obtain ⟨e1, e2, e3, e⟩ := h; have hn : T.K a ≠ 2 ∧ T.K a ≠ 3 ∧ T.K a ≠ 6 ∧ T.K a ≠ 7 ∧ T.K a ≠ 8 ∧ T.K a ≠ 10 := by simpa [ZI] using e
  have hlo := fm_lo F; refine ⟨_, _, .start hk (A.I.on (Nat.le_succ a) (Nat.le_refl _)) A.en (fun j hj => ?_) b⟩; by_cases hts : isS (T.K a) ∨ isT (T.K a)
  · have h0 : 0 ≤ st.owner := by
      rcases hts with h | h
      · exact (A.cx.s h).1
      exact A.cx.t h
    exact Q1b h0 (Zm (P := fun K => ¬ isS K) (Q5e F hts) j hj)
  exact Jj (Zm (P := fun K => ¬ isS K ∧ ¬ isT K ∧ K ≠ 12) (Q2Y F (by omega)) j hj)
end Go.Nam
namespace Go.Nam
open Go.Ap
def Q4I (T : V) (st : Nst) (fs : Int) (i : Int) : Nst × Int × Int :=
  if T.K i = 2 then ({ st with lo := st.lo ++ [i] }, 4, st.lo.length) else
  if T.K i = 3 then ({ st with cl := st.cl ++ [i] }, 5, st.cl.length) else
  if T.K i = 6 then ({ st with gl := st.gl ++ [i] }, 2, st.gl.length) else
  if T.K i = 8 then ({ st with cp := st.cp ++ [i] }, 0, st.cp.length) else
  if T.K i = 10 then ({ st with ev := st.ev ++ [i] }, 6, st.ev.length) else
  if T.K i = 7 then (st, 3, fs) else (st, 0, -1)
theorem Q34 (T : V) (st : Nst) (fs : Int) (i : Int) : Q2m T st fs i = (if 0 ≤ (Q4I T st fs i).2.2 ∧ st.glob (T.s i) = none then { (Q4I T st fs i).1 with glob := put st.glob (T.s i) ((Q4I T st fs i).2.1, (Q4I T st fs i).2.2) } else (Q4I T st fs i).1, if Q1V (T.K i) = true then fs + 1 else fs) := rfl
theorem Q9a (T : V) (st : Nst) (fs : Int) (i : Int) : (Q4I T st fs i).1.glob = st.glob := by
  unfold Q4I
  repeat' split
  all_goals rfl
structure DeclOk (T : V) (k : Nat) (st : Nst) (fs : Int) : Prop where
  lm : st.means.length = T.n
  lw : st.owners.length = T.n
  ow : st.owner = -1
  fu : st.funcs = []
  wr : st.wrong = []
  sc : st.scopes = []
  inn : st.inner = 0
  ma : st.mains = 0
  mn : ∀ (i : Nat) v, st.means[i]? ≠ some (1, v)
  cp : ∀ c, c ∈ st.cp → 0 ≤ c ∧ c < (k : Int)
  l1 : st.lo.length ≤ k
  l2 : st.cl.length ≤ k
  l3 : st.gl.length ≤ k
  l4 : st.cp.length ≤ k
  l5 : st.ev.length ≤ k
  f0 : 0 ≤ fs
  f1 : fs ≤ k
theorem Qdc {T : V} {k : Nat} {st : Nst} {fs : Int} (D : DeclOk T k st fs) (i : Nat) (hi : i = k) : DeclOk T (k + 1) (Q4I T st fs i).1 fs := by
  subst hi
  have D' : DeclOk T (i + 1) st fs := { D with
    cp := fun c h => by have := D.cp c h; omega
    l1 := by have := D.l1; omega
    l2 := by have := D.l2; omega
    l3 := by have := D.l3; omega
    l4 := by have := D.l4; omega
    l5 := by have := D.l5; omega
    f1 := by have := D.f1; omega }
  unfold Q4I
  split
  · exact { D' with l1 := by have := D.l1; show (st.lo ++ [_]).length ≤ _; simp; omega }
  split
  · exact { D' with l2 := by have := D.l2; show (st.cl ++ [_]).length ≤ _; simp; omega }
  split
  · exact { D' with l3 := by have := D.l3; show (st.gl ++ [_]).length ≤ _; simp; omega }
  split
  · exact { D' with
      cp := fun c h => by
        have h : c ∈ st.cp ++ [(i : Int)] := h; rcases List.mem_append.1 h with h | h
        · exact D'.cp c h
        rw [List.mem_singleton.1 h]; omega
      l4 := by have := D.l4; show (st.cp ++ [_]).length ≤ _; simp; omega }
  split
  · exact { D' with l5 := by have := D.l5; show (st.ev ++ [_]).length ≤ _; simp; omega }
  split
  · exact D'
  exact D'
theorem Q2l {T : V} : ∀ k : Nat, DeclOk T k (QA T k).1 (QA T k).2
  | 0 => ⟨List.length_replicate, List.length_replicate, rfl, rfl, rfl, rfl, rfl, rfl, fun i v h => by
      have h : (List.replicate T.n ((0 : Int), (0 : Int)))[i]? = some (1, v) := h; rw [List.getElem?_replicate] at h
      split at h
      · simp at h
      simp at h, fun c h => (by cases h), Nat.le_refl _, Nat.le_refl _, Nat.le_refl _, Nat.le_refl _, Nat.le_refl _, Int.le_refl _, Int.le_refl _⟩
  | k + 1 => by
    have D := Qdc (Q2l (T := T) k) k rfl; have D0 := Q2l (T := T) k; show DeclOk T (k + 1) (Q2m T (QA T k).1 (QA T k).2 k).1 (Q2m T (QA T k).1 (QA T k).2 k).2; rw [Q34]
    have hf : 0 ≤ (if Q1V (T.K k) = true then (QA T k).2 + 1 else (QA T k).2) ∧ (if Q1V (T.K k) = true then (QA T k).2 + 1 else (QA T k).2) ≤ ((k + 1 : Nat) : Int) := by
      have := D0.f0; have := D0.f1
      split <;> omega
    dsimp only
    split
    · exact { D with f0 := hf.1, f1 := hf.2 }
    exact { D with f0 := hf.1, f1 := hf.2 }
theorem Q6B {T : V} (n : Nat) : Inv T (Q1K T) 0 [] 2 := by
  have D := Q2l (T := T) T.n
  have E : ∀ st : Nst, st.means = (QA T T.n).1.means → st.owners = (QA T T.n).1.owners → st.owner = -1 → st.funcs = [] → st.scopes = [] → st.inner = 0 → st.mains = 0 → st.cp = (QA T T.n).1.cp → st.wrong.length ≤ 2 → Inv T st 0 [] 2 := fun st e1 e2 e3 e4 e5 e6 e7 e8 e9 =>
    { lm := by rw [e1]; exact D.lm
      lw := by rw [e2]; exact D.lw
      o1 := by rw [e3]; exact Int.le_refl _
      o2 := by rw [e3, e4]; decide
      up := fun j f h => by rw [e4] at h; simp at h
      nm := fun j f h => by rw [e4] at h; simp at h
      cp := fun c h => D.cp c (by rw [← e8]; exact h)
      bw := e9
      bf := by rw [e4]; exact Nat.le_refl _
      bs := by rw [e5]; exact Nat.le_refl _
      bc := fun f h => by rw [e4] at h; cases h
      i1 := by rw [e6]; exact Int.le_refl _
      i2 := by rw [e6]; exact Int.le_refl _
      m1 := by rw [e7]; exact Int.le_refl _
      m2 := by rw [e7]; exact Int.le_refl _
      sc := by rw [e5]; exact .nil
      ch := fun o h => by rw [e5] at h; cases h
      mn := fun i v h => by rw [e1] at h; exact absurd h (D.mn i v)
      cf := fun j f h => by rw [e4] at h; simp at h }
  have hw := D.wr; unfold Q1K; dsimp only
  split
  · split
    · exact E _ rfl rfl D.ow D.fu D.sc D.inn D.ma rfl (by show ((QA T T.n).1.wrong ++ [_]).length ≤ 2; rw [hw]; simp)
    exact E _ rfl rfl D.ow D.fu D.sc D.inn D.ma rfl (by rw [hw]; simp)
  split
  · exact E _ rfl rfl D.ow D.fu D.sc D.inn D.ma rfl (by show ((QA T T.n).1.wrong ++ [_] ++ [_]).length ≤ 2; rw [hw]; simp)
  exact E _ rfl rfl D.ow D.fu D.sc D.inn D.ma rfl (by show ((QA T T.n).1.wrong ++ [_]).length ≤ 2; rw [hw]; simp)
end Go.Nam
namespace Go.Proofs
open Go.Shelf
def Tryz.lays173_ren : Go.Shelf.Ren := ⟨fun | 173 => 86 | 246 => 110 | 283 => 121 | 284 => 122 | 285 => 123 | 286 => 124 | 129 => 132 | 317 => 131 | 318 => 133 | 319 => 134 | 320 => 135 | 337 => 139 | 338 => 140 | n => n, fun | 2 => 2 | 3 => 3 | 9 => 9 | 4 => 4 | 171 => 152 | 0 => 0 | 53 => 153 | 37 => 52 | 5 => 5 | 173 => 156 | 212 => 164 | 51 => 165 | 20 => 20 | 213 => 166 | 46 => 168 | 232 => 175 | 233 => 176 | n => n, fun | 17 => 0 | 18 => 2 | 19 => 3 | n => n⟩
theorem Tryz.lays173 : Go.Proofs.LaysM.n173 Tryz.prog Tryz.lays173_ren := {
  mixed := by kernel_rfl
  f129 := Tryz.func132.trans (congrArg some (by kernel_rfl))
  f173 := Tryz.func86.trans (congrArg some (by kernel_rfl))
  f246 := Tryz.func110.trans (congrArg some (by kernel_rfl))
  f283 := Tryz.func121.trans (congrArg some (by kernel_rfl))
  f284 := Tryz.func122.trans (congrArg some (by kernel_rfl))
  f285 := Tryz.func123.trans (congrArg some (by kernel_rfl))
  f286 := Tryz.func124.trans (congrArg some (by kernel_rfl))
  f317 := Tryz.func131.trans (congrArg some (by kernel_rfl))
  f318 := Tryz.func133.trans (congrArg some (by kernel_rfl))
  f319 := Tryz.func134.trans (congrArg some (by kernel_rfl))
  f320 := Tryz.func135.trans (congrArg some (by kernel_rfl))
  f337 := Tryz.func139.trans (congrArg some (by kernel_rfl))
  f338 := Tryz.func140.trans (congrArg some (by kernel_rfl))
  t0 := Tryz.underlying0
  a0 := Tryz.isAgg0
  z0 := Tryz.sizeOf0
  v0 := Tryz.zeroValue0
  t2 := Tryz.underlying2
  a2 := Tryz.isAgg2
  z2 := Tryz.sizeOf2
  v2 := Tryz.zeroValue2
  t3 := Tryz.underlying3
  a3 := Tryz.isAgg3
  z3 := Tryz.sizeOf3
  v3 := Tryz.zeroValue3
  t4 := Tryz.underlying4
  a4 := Tryz.isAgg4
  z4 := Tryz.sizeOf4
  v4 := Tryz.zeroValue4
  t5 := Tryz.underlying5
  a5 := Tryz.isAgg5
  z5 := Tryz.sizeOf5
  v5 := Tryz.zeroValue5
  t9 := Tryz.underlying9
  a9 := Tryz.isAgg9
  z9 := Tryz.sizeOf9
  v9 := Tryz.zeroValue9
  t20 := Tryz.underlying20
  a20 := Tryz.isAgg20
  z20 := Tryz.sizeOf20
  v20 := Tryz.zeroValue20
  t37 := Tryz.underlying52
  a37 := Tryz.isAgg52
  z37 := Tryz.sizeOf52
  v37 := Tryz.zeroValue52
  t46 := Tryz.underlying168
  a46 := Tryz.isAgg168
  z46 := Tryz.sizeOf168
  v46 := Tryz.zeroValue168
  t51 := Tryz.underlying165
  a51 := Tryz.isAgg165
  z51 := Tryz.sizeOf165
  v51 := Tryz.zeroValue165
  t53 := Tryz.underlying153
  a53 := Tryz.isAgg153
  z53 := Tryz.sizeOf153
  v53 := Tryz.zeroValue153
  t171 := Tryz.underlying152
  a171 := Tryz.isAgg152
  z171 := Tryz.sizeOf152
  v171 := Tryz.zeroValue152
  t173 := Tryz.underlying156
  a173 := Tryz.isAgg156
  z173 := Tryz.sizeOf156
  v173 := Tryz.zeroValue156
  t212 := Tryz.underlying164
  a212 := Tryz.isAgg164
  z212 := Tryz.sizeOf164
  v212 := Tryz.zeroValue164
  t213 := Tryz.underlying166
  a213 := Tryz.isAgg166
  z213 := Tryz.sizeOf166
  t232 := Tryz.underlying175
  a232 := Tryz.isAgg175
  z232 := Tryz.sizeOf175
  v232 := Tryz.zeroValue175
  t233 := Tryz.underlying176
  a233 := Tryz.isAgg176
  z233 := Tryz.sizeOf176
  v233 := Tryz.zeroValue176
  g17 := by kernel_rfl
  g18 := by kernel_rfl
  g19 := by kernel_rfl
  i0 := by kernel_rfl
  i2 := by kernel_rfl
  i3 := by kernel_rfl
  i4 := by kernel_rfl
  i5 := by kernel_rfl
  i9 := by kernel_rfl
  i20 := by kernel_rfl
  i37 := by kernel_rfl
  i46 := by kernel_rfl
  i51 := by kernel_rfl
  i53 := by kernel_rfl
  i171 := by kernel_rfl
  i173 := by kernel_rfl
  i212 := by kernel_rfl
  i232 := by kernel_rfl
  i233 := by kernel_rfl
  m17 := by kernel_rfl
  m18 := by kernel_rfl
  m19 := by kernel_rfl }
def Tryz.lays171_ren : Go.Shelf.Ren := ⟨fun | 171 => 75 | 243 => 104 | 246 => 110 | 283 => 121 | 284 => 122 | 285 => 123 | 286 => 124 | 129 => 132 | 317 => 131 | 318 => 133 | 319 => 134 | 320 => 135 | 337 => 139 | 338 => 140 | n => n, fun | 3 => 3 | 9 => 9 | 2 => 2 | 4 => 4 | 171 => 152 | 0 => 0 | 53 => 153 | 37 => 52 | 5 => 5 | 173 => 156 | 212 => 164 | 51 => 165 | 20 => 20 | 213 => 166 | 46 => 168 | 232 => 175 | 233 => 176 | n => n, fun | 17 => 0 | 18 => 2 | 19 => 3 | n => n⟩
theorem Tryz.lays171 : Go.Proofs.LaysM.n171 Tryz.prog Tryz.lays171_ren := {
  mixed := by kernel_rfl
  f129 := Tryz.func132.trans (congrArg some (by kernel_rfl))
  f171 := Tryz.func75.trans (congrArg some (by kernel_rfl))
  f243 := Tryz.func104.trans (congrArg some (by kernel_rfl))
  f246 := Tryz.func110.trans (congrArg some (by kernel_rfl))
  f283 := Tryz.func121.trans (congrArg some (by kernel_rfl))
  f284 := Tryz.func122.trans (congrArg some (by kernel_rfl))
  f285 := Tryz.func123.trans (congrArg some (by kernel_rfl))
  f286 := Tryz.func124.trans (congrArg some (by kernel_rfl))
  f317 := Tryz.func131.trans (congrArg some (by kernel_rfl))
  f318 := Tryz.func133.trans (congrArg some (by kernel_rfl))
  f319 := Tryz.func134.trans (congrArg some (by kernel_rfl))
  f320 := Tryz.func135.trans (congrArg some (by kernel_rfl))
  f337 := Tryz.func139.trans (congrArg some (by kernel_rfl))
  f338 := Tryz.func140.trans (congrArg some (by kernel_rfl))
  t0 := Tryz.underlying0
  a0 := Tryz.isAgg0
  z0 := Tryz.sizeOf0
  v0 := Tryz.zeroValue0
  t2 := Tryz.underlying2
  a2 := Tryz.isAgg2
  z2 := Tryz.sizeOf2
  v2 := Tryz.zeroValue2
  t3 := Tryz.underlying3
  a3 := Tryz.isAgg3
  z3 := Tryz.sizeOf3
  v3 := Tryz.zeroValue3
  t4 := Tryz.underlying4
  a4 := Tryz.isAgg4
  z4 := Tryz.sizeOf4
  v4 := Tryz.zeroValue4
  t5 := Tryz.underlying5
  a5 := Tryz.isAgg5
  z5 := Tryz.sizeOf5
  v5 := Tryz.zeroValue5
  t9 := Tryz.underlying9
  a9 := Tryz.isAgg9
  z9 := Tryz.sizeOf9
  v9 := Tryz.zeroValue9
  t20 := Tryz.underlying20
  a20 := Tryz.isAgg20
  z20 := Tryz.sizeOf20
  v20 := Tryz.zeroValue20
  t37 := Tryz.underlying52
  a37 := Tryz.isAgg52
  z37 := Tryz.sizeOf52
  v37 := Tryz.zeroValue52
  t46 := Tryz.underlying168
  a46 := Tryz.isAgg168
  z46 := Tryz.sizeOf168
  v46 := Tryz.zeroValue168
  t51 := Tryz.underlying165
  a51 := Tryz.isAgg165
  z51 := Tryz.sizeOf165
  v51 := Tryz.zeroValue165
  t53 := Tryz.underlying153
  a53 := Tryz.isAgg153
  z53 := Tryz.sizeOf153
  v53 := Tryz.zeroValue153
  t171 := Tryz.underlying152
  a171 := Tryz.isAgg152
  z171 := Tryz.sizeOf152
  v171 := Tryz.zeroValue152
  t173 := Tryz.underlying156
  a173 := Tryz.isAgg156
  z173 := Tryz.sizeOf156
  v173 := Tryz.zeroValue156
  t212 := Tryz.underlying164
  a212 := Tryz.isAgg164
  z212 := Tryz.sizeOf164
  v212 := Tryz.zeroValue164
  t213 := Tryz.underlying166
  a213 := Tryz.isAgg166
  z213 := Tryz.sizeOf166
  t232 := Tryz.underlying175
  a232 := Tryz.isAgg175
  z232 := Tryz.sizeOf175
  v232 := Tryz.zeroValue175
  t233 := Tryz.underlying176
  a233 := Tryz.isAgg176
  z233 := Tryz.sizeOf176
  v233 := Tryz.zeroValue176
  g17 := by kernel_rfl
  g18 := by kernel_rfl
  g19 := by kernel_rfl
  i0 := by kernel_rfl
  i2 := by kernel_rfl
  i3 := by kernel_rfl
  i4 := by kernel_rfl
  i5 := by kernel_rfl
  i9 := by kernel_rfl
  i20 := by kernel_rfl
  i37 := by kernel_rfl
  i46 := by kernel_rfl
  i51 := by kernel_rfl
  i53 := by kernel_rfl
  i171 := by kernel_rfl
  i173 := by kernel_rfl
  i212 := by kernel_rfl
  i232 := by kernel_rfl
  i233 := by kernel_rfl
  m17 := by kernel_rfl
  m18 := by kernel_rfl
  m19 := by kernel_rfl }
end Go.Proofs
namespace Go.Proofs.YtkidomfnmpnmaaaGreatDoor
open Go.X Go.RowKit Go.Shelf
theorem Kk : Tryz.prog.follows .mixedOrders = true := by kernel_rfl
def ZR : List Value := (List.range 256).map fun i => .int .u8 (cond (Nat.beq i 32 || (Nat.ble 9 i && Nat.ble i 13)) 1 0)
theorem Q4i : ∀ v, v ∈ ZR → Zt 4 v = true := by
  intro v hv; obtain ⟨i, _, rfl⟩ := List.mem_map.1 hv; rfl
/- f130 detent/token.words: 18271 steps, 2 blocks, 40 great ones -/
def Q2y : Value := .map (some 256)
def JY : List AObj := [.map [⟨.string ⟨#[97, 102, 116, 101, 114]⟩, .agg #[.bool true], 0⟩, ⟨.string ⟨#[97, 114, 114]⟩, .agg #[.bool true], 1⟩, ⟨.string ⟨#[99, 97, 108, 108]⟩, .agg #[.bool true], 2⟩, ⟨.string ⟨#[99, 97, 110, 99, 101, 108]⟩, .agg #[.bool true], 3⟩, ⟨.string ⟨#[99, 108, 97, 115, 115]⟩, .agg #[.bool true], 4⟩, ⟨.string ⟨#[99, 111, 109, 112]⟩, .agg #[.bool true], 5⟩, ⟨.string ⟨#[99, 114, 101, 97, 116, 101]⟩, .agg #[.bool true], 6⟩, ⟨.string ⟨#[100, 101, 115, 116, 114, 111, 121]⟩, .agg #[.bool true], 7⟩, ⟨.string ⟨#[100, 105, 115, 97, 98, 108, 101]⟩, .agg #[.bool true], 8⟩, ⟨.string ⟨#[101, 108, 115, 101]⟩, .agg #[.bool true], 9⟩, ⟨.string ⟨#[101, 110, 97, 98, 108, 101]⟩, .agg #[.bool true], 10⟩, ⟨.string ⟨#[101, 118, 101, 110, 116]⟩, .agg #[.bool true], 11⟩, ⟨.string ⟨#[102, 110]⟩, .agg #[.bool true], 12⟩, ⟨.string ⟨#[102, 114, 111, 110, 116]⟩, .agg #[.bool true], 13⟩, ⟨.string ⟨#[104, 97, 110, 100]⟩, .agg #[.bool true], 14⟩, ⟨.string ⟨#[105, 102]⟩, .agg #[.bool true], 15⟩, ⟨.string ⟨#[105, 110, 116]⟩, .agg #[.bool true], 16⟩, ⟨.string ⟨#[105, 116]⟩, .agg #[.bool true], 17⟩, ⟨.string ⟨#[106, 111, 105, 110]⟩, .agg #[.bool true], 18⟩, ⟨.string ⟨#[108, 101, 110]⟩, .agg #[.bool true], 19⟩, ⟨.string ⟨#[108, 111, 103]⟩, .agg #[.bool true], 20⟩, ⟨.string ⟨#[108, 111, 111, 112, 101, 114]⟩, .agg #[.bool true], 21⟩, ⟨.string ⟨#[109, 97, 105, 110]⟩, .agg #[.bool true], 22⟩, ⟨.string ⟨#[110, 101, 119]⟩, .agg #[.bool true], 23⟩, ⟨.string ⟨#[110, 117, 108, 108]⟩, .agg #[.bool true], 24⟩, ⟨.string ⟨#[111, 102, 102]⟩, .agg #[.bool true], 25⟩, ⟨.string ⟨#[111, 110]⟩, .agg #[.bool true], 26⟩, ⟨.string ⟨#[112, 111, 115, 116]⟩, .agg #[.bool true], 27⟩, ⟨.string ⟨#[114, 101, 116, 117, 114, 110]⟩, .agg #[.bool true], 28⟩, ⟨.string ⟨#[115, 112, 97, 119, 110]⟩, .agg #[.bool true], 29⟩, ⟨.string ⟨#[115, 116, 97, 114, 116]⟩, .agg #[.bool true], 30⟩, ⟨.string ⟨#[115, 116, 111, 112]⟩, .agg #[.bool true], 31⟩, ⟨.string ⟨#[116, 111]⟩, .agg #[.bool true], 32⟩, ⟨.string ⟨#[116, 111, 107]⟩, .agg #[.bool true], 33⟩, ⟨.string ⟨#[118, 97, 114]⟩, .agg #[.bool true], 34⟩, ⟨.string ⟨#[119, 104, 105, 108, 101]⟩, .agg #[.bool true], 35⟩] 36,
  .dead]
/- f35 detent/tree.forms: 605 steps, 31 blocks, 106 great ones -/
def Q5a : Value := .map (some 264)
def Q5b : List AObj := [.cells [.int .i64 (12)] 39 0,
  .cells [.slice (some ⟨256, 0, none⟩) 1 1] 71 0,
  .cells [.int .i64 (29)] 39 0,
  .cells [.slice (some ⟨258, 0, none⟩) 1 1] 71 0,
  .cells [.int .i64 (5)] 39 0,
  .cells [.slice (some ⟨260, 0, none⟩) 1 1] 71 0,
  .cells [.func (.func 67) #[] #[]] 82 0,
  .dead,
  .map [⟨.int .i64 (1), .agg #[.nilFunc, .int .i64 (0), .int .i64 (0), .slice none 0 0, .nilFunc, .func (.func 68) #[] #[]], 0⟩, ⟨.int .i64 (2), .agg #[.func (.func 69) #[] #[], .int .i64 (0), .int .i64 (0), .slice none 0 0, .nilFunc, .nilFunc], 1⟩, ⟨.int .i64 (3), .agg #[.func (.func 69) #[] #[], .int .i64 (0), .int .i64 (0), .slice none 0 0, .nilFunc, .func (.func 102) #[] #[.pointer (some ⟨266, 0, none⟩)]], 2⟩, ⟨.int .i64 (4), .agg #[.func (.func 69) #[] #[], .int .i64 (0), .int .i64 (0), .slice (some ⟨267, 0, none⟩) 1 1, .nilFunc, .nilFunc], 3⟩, ⟨.int .i64 (5), .agg #[.func (.func 70) #[] #[], .int .i64 (0), .int .i64 (0), .slice none 0 0, .nilFunc, .nilFunc], 4⟩, ⟨.int .i64 (6), .agg #[.func (.func 69) #[] #[], .int .i64 (0), .int .i64 (0), .slice (some ⟨268, 0, none⟩) 1 1, .nilFunc, .nilFunc], 5⟩, ⟨.int .i64 (7), .agg #[.func (.func 69) #[] #[], .int .i64 (0), .int .i64 (0), .slice (some ⟨269, 0, none⟩) 1 1, .nilFunc, .nilFunc], 6⟩, ⟨.int .i64 (8), .agg #[.func (.func 69) #[] #[], .int .i64 (0), .int .i64 (0), .slice (some ⟨270, 0, none⟩) 1 1, .nilFunc, .func (.func 102) #[] #[.pointer (some ⟨272, 0, none⟩)]], 7⟩, ⟨.int .i64 (9), .agg #[.nilFunc, .int .i64 (0), .int .i64 (3), .slice (some ⟨273, 0, none⟩) 1 1, .nilFunc, .nilFunc], 8⟩, ⟨.int .i64 (10), .agg #[.func (.func 69) #[] #[], .int .i64 (0), .int .i64 (1), .slice (some ⟨274, 0, none⟩) 2 2, .nilFunc, .nilFunc], 9⟩, ⟨.int .i64 (11), .agg #[.nilFunc, .int .i64 (0), .int .i64 (0), .slice (some ⟨275, 0, none⟩) 1 1, .nilFunc, .nilFunc], 10⟩, ⟨.int .i64 (12), .agg #[.nilFunc, .int .i64 (0), .int .i64 (0), .slice none 0 0, .nilFunc, .func (.func 71) #[] #[]], 11⟩, ⟨.int .i64 (13), .agg #[.func (.func 69) #[] #[], .int .i64 (0), .int .i64 (0), .slice (some ⟨276, 0, none⟩) 2 2, .nilFunc, .nilFunc], 12⟩, ⟨.int .i64 (14), .agg #[.nilFunc, .int .i64 (0), .int .i64 (0), .slice (some ⟨277, 0, none⟩) 2 2, .nilFunc, .nilFunc], 13⟩, ⟨.int .i64 (19), .agg #[.func (.func 69) #[] #[], .int .i64 (-1), .int .i64 (2147483647), .slice (some ⟨278, 0, none⟩) 1 1, .func (.func 72) #[] #[], .nilFunc], 14⟩, ⟨.int .i64 (20), .agg #[.nilFunc, .int .i64 (0), .int .i64 (0), .slice (some ⟨279, 0, none⟩) 1 1, .func (.func 72) #[] #[], .nilFunc], 15⟩, ⟨.int .i64 (21), .agg #[.func (.func 69) #[] #[], .int .i64 (0), .int .i64 (0), .slice none 0 0, .nilFunc, .nilFunc], 16⟩, ⟨.int .i64 (22), .agg #[.func (.func 69) #[] #[], .int .i64 (0), .int .i64 (0), .slice none 0 0, .nilFunc, .nilFunc], 17⟩, ⟨.int .i64 (23), .agg #[.nilFunc, .int .i64 (0), .int .i64 (0), .slice (some ⟨280, 0, none⟩) 3 3, .nilFunc, .nilFunc], 18⟩, ⟨.int .i64 (24), .agg #[.nilFunc, .int .i64 (0), .int .i64 (0), .slice (some ⟨281, 0, none⟩) 2 2, .nilFunc, .nilFunc], 19⟩, ⟨.int .i64 (25), .agg #[.nilFunc, .int .i64 (0), .int .i64 (0), .slice none 0 0, .nilFunc, .nilFunc], 20⟩, ⟨.int .i64 (26), .agg #[.nilFunc, .int .i64 (0), .int .i64 (2147483647), .slice none 0 0, .nilFunc, .nilFunc], 21⟩, ⟨.int .i64 (27), .agg #[.nilFunc, .int .i64 (0), .int .i64 (0), .slice none 0 0, .nilFunc, .nilFunc], 22⟩, ⟨.int .i64 (28), .agg #[.nilFunc, .int .i64 (0), .int .i64 (0), .slice none 0 0, .nilFunc, .nilFunc], 23⟩, ⟨.int .i64 (29), .agg #[.func (.func 69) #[] #[], .int .i64 (0), .int .i64 (0), .slice none 0 0, .nilFunc, .nilFunc], 24⟩, ⟨.int .i64 (30), .agg #[.func (.func 69) #[] #[], .int .i64 (0), .int .i64 (0), .slice (some ⟨282, 0, none⟩) 1 1, .nilFunc, .nilFunc], 25⟩, ⟨.int .i64 (31), .agg #[.nilFunc, .int .i64 (0), .int .i64 (0), .slice (some ⟨283, 0, none⟩) 2 2, .nilFunc, .nilFunc], 26⟩, ⟨.int .i64 (32), .agg #[.func (.func 73) #[] #[], .int .i64 (0), .int .i64 (0), .slice (some ⟨284, 0, none⟩) 2 2, .nilFunc, .nilFunc], 27⟩, ⟨.int .i64 (33), .agg #[.func (.func 69) #[] #[], .int .i64 (0), .int .i64 (0), .slice none 0 0, .nilFunc, .nilFunc], 28⟩, ⟨.int .i64 (36), .agg #[.nilFunc, .int .i64 (0), .int .i64 (0), .slice (some ⟨285, 0, none⟩) 1 1, .nilFunc, .nilFunc], 29⟩, ⟨.int .i64 (15), .agg #[.nilFunc, .int .i64 (0), .int .i64 (0), .slice (some ⟨262, 0, none⟩) 1 1, .nilFunc, .nilFunc], 30⟩, ⟨.int .i64 (16), .agg #[.nilFunc, .int .i64 (0), .int .i64 (0), .slice (some ⟨262, 0, none⟩) 1 1, .nilFunc, .nilFunc], 31⟩, ⟨.int .i64 (17), .agg #[.nilFunc, .int .i64 (0), .int .i64 (0), .slice (some ⟨262, 0, none⟩) 1 1, .nilFunc, .nilFunc], 32⟩, ⟨.int .i64 (18), .agg #[.nilFunc, .int .i64 (0), .int .i64 (0), .slice (some ⟨262, 0, none⟩) 1 1, .nilFunc, .nilFunc], 33⟩, ⟨.int .i64 (34), .agg #[.nilFunc, .int .i64 (0), .int .i64 (0), .slice (some ⟨262, 0, none⟩) 1 1, .nilFunc, .nilFunc], 34⟩, ⟨.int .i64 (35), .agg #[.nilFunc, .int .i64 (0), .int .i64 (0), .slice (some ⟨262, 0, none⟩) 1 1, .nilFunc, .nilFunc], 35⟩] 36,
  .cells [.int .i64 (4)] 39 0,
  .cells [.slice (some ⟨265, 0, none⟩) 1 1] 71 0,
  .cells [.func (.func 102) #[] #[.pointer (some ⟨261, 0, none⟩)]] 82 0,
  .cells [.func (.func 102) #[] #[.pointer (some ⟨261, 0, none⟩)]] 82 0,
  .cells [.func (.func 102) #[] #[.pointer (some ⟨257, 0, none⟩)]] 82 0,
  .cells [.func (.func 102) #[] #[.pointer (some ⟨259, 0, none⟩)]] 82 0,
  .cells [.int .i64 (9)] 39 0,
  .cells [.slice (some ⟨271, 0, none⟩) 1 1] 71 0,
  .cells [.func (.func 102) #[] #[.pointer (some ⟨257, 0, none⟩)]] 82 0,
  .cells [.func (.func 102) #[] #[.pointer (some ⟨259, 0, none⟩)], .func (.func 102) #[] #[.pointer (some ⟨257, 0, none⟩)]] 82 0,
  .cells [.func (.func 102) #[] #[.pointer (some ⟨257, 0, none⟩)]] 82 0,
  .cells [.func (.func 102) #[] #[.pointer (some ⟨261, 0, none⟩)], .func (.func 67) #[] #[]] 82 0,
  .cells [.func (.func 72) #[] #[], .func (.func 67) #[] #[]] 82 0,
  .cells [.func (.func 67) #[] #[]] 82 0,
  .cells [.func (.func 67) #[] #[]] 82 0,
  .cells [.func (.func 67) #[] #[], .func (.func 102) #[] #[.pointer (some ⟨257, 0, none⟩)], .func (.func 102) #[] #[.pointer (some ⟨257, 0, none⟩)]] 82 0,
  .cells [.func (.func 67) #[] #[], .func (.func 102) #[] #[.pointer (some ⟨257, 0, none⟩)]] 82 0,
  .cells [.func (.func 67) #[] #[]] 82 0,
  .cells [.func (.func 67) #[] #[], .func (.func 67) #[] #[]] 82 0,
  .cells [.func (.func 67) #[] #[], .func (.func 67) #[] #[]] 82 0,
  .cells [.func (.func 102) #[] #[.pointer (some ⟨257, 0, none⟩)]] 82 0,
  .dead]
/- f52 detent/detentref01.Words: 10 steps, 1 blocks, 1 great ones -/
def Q1D : Value := .slice (some ⟨256, 0, none⟩) 36 36
def KV : List AObj := [.cells [.string ⟨#[97, 102, 116, 101, 114]⟩, .string ⟨#[97, 114, 114]⟩, .string ⟨#[99, 97, 108, 108]⟩, .string ⟨#[99, 97, 110, 99, 101, 108]⟩, .string ⟨#[99, 108, 97, 115, 115]⟩, .string ⟨#[99, 111, 109, 112]⟩, .string ⟨#[99, 114, 101, 97, 116, 101]⟩, .string ⟨#[100, 101, 115, 116, 114, 111, 121]⟩, .string ⟨#[100, 105, 115, 97, 98, 108, 101]⟩, .string ⟨#[101, 108, 115, 101]⟩, .string ⟨#[101, 110, 97, 98, 108, 101]⟩, .string ⟨#[101, 118, 101, 110, 116]⟩, .string ⟨#[102, 110]⟩, .string ⟨#[102, 114, 111, 110, 116]⟩, .string ⟨#[104, 97, 110, 100]⟩, .string ⟨#[105, 102]⟩, .string ⟨#[105, 110, 116]⟩, .string ⟨#[105, 116]⟩, .string ⟨#[106, 111, 105, 110]⟩, .string ⟨#[108, 101, 110]⟩, .string ⟨#[108, 111, 103]⟩, .string ⟨#[108, 111, 111, 112, 101, 114]⟩, .string ⟨#[109, 97, 105, 110]⟩, .string ⟨#[110, 101, 119]⟩, .string ⟨#[110, 117, 108, 108]⟩, .string ⟨#[111, 102, 102]⟩, .string ⟨#[111, 110]⟩, .string ⟨#[112, 111, 115, 116]⟩, .string ⟨#[114, 101, 116, 117, 114, 110]⟩, .string ⟨#[115, 112, 97, 119, 110]⟩, .string ⟨#[115, 116, 97, 114, 116]⟩, .string ⟨#[115, 116, 111, 112]⟩, .string ⟨#[116, 111]⟩, .string ⟨#[116, 111, 107]⟩, .string ⟨#[118, 97, 114]⟩, .string ⟨#[119, 104, 105, 108, 101]⟩] 9 0]
/- f17 detent/names.rules: 8991 steps, 37 blocks, 342 great ones -/
def Q2F : Value := .map (some 256)
def Q11 : List AObj := [.map [⟨.int .i64 (11), .func (.func 36) #[] #[], 0⟩, ⟨.int .i64 (9), .func (.func 37) #[] #[], 1⟩, ⟨.int .i64 (36), .func (.func 38) #[] #[], 2⟩, ⟨.int .i64 (12), .func (.func 39) #[] #[], 3⟩, ⟨.int .i64 (13), .func (.func 40) #[] #[], 4⟩, ⟨.int .i64 (29), .func (.func 41) #[] #[], 5⟩, ⟨.int .i64 (5), .func (.func 42) #[] #[], 6⟩, ⟨.int .i64 (19), .func (.func 43) #[] #[], 7⟩, ⟨.int .i64 (21), .func (.func 44) #[] #[], 8⟩, ⟨.int .i64 (22), .func (.func 44) #[] #[], 9⟩, ⟨.int .i64 (33), .func (.func 45) #[] #[], 10⟩, ⟨.int .i64 (2), .func (.func 47) #[] #[], 11⟩, ⟨.int .i64 (3), .func (.func 47) #[] #[], 12⟩, ⟨.int .i64 (6), .func (.func 47) #[] #[], 13⟩, ⟨.int .i64 (7), .func (.func 47) #[] #[], 14⟩, ⟨.int .i64 (8), .func (.func 47) #[] #[], 15⟩, ⟨.int .i64 (10), .func (.func 47) #[] #[], 16⟩] 17,
  .dead,
  .dead,
  .dead,
  .dead,
  .dead,
  .dead,
  .dead,
  .dead,
  .dead,
  .dead,
  .dead,
  .dead,
  .dead,
  .dead,
  .dead,
  .dead,
  .dead,
  .dead,
  .dead,
  .dead,
  .dead,
  .dead,
  .dead,
  .dead,
  .dead,
  .dead,
  .dead,
  .dead,
  .dead,
  .dead,
  .dead,
  .dead,
  .dead,
  .dead,
  .dead,
  .dead]
theorem Q8o (e : Nat) : Q2W (QbS Tryz.prog) 130 200 (Q1h 1 ZR e) Q2y JY = true := by kernel_rfl
theorem Q4d : Q1p Tryz.prog 130 (Q0h 1 ZR Q2y JY) := Q86 (QbS Tryz.prog) Kk (by decide) Q4i fun e => Q1y (Q8o e)
theorem Q9T : Q2W (QbS Tryz.prog) 35 400 Hp.empty Q5a Q5b = true := by kernel_rfl
theorem Q9U : Q1p Tryz.prog 35 (YO Q5a Q5b) := Q2b (QbS Tryz.prog) Kk (Q1y Q9T)
theorem Q7u : Q2W (QbS Tryz.prog) 52 100 Hp.empty Q1D KV = true := by kernel_rfl
theorem Q7w : Q1p Tryz.prog 52 (YO Q1D KV) := Q2b (QbS Tryz.prog) Kk (Q1y Q7u)
theorem Q8Z : Q2W (QbS Tryz.prog) 17 800 Hp.empty Q2F Q11 = true := by kernel_rfl
theorem Q4z : Q1p Tryz.prog 17 (YO Q2F Q11) := Q2b (QbS Tryz.prog) Kk (Q1y Q8Z)
noncomputable def namE1 : Env := Q3U (Q3U (QbS Tryz.prog) 130 (Q0h 1 ZR Q2y JY) Q4d) 17 (YO Q2F Q11) Q4z
theorem Qbk (e : Nat) : Q8v namE1 7 12000 (Q1h 1 ZR e) = true := by kernel_rfl
theorem Q8y : Q1p Tryz.prog 7 (Q23 1 ZR) := Q9C namE1 Kk (by decide) Q4i fun e => Q5C (Qbk e)
end Go.Proofs.YtkidomfnmpnmaaaGreatDoor
namespace Go.Proofs.YtkidomfnmpnmaaaGreatDoor
open Go.X Go.RowKit Go.Shelf
noncomputable def nmE1 : Env := Q3U (Q3U (Q3U (Q3U (envOf Tryz.prog) 7 (Q23 1 ZR) Q8y) 130 (Q0h 1 ZR Q2y JY) Q4d) 35 (YO Q5a Q5b) Q9U) 52 (YO Q1D KV) Q7w
noncomputable def nmE : Env := Q3U (Q3U (Q3U nmE1 17 (YO Q2F Q11) Q4z) 86 (Qev 0) (Qea Tryz.lays173 (by kernel_rfl) (by decide))) 75 (Q83 0) (Qbv Tryz.lays171 (by kernel_rfl) (by decide))
theorem sm89 : nmE.sm 130 = some (Q0h 1 ZR Q2y JY) := rfl
theorem sm25 : nmE.sm 35 = some (YO Q5a Q5b) := rfl
theorem sm90 : nmE.sm 52 = some (YO Q1D KV) := rfl
theorem sm17 : nmE.sm 17 = some (YO Q2F Q11) := rfl
theorem sm86 : nmE.sm 86 = some (Qev 0) := rfl
theorem sm75 : nmE.sm 75 = some (Q83 0) := rfl
theorem sm7 : nmE.sm 7 = some (Q23 1 ZR) := rfl
abbrev iV (k : Int) : Value := .int .i64 k
abbrev Zx (i : Nat) : Value := .pointer (some ⟨i, 0, none⟩)
abbrev twC (K : Int) (s : ByteArray) (N L C : Int) (ks : Value) : List Value := [iV K, .string s, iV N, iV L, iV C, ks]
abbrev twV (K : Int) (s : ByteArray) (N L C : Int) (ks : Value) : Value := .agg #[iV K, .string s, iV N, iV L, iV C, ks]
end Go.Proofs.YtkidomfnmpnmaaaGreatDoor
namespace Go.Proofs.YtkidomfnmpnmaaaGreatDoor
open Go.X
def JV (l : List UInt8) : ByteArray := ⟨l.toArray⟩
def opS (s : ByteArray) : Bool := eqS s (JV [43]) || eqS s (JV [45]) || eqS s (JV [42]) || eqS s (JV [60]) || eqS s (JV [61, 61])
def Qw (K : Int) : Bool := decide (26 ≤ K) && decide (K ≤ 36)
def QC (K : Int) (s : ByteArray) : Int :=
  if K = 32 then (if s.toList = [60] ∨ s.toList = [61, 61] then 1 else if s.toList = [43] ∨ s.toList = [45] then 2 else 3)
  else if K = 34 ∨ K = 35 then 4 else if Qw K = true then 5 else 0
def bAt (s : ByteArray) (j : Nat) : UInt8 := s.toList.getD j 0
theorem KR {s : ByteArray} {j : Nat} (h : j < s.toList.length) : s[(j : Int).toNat]? = some (bAt s j) := by
  rw [Int.toNat_natCast, Qal, bAt, List.getD_eq_getElem?_getD, List.getElem?_eq_getElem h]; rfl
theorem Q6q {s : ByteArray} {j : Nat} (h : j < s.toList.length) : s.toList[j] = bAt s j := by
  rw [bAt, List.getD_eq_getElem?_getD, List.getElem?_eq_getElem h]; rfl
def Q5n (n : Int) : Bool := decide (48 ≤ n) && decide (n ≤ 57)
def Q22 (n : Int) : Bool := (decide (97 ≤ n) && decide (n ≤ 122)) || (decide (65 ≤ n) && decide (n ≤ 90)) || decide (n = 95)
abbrev ZJ (b : UInt8) : Bool := Q5n (b.toNat : Nat)
abbrev ZM (b : UInt8) : Bool := Q22 (b.toNat : Nat)
theorem Q9w : ∀ n : Nat, n < 256 → (decide ((n : Int) = 95) || (decide (97 ≤ IntKind.u8.wrap ((BitVec.ofInt 8 (n : Int) ||| BitVec.ofInt 8 32).toNat : Nat)) && decide (IntKind.u8.wrap ((BitVec.ofInt 8 (n : Int) ||| BitVec.ofInt 8 32).toNat : Nat) ≤ 122))) = Q22 n := by decide +kernel
def wordsM : MsK ByteArray := match JY with
  | .map es _ :: _ => es.map fun e => ((match e.key with | .string s => s | _ => .empty), e.val, e.born)
  | _ => []
def wordsL : List ByteArray := match KV with
  | .cells cs _ _ :: _ => cs.map fun v => match v with | .string s => s | _ => .empty
  | _ => []
def Kj (s : ByteArray) : Bool := wordsL.any fun w => eqS w s
def Za (s : ByteArray) : Bool := !s.toList.isEmpty && decide (s.toList.length ≤ 32) && !ZJ (bAt s 0) && s.toList.all (fun b => ZM b || ZJ b) && !Kj s
theorem Yl {s : ByteArray} : Za s = true ↔ s.toList ≠ [] ∧ s.toList.length ≤ 32 ∧ ZJ (bAt s 0) = false ∧ (∀ j, j < s.toList.length → (ZM (bAt s j) || ZJ (bAt s j)) = true) ∧ Kj s = false := by
  simp only [Za, Bool.and_eq_true, Bool.not_eq_true', decide_eq_true_eq, List.all_eq_true]; constructor
  · rintro ⟨⟨⟨⟨h1, h2⟩, h3⟩, h4⟩, h5⟩; exact ⟨(by intro e; rw [e] at h1; cases h1), h2, h3, fun j hj => by rw [← Q6q hj]; exact h4 _ (List.getElem_mem hj), h5⟩
  rintro ⟨h1, h2, h3, h4, h5⟩; refine ⟨⟨⟨⟨?_, h2⟩, h3⟩, fun b hb => ?_⟩, h5⟩
  · cases e : s.toList with
    | nil => exact absurd e h1
    | cons a l => rfl
  obtain ⟨j, hj, rfl⟩ := List.mem_iff_getElem.1 hb; rw [Q6q hj]; exact h4 j hj
section
variable {h : Hp} {K N L Co : Int} {s : ByteArray} {ks : Value} {b : UInt8}
theorem c15 : CP nmE 54 [.string s] h (.bool (opS s)) := by
  refine Qf (fu := Tryz.f54) (by kernel_rfl) rfl ?_; refine Qd ?_; refine Q3 gn rfl rfl ?_; refine Zw ?_; refine Q4 gn rfl rfl ?_; refine Yp gn rfl rfl rfl ?_; refine Q4 gn rfl rfl ?_
  refine Yo (n := 2) rfl rfl rfl gn rfl (fun hb => by
      refine Q4 (gy rfl rfl rfl hb) rfl rfl ?_; refine Yp (gy rfl rfl rfl hb) rfl rfl rfl ?_
      exact Q5 ⟨rfl, rfl, 2, rfl, rfl⟩) ?_
  refine Q4 gn rfl rfl ?_
  refine Yo (n := 2) rfl rfl rfl gn rfl (fun hb => by
      refine Q4 (gy rfl rfl rfl hb) rfl rfl ?_; refine Yp (gy rfl rfl rfl hb) rfl rfl rfl ?_
      exact Q5 ⟨rfl, rfl, 2, rfl, rfl⟩) ?_
  refine Q4 gn rfl rfl ?_
  refine Yo (n := 2) rfl rfl rfl gn rfl (fun hb => by
      refine Q4 (gy rfl rfl rfl hb) rfl rfl ?_; refine Yp (gy rfl rfl rfl hb) rfl rfl rfl ?_
      exact Q5 ⟨rfl, rfl, 2, rfl, rfl⟩) ?_
  refine Q4 gn rfl rfl ?_
  refine Yo (n := 2) rfl rfl rfl gn rfl (fun hb => by
      refine Q4 (gy rfl rfl rfl hb) rfl rfl ?_; refine Yp (gy rfl rfl rfl hb) rfl rfl rfl ?_
      exact Q5 ⟨rfl, rfl, 2, rfl, rfl⟩) ?_
  refine Q3 gn rfl rfl ?_; refine Q5 ?_; refine Qc ?_; refine ⟨.inl rfl, _, rfl, ?_⟩; exact ⟨rfl, rfl⟩
theorem c16 : CP nmE 67 [iV K] h (.bool (Qw K)) := by
  refine Qf (fu := Tryz.f67) (by kernel_rfl) rfl ?_; refine Qd ?_; refine Q3 gn rfl rfl ?_; refine Zw ?_; refine Q4 gn rfl rfl ?_; refine Y5 gn rfl rfl rfl ?_; refine Q4 gn rfl rfl ?_
  refine ZU (n := 2) rfl rfl rfl gn rfl (fun hb => by
      refine Q4 (gy rfl rfl rfl hb) rfl rfl ?_; refine Q0F (gy rfl rfl rfl hb) rfl rfl rfl ?_
      exact Q5 ⟨rfl, rfl, 2, rfl, rfl⟩) ?_
  refine Q3 gn rfl rfl ?_; refine Q5 ?_; refine Qc ?_; refine ⟨.inl rfl, _, rfl, ?_⟩; exact ⟨rfl, rfl⟩
theorem c17 : CP nmE 87 [iV K] h (.bool (Qw K)) := by
  refine Qf (fu := Tryz.f87) (by kernel_rfl) rfl ?_; refine Qd ?_; refine Q3 gn rfl rfl ?_; refine Zw ?_; refine Q4 gn rfl rfl ?_; refine Y5 gn rfl rfl rfl ?_; refine Q4 gn rfl rfl ?_
  refine ZU (n := 2) rfl rfl rfl gn rfl (fun hb => by
      refine Q4 (gy rfl rfl rfl hb) rfl rfl ?_; refine Q0F (gy rfl rfl rfl hb) rfl rfl rfl ?_
      exact Q5 ⟨rfl, rfl, 2, rfl, rfl⟩) ?_
  refine Q3 gn rfl rfl ?_; refine Q5 ?_; refine Qc ?_; refine ⟨.inl rfl, _, rfl, ?_⟩; exact ⟨rfl, rfl⟩
theorem c18 : C nmE 98 [twV K s N L Co ks] h fun v h' => v = iV (QC K s) ∧ Ext h h' := by
  refine Qf (fu := Tryz.f98) (by kernel_rfl) rfl ?_; refine Qd ?_; refine Qbe gn rfl rfl ?_; refine wl_at (fun h2 => h2.get h.n = some (.cells (twC K s N L Co ks) 41 0) ∧ Ext h h2) ⟨Hp.get_alloc_self _ _, Ext.alloc _ _⟩ fun h2 ⟨g1, x2⟩ => ?_; refine Q3 gn rfl rfl ?_; refine Q5 ?_; refine Qj ?_; refine Qg ?_; refine Qd ?_; refine Q0 (off := 0) gn rfl rfl (by kernel_rfl) ?_; refine Q6 gn rfl rfl (by kernel_rfl) (by assumption) rfl ?_; refine Qq gn rfl rfl rfl ?_; refine Q4 gn rfl rfl ?_
  refine ZU (n := 8) rfl rfl rfl gn rfl (fun hb => by
      refine Q0 (off := 1) (gy rfl rfl rfl hb) rfl rfl (by kernel_rfl) ?_; refine Q6 (gy rfl rfl rfl hb) rfl rfl (by kernel_rfl) (by assumption) rfl ?_; refine Yp (gy rfl rfl rfl hb) rfl rfl rfl ?_; refine Q4 (gy rfl rfl rfl hb) rfl rfl ?_
      refine Yo (n := 3) rfl rfl rfl (gy rfl rfl rfl hb) rfl (fun hb => by
          refine Q0 (off := 1) (gy rfl rfl rfl hb) rfl rfl (by kernel_rfl) ?_; refine Q6 (gy rfl rfl rfl hb) rfl rfl (by kernel_rfl) (by assumption) rfl ?_; refine Yp (gy rfl rfl rfl hb) rfl rfl rfl ?_
          exact Q5 ⟨rfl, rfl, 3, rfl, rfl⟩) ?_
      exact Q5 ⟨rfl, rfl, 5, rfl, rfl⟩) ?_
  refine Q3 gn rfl rfl ?_; refine Q5 ?_; refine Qa rfl (fun hb => ?_) fun hb => ?_
  · skip
    refine Qd ?_; refine Q3 gn rfl rfl ?_; refine Q5 ?_; refine Qc ?_; refine ⟨.inl rfl, _, rfl, ?_⟩; exact ⟨congrArg iV (by unfold QC; (repeat' split) <;> simp_all), x2⟩
  refine Qd ?_; refine Q0 (off := 0) gn rfl rfl (by kernel_rfl) ?_; refine Q6 gn rfl rfl (by kernel_rfl) (by assumption) rfl ?_; refine Qq gn rfl rfl rfl ?_; refine Q4 gn rfl rfl ?_
  refine ZU (n := 8) rfl rfl rfl gn rfl (fun hb => by
      refine Q0 (off := 1) (gy rfl rfl rfl hb) rfl rfl (by kernel_rfl) ?_; refine Q6 (gy rfl rfl rfl hb) rfl rfl (by kernel_rfl) (by assumption) rfl ?_; refine Yp (gy rfl rfl rfl hb) rfl rfl rfl ?_; refine Q4 (gy rfl rfl rfl hb) rfl rfl ?_
      refine Yo (n := 3) rfl rfl rfl (gy rfl rfl rfl hb) rfl (fun hb => by
          refine Q0 (off := 1) (gy rfl rfl rfl hb) rfl rfl (by kernel_rfl) ?_; refine Q6 (gy rfl rfl rfl hb) rfl rfl (by kernel_rfl) (by assumption) rfl ?_; refine Yp (gy rfl rfl rfl hb) rfl rfl rfl ?_
          exact Q5 ⟨rfl, rfl, 3, rfl, rfl⟩) ?_
      exact Q5 ⟨rfl, rfl, 5, rfl, rfl⟩) ?_
  refine Q3 gn rfl rfl ?_; refine Q5 ?_; refine Qa rfl (fun hb => ?_) fun hb => ?_
  · skip
    refine Qd ?_; refine Q3 gn rfl rfl ?_; refine Q5 ?_; refine Qc ?_; refine ⟨.inl rfl, _, rfl, ?_⟩; exact ⟨congrArg iV (by unfold QC; (repeat' split) <;> simp_all), x2⟩
  refine Qd ?_; refine Q0 (off := 0) gn rfl rfl (by kernel_rfl) ?_; refine Q6 gn rfl rfl (by kernel_rfl) (by assumption) rfl ?_; refine Qq gn rfl rfl rfl ?_; refine Q3 gn rfl rfl ?_; refine Q5 ?_; refine Qa rfl (fun hb => ?_) fun hb => ?_
  · skip
    refine Qd ?_; refine Q3 gn rfl rfl ?_; refine Q5 ?_; refine Qc ?_; refine ⟨.inl rfl, _, rfl, ?_⟩; exact ⟨congrArg iV (by unfold QC; (repeat' split) <;> simp_all), x2⟩
  refine Qd ?_; refine Q0 (off := 0) gn rfl rfl (by kernel_rfl) ?_; refine Q6 gn rfl rfl (by kernel_rfl) (by assumption) rfl ?_; refine Qq gn rfl rfl rfl ?_; refine Q4 gn rfl rfl ?_
  refine Yo (n := 3) rfl rfl rfl gn rfl (fun hb => by
      refine Q0 (off := 0) (gy rfl rfl rfl hb) rfl rfl (by kernel_rfl) ?_; refine Q6 (gy rfl rfl rfl hb) rfl rfl (by kernel_rfl) (by assumption) rfl ?_; refine Qq (gy rfl rfl rfl hb) rfl rfl rfl ?_
      exact Q5 ⟨rfl, rfl, 3, rfl, rfl⟩) ?_
  refine Q3 gn rfl rfl ?_; refine Q5 ?_; refine Qa rfl (fun hb => ?_) fun hb => ?_
  · skip
    refine Qd ?_; refine Q3 gn rfl rfl ?_; refine Q5 ?_; refine Qc ?_; refine ⟨.inl rfl, _, rfl, ?_⟩; exact ⟨congrArg iV (by unfold QC; (repeat' split) <;> simp_all), x2⟩
  refine Qd ?_; refine Q0 (off := 0) gn rfl rfl (by kernel_rfl) ?_; refine Q6 gn rfl rfl (by kernel_rfl) (by assumption) rfl ?_; refine Qb [_] gn rfl rfl (by kernel_rfl) rfl (K8 (c16) ⟨ag0, ?_⟩); refine Q3 gn rfl rfl ?_; refine Q5 ?_; refine Qa rfl (fun hb => ?_) fun hb => ?_
  · skip
    refine Qd ?_; refine Q3 gn rfl rfl ?_; refine Q5 ?_; refine Qc ?_; refine ⟨.inl rfl, _, rfl, ?_⟩; exact ⟨congrArg iV (by unfold QC; (repeat' split) <;> simp_all [Qw] <;> omega), x2⟩
  refine Qe ?_; refine Qd ?_; refine Q3 gn rfl rfl ?_; refine Q5 ?_; refine Qc ?_; refine ⟨.inl rfl, _, rfl, ?_⟩; have ht : Qw K = false := hb
  exact ⟨congrArg iV (by
    unfold QC
    rw [if_neg (fun e => by subst e; cases ht), if_neg (fun e => by rcases e with e | e <;> subst e <;> cases ht), if_neg (by rw [ht]; simp)]), x2⟩
theorem c19 : C nmE 55 [twV K s N L Co ks] h fun v h' => v = iV (QC K s) ∧ Ext h h' := by
  refine Qf (fu := Tryz.f55) (by kernel_rfl) rfl ?_; refine Qd ?_; refine Qbe gn rfl rfl ?_; refine wl_at (fun h2 => h2.get h.n = some (.cells (twC K s N L Co ks) 41 0) ∧ Ext h h2) ⟨Hp.get_alloc_self _ _, Ext.alloc _ _⟩ fun h2 ⟨g1, x2⟩ => ?_; refine Q3 gn rfl rfl ?_; refine Kz ?_; refine Q0 (off := 0) gn rfl rfl (by kernel_rfl) ?_; refine Q6 gn rfl rfl (by kernel_rfl) (by assumption) rfl ?_; refine Qb [_] gn rfl rfl (by kernel_rfl) rfl (K8 (c17) ⟨ag0, ?_⟩); refine ZT gn rfl rfl ?_; refine Q5 ?_; refine Qa rfl (fun hb => ?_) fun hb => ?_
  · skip
    refine Qd ?_; refine Q3 gn rfl rfl ?_; refine Q5 ?_; refine Qc ?_; refine ⟨.inl rfl, _, rfl, ?_⟩; exact ⟨congrArg iV (by unfold QC; (repeat' split) <;> simp_all [Qw] <;> omega), x2⟩
  refine Qe ?_; refine Qj ?_; refine Qd ?_; refine Q0 (off := 0) gn rfl rfl (by kernel_rfl) ?_; refine Q6 gn rfl rfl (by kernel_rfl) (by assumption) rfl ?_; refine Q5 ?_; refine Qg ?_; refine Qd ?_; refine Qq gn rfl rfl rfl ?_; refine Q3 gn rfl rfl ?_; refine Q5 ?_; refine Qa rfl (fun hb => ?_) fun hb => ?_
  · skip
    refine Qj ?_; refine Qd ?_; refine Q0 (off := 1) gn rfl rfl (by kernel_rfl) ?_; refine Q6 gn rfl rfl (by kernel_rfl) (by assumption) rfl ?_; refine Q5 ?_; refine Qg ?_; refine Qj ?_; refine Qd ?_; refine Yp gn rfl rfl rfl ?_; refine Q3 gn rfl rfl ?_; refine Q5 ?_; refine Qa rfl (fun hb => ?_) fun hb => ?_
    · skip
      refine Qe ?_; refine Qa rfl (fun hb => ?_) fun hb => ?_
      · skip
        refine Qd ?_; refine Q3 gn rfl rfl ?_; refine Q5 ?_; refine Qc ?_; refine ⟨.inl rfl, _, rfl, ?_⟩; exact ⟨congrArg iV (by unfold QC; (repeat' split) <;> simp_all [Qw] <;> omega), x2⟩
      refine Qj ?_; refine Qd ?_; refine Yp gn rfl rfl rfl ?_; refine Q3 gn rfl rfl ?_; refine Q5 ?_; refine Qa rfl (fun hb => ?_) fun hb => ?_
      · skip
        refine Qe ?_; refine Qa rfl (fun hb => ?_) fun hb => ?_
        · skip
          refine Qd ?_; refine Q3 gn rfl rfl ?_; refine Q5 ?_; refine Qc ?_; refine ⟨.inl rfl, _, rfl, ?_⟩; exact ⟨congrArg iV (by unfold QC; (repeat' split) <;> simp_all [Qw] <;> omega), x2⟩
        refine Qe ?_; refine Qd ?_; refine Q3 gn rfl rfl ?_; refine Q5 ?_; refine Qc ?_; refine ⟨.inl rfl, _, rfl, ?_⟩; exact ⟨congrArg iV (by unfold QC; (repeat' split) <;> simp_all [Qw] <;> omega), x2⟩
      refine Q8 (by kernel_rfl) ?_; refine Yp gn rfl rfl rfl ?_; refine Q3 gn rfl rfl ?_; refine Q5 ?_; refine Qa rfl (fun hb => ?_) fun hb => ?_
      · skip
        refine Qd ?_; refine Q3 gn rfl rfl ?_; refine Q5 ?_; refine Qc ?_; refine ⟨.inl rfl, _, rfl, ?_⟩; exact ⟨congrArg iV (by unfold QC; (repeat' split) <;> simp_all [Qw] <;> omega), x2⟩
      refine Qe ?_; refine Qd ?_; refine Q3 gn rfl rfl ?_; refine Q5 ?_; refine Qc ?_; refine ⟨.inl rfl, _, rfl, ?_⟩; exact ⟨congrArg iV (by unfold QC; (repeat' split) <;> simp_all [Qw] <;> omega), x2⟩
    refine Q8 (by kernel_rfl) ?_; refine Yp gn rfl rfl rfl ?_; refine Q3 gn rfl rfl ?_; refine Q5 ?_; refine Qa rfl (fun hb => ?_) fun hb => ?_
    · skip
      refine Qd ?_; refine Q3 gn rfl rfl ?_; refine Q5 ?_; refine Qc ?_; refine ⟨.inl rfl, _, rfl, ?_⟩; exact ⟨congrArg iV (by unfold QC; (repeat' split) <;> simp_all [Qw] <;> omega), x2⟩
    refine Qj ?_; refine Qd ?_; refine Yp gn rfl rfl rfl ?_; refine Q3 gn rfl rfl ?_; refine Q5 ?_; refine Qa rfl (fun hb => ?_) fun hb => ?_
    · skip
      refine Qe ?_; refine Qa rfl (fun hb => ?_) fun hb => ?_
      · skip
        refine Qd ?_; refine Q3 gn rfl rfl ?_; refine Q5 ?_; refine Qc ?_; refine ⟨.inl rfl, _, rfl, ?_⟩; exact ⟨congrArg iV (by unfold QC; (repeat' split) <;> simp_all [Qw] <;> omega), x2⟩
      refine Qe ?_; refine Qd ?_; refine Q3 gn rfl rfl ?_; refine Q5 ?_; refine Qc ?_; refine ⟨.inl rfl, _, rfl, ?_⟩; exact ⟨congrArg iV (by unfold QC; (repeat' split) <;> simp_all [Qw] <;> omega), x2⟩
    refine Q8 (by kernel_rfl) ?_; refine Yp gn rfl rfl rfl ?_; refine Q3 gn rfl rfl ?_; refine Q5 ?_; refine Qa rfl (fun hb => ?_) fun hb => ?_
    · skip
      refine Qd ?_; refine Q3 gn rfl rfl ?_; refine Q5 ?_; refine Qc ?_; refine ⟨.inl rfl, _, rfl, ?_⟩; exact ⟨congrArg iV (by unfold QC; (repeat' split) <;> simp_all [Qw] <;> omega), x2⟩
    refine Qe ?_; refine Qd ?_; refine Q3 gn rfl rfl ?_; refine Q5 ?_; refine Qc ?_; refine ⟨.inl rfl, _, rfl, ?_⟩; exact ⟨congrArg iV (by unfold QC; (repeat' split) <;> simp_all [Qw] <;> omega), x2⟩
  refine Qj ?_; refine Qd ?_; refine Qq gn rfl rfl rfl ?_; refine Q3 gn rfl rfl ?_; refine Q5 ?_; refine Qa rfl (fun hb => ?_) fun hb => ?_
  · skip
    refine Qe ?_; refine Qa rfl (fun hb => ?_) fun hb => ?_
    · skip
      refine Qd ?_; refine Q3 gn rfl rfl ?_; refine Q5 ?_; refine Qc ?_; refine ⟨.inl rfl, _, rfl, ?_⟩; exact ⟨congrArg iV (by unfold QC; (repeat' split) <;> simp_all [Qw] <;> omega), x2⟩
    refine Qe ?_; refine Qd ?_; refine Q3 gn rfl rfl ?_; refine Q5 ?_; refine Qc ?_; refine ⟨.inl rfl, _, rfl, ?_⟩; exact ⟨congrArg iV (by unfold QC; (repeat' split) <;> simp_all [Qw] <;> omega), x2⟩
  refine Q8 (by kernel_rfl) ?_; refine Qq gn rfl rfl rfl ?_; refine Q3 gn rfl rfl ?_; refine Q5 ?_; refine Qa rfl (fun hb => ?_) fun hb => ?_
  · skip
    refine Qd ?_; refine Q3 gn rfl rfl ?_; refine Q5 ?_; refine Qc ?_; refine ⟨.inl rfl, _, rfl, ?_⟩; exact ⟨congrArg iV (by unfold QC; (repeat' split) <;> simp_all [Qw] <;> omega), x2⟩
  refine Qe ?_; refine Qd ?_; refine Q3 gn rfl rfl ?_; refine Q5 ?_; refine Qc ?_; refine ⟨.inl rfl, _, rfl, ?_⟩; exact ⟨congrArg iV (by unfold QC; (repeat' split) <;> simp_all [Qw] <;> omega), x2⟩
theorem c78 : CP nmE 117 [.int .u8 (b.toNat : Nat)] h (.bool (ZJ b)) := by
  refine Qf (fu := Tryz.f117) (by kernel_rfl) rfl ?_; refine Qd ?_; refine Q3 gn rfl rfl ?_; refine Zw ?_; refine Q4 gn rfl rfl ?_; refine Y5 gn rfl rfl rfl ?_; refine Q4 gn rfl rfl ?_
  refine ZU (n := 2) rfl rfl rfl gn rfl (fun hb => by
      refine Q4 (gy rfl rfl rfl hb) rfl rfl ?_; refine Q0F (gy rfl rfl rfl hb) rfl rfl rfl ?_
      exact Q5 ⟨rfl, rfl, 2, rfl, rfl⟩) ?_
  refine Q3 gn rfl rfl ?_; refine Q5 ?_; refine Qc ?_; refine ⟨.inl rfl, _, rfl, ?_⟩; exact ⟨rfl, rfl⟩
theorem c83 : CP nmE 25 [.int .u8 (b.toNat : Nat)] h (.bool (ZJ b)) := by
  refine Qf (fu := Tryz.f25) (by kernel_rfl) rfl ?_; refine Qd ?_; refine Q3 gn rfl rfl ?_; refine Zw ?_; refine Q4 gn rfl rfl ?_; refine Y5 gn rfl rfl rfl ?_; refine Q4 gn rfl rfl ?_
  refine ZU (n := 2) rfl rfl rfl gn rfl (fun hb => by
      refine Q4 (gy rfl rfl rfl hb) rfl rfl ?_; refine Q0F (gy rfl rfl rfl hb) rfl rfl rfl ?_
      exact Q5 ⟨rfl, rfl, 2, rfl, rfl⟩) ?_
  refine Q3 gn rfl rfl ?_; refine Q5 ?_; refine Qc ?_; refine ⟨.inl rfl, _, rfl, ?_⟩; exact ⟨rfl, rfl⟩
theorem c82 : CP nmE 24 [.int .u8 (b.toNat : Nat)] h (.bool (ZM b)) := by
  refine Qf (fu := Tryz.f24) (by kernel_rfl) rfl ?_; refine Qd ?_; refine Q3 gn rfl rfl ?_; refine Zw ?_; refine Q4 gn rfl rfl ?_; refine Y5 gn rfl rfl rfl ?_; refine Q4 gn rfl rfl ?_
  refine ZU (n := 2) rfl rfl rfl gn rfl (fun hb => by
      refine Q4 (gy rfl rfl rfl hb) rfl rfl ?_; refine Q0F (gy rfl rfl rfl hb) rfl rfl rfl ?_
      exact Q5 ⟨rfl, rfl, 2, rfl, rfl⟩) ?_
  refine Q4 gn rfl rfl ?_
  refine Yo (n := 6) rfl rfl rfl gn rfl (fun hb => by
      refine Q4 (gy rfl rfl rfl hb) rfl rfl ?_; refine Y5 (gy rfl rfl rfl hb) rfl rfl rfl ?_; refine Q4 (gy rfl rfl rfl hb) rfl rfl ?_
      refine ZU (n := 2) rfl rfl rfl (gy rfl rfl rfl hb) rfl (fun hb => by
          refine Q4 (gy rfl rfl rfl hb) rfl rfl ?_; refine Q0F (gy rfl rfl rfl hb) rfl rfl rfl ?_
          exact Q5 ⟨rfl, rfl, 2, rfl, rfl⟩) ?_
      exact Q5 ⟨rfl, rfl, 4, rfl, rfl⟩) ?_
  refine Q4 gn rfl rfl ?_
  refine Yo (n := 2) rfl rfl rfl gn rfl (fun hb => by
      refine Q4 (gy rfl rfl rfl hb) rfl rfl ?_; refine Qq (gy rfl rfl rfl hb) rfl rfl rfl ?_
      exact Q5 ⟨rfl, rfl, 2, rfl, rfl⟩) ?_
  refine Q3 gn rfl rfl ?_; refine Q5 ?_; refine Qc ?_; refine ⟨.inl rfl, _, rfl, ?_⟩; exact ⟨rfl, rfl⟩
theorem c80 : CP nmE 119 [.int .u8 (b.toNat : Nat)] h (.bool (ZM b)) := by
  refine Qf (fu := Tryz.f119) (by kernel_rfl) rfl ?_; refine Qd ?_; refine Q3 gn rfl rfl ?_; refine Zw ?_; refine Q4 gn rfl rfl ?_; refine Qq gn rfl rfl rfl ?_; refine Q4 gn rfl rfl ?_
  refine Yo (n := 8) rfl rfl rfl gn rfl (fun hb => by
      refine Q4 (gy rfl rfl rfl hb) rfl rfl ?_; refine o_or8 (gy rfl rfl rfl hb) rfl rfl rfl ?_; refine Y5 (gy rfl rfl rfl hb) rfl rfl rfl ?_; refine Q4 (gy rfl rfl rfl hb) rfl rfl ?_
      refine ZU (n := 3) rfl rfl rfl (gy rfl rfl rfl hb) rfl (fun hb => by
          refine Q4 (gy rfl rfl rfl hb) rfl rfl ?_; refine o_or8 (gy rfl rfl rfl hb) rfl rfl rfl ?_; refine Q0F (gy rfl rfl rfl hb) rfl rfl rfl ?_
          exact Q5 ⟨rfl, rfl, 3, rfl, rfl⟩) ?_
      exact Q5 ⟨rfl, rfl, 5, rfl, rfl⟩) ?_
  refine Q3 gn rfl rfl ?_; refine Q5 ?_; refine Qc ?_; refine ⟨.inl rfl, _, rfl, ?_⟩; exact ⟨congrArg _ (Q9w b.toNat b.toNat_lt), rfl⟩
end
end Go.Proofs.YtkidomfnmpnmaaaGreatDoor
namespace Go.Proofs.YtkidomfnmpnmaaaGreatDoor
open Go.X
structure Blk (h : Hp) : Prop where
  t : QS 1 ZR h = true
  lt : 1 < h.n
theorem Blk.ext {h h' : Hp} (x : Blk h) (g : Ext h h') : Blk h' := ⟨by
  have := x.t; unfold QS at *
  rw [g.get 1 x.lt]; exact this, Nat.lt_of_lt_of_le x.lt g.n⟩
theorem Q7a {E : Env} {t kt et : TypeId} (hu : E.und t = some (.map kt et)) (hk : E.und kt = some .string) : KeyT E t kt et Value.string := by
  refine ⟨hu, fun h a b => ?_, fun a => by simp [ZX, hk, Zp]⟩
  have : (a.data.toList == b.data.toList) = decide (a = b) := by
    rw [Bool.eq_iff_iff, beq_iff_eq, decide_eq_true_eq]; exact ⟨fun e => ByteArray.ext (Array.toList_inj.1 e), fun e => by rw [e]⟩
  simp [Ja, hk, Zp, sameV, this]
theorem key100 : KeyT nmE 160 9 159 Value.string := Q7a (by kernel_rfl) (by kernel_rfl)
theorem Q8p (n : Nat) : pcs n JY [0] = [cR n (.map (wordsM.map (Q1n Value.string)) 36)] := by kernel_rfl
theorem Qcx (n : Nat) : shV 400 n Q2y = some (.map (some n)) := by kernel_rfl
theorem Qcy (n : Nat) : Q7z n JY = some JY := by kernel_rfl
theorem Qaz (n : Nat) : shV 400 n Q1D = some (.slice (some ⟨n, 0, none⟩) 36 36) := by kernel_rfl
theorem QaA (n : Nat) : Q7z n KV = some KV := by kernel_rfl
theorem Q7v (n : Nat) : pcs n KV [0] = [cR n (.cells (wordsL.map Value.string) 9 0)] := by kernel_rfl
theorem Q2z : wordsL.length = 36 := by kernel_rfl
theorem Q5B : wordsM.map (·.1) = wordsL := by kernel_rfl
theorem Q5A : wordsM.map (·.2.1) = List.replicate 36 (.agg #[.bool true]) := by kernel_rfl
theorem Q7c {K : Type} [DecidableEq K] {v : Value} : ∀ (M : MsK K) (k : K) (i : Nat), (∀ x, x ∈ M → x.2.1 = v) → (fK k M i).map (·.2) = if k ∈ M.map (·.1) then some v else none
  | [], _, _, _ => rfl
  | (a, u, n) :: r, k, i, h => by
    simp only [fK, List.map_cons, List.mem_cons]; by_cases e : k = a
    · have := h (a, u, n) (by simp); simp only at this; simp [e, this]
    simp only [e, false_or]; exact Q7c r k (i + 1) fun x hx => h x (by simp [hx])
theorem Q8q (s : ByteArray) : (Q0e wordsM s).getD (.agg #[.bool false]) = .agg #[.bool (Kj s)] := by
  have h : ∀ x, x ∈ wordsM → x.2.1 = .agg #[.bool true] := fun x hx => by
    have : x.2.1 ∈ wordsM.map (·.2.1) := List.mem_map_of_mem (f := fun x : ByteArray × Value × Nat => x.2.1) hx; rw [Q5A] at this; exact List.eq_of_mem_replicate this
  have hw : Kj s = true ↔ s ∈ wordsL := by
    unfold Kj; rw [List.any_eq_true]; constructor
    · rintro ⟨w, h1, h2⟩
      have : w = s := by
        simp only [eqS, beq_iff_eq, ByteArray.toList_eq] at h2; exact ByteArray.ext (Array.toList_inj.1 h2)
      rw [← this]; exact h1
    intro h1; exact ⟨s, h1, by simp [eqS]⟩
  rw [Q0e, Q7c wordsM s 0 h, Q5B]; by_cases e : s ∈ wordsL
  · rw [if_pos e, hw.2 e]; rfl
  have : Kj s = false := by
    cases hx : Kj s with
    | false => rfl
    | true => exact absurd (hw.1 hx) e
  rw [if_neg e, this]; rfl
section
variable {h : Hp} {K N L Co : Int} {s : ByteArray} {ks : Value} {b : UInt8}
theorem c79 (B : Blk h) : C nmE 118 [.string s] h fun v h' => v = .bool (Kj s) ∧ Ext h h' := by
  refine Qf (fu := Tryz.f118) (by kernel_rfl) rfl ?_; have S := SH.start h; refine Qd ?_; refine Q3 gn rfl rfl ?_; refine Zw ?_; refine QaY [0] S B.t B.lt (by simp) gn rfl (by kernel_rfl) (by kernel_rfl) sm89 Qcx Qcy (fun _ => by decide) (by decide) (fun n g nn S => ag0) fun n1 g nn1 S => ?_; rw [Q8p] at S; refine Q4 gn rfl rfl ?_; refine Q1W (zv := .agg #[.bool false]) key100 gn rfl rfl rfl (S.cel 0 rfl) (by kernel_rfl) ?_; rw [Q8q]; refine Q9i (v := .bool (Kj s)) gn rfl rfl (by kernel_rfl) ?_; refine Q3 gn rfl rfl ?_; refine Q5 ?_; refine Qc ?_; refine ⟨.inl rfl, _, rfl, ?_⟩; exact ⟨rfl, S.e0⟩
theorem c84 : C nmE 26 [.string s] h fun v h' => v = .bool (Kj s) ∧ Ext h h' := by
  refine Qf (fu := Tryz.f26) (by kernel_rfl) rfl ?_; have S := SH.start h; refine Qd ?_; refine Q3 gn rfl rfl ?_; refine Zw ?_; refine Q5O [0] S gn rfl (by kernel_rfl) (by kernel_rfl) sm90 Qaz QaA (fun _ => by decide) (by decide) (fun n g nn S => ag0) fun n1 g nn1 S => ?_; rw [Q7v] at S; refine Q3 gn rfl rfl ?_; refine Kz ?_; refine Q3 gn rfl rfl ?_; refine Q5 ?_; refine Qg ?_; refine QH [(4, _)] [(0, _), (3, _)] (by repeat (first | exact trivial | refine ⟨rfl, ?_⟩)) (fun kk lv hh => ∃ j : Nat, lv = [(4, iV j)] ∧ kk = 36 - j ∧ j ≤ 36 ∧ SH h [] [cR n1 (.cells (wordsL.map Value.string) 9 0)] hh ∧ ∀ i (hi : i < wordsL.length), i < j → eqS wordsL[i] s = false) (n := 36) ?_ fun kk lv hh hI => ?_
  · exact ⟨0, rfl, rfl, by omega, S, fun i hi h => by omega⟩
  obtain ⟨j, rfl, hk, hj, S, hs⟩ := hI; refine Qj ?_; refine Qd ?_; refine Q4 gn rfl rfl ?_; refine Q4 gn rfl rfl ?_; refine QI gn rfl rfl (by kernel_rfl) ?_; refine Z9 gn rfl rfl rfl ?_; refine Q5 ?_; refine Qa rfl (fun hb => ?_) fun hb => ?_
  · skip
    refine Qe ?_; have hj : j < 36 := by simp at hb; omega
    have hjl : j < wordsL.length := by rw [Q2z]; exact hj
    refine Qj ?_; refine Qg ?_; refine Qd ?_; refine Q4 gn rfl rfl ?_; refine Q4 gn rfl rfl ?_; refine Q7 (zz := 1) gn rfl rfl rfl (by kernel_rfl) (by omega) (by omega) ?_; refine Q6 gn rfl rfl (by kernel_rfl) (S.cel 0 rfl) (by rw [Int.toNat_natCast, Nat.mul_one, Nat.zero_add, List.getElem?_map, List.getElem?_eq_getElem hjl]; rfl) ?_; refine Q4 gn rfl rfl ?_; refine Yp gn rfl rfl rfl ?_; refine Q5 ?_; refine Qa rfl (fun hb => ?_) fun hb => ?_
    · skip
      refine Qd ?_; refine Q3 gn rfl rfl ?_; refine Q5 ?_; refine Qc ?_; refine ⟨.inl rfl, _, rfl, ?_⟩
      exact ⟨by
        have : Kj s = true := List.any_eq_true.2 ⟨wordsL[j], List.getElem_mem hjl, hb⟩
        rw [this]; rfl, S.e0⟩
    refine Qe ?_; refine Q8 (by kernel_rfl) ?_; refine Q4 gn rfl rfl ?_; refine QO gn rfl rfl rfl (by omega) (by omega) ?_; refine Q3 gn rfl rfl ?_; refine Q5 ?_
    exact Kc (36 - (j + 1)) (by omega) [(4, _)] (by repeat (first | exact trivial | refine ⟨rfl, ?_⟩)) ⟨j + 1, rfl, rfl, by omega, S, fun i hi h => by
      by_cases e : i = j
      · subst e; exact hb
      exact hs i hi (by omega)⟩
  refine QZ ?_; refine Qt ?_; refine Qu ?_; refine QY ?_; refine Qd ?_; refine Q3 gn rfl rfl ?_; refine Q5 ?_; refine Qc ?_; refine ⟨.inl rfl, _, rfl, ?_⟩
  exact ⟨by
    have : Kj s = false := by
      rw [Kj, List.any_eq_false]; intro w hw; obtain ⟨i, hi, rfl⟩ := List.mem_iff_getElem.1 hw; have := hs i hi (by rw [Q2z] at hi; simp at hb; omega); rw [this]; simp
    rw [this]; rfl, S.e0⟩
end
end Go.Proofs.YtkidomfnmpnmaaaGreatDoor
namespace Go.Proofs.YtkidomfnmpnmaaaGreatDoor
open Go.X
theorem Jo (s : ByteArray) : ((s.size : Nat) : Int) = s.toList.length := by rw [Qak]
theorem Kp {s : ByteArray} (h : ¬ Za s = true) : Za s = false := by cases hx : Za s <;> simp_all
theorem Jf (s : ByteArray) : eqS s ⟨#[]⟩ = s.toList.isEmpty := by
  have : (⟨#[]⟩ : ByteArray).toList = [] := by rw [ByteArray.toList_eq]
  simp only [eqS, this]; cases s.toList <;> rfl
theorem Q9Z {s : ByteArray} {c : Bool} (h : (s.toList.isEmpty || c) = false) : 0 < s.toList.length := by
  cases e : s.toList with
  | nil => rw [e] at h; simp at h
  | cons a l => simp
theorem Qbj {s : ByteArray} (h : ((s.toList.isEmpty || decide ((32 : Int) < s.toList.length)) || ZJ (bAt s 0)) = true) : Za s = false := Kp fun e => by
  obtain ⟨h1, h2, h3, _⟩ := Yl.1 e; simp only [Bool.or_eq_true, decide_eq_true_eq, h3, List.isEmpty_iff, Bool.false_eq_true, or_false] at h; rcases h with h | h
  · exact h1 h
  omega
theorem Q9o {s : ByteArray} (h : ((s.toList.isEmpty || decide ((32 : Int) < s.toList.length)) || ZJ (bAt s 0)) = false) : s.toList ≠ [] ∧ s.toList.length ≤ 32 ∧ ZJ (bAt s 0) = false := by
  simp only [Bool.or_eq_false_iff, decide_eq_false_iff_not] at h; exact ⟨fun e => by rw [e] at h; simp at h, by omega, h.2⟩
theorem Q73 {s : ByteArray} (h : Kj s = true) : Za s = false := Kp fun e => by rw [(Yl.1 e).2.2.2.2] at h; cases h
theorem Qbi {s : ByteArray} {j : Nat} (hj : j < s.toList.length) (h : (!ZM (bAt s j) && !ZJ (bAt s j)) = true) : Za s = false := Kp fun e => by
  have := (Yl.1 e).2.2.2.1 j hj
  revert h this
  cases ZM (bAt s j) <;> cases ZJ (bAt s j) <;> simp
theorem Q4U {n : Int} (h : Q22 n = true) : Q5n n = false := by
  simp only [Q22, Q5n, Bool.or_eq_true, Bool.and_eq_true, decide_eq_true_eq, Bool.and_eq_false_iff, decide_eq_false_iff_not] at *; omega
theorem Qbh {s : ByteArray} {j : Nat} (hj : j < s.toList.length) (h : (!ZM (bAt s j) && (decide ((j : Int) = 0) || !ZJ (bAt s j))) = true) : Za s = false := Kp fun e => by
  obtain ⟨_, _, h3, h4, _⟩ := Yl.1 e; have h4 := h4 j hj; simp only [Bool.and_eq_true, Bool.not_eq_true', Bool.or_eq_true, decide_eq_true_eq] at h h4; rcases h.2 with e | e
  · have : j = 0 := by omega
    subst this; rw [h.1, h3] at h4; simp at h4
  rw [h.1, e] at h4; simp at h4
theorem Q9l (s : ByteArray) : (!eqS s ⟨#[]⟩) = !s.toList.isEmpty := by rw [Jf]
section
variable {h : Hp} {s : ByteArray}
theorem c62 (B : Blk h) (hsz : s.toList.length < 9223372036854775000) : C nmE 103 [.string s] h fun v h' => v = .bool (Za s) ∧ Ext h h' := by
  refine Qf (fu := Tryz.f103) (by kernel_rfl) rfl ?_; have S := SH.start h; refine Qd ?_; refine Q3 gn rfl rfl ?_; refine Kz ?_; refine Q4 gn rfl rfl ?_; refine Yp gn rfl rfl rfl ?_; rw [show eqS s _ = s.toList.isEmpty from Jf s]; refine Q4 gn rfl rfl ?_
  refine Yo (n := 3) rfl rfl rfl gn rfl (fun hb => by
      refine Q4 (gy rfl rfl rfl hb) rfl rfl ?_; refine Jv (gy rfl rfl rfl hb) rfl rfl (by kernel_rfl) ?_; rw [Jo]; refine JB (gy rfl rfl rfl hb) rfl rfl rfl ?_
      exact Q5 ⟨rfl, rfl, 3, rfl, rfl⟩) ?_
  refine Q4 gn rfl rfl ?_
  refine Yo (n := 3) rfl rfl rfl gn rfl (fun hb => by
      refine Q4 (gy rfl rfl rfl hb) rfl rfl ?_; refine Yz (gy rfl rfl rfl hb) rfl rfl rfl (by kernel_rfl) (by omega) (KR (j := 0) (Q9Z hb)) ?_; refine Qb [_] (gy rfl rfl rfl hb) rfl rfl (by kernel_rfl) rfl (K8 (c78 (b := bAt s 0)) ⟨ag0, ?_⟩)
      exact Q5 ⟨rfl, rfl, 3, rfl, rfl⟩) ?_
  refine Q4 gn rfl rfl ?_; refine QM (dc := 16) rfl (fun hb16 => ?_) fun hb16 => ?_
  · skip
    refine QU (n := 2) (dc := 16) (w := false) rfl hb16 rfl ?_; refine Zd gn rfl rfl hb16 rfl ?_; refine Q5 ?_; refine Qa rfl (fun hb => ?_) fun hb => ?_
    · skip
      refine Qd ?_; refine Q3 gn rfl rfl ?_; refine Q5 ?_; refine Qc ?_; refine ⟨.inl rfl, _, rfl, ?_⟩; exact ⟨by rw [Qbj hb16]; rfl, S.e0⟩
    exact absurd hb (by decide)
  refine Q4 (gy rfl rfl rfl hb16) rfl rfl ?_; refine Qb [_] (gy rfl rfl rfl hb16) rfl rfl (by kernel_rfl) rfl (C.mono (c79 (B.ext S.e0)) ?_); rintro v g ⟨rfl, x⟩; have S := S.grow x; refine ⟨ag0, ?_⟩; refine Z2 gn rfl rfl hb16 rfl ?_; refine Q5 ?_; refine Qa rfl (fun hb => ?_) fun hb => ?_
  · skip
    refine Qd ?_; refine Q3 gn rfl rfl ?_; refine Q5 ?_; refine Qc ?_; refine ⟨.inl rfl, _, rfl, ?_⟩; exact ⟨by rw [Q73 hb]; rfl, S.e0⟩
  refine Qe ?_; refine Qj ?_; refine Qj ?_; obtain ⟨y1, y2, y3⟩ := Q9o hb16; have y4 := hb; refine Q8 (by kernel_rfl) ?_; refine Q4 gn rfl rfl ?_; refine Jv gn rfl rfl (by kernel_rfl) ?_; rw [Jo]; refine Q4 gn rfl rfl ?_; refine Q5 ?_; refine Qg ?_; refine QH [(22, _)] [(0, _), (21, _)] (by repeat (first | exact trivial | refine ⟨rfl, ?_⟩)) (fun kk lv hh => ∃ j : Nat, lv = [(22, iV j)] ∧ kk = s.toList.length - j ∧ j ≤ s.toList.length ∧ SH h [] [] hh ∧ ∀ i, i < j → (ZM (bAt s i) || ZJ (bAt s i)) = true) (n := (s.toList.length)) ?_ fun kk lv hh hI => ?_
  · exact ⟨0, rfl, rfl, by omega, S, fun i hi => by omega⟩
  obtain ⟨j, rfl, hk, hj, S, hs⟩ := hI; refine Qd ?_; refine Z9 gn rfl rfl rfl ?_; refine Q5 ?_; refine Qj ?_; refine Qa rfl (fun hb => ?_) fun hb => ?_
  · skip
    refine Qe ?_; have hj : j < s.toList.length := by simp at hb; omega
    refine Qj ?_; refine Qg ?_; refine Qd ?_; refine Q4 gn rfl rfl ?_; refine Q3 gn rfl rfl ?_; refine Zw ?_; refine Q4 gn rfl rfl ?_; refine Q4 gn rfl rfl ?_; refine Yz gn rfl rfl rfl (by kernel_rfl) (by omega) (KR hj) ?_; refine Qb [_] gn rfl rfl (by kernel_rfl) rfl (K8 (c80 (b := bAt s j)) ⟨ag0, ?_⟩); refine ZT gn rfl rfl ?_; refine Q4 gn rfl rfl ?_
    refine ZU (n := 5) rfl rfl rfl gn rfl (fun hb => by
        refine Q4 (gy rfl rfl rfl hb) rfl rfl ?_; refine Q4 (gy rfl rfl rfl hb) rfl rfl ?_; refine Yz (gy rfl rfl rfl hb) rfl rfl rfl (by kernel_rfl) (by omega) (KR hj) ?_; refine Qb [_] (gy rfl rfl rfl hb) rfl rfl (by kernel_rfl) rfl (K8 (c78 (b := bAt s j)) ⟨ag0, ?_⟩); refine ZT (gy rfl rfl rfl hb) rfl rfl ?_
        exact Q5 ⟨rfl, rfl, 5, rfl, rfl⟩) ?_
    refine Q5 ?_; refine Qa rfl (fun hb => ?_) fun hb => ?_
    · skip
      refine Qd ?_; refine Q3 gn rfl rfl ?_; refine Q5 ?_; refine Qc ?_; refine ⟨.inl rfl, _, rfl, ?_⟩; exact ⟨by rw [Qbi hj hb]; rfl, S.e0⟩
    refine Qe ?_; refine Q8 (by kernel_rfl) ?_; refine QO gn rfl rfl rfl (by omega) (by omega) ?_; refine Q4 gn rfl rfl ?_; refine Q5 ?_
    exact Kc (s.toList.length - (j + 1)) (by omega) [(22, _)] (by repeat (first | exact trivial | refine ⟨rfl, ?_⟩)) ⟨j + 1, rfl, rfl, by omega, S, fun i hi => by
      by_cases e : i = j
      · subst e; revert hb; cases ZM (bAt s i) <;> cases ZJ (bAt s i) <;> simp
      exact hs i (by omega)⟩
  refine QZ ?_; refine Qt ?_; refine Qu ?_; refine QY ?_; refine Qd ?_; refine Q3 gn rfl rfl ?_; refine Q5 ?_; refine Qc ?_; refine ⟨.inl rfl, _, rfl, ?_⟩
  exact ⟨by
    have hj2 : j = s.toList.length := by simp at hb; omega
    subst hj2
    rw [Yl.2 ⟨y1, y2, y3, hs, y4⟩]; rfl, S.e0⟩
theorem c65 (hsz : s.toList.length < 9223372036854775000) : C nmE 11 [.string s] h fun v h' => v = .bool (Za s) ∧ Ext h h' := by
  refine Qf (fu := Tryz.f11) (by kernel_rfl) rfl ?_; have S := SH.start h; refine Qd ?_; refine Q3 gn rfl rfl ?_; refine Kz ?_; refine Q3 gn rfl rfl ?_; refine Q5 ?_; refine Qg ?_; refine QH [(3, _)] [(0, _)] (by repeat (first | exact trivial | refine ⟨rfl, ?_⟩)) (fun kk lv hh => ∃ j : Nat, lv = [(3, iV j)] ∧ kk = s.toList.length - j ∧ j ≤ s.toList.length ∧ SH h [] [] hh ∧ ∀ i, i < j → (ZM (bAt s i) || (decide (i ≠ 0) && ZJ (bAt s i))) = true) (n := (s.toList.length)) ?_ fun kk lv hh hI => ?_
  · exact ⟨0, rfl, rfl, by omega, S, fun i hi => by omega⟩
  obtain ⟨j, rfl, hk, hj, S, hs⟩ := hI; refine Qj ?_; refine Qd ?_; refine Q4 gn rfl rfl ?_; refine Q4 gn rfl rfl ?_; refine Jv gn rfl rfl (by kernel_rfl) ?_; rw [Jo]; refine Z9 gn rfl rfl rfl ?_; refine Q5 ?_; refine Qa rfl (fun hb => ?_) fun hb => ?_
  · skip
    refine Qe ?_; have hj : j < s.toList.length := by simp at hb; omega
    refine Qj ?_; refine Qg ?_; refine Qd ?_; refine Q4 gn rfl rfl ?_; refine Q4 gn rfl rfl ?_; refine Yz gn rfl rfl rfl (by kernel_rfl) (by omega) (KR hj) ?_; refine Qb [_] gn rfl rfl (by kernel_rfl) rfl (K8 (c82 (b := bAt s j)) ⟨ag0, ?_⟩); refine ZT gn rfl rfl ?_; refine Q4 gn rfl rfl ?_
    refine ZU (n := 9) rfl rfl rfl gn rfl (fun hb => by
        refine Q4 (gy rfl rfl rfl hb) rfl rfl ?_; refine Qq (gy rfl rfl rfl hb) rfl rfl rfl ?_; refine Q4 (gy rfl rfl rfl hb) rfl rfl ?_
        refine Yo (n := 5) rfl rfl rfl (gy rfl rfl rfl hb) rfl (fun hb => by
            refine Q4 (gy rfl rfl rfl hb) rfl rfl ?_; refine Q4 (gy rfl rfl rfl hb) rfl rfl ?_; refine Yz (gy rfl rfl rfl hb) rfl rfl rfl (by kernel_rfl) (by omega) (KR hj) ?_; refine Qb [_] (gy rfl rfl rfl hb) rfl rfl (by kernel_rfl) rfl (K8 (c83 (b := bAt s j)) ⟨ag0, ?_⟩); refine ZT (gy rfl rfl rfl hb) rfl rfl ?_
            exact Q5 ⟨rfl, rfl, 5, rfl, rfl⟩) ?_
        exact Q5 ⟨rfl, rfl, 4, rfl, rfl⟩) ?_
    refine Q5 ?_; refine Qa rfl (fun hb => ?_) fun hb => ?_
    · skip
      refine Qd ?_; refine Q3 gn rfl rfl ?_; refine Q5 ?_; refine Qc ?_; refine ⟨.inl rfl, _, rfl, ?_⟩; exact ⟨by rw [Qbh hj hb]; rfl, S.e0⟩
    refine Qe ?_; refine Q8 (by kernel_rfl) ?_; refine Q4 gn rfl rfl ?_; refine QO gn rfl rfl rfl (by omega) (by omega) ?_; refine Q3 gn rfl rfl ?_; refine Q5 ?_
    exact Kc (s.toList.length - (j + 1)) (by omega) [(3, _)] (by repeat (first | exact trivial | refine ⟨rfl, ?_⟩)) ⟨j + 1, rfl, rfl, by omega, S, fun i hi => by
      by_cases e : i = j
      · subst e; by_cases e0 : i = 0
        · subst e0; revert hb; cases ZM (bAt s 0) <;> simp
        revert hb; cases ZM (bAt s i) <;> cases ZJ (bAt s i) <;> simp [e0]
      exact hs i (by omega)⟩
  refine QZ ?_; refine Qt ?_; refine Qu ?_; refine QY ?_; refine Qd ?_; refine Q4 gn rfl rfl ?_; have hj2 : j = s.toList.length := by simp at hb; omega
  subst hj2; refine Qdi gn rfl rfl rfl ?_; rw [show (!eqS s _) = !s.toList.isEmpty from Q9l s]; refine Q4 gn rfl rfl ?_
  refine ZU (n := 3) rfl rfl rfl gn rfl (fun hb => by
      refine Q4 (gy rfl rfl rfl hb) rfl rfl ?_; refine Jv (gy rfl rfl rfl hb) rfl rfl (by kernel_rfl) ?_; rw [Jo]; refine Q0F (gy rfl rfl rfl hb) rfl rfl rfl ?_
      exact Q5 ⟨rfl, rfl, 3, rfl, rfl⟩) ?_
  refine Q4 gn rfl rfl ?_; refine QM (dc := 33) rfl (fun hb33 => ?_) fun hb33 => ?_
  · skip
    refine Q4 (gy rfl rfl rfl hb33) rfl rfl ?_; refine Qb [_] (gy rfl rfl rfl hb33) rfl rfl (by kernel_rfl) rfl (C.mono (c84) ?_); rintro v g ⟨rfl, x⟩; have S := S.grow x; refine ⟨ag0, ?_⟩; refine ZT (gy rfl rfl rfl hb33) rfl rfl ?_; refine Zd gn rfl rfl hb33 rfl ?_; refine Q3 gn rfl rfl ?_; refine Q5 ?_; refine Qc ?_; refine ⟨.inl rfl, _, rfl, ?_⟩
    exact ⟨(congrArg Value.bool (by
      have y : s.toList ≠ [] ∧ s.toList.length ≤ 32 := by
        simp only [Bool.and_eq_true, Bool.not_eq_true', decide_eq_true_eq] at hb33; exact ⟨fun e => by rw [e] at hb33; simp at hb33, by omega⟩
      have h0 := hs 0 (List.length_pos_iff.2 y.1); cases hw : Kj s with
      | true => rw [Q73 hw]; rfl
      | false =>
        refine (Yl.2 ⟨y.1, y.2, ?_, fun i hi => ?_, hw⟩).symm
        · simp at h0; exact Q4U h0
        have := hs i hi
        revert this; cases ZM (bAt s i) <;> cases ZJ (bAt s i) <;> simp) : Value.bool (!Kj s) = Value.bool (Za s)), S.e0⟩
  refine QU (n := 3) (dc := 33) (w := true) rfl hb33 rfl ?_; refine Z2 gn rfl rfl hb33 rfl ?_; refine Q3 gn rfl rfl ?_; refine Q5 ?_; refine Qc ?_; refine ⟨.inl rfl, _, rfl, ?_⟩
  exact ⟨(congrArg Value.bool (by
    refine (Kp fun e => ?_).symm; obtain ⟨h1, h2, _⟩ := Yl.1 e; simp only [Bool.and_eq_false_iff, Bool.not_eq_false', decide_eq_false_iff_not, List.isEmpty_iff] at hb33; rcases hb33 with h | h
    · exact h1 h
    omega) : Value.bool false = Value.bool (Za s)), S.e0⟩
end
end Go.Proofs.YtkidomfnmpnmaaaGreatDoor
