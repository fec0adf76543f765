/- Programs of instructions, and which may be (plain). Conditions: none. Programs of instructions, as they lie in a memory. Conditions: none. Programs of instructions that may not be (plain). Conditions: none. Programs of instructions that are arguments. Conditions: what is read takes no more than a process's memory. Programs of instructions: what is found where. Conditions: none. -/
import Derived.Test.YtemdkcneolianaaGreatDoorXa
import Derived.Test.YtemdkcneolianaaGreatDoorXd
namespace Go.May

structure Ins where
  op : Int
  a : Int
  b : Int
  c : Int
  n : Int
  l : List Int
  site : Int
structure Fun where
  caps : Int
  regs : Int
  code : List Ins
structure Prg where
  loopers : Nat
  classes : List (Nat × Nat)
  globals : Nat
  funs : List Fun
  comps : List (Int × List Int)
  events : List (Int × Int)
  main : Int
  sites : List (Int × Int)
def inB (n most : Int) : Bool := decide (0 ≤ n) && decide (n < most)
def ones : List Int := [1, 8, 9, 10, 11, 14, 21, 22, 25, 29, 30, 32]
def threes : List Int := [3, 4, 5, 6, 7, 18, 19]
def noughts : List Int := [26, 27, 31, 33]
/-- How many registers an instruction names. -/
def regsN (o : Int) : Nat := if o ∈ noughts then 0 else if o ∈ ones then 1 else if o ∈ threes then 3 else 2
def siteB (o : Int) : Bool := decide (9 ≤ o) && decide (o ≤ 30) && decide (o ≠ 20)
def capsAt (P : Prg) (n : Int) : Int := ((P.funs[n.toNat]?).map Fun.caps).getD 0
def namedB (P : Prg) (F : Fun) (x : Ins) : Bool :=
  if x.op = 9 ∨ x.op = 10 then inB x.n P.globals
  else if x.op = 14 then inB x.n P.classes.length
  else if x.op = 21 then inB x.n P.funs.length && decide (capsAt P x.n = x.l.length)
  else if x.op = 23 then inB x.c P.loopers && inB x.n 1000001
  else if x.op = 24 then inB x.c P.loopers
  else if x.op = 26 ∨ x.op = 27 then inB x.n P.events.length
  else if x.op = 31 ∨ x.op = 32 then inB x.n F.code.length
  else true
def regsB (F : Fun) (x : Ins) : Bool := ([x.a, x.b, x.c].take (regsN x.op)).all fun r => inB r F.regs
def lB (F : Fun) (x : Ins) : Bool := x.l.all fun r => decide (x.op = 21) && inB r F.regs
def instrB (P : Prg) (F : Fun) (x : Ins) : Bool := (decide (1 ≤ x.op) && decide (x.op ≤ 33)) && (regsB F x && (lB F x && namedB P F x))
/-- An instruction, behind so many sites. -/
def okI (P : Prg) (F : Fun) (x : Ins) (n : Nat) : Bool := instrB P F x && decide (x.site = if siteB x.op = true then (n : Int) else -1)
def codeB (P : Prg) (F : Fun) : Nat → List Ins → Bool
  | _, [] => true
  | n, x :: r => okI P F x n && codeB P F (if siteB x.op = true then n + 1 else n) r
def sitesC (i : Nat) : Nat → List Ins → List (Int × Int)
  | _, [] => []
  | k, x :: r => (if siteB x.op = true then [((i : Int), (k : Int))] else []) ++ sitesC i (k + 1) r
def cnt : List Ins → Nat
  | [] => 0
  | x :: r => (if siteB x.op = true then 1 else 0) + cnt r
theorem sitesC_len (i : Nat) : ∀ (k : Nat) (l : List Ins), (sitesC i k l).length = cnt l
  | _, [] => rfl
  | k, x :: r => by
    rw [sitesC, cnt, List.length_append, sitesC_len i (k + 1) r]
    split <;> rfl
theorem sitesC_app (i : Nat) : ∀ (k : Nat) (l m : List Ins), sitesC i k (l ++ m) = sitesC i k l ++ sitesC i (k + l.length) m
  | _, [], m => by simp [sitesC]
  | k, x :: l, m => by
    rw [List.cons_append, sitesC, sitesC, sitesC_app i (k + 1) l m, List.append_assoc, List.length_cons]
    congr 3
    omega
theorem cnt_app : ∀ (l m : List Ins), cnt (l ++ m) = cnt l + cnt m
  | [], m => by simp [cnt]
  | x :: l, m => by
    rw [List.cons_append, cnt, cnt, cnt_app l m]; omega
theorem codeB_app (P : Prg) (F : Fun) : ∀ (n : Nat) (l m : List Ins), codeB P F n (l ++ m) = (codeB P F n l && codeB P F (n + cnt l) m)
  | n, [], m => by simp [codeB, cnt]
  | n, x :: l, m => by
    rw [List.cons_append, codeB, codeB, codeB_app P F _ l m, Bool.and_assoc, cnt]
    congr 3
    split <;> omega
section
variable {P : Prg} {F : Fun} {n : Nat} {l : List Ins} {i at' : Nat}
theorem codeB_succ (h : at' < l.length) : codeB P F n (l.take (at' + 1)) = (codeB P F n (l.take at') && okI P F l[at'] (n + cnt (l.take at'))) := by
  rw [List.take_add_one, List.getElem?_eq_getElem h, Option.toList_some, codeB_app, codeB, codeB, Bool.and_true]
theorem cnt_succ (h : at' < l.length) : cnt (l.take (at' + 1)) = cnt (l.take at') + if siteB l[at'].op = true then 1 else 0 := by
  rw [List.take_add_one, List.getElem?_eq_getElem h, Option.toList_some, cnt_app, cnt, cnt, Nat.add_zero]
theorem sitesC_succ (h : at' < l.length) : sitesC i 0 (l.take (at' + 1)) = sitesC i 0 (l.take at') ++ if siteB l[at'].op = true then [((i : Int), (at' : Int))] else [] := by
  rw [List.take_add_one, List.getElem?_eq_getElem h, Option.toList_some, sitesC_app, sitesC, sitesC, List.append_nil, List.length_take, Nat.zero_add, Nat.min_eq_left (by omega)]
/-- One that fails. -/
theorem codeB_fail (h : at' < l.length) (hf : okI P F l[at'] (n + cnt (l.take at')) = false) : codeB P F n l = false := by
  have e : l = l.take (at' + 1) ++ l.drop (at' + 1) := (List.take_append_drop _ _).symm
  rw [e, codeB_app, codeB_succ h, hf, Bool.and_false, Bool.false_and]
end
def lastOp (l : List Ins) : Int := ((l.getLast?).map Ins.op).getD 0
def headB (F : Fun) : Bool := (inB F.regs 257 && inB F.caps (F.regs + 1)) && (decide (1 ≤ F.code.length) && decide (F.code.length ≤ 512))
def lastB (F : Fun) : Bool := decide (lastOp F.code = 33) || decide (lastOp F.code = 31)
def funB (P : Prg) (F : Fun) (n : Nat) : Bool := headB F && (codeB P F n F.code && lastB F)
def allB (P : Prg) : Nat → List Fun → Bool
  | _, [] => true
  | n, F :: r => funB P F n && allB P (n + cnt F.code) r
def sitesF : Nat → List Fun → List (Int × Int)
  | _, [] => []
  | i, F :: r => sitesC i 0 F.code ++ sitesF (i + 1) r
def cntF : List Fun → Nat
  | [] => 0
  | F :: r => cnt F.code + cntF r
theorem sitesF_len : ∀ (i : Nat) (l : List Fun), (sitesF i l).length = cntF l
  | _, [] => rfl
  | i, F :: r => by rw [sitesF, cntF, List.length_append, sitesC_len, sitesF_len (i + 1) r]
theorem sitesF_app : ∀ (i : Nat) (l m : List Fun), sitesF i (l ++ m) = sitesF i l ++ sitesF (i + l.length) m
  | _, [], m => by simp [sitesF]
  | i, F :: l, m => by
    rw [List.cons_append, sitesF, sitesF, sitesF_app (i + 1) l m, List.append_assoc, List.length_cons]
    congr 3
    omega
theorem cntF_app : ∀ (l m : List Fun), cntF (l ++ m) = cntF l + cntF m
  | [], m => by simp [cntF]
  | F :: l, m => by rw [List.cons_append, cntF, cntF, cntF_app l m]; omega
theorem allB_app (P : Prg) : ∀ (n : Nat) (l m : List Fun), allB P n (l ++ m) = (allB P n l && allB P (n + cntF l) m)
  | n, [], m => by simp [allB, cntF]
  | n, F :: l, m => by
    rw [List.cons_append, allB, allB, allB_app P _ l m, Bool.and_assoc, cntF]
    congr 3
    omega
section
variable {P : Prg} {n : Nat} {l : List Fun} {i : Nat}
theorem allB_succ (h : i < l.length) : allB P n (l.take (i + 1)) = (allB P n (l.take i) && funB P l[i] (n + cntF (l.take i))) := by
  rw [List.take_add_one, List.getElem?_eq_getElem h, Option.toList_some, allB_app, allB, allB, Bool.and_true]
theorem cntF_succ (h : i < l.length) : cntF (l.take (i + 1)) = cntF (l.take i) + cnt l[i].code := by
  rw [List.take_add_one, List.getElem?_eq_getElem h, Option.toList_some, cntF_app, cntF, cntF, Nat.add_zero]
theorem sitesF_succ (h : i < l.length) : sitesF 0 (l.take (i + 1)) = sitesF 0 (l.take i) ++ sitesC i 0 l[i].code := by
  rw [List.take_add_one, List.getElem?_eq_getElem h, Option.toList_some, sitesF_app, sitesF, sitesF, List.append_nil, List.length_take, Nat.zero_add, Nat.min_eq_left (by omega)]
theorem allB_fail (h : i < l.length) (hf : funB P l[i] (n + cntF (l.take i)) = false) : allB P n l = false := by
  have e : l = l.take (i + 1) ++ l.drop (i + 1) := (List.take_append_drop _ _).symm
  rw [e, allB_app, allB_succ h, hf, Bool.and_false, Bool.false_and]
end
def rootB (P : Prg) (f : Int) : Bool := inB f P.funs.length && decide (capsAt P f = 0)
def classB (c : Nat × Nat) : Bool := decide (c.2 ≤ 8) && decide (c.1 = c.2)
def compB (P : Prg) (c : Int × List Int) : Bool := (c.2.all fun f => !decide (0 ≤ f) || rootB P f) && inB c.1 P.loopers
def eventB (P : Prg) (e : Int × Int) : Bool := inB e.1 P.loopers && rootB P e.2
def sizeB (P : Prg) : Bool := (decide (1 ≤ P.loopers) && decide (P.loopers ≤ 8)) && ((decide (P.classes.length ≤ 16) && decide (P.globals ≤ 32)) && ((decide (P.comps.length ≤ 8) && decide (P.events.length ≤ 8)) && ((decide (1 ≤ P.funs.length) && decide (P.funs.length ≤ 64)) && rootB P P.main)))
def partsB (P : Prg) : Bool := sizeB P && (P.classes.all classB && (P.comps.all (compB P) && P.events.all (eventB P)))
/-- May a program be? -/
def mayB (P : Prg) : Bool := partsB P && (allB P 0 P.funs && (decide (sitesF 0 P.funs = P.sites) && decide (P.sites.length ≤ 512)))
end Go.May

namespace Go.May
open Go.X

abbrev iV (k : Int) : Value := .int .i64 k
abbrev isV (l : List Int) : List Value := l.map fun n => .int .i64 n
abbrev ptrV (i : Nat) : Value := .pointer (some ⟨i, 0, none⟩)

/-- A row of elements of w cells, of which D tells what they are. -/
def RowP {α : Type} (w : Nat) (D : List Value → α → Prop) (h : Hp) (v : Value) (l : List α) : Prop :=
  (l = [] ∧ ∃ a c, v = .slice a 0 c) ∨ ∃ b o c cs e m, v = .slice (some ⟨b, o, none⟩) l.length c ∧ h.get b = some (.cells cs e m) ∧ b < h.n ∧ o + l.length * w ≤ cs.length ∧ ∀ i (hi : i < l.length), D ((cs.drop (o + i * w)).take w) l[i]
section
variable {α : Type} {w : Nat} {D D' : List Value → α → Prop} {h h' : Hp} {v : Value} {l : List α}
theorem RowP.ext (x : RowP w D h v l) (g : Ext h h') (hd : ∀ c a, D c a → D' c a) : RowP w D' h' v l := by
  rcases x with x | ⟨b, o, c, cs, e, m, h1, h2, h3, h4, h5⟩
  · exact .inl x
  exact .inr ⟨b, o, c, cs, e, m, h1, (g.get b h3).trans h2, Nat.lt_of_lt_of_le h3 g.n, h4, fun i hi => hd _ _ (h5 i hi)⟩
theorem RowP.val (x : RowP w D h v l) : ∃ a c, v = .slice a l.length c := by
  rcases x with ⟨rfl, a, c, h1⟩ | ⟨b, o, c, cs, e, m, h1, _⟩
  · exact ⟨a, c, h1⟩
  exact ⟨_, c, h1⟩
theorem RowP.at (x : RowP w D h v l) (hn : 0 < l.length) : ∃ b o c cs e m, v = .slice (some ⟨b, o, none⟩) l.length c ∧ h.get b = some (.cells cs e m) ∧ b < h.n ∧ o + l.length * w ≤ cs.length ∧ ∀ i (hi : i < l.length), D ((cs.drop (o + i * w)).take w) l[i] := by
  rcases x with ⟨rfl, _⟩ | x
  · simp at hn
  exact x
theorem RowP.cellV (x : RowP w D h v l) : Go.X.cellV v = true := by
  obtain ⟨a, c, rfl⟩ := x.val
  rfl
end
theorem cut_at {cs r : List Value} {p z f : Nat} {v : Value} (h : (cs.drop p).take z = r) (hf : f < z) (hr : r[f]? = some v) : cs[p + f]? = some v := by
  rw [← List.getElem?_drop, ← List.getElem?_take_of_lt hf, h]; exact hr

/-- A whole number of 64 bits. -/
abbrev I64 (n : Int) : Prop := -9223372036854775808 ≤ n ∧ n ≤ 9223372036854775807
/-- An instruction's cells. -/
abbrev insC (x : Ins) (lv : Value) (ln : Int) : List Value := [iV x.op, iV x.a, iV x.b, iV x.c, iV x.n, lv, iV x.site, iV ln]
structure InsD (h : Hp) (cs : List Value) (x : Ins) : Prop where
  row : ∃ lv ln, cs = insC x lv ln ∧ RowV h lv (isV x.l)
  op : I64 x.op
  a : I64 x.a
  b : I64 x.b
  c : I64 x.c
  n : I64 x.n
  len : x.l.length ≤ 17592186043904
  l : ∀ k, k ∈ x.l → I64 k
  site : I64 x.site
abbrev funC (s : ByteArray) (F : Fun) (cv : Value) : List Value := [.string s, iV F.caps, iV F.regs, cv]
structure FunD (h : Hp) (cs : List Value) (F : Fun) : Prop where
  row : ∃ s cv, cs = funC s F cv ∧ RowP 8 (InsD h) h cv F.code
  caps : I64 F.caps
  regs : I64 F.regs
  len : F.code.length ≤ 9223372036854775807
structure ClassD (cs : List Value) (c : Nat × Nat) : Prop where
  row : ∃ s a b d e, cs = [.string s, .slice a c.1 b, .slice d c.2 e]
  l1 : c.1 ≤ 9223372036854775807
  l2 : c.2 ≤ 9223372036854775807
structure CompD (cs : List Value) (c : Int × List Int) : Prop where
  row : ∃ s f0 f1 f2 f3, cs = [.string s, iV c.1, iV f0, iV f1, iV f2, iV f3] ∧ c.2 = [f0, f1, f2, f3]
  lo : I64 c.1
  fs : ∀ k, k ∈ c.2 → I64 k
structure EventD (cs : List Value) (c : Int × Int) : Prop where
  row : ∃ s b, cs = [.string s, iV c.1, .bool b, iV c.2]
  lo : I64 c.1
  f : I64 c.2
structure SiteD (cs : List Value) (c : Int × Int) : Prop where
  row : cs = [iV c.1, iV c.2]
  f : I64 c.1
  at' : I64 c.2
/-- A program's eight cells. -/
structure PrgAt (h : Hp) (P : Prg) (lo cl gl fu co ev si : Value) : Prop where
  lo : ∃ a c, lo = .slice a P.loopers c
  cl : RowP 3 ClassD h cl P.classes
  gl : ∃ a c, gl = .slice a P.globals c
  fu : RowP 4 (FunD h) h fu P.funs
  co : RowP 6 CompD h co P.comps
  ev : RowP 4 EventD h ev P.events
  si : RowP 2 SiteD h si P.sites
  main : I64 P.main
  zlo : P.loopers ≤ 9223372036854775807
  zcl : P.classes.length ≤ 9223372036854775807
  zgl : P.globals ≤ 9223372036854775807
  zfu : P.funs.length ≤ 9223372036854775807
  zco : P.comps.length ≤ 9223372036854775807
  zev : P.events.length ≤ 9223372036854775807
  zsi : P.sites.length ≤ 9223372036854775807
abbrev prgC (P : Prg) (lo cl gl fu co ev si : Value) : List Value := [lo, cl, gl, fu, co, ev, iV P.main, si]
section
variable {h h' : Hp} {P : Prg} {lo cl gl fu co ev si : Value} {cs : List Value}
theorem InsD.ext {x : Ins} (d : InsD h cs x) (g : Ext h h') : InsD h' cs x := by
  obtain ⟨⟨lv, ln, h1, h2⟩, a1, a2, a3, a4, a5, a6, a7, a8⟩ := d
  exact ⟨⟨lv, ln, h1, h2.ext g⟩, a1, a2, a3, a4, a5, a6, a7, a8⟩
theorem FunD.ext {F : Fun} (d : FunD h cs F) (g : Ext h h') : FunD h' cs F := by
  obtain ⟨⟨s, cv, h1, h2⟩, a1, a2, a3⟩ := d
  exact ⟨⟨s, cv, h1, h2.ext g fun _ _ d => d.ext g⟩, a1, a2, a3⟩
theorem PrgAt.ext (x : PrgAt h P lo cl gl fu co ev si) (g : Ext h h') : PrgAt h' P lo cl gl fu co ev si := by
  obtain ⟨a1, a2, a3, a4, a5, a6, a7, a8, r1, r2, r3, r4, r5, r6, r7⟩ := x
  exact ⟨a1, a2.ext g fun _ _ d => d, a3, a4.ext g fun _ _ d => d.ext g, a5.ext g fun _ _ d => d, a6.ext g fun _ _ d => d, a7.ext g fun _ _ d => d, a8, r1, r2, r3, r4, r5, r6, r7⟩
end
end Go.May

namespace Go.May

theorem funs_at {l : List Fun} {i : Nat} (h : i < l.length) : l = l.take i ++ l[i] :: l.drop (i + 1) := by
  rw [← List.drop_eq_getElem_cons h, List.take_append_drop]
theorem code_at {l : List Ins} {i : Nat} (h : i < l.length) : l = l.take i ++ l[i] :: l.drop (i + 1) := by
  rw [← List.drop_eq_getElem_cons h, List.take_append_drop]
section
variable {P : Prg}
/-- An instruction's site. -/
theorem sites_at {i at' : Nat} (h : i < P.funs.length) (ha : at' < (P.funs[i]).code.length) (hs : siteB ((P.funs[i]).code[at']).op = true) : (sitesF 0 P.funs)[cntF (P.funs.take i) + cnt ((P.funs[i]).code.take at')]? = some ((i : Int), (at' : Int)) := by
  have e1 : sitesF 0 P.funs = sitesF 0 (P.funs.take i) ++ sitesF i (P.funs[i] :: P.funs.drop (i + 1)) := by
    conv => lhs; rw [funs_at h]
    rw [sitesF_app, List.length_take, Nat.zero_add, Nat.min_eq_left (by omega)]
  have e2 : sitesC i 0 (P.funs[i]).code = sitesC i 0 ((P.funs[i]).code.take at') ++ sitesC i at' ((P.funs[i]).code[at'] :: (P.funs[i]).code.drop (at' + 1)) := by
    conv => lhs; rw [code_at ha]
    rw [sitesC_app, List.length_take, Nat.zero_add, Nat.min_eq_left (by omega)]
  rw [e1, sitesF, e2, sitesC, if_pos hs, List.append_assoc, ← sitesF_len 0, ← sitesC_len i 0, List.getElem?_append_right (by omega), Nat.add_sub_cancel_left, List.getElem?_append_right (by omega), Nat.sub_self]
  rfl
theorem may_parts (h : partsB P = false) : mayB P = false := by rw [mayB, h, Bool.false_and]
theorem may_fun {i : Nat} (h : i < P.funs.length) (hf : funB P P.funs[i] (cntF (P.funs.take i)) = false) : mayB P = false := by
  rw [mayB, allB_fail (n := 0) h (by rw [Nat.zero_add]; exact hf), Bool.false_and, Bool.and_false]
theorem may_site {i at' : Nat} (h : i < P.funs.length) (ha : at' < (P.funs[i]).code.length) (hs : siteB ((P.funs[i]).code[at']).op = true) (hn : P.sites[cntF (P.funs.take i) + cnt ((P.funs[i]).code.take at')]? ≠ some ((i : Int), (at' : Int))) : mayB P = false := by
  have : sitesF 0 P.funs ≠ P.sites := fun e => hn (by rw [← e]; exact sites_at h ha hs)
  rw [mayB, decide_eq_false this, Bool.false_and, Bool.and_false, Bool.and_false]
theorem may_ins {i at' : Nat} (h : i < P.funs.length) (ha : at' < (P.funs[i]).code.length) (hf : okI P P.funs[i] (P.funs[i]).code[at'] (cntF (P.funs.take i) + cnt ((P.funs[i]).code.take at')) = false) : mayB P = false := by
  refine may_fun h ?_
  rw [funB, codeB_fail ha hf, Bool.false_and, Bool.and_false]
theorem may_head {i : Nat} (h : i < P.funs.length) (hf : headB P.funs[i] = false) : mayB P = false := may_fun h (by rw [funB, hf, Bool.false_and])
theorem may_last {i : Nat} (h : i < P.funs.length) (hf : lastB P.funs[i] = false) : mayB P = false := may_fun h (by rw [funB, hf, Bool.and_false, Bool.and_false])
theorem may_end (hp : partsB P = true) (ha : allB P 0 P.funs = true) : mayB P = (decide (sitesF 0 P.funs = P.sites) && decide (P.sites.length ≤ 512)) := by
  rw [mayB, hp, ha, Bool.true_and, Bool.true_and]
theorem last_at {F : Fun} (h : 0 < F.code.length) : lastOp F.code = (F.code[F.code.length - 1]'(by omega)).op := by
  rw [lastOp, List.getLast?_eq_getElem?, List.getElem?_eq_getElem (by omega)]; rfl
theorem caps_at {n : Nat} (h : n < P.funs.length) : capsAt P (n : Int) = P.funs[n].caps := by
  rw [capsAt, Int.toNat_natCast, List.getElem?_eq_getElem h]; rfl
end
theorem head_one {F : Fun} (h : headB F = true) : 0 < F.code.length := by
  simp only [headB, Bool.and_eq_true, decide_eq_true_eq] at h
  omega
theorem inB_iff {n m : Int} : inB n m = true ↔ 0 ≤ n ∧ n < m := by simp [inB]
end Go.May

namespace Go.May
open Go.ChangeShapes Go.WideShapes Go.ChangeAt Go.RowKit Go.Deep Go.X

/-- What is read, and takes no more than so many bytes. -/
def RS (P : Program) (h : Hp) (t : TypeId) (cs : List Value) : Prop := Rd P h t cs ∧ Sz P h 140737488351232 t cs
/-- A struct's fields: their types, where they lie. -/
structure St (P : Program) (s : TypeId) (n : Nat) (L : List (Nat × Nat)) : Prop where
  und : ∃ fs, P.underlying s = some (.struct fs) ∧ fs.toList.map (fun f => (f.type, f.offset)) = L
  cells : P.cellsOf s = n
section
variable {P : Program} {h : Hp} {s t e : TypeId} {cs : List Value} {n w : Nat} {L : List (Nat × Nat)}
theorem St.len (z : St P s n L) (x : RS P h s cs) : cs.length = n := by
  obtain ⟨fs, h1, _⟩ := z.und
  rw [← z.cells]; exact (x.1.inv_struct h1).1
theorem St.fld (z : St P s n L) (x : RS P h s cs) (i : Nat) {o : Nat} (hL : L[i]? = some (t, o)) (ht : P.cellsOf t = w) : RS P h t ((cs.drop o).take w) := by
  obtain ⟨fs, h1, h2⟩ := z.und
  have h3 : (fs.toList[i]?).map (fun f => (f.type, f.offset)) = some (t, o) := by rw [← List.getElem?_map, h2, hL]
  cases hf : fs.toList[i]? with
  | none => rw [hf] at h3; cases h3
  | some f =>
    rw [hf] at h3
    simp only [Option.map_some, Option.some.injEq, Prod.mk.injEq] at h3
    have hf' : fs[i]? = some f := by rw [← Array.getElem?_toList]; exact hf
    rw [← ht]
    exact ⟨x.1.fld h1 i o t hf' h3, x.2.fld h1 i o t hf' h3⟩
theorem rs_int (ht : P.underlying t = some (.int .i64)) (x : RS P h t cs) : ∃ n, cs = [iV n] ∧ I64 n := by
  obtain ⟨k, e, h1, h2⟩ := x.1.inv_int ht
  exact ⟨k, e, h1, h2⟩
theorem rs_str (ht : P.underlying t = some .string) (x : RS P h t cs) : ∃ s, cs = [.string s] := by
  obtain ⟨k, e, _⟩ := x.1.inv_string ht
  exact ⟨k, e⟩
theorem rs_bool (ht : P.underlying t = some .bool) (x : RS P h t cs) : ∃ b, cs = [.bool b] := x.1.inv_bool ht
theorem rs_row {α : Type} {by' : Nat} {D : List Value → α → Prop} (ht : P.underlying t = some (.slice e)) (hc : P.cellsOf e = w) (hw : 0 < w) (hb : P.bytesOf e = by') (hD : ∀ cs, RS P h e cs → ∃ a, D cs a) (x : RS P h t cs) :
    ∃ v l, cs = [v] ∧ RowP w D h v l ∧ l.length * by' ≤ 140737488351232 ∧ l.length ≤ 9223372036854775807 := by
  obtain ⟨x1, x2⟩ := x
  obtain ⟨a, n, c, rfl, hn, hc2, _, _, hrow⟩ := x1.inv_slice ht (by rw [hc]; exact hw)
  obtain ⟨z1, z2⟩ := x2.inv ht
  rw [hb] at z1
  have hm : n ≤ 9223372036854775807 := by have : maxLen = 9223372036854775807 := by decide
                                          omega
  rcases hrow with rfl | ⟨b, o, xs, u, rfl, hb, hg, hl, hr⟩
  · exact ⟨_, [], rfl, .inl ⟨rfl, a, c, rfl⟩, by simp, by simp⟩
  have z3 := z2 b o xs u 1 rfl hg
  rw [hc] at hl hr z3
  obtain ⟨l, hll, hlq⟩ := rows_of (Q := fun i (k : α) => D ((xs.drop (o + i * w)).take w) k) fun i hi => hD _ ⟨hr i hi, z3 i hi⟩
  exact ⟨_, l, rfl, .inr ⟨b, o, c, xs, u, 1, by rw [hll], hg, hb, by rw [hll]; exact hl, hlq⟩, by rw [hll]; exact z1, by rw [hll]; exact hm⟩
theorem row_ints {v : Value} {l : List Int} (x : RowP 1 (fun c (k : Int) => c = [iV k]) h v l) : RowV h v (isV l) := by
  rcases x with ⟨rfl, a, c, rfl⟩ | ⟨b, o, c, cs, e, m, h1, h2, h3, h4, h5⟩
  · exact .inl ⟨rfl, a, c, rfl⟩
  refine .inr ⟨b, o, c, cs, e, m, by rw [List.length_map]; exact h1, h2, h3, fun i hi => ?_⟩
  have hi' : i < l.length := by simpa using hi
  have := one_at (h5 i hi')
  rw [Nat.mul_one] at this
  rw [this, List.getElem_map]
end

/-- The types of a program's parts. -/
structure PrgTy (P : Program) (tP tStrs tCls tCl tGls tGl tFns tFn tCode tIns tCos tCo tArr tEvs tEv tSis tSi tInt tI64 tOp tStr tBool tInts tTys : Nat) (L1 L2 L3 L4 L5 L6 L7 : List (Nat × Nat)) : Prop where
  prg : St P tP 8 L1
  l1 : L1 = [(tStrs, 0), (tCls, 1), (tGls, 2), (tFns, 3), (tCos, 4), (tEvs, 5), (tInt, 6), (tSis, 7)]
  cls : St P tCl 3 L2
  l2 : L2 = [(tStr, 0), (tStrs, 1), (tTys, 2)]
  fn : St P tFn 4 L3
  l3 : L3 = [(tStr, 0), (tInt, 1), (tInt, 2), (tCode, 3)]
  ins : St P tIns 8 L4
  l4 : L4 = [(tOp, 0), (tInt, 1), (tInt, 2), (tInt, 3), (tI64, 4), (tInts, 5), (tInt, 6), (tInt, 7)]
  co : St P tCo 6 L5
  l5 : L5 = [(tStr, 0), (tInt, 1), (tArr, 2)]
  ev : St P tEv 4 L6
  l6 : L6 = [(tStr, 0), (tInt, 1), (tBool, 2), (tInt, 3)]
  si : St P tSi 2 L7
  l7 : L7 = [(tInt, 0), (tInt, 1)]
  uStrs : P.underlying tStrs = some (.slice tStr) ∧ P.cellsOf tStrs = 1
  uCls : P.underlying tCls = some (.slice tCl) ∧ P.cellsOf tCls = 1
  uGls : P.underlying tGls = some (.slice tGl) ∧ P.cellsOf tGls = 1
  uFns : P.underlying tFns = some (.slice tFn) ∧ P.cellsOf tFns = 1
  uCode : P.underlying tCode = some (.slice tIns) ∧ P.cellsOf tCode = 1
  uCos : P.underlying tCos = some (.slice tCo) ∧ P.cellsOf tCos = 1
  uEvs : P.underlying tEvs = some (.slice tEv) ∧ P.cellsOf tEvs = 1
  uSis : P.underlying tSis = some (.slice tSi) ∧ P.cellsOf tSis = 1
  uInts : P.underlying tInts = some (.slice tInt) ∧ P.cellsOf tInts = 1
  uTys : (∃ e, P.underlying tTys = some (.slice e) ∧ P.cellsOf e = 1) ∧ P.cellsOf tTys = 1
  uArr : P.underlying tArr = some (.array 4 tInt) ∧ P.cellsOf tArr = 4
  uInt : P.underlying tInt = some (.int .i64) ∧ P.cellsOf tInt = 1
  uI64 : P.underlying tI64 = some (.int .i64) ∧ P.cellsOf tI64 = 1
  uOp : P.underlying tOp = some (.int .i64) ∧ P.cellsOf tOp = 1
  uStr : P.underlying tStr = some .string ∧ P.cellsOf tStr = 1
  uBool : P.underlying tBool = some .bool ∧ P.cellsOf tBool = 1
  bInt : P.bytesOf tInt = 8
  gl : P.cellsOf tGl = 2
section
variable {P : Program} {h : Hp} {cs : List Value} {tP tStrs tCls tCl tGls tGl tFns tFn tCode tIns tCos tCo tArr tEvs tEv tSis tSi tInt tI64 tOp tStr tBool tInts tTys : Nat} {L1 L2 L3 L4 L5 L6 L7 : List (Nat × Nat)}
variable (Y : PrgTy P tP tStrs tCls tCl tGls tGl tFns tFn tCode tIns tCos tCo tArr tEvs tEv tSis tSi tInt tI64 tOp tStr tBool tInts tTys L1 L2 L3 L4 L5 L6 L7)
include Y
theorem PrgTy.rd_ins (x : RS P h tIns cs) : ∃ a, InsD h cs a := by
  have hl := Y.ins.len x
  have hL := Y.l4
  subst hL
  obtain ⟨n0, e0, r0⟩ := rs_int Y.uOp.1 (Y.ins.fld x 0 (t := tOp) (o := 0) rfl Y.uOp.2)
  obtain ⟨n1, e1, r1⟩ := rs_int Y.uInt.1 (Y.ins.fld x 1 (t := tInt) (o := 1) rfl Y.uInt.2)
  obtain ⟨n2, e2, r2⟩ := rs_int Y.uInt.1 (Y.ins.fld x 2 (t := tInt) (o := 2) rfl Y.uInt.2)
  obtain ⟨n3, e3, r3⟩ := rs_int Y.uInt.1 (Y.ins.fld x 3 (t := tInt) (o := 3) rfl Y.uInt.2)
  obtain ⟨n4, e4, r4⟩ := rs_int Y.uI64.1 (Y.ins.fld x 4 (t := tI64) (o := 4) rfl Y.uI64.2)
  obtain ⟨v, l, e5, r5, z5, _⟩ := rs_row (D := fun c (k : Int) => c = [iV k] ∧ I64 k) Y.uInts.1 Y.uInt.2 (by omega) Y.bInt (fun cs y => by obtain ⟨k, e, r⟩ := rs_int Y.uInt.1 y; exact ⟨k, e, r⟩) (Y.ins.fld x 5 (t := tInts) (o := 5) rfl Y.uInts.2)
  obtain ⟨n6, e6, r6⟩ := rs_int Y.uInt.1 (Y.ins.fld x 6 (t := tInt) (o := 6) rfl Y.uInt.2)
  obtain ⟨n7, e7, _⟩ := rs_int Y.uInt.1 (Y.ins.fld x 7 (t := tInt) (o := 7) rfl Y.uInt.2)
  match cs, hl with
  | [c0, c1, c2, c3, c4, c5, c6, c7], _ =>
    simp only [List.drop_succ_cons, List.drop_zero, List.take_succ_cons, List.take_zero, List.cons.injEq, and_true] at e0 e1 e2 e3 e4 e5 e6 e7
    subst e0; subst e1; subst e2; subst e3; subst e4; subst e5; subst e6; subst e7
    refine ⟨⟨n0, n1, n2, n3, n4, l, n6⟩, ⟨c5, n7, rfl, row_ints (r5.ext (.refl _) fun _ _ d => d.1)⟩, r0, r1, r2, r3, r4, by show l.length ≤ _; omega, fun k hk => ?_, r6⟩
    obtain ⟨i, hi, rfl⟩ := List.mem_iff_getElem.1 hk
    obtain ⟨_, _, _, _, _, _, _, _, _, _, hd⟩ := r5.at (by have hi2 : i < l.length := hi; omega)
    exact (hd i hi).2
theorem PrgTy.rd_fn (x : RS P h tFn cs) : ∃ a, FunD h cs a := by
  have hl := Y.fn.len x
  have hL := Y.l3
  subst hL
  obtain ⟨s, e0⟩ := rs_str Y.uStr.1 (Y.fn.fld x 0 (t := tStr) (o := 0) rfl Y.uStr.2)
  obtain ⟨n1, e1, r1⟩ := rs_int Y.uInt.1 (Y.fn.fld x 1 (t := tInt) (o := 1) rfl Y.uInt.2)
  obtain ⟨n2, e2, r2⟩ := rs_int Y.uInt.1 (Y.fn.fld x 2 (t := tInt) (o := 2) rfl Y.uInt.2)
  obtain ⟨v, l, e3, r3, _, z3⟩ := rs_row Y.uCode.1 Y.ins.cells (by omega) rfl (fun cs y => Y.rd_ins y) (Y.fn.fld x 3 (t := tCode) (o := 3) rfl Y.uCode.2)
  match cs, hl with
  | [c0, c1, c2, c3], _ =>
    simp only [List.drop_succ_cons, List.drop_zero, List.take_succ_cons, List.take_zero, List.cons.injEq, and_true] at e0 e1 e2 e3
    subst e0; subst e1; subst e2; subst e3
    exact ⟨⟨n1, n2, l⟩, ⟨s, c3, rfl, r3⟩, r1, r2, z3⟩
theorem PrgTy.rd_cl (x : RS P h tCl cs) : ∃ a, ClassD cs a := by
  have hl := Y.cls.len x
  have hL := Y.l2
  subst hL
  obtain ⟨s, e0⟩ := rs_str Y.uStr.1 (Y.cls.fld x 0 (t := tStr) (o := 0) rfl Y.uStr.2)
  obtain ⟨v1, l1, e1, r1, _, z1⟩ := rs_row (D := fun c (_ : Unit) => True) Y.uStrs.1 Y.uStr.2 (by omega) rfl (fun cs y => ⟨(), trivial⟩) (Y.cls.fld x 1 (t := tStrs) (o := 1) rfl Y.uStrs.2)
  obtain ⟨⟨te, ue, ce⟩, ct⟩ := Y.uTys
  obtain ⟨v2, l2, e2, r2, _, z2⟩ := rs_row (D := fun c (_ : Unit) => True) ue ce (by omega) rfl (fun cs y => ⟨(), trivial⟩) (Y.cls.fld x 2 (t := tTys) (o := 2) rfl ct)
  obtain ⟨a1, c1', rfl⟩ := r1.val
  obtain ⟨a2, c2', rfl⟩ := r2.val
  match cs, hl with
  | [c0, c1, c2], _ =>
    simp only [List.drop_succ_cons, List.drop_zero, List.take_succ_cons, List.take_zero, List.cons.injEq, and_true] at e0 e1 e2
    subst e0; subst e1; subst e2
    exact ⟨(l1.length, l2.length), ⟨s, a1, c1', a2, c2', rfl⟩, z1, z2⟩
theorem PrgTy.rd_co (x : RS P h tCo cs) : ∃ a, CompD cs a := by
  have hl := Y.co.len x
  have hL := Y.l5
  subst hL
  obtain ⟨s, e0⟩ := rs_str Y.uStr.1 (Y.co.fld x 0 (t := tStr) (o := 0) rfl Y.uStr.2)
  obtain ⟨n1, e1, r1⟩ := rs_int Y.uInt.1 (Y.co.fld x 1 (t := tInt) (o := 1) rfl Y.uInt.2)
  have x2 := (Y.co.fld x 2 (t := tArr) (o := 2) rfl Y.uArr.2).1
  match cs, hl with
  | [c0, c1, c2, c3, c4, c5], _ =>
    simp only [List.drop_succ_cons, List.drop_zero, List.take_succ_cons, List.take_zero, List.cons.injEq, and_true] at e0 e1
    subst e0; subst e1
    have h4 := (x2.inv_array Y.uArr.1).2
    have f : ∀ i, i < 4 → ∃ n, ((([c2, c3, c4, c5] : List Value).drop (i * 1)).take 1) = [iV n] ∧ I64 n := fun i hi => by
      have := h4 i hi
      rw [Y.uInt.2] at this
      obtain ⟨k, e, q1, q2⟩ := this.inv_int Y.uInt.1
      exact ⟨k, e, q1, q2⟩
    obtain ⟨f0, g0, q0⟩ := f 0 (by omega)
    obtain ⟨f1, g1, q1⟩ := f 1 (by omega)
    obtain ⟨f2, g2, q2⟩ := f 2 (by omega)
    obtain ⟨f3, g3, q3⟩ := f 3 (by omega)
    simp only [Nat.mul_one, List.drop_succ_cons, List.drop_zero, List.take_succ_cons, List.take_zero, List.cons.injEq, and_true] at g0 g1 g2 g3
    subst g0; subst g1; subst g2; subst g3
    refine ⟨(n1, [f0, f1, f2, f3]), ⟨s, f0, f1, f2, f3, rfl, rfl⟩, r1, fun k hk => ?_⟩
    simp only [List.mem_cons, List.not_mem_nil, or_false] at hk
    rcases hk with rfl | rfl | rfl | rfl <;> assumption
theorem PrgTy.rd_ev (x : RS P h tEv cs) : ∃ a, EventD cs a := by
  have hl := Y.ev.len x
  have hL := Y.l6
  subst hL
  obtain ⟨s, e0⟩ := rs_str Y.uStr.1 (Y.ev.fld x 0 (t := tStr) (o := 0) rfl Y.uStr.2)
  obtain ⟨n1, e1, r1⟩ := rs_int Y.uInt.1 (Y.ev.fld x 1 (t := tInt) (o := 1) rfl Y.uInt.2)
  obtain ⟨b2, e2⟩ := rs_bool Y.uBool.1 (Y.ev.fld x 2 (t := tBool) (o := 2) rfl Y.uBool.2)
  obtain ⟨n3, e3, r3⟩ := rs_int Y.uInt.1 (Y.ev.fld x 3 (t := tInt) (o := 3) rfl Y.uInt.2)
  match cs, hl with
  | [c0, c1, c2, c3], _ =>
    simp only [List.drop_succ_cons, List.drop_zero, List.take_succ_cons, List.take_zero, List.cons.injEq, and_true] at e0 e1 e2 e3
    subst e0; subst e1; subst e2; subst e3
    exact ⟨(n1, n3), ⟨s, b2, rfl⟩, r1, r3⟩
theorem PrgTy.rd_si (x : RS P h tSi cs) : ∃ a, SiteD cs a := by
  have hl := Y.si.len x
  have hL := Y.l7
  subst hL
  obtain ⟨n0, e0, r0⟩ := rs_int Y.uInt.1 (Y.si.fld x 0 (t := tInt) (o := 0) rfl Y.uInt.2)
  obtain ⟨n1, e1, r1⟩ := rs_int Y.uInt.1 (Y.si.fld x 1 (t := tInt) (o := 1) rfl Y.uInt.2)
  match cs, hl with
  | [c0, c1], _ =>
    simp only [List.drop_succ_cons, List.drop_zero, List.take_succ_cons, List.take_zero, List.cons.injEq, and_true] at e0 e1
    subst e0; subst e1
    exact ⟨(n0, n1), rfl, r0, r1⟩
/-- A program that is read. -/
theorem PrgTy.rd (x : RS P h tP cs) : ∃ p lo cl gl fu co ev si, cs = prgC p lo cl gl fu co ev si ∧ PrgAt h p lo cl gl fu co ev si := by
  have hl := Y.prg.len x
  have hL := Y.l1
  subst hL
  obtain ⟨v0, l0, e0, r0, _, z0⟩ := rs_row (D := fun c (_ : Unit) => True) Y.uStrs.1 Y.uStr.2 (by omega) rfl (fun cs y => ⟨(), trivial⟩) (Y.prg.fld x 0 (t := tStrs) (o := 0) rfl Y.uStrs.2)
  obtain ⟨v1, l1, e1, r1, _, z1⟩ := rs_row Y.uCls.1 Y.cls.cells (by omega) rfl (fun cs y => Y.rd_cl y) (Y.prg.fld x 1 (t := tCls) (o := 1) rfl Y.uCls.2)
  obtain ⟨v2, l2, e2, r2, _, z2⟩ := rs_row (D := fun c (_ : Unit) => True) Y.uGls.1 Y.gl (by omega) rfl (fun cs y => ⟨(), trivial⟩) (Y.prg.fld x 2 (t := tGls) (o := 2) rfl Y.uGls.2)
  obtain ⟨v3, l3, e3, r3, _, z3⟩ := rs_row Y.uFns.1 Y.fn.cells (by omega) rfl (fun cs y => Y.rd_fn y) (Y.prg.fld x 3 (t := tFns) (o := 3) rfl Y.uFns.2)
  obtain ⟨v4, l4, e4, r4, _, z4⟩ := rs_row Y.uCos.1 Y.co.cells (by omega) rfl (fun cs y => Y.rd_co y) (Y.prg.fld x 4 (t := tCos) (o := 4) rfl Y.uCos.2)
  obtain ⟨v5, l5, e5, r5, _, z5⟩ := rs_row Y.uEvs.1 Y.ev.cells (by omega) rfl (fun cs y => Y.rd_ev y) (Y.prg.fld x 5 (t := tEvs) (o := 5) rfl Y.uEvs.2)
  obtain ⟨n6, e6, r6⟩ := rs_int Y.uInt.1 (Y.prg.fld x 6 (t := tInt) (o := 6) rfl Y.uInt.2)
  obtain ⟨v7, l7, e7, r7, _, z7⟩ := rs_row Y.uSis.1 Y.si.cells (by omega) rfl (fun cs y => Y.rd_si y) (Y.prg.fld x 7 (t := tSis) (o := 7) rfl Y.uSis.2)
  obtain ⟨a0, c0', rfl⟩ := r0.val
  obtain ⟨a2, c2', rfl⟩ := r2.val
  match cs, hl with
  | [c0, c1, c2, c3, c4, c5, c6, c7], _ =>
    simp only [List.drop_succ_cons, List.drop_zero, List.take_succ_cons, List.take_zero, List.cons.injEq, and_true] at e0 e1 e2 e3 e4 e5 e6 e7
    subst e0; subst e1; subst e2; subst e3; subst e4; subst e5; subst e6; subst e7
    exact ⟨⟨l0.length, l1, l2.length, l3, l4, l5, n6, l7⟩, _, _, _, _, _, _, _, rfl, ⟨⟨a0, c0', rfl⟩, r1, ⟨a2, c2', rfl⟩, r3, r4, r5, r7, r6, z0, z1, z2, z3, z4, z5, z7⟩⟩
end
end Go.May

namespace Go.May
open Go.X
abbrev prgV (P : Prg) (lo cl gl fu co ev si : Value) : Value := .agg #[lo, cl, gl, fu, co, ev, iV P.main, si]
abbrev funV (s : ByteArray) (F : Fun) (cv : Value) : Value := .agg #[.string s, iV F.caps, iV F.regs, cv]
abbrev insV (x : Ins) (lv : Value) (ln : Int) : Value := .agg #[iV x.op, iV x.a, iV x.b, iV x.c, iV x.n, lv, iV x.site, iV ln]
/-- Cells of sites. -/
def siC : List (Int × Int) → List Value
  | [] => []
  | s :: l => iV s.1 :: iV s.2 :: siC l
theorem siC_app : ∀ l m : List (Int × Int), siC (l ++ m) = siC l ++ siC m
  | [], _ => rfl
  | s :: l, m => by rw [List.cons_append, siC, siC, siC_app l m]; rfl
theorem siC_len : ∀ l : List (Int × Int), (siC l).length = l.length * 2
  | [] => rfl
  | s :: l => by rw [siC, List.length_cons, List.length_cons, siC_len l, List.length_cons]; omega
theorem siC_at : ∀ (l : List (Int × Int)) (i : Nat) (h : i < l.length), ((siC l).drop (i * 2)).take 2 = [iV l[i].1, iV l[i].2]
  | s :: l, 0, _ => rfl
  | s :: l, i + 1, h => by
    have : (i + 1) * 2 = i * 2 + 1 + 1 := by omega
    rw [siC, this, List.drop_succ_cons, List.drop_succ_cons]
    simp only [List.length_cons] at h
    rw [siC_at l i (by omega)]; rfl
section
variable {h : Hp} {P : Prg} {lo cl gl fu co ev si : Value} {f : Int}
/-- How many cells a function captures. -/
theorem PrgAt.caps (X : PrgAt h P lo cl gl fu co ev si) (hf : inB f P.funs.length = true) : ∃ b o c cs e m, fu = .slice (some ⟨b, o, none⟩) P.funs.length c ∧ h.get b = some (.cells cs e m) ∧ b < h.n ∧ 0 ≤ f ∧ f < P.funs.length ∧ cs[o + f.toNat * 4 + 1]? = some (iV (capsAt P f)) := by
  obtain ⟨h1, h2⟩ := inB_iff.1 hf
  obtain ⟨b, o, c, cs, e, m, hv, hg, hlb, hl6, hat⟩ := X.fu.at (by omega)
  refine ⟨b, o, c, cs, e, m, hv, hg, hlb, h1, h2, ?_⟩
  obtain ⟨j, rfl⟩ := Int.eq_ofNat_of_zero_le h1
  have hj : j < P.funs.length := by omega
  obtain ⟨s, cv, e1, _⟩ := (hat j hj).row
  rw [Int.toNat_natCast, caps_at hj]
  exact cut_at e1 (by omega) rfl
/-- What is known of a program's parts. -/
theorem PrgAt.vals (X : PrgAt h P lo cl gl fu co ev si) : (∃ a c, lo = .slice a P.loopers c) ∧ (∃ a c, cl = .slice a P.classes.length c) ∧ (∃ a c, gl = .slice a P.globals c) ∧ (∃ a c, fu = .slice a P.funs.length c) ∧ (∃ a c, co = .slice a P.comps.length c) ∧ (∃ a c, ev = .slice a P.events.length c) ∧ ∃ a c, si = .slice a P.sites.length c :=
  ⟨X.lo, X.cl.val, X.gl, X.fu.val, X.co.val, X.ev.val, X.si.val⟩
end
section
variable {F : Fun} {x : Ins}
theorem regs3 (o : Int) : regsN o ≤ 3 := by
  unfold regsN; split <;> (try split) <;> (try split) <;> omega
/-- The registers, one by one. -/
theorem regs_step {j : Nat} (hj : j < 3) : ([x.a, x.b, x.c].take (j + 1)).all (fun r => inB r F.regs) = (([x.a, x.b, x.c].take j).all (fun r => inB r F.regs) && inB ([x.a, x.b, x.c][j]) F.regs) := by
  rw [List.take_add_one, List.getElem?_eq_getElem (by simpa using hj), List.all_append]
  simp
theorem regs_fail {j : Nat} (hj : j < regsN x.op) (hj3 : j < 3) (hf : inB ([x.a, x.b, x.c][j]) F.regs = false) : regsB F x = false := by
  unfold regsB
  rw [← Bool.not_eq_true]
  intro h
  have := List.all_eq_true.1 h ([x.a, x.b, x.c][j]) (List.mem_take_iff_getElem.2 ⟨j, by simp; omega, rfl⟩)
  rw [hf] at this; cases this
theorem l_step {j : Nat} (hj : j < x.l.length) : ((x.l.take (j + 1)).all fun r => decide (x.op = 21) && inB r F.regs) = (((x.l.take j).all fun r => decide (x.op = 21) && inB r F.regs) && (decide (x.op = 21) && inB x.l[j] F.regs)) := by
  rw [List.take_add_one, List.getElem?_eq_getElem hj, List.all_append]
  simp
theorem l_fail {j : Nat} (hj : j < x.l.length) (hf : (decide (x.op = 21) && inB x.l[j] F.regs) = false) : lB F x = false := by
  unfold lB
  rw [← Bool.not_eq_true]
  intro h
  have := List.all_eq_true.1 h _ (List.getElem_mem hj)
  rw [hf] at this; cases this
theorem instr_no1 {P : Prg} (h : (decide (1 ≤ x.op) && decide (x.op ≤ 33)) = false) : instrB P F x = false := by rw [instrB, h, Bool.false_and]
theorem instr_no2 {P : Prg} (h : regsB F x = false) : instrB P F x = false := by rw [instrB, h, Bool.false_and, Bool.and_false]
theorem instr_no3 {P : Prg} (h : lB F x = false) : instrB P F x = false := by rw [instrB, h, Bool.false_and, Bool.and_false, Bool.and_false]
theorem instr_yes {P : Prg} (h1 : (decide (1 ≤ x.op) && decide (x.op ≤ 33)) = true) (h2 : regsB F x = true) (h3 : lB F x = true) : instrB P F x = namedB P F x := by rw [instrB, h1, h2, h3, Bool.true_and, Bool.true_and, Bool.true_and]
theorem op_out {o : Int} (h : (decide (o < 1) || decide (33 < o)) = true) : (decide (1 ≤ o) && decide (o ≤ 33)) = false := by
  simp only [Bool.or_eq_true, decide_eq_true_eq] at h
  rw [Bool.and_eq_false_iff, decide_eq_false_iff_not, decide_eq_false_iff_not]; omega
theorem op_in {o : Int} (h : (decide (o < 1) || decide (33 < o)) = false) : (decide (1 ≤ o) && decide (o ≤ 33)) = true := by
  simp only [Bool.or_eq_false_iff, decide_eq_false_iff_not] at h
  rw [Bool.and_eq_true, decide_eq_true_eq, decide_eq_true_eq]; omega
end
theorem all_step {α : Type} {p : α → Bool} {l : List α} {j : Nat} (hj : j < l.length) : (l.take (j + 1)).all p = ((l.take j).all p && p l[j]) := by
  rw [List.take_add_one, List.getElem?_eq_getElem hj, List.all_append]
  simp
theorem all_fail {α : Type} {p : α → Bool} {l : List α} {j : Nat} (hj : j < l.length) (h : p l[j] = false) : l.all p = false := by
  rw [← Bool.not_eq_true]
  intro h'
  have := List.all_eq_true.1 h' _ (List.getElem_mem hj)
  rw [h] at this; cases this
section
variable {cs : List Value} {p : Nat}
theorem CompD.len {c : Int × List Int} {r : List Value} (d : CompD r c) : c.2.length = 4 := by
  obtain ⟨s, f0, f1, f2, f3, _, e⟩ := d.row
  rw [e]; rfl
theorem CompD.fn {c : Int × List Int} (d : CompD ((cs.drop p).take 6) c) {k : Nat} (hk : k < c.2.length) : cs[p + 2 + k]? = some (iV c.2[k]) := by
  have h4 := d.len
  obtain ⟨s, f0, f1, f2, f3, e, e2⟩ := d.row
  have h : cs[p + (2 + k)]? = some (iV c.2[k]) := by
    refine cut_at e (by omega) ?_
    simp only [e2]
    have hk4 : k < 4 := by omega
    match k, hk4 with
    | 0, _ => rfl
    | 1, _ => rfl
    | 2, _ => rfl
    | 3, _ => rfl
  rw [← Nat.add_assoc] at h
  exact h
theorem CompD.lp {c : Int × List Int} (d : CompD ((cs.drop p).take 6) c) : cs[p + 1]? = some (iV c.1) := by
  obtain ⟨s, f0, f1, f2, f3, e, _⟩ := d.row
  exact cut_at e (by omega) rfl
theorem EventD.lp {c : Int × Int} (d : EventD ((cs.drop p).take 4) c) : cs[p + 1]? = some (iV c.1) ∧ cs[p + 3]? = some (iV c.2) := by
  obtain ⟨s, b, e⟩ := d.row
  exact ⟨cut_at e (by omega) rfl, cut_at e (by omega) rfl⟩
theorem ClassD.at {c : Nat × Nat} (d : ClassD ((cs.drop p).take 3) c) : ∃ a b e g, cs[p + 1]? = some (.slice a c.1 b) ∧ cs[p + 2]? = some (.slice e c.2 g) := by
  obtain ⟨s, a, b, e, g, h⟩ := d.row
  exact ⟨a, b, e, g, cut_at h (by omega) rfl, cut_at h (by omega) rfl⟩
end
section
variable {P : Prg} {r : Bool}
def sizeC (P : Prg) : Bool := (((((((decide ((P.loopers : Int) < 1) || decide ((8 : Int) < P.loopers)) || decide ((16 : Int) < P.classes.length)) || decide ((32 : Int) < P.globals)) || decide ((8 : Int) < P.comps.length)) || decide ((8 : Int) < P.events.length)) || decide ((P.funs.length : Int) < 1)) || decide ((64 : Int) < P.funs.length))
theorem size_no (h : sizeC P = true) : partsB P = false := by
  simp only [sizeC, Bool.or_eq_true, decide_eq_true_eq] at h
  have : sizeB P = false := by
    rw [← Bool.not_eq_true]
    intro h'
    simp only [sizeB, Bool.and_eq_true, decide_eq_true_eq] at h'
    omega
  rw [partsB, this, Bool.false_and]
theorem size_yes (h : sizeC P = false) : sizeB P = rootB P P.main := by
  simp only [sizeC, Bool.or_eq_false_iff, decide_eq_false_iff_not] at h
  rw [sizeB, decide_eq_true (by omega : 1 ≤ P.loopers), decide_eq_true (by omega : P.loopers ≤ 8), decide_eq_true (by omega : P.classes.length ≤ 16), decide_eq_true (by omega : P.globals ≤ 32), decide_eq_true (by omega : P.comps.length ≤ 8), decide_eq_true (by omega : P.events.length ≤ 8), decide_eq_true (by omega : 1 ≤ P.funs.length), decide_eq_true (by omega : P.funs.length ≤ 64)]
  simp
theorem size_root (h : sizeC P = false) (hr : rootB P P.main = false) : partsB P = false := by rw [partsB, size_yes h, hr, Bool.false_and]
theorem parts_yes (h : sizeC P = false) (hr : rootB P P.main = true) : partsB P = (P.classes.all classB && (P.comps.all (compB P) && P.events.all (eventB P))) := by rw [partsB, size_yes h, hr, Bool.true_and]
theorem class_no {c : Nat × Nat} (h : (decide ((8 : Int) < c.2) || !decide ((c.1 : Int) = c.2)) = true) : classB c = false := by
  rw [← Bool.not_eq_true]
  intro h'
  simp only [classB, Bool.and_eq_true, decide_eq_true_eq] at h'
  simp at h
  omega
theorem class_yes {c : Nat × Nat} (h : (decide ((8 : Int) < c.2) || !decide ((c.1 : Int) = c.2)) = false) : classB c = true := by
  simp at h
  rw [classB, decide_eq_true (by omega : c.2 ≤ 8), decide_eq_true (by omega : c.1 = c.2)]; rfl
end
end Go.May
