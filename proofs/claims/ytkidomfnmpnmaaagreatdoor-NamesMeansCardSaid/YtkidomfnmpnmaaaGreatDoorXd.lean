/- The calculus: slices of one's own that need not fill their block (elements of several cells); appending to them, copying them. Conditions: none. The calculus: several elements appended at once, out of any slice that is read. Conditions: none. Regions whose order is open: the same checks, reckoned with masks. Conditions: none. What the masks find of a region, the checks find. Conditions: none. The machine X, whole regions at once: the same machine, reckoned with less memory. Conditions: none. What the machine that goes by whole regions comes to, X comes to. Conditions: none. A call without arguments that answers true where a table lies: a call that is not gone through. Conditions: X's run. The calculus: strings held against each other. Conditions: none. The calculus: what is owned of the memory, piece by piece; the rules that write, told of such pieces. Conditions: none. The calculus: maps whose keys stand for values of any type. Conditions: none. A call without arguments that makes something new: what it makes is run once, by X from nothing, and then laid wherever it is called. Conditions: X's run. The calculus: a string's bytes; strings put together; bytes' bits. Conditions: none. Rows that are only read, of any capacity, wherever an empty one's address leads. Conditions: none. A switch whose case has several whole numbers: one rule for the chain of tests. A row of bytes to which a string's bytes are appended; a piece of the memory that a function owns for a while. Conditions: none. strconv.FormatInt at base 10 as a call that is not gone through, where its table lies. Conditions: the library's contract, laid at the program. strings.Cut, strings.Split, strconv.Atoi, strconv.ParseInt, strconv.Itoa as calls that are not gone through. Conditions: the library's contracts, laid at the program; the library's variables lie there. X: strings added, compared, once more. Conditions: none. -/
import Derived.Test.YtkidomfnmpnmaaaGreatDoorXc
import Derived.Test.YtkidomfnmpnmaaaGreatDoorXa
import Derived.Shelf.Strconv.Itoa4
import Derived.Test.YtkidomfnmpnmaaaGreatDoorXb
import Derived.Shelf.Strings.Split
import Derived.Shelf.Strings.Cut
import Derived.Shelf.Strconv.AtoiAll
import Derived.Shelf.Strconv.ParseIntPublic10
namespace Go.X
theorem ExtB.join {A C : List Nat} {h h1 h2 : Hp} (x : ExtB A h h1) (y : ExtB C h1 h2) (d : ∀ i, i ∈ C → i ∈ A ∨ h.n ≤ i) : ExtB A h h2 :=
  ⟨Nat.le_trans x.n y.n, fun i hi hA => (y.get i (Nat.lt_of_lt_of_le hi x.n) fun hc => (d i hc).elim hA fun h1 => by omega).trans (x.get i hi hA)⟩
def SlC (e : TypeId) (z : Nat) (h : Hp) (s : Value) (cs : List Value) (n : Nat) (bs : List Nat) : Prop :=
  (s = .slice none 0 0 ∧ cs = [] ∧ n = 0 ∧ bs = []) ∨ ∃ b m c rest, s = .slice (some ⟨b, 0, none⟩) n c ∧ h.get b = some (.cells (cs ++ rest) e m) ∧ (m = 0 ∨ m = z + 3) ∧ b < h.n ∧ bs = [b] ∧ cs.length = n * (z + 1) ∧ n ≤ c ∧ rest.length = (c - n) * (z + 1)
section
variable {e z : Nat} {h h' : Hp} {s : Value} {cs : List Value} {n : Nat} {bs ds : List Nat}
theorem SlN.toC (x : SlN e z h s cs n bs) : SlC e z h s cs n bs := by
  rcases x with x | ⟨b, m, h1, h2, h3, h4, h5, h6⟩
  · exact .inl x
  exact .inr ⟨b, m, n, [], h1, by simpa using h2, h3, h4, h5, h6, Nat.le_refl _, by simp⟩
theorem SlC.keep (x : SlC e z h s cs n bs) (g : ExtB ds h h') (hd : ∀ i, i ∈ bs → i ∉ ds) : SlC e z h' s cs n bs := by
  rcases x with x | ⟨b, m, c, rest, h1, h2, h3, h4, rfl, h5⟩
  · exact .inl x
  exact .inr ⟨b, m, c, rest, h1, by rw [g.get b h4 (hd b (by simp))]; exact h2, h3, Nat.lt_of_lt_of_le h4 g.n, rfl, h5⟩
theorem SlC.ext (x : SlC e z h s cs n bs) (g : Ext h h') : SlC e z h' s cs n bs := x.keep (g.b []) (by simp)
theorem SlC.lt (x : SlC e z h s cs n bs) : ∀ i, i ∈ bs → i < h.n := by
  rcases x with ⟨_, _, _, rfl⟩ | ⟨b, m, c, rest, h1, h2, h3, h4, rfl, _⟩ <;> simp
  exact h4
theorem SlC.val (x : SlC e z h s cs n bs) : ∃ a c, s = .slice a n c := by
  rcases x with ⟨rfl, _, rfl, _⟩ | ⟨b, m, c, rest, rfl, _⟩
  · exact ⟨none, 0, rfl⟩
  exact ⟨_, _, rfl⟩
theorem Qem {E : Env} {t by' q m' : Nat} {xs : List Value} (x : ElN E t e z by') (hs : SlC e z h s cs n bs) (hq : h.get q = some (.cells xs e m')) (hx : xs.length = z + 1) (hc : xs.all cellV = true)
    (hn : (n + 1) * (by' + 1) ≤ 1099511627776) :
    ∃ v' h' bs', Yb E h t t s (.slice (some ⟨q, 0, none⟩) 1 1) = some (v', h') ∧ SlC e z h' v' (cs ++ xs) (n + 1) bs' ∧ ExtB bs h h' ∧ ∀ i, i ∈ bs' → i ∈ bs ∨ h.n ≤ i := by
  have hfirst : Q17 h (z + 1) 1 (.slice (some ⟨q, 0, none⟩) 1 1) = some xs := by
    have e1 : Nat.ble (0 + 1 * (z + 1)) xs.length = true := (QB _ _).2 (by omega); have e2 : Nat.ble 1 1 = true := rfl; have e3 : Nat.beq 1 0 = false := rfl; simp only [Q17, e2, e3, cond_true, cond_false, rowOf, hq, e1, List.drop_zero]; rw [List.take_of_length_le (by omega)]
  have e3 : Nat.beq 1 0 = false := rfl; rcases hs with ⟨rfl, rfl, rfl, rfl⟩ | ⟨b, m, c, rest, rfl, hb, hm, hlt, rfl, hl, hnc, hr⟩
  · refine ⟨_, _, [h.n], ?_, .inr ⟨h.n, z + 3, 1, [], rfl, by rw [List.append_nil]; exact Hp.get_alloc_self _ _, .inr rfl, by rw [Hp.n_alloc]; omega, rfl, by simp [hx], Nat.le_refl _, by simp⟩, (Ext.alloc h _).b _, by simp⟩; simp only [Yb, x.und, JH, x.size, x.bytes, hfirst, e3, cond_false]; exact x.growX h 1 [] xs (by omega)
  have hl' : (cs ++ xs).length = (n + 1) * (z + 1) := by rw [List.length_append, hl, hx, Nat.add_mul]; omega
  by_cases hlt2 : n + 1 ≤ c
  · have e1 : Nat.ble (n + 1) c = true := (QB _ _).2 hlt2; have hm2 : (n + 1) * (z + 1) ≤ c * (z + 1) := Nat.mul_le_mul_right _ hlt2; rw [Nat.sub_mul] at hr; rw [Nat.add_mul] at hm2
    have hst : Zj h ((⟨b, 0, none⟩ : Addr).add (n * (z + 1))) xs = some (h.put b (.cells ((cs ++ xs) ++ rest.drop (z + 1)) e m)) := by
      have e4 : Nat.beq m 1 = false := (QK _ _).2 (by omega); have e5 : Nat.ble (0 + n * (z + 1) + xs.length) (cs ++ rest).length = true := (QB _ _).2 (by rw [List.length_append]; omega); rw [addr_add]; simp only [Zj, hb, e4, e5, Bool.not_false, Bool.and_true, cond_true, Option.some.injEq]
      congr 2
      rw [Nat.zero_add, List.take_append_of_le_length (by omega), List.take_of_length_le (by omega), List.drop_append]
      congr 1
      rw [List.drop_eq_nil_of_le (by omega), List.nil_append]
      congr 1
      omega
    refine ⟨.slice (some ⟨b, 0, none⟩) (n + 1) c, _, [b], ?_, .inr ⟨b, m, c, rest.drop (z + 1), rfl, Hp.get_put_self _ _ _, hm, by rw [Hp.n_put]; exact hlt, rfl, hl', hlt2, ?_⟩, ExtB.put h b _, by simp⟩
    · simp only [Yb, x.und, JH, x.size, x.bytes, hfirst, e3, cond_false, e1, cond_true, hst, hc]
    rw [List.length_drop, hr, Nat.sub_mul, Nat.add_mul]; omega
  have hcn : c = n := by omega
  subst hcn; have hr0 : rest = [] := List.eq_nil_of_length_eq_zero (by rw [hr]; simp); subst hr0; rw [List.append_nil] at hb; obtain ⟨v', h', q1, q2, q3⟩ := Qel x (.inr ⟨b, m, rfl, hb, hm, hlt, rfl, hl⟩) hq hx hc hn; exact ⟨v', h', [h.n], q1, q2.toC, q3, by simp⟩
end
section
variable {E : Env} {fn : FuncId} {nt : Nat} {l : Kn} {h : Hp} {dr : Bool} {ops : Array Oper} {fin rest : List (Oper × List Oper)} {R : Kn → Hp → Prop} {lt : List Oper}
variable {d : Nat} {ty t ty2 : TypeId} {pos : String} {af : Array Edge} {gg : Option (Nat × Bool)} {x y : Operand} {v : Value}
theorem Qbc {b o n : Nat} {cs : List Value} {vs : Array Value} {e : TypeId} {m : Nat} (g : Gd ops l gg) (hx : evl l x = some (.pointer (some ⟨b, o, none⟩))) (hy : evl l y = some (.agg vs)) (hc : vs.toList.all cellV = true) (ht : E.size t = some n) (hn : vs.size = n)
    (hg : h.get b = some (.cells cs e m)) (hm : m ≠ 1) (hv : o + n ≤ cs.length) (ha : ∀ q, q ∈ lt → Again E ops l (h.put b (.cells (cs.take o ++ vs.toList ++ cs.drop (o + n)) e m)) q)
    (q : WL E fn nt dr ops fin rest l (h.put b (.cells (cs.take o ++ vs.toList ++ cs.drop (o + n)) e m)) R) :
    WL E fn nt dr ops fin ((⟨none, .store t x y, ty, pos, af, gg⟩, lt) :: rest) l h R := by
  refine Q39 g rfl (fun _ ag => ?_) wn0 ha q; have hl : vs.toList.length = n := by simpa using hn
  have e1 : Nat.ble (o + n) cs.length = true := (QB _ _).2 hv; have e2 : Nat.beq m 1 = false := (QK _ _).2 hm; have e3 : Nat.beq vs.size n = true := (QG _ _).2 hn; simp only [Zs, ag.ev hx, ag.ev hy, Q02, ht, Value.cells, e3, hc, Bool.and_true, cond_true, Zj, hg, hl, e1, e2, Bool.not_false]
theorem Qen {k : IntKind} {a b : Int} {op : BinOp} (g : Gd ops l gg) (hx : evl l x = some (.int k a)) (hy : evl l y = some (.int k b)) (hs : Ke op = false) (hv : Zv op k a b = some v) (hl : lk l d = some v) (hw : sameV 20 v v = true) :
    Again E ops l h ⟨some d, .binOp op t x y ty2, ty, pos, af, gg⟩ :=
  .inr ⟨g, v, d, rfl, hl, hw, fun _ ag => by simp only [QL, ag.ev hx, ag.ev hy, Q45, hs, cond_false, YL, cond_true, hv]⟩
theorem Q7U {bb o n c z by' e : Nat} {k : IntKind} {vs : List Value} {m : Nat} {j : Int} (el : ElN E t e z by') (g : Gd ops l gg) (hd : Nat.blt d nt = true) (hx : evl l x = some (.slice (some ⟨bb, o, none⟩) n c)) (hy : evl l y = some (.int k j))
    (hg : h.get bb = some (.cells vs e m)) (hm : m = 0 ∨ m = z + 3) (h1 : 0 ≤ j) (h2 : j ≤ c)
    (q : WL E fn nt dr ops fin rest ((d, .slice (some ⟨bb, o, none⟩) j.toNat c) :: l) h R) : WL E fn nt dr ops fin ((⟨some d, .slice t x none (some y) none, ty, pos, af, gg⟩, lt) :: rest) l h R :=
  QR g rfl (fun _ ag => by
    have hb : Y1 0 j.toNat c = true := ZE.2 ⟨Nat.zero_le _, by omega⟩; rcases hm with rfl | rfl
    · simp only [QL, ag.ev hx, Option.map_none, Option.map_some, ag.ev hy, Zk, el.und, el.size, Zi, Yk h1, Zo, hg, hb, cond_true, Nat.zero_mul, addr_add, Nat.add_zero, Nat.sub_zero, Bool.cond_self]
    simp only [QL, ag.ev hx, Option.map_none, Option.map_some, ag.ev hy, Zk, el.und, el.size, Zi, Yk h1, Zo, hg, hb, Nat.beq_refl, Bool.and_self, cond_true, Nat.zero_mul, addr_add, Nat.add_zero, Nat.sub_zero]) (wn hd) q
end
end Go.X
namespace Go.X
section
variable {e z : Nat} {h h' : Hp} {s w : Value} {cs xs : List Value} {n m : Nat} {bs ds : List Nat}
end
section
variable {E : Env} {fn : FuncId} {nt : Nat} {l : Kn} {h : Hp} {dr : Bool} {ops : Array Oper} {fin rest : List (Oper × List Oper)} {R : Kn → Hp → Prop} {lt : List Oper}
variable {d : Nat} {ty t : TypeId} {pos : String} {af : Array Edge} {gg : Option (Nat × Bool)} {x y : Operand} {v sv : Value}
theorem JA {b o n : Nat} {cs : List Value} {e : TypeId} {m : Nat} (g : Gd ops l gg) (hx : evl l x = some (.pointer (some ⟨b, o, none⟩))) (hc : isA E t = true) (hn : E.size t = some n)
    (hg : h.get b = some (.cells cs e m)) (hv : o + n ≤ cs.length) (hl : lk l d = some (.agg ((cs.drop o).take n).toArray)) (hs : sameV 20 (.agg ((cs.drop o).take n).toArray) (.agg ((cs.drop o).take n).toArray) = true) :
    Again E ops l h ⟨some d, .load t x, ty, pos, af, gg⟩ :=
  .inr ⟨g, _, d, rfl, hl, hs, fun _ ag => by simp only [QL, ag.ev hx, Q20 hc hn hg hv]⟩
theorem Q3D {lo : Int} {k : IntKind} (g : Gd ops l gg) (hd : Nat.blt d nt = true) (hx : evl l x = some sv) (hy : evl l y = some (.int k lo)) (hv : Zk E h t sv (some (.int k lo)) none none = some v)
    (q : WL E fn nt dr ops fin rest ((d, v) :: l) h R) : WL E fn nt dr ops fin ((⟨some d, .slice t x (some y) none none, ty, pos, af, gg⟩, lt) :: rest) l h R :=
  QR g rfl (fun _ ag => by simp only [QL, ag.ev hx, Option.map_none, Option.map_some, ag.ev hy, hv]) (wn hd) q
end
end Go.X
namespace Go.X
noncomputable section
def Qc6 (i : Nat) : Nat := Nat.shiftLeft 1 i
def maskN (l : List Nat) : Nat := List.rec (motive := fun _ => Nat) 0 (fun i _ ih => Nat.lor (Qc6 i) ih) l
def QbG (m i : Nat) : Bool := Nat.beq (Nat.land 1 (Nat.shiftRight m i)) 1
def Q2X (l : List Nat) : Nat → Bool :=
  List.rec (motive := fun _ => Nat → Bool) (fun _ => true) (fun i _ ih m => cond (QbG m i) false (ih (Nat.lor (Qc6 i) m))) l
def Q8k (p : Nat → Bool) (l : List Nat) : Bool := List.rec (motive := fun _ => Bool) true (fun i _ ih => cond (p i) ih false) l
def Q2H (es : List Edge) : Nat := List.rec (motive := fun _ => Nat) 0 (fun e _ ih => cond (Region.binds .any e) (Nat.lor (Qc6 e.on) ih) ih) es
def Q71 (n : Nat) : List Oper → Nat :=
  Nat.rec (motive := fun _ => List Oper → Nat) (fun l => List.casesOn (motive := fun _ => Nat) l 0 (fun o _ => Q2H o.after.toList)) (fun _ ih l => List.casesOn (motive := fun _ => Nat) l 0 (fun _ t => ih t)) n
def Qcs (l : List Oper) : Nat → List (Nat × Nat) :=
  List.rec (motive := fun _ => Nat → List (Nat × Nat)) (fun _ => []) (fun o _ ih i => match o.dst with
    | some d => (d, i) :: ih (i + 1)
    | none => ih (i + 1)) l
def fstL (l : List (Nat × Nat)) : List Nat := List.rec (motive := fun _ => List Nat) [] (fun p _ ih => p.1 :: ih) l
def Q6h (t : Nat) (l : List (Nat × Nat)) : Option Nat := List.rec (motive := fun _ => Option Nat) none (fun p _ ih => cond (Nat.beq p.1 t) (some p.2) ih) l
def Q8B (ops : Array Oper) (dl : List (Nat × Nat)) (l : List Oper) : Nat → Bool :=
  List.rec (motive := fun _ => Nat → Bool) (fun _ => true) (fun o _ ih i =>
    cond (Q8k (fun t => match Q6h t dl with | some j => cond (QbG (Q71 i ops.toList) j) true (ahead ops j i) | none => true) (tmpsOf o.op.operands.toList))
      (cond (match o.guard with | none => true | some (g, _) => ahead ops g i) (ih (i + 1)) false) false) l
def QaS (ops : Array Oper) : Bool :=
  cond (Q2X (fstL (Qcs ops.toList 0)) 0) (Q8B ops (Qcs ops.toList 0) ops.toList 0) false
def max2 (a b : Nat) : Nat := cond (Nat.ble a b) b a
def nthS (k : Nat) : List Nat → Nat :=
  Nat.rec (motive := fun _ => List Nat → Nat) (fun l => List.casesOn (motive := fun _ => Nat) l 0 (fun x _ => x)) (fun _ ih l => List.casesOn (motive := fun _ => Nat) l 0 (fun _ t => ih t)) k
def Q6C (acc : List Nat) (n : Nat) (es : List Edge) : Nat :=
  List.rec (motive := fun _ => Nat → Nat) (fun s => s) (fun e _ ih s => cond (Region.binds .any e) (ih (cond (Nat.blt e.on n) (max2 s (nthS (Nat.sub (Nat.pred n) e.on) acc)) s)) (ih s)) es 0
def Q0w (E : Env) (l : List Oper) : Nat → List Nat → Nat → List Nat :=
  List.rec (motive := fun _ => Nat → List Nat → Nat → List Nat) (fun _ _ _ => []) (fun o _ ih k acc n =>
    Q2c (Q6C acc n o.after.toList) fun s =>
      cond (Nat.beq (cls E o) 2) (s :: ih (k + 1) ((k + 1) :: acc) (n + 1)) (s :: ih k (s :: acc) (n + 1))) l
def Qb0 (E : Env) (l : List Oper) (k : Nat) : List Nat → Nat → List Nat → List Nat :=
  List.rec (motive := fun _ => List Nat → Nat → List Nat → List Nat) (fun _ _ r => r) (fun o _ ih st i r => List.casesOn (motive := fun _ => List Nat) st r (fun s st =>
    cond (Nat.beq s k) (cond (Nat.beq (cls E o) 2) (ih st (i + 1) r) (i :: ih st (i + 1) r)) (ih st (i + 1) r))) l
def JW (E : Env) (l : List Oper) : Nat → List Nat :=
  List.rec (motive := fun _ => Nat → List Nat) (fun _ => []) (fun o _ ih i => cond (Nat.beq (cls E o) 2) (i :: ih (i + 1)) (ih (i + 1))) l
def QdE (E : Env) (ops : List Oper) (st : List Nat) (ws : List Nat) : Nat → List Nat :=
  List.rec (motive := fun _ => Nat → List Nat) (fun k => Qb0 E ops k st 0 []) (fun w _ ih k => Qb0 E ops k st 0 (w :: ih (k + 1))) ws
def Q7n (E : Env) (ops : Array Oper) : List Nat := QdE E ops.toList (Q0w E ops.toList 0 [] 0) (JW E ops.toList 0) 0
def Q2h (l : List Oper) : Nat → Bool :=
  List.rec (motive := fun _ => Nat → Bool) (fun _ => true) (fun o _ ih i =>
    cond (List.rec (motive := fun _ => Bool) true (fun e _ ih => cond (Region.binds .any e) (cond (Nat.blt e.on i) ih false) ih) o.after.toList) (ih (i + 1)) false) l
def nthC (E : Env) (n : Nat) : List Oper → Nat :=
  Nat.rec (motive := fun _ => List Oper → Nat) (fun l => List.casesOn (motive := fun _ => Nat) l 2 (fun o _ => cls E o)) (fun _ ih l => List.casesOn (motive := fun _ => Nat) l 2 (fun _ t => ih t)) n
def Q6Y (E : Env) (ops : List Oper) (l : List Nat) : Bool :=
  List.rec (motive := fun _ => Bool) true (fun i rest ih =>
    cond (Nat.beq (Nat.land (Q71 i ops) (maskN (i :: rest))) 0)
      (cond (Nat.beq (nthC E i ops) 2) (cond (Q8k (fun j => !Nat.beq (Nat.land (Q71 j ops) (maskN (i :: rest))) 0) rest) ih false) ih) false) l
def Qec (E : Env) (ops : Array Oper) (l : List Nat) : Bool :=
  cond (Q2X l 0) (cond (Q8k (fun i => Nat.blt i ops.size) l) (cond (Nat.beq (maskN l) (Nat.pred (Qc6 ops.size))) (Q6Y E ops.toList l) false) false) false
def regionF (E : Env) (ops : Array Oper) : Bool :=
  cond (Q2h ops.toList 0) (cond (QaS ops) (cond (ops.toList.all QcW) (Qec E ops (Q7n E ops)) false) false) false
end
end Go.X
namespace Go.X
theorem Q9P (m i : Nat) : QbG m i = m.testBit i := by
  show Nat.beq (1 &&& (m >>> i)) 1 = ((1 &&& (m >>> i)) != 0); rw [Nat.one_and_eq_mod_two]; rcases Nat.mod_two_eq_zero_or_one (m >>> i) with h | h <;> rw [h] <;> rfl
theorem Q2p (i j : Nat) : (Qc6 i).testBit j = decide (i = j) := by
  show (1 <<< i).testBit j = _; rw [Nat.one_shiftLeft, Nat.testBit_two_pow]
theorem Q0I (l : List Nat) (i : Nat) : (maskN l).testBit i = decide (i ∈ l) := by
  induction l with
  | nil => show Nat.testBit 0 i = _; simp
  | cons a l ih =>
    show (Qc6 a ||| maskN l).testBit i = _; rw [Nat.testBit_or, Q2p, ih]; by_cases e : a = i
    · subst e; simp
    rw [decide_eq_false e, Bool.false_or]; congr 1; simp [show ¬ i = a from fun h => e h.symm]
theorem JU : ∀ (l : List Nat) (m : Nat), Q2X l m = true → l.Nodup ∧ ∀ i, i ∈ l → m.testBit i = false
  | [], _, _ => ⟨.nil, by simp⟩
  | a :: l, m, h => by
    have h : cond (QbG m a) false (Q2X l (Qc6 a ||| m)) = true := h; rw [Q9P] at h; cases hm : m.testBit a with
    | true => rw [hm] at h; cases h
    | false =>
      rw [hm, cond_false] at h; obtain ⟨h1, h2⟩ := JU l _ h; refine ⟨List.nodup_cons.2 ⟨fun hx => ?_, h1⟩, fun i hi => ?_⟩
      · have := h2 a hx; rw [Nat.testBit_or, Q2p] at this; simp at this
      rcases List.mem_cons.1 hi with e | hi
      · rw [e]; exact hm
      have := h2 i hi; rw [Nat.testBit_or] at this; exact (Bool.or_eq_false_iff.1 this).2
theorem Q1A (p : Nat → Bool) : ∀ l, Q8k p l = true ↔ ∀ i, i ∈ l → p i = true
  | [] => by simp [Q8k]
  | a :: l => by
    have e : Q8k p (a :: l) = cond (p a) (Q8k p l) false := rfl; rw [e]; cases h : p a with
    | false => simp [h]
    | true => rw [cond_true, Q1A p l]; simp [h]
theorem Q9z {a b : Nat} (h : Nat.beq (Nat.land a b) 0 = true) {i : Nat} (ha : a.testBit i = true) : b.testBit i = false := by
  have h0 : a &&& b = 0 := Nat.eq_of_beq_eq_true h; have := congrArg (Nat.testBit · i) h0; simp only [Nat.testBit_and, ha, Bool.true_and, Nat.zero_testBit] at this; exact this
theorem Q9A {a b : Nat} (h : (!Nat.beq (Nat.land a b) 0) = true) : ∃ i, a.testBit i = true ∧ b.testBit i = true := by
  have h0 : a &&& b ≠ 0 := fun e => by
    have : Nat.land a b = 0 := e; rw [this] at h; cases h
  obtain ⟨i, hi⟩ := Nat.exists_testBit_of_ne_zero h0; rw [Nat.testBit_and, Bool.and_eq_true] at hi; exact ⟨i, hi⟩
theorem Q5X (es : List Edge) (p : Nat) : (Q2H es).testBit p = decide (p ∈ (es.filter (fun e => Region.binds .any e)).map (·.on)) := by
  induction es with
  | nil => show Nat.testBit 0 p = _; simp
  | cons e es ih =>
    have h : Q2H (e :: es) = cond (Region.binds .any e) (Qc6 e.on ||| Q2H es) (Q2H es) := rfl; rw [h]; cases hb : Region.binds .any e with
    | false => rw [cond_false, ih]; simp [hb]
    | true =>
      rw [cond_true, Nat.testBit_or, Q2p, ih]; by_cases hp : e.on = p
      · subst hp; simp [hb]
      rw [decide_eq_false hp, Bool.false_or]; congr 1; simp [hb, show ¬ p = e.on from fun h => hp h.symm]
theorem Q4M : ∀ (n : Nat) (l : List Oper), Q71 n l = (match l[n]? with | some o => Q2H o.after.toList | none => 0)
  | 0, [] => rfl
  | 0, _ :: _ => rfl
  | _ + 1, [] => rfl
  | n + 1, _ :: l => Q4M n l
theorem Q1X (ops : Array Oper) (i p : Nat) : (Q71 i ops.toList).testBit p = decide (p ∈ Zb ops i) := by
  rw [Q4M, show ops.toList[i]? = ops[i]? by simp]; unfold Zb; cases ops[i]? with
  | none => show Nat.testBit 0 p = _; simp
  | some o => exact Q5X _ _
theorem Q9k (E : Env) : ∀ (n : Nat) (l : List Oper), nthC E n l = (match l[n]? with | some o => cls E o | none => 2)
  | 0, [] => rfl
  | 0, _ :: _ => rfl
  | _ + 1, [] => rfl
  | n + 1, _ :: l => Q9k E n l
theorem Qbg (E : Env) (ops : Array Oper) (i : Nat) : nthC E i ops.toList = Q5p E ops i := by
  rw [Q9k, show ops.toList[i]? = ops[i]? by simp]; rfl
theorem Q1U (E : Env) (ops : Array Oper) : ∀ l, Q6Y E ops.toList l = true → J6 E ops l = true
  | [], _ => rfl
  | i :: rest, h => by
    have h : cond (Nat.beq (Nat.land (Q71 i ops.toList) (maskN (i :: rest))) 0)
      (cond (Nat.beq (nthC E i ops.toList) 2) (cond (Q8k (fun j => !Nat.beq (Nat.land (Q71 j ops.toList) (maskN (i :: rest))) 0) rest) (Q6Y E ops.toList rest) false) (Q6Y E ops.toList rest)) false = true := h
    cases h1 : Nat.beq (Nat.land (Q71 i ops.toList) (maskN (i :: rest))) 0 with
    | false => rw [h1] at h; cases h
    | true =>
      rw [h1, cond_true, Qbg] at h
      have a1 : (Zb ops i).all (fun p => !Q3I p (i :: rest)) = true := List.all_eq_true.2 fun p hp => by
        have := Q9z h1 (i := p) (by rw [Q1X]; exact decide_eq_true hp); rw [Q0I] at this; rw [(YD p (i :: rest)).2 (of_decide_eq_false this)]; rfl
      unfold J6; rw [a1, Bool.true_and]; cases h2 : Nat.beq (Q5p E ops i) 2 with
      | false => rw [h2, cond_false] at h; rw [cond_false, Bool.true_and]; exact Q1U E ops rest h
      | true =>
        rw [h2, cond_true] at h; cases h3 : Q8k (fun j => !Nat.beq (Nat.land (Q71 j ops.toList) (maskN (i :: rest))) 0) rest with
        | false => rw [h3] at h; cases h
        | true =>
          rw [h3, cond_true] at h; rw [cond_true, Q1U E ops rest h, Bool.and_true]; refine List.all_eq_true.2 fun j hj => List.any_eq_true.2 ?_; obtain ⟨p, hp1, hp2⟩ := Q9A ((Q1A _ _).1 h3 j hj); rw [Q1X] at hp1; rw [Q0I] at hp2; exact ⟨p, of_decide_eq_true hp1, (Yf p _).2 (of_decide_eq_true hp2)⟩
theorem QbM (E : Env) (ops : Array Oper) (l : List Nat) (h : Qec E ops l = true) : Q08 E ops l = true := by
  unfold Qec at h; cases h1 : Q2X l 0 with
  | false => rw [h1] at h; cases h
  | true =>
    rw [h1, cond_true] at h; cases h2 : Q8k (fun i => Nat.blt i ops.size) l with
    | false => rw [h2] at h; cases h
    | true =>
      rw [h2, cond_true] at h; cases h3 : Nat.beq (maskN l) (Nat.pred (Qc6 ops.size)) with
      | false => rw [h3] at h; cases h
      | true =>
        rw [h3, cond_true] at h
        have e3 : maskN l = 2 ^ ops.size - 1 := by
          rw [Nat.eq_of_beq_eq_true h3]; show (1 <<< ops.size) - 1 = _; rw [Nat.one_shiftLeft]
        unfold Q08; rw [Q1U E ops l h, (Q2K l).2 (JU l 0 h1).1, List.all_eq_true.2 ((Q1A _ _).1 h2), Bool.true_and, Bool.true_and, Bool.true_and]; refine List.all_eq_true.2 fun i hi => ?_; have hlt : i < ops.size := List.mem_range.1 hi; have : (maskN l).testBit i = true := by rw [e3, Nat.testBit_two_pow_sub_one]; exact decide_eq_true hlt
        rw [Q0I] at this; exact (Yf i l).2 (of_decide_eq_true this)
theorem Q1a : ∀ (l : List Oper) (k : Nat), Q2h l k = true → ∀ (i : Nat) (o : Oper), l[i]? = some o → ∀ e, e ∈ o.after.toList → Region.binds .any e = true → e.on < k + i
  | [], _, _, i, o, h => by simp at h
  | q :: l, k, h, i, o, ho => by
    have h : cond (List.rec (motive := fun _ => Bool) true (fun e _ ih => cond (Region.binds .any e) (cond (Nat.blt e.on k) ih false) ih) q.after.toList) (Q2h l (k + 1)) false = true := h
    have key : ∀ es : List Edge, (List.rec (motive := fun _ => Bool) true (fun e _ ih => cond (Region.binds .any e) (cond (Nat.blt e.on k) ih false) ih) es : Bool) = true → ∀ e, e ∈ es → Region.binds .any e = true → e.on < k := by
      intro es
      induction es with
      | nil => intro _ e he; cases he
      | cons a es ih =>
        intro hr e he hb; have hr : cond (Region.binds .any a) (cond (Nat.blt a.on k) (List.rec (motive := fun _ => Bool) true (fun e _ ih => cond (Region.binds .any e) (cond (Nat.blt e.on k) ih false) ih) es) false) (List.rec (motive := fun _ => Bool) true (fun e _ ih => cond (Region.binds .any e) (cond (Nat.blt e.on k) ih false) ih) es) = true := hr; cases hba : Region.binds .any a with
        | false =>
          rw [hba, cond_false] at hr; rcases List.mem_cons.1 he with q | he
          · rw [q, hba] at hb; cases hb
          exact ih hr e he hb
        | true =>
          rw [hba, cond_true] at hr; cases hlt : Nat.blt a.on k with
          | false => rw [hlt] at hr; cases hr
          | true =>
            rw [hlt, cond_true] at hr; rcases List.mem_cons.1 he with q | he
            · rw [q]; exact Nat.le_of_ble_eq_true hlt
            exact ih hr e he hb
    cases hq : (List.rec (motive := fun _ => Bool) true (fun e _ ih => cond (Region.binds .any e) (cond (Nat.blt e.on k) ih false) ih) q.after.toList : Bool) with
    | false => rw [hq] at h; cases h
    | true =>
      rw [hq, cond_true] at h; cases i with
      | zero =>
        simp only [List.getElem?_cons_zero, Option.some.injEq] at ho; subst ho; intro e he hb; exact key _ hq e he hb
      | succ i =>
        intro e he hb; have := Q1a l (k + 1) h i o (by simpa using ho) e he hb; omega
theorem Q8c {ops : Array Oper} (h : Q2h ops.toList 0 = true) : YR ops = true := by
  unfold YR; refine List.all_eq_true.2 fun i hi => List.all_eq_true.2 fun p hp => ?_; cases ho : ops[i]? with
  | none => unfold Zb at hp; rw [ho] at hp; cases hp
  | some o =>
    obtain ⟨e, he, hb, rfl⟩ := (JS ho p).1 hp; have := Q1a _ 0 h i o (by simpa using ho) e (by simpa using he) hb; exact Nat.ble_eq_true_of_le (by omega)
theorem Q1w : ∀ (l : List Oper) (k : Nat) (d i : Nat), (d, i) ∈ Qcs l k ↔ ∃ j o, l[j]? = some o ∧ o.dst = some d ∧ i = k + j
  | [], _, _, _ => by simp [Qcs]
  | q :: l, k, d, i => by
    have ih := Q1w l (k + 1) d i; have e : Qcs (q :: l) k = (match q.dst with | some d => (d, k) :: Qcs l (k + 1) | none => Qcs l (k + 1)) := rfl; rw [e]
    have back : (∃ j o, l[j]? = some o ∧ o.dst = some d ∧ i = k + 1 + j) → ∃ j o, (q :: l)[j]? = some o ∧ o.dst = some d ∧ i = k + j :=
      fun ⟨j, o, h1, h2, h3⟩ => ⟨j + 1, o, by simpa using h1, h2, by omega⟩
    cases hq : q.dst with
    | none =>
      simp only; rw [ih]; refine ⟨back, fun ⟨j, o, h1, h2, h3⟩ => ?_⟩; cases j with
      | zero => simp at h1; subst h1; rw [hq] at h2; cases h2
      | succ j => exact ⟨j, o, by simpa using h1, h2, by omega⟩
    | some d0 =>
      simp only [List.mem_cons, Prod.mk.injEq]; rw [ih]; constructor
      · rintro (⟨rfl, rfl⟩ | h)
        · exact ⟨0, q, rfl, hq, rfl⟩
        exact back h
      rintro ⟨j, o, h1, h2, h3⟩; cases j with
      | zero => simp at h1; subst h1; rw [hq] at h2; cases h2; exact .inl ⟨rfl, h3⟩
      | succ j => exact .inr ⟨j, o, by simpa using h1, h2, by omega⟩
theorem Q9S : ∀ l : List (Nat × Nat), fstL l = l.map (·.1)
  | [] => rfl
  | p :: l => by show p.1 :: fstL l = _; rw [Q9S l]; rfl
theorem Q6f : ∀ {l : List (Nat × Nat)}, (l.map (·.1)).Nodup → ∀ {x y : Nat × Nat}, x ∈ l → y ∈ l → x.1 = y.1 → x = y
  | [], _, x, _, hx, _, _ => by cases hx
  | p :: l, hn, x, y, hx, hy, e => by
    rw [List.map_cons, List.nodup_cons] at hn; rcases List.mem_cons.1 hx with q | hx <;> rcases List.mem_cons.1 hy with r | hy
    · rw [q, r]
    · exact absurd (List.mem_map.2 ⟨y, hy, by rw [← e, q]⟩) hn.1
    · exact absurd (List.mem_map.2 ⟨x, hx, by rw [e, r]⟩) hn.1
    exact Q6f hn.2 hx hy e
theorem Q30 : ∀ {l : List (Nat × Nat)} {t i : Nat}, (t, i) ∈ l → ∃ j, Q6h t l = some j ∧ (t, j) ∈ l
  | [], _, _, h => by cases h
  | p :: l, t, i, h => by
    have e : Q6h t (p :: l) = cond (Nat.beq p.1 t) (some p.2) (Q6h t l) := rfl; rw [e]; cases hb : Nat.beq p.1 t with
    | true =>
      have := Nat.eq_of_beq_eq_true hb; exact ⟨p.2, rfl, by rw [← this]; exact List.mem_cons_self⟩
    | false =>
      rcases List.mem_cons.1 h with q | h
      · rw [← q, Nat.beq_refl] at hb; cases hb
      obtain ⟨j, h1, h2⟩ := Q30 h; exact ⟨j, h1, List.mem_cons_of_mem _ h2⟩
theorem Q1H {ops : Array Oper} {dl : List (Nat × Nat)} : ∀ (l : List Oper) (k : Nat), Q8B ops dl l k = true → ∀ (i : Nat) (o : Oper), l[i]? = some o →
    (∀ t, t ∈ tmpsOf o.op.operands.toList → ∀ j, Q6h t dl = some j → QbG (Q71 (k + i) ops.toList) j = true ∨ ahead ops j (k + i) = true) ∧ (∀ g w, o.guard = some (g, w) → ahead ops g (k + i) = true)
  | [], _, _, i, o, h => by simp at h
  | q :: l, k, h, i, o, ho => by
    have h : cond (Q8k (fun t => match Q6h t dl with | some j => cond (QbG (Q71 k ops.toList) j) true (ahead ops j k) | none => true) (tmpsOf q.op.operands.toList))
      (cond (match q.guard with | none => true | some (g, _) => ahead ops g k) (Q8B ops dl l (k + 1)) false) false = true := h
    cases h1 : Q8k (fun t => match Q6h t dl with | some j => cond (QbG (Q71 k ops.toList) j) true (ahead ops j k) | none => true) (tmpsOf q.op.operands.toList) with
    | false => rw [h1] at h; cases h
    | true =>
      rw [h1, cond_true] at h; cases h2 : (match q.guard with | none => true | some (g, _) => ahead ops g k : Bool) with
      | false => rw [h2] at h; cases h
      | true =>
        rw [h2, cond_true] at h; cases i with
        | zero =>
          simp only [List.getElem?_cons_zero, Option.some.injEq] at ho; subst ho; refine ⟨fun t ht j hj => ?_, fun g w hg => ?_⟩
          · have := (Q1A _ _).1 h1 t ht; rw [hj] at this; simp only at this; cases hh : QbG (Q71 k ops.toList) j with
            | true => exact .inl rfl
            | false => rw [hh, cond_false] at this; exact .inr this
          rw [hg] at h2; exact h2
        | succ i =>
          have := Q1H l (k + 1) h i o (by simpa using ho); rwa [show k + 1 + i = k + (i + 1) by omega] at this
theorem Q8g {ops : Array Oper} {i j : Nat} (h : QbG (Q71 i ops.toList) j = true) : ahead ops j i = true := by
  rw [Q9P, Q1X] at h; have := (Yf j (Zb ops i)).2 (of_decide_eq_true h); show Q53 ops 12 j i = true; unfold Q53; rw [this]; rfl
theorem QaR {ops : Array Oper} (h : QaS ops = true) : Q2C ops = true := by
  unfold QaS at h; cases h1 : Q2X (fstL (Qcs ops.toList 0)) 0 with
  | false => rw [h1] at h; cases h
  | true =>
    rw [h1, cond_true] at h; have hn := (JU _ 0 h1).1; rw [Q9S] at hn; have hs := Q1H _ 0 h
    have at0 : ∀ {o : Oper} {i : Nat}, (o, i) ∈ ops.toList.zipIdx → ops.toList[i]? = some o := fun {o i} hm => by
      obtain ⟨_, h2, h3⟩ := List.mem_zipIdx hm; rw [List.getElem?_eq_getElem (by omega)]; exact congrArg some (by simpa using h3.symm)
    unfold Q2C; simp only [Bool.and_eq_true]; refine ⟨List.all_eq_true.2 ?_, List.all_eq_true.2 ?_⟩
    · rintro ⟨o, i⟩ ho; refine List.all_eq_true.2 ?_; rintro ⟨q, j⟩ hq; simp only; cases hb : Nat.beq i j with
      | true => rfl
      | false =>
        rw [Bool.false_or]; cases hd : o.dst with
        | none => rfl
        | some d =>
          simp only; cases hdq : Q5m q d with
          | false => rfl
          | true =>
            have m1 := (Q1w ops.toList 0 d i).2 ⟨i, o, at0 ho, hd, by omega⟩; have m2 := (Q1w ops.toList 0 d j).2 ⟨j, q, at0 hq, (Jh).1 hdq, by omega⟩; have := Q6f hn m1 m2 rfl; cases this; rw [Nat.beq_refl] at hb; cases hb
    rintro ⟨o, i⟩ ho; obtain ⟨s1, s2⟩ := hs i o (at0 ho); rw [Nat.zero_add] at s1 s2; simp only [Bool.and_eq_true]; refine ⟨List.all_eq_true.2 fun t ht => List.all_eq_true.2 ?_, ?_⟩
    · rintro ⟨q, j⟩ hq; simp only; cases hdq : Q5m q t with
      | false => rfl
      | true =>
        rw [Bool.not_true, Bool.false_or]; have m2 := (Q1w ops.toList 0 t j).2 ⟨j, q, at0 hq, (Jh).1 hdq, by omega⟩; obtain ⟨j', f1, f2⟩ := Q30 m2; have := Q6f hn f2 m2 rfl; cases this; rcases s1 t ht j f1 with q1 | q1
        · exact Q8g q1
        exact q1
    cases hg : o.guard with
    | none => rfl
    | some gw =>
      obtain ⟨g, w⟩ := gw; exact s2 g w hg
theorem Q1B (E : Env) : ∀ (l : List Oper) (k : Nat), JW E l k = (l.zipIdx k).filterMap fun (o, i) => cond (Nat.beq (cls E o) 2) (some i) none
  | [], _ => rfl
  | o :: l, k => by
    have e : JW E (o :: l) k = cond (Nat.beq (cls E o) 2) (k :: JW E l (k + 1)) (JW E l (k + 1)) := rfl; rw [e, Q1B E l (k + 1), List.zipIdx_cons]; cases h : Nat.beq (cls E o) 2
    · rw [cond_false, List.filterMap_cons_none (by simp only [h, cond_false])]
    rw [cond_true, List.filterMap_cons_some (b := k) (by simp only [h, cond_true])]
theorem Q5Q (E : Env) (k : Nat) (r : List Nat) : ∀ (l : List Oper) (st : List (Nat × Nat)) (i : Nat), Qb0 E l k (st.map (·.1)) i r =
    ((l.zip st).zipIdx i).filterMap (fun ((o, s), i) => cond (Nat.beq s.1 k && !Nat.beq (cls E o) 2) (some i) none) ++ r
  | [], _, _ => rfl
  | _ :: _, [], _ => rfl
  | o :: l, s :: st, i => by
    have e : Qb0 E (o :: l) k ((s :: st).map (·.1)) i r = cond (Nat.beq s.1 k) (cond (Nat.beq (cls E o) 2) (Qb0 E l k (st.map (·.1)) (i + 1) r) (i :: Qb0 E l k (st.map (·.1)) (i + 1) r)) (Qb0 E l k (st.map (·.1)) (i + 1) r) := rfl; rw [e, Q5Q E k r l st (i + 1), List.zip_cons_cons, List.zipIdx_cons]; cases h1 : Nat.beq s.1 k
    · rw [cond_false, List.filterMap_cons_none (by simp only [h1, Bool.false_and, cond_false])]
    cases h2 : Nat.beq (cls E o) 2
    · rw [cond_true, cond_false, List.filterMap_cons_some (b := i) (by simp only [h1, h2, Bool.true_and, Bool.not_false, cond_true])]; rfl
    rw [cond_true, cond_true, List.filterMap_cons_none (by simp only [h1, h2, Bool.not_true, Bool.and_false, cond_false])]
theorem Q7e (E : Env) (ops : List Oper) (st : List (Nat × Nat)) : ∀ (ws : List Nat) (k : Nat), QdE E ops (st.map (·.1)) ws k = Q07 E ops st ws k
  | [], k => by
    show Qb0 E ops k (st.map (·.1)) 0 [] = Q1s E ops st k; rw [Q5Q, List.append_nil]; rfl
  | w :: ws, k => by
    show Qb0 E ops k (st.map (·.1)) 0 (w :: QdE E ops (st.map (·.1)) ws (k + 1)) = Q1s E ops st k ++ w :: Q07 E ops st ws (k + 1); rw [Q5Q, Q7e E ops st ws (k + 1)]; rfl
theorem Qdr (a b : Nat) : max2 a b = max a b := by
  unfold max2; cases h : Nat.ble a b with
  | true => have := Nat.le_of_ble_eq_true h; rw [cond_true]; omega
  | false =>
    have : ¬ a ≤ b := fun q => by rw [Nat.ble_eq_true_of_le q] at h; cases h
    rw [cond_false]; omega
theorem Q9j : ∀ (k : Nat) (l : List Nat), nthS k l = l.getD k 0
  | 0, [] => rfl
  | 0, _ :: _ => rfl
  | _ + 1, [] => rfl
  | k + 1, _ :: l => Q9j k l
theorem Q8H (acc : List (Nat × Nat)) (o : Oper) : Q6C (acc.reverse.map (·.2)) acc.length o.after.toList = Q1L acc o := by
  unfold Q6C Q1L; generalize o.after.toList = es
  have key : ∀ (es : List Edge) (s : Nat), (List.rec (motive := fun _ => Nat → Nat) (fun s => s) (fun e _ ih s => cond (Region.binds .any e) (ih (cond (Nat.blt e.on acc.length) (max2 s (nthS (Nat.sub (Nat.pred acc.length) e.on) (acc.reverse.map (·.2)))) s)) (ih s)) es s : Nat)
      = (es.filter (fun e => Region.binds .any e)).foldl (fun s e => max s (acc.getD e.on (0, 0)).2) s := by
    intro es
    induction es with
    | nil => intro s; rfl
    | cons e es ih =>
      intro s; show cond (Region.binds .any e) (List.rec (motive := fun _ => Nat → Nat) _ _ es _) (List.rec (motive := fun _ => Nat → Nat) _ _ es s) = _; rw [ih, ih]; cases hb : Region.binds .any e with
      | false => rw [cond_false, List.filter_cons, hb]; rfl
      | true =>
        rw [cond_true, List.filter_cons, hb]; show _ = List.foldl _ (max s (acc.getD e.on (0, 0)).2) _
        congr 1
        cases hlt : Nat.blt e.on acc.length with
        | false =>
          have : acc.length ≤ e.on := by
            rcases Nat.lt_or_ge e.on acc.length with q | q
            · rw [show Nat.blt e.on acc.length = true from Nat.ble_eq_true_of_le q] at hlt; cases hlt
            exact q
          rw [cond_false, List.getD_eq_getElem?_getD, List.getElem?_eq_none this]; show s = max s 0; omega
        | true =>
          have hl : e.on < acc.length := Nat.le_of_ble_eq_true hlt; rw [cond_true, Qdr, Q9j]
          congr 1
          show ((acc.reverse.map (·.2)).getD (acc.length - 1 - e.on) 0) = _; rw [List.getD_eq_getElem?_getD, List.getD_eq_getElem?_getD, List.getElem?_map, List.getElem?_reverse (by omega), show acc.length - 1 - (acc.length - 1 - e.on) = e.on by omega, List.getElem?_eq_getElem hl]; rfl
  exact key es 0
theorem Q0v (E : Env) : ∀ (l : List Oper) (k : Nat) (acc : List (Nat × Nat)), (Q4r E l k acc).map (·.1) = acc.map (·.1) ++ Q0w E l k (acc.reverse.map (·.2)) acc.length
  | [], k, acc => by show acc.map (·.1) = _; simp [Q0w]
  | o :: l, k, acc => by
    have e : Q0w E (o :: l) k (acc.reverse.map (·.2)) acc.length = Q2c (Q6C (acc.reverse.map (·.2)) acc.length o.after.toList) fun s =>
      cond (Nat.beq (cls E o) 2) (s :: Q0w E l (k + 1) ((k + 1) :: acc.reverse.map (·.2)) (acc.length + 1)) (s :: Q0w E l k (s :: acc.reverse.map (·.2)) (acc.length + 1)) := rfl
    rw [e, Q0i, Q8H]; unfold Q4r; cases Nat.beq (cls E o) 2 with
    | true =>
      rw [cond_true, cond_true, Q0v E l (k + 1)]; simp [List.reverse_append]
    | false =>
      rw [cond_false, cond_false, Q0v E l k]; simp [List.reverse_append]
theorem Q5t (E : Env) (ops : Array Oper) : Q7n E ops = canon E ops := by
  unfold Q7n canon; have h := Q0v E ops.toList 0 []; simp only [List.map_nil, List.nil_append, List.reverse_nil, List.length_nil] at h; rw [← h, Q7e, Q1B]; unfold Q8n; exact Eq.refl _
theorem Q7O {E : Env} {ops : Array Oper} (h : regionF E ops = true) : KG E ops = true := by
  unfold regionF at h; cases h1 : Q2h ops.toList 0 with
  | false => rw [h1] at h; cases h
  | true =>
    rw [h1, cond_true] at h; cases h2 : QaS ops with
    | false => rw [h2] at h; cases h
    | true =>
      rw [h2, cond_true] at h; cases h3 : ops.toList.all QcW with
      | false => rw [h3] at h; cases h
      | true =>
        rw [h3, cond_true, Q5t] at h; have h4 := QbM E ops _ h; unfold KG; simp only [Q8c h1, QaR h2, h3, h4, Bool.and_self]
end Go.X
namespace Go.X
noncomputable section
def Qeh (n : Nat) : List Value → List Value :=
  Nat.rec (motive := fun _ => List Value → List Value) (fun l => l) (fun _ ih l => List.rec (motive := fun _ => List Value) [] (fun _ t _ => ih t) l) n
def QcP (n : Nat) : List Value → List Value :=
  Nat.rec (motive := fun _ => List Value → List Value) (fun _ => []) (fun _ ih l => List.rec (motive := fun _ => List Value) [] (fun v t _ => v :: ih t) l) n
def Qbr (n : Nat) : List Value → Bool :=
  Nat.rec (motive := fun _ => List Value → Bool) (fun _ => true) (fun _ ih l => List.rec (motive := fun _ => Bool) false (fun _ t _ => ih t) l) n
def Qba (xs : List Value) : List Value → List Value :=
  List.rec (motive := fun _ => List Value → List Value) (fun l => l) (fun x _ ih l => List.rec (motive := fun _ => List Value) [x] (fun _ t _ => x :: ih t) l) xs
def Q9b (n : Nat) (xs : List Value) : List Value → List Value :=
  Nat.rec (motive := fun _ => List Value → List Value) (Qba xs) (fun _ ih l => List.rec (motive := fun _ => List Value) [] (fun v t _ => v :: ih t) l) n
def allQ (p : Value → Bool) (l : List Value) : Bool := List.rec (motive := fun _ => Bool) true (fun v _ ih => cond (p v) ih false) l
def rowQ (h : Hp) (a : Addr) (n : Nat) : Option (List Value) :=
  match a with
  | ⟨b, off, none⟩ => (match h.get b with
    | some (.cells c _ _) => cond (Qbr (Nat.add off n) c) (some (QcP n (Qeh off c))) none
    | _ => none)
  | _ => none
def Qek (h : Hp) (a : Addr) : Option Value :=
  match a with
  | ⟨b, off, none⟩ => (match h.get b with
    | some (.cells c _ _) => List.rec (motive := fun _ => Option Value) none (fun v _ _ => some v) (Qeh off c)
    | _ => none)
  | _ => none
def Q9v (E : Env) (t : TypeId) (a : Addr) (h : Hp) : Option Value :=
  match E.und t with
  | none => none
  | some d => match Ki d with
    | true => (match E.size t with
      | none => none
      | some n => match rowQ h a n with
        | none => none
        | some l => some (.agg l.toArray))
    | false => Qek h a
def Q03 (h : Hp) (a : Addr) (l : List Value) : Option Hp :=
  match a with
  | ⟨b, off, none⟩ => (match h.get b with
    | some (.cells c e m) => cond (Nat.beq m 1) none (cond (Qbr (Nat.add off l.length) c) (some (h.put b (.cells (Q9b off l c) e m))) none)
    | _ => none)
  | _ => none
def Q6A (E : Env) (t : TypeId) (a : Addr) (v : Value) (h : Hp) : Option Hp :=
  match E.size t with
  | some n => (match v with
    | .agg cs => cond (Nat.beq cs.toList.length n) (cond (allQ cellV cs.toList) (Q03 h a cs.toList) none) none
    | v => cond (Nat.beq n 1) (cond (cellV v) (Q03 h a [v]) none) none)
  | none => none
def posQ (n : Nat) : Option Value := Q2c n fun r => some (.int .i64 (.ofNat r))
def Q9n (op : BinOp) (m n : Nat) : Option Value :=
  match op with
  | .lss => some (Y3 (Nat.blt m n))
  | .leq => some (Y3 (Nat.ble m n))
  | .gtr => some (Y3 (Nat.blt n m))
  | .geq => some (Y3 (Nat.ble n m))
  | .eql => some (Y3 (Nat.beq m n))
  | .neq => some (Y3 (!Nat.beq m n))
  | .add => cond (Nat.blt (Nat.add m n) 9223372036854775808) (posQ (Nat.add m n)) (Zv .add .i64 (.ofNat m) (.ofNat n))
  | .sub => cond (Nat.ble n m) (cond (Nat.blt m 9223372036854775808) (posQ (Nat.sub m n)) (Zv .sub .i64 (.ofNat m) (.ofNat n))) (Zv .sub .i64 (.ofNat m) (.ofNat n))
  | .mul => cond (Nat.blt (Nat.mul m n) 9223372036854775808) (posQ (Nat.mul m n)) (Zv .mul .i64 (.ofNat m) (.ofNat n))
  | op => Zv op .i64 (.ofNat m) (.ofNat n)
def binQ (E : Env) (h : Hp) (op : BinOp) (t : TypeId) (xo yo : Operand) (x y : Value) : Option Value :=
  match x with
  | .int .i64 (.ofNat m) => (match y with
    | .int .i64 (.ofNat n) => cond (Ke op) (Q45 E h op t xo yo (.int .i64 (.ofNat m)) (.int .i64 (.ofNat n))) (Q9n op m n)
    | y => Q45 E h op t xo yo (.int .i64 (.ofNat m)) y)
  | x => Q45 E h op t xo yo x y
def Qd6 (_E : Env) (g : Operand → Value) (_h : Hp) (x : Operand) : Option Value := some (g x)
def Q94 (_E : Env) (g : Operand → Value) (_h : Hp) (x : Operand) : Option Value := some (g x)
def Qd5 (_E : Env) (g : Operand → Value) (_h : Hp) (c a b : Operand) : Option Value := (match g c with | .bool t => some (cond t (g a) (g b)) | _ => none)
def Qb4 (E : Env) (g : Operand → Value) (_h : Hp) (t : TypeId) (ps : Array (Nat × Operand)) : Option Value := (match E.zero t, E.und t with
    | some z, some (.struct fs) =>
      (match fs.toList.mapM (fun f => (E.size f.type).map fun n => (f.offset, n)) with
       | some pl => (match Instr.fill (fun i => pl[i]?) z.cells (ps.toList.map fun (i, x) => (i, g x)) with
         | some cs => some (.agg cs)
         | none => none)
       | none => none)
    | some z, some (.array _ e) => (match E.size e with
      | some n => (match Instr.fill (fun i => some (i * n, n)) z.cells (ps.toList.map fun (i, x) => (i, g x)) with
        | some cs => some (.agg cs)
        | none => none)
      | none => none)
    | _, _ => none)
def Q5T (E : Env) (g : Operand → Value) (h : Hp) (t : TypeId) (a : Operand) : Option Value := (match g a with
    | .pointer (some a) => Q9v E t a h
    | _ => none)
def Q5R (_E : Env) (g : Operand → Value) (_h : Hp) (x : Operand) : Option Value := (match g x with
    | .pointer (some a) => some (.pointer (some a))
    | .func (.func f) a b => some (.func (.func f) a b)
    | .func (.yield f) a b => some (.func (.yield f) a b)
    | .iface t v => some (.iface t v)
    | _ => none)
def Qb5 (E : Env) (g : Operand → Value) (h : Hp) (op : BinOp) (t : TypeId) (x y : Operand) : Option Value := binQ E h op t x y (g x) (g y)
def Qd4 (_E : Env) (g : Operand → Value) (_h : Hp) (op : UnOp) (x : Operand) : Option Value := unX op (g x)
def Q7K (E : Env) (g : Operand → Value) (h : Hp) (s d : TypeId) (x : Operand) : Option Value := KQ E h s d (g x)
def Q1i (E : Env) (g : Operand → Value) (_h : Hp) (t : TypeId) (x : Operand) : Option Value := (match E.und t with
    | some (.interface _) => none
    | some _ => some (.iface t (g x))
    | none => none)
def Q5S (_E : Env) (g : Operand → Value) (_h : Hp) (fn : Fn) (a b : Array Operand) : Option Value := (match fn with
    | .yield _ => none
    | fn => some (.func fn (a.map g) (b.map g)))
def Qb1 (E : Env) (g : Operand → Value) (h : Hp) (t : TypeId) (x : Operand) (lo hi mx : Option Operand) : Option Value := Zk E h t (g x) (lo.map g) (hi.map g) (mx.map g)
def Q4B (E : Env) (g : Operand → Value) (_h : Hp) (t : TypeId) (x : Operand) (i : Nat) : Option Value := Y9 E t (g x) i
def Qb3 (E : Env) (g : Operand → Value) (_h : Hp) (t : TypeId) (x : Operand) (i : Nat) : Option Value := Q5h E t (g x) i
def Q4A (E : Env) (g : Operand → Value) (_h : Hp) (t : TypeId) (x i : Operand) : Option Value := Y7 E t (g x) (g i)
def Qb2 (E : Env) (g : Operand → Value) (_h : Hp) (t : TypeId) (x i : Operand) : Option Value := Q55 E t (g x) (g i)
def Q93 (E : Env) (g : Operand → Value) (h : Hp) (t : TypeId) (m k : Operand) (ok : Bool) : Option Value := KJ E h t (g m) (g k) ok
def Q3o (E : Env) (g : Operand → Value) (_h : Hp) (x : Operand) (t a : TypeId) (ok : Bool) : Option Value := KA E (g x) t a ok
def Q7J (_E : Env) (g : Operand → Value) (_h : Hp) (x : Operand) (i : Nat) : Option Value := (match g x with | .tuple vs => vs[i]? | _ => none)
def Qd7 (E : Env) (g : Operand → Value) (h : Hp) (b : Builtin) (args : Array Operand) (argTypes : Array TypeId) : Option Value := (match b, argTypes[0]?, (args.toList.map g) with
    | .len, some t, x :: _ => Qax E h t x
    | .max, _, x :: l => Q3R Qbq x l
    | .min, _, x :: l => Q3R Qbp x l
    | _, _, _ => none)
def readG (E : Env) (g : Operand → Value) (o : Oper) (h : Hp) : Option Value :=
  match o.op with
  | .move x => Qd6 E g h x
  | .assign x => Q94 E g h x
  | .pick c a b => Qd5 E g h c a b
  | .build t ps => Qb4 E g h t ps
  | .load t a => Q5T E g h t a
  | .nilCheck x => Q5R E g h x
  | .binOp op t x y _ => Qb5 E g h op t x y
  | .unOp op _ x => Qd4 E g h op x
  | .convert s d x => Q7K E g h s d x
  | .makeInterface t x => Q1i E g h t x
  | .makeFunc fn a b => Q5S E g h fn a b
  | .slice t x lo hi mx => Qb1 E g h t x lo hi mx
  | .fieldAddr t x i => Q4B E g h t x i
  | .field t x i => Qb3 E g h t x i
  | .indexAddr t x i => Q4A E g h t x i
  | .index t x i => Qb2 E g h t x i
  | .lookup t m k ok => Q93 E g h t m k ok
  | .typeAssert x t a ok => Q3o E g h x t a ok
  | .extract x i => Q7J E g h x i
  | .call { callee := .builtin b, args, argTypes } => Qd7 E g h b args argTypes
  | _ => none
def Qc7 (E : Env) (_g : Operand → Value) (e : TypeId) : Option (AObj × (Nat → Value)) := (match E.zero e with
    | some z => some (ZH z.cells e, ptrTo)
    | none => none)
def ag_box (_E : Env) (g : Operand → Value) (e : TypeId) (x : Operand) : Option (AObj × (Nat → Value)) := some (ZH (g x).cells e, ptrTo)
def Q49 (E : Env) (g : Operand → Value) (t : TypeId) (n : Nat) (ps : Array (Nat × Operand)) : Option (AObj × (Nat → Value)) := (match E.und t with
    | some (.slice e) => (match E.size e, E.zero e with
      | some (z + 1), some zv => cond (Nat.ble (n * (z + 1)) (2 ^ 24) && Nat.beq zv.cells.size (z + 1))
          (match Instr.fill (fun i => some (i * (z + 1), z + 1)) (Qk zv.cells.toList n).toArray (ps.toList.map fun (i, x) => (i, g x)) with
           | some cs => some (ZH cs e, fun i => .slice (some ⟨i, 0, none⟩) n n)
           | none => none) none
      | _, _ => none)
    | _ => none)
def Q8h (E : Env) (g : Operand → Value) (t : TypeId) (r : Option Operand) : Option (AObj × (Nat → Value)) := (match r, E.und t with
    | none, _ => some (.map [] 0, fun i => .map (some i))
    | some r, some (.map _ _) => (match g r with
      | .int _ _ => some (.map [] 0, fun i => .map (some i))
      | _ => none)
    | _, _ => none)
def Q5x (E : Env) (g : Operand → Value) (t : TypeId) (l c : Operand) : Option (AObj × (Nat → Value)) := (match E.und t, KI (g l), KI (g c) with
    | some (.slice e), some l, some c => (match E.size e, E.zero e, E.bytes e with
      | some (z + 1), some zv, some by' => cond (Nat.ble l c && Nat.ble c (2 ^ 40) && Nat.ble (by' * c) (2 ^ 47) && Nat.beq zv.cells.size (z + 1))
          (some (ZH (Qk zv.cells.toList c).toArray e, fun i => .slice (some ⟨i, 0, none⟩) l c)) none
      | _, _, _ => none)
    | _, _, _ => none)
def Q6s (E : Env) (g : Operand → Value) (t : TypeId) (x : Operand) : Option (AObj × (Nat → Value)) := (match E.und t, KI (g x) with
    | some (.chan _ e), some n => (match E.bytes e with
      | some by' => cond (Nat.ble n 1000000 && Nat.ble (by' * n) 1000000) (some (.chan n [] 0 0, fun i => .chan (some (i + 1)))) none
      | none => none)
    | _, _ => none)
def Qcv (E : Env) (g : Operand → Value) (o : Oper) : Option (AObj × (Nat → Value)) :=
  match o.op with
  | .alloc e => Qc7 E g e
  | .box e x => ag_box E g e x
  | .buildSlice t n ps => Q49 E g t n ps
  | .makeMap t r => Q8h E g t r
  | .makeSlice t l c => Q5x E g t l c
  | .makeChan t x => Q6s E g t x
  | _ => none
theorem Qar (E : Env) (tm : Tr Value) (o : Oper) : Qcv E (ev tm) o = allocX E tm o := rfl
inductive As where
  | nil
  | cons (i : Nat) (v : Value) (r : As)
def As.get (a : As) (t : Nat) : Option Value := As.rec (motive := fun _ => Option Value) none (fun i v _ ih => cond (Nat.beq i t) (some v) ih) a
def As.on (a : As) (tm : Tr Value) : Tr Value := As.rec (motive := fun _ => Tr Value) tm (fun i v _ ih => ih.set (i + 1) i v) a
def getQ (a : As) (tm : Tr Value) (t : Nat) : Option Value := match a.get t with
  | some v => some v
  | none => tm.get t
structure Fn1 where
  f : As → Tr Value → Value
structure FnO where
  f : As → Tr Value → Hp → Option (Value × Hp)
structure FnW where
  f : As → Tr Value → Option Bool
structure FnC where
  f : As → Tr Value → List It → Option (List It)
def valQ (a : As) (tm : Tr Value) (t : Nat) : Value :=
  As.rec (motive := fun _ => Value) (Option.rec (motive := fun _ => Value) undef (fun v => v) (tm.get t)) (fun i v _ ih => Bool.rec (motive := fun _ => Value) ih v (Nat.beq i t)) a
def opdF (x : Operand) : Fn1 :=
  match x with
  | .tmp t => ⟨fun a tm => valQ a tm t⟩
  | .const v => ⟨fun _ _ => v⟩
  | .global g => ⟨fun _ _ => .pointer (some ⟨g, 0, none⟩)⟩
  | .func f => ⟨fun _ _ => .func (.func f) #[] #[]⟩
def opd (x : Operand) (a : As) (tm : Tr Value) : Value := Fn1.rec (motive := fun _ => Value) (fun f => f a tm) (opdF x)
def evQ (a : As) (tm : Tr Value) (x : Operand) : Value := opd x a tm
def Qaw (nt : Nat) (a : As) (d : Option Nat) (v : Value) : As :=
  match d with
  | none => a
  | some d => cond (Nat.blt d nt) (.cons d v a) a
def opQ (E : Env) (g : Operand → Value) (o : Oper) (h : Hp) : Option (Value × Hp) :=
  match cls E o with
  | 0 => (match readG E g o h with
    | some v => some (v, h)
    | none => none)
  | 1 => (match Qcv E g o with
    | some (b, f) => some (f h.n, h.alloc b)
    | none => none)
  | _ => none
def both (v : Option Value) (h : Hp) : Option (Value × Hp) := match v with
  | some v => some (v, h)
  | none => none
def opF (E : Env) (wr : Bool) (o : Oper) : FnO :=
  match o.op with
  | .move x => ⟨fun a tm h => some (opd x a tm, h)⟩
  | .assign x => ⟨fun a tm h => some (opd x a tm, h)⟩
  | .load t x => ⟨fun a tm h => (match opd x a tm with
    | .pointer (some p) => both (Q9v E t p h) h
    | _ => none)⟩
  | .binOp op t x y _ => ⟨fun a tm h => both (binQ E h op t x y (opd x a tm) (opd y a tm)) h⟩
  | .fieldAddr t x i => ⟨fun a tm h => both (Y9 E t (opd x a tm) i) h⟩
  | .indexAddr t x i => ⟨fun a tm h => both (Y7 E t (opd x a tm) (opd i a tm)) h⟩
  | .pick c x y => ⟨fun a tm h => (match opd c a tm with
    | .bool t => some (cond t (opd x a tm) (opd y a tm), h)
    | _ => none)⟩
  | .store t x y => cond wr ⟨fun a tm h => (match opd x a tm with
    | .pointer (some p) => (match Q6A E t p (opd y a tm) h with
      | some h' => some (undef, h')
      | none => none)
    | _ => none)⟩ ⟨fun _ _ _ => none⟩
  | _ => ⟨fun a tm h => opQ E (evQ a tm) o h⟩
def opC (E : Env) (wr : Bool) (o : Oper) (a : As) (tm : Tr Value) (h : Hp) : Option (Value × Hp) := FnO.rec (motive := fun _ => Option (Value × Hp)) (fun f => f a tm h) (opF E wr o)
def nthO (n : Nat) : List Oper → Option Oper :=
  Nat.rec (motive := fun _ => List Oper → Option Oper) (fun l => List.rec (motive := fun _ => Option Oper) none (fun o _ _ => some o) l) (fun _ ih l => List.rec (motive := fun _ => Option Oper) none (fun _ t _ => ih t) l) n
def wantF (ops : Array Oper) (o : Oper) : FnW :=
  match o.guard with
  | none => ⟨fun _ _ => some true⟩
  | some (g, want) => (match nthO g ops.toList with
    | some og => (match og.dst with
      | some d => ⟨fun a tm => (match getQ a tm d with
        | some (.bool b) => some (b == want)
        | some (.tuple _) => some false
        | _ => none)⟩
      | none => ⟨fun _ _ => none⟩)
    | none => ⟨fun _ _ => none⟩)
def QaE (ops : Array Oper) (o : Oper) (a : As) (tm : Tr Value) : Option Bool := FnW.rec (motive := fun _ => Option Bool) (fun f => f a tm) (wantF ops o)
structure Ci where
  want : As → Tr Value → Option Bool
  run : As → Tr Value → Hp → Option (Value × Hp)
  dst : Option Nat
def ci (E : Env) (wr : Bool) (ops : Array Oper) (i : Nat) : Ci :=
  match nthO i ops.toList with
  | none => ⟨fun _ _ => none, fun _ _ _ => none, none⟩
  | some o => ⟨QaE ops o, opC E wr o, o.dst⟩
structure Rq where
  rest : List Nat
  a : As
  h : Hp
def Q5W (E : Env) (wr : Bool) (ops : Array Oper) (nt : Nat) (tm : Tr Value) (l : List Nat) : As → Hp → Rq :=
  List.rec (motive := fun _ => As → Hp → Rq) (fun a h => ⟨[], a, h⟩) (fun i rest ih a h =>
    match ci E wr ops i with
    | ⟨w, r, d⟩ => (match w a tm with
      | none => ⟨i :: rest, a, h⟩
      | some false => ih (Qaw nt a d undef) h
      | some true => (match r a tm h with
        | some (v, h') => ih (Qaw nt a d v) h'
        | none => ⟨i :: rest, a, h⟩))) l
structure Fq where
  todo : List It
  a : As
  h : Hp
def codeF (E : Env) (c : Code) : FnC :=
  match c with
  | .skip => ⟨fun _ _ k => some k⟩
  | .label _ => ⟨fun _ _ k => some k⟩
  | .seq a b => ⟨fun _ _ k => some (.code a :: .code b :: k)⟩
  | .cond c x y => ⟨fun a tm k => (match opd c a tm with
    | .bool t => some (.code (cond t x y) :: k)
    | _ => none)⟩
  | .block id b => ⟨fun _ _ k => some (.code b :: .inBlock id :: k)⟩
  | .loop b => ⟨fun _ _ k => some (.code b :: .inLoop b :: k)⟩
  | .exit id => ⟨fun _ _ k => ZD id k⟩
  | .region _ ops draw => cond (QW ops) (cond draw
      (cond (regionF E ops) ⟨fun _ _ k => some (.draw ops (Q7n E ops) :: k)⟩ ⟨fun _ _ _ => none⟩)
      ⟨fun _ _ k => some (.inRegion ops (List.range ops.size) :: k)⟩) ⟨fun _ _ _ => none⟩
  | _ => ⟨fun _ _ _ => none⟩
def Q8d (E : Env) (c : Code) (a : As) (tm : Tr Value) (k : List It) : Option (List It) := FnC.rec (motive := fun _ => Option (List It)) (fun f => f a tm k) (codeF E c)
def K6 (E : Env) (nt : Nat) (tm : Tr Value) (n : Nat) : List It → As → Hp → Fq :=
  Nat.rec (motive := fun _ => List It → As → Hp → Fq) (fun l a h => ⟨l, a, h⟩) (fun _ ih l a h =>
    match l with
    | [] => ⟨[], a, h⟩
    | i :: k => (match i with
      | .code c => (match Q8d E c a tm k with
        | some k' => ih k' a h
        | none => ⟨.code c :: k, a, h⟩)
      | .inBlock _ => ih k a h
      | .inLoop b => ih (.code b :: .inLoop b :: k) a h
      | .inRegion ops l => (match Q5W E true ops nt tm l a h with
        | ⟨[], a, h⟩ => ih k a h
        | ⟨i :: rest, a, h⟩ => ⟨.inRegion ops (i :: rest) :: k, a, h⟩)
      | .draw ops l => (match Q5W E false ops nt tm l a h with
        | ⟨[], a, h⟩ => ih k a h
        | ⟨i :: rest, a, h⟩ => ⟨.draw ops (i :: rest) :: k, a, h⟩)
      | i => ⟨i :: k, a, h⟩)) n
def Jr (E : Env) (a : As) (tm : Tr Value) (h : Hp) : List ResultVar → Option (List Value)
  | [] => some []
  | .tmp t :: l => (match Jr E a tm h l with
    | some r => some (opd (.tmp t) a tm :: r)
    | none => none)
  | .cell x t :: l => (match opd (.tmp x) a tm with
    | .pointer (some p) => (match KL E t p h, Jr E a tm h l with
      | some v, some r => some (v :: r)
      | _, _ => none)
    | _ => none)
def retQ (E : Env) (fn : FuncId) (a : As) (tm : Tr Value) (df : List Deferred) (kd : CallKind) (ro : Option Nat) (cs : List Fr) (h : Hp) (other : Option St) : Option St :=
  match ro with
  | some _ => other
  | none => (match df with
    | _ :: _ => other
    | [] => (match cs with
      | [] => other
      | c :: r => (match E.fn fn with
        | some f => (match Jr E a tm h f.results.toList with
          | some vs => Yn E kd (c :: r) h (oneOf vs)
          | none => none)
        | none => none)))
def Q8G (E : Env) (s : St) : Option St :=
  match s with
  | ⟨⟨fn, nt, tm, todo, df, md, kd, ro⟩, cs, h⟩ => (match md with
    | .run => (match K6 E nt tm 60 todo .nil h with
      | ⟨todo', a, h'⟩ => (match todo' with
        | [] => retQ E fn a tm df kd ro cs h' (QF E fn nt (a.on tm) [] df kd ro cs h')
        | i :: k => (match i with
          | .code c => (match c with
            | .ret => retQ E fn a tm df kd ro cs h' (QF E fn nt (a.on tm) (.code .ret :: k) df kd ro cs h')
            | c => QF E fn nt (a.on tm) (.code c :: k) df kd ro cs h')
          | i => QF E fn nt (a.on tm) (i :: k) df kd ro cs h')))
    | md => JJ E fn nt tm todo df md kd ro cs h)
def runQ (E : Env) (n : Nat) : St → St :=
  Nat.rec (motive := fun _ => St → St) (fun s => s) (fun _ ih s => (match Q8G E s with
    | some s' => ih s'
    | none => s)) n
def nthG {α : Type} (n : Nat) : List α → Option α :=
  Nat.rec (motive := fun _ => List α → Option α) (fun l => List.rec (motive := fun _ => Option α) none (fun o _ _ => some o) l) (fun _ ih l => List.rec (motive := fun _ => Option α) none (fun _ t _ => ih t) l) n
theorem Q63 {α : Type} : ∀ (n : Nat) (l : List α), nthG n l = l[n]?
  | 0, [] => rfl
  | 0, _ :: _ => rfl
  | _ + 1, [] => rfl
  | n + 1, _ :: l => Q63 n l
def QbS (P : Program) : Env :=
  { envOf P with
    ty := fun t => nthG t P.types.toList, fn := fun f => nthG f P.funcs.toList
    hty := fun t i h => tyOk P t i (by rw [Q63] at h; simpa using h)
    hfn := fun f i h => by show P.funcs[f]? = some i; rw [Q63] at h; simpa using h }
def Q8v (E : Env) (f : FuncId) (n : Nat) (h : Hp) : Bool :=
  match J0 E f [] h with
  | some s => (match Qa5 E f (runQ E n s) with
    | some (.bool b) => b
    | _ => false)
  | none => false
end
end Go.X
namespace Go.X
theorem Q3X : ∀ (n : Nat) (l : List Value), Qeh n l = l.drop n
  | 0, _ => rfl
  | _ + 1, [] => rfl
  | n + 1, _ :: l => Q3X n l
theorem Q6y : ∀ (n : Nat) (l : List Value), QcP n l = l.take n
  | 0, _ => rfl
  | _ + 1, [] => rfl
  | n + 1, v :: l => by show v :: QcP n l = _; rw [Q6y n l]; rfl
theorem Q3L : ∀ (n : Nat) (l : List Value), Qbr n l = Nat.ble n l.length
  | 0, _ => (Nat.ble_eq_true_of_le (Nat.zero_le _)).symm
  | _ + 1, [] => rfl
  | n + 1, _ :: l => by show Qbr n l = _; rw [Q3L n l]; rfl
theorem Qat (p : Value → Bool) : ∀ l : List Value, allQ p l = l.all p
  | [] => rfl
  | v :: l => by
    show cond (p v) (allQ p l) false = _; rw [Qat p l]; cases h : p v <;> simp [h]
theorem Q6X : ∀ (xs l : List Value), xs.length ≤ l.length → Qba xs l = xs ++ l.drop xs.length
  | [], _, _ => rfl
  | x :: xs, [], h => by simp at h
  | x :: xs, _ :: l, h => by
    show x :: Qba xs l = _; rw [Q6X xs l (by simpa using h)]; rfl
theorem Q4K : ∀ (n : Nat) (xs l : List Value), n + xs.length ≤ l.length → Q9b n xs l = l.take n ++ xs ++ l.drop (n + xs.length)
  | 0, xs, l, h => by
    show Qba xs l = _; rw [Q6X xs l (by omega)]; simp
  | n + 1, xs, [], h => by simp at h
  | n + 1, xs, v :: l, h => by
    show v :: Q9b n xs l = _; rw [Q4K n xs l (by simp at h; omega), show n + 1 + xs.length = (n + xs.length) + 1 by omega]; rfl
theorem Q3E : ∀ (n : Nat) (l : List Oper), nthO n l = l[n]?
  | 0, [] => rfl
  | 0, _ :: _ => rfl
  | _ + 1, [] => rfl
  | n + 1, _ :: l => Q3E n l
theorem Qd3 (h : Hp) (a : Addr) (n : Nat) : rowQ h a n = rowOf h a n := by
  obtain ⟨b, off, sp⟩ := a; cases sp with
  | some s => rfl
  | none =>
    simp only [rowQ, rowOf]; cases h.get b with
    | none => rfl
    | some o => cases o <;> first | rfl | (simp only [Q3L, Q6y, Q3X]; rfl)
theorem QbZ (h : Hp) (a : Addr) : Qek h a = (match rowOf h a 1 with | some [v] => some v | _ => none) := by
  obtain ⟨b, off, sp⟩ := a; cases sp with
  | some s => rfl
  | none =>
    simp only [Qek, rowOf]; cases h.get b with
    | none => rfl
    | some o =>
      cases o with
      | cells c e m =>
        simp only [Q3X]; cases hd : c.drop off with
        | nil =>
          have : c.length ≤ off := List.drop_eq_nil_iff.1 hd
          have hb : Nat.ble (off + 1) c.length = false := by
            cases hx : Nat.ble (off + 1) c.length with
            | false => rfl
            | true => have := Nat.le_of_ble_eq_true hx; omega
          rw [hb]; rfl
        | cons v t =>
          have hl : off < c.length := by
            rcases Nat.lt_or_ge off c.length with q | q
            · exact q
            rw [List.drop_eq_nil_iff.2 q] at hd; cases hd
          rw [show Nat.ble (off + 1) c.length = true from Nat.ble_eq_true_of_le hl]; rfl
      | _ => rfl
theorem Q76 (E : Env) (t : TypeId) (a : Addr) (h : Hp) : Q9v E t a h = KL E t a h := by
  unfold Q9v KL; cases E.und t with
  | none => rfl
  | some d =>
    simp only; cases Ki d with
    | true => simp only [Qd3]; rfl
    | false => simp only [QbZ]; rfl
theorem Q0Z (h : Hp) (a : Addr) (l : List Value) : Q03 h a l = Zj h a l := by
  obtain ⟨b, off, sp⟩ := a; cases sp with
  | some s => rfl
  | none =>
    simp only [Q03, Zj]; cases h.get b with
    | none => rfl
    | some o =>
      cases o with
      | cells c e m =>
        simp only [Q3L]; show cond (Nat.beq m 1) none (cond (Nat.ble (off + l.length) c.length) _ none) = _; cases Nat.beq m 1 with
        | true => rfl
        | false =>
          cases hb : Nat.ble (off + l.length) c.length with
          | false => rfl
          | true => simp only [cond_false, cond_true, Bool.not_false, Bool.and_self]; rw [Q4K _ _ _ (Nat.le_of_ble_eq_true hb)]
      | _ => rfl
theorem Q8E (E : Env) (t : TypeId) (a : Addr) (v : Value) (h : Hp) : Q6A E t a v h = Q02 E t a v h := by
  unfold Q6A Q02; cases E.size t with
  | none => rfl
  | some n =>
    simp only; cases v with
    | agg cs =>
      simp only [Value.cells, Qat, Q0Z]; show cond (Nat.beq cs.toList.length n) _ none = cond (Nat.beq cs.size n && _) _ none; rw [show cs.toList.length = cs.size by simp]; cases Nat.beq cs.size n <;> simp
    | _ =>
      simp only [Value.cells, Q0Z]; show cond (Nat.beq n 1) _ none = cond (Nat.beq 1 n && _) _ none; rw [show Nat.beq n 1 = Nat.beq 1 n by rw [Bool.eq_iff_iff, Nat.beq_eq, Nat.beq_eq]; exact eq_comm]; cases Nat.beq 1 n <;> simp [cellV]
theorem Q5Y (n : Nat) (h : n < 9223372036854775808) : posQ n = Yy .i64 (JX .i64 (.ofNat n)) := by
  have hb : Nat.blt n 9223372036854775808 = true := Nat.ble_eq_true_of_le h; simp only [posQ, Yy, Q0i, Q5c, JX, hb, cond_true]
theorem Q9m (op : BinOp) (m n : Nat) : Q9n op m n = Zv op .i64 (.ofNat m) (.ofNat n) := by
  have blt : ∀ a b : Nat, Nat.blt a b = decide (a < b) := fun a b => by
    rw [Bool.eq_iff_iff]; simp [Nat.blt, Nat.ble_eq]; omega
  cases op <;> simp only [Q9n, Zv]
  case add =>
    cases hb : Nat.blt (Nat.add m n) 9223372036854775808 with
    | false => rfl
    | true => rw [cond_true, Q5Y _ (Nat.le_of_ble_eq_true hb)]; rfl
  case mul =>
    cases hb : Nat.blt (Nat.mul m n) 9223372036854775808 with
    | false => rfl
    | true => rw [cond_true, Q5Y _ (Nat.le_of_ble_eq_true hb)]; rfl
  case sub =>
    cases h1 : Nat.ble n m with
    | false => rfl
    | true =>
      cases h2 : Nat.blt m 9223372036854775808 with
      | false => rfl
      | true =>
        have e1 := Nat.le_of_ble_eq_true h1; have e2 : m < 9223372036854775808 := Nat.le_of_ble_eq_true h2; rw [cond_true, cond_true, Q5Y _ (by show m - n < _; omega)]
        have : (Int.ofNat m - Int.ofNat n) = Int.ofNat (Nat.sub m n) := by
          show ((m : Int) - (n : Int)) = ((m - n : Nat) : Int); omega
        rw [this]
  case eql => congr 2; rw [Bool.eq_iff_iff, Nat.beq_eq, beq_iff_eq]; exact Int.ofNat_inj.symm
  case neq =>
    have : Nat.beq m n = (Int.ofNat m == Int.ofNat n) := by rw [Bool.eq_iff_iff, Nat.beq_eq, beq_iff_eq]; exact Int.ofNat_inj.symm
    rw [this]; rfl
  case lss => congr 2; rw [blt, decide_eq_decide]; exact Int.ofNat_lt.symm
  case leq => congr 2; rw [Bool.eq_iff_iff, Nat.ble_eq, decide_eq_true_iff]; exact Int.ofNat_le.symm
  case gtr => congr 2; rw [blt, decide_eq_decide]; exact Int.ofNat_lt.symm
  case geq => congr 2; rw [Bool.eq_iff_iff, Nat.ble_eq, decide_eq_true_iff]; exact Int.ofNat_le.symm
theorem Qap (E : Env) (h : Hp) (op : BinOp) (t : TypeId) (xo yo : Operand) (x y : Value) : binQ E h op t xo yo x y = Q45 E h op t xo yo x y := by
  unfold binQ
  split
  · split
    · rename_i m n; rw [Q9m]; cases hs : Ke op with
      | true => rfl
      | false => simp only [cond_false, Q45, hs, K5, cond_true]
    rfl
  rfl
theorem Qb8 (E : Env) (tm : Tr Value) (o : Oper) (h : Hp) : readG E (ev tm) o h = QL E tm o h := by
  obtain ⟨dst, op, ty, pos, af, gd⟩ := o; cases op with
  | load t a =>
    show Q5T E (ev tm) h t a = (match ev tm a with | .pointer (some a) => KL E t a h | _ => none); unfold Q5T; simp only [Q76]
    all_goals rfl
  | binOp op t x y ty => exact Qap _ _ _ _ _ _ _ _
  | call c =>
    obtain ⟨callee, args, ts⟩ := c; cases callee <;> rfl
  | _ => rfl
theorem Q9Q (tm : Tr Value) : ∀ (a : As) (t : Nat), (a.on tm).get t = getQ a tm t
  | .nil, _ => rfl
  | .cons i v r, t => by
    show ((r.on tm).set (i + 1) i v).get t = _; rw [Jb _ _ _ _ _ (Nat.lt_succ_self i), Q9Q tm r t]; show _ = (match cond (Nat.beq i t) (some v) (r.get t) with | some v => some v | none => tm.get t); by_cases e : i = t
    · subst e; rw [if_pos rfl, Nat.beq_refl]; rfl
    rw [if_neg e]
    have : Nat.beq i t = false := by
      cases hb : Nat.beq i t with
      | false => rfl
      | true => exact absurd (Nat.eq_of_beq_eq_true hb) e
    rw [this]; rfl
theorem Q8t (tm : Tr Value) (t : Nat) : ∀ a : As, valQ a tm t = (match getQ a tm t with | some v => v | none => undef)
  | .nil => by
    show (Option.rec (motive := fun _ => Value) undef (fun v => v) (tm.get t) : Value) = (match tm.get t with | some v => v | none => undef); cases tm.get t <;> rfl
  | .cons i v r => by
    have e1 : valQ (.cons i v r) tm t = (Bool.rec (motive := fun _ => Value) (valQ r tm t) v (Nat.beq i t) : Value) := rfl; have e2 : getQ (.cons i v r) tm t = (match cond (Nat.beq i t) (some v) (r.get t) with | some v => some v | none => tm.get t) := rfl; rw [e1, e2, Q8t tm t r]; cases Nat.beq i t <;> rfl
theorem Yj (x : Operand) (a : As) (tm : Tr Value) : opd x a tm = ev (a.on tm) x := by
  cases x with
  | tmp t =>
    show valQ a tm t = _; rw [Q8t]; simp only [ev, Q9Q]; rfl
  | _ => rfl
theorem evQ_eq (a : As) (tm : Tr Value) : evQ a tm = ev (a.on tm) := funext fun x => Yj x a tm
theorem Q3w (nt : Nat) (a : As) (tm : Tr Value) (d : Option Nat) (v : Value) : (Qaw nt a d v).on tm = Q0B nt (a.on tm) d v := by
  cases d with
  | none => rfl
  | some d =>
    simp only [Qaw, Q0B, Qes]; cases Nat.blt d nt <;> rfl
theorem Q8s (ops : Array Oper) (o : Oper) (a : As) (tm : Tr Value) : QaE ops o a tm = QE ops (a.on tm) o := by
  unfold QaE wantF QE; cases o.guard with
  | none => rfl
  | some gw =>
    obtain ⟨g, want⟩ := gw; simp only [Q3E, show ops.toList[g]? = ops[g]? by simp]; cases ops[g]? with
    | none => rfl
    | some og =>
      simp only; cases og.dst with
      | none => rfl
      | some d => simp only [Q9Q]; rfl
theorem Q6Z (E : Env) {wr : Bool} {o : Oper} {a : As} {tm : Tr Value} {h h' : Hp} {v : Value} (e : opC E wr o a tm h = some (v, h')) :
    (cls E o = 0 ∧ QL E (a.on tm) o h = some v ∧ h' = h) ∨ (cls E o = 1 ∧ ∃ b f, allocX E (a.on tm) o = some (b, f) ∧ v = f h.n ∧ h' = h.alloc b) ∨
      (wr = true ∧ cls E o = 2 ∧ Zs E (a.on tm) o h = some (.skip h') ∧ v = undef) := by
  have gen : opQ E (evQ a tm) o h = some (v, h') → (cls E o = 0 ∧ QL E (a.on tm) o h = some v ∧ h' = h) ∨ (cls E o = 1 ∧ ∃ b f, allocX E (a.on tm) o = some (b, f) ∧ v = f h.n ∧ h' = h.alloc b) := by
    intro e; rw [evQ_eq] at e; unfold opQ at e
    split at e
    · rename_i hc; rw [Qb8] at e
      split at e
      · rename_i hv; cases e; exact .inl ⟨hc, hv, rfl⟩
      cases e
    · rename_i hc; rw [Qar] at e
      split at e
      · rename_i hv; cases e; exact .inr ⟨hc, _, _, hv, rfl, rfl⟩
      cases e
    cases e
  have rd : ∀ {u : Option Value}, cls E o = 0 → QL E (a.on tm) o h = u → both u h = some (v, h') → (cls E o = 0 ∧ QL E (a.on tm) o h = some v ∧ h' = h) := by
    intro u hc hu e; cases u with
    | none => cases e
    | some u => cases e; exact ⟨hc, hu, rfl⟩
  obtain ⟨dst, op, ty, pos, af, gd⟩ := o; cases op with
  | move x =>
    have e : some (opd x a tm, h) = some (v, h') := e; rw [Yj] at e; cases e; exact .inl ⟨rfl, rfl, rfl⟩
  | assign x =>
    have e : some (opd x a tm, h) = some (v, h') := e; rw [Yj] at e; cases e; exact .inl ⟨rfl, rfl, rfl⟩
  | load t x =>
    have e : (match opd x a tm with | .pointer (some p) => both (Q9v E t p h) h | _ => none) = some (v, h') := e; rw [Yj] at e; refine .inl ?_
    split at e
    · rename_i p hp; rw [Q76] at e; exact rd rfl (by simp only [QL, hp]) e
    cases e
  | binOp op t x y _ =>
    have e : both (binQ E h op t x y (opd x a tm) (opd y a tm)) h = some (v, h') := e; rw [Yj, Yj, Qap] at e; exact .inl (rd rfl rfl e)
  | fieldAddr t x i =>
    have e : both (Y9 E t (opd x a tm) i) h = some (v, h') := e; rw [Yj] at e; exact .inl (rd rfl rfl e)
  | indexAddr t x i =>
    have e : both (Y7 E t (opd x a tm) (opd i a tm)) h = some (v, h') := e; rw [Yj, Yj] at e; exact .inl (rd rfl rfl e)
  | pick c x y =>
    have e : (match opd c a tm with | .bool t => some (cond t (opd x a tm) (opd y a tm), h) | _ => none) = some (v, h') := e; rw [Yj, Yj, Yj] at e; refine .inl ?_
    split at e
    · rename_i t hc; cases e; exact ⟨rfl, by simp only [QL, hc], rfl⟩
    cases e
  | store t x y =>
    cases wr with
    | false => cases (show (none : Option (Value × Hp)) = some (v, h') from e)
    | true =>
      have e : (match opd x a tm with
        | .pointer (some p) => (match Q6A E t p (opd y a tm) h with
          | some h' => some (undef, h')
          | none => none)
        | _ => none) = some (v, h') := e
      rw [Yj, Yj] at e
      split at e
      · rename_i p hp; rw [Q8E] at e
        split at e
        · rename_i h2 hs; cases e; exact .inr (.inr ⟨rfl, rfl, by simp only [Zs, hp, hs], rfl⟩)
        cases e
      cases e
  | _ => exact (gen e).elim .inl fun q => .inr (.inl q)
section
variable {E : Env} {fn : FuncId} {nt : Nat} {tm : Tr Value} {df : List Deferred} {kd : CallKind} {ro : Option Nat} {cs : List Fr} {k : List It} {ops : Array Oper}
theorem Qae {wr : Bool} {i : Nat} {o : Oper} (ho : ops[i]? = some o) : ci E wr ops i = ⟨QaE ops o, opC E wr o, o.dst⟩ := by
  unfold ci; rw [Q3E, show ops.toList[i]? = ops[i]? by simp, ho]
theorem Qaf {wr : Bool} {i : Nat} (ho : ops[i]? = none) : ci E wr ops i = ⟨fun _ _ => none, fun _ _ _ => none, none⟩ := by
  unfold ci; rw [Q3E, show ops.toList[i]? = ops[i]? by simp, ho]
theorem Q4E {wr : Bool} {i : Nat} {l : List Nat} {a : As} {h : Hp} : Q5W E wr ops nt tm (i :: l) a h = (match ci E wr ops i with
    | ⟨w, r, d⟩ => (match w a tm with
      | none => ⟨i :: l, a, h⟩
      | some false => Q5W E wr ops nt tm l (Qaw nt a d undef) h
      | some true => (match r a tm h with
        | some (v, h') => Q5W E wr ops nt tm l (Qaw nt a d v) h'
        | none => ⟨i :: l, a, h⟩))) := rfl
theorem Q3s : ∀ (l : List Nat) (a : As) (h : Hp), Runs E ⟨⟨fn, nt, a.on tm, .inRegion ops l :: k, df, .run, kd, ro⟩, cs, h⟩
    ⟨⟨fn, nt, (Q5W E true ops nt tm l a h).a.on tm, .inRegion ops (Q5W E true ops nt tm l a h).rest :: k, df, .run, kd, ro⟩, cs, (Q5W E true ops nt tm l a h).h⟩
  | [], a, h => .refl _ _
  | i :: l, a, h => by
    rw [Q4E]; cases ho : ops[i]? with
    | none => rw [Qaf ho]; exact .refl _ _
    | some o =>
      rw [Qae ho]; simp only [Q8s]; cases hw : QE ops (a.on tm) o with
      | none => exact .refl _ _
      | some b =>
        cases b with
        | false =>
          refine Runs.step ?_ (Q3s l (Qaw nt a o.dst undef) h); simp only [stepX, QF, ho, hw, Q3w]
        | true =>
          simp only; cases he : opC E true o a tm h with
          | none => exact .refl _ _
          | some r =>
            obtain ⟨v, h'⟩ := r; refine Runs.step ?_ (Q3s l (Qaw nt a o.dst v) h'); rw [Q3w]; rcases Q6Z E he with ⟨hc, hv, rfl⟩ | ⟨hc, b, f, hv, rfl, rfl⟩ | ⟨_, hc, hv, rfl⟩
            · simp only [stepX, QF, ho, hw, Q3A, hc, hv, ZV, QT]
            · simp only [stepX, QF, ho, hw, Q3A, hc, hv, ZV, QT]
            simp only [stepX, QF, ho, hw, Q3A, hc, hv, ZV, QT]
theorem Q2i : ∀ (l : List Nat) (a : As) (h : Hp), Runs E ⟨⟨fn, nt, a.on tm, .draw ops l :: k, df, .run, kd, ro⟩, cs, h⟩
    ⟨⟨fn, nt, (Q5W E false ops nt tm l a h).a.on tm, .draw ops (Q5W E false ops nt tm l a h).rest :: k, df, .run, kd, ro⟩, cs, (Q5W E false ops nt tm l a h).h⟩
  | [], a, h => .refl _ _
  | i :: l, a, h => by
    rw [Q4E]; cases ho : ops[i]? with
    | none => rw [Qaf ho]; exact .refl _ _
    | some o =>
      rw [Qae ho]; simp only [Q8s]; cases hw : QE ops (a.on tm) o with
      | none => exact .refl _ _
      | some b =>
        cases b with
        | false =>
          refine Runs.step ?_ (Q2i l (Qaw nt a o.dst undef) h); simp only [stepX, QF, Q3Y, ho, hw, Q3w]
        | true =>
          simp only; cases he : opC E false o a tm h with
          | none => exact .refl _ _
          | some r =>
            obtain ⟨v, h'⟩ := r; refine Runs.step ?_ (Q2i l (Qaw nt a o.dst v) h'); rw [Q3w]; rcases Q6Z E he with ⟨hc, hv, rfl⟩ | ⟨hc, b, f, hv, rfl, rfl⟩ | ⟨hf, _⟩
            · simp only [stepX, QF, Q3Y, ho, hw, hc, hv]
            · simp only [stepX, QF, Q3Y, ho, hw, hc, hv]
            cases hf
theorem Qac {c : Code} {a : As} {h : Hp} {k' : List It} (e : Q8d E c a tm k = some k') :
    stepX E ⟨⟨fn, nt, a.on tm, .code c :: k, df, .run, kd, ro⟩, cs, h⟩ = some ⟨⟨fn, nt, a.on tm, k', df, .run, kd, ro⟩, cs, h⟩ := by
  cases c with
  | skip => cases (show some k = some k' from e); rfl
  | label _ => cases (show some k = some k' from e); rfl
  | seq x y => cases (show some (.code x :: .code y :: k) = some k' from e); rfl
  | cond c x y =>
    have e : (match opd c a tm with | .bool t => some (.code (cond t x y) :: k) | _ => none) = some k' := e; rw [Yj] at e
    split at e
    · rename_i hc; cases e; simp only [stepX, QF, hc]
    cases e
  | block id b => cases (show some (.code b :: .inBlock id :: k) = some k' from e); rfl
  | loop b => cases (show some (.code b :: .inLoop b :: k) = some k' from e); rfl
  | exit id =>
    have e : ZD id k = some k' := e; simp only [stepX, QF, e]
  | region id ops dr =>
    simp only [Q8d, codeF] at e; cases h1 : QW ops with
    | false => rw [h1] at e; cases (show (none : Option (List It)) = some k' from e)
    | true =>
      rw [h1, cond_true] at e; cases dr with
      | false => cases (show some (.inRegion ops (List.range ops.size) :: k) = some k' from e); simp only [stepX, QF, h1, cond_true, cond_false]
      | true =>
        rw [cond_true] at e; cases h2 : regionF E ops with
        | false => rw [h2] at e; cases (show (none : Option (List It)) = some k' from e)
        | true =>
          rw [h2, cond_true, Q5t] at e; cases (show some (.draw ops (canon E ops) :: k) = some k' from e); simp only [stepX, QF, h1, Q7O h2, cond_true]
  | _ => cases (show (none : Option (List It)) = some k' from e)
theorem YF : ∀ (n : Nat) (l : List It) (a : As) (h : Hp), Runs E ⟨⟨fn, nt, a.on tm, l, df, .run, kd, ro⟩, cs, h⟩
    ⟨⟨fn, nt, (K6 E nt tm n l a h).a.on tm, (K6 E nt tm n l a h).todo, df, .run, kd, ro⟩, cs, (K6 E nt tm n l a h).h⟩
  | 0, _, _, _ => .refl _ _
  | n + 1, [], _, _ => .refl _ _
  | n + 1, i :: k, a, h => by
    cases i with
    | code c =>
      cases e : Q8d E c a tm k with
      | none =>
        have : K6 E nt tm (n + 1) (.code c :: k) a h = ⟨.code c :: k, a, h⟩ := by
          show (match Q8d E c a tm k with | some k' => K6 E nt tm n k' a h | none => ⟨.code c :: k, a, h⟩ : Fq) = _; rw [e]
        rw [this]; exact .refl _ _
      | some k' =>
        have : K6 E nt tm (n + 1) (.code c :: k) a h = K6 E nt tm n k' a h := by
          show (match Q8d E c a tm k with | some k' => K6 E nt tm n k' a h | none => ⟨.code c :: k, a, h⟩ : Fq) = _; rw [e]
        rw [this]; exact Runs.step (Qac e) (YF n k' a h)
    | inBlock _ => exact Runs.step rfl (YF n k a h)
    | inLoop b => exact Runs.step rfl (YF n (.code b :: .inLoop b :: k) a h)
    | inRegion ops l =>
      have hr := Q3s (E := E) (fn := fn) (nt := nt) (tm := tm) (df := df) (kd := kd) (ro := ro) (cs := cs) (k := k) (ops := ops) l a h
      have hq : K6 E nt tm (n + 1) (.inRegion ops l :: k) a h = (match Q5W E true ops nt tm l a h with
        | ⟨[], a, h⟩ => K6 E nt tm n k a h
        | ⟨i :: rest, a, h⟩ => ⟨.inRegion ops (i :: rest) :: k, a, h⟩) := rfl
      rw [hq]; generalize Q5W E true ops nt tm l a h = r at hr; obtain ⟨rest, a', h'⟩ := r; cases rest with
      | nil => exact hr.trans (Runs.step rfl (YF n k a' h'))
      | cons i rest => exact hr
    | draw ops l =>
      have hr := Q2i (E := E) (fn := fn) (nt := nt) (tm := tm) (df := df) (kd := kd) (ro := ro) (cs := cs) (k := k) (ops := ops) l a h
      have hq : K6 E nt tm (n + 1) (.draw ops l :: k) a h = (match Q5W E false ops nt tm l a h with
        | ⟨[], a, h⟩ => K6 E nt tm n k a h
        | ⟨i :: rest, a, h⟩ => ⟨.draw ops (i :: rest) :: k, a, h⟩) := rfl
      rw [hq]; generalize Q5W E false ops nt tm l a h = r at hr; obtain ⟨rest, a', h'⟩ := r; cases rest with
      | nil => exact hr.trans (Runs.step rfl (YF n k a' h'))
      | cons i rest => exact hr
    | _ => exact .refl _ _
end
theorem JM (E : Env) (a : As) (tm : Tr Value) (h : Hp) : ∀ l, Jr E a tm h l = Zf E (a.on tm) h l
  | [] => rfl
  | .tmp t :: l => by
    simp only [Jr, Zf, JM E a tm h l, Yj]; rfl
  | .cell x t :: l => by
    simp only [Jr, Zf, JM E a tm h l, Yj]; rfl
theorem Q6Q {E : Env} {fn : FuncId} {nt : Nat} {a : As} {tm : Tr Value} {df : List Deferred} {kd : CallKind} {ro : Option Nat} {cs : List Fr} {h : Hp} {todo : List It} {s' : St}
    (hx : ∀ o, ro = o → QF E fn nt (a.on tm) todo df kd ro cs h = KT E ⟨fn, nt, a.on tm, todo, df, .run, kd, ro⟩ cs h none ∨ QF E fn nt (a.on tm) todo df kd ro cs h = KT E ⟨fn, nt, a.on tm, todo, df, .run, kd, ro⟩ cs h (some .ret))
    (e : retQ E fn a tm df kd ro cs h (QF E fn nt (a.on tm) todo df kd ro cs h) = some s') : Runs E ⟨⟨fn, nt, a.on tm, todo, df, .run, kd, ro⟩, cs, h⟩ s' := by
  have other : QF E fn nt (a.on tm) todo df kd ro cs h = some s' → Runs E ⟨⟨fn, nt, a.on tm, todo, df, .run, kd, ro⟩, cs, h⟩ s' := fun e => Runs.step e (.refl _ _); unfold retQ at e; cases ro with
  | some o => exact other e
  | none =>
    cases df with
    | cons d ds => exact other e
    | nil =>
      cases cs with
      | nil => exact other e
      | cons c r =>
        have h1 : QF E fn nt (a.on tm) todo [] kd none (c :: r) h = some ⟨⟨fn, nt, a.on tm, todo, [], .returning, kd, none⟩, c :: r, h⟩ := by
          rcases hx _ rfl with q | q <;> rw [q] <;> rfl
        refine Runs.step h1 (Runs.step ?_ (.refl _ _)); simp only [JM] at e; exact e
theorem Q8F {E : Env} {s s' : St} (e : Q8G E s = some s') : Runs E s s' := by
  obtain ⟨⟨fn, nt, tm, todo, df, md, kd, ro⟩, cs, h⟩ := s; cases md with
  | run =>
    have hr := YF (E := E) (fn := fn) (nt := nt) (tm := tm) (df := df) (kd := kd) (ro := ro) (cs := cs) 60 todo .nil h; simp only [Q8G] at e; generalize K6 E nt tm 60 todo .nil h = r at hr e; obtain ⟨todo', a, h'⟩ := r; refine hr.trans ?_; simp only at e; cases todo' with
    | nil => exact Q6Q (fun _ _ => .inl rfl) e
    | cons i k =>
      cases i with
      | code c =>
        cases c with
        | ret => exact Q6Q (fun _ _ => .inr rfl) e
        | _ => exact Runs.step e (.refl _ _)
      | _ => exact Runs.step e (.refl _ _)
  | returning => exact Runs.step e (.refl _ _)
  | panicking c => exact Runs.step e (.refl _ _)
theorem Q3m {E : Env} : ∀ (n : Nat) (s : St), Runs E s (runQ E n s)
  | 0, s => .refl _ _
  | n + 1, s => by
    have hq : runQ E (n + 1) s = (match Q8G E s with | some s' => runQ E n s' | none => s) := rfl; rw [hq]; cases e : Q8G E s with
    | none => exact .refl _ _
    | some s' => exact (Q8F e).trans (Q3m n s')
theorem Q5C {E : Env} {f : FuncId} {n : Nat} {h : Hp} (e : Q8v E f n h = true) : ∃ m, KX E f m h = true := by
  unfold Q8v at e
  split at e
  · rename_i s hs; obtain ⟨m, hm⟩ := Q3m (E := E) n s; refine ⟨m, ?_⟩; unfold KX; rw [hs]; simp only [hm]; exact e
  cases e
end Go.X
namespace Go.X
open Go.RowKit
noncomputable def QS (g : Nat) (cs : List Value) (h : Hp) : Bool := match h.get g with
  | some (.cells c _ m) => Nat.ble m 1 && decide (c.length = cs.length) && (c.zip cs).all fun (v, u) => Zt 20 v && Zt 20 u && sameV 20 v u
  | _ => false
noncomputable def Q23 (g : Nat) (cs : List Value) (args : List Value) (h : Hp) : Option (Value × Hp) := match args with
  | [] => cond (QS g cs h) (some (.bool true, h)) none
  | _ => none
theorem Q1q : ∀ {c cs : List Value}, c.length = cs.length → (∀ x, x ∈ c.zip cs → Zt 20 x.1 = true ∧ x.1 = x.2) → (∀ v, v ∈ c → Zt 20 v = true) ∧ c = cs
  | [], [], _, _ => ⟨fun v hv => (by cases hv), rfl⟩
  | [], _ :: _, h, _ => by simp at h
  | _ :: _, [], h, _ => by simp at h
  | v :: c, u :: cs, h, hz => by
    have h1 := hz (v, u) (by simp); obtain ⟨h2, h3⟩ := Q1q (c := c) (cs := cs) (by simpa using h) fun x hx => hz x (by simp [hx]); simp only at h1; refine ⟨fun w hw => ?_, by rw [h1.2, h3]⟩; rcases List.mem_cons.1 hw with rfl | hw
    · exact h1.1
    exact h2 w hw
theorem Q9C (E : Env) (hm : E.P.follows .mixedOrders = true) {f g : Nat} {cs : List Value} (h255 : g ≤ 255) (hp : ∀ v, v ∈ cs → Zt 4 v = true) (run : ∀ e, ∃ n, KX E f n (Q1h g cs e) = true) : Q1p E.P f (Q23 g cs) := by
  intro W B M h w args args' v h' hnb H hv hF; unfold Q23 at hF
  split at hF
  case h_2 => cases hF
  obtain ⟨ht, hF⟩ := Qi hF; cases hF; have hargs : args' = #[] := Array.toList_inj.1 (List.eq_nil_of_length_eq_zero hv.1.symm); subst hargs; unfold QS at ht
  split at ht
  case h_2 => cases ht
  rename_i c e m hg; rw [Bool.and_eq_true, Bool.and_eq_true, decide_eq_true_eq] at ht; obtain ⟨⟨hm1, hlen⟩, hall⟩ := ht; have hm1 := (QB _ _).1 hm1
  obtain ⟨hpl, hcc⟩ := Q1q hlen fun x hx => by
    have := List.all_eq_true.1 hall x hx; simp only [Bool.and_eq_true] at this; exact ⟨this.1.1, Yd 20 _ _ this.2⟩
  subst hcc; obtain ⟨hK, hpos⟩ := H.glob g h255; obtain ⟨b, δ, S, x, hρ, hx, c', fr, rfl, hS, hle, hcs, hm'⟩ := H.place hK hg (by simp); obtain ⟨rfl, rfl⟩ := hpos b δ S hρ
  have hsz : S = c.length := by
    rcases hm' with ⟨_, _, _, h4, _⟩ | ⟨_, _, _, h4⟩ | ⟨⟨s, h5, _⟩, _⟩
    · exact h4
    · exact h4
    omega
  have hc' : c' = c.toArray := by
    apply Array.toList_inj.1; apply List.ext_getElem?; intro i; show c'.toList[i]? = c[i]?; cases hi : c[i]? with
    | none =>
      rw [List.getElem?_eq_none_iff] at hi; rw [List.getElem?_eq_none (by rw [Array.length_toList]; omega)]
    | some v =>
      obtain ⟨u, hu, hvu⟩ := hcs i v hi; rw [Nat.zero_add] at hu; have := Jt 20 (hpl v (List.mem_of_getElem? hi)) hvu; subst this; rw [Array.getElem?_toList, hu]
  subst hc'; obtain ⟨n, hn⟩ := run e; refine (Q8D E hm hx (fun v hv => hp v (by simpa using hv)) h255 (by simpa using hn)).mono fun e' w' ⟨he, hb⟩ => ?_; exact ⟨_, M, he, .refl M, H.below hnb hb, .refl _ _ _, .bool _⟩
end Go.X
namespace Go.X
abbrev eqS (s u : ByteArray) : Bool := s.toList == u.toList
section
variable {E : Env} {fn : FuncId} {nt : Nat} {l : Kn} {h : Hp} {dr : Bool} {ops : Array Oper} {fin rest : List (Oper × List Oper)} {R : Kn → Hp → Prop} {lt : List Oper}
variable {d : Nat} {ty ty2 : TypeId} {pos : String} {af : Array Edge} {gg : Option (Nat × Bool)} {x y : Operand} {t : TypeId} {s u : ByteArray}
theorem Yp (g : Gd ops l gg) (hd : Nat.blt d nt = true) (hx : evl l x = some (.string s)) (hy : evl l y = some (.string u)) (q : WL E fn nt dr ops fin rest ((d, .bool (eqS s u)) :: l) h R) :
    WL E fn nt dr ops fin ((⟨some d, .binOp .eql t x y ty2, ty, pos, af, gg⟩, lt) :: rest) l h R :=
  QR g rfl (fun _ ag => by simp only [QL, ag.ev hx, ag.ev hy, Q45, Q1I, Z1]) (wn hd) q
theorem Qdi (g : Gd ops l gg) (hd : Nat.blt d nt = true) (hx : evl l x = some (.string s)) (hy : evl l y = some (.string u)) (q : WL E fn nt dr ops fin rest ((d, .bool (!eqS s u)) :: l) h R) :
    WL E fn nt dr ops fin ((⟨some d, .binOp .neq t x y ty2, ty, pos, af, gg⟩, lt) :: rest) l h R :=
  QR g rfl (fun _ ag => by simp only [QL, ag.ev hx, ag.ev hy, Q45, Q1I, Z1]) (wn hd) q
end
end Go.X
namespace Go.X
structure Res where
  own : List Nat
  P : Hp → Prop
  st : ∀ h h' : Hp, (∀ i, i ∈ own → i < h.n ∧ h'.get i = h.get i) → h.n ≤ h'.n → P h → P h'
def owns (L : List Res) : List Nat := L.flatMap Res.own
theorem Zc (r : Res) (L : List Res) : owns (r :: L) = r.own ++ owns L := rfl
theorem Zg (A B : List Res) : owns (A ++ B) = owns A ++ owns B := by simp [owns]
theorem Z7 {L : List Res} {r : Res} {i : Nat} (h : r ∈ L) (hi : i ∈ r.own) : i ∈ owns L := List.mem_flatMap.2 ⟨r, h, hi⟩
def cR (b : Nat) (o : AObj) : Res := ⟨[b], fun h => h.get b = some o, fun h h' e _ p => by rw [(e b (by simp)).2]; exact p⟩
def slR (e z : Nat) (s : Value) (cs : List Value) (n : Nat) (bs : List Nat) : Res := ⟨bs, fun h => SlC e z h s cs n bs, fun h h' k hn p => by
  rcases p with p | ⟨b, m, c, rest, h1, h2, h3, h4, h5, h6⟩
  · exact .inl p
  have := k b (by rw [h5]; simp)
  exact .inr ⟨b, m, c, rest, h1, by rw [this.2]; exact h2, h3, Nat.lt_of_lt_of_le this.1 hn, h5, h6⟩⟩
structure SH (h0 : Hp) (ds : List Nat) (L : List Res) (h : Hp) : Prop where
  ext : ExtB ds h0 h
  hold : ∀ r, r ∈ L → r.P h
  lt : ∀ i, i ∈ owns L → i < h.n
  new : ∀ i, i ∈ owns L → i ∈ ds ∨ h0.n ≤ i
  nd : (owns L).Nodup
section
variable {h0 h h' : Hp} {ds : List Nat} {L A B : List Res} {r r' : Res} {b i : Nat} {o : AObj}
theorem SH.start (h : Hp) : SH h [] [] h := ⟨.refl _ _, by simp, by simp [owns], by simp [owns], by simp [owns]⟩
theorem SH.begin {L : List Res} (hp : ∀ r, r ∈ L → r.P h) (hl : ∀ i, i ∈ owns L → i < h.n) (nd : (owns L).Nodup) : SH h (owns L) L h := ⟨.refl _ _, hp, hl, fun _ hi => .inl hi, nd⟩
theorem SH.one (hp : r.P h) (hl : ∀ i, i ∈ r.own → i < h.n) (nd : r.own.Nodup) : SH h r.own [r] h := by
  have e : owns [r] = r.own := by simp [owns]
  have := SH.begin (L := [r]) (h := h) (by simpa using hp) (by rw [e]; exact hl) (by rw [e]; exact nd); rwa [e] at this
theorem SH.cel (S : SH h0 ds L h) (i : Nat) (e : L[i]? = some (cR b o)) : h.get b = some o := S.hold _ (List.mem_of_getElem? e)
theorem SH.sl (S : SH h0 ds L h) (i : Nat) {et z n : Nat} {s : Value} {cs : List Value} {bs : List Nat} (e : L[i]? = some (slR et z s cs n bs)) : SlC et z h s cs n bs := S.hold _ (List.mem_of_getElem? e)
theorem SH.res (S : SH h0 ds L h) (i : Nat) (e : L[i]? = some r) : r.P h := S.hold _ (List.mem_of_getElem? e)
theorem SH.lt1 (S : SH h0 ds L h) (i : Nat) (e : L[i]? = some (cR b o)) : b < h.n := S.lt _ (Z7 (List.mem_of_getElem? e) (by simp [cR]))
theorem SH.old (S : SH h0 ds L h) (hg : h0.get b = some o) (hb : b < h0.n) (hd : b ∉ ds) : h.get b = some o := (S.ext.get b hb hd).trans hg
theorem SH.e0 (S : SH h0 [] L h) : Ext h0 h := S.ext.nil
theorem SH.old0 (S : SH h0 [] L h) (hg : h0.get b = some o) (hb : b < h0.n) : h.get b = some o := S.old hg hb (by simp)
theorem Q3x {L : List Res} {i : Nat} {r : Res} (e : L[i]? = some r) (r' : Res) : ∃ A B, L = A ++ r :: B ∧ L.set i r' = A ++ r' :: B := by
  obtain ⟨hlt, rfl⟩ := List.getElem?_eq_some_iff.1 e; refine ⟨L.take i, L.drop (i + 1), ?_, ?_⟩
  · rw [← List.drop_eq_getElem_cons hlt, List.take_append_drop]
  rw [List.set_eq_take_append_cons_drop, if_pos hlt]
theorem SH.upd (S : SH h0 ds L h) (i : Nat) (e : L[i]? = some r) (g : ExtB r.own h h') (hp : r'.P h') (hl : ∀ j, j ∈ r'.own → j < h'.n) (hn : ∀ j, j ∈ r'.own → j ∈ r.own ∨ h.n ≤ j) (nd : r'.own.Nodup) : SH h0 ds (L.set i r') h' := by
  obtain ⟨A, B, rfl, e2⟩ := Q3x e r'; rw [e2]; have nd0 := S.nd; rw [Zg, Zc] at nd0; simp only [List.nodup_append, List.mem_append] at nd0; obtain ⟨na, ⟨nr, nb, rb⟩, ab⟩ := nd0; have lt0 := S.lt; have new0 := S.new; simp only [Zg, Zc, List.mem_append] at lt0 new0; refine ⟨S.ext.join g fun j hj => new0 j (.inr (.inl hj)), fun q hq => ?_, fun j hj => ?_, fun j hj => ?_, ?_⟩
  · rcases List.mem_append.1 hq with hq | hq
    · refine q.st h h' (fun j hj => ?_) g.n (S.hold q (by simp [hq])); have hjA := Z7 hq hj; exact ⟨lt0 j (.inl hjA), g.get j (lt0 j (.inl hjA)) fun hr => ab j hjA j (.inl hr) rfl⟩
    rcases List.mem_cons.1 hq with rfl | hq
    · exact hp
    refine q.st h h' (fun j hj => ?_) g.n (S.hold q (by simp [hq])); have hjB := Z7 hq hj; exact ⟨lt0 j (.inr (.inr hjB)), g.get j (lt0 j (.inr (.inr hjB))) fun hr => rb j hr j hjB rfl⟩
  · simp only [Zg, Zc, List.mem_append] at hj; rcases hj with hj | hj | hj
    · exact Nat.lt_of_lt_of_le (lt0 j (.inl hj)) g.n
    · exact hl j hj
    exact Nat.lt_of_lt_of_le (lt0 j (.inr (.inr hj))) g.n
  · simp only [Zg, Zc, List.mem_append] at hj; rcases hj with hj | hj | hj
    · exact new0 j (.inl hj)
    · rcases hn j hj with h1 | h1
      · exact new0 j (.inr (.inl h1))
      exact .inr (Nat.le_trans S.ext.n h1)
    exact new0 j (.inr (.inr hj))
  rw [Zg, Zc]; simp only [List.nodup_append, List.mem_append]; refine ⟨na, ⟨nd, nb, fun j hj k hk ejk => ?_⟩, fun j hj k hk ejk => ?_⟩
  · subst ejk; rcases hn j hj with h1 | h1
    · exact rb j h1 j hk rfl
    have := lt0 j (.inr (.inr hk)); omega
  subst ejk; rcases hk with hk | hk
  · rcases hn j hk with h1 | h1
    · exact ab j hj j (.inl h1) rfl
    have := lt0 j (.inl hj); omega
  exact ab j hj j (.inr hk) rfl
theorem SH.push (S : SH h0 ds L h) (g : Ext h h') (hp : r.P h') (hl : ∀ j, j ∈ r.own → j < h'.n) (hn : ∀ j, j ∈ r.own → h.n ≤ j) (nd : r.own.Nodup) : SH h0 ds (r :: L) h' := by
  refine ⟨S.ext.join (g.b []) (by simp), fun q hq => ?_, fun j hj => ?_, fun j hj => ?_, ?_⟩
  · rcases List.mem_cons.1 hq with rfl | hq
    · exact hp
    exact q.st h h' (fun j hj => ⟨S.lt j (Z7 hq hj), g.get j (S.lt j (Z7 hq hj))⟩) g.n (S.hold q hq)
  · rw [Zc] at hj; rcases List.mem_append.1 hj with hj | hj
    · exact hl j hj
    exact Nat.lt_of_lt_of_le (S.lt j hj) g.n
  · rw [Zc] at hj; rcases List.mem_append.1 hj with hj | hj
    · exact .inr (Nat.le_trans S.ext.n (hn j hj))
    exact S.new j hj
  rw [Zc, List.nodup_append]; exact ⟨nd, S.nd, fun j hj k hk e => by subst e; have := S.lt j hk; have := hn j hj; omega⟩
theorem SH.grow (S : SH h0 ds L h) (g : Ext h h') : SH h0 ds L h' :=
  ⟨S.ext.join (g.b []) (by simp), fun q hq => q.st h h' (fun j hj => ⟨S.lt j (Z7 hq hj), g.get j (S.lt j (Z7 hq hj))⟩) g.n (S.hold q hq), fun j hj => Nat.lt_of_lt_of_le (S.lt j hj) g.n, S.new, S.nd⟩
theorem SH.alloc (S : SH h0 ds L h) (o : AObj) : SH h0 ds (cR h.n o :: L) (h.alloc o) :=
  S.push (Ext.alloc h o) (Hp.get_alloc_self _ _) (by simp [cR, Hp.n_alloc]) (by simp [cR]) (by simp [cR])
theorem SH.put (S : SH h0 ds L h) (i : Nat) (e : L[i]? = some (cR b o)) (o' : AObj) : SH h0 ds (L.set i (cR b o')) (h.put b o') :=
  S.upd i e (ExtB.put h b o') (Hp.get_put_self _ _ _) (by have := S.lt1 i e; simp [cR, Hp.n_put]; omega) (by simp [cR]) (by simp [cR])
theorem SH.nilSl (S : SH h0 ds L h) (e z : Nat) : SH h0 ds (slR e z (.slice none 0 0) [] 0 [] :: L) h := S.push (Ext.refl _) (.inl ⟨rfl, rfl, rfl, rfl⟩) (by simp [slR]) (by simp [slR]) (by simp [slR])
theorem SH.toSl {b e z n m : Nat} {cs : List Value} (S : SH h0 ds L h) (i : Nat) (hi : L[i]? = some (cR b (.cells cs e m))) (hm : m = 0 ∨ m = z + 3) (hn : cs.length = n * (z + 1)) : SH h0 ds (L.set i (slR e z (.slice (some ⟨b, 0, none⟩) n n) cs n [b])) h :=
  S.upd i hi (ExtB.refl _ _) (.inr ⟨b, m, n, [], rfl, by rw [List.append_nil]; exact S.cel i hi, hm, S.lt1 i hi, rfl, hn, Nat.le_refl _, by simp⟩) (by have := S.lt1 i hi; simp [slR]; exact this) (by simp [slR, cR]) (by simp [slR])
theorem SH.sub (S : SH h0 ds L h) (p : (A ++ B).Perm L) : SH h0 ds A h := by
  have pm : ∀ r, r ∈ A → r ∈ L := fun r hr => p.subset (by simp [hr]); have po : (owns (A ++ B)).Perm (owns L) := p.flatMap_right _; refine ⟨S.ext, fun r hr => S.hold r (pm r hr), fun i hi => S.lt i (po.subset (by rw [Zg]; simp [hi])), fun i hi => S.new i (po.subset (by rw [Zg]; simp [hi])), ?_⟩; have := po.nodup_iff.2 S.nd; rw [Zg, List.nodup_append] at this; exact this.1
theorem SH.drop (S : SH h0 ds (r :: L) h) : SH h0 ds L h := S.sub (B := [r]) (by
  simp)
theorem Q2J : ∀ {L : List Res} {i j : Nat} {r q : Res}, (owns L).Nodup → i ≠ j → L[i]? = some r → L[j]? = some q → ∀ x, x ∈ r.own → x ∉ q.own
  | [], _, _, _, _, _, _, e, _ => by simp at e
  | s :: L, 0, 0, _, _, _, hij, _, _ => absurd rfl hij
  | s :: L, 0, j + 1, r, q, nd, _, e1, e2 => fun x h1 h2 => by
    simp only [List.getElem?_cons_zero, Option.some.injEq] at e1; subst e1; rw [Zc, List.nodup_append] at nd; exact nd.2.2 x h1 x (Z7 (List.mem_of_getElem? (by simpa using e2)) h2) rfl
  | s :: L, i + 1, 0, r, q, nd, _, e1, e2 => fun x h1 h2 => by
    simp only [List.getElem?_cons_zero, Option.some.injEq] at e2; subst e2; rw [Zc, List.nodup_append] at nd; exact nd.2.2 x h2 x (Z7 (List.mem_of_getElem? (by simpa using e1)) h1) rfl
  | s :: L, i + 1, j + 1, r, q, nd, hij, e1, e2 => by
    rw [Zc, List.nodup_append] at nd; exact Q2J (L := L) (i := i) (j := j) nd.2.1 (fun e => hij (by omega)) (by rw [List.getElem?_cons_succ] at e1; exact e1) (by rw [List.getElem?_cons_succ] at e2; exact e2)
end
def RowV (h : Hp) (v : Value) (xs : List Value) : Prop := (xs = [] ∧ ∃ a c, v = .slice a 0 c) ∨ ∃ b o c cs e m, v = .slice (some ⟨b, o, none⟩) xs.length c ∧ h.get b = some (.cells cs e m) ∧ b < h.n ∧ ∀ i (hi : i < xs.length), cs[o + i]? = some xs[i]
section
variable {h h' : Hp} {v : Value} {xs : List Value}
theorem RowV.ext (x : RowV h v xs) (g : Ext h h') : RowV h' v xs := by
  rcases x with x | ⟨b, o, c, cs, e, m, h1, h2, h3, h4⟩
  · exact .inl x
  exact .inr ⟨b, o, c, cs, e, m, h1, (g.get b h3).trans h2, Nat.lt_of_lt_of_le h3 g.n, h4⟩
theorem RowV.val (x : RowV h v xs) : ∃ a c, v = .slice a xs.length c := by
  rcases x with ⟨rfl, a, c, h1⟩ | ⟨b, o, c, cs, e, m, h1, _⟩
  · exact ⟨a, c, h1⟩
  exact ⟨_, c, h1⟩
theorem RowV.at (x : RowV h v xs) (hn : 0 < xs.length) : ∃ b o c cs e m, v = .slice (some ⟨b, o, none⟩) xs.length c ∧ h.get b = some (.cells cs e m) ∧ b < h.n ∧ ∀ i (hi : i < xs.length), cs[o + i]? = some xs[i] := by
  rcases x with ⟨rfl, _⟩ | x
  · simp at hn
  exact x
theorem SlC.row {e : Nat} {n : Nat} {bs : List Nat} (x : SlC e 0 h v xs n bs) : RowV h v xs := by
  rcases x with ⟨h1, h2, h3, _⟩ | ⟨b, m, c, rest, h1, h2, _, h4, _, h5, _⟩
  · exact .inl ⟨h2, none, 0, h1⟩
  have hl : xs.length = n := by omega
  refine .inr ⟨b, 0, c, _, e, m, by rw [hl]; exact h1, h2, h4, fun i hi => ?_⟩; rw [Nat.zero_add, List.getElem?_append_left hi, List.getElem?_eq_getElem hi]
theorem RowV.of {b e m : Nat} (hg : h.get b = some (.cells xs e m)) (hb : b < h.n) {n c : Nat} (hn : n = xs.length) : RowV h (.slice (some ⟨b, 0, none⟩) n c) xs :=
  .inr ⟨b, 0, c, xs, e, m, by rw [hn], hg, hb, fun i hi => by rw [Nat.zero_add, List.getElem?_eq_getElem hi]⟩
theorem RowV.valM {α : Type} {f : α → Value} {ys : List α} (x : RowV h v (ys.map f)) : ∃ a c, v = .slice a ys.length c := by
  have := x.val; rwa [List.length_map] at this
theorem RowV.atM {α : Type} {f : α → Value} {ys : List α} (x : RowV h v (ys.map f)) (hn : 0 < ys.length) : ∃ b o c cs e m, v = .slice (some ⟨b, o, none⟩) ys.length c ∧ h.get b = some (.cells cs e m) ∧ b < h.n ∧ ∀ i (hi : i < ys.length), cs[o + i]? = some (f ys[i]) := by
  obtain ⟨b, o, c, cs, e, m, h1, h2, h3, h4⟩ := x.at (by rw [List.length_map]; exact hn); refine ⟨b, o, c, cs, e, m, by rw [List.length_map] at h1; exact h1, h2, h3, fun i hi => ?_⟩; rw [h4 i (by rw [List.length_map]; exact hi), List.getElem_map]
theorem RowV.nil : RowV h (.slice none 0 0) [] := .inl ⟨rfl, none, 0, rfl⟩
end
section
variable {E : Env} {fn : FuncId} {nt : Nat} {l : Kn} {h h0 : Hp} {dr : Bool} {ops : Array Oper} {fin rest : List (Oper × List Oper)} {R : Kn → Hp → Prop} {lt : List Oper} {ds : List Nat} {L : List Res}
variable {d : Nat} {ty t : TypeId} {pos : String} {af : Array Edge} {gg : Option (Nat × Bool)} {x y : Operand} {v : Value}
theorem Zz {e : TypeId} {zv : Value} (S : SH h0 ds L h) (g : Gd ops l gg) (hd : Nat.blt d nt = true) (hz : E.zero e = some zv)
    (q : ∀ b h', h0.n ≤ b → SH h0 ds (cR b (.cells zv.cells.toList e 0) :: L) h' → WL E fn nt dr ops fin rest ((d, .pointer (some ⟨b, 0, none⟩)) :: l) h' R) :
    WL E fn nt dr ops fin ((⟨some d, .alloc e, ty, pos, af, gg⟩, lt) :: rest) l h R := Qdj g hd hz (q _ _ S.ext.n (S.alloc _))
theorem Yh {e : TypeId} (S : SH h0 ds L h) (g : Gd ops l gg) (hd : Nat.blt d nt = true) (hx : evl l x = some v)
    (q : ∀ b h', h0.n ≤ b → SH h0 ds (cR b (.cells v.cells.toList e 0) :: L) h' → WL E fn nt dr ops fin rest ((d, .pointer (some ⟨b, 0, none⟩)) :: l) h' R) :
    WL E fn nt dr ops fin ((⟨some d, .box e x, ty, pos, af, gg⟩, lt) :: rest) l h R := Qbe g hd hx (q _ _ S.ext.n (S.alloc _))
theorem Q1Q (S : SH h0 ds L h) (g : Gd ops l gg) (hd : Nat.blt d nt = true)
    (q : ∀ b h', h0.n ≤ b → SH h0 ds (cR b (.map (([] : Ms).map ent) 0) :: L) h' → WL E fn nt dr ops fin rest ((d, .map (some b)) :: l) h' R) :
    WL E fn nt dr ops fin ((⟨some d, .makeMap t none, ty, pos, af, gg⟩, lt) :: rest) l h R := Q9h g hd (q _ _ S.ext.n (S.alloc _))
theorem Q1P {k k' : IntKind} {n c : Int} {e z by' : Nat} {zv : Value} (S : SH h0 ds L h) (g : Gd ops l gg) (hd : Nat.blt d nt = true) (hx : evl l x = some (.int k n)) (hy : evl l y = some (.int k' c)) (hu : E.und t = some (.slice e)) (hs : E.size e = some (z + 1))
    (hz : E.zero e = some zv) (hb : E.bytes e = some by') (hzs : zv.cells.size = z + 1) (h0' : 0 ≤ n) (h1 : n ≤ c) (h2 : c ≤ 1099511627776) (h3 : by' * c.toNat ≤ 140737488355328)
    (q : ∀ b h', h0.n ≤ b → SH h0 ds (cR b (.cells (Qk zv.cells.toList c.toNat) e 0) :: L) h' → WL E fn nt dr ops fin rest ((d, .slice (some ⟨b, 0, none⟩) n.toNat c.toNat) :: l) h' R) :
    WL E fn nt dr ops fin ((⟨some d, .makeSlice t x y, ty, pos, af, gg⟩, lt) :: rest) l h R := Q61 g hd hx hy hu hs hz hb hzs h0' h1 h2 h3 (q _ _ S.ext.n (S.alloc _))
theorem Qn {ps : Array (Nat × Operand)} {n : Nat} {e z : Nat} {zv : Value} {cs : Array Value} (pv : List (Nat × Value)) (S : SH h0 ds L h) (g : Gd ops l gg) (hd : Nat.blt d nt = true) (hu : E.und t = some (.slice e)) (hs : E.size e = some (z + 1))
    (hz : E.zero e = some zv) (hn : (Nat.ble (n * (z + 1)) (2 ^ 24) && Nat.beq zv.cells.size (z + 1)) = true)
    (hv : ps.toList.map (fun p => (p.1, evl l p.2)) = pv.map (fun p => (p.1, some p.2))) (hf : Instr.fill (fun i => some (i * (z + 1), z + 1)) (Qk zv.cells.toList n).toArray pv = some cs)
    (q : ∀ b h', h0.n ≤ b → SH h0 ds (cR b (.cells cs.toList e 0) :: L) h' → WL E fn nt dr ops fin rest ((d, .slice (some ⟨b, 0, none⟩) n n) :: l) h' R) :
    WL E fn nt dr ops fin ((⟨some d, .buildSlice t n ps, ty, pos, af, gg⟩, lt) :: rest) l h R := Q4L pv g hd hu hs hz hn hv hf (q _ _ S.ext.n (S.alloc _))
theorem Zy {b o : Nat} {cs : List Value} {e : TypeId} {m : Nat} (i : Nat) (S : SH h0 ds L h) (g : Gd ops l gg) (hx : evl l x = some (.pointer (some ⟨b, o, none⟩))) (hy : evl l y = some v) (hc : cellV v = true) (ht : E.size t = some 1)
    (hg : L[i]? = some (cR b (.cells cs e m))) (hm : m ≠ 1) (hv : o < cs.length) (ha : ∀ h', SH h0 ds (L.set i (cR b (.cells (cs.set o v) e m))) h' → ∀ q, q ∈ lt → Again E ops l h' q)
    (q : ∀ h', SH h0 ds (L.set i (cR b (.cells (cs.set o v) e m))) h' → WL E fn nt dr ops fin rest l h' R) :
    WL E fn nt dr ops fin ((⟨none, .store t x y, ty, pos, af, gg⟩, lt) :: rest) l h R := Q9f g hx hy hc ht (S.cel i hg) hm hv (ha _ (S.put i hg _)) (q _ (S.put i hg _))
theorem QV {b n : Nat} {cs : List Value} {vs : Array Value} {e : TypeId} {m : Nat} (i : Nat) (S : SH h0 ds L h) (g : Gd ops l gg) (hx : evl l x = some (.pointer (some ⟨b, 0, none⟩))) (hy : evl l y = some (.agg vs)) (hc : vs.toList.all cellV = true) (ht : E.size t = some n) (hn : vs.size = n)
    (hg : L[i]? = some (cR b (.cells cs e m))) (hm : m ≠ 1) (hv : cs.length = n) (ha : ∀ h', SH h0 ds (L.set i (cR b (.cells vs.toList e m))) h' → ∀ q, q ∈ lt → Again E ops l h' q)
    (q : ∀ h', SH h0 ds (L.set i (cR b (.cells vs.toList e m))) h' → WL E fn nt dr ops fin rest l h' R) :
    WL E fn nt dr ops fin ((⟨none, .store t x y, ty, pos, af, gg⟩, lt) :: rest) l h R := Qbd g hx hy hc ht hn (S.cel i hg) hm hv (ha _ (S.put i hg _)) (q _ (S.put i hg _))
theorem SlC.nodup {e z : Nat} {h : Hp} {s : Value} {cs : List Value} {n : Nat} {bs : List Nat} (x : SlC e z h s cs n bs) : bs.Nodup := by
  rcases x with ⟨_, _, _, rfl⟩ | ⟨b, m, c, rest, h1, h2, h3, h4, rfl, _⟩ <;> simp
theorem SlC.cellV {e z : Nat} {h : Hp} {s : Value} {cs : List Value} {n : Nat} {bs : List Nat} (x : SlC e z h s cs n bs) : Go.X.cellV s = true := by
  obtain ⟨a, c, rfl⟩ := x.val; rfl
theorem KC {e z by' qb m' n : Nat} {s : Value} {cs xs : List Value} {bs : List Nat} (i j : Nat) (S : SH h0 ds L h) (el : ElN E t e z by') (g : Gd ops l gg) (hd : Nat.blt d nt = true) (hx : evl l x = some s) (hy : evl l y = some (.slice (some ⟨qb, 0, none⟩) 1 1))
    (hi : L[i]? = some (slR e z s cs n bs)) (hj : L[j]? = some (cR qb (.cells xs e m'))) (hl : xs.length = z + 1) (hc : xs.all cellV = true) (hn : (n + 1) * (by' + 1) ≤ 1099511627776)
    (ha : ∀ s' bs' h', SH h0 ds (L.set i (slR e z s' (cs ++ xs) (n + 1) bs')) h' → ∀ q, q ∈ lt → Again E ops ((d, s') :: l) h' q)
    (q : ∀ s' bs' h', SH h0 ds (L.set i (slR e z s' (cs ++ xs) (n + 1) bs')) h' → WL E fn nt dr ops fin rest ((d, s') :: l) h' R) :
    WL E fn nt dr ops fin ((⟨some d, .call ⟨.builtin .append, #[x, y], #[t, t]⟩, ty, pos, af, gg⟩, lt) :: rest) l h R := by
  obtain ⟨v', h', bs', q1, q2, q3, q4⟩ := Qem el (S.sl i hi) (S.cel j hj) hl hc hn; have S' := S.upd (r' := slR e z v' (cs ++ xs) (n + 1) bs') i hi q3 q2 q2.lt q4 q2.nodup; exact Qbf g hd hx hy q1 (ha _ _ _ S') (q _ _ _ S')
section
variable {k : IntKind} {a b : Int} {t ty2 : TypeId}
theorem Q0r (g : Gd ops l gg) (hx : evl l x = some (.int k a)) (hy : evl l y = some (.int k b)) (hl : lk l d = some (.bool (decide (a = b)))) : Again E ops l h ⟨some d, .binOp .eql t x y ty2, ty, pos, af, gg⟩ := Qen g hx hy rfl (by simp only [Zv, Z1]; rfl) hl Q8V
end
theorem KW {a b : Code} {Q : Out → Kn → Hp → Prop} (lc : Kn) (P : Kn → Hp → Prop) (q : W E fn nt a l h (Cut (fun l' h' => ∃ lv, l' = lv ++ lc ∧ P lv h') Q)) (q2 : ∀ lv h, P lv h → W E fn nt b (lv ++ lc) h Q) : W E fn nt (.seq a b) l h Q :=
  w_cut _ q (by rintro l' h' ⟨lv, rfl, p⟩; exact q2 lv h' p)
theorem Q1o {P : Kn → Hp → Prop} {lc : Kn} {Q : Out → Kn → Hp → Prop} (lv : Kn) (s : Sub (lv ++ lc) l) (p : P lv h) : Cut (fun l' h' => ∃ lv, l' = lv ++ lc ∧ P lv h') Q .next l h := ⟨_, s, lv, rfl, p⟩
theorem QH {b : Code} {Q : Out → Kn → Hp → Prop} (lv lc : Kn) (s : Sub (lv ++ lc) l) (I : Nat → Kn → Hp → Prop) {n : Nat} (start : I n lv h)
    (round : ∀ n lv h, I n lv h → W E fn nt b (lv ++ lc) h (Rnd (fun n l h => ∃ lv, l = lv ++ lc ∧ I n lv h) n Q)) : W E fn nt (.loop b) l h Q :=
  Q4g (lv ++ lc) s (w_loop (fun n l h => ∃ lv, l = lv ++ lc ∧ I n lv h) ⟨lv, rfl, start⟩ (by rintro n l h ⟨lv, rfl, hI⟩; exact round n lv h hI))
theorem Kc {I : Nat → Kn → Hp → Prop} {n : Nat} {lc : Kn} {Q : Out → Kn → Hp → Prop} (m : Nat) (hm : m < n) (lv : Kn) (s : Sub (lv ++ lc) l) (hI : I m lv h) : Rnd (fun n l h => ∃ lv, l = lv ++ lc ∧ I n lv h) n Q .next l h :=
  ⟨m, hm, _, s, lv, rfl, hI⟩
end
end Go.X
namespace Go.X
section
variable {K : Type} [DecidableEq K]
abbrev MsK (K : Type) := List (K × Value × Nat)
def Q1n (enc : K → Value) (x : K × Value × Nat) : MapEntry := { key := enc x.1, val := x.2.1, born := x.2.2 }
def fK (k : K) : MsK K → Nat → Option (Nat × Value)
  | [], _ => none
  | (a, v, _) :: r, i => if k = a then some (i, v) else fK k r (i + 1)
def Q0e (M : MsK K) (k : K) : Option Value := (fK k M 0).map (·.2)
def Q8i (M : MsK K) (k : K) (v : Value) (cl : Nat) : MsK K × Nat := match fK k M 0 with
  | some (i, _) => (M.modify i fun x => (k, v, x.2.2), cl)
  | none => (M ++ [(k, v, cl)], cl + 1)
structure KeyT (E : Env) (t kt et : TypeId) (enc : K → Value) : Prop where
  und : E.und t = some (.map kt et)
  eq : ∀ h a b, Ja E h kt (enc a) (enc b) = some (decide (a = b))
  ok : ∀ a, ZX E kt (enc a) = true
variable {E : Env} {t kt et : TypeId} {enc : K → Value}
theorem KeyT.find (T : KeyT E t kt et enc) (h : Hp) (k : K) : ∀ (M : MsK K) (i : Nat), Q0S E h kt (enc k) (M.map (Q1n enc)) i = some (fK k M i)
  | [], _ => rfl
  | (a, v, n) :: r, i => by
    simp only [List.map_cons, Q0S, Q1n, T.eq, fK]; by_cases e : k = a
    · subst e; simp
    simp only [e, decide_false, if_false]; exact T.find h k r (i + 1)
theorem Qa0 {k : K} : ∀ {M : MsK K} {i j : Nat} {v : Value}, fK k M i = some (j, v) → ∃ p, j = i + p ∧ p < M.length ∧ ∃ n, M[p]? = some (k, v, n)
  | [], _, _, _, h => by simp [fK] at h
  | (a, u, n) :: r, i, j, v, h => by
    simp only [fK] at h; by_cases e : k = a
    · rw [if_pos e] at h; cases h; exact ⟨0, rfl, by simp, n, by simp [e]⟩
    rw [if_neg e] at h; obtain ⟨p, h1, h2, m, h3⟩ := Qa0 h; exact ⟨p + 1, by omega, by simp; omega, m, by simpa using h3⟩
theorem Q5i {k k' : K} {v : Value} : ∀ (M : MsK K) (s p : Nat) (u : Value), fK k M s = some (s + p, u) →
    (fK k' (M.modify p fun x => (k, v, x.2.2)) s).map (·.2) = if k' = k then some v else (fK k' M s).map (·.2)
  | [], _, _, _, h => by simp [fK] at h
  | (a, w, n) :: r, s, p, u, h => by
    simp only [fK] at h; by_cases e : k = a
    · rw [if_pos e] at h; have hp : p = 0 := by simp at h; omega
      subst hp; simp only [List.modify_zero_cons, fK]; by_cases e' : k' = k
      · subst e'; simp
      rw [if_neg e', if_neg e', if_neg (fun x => e' (x.trans e.symm))]
    rw [if_neg e] at h; cases p with
    | zero =>
      obtain ⟨q, h1, _⟩ := Qa0 h; omega
    | succ p =>
      simp only [List.modify_succ_cons, fK]; by_cases e' : k' = a
      · rw [if_pos e', if_pos e', if_neg (fun x => e (x.symm.trans e'))]
      rw [if_neg e', if_neg e']; exact Q5i r (s + 1) p u (by rw [h]; congr 2; omega)
theorem Q5j {k k' : K} {v : Value} {c : Nat} : ∀ (M : MsK K) (s : Nat), fK k M s = none → (fK k' (M ++ [(k, v, c)]) s).map (·.2) = if k' = k then some v else (fK k' M s).map (·.2)
  | [], s, _ => by
    simp only [List.nil_append, fK]; by_cases e : k' = k
    · subst e; simp
    rw [if_neg e, if_neg e]
  | (a, w, n) :: r, s, h => by
    simp only [fK] at h; by_cases e : k = a
    · rw [if_pos e] at h; cases h
    rw [if_neg e] at h; simp only [List.cons_append, fK]; by_cases e' : k' = a
    · rw [if_pos e', if_pos e', if_neg (fun x => e (x.symm.trans e'))]
    rw [if_neg e', if_neg e']; exact Q5j r (s + 1) h
theorem Q3P (M : MsK K) (k k' : K) (v : Value) (cl : Nat) : Q0e (Q8i M k v cl).1 k' = if k' = k then some v else Q0e M k' := by
  unfold Q8i Q0e; cases h : fK k M 0 with
  | none => exact Q5j M 0 h
  | some x =>
    obtain ⟨i, u⟩ := x; exact Q5i M 0 i u (by rw [h, Nat.zero_add])
theorem Q2M {K2 : Type} {enc : K2 → Value} (f : K2 × Value × Nat → K2 × Value × Nat) (g : MapEntry → MapEntry) (hg : ∀ x, Q1n enc (f x) = g (Q1n enc x)) : ∀ (M : MsK K2) (i : Nat), (M.map (Q1n enc)).modify i g = (M.modify i f).map (Q1n enc)
  | [], _ => by simp
  | a :: l, 0 => by simp [hg]
  | a :: l, i + 1 => by simp [Q2M f g hg l i]
section
variable {fn : FuncId} {nt : Nat} {l : Kn} {h h0 : Hp} {dr : Bool} {ops : Array Oper} {fin rest : List (Oper × List Oper)} {R : Kn → Hp → Prop} {lt : List Oper} {ds : List Nat} {L : List Res}
variable {d : Nat} {ty : TypeId} {pos : String} {af : Array Edge} {gg : Option (Nat × Bool)} {x y z : Operand} {v zv : Value} {M : MsK K} {cl r : Nat} {k : K}
theorem Q13 (T : KeyT E t kt et enc) (hg : h.get r = some (.map (M.map (Q1n enc)) cl)) (hz : E.zero et = some zv) (ok : Bool) :
    KJ E h t (.map (some r)) (enc k) ok = some (match Q0e M k with | some v => cond ok (.tuple #[v, .bool true]) v | none => cond ok (.tuple #[zv, .bool false]) zv) := by
  simp only [KJ, T.und, mapOf, hg, T.ok, cond_true, T.find, Q0e]; cases fK k M 0 with
  | none => simp [hz]
  | some x => rfl
theorem Q1W (T : KeyT E t kt et enc) (g : Gd ops l gg) (hd : Nat.blt d nt = true) (hx : evl l x = some (.map (some r))) (hy : evl l y = some (enc k)) (hg : h.get r = some (.map (M.map (Q1n enc)) cl)) (hz : E.zero et = some zv)
    (q : WL E fn nt dr ops fin rest ((d, (Q0e M k).getD zv) :: l) h R) : WL E fn nt dr ops fin ((⟨some d, .lookup t x y false, ty, pos, af, gg⟩, lt) :: rest) l h R :=
  QR g rfl (fun _ ag => by
    simp only [QL, ag.ev hx, ag.ev hy, Q13 T hg hz]
    cases Q0e M k <;> rfl) (wn hd) q
theorem YI (T : KeyT E t kt et enc) (g : Gd ops l gg) (hd : Nat.blt d nt = true) (hx : evl l x = some (.map (some r))) (hy : evl l y = some (enc k)) (hg : h.get r = some (.map (M.map (Q1n enc)) cl)) (hz : E.zero et = some zv)
    (q : WL E fn nt dr ops fin rest ((d, .tuple #[(Q0e M k).getD zv, .bool (Q0e M k).isSome]) :: l) h R) : WL E fn nt dr ops fin ((⟨some d, .lookup t x y true, ty, pos, af, gg⟩, lt) :: rest) l h R :=
  QR g rfl (fun _ ag => by
    simp only [QL, ag.ev hx, ag.ev hy, Q13 T hg hz]
    cases Q0e M k <;> rfl) (wn hd) q
theorem Qds (T : KeyT E t kt et enc) (hg : h.get r = some (.map (M.map (Q1n enc)) cl)) : J8 E h t (.map (some r)) (enc k) v = some (h.put r (.map ((Q8i M k v cl).1.map (Q1n enc)) (Q8i M k v cl).2)) := by
  simp only [J8, T.und, hg, T.ok, cond_true, T.find, Q8i]; cases hf : fK k M 0 with
  | none => simp [Q1n]
  | some x =>
    obtain ⟨i, w⟩ := x; simp only [Option.some.injEq]
    congr 2
    exact Q2M (fun x => (k, v, x.2.2)) _ (fun _ => rfl) M i
theorem YW (i : Nat) (S : SH h0 ds L h) (T : KeyT E t kt et enc) (g : Gd ops l gg) (hx : evl l x = some (.map (some r))) (hy : evl l y = some (enc k)) (hz : evl l z = some v)
    (hg : L[i]? = some (cR r (.map (M.map (Q1n enc)) cl))) (ha : ∀ h', SH h0 ds (L.set i (cR r (.map ((Q8i M k v cl).1.map (Q1n enc)) (Q8i M k v cl).2))) h' → ∀ q, q ∈ lt → Again E ops l h' q)
    (q : ∀ h', SH h0 ds (L.set i (cR r (.map ((Q8i M k v cl).1.map (Q1n enc)) (Q8i M k v cl).2))) h' → WL E fn nt dr ops fin rest l h' R) :
    WL E fn nt dr ops fin ((⟨none, .mapUpdate t x y z, ty, pos, af, gg⟩, lt) :: rest) l h R := by
  refine Q39 g rfl (fun _ ag => ?_) wn0 (ha _ (S.put i hg _)) (q _ (S.put i hg _)); simp only [Zs, ag.ev hx, ag.ev hy, ag.ev hz, Qds T (S.cel i hg)]
end
end
theorem QbA {E : Env} {kt : TypeId} (hk : E.und kt = some (.int .i64)) (h : Hp) (a b : Int) : Ja E h kt (.int .i64 a) (.int .i64 b) = some (decide (a = b)) := Q9H hk a b
theorem KeyT.int {E : Env} {t kt et : TypeId} (hu : E.und t = some (.map kt et)) (hk : E.und kt = some (.int .i64)) : KeyT E t kt et (fun n : Int => Value.int .i64 n) := ⟨hu, fun h a b => QbA hk h a b, fun a => Q9F hk a⟩
end Go.X
namespace Go.X
open Go.RowKit
mutual
def shV : Nat → Nat → Value → Option Value
  | 0, _, _ => none
  | k + 1, n, v => match v with
    | .bool b => some (.bool b)
    | .int k a => some (.int k a)
    | .string s => some (.string s)
    | .pointer none => some (.pointer none)
    | .slice none l c => some (.slice none l c)
    | .map none => some (.map none)
    | .nilFunc => some .nilFunc
    | .nilIface => some .nilIface
    | .pointer (some a) => cond (Nat.ble 256 a.block) (some (.pointer (some ⟨n + (a.block - 256), a.off, a.spot⟩))) none
    | .slice (some a) l c => cond (Nat.ble 256 a.block) (some (.slice (some ⟨n + (a.block - 256), a.off, a.spot⟩) l c)) none
    | .map (some r) => cond (Nat.ble 256 r) (some (.map (some (n + (r - 256))))) none
    | .func (.func f) a b => (match shL k n a.toList, shL k n b.toList with
      | some l, some m => some (.func (.func f) l.toArray m.toArray)
      | _, _ => none)
    | .agg a => (match shL k n a.toList with
      | some l => some (.agg l.toArray)
      | none => none)
    | _ => none
def shL : Nat → Nat → List Value → Option (List Value)
  | 0, _, _ => none
  | _ + 1, _, [] => some []
  | k + 1, n, v :: l => match shV k n v, shL k n l with
    | some u, some m => some (u :: m)
    | _, _ => none
end
def shE (n : Nat) : List MapEntry → Option (List MapEntry)
  | [] => some []
  | e :: l => match shV 400 n e.key, shV 400 n e.val, shE n l with
    | some k, some v, some m => some ({ key := k, val := v, born := e.born } :: m)
    | _, _, _ => none
def shO (n : Nat) : AObj → Option AObj
  | .cells c e m => cond (Nat.beq m 1) none (match shL 400 n c with
    | some l => some (.cells l e m)
    | none => none)
  | .map es cl => (match shE n es with
    | some l => some (.map l cl)
    | none => none)
  | .dead => some .dead
  | _ => none
def Q7z (n : Nat) : List AObj → Option (List AObj)
  | [] => some []
  | o :: l => match shO n o, Q7z n l with
    | some o, some l => some (o :: l)
    | _, _ => none
structure Moved (M1 M' : Mp) (n : Nat) : Prop where
  known : ∀ i, 256 ≤ i → M1.K i → M'.K (n + (i - 256))
  place : ∀ i, 256 ≤ i → M1.K i → ∀ x, M'.ρ (n + (i - 256)) = some x → M1.ρ i = some x
  mode : ∀ i, 256 ≤ i → M1.K i → M'.md (n + (i - 256)) = M1.md i
section
variable {M1 M' : Mp} {n : Nat}
mutual
theorem Q1N (x : Moved M1 M' n) : ∀ (k : Nat) (v u w : Value), shV k n v = some u → VRel M1 v w → VRel M' u w
  | 0, _, _, _, h, _ => by simp [shV] at h
  | k + 1, v, u, w, h, r => by
    cases r with
    | bool => simp [shV] at h; subst h; exact .bool _
    | int => simp [shV] at h; subst h; exact .int _ _
    | string => simp [shV] at h; subst h; exact .string _
    | nilp => simp [shV] at h; subst h; exact .nilp
    | nils => simp [shV] at h; subst h; exact .nils _ _
    | nilm => simp [shV] at h; subst h; exact .nilm
    | nilFunc => simp [shV] at h; subst h; exact .nilFunc
    | nilIface => simp [shV] at h; subst h; exact .nilIface
    | ptr hr =>
      simp only [shV] at h; obtain ⟨h1, h⟩ := Qi h; cases h; have h1 := (QB _ _).1 h1; exact .ptr ⟨x.known _ h1 hr.1, fun b δ S hρ => hr.2 b δ S (x.place _ h1 hr.1 _ hρ)⟩
    | sl hr =>
      simp only [shV] at h; obtain ⟨h1, h⟩ := Qi h; cases h; have h1 := (QB _ _).1 h1; refine .sl ⟨x.known _ h1 hr.1, fun b δ S hρ => ?_⟩; have := hr.2 b δ S (x.place _ h1 hr.1 _ hρ); unfold SlOk at *; rw [← x.mode _ h1 hr.1] at this; exact this
    | map hr =>
      simp only [shV] at h; obtain ⟨h1, h⟩ := Qi h; cases h; have h1 := (QB _ _).1 h1; exact .map ⟨x.known _ h1 hr.1, fun b δ S hρ => hr.2 b δ S (x.place _ h1 hr.1 _ hρ)⟩
    | @func f f' a b c d hf ha hb ka kb =>
      cases f with
      | func g =>
        simp only [shV] at h
        split at h
        · rename_i l m h1 h2; cases h; have hl := Q3h x k _ _ _ h1 ⟨ha, ka⟩; have hm := Q3h x k _ _ _ h2 ⟨hb, kb⟩; refine .func' ?_ (by simpa using hl) (by simpa using hm); cases f' <;> simp only [FnRel] at hf ⊢ <;> first | exact hf | cases hf
        cases h
      | _ => simp [shV] at h
    | @agg a c ha ka =>
      simp only [shV] at h
      split at h
      · rename_i l h1; cases h; exact .agg' (by simpa using Q3h x k _ _ _ h1 ⟨ha, ka⟩)
      cases h
    | float => simp [shV] at h
    | complex => simp [shV] at h
    | junk => simp [shV] at h
    | chan => simp [shV] at h
    | nilc => simp [shV] at h
    | iface => simp [shV] at h
    | tuple => simp [shV] at h
theorem Q3h (x : Moved M1 M' n) : ∀ (k : Nat) (l u w : List Value), shL k n l = some u → VsRel M1 l w → VsRel M' u w
  | 0, _, _, _, h, _ => by simp [shL] at h
  | k + 1, [], u, w, h, r => by
    simp [shL] at h; subst h; cases w with
    | nil => exact .nil _
    | cons a b => have := r.1; simp at this
  | k + 1, v :: l, u, w, h, r => by
    simp only [shL] at h
    split at h
    · rename_i u' m h1 h2; cases h; cases w with
      | nil => have := r.1; simp at this
      | cons a b => exact .cons (Q1N x k _ _ _ h1 r.uncons.1) (Q3h x k _ _ _ h2 r.uncons.2)
    cases h
end
theorem Q8N (x : Moved M1 M' n) : ∀ {l u w : List MapEntry}, shE n l = some u → EsRel M1 l w → EsRel M' u w
  | [], u, w, h, r => by
    simp [shE] at h; subst h; exact ⟨r.1, fun i a b ha => by simp at ha⟩
  | e :: l, u, w, h, r => by
    simp only [shE] at h
    split at h
    · rename_i k v m h1 h2 h3; cases h; cases w with
      | nil => have := r.1; simp at this
      | cons a b =>
        have h0 := r.2 0 e a rfl rfl; have hr : EsRel M1 l b := ⟨by have := r.1; simpa using this, fun i p q hp hq => r.2 (i + 1) p q (by simpa using hp) (by simpa using hq)⟩; have ih := Q8N x h3 hr; refine ⟨by simp [ih.1], fun i p q hp hq => ?_⟩; cases i with
        | zero =>
          simp at hp hq; subst hp; subst hq; exact ⟨Q1N x _ _ _ _ h1 h0.1, Q1N x _ _ _ _ h2 h0.2.1, h0.2.2⟩
        | succ i => exact ih.2 i p q (by simpa using hp) (by simpa using hq)
    cases h
theorem Q8M : ∀ {k : Nat} {l u : List Value}, shL k n l = some u → u.length = l.length
  | 0, _, _, h => by simp [shL] at h
  | k + 1, [], _, h => by simp [shL] at h; subst h; rfl
  | k + 1, v :: l, _, h => by
    simp only [shL] at h
    split at h
    · rename_i h2; cases h; simp [Q8M h2]
    cases h
theorem Qcf : ∀ {k : Nat} {l u : List Value} {j : Nat} {v : Value}, shL k n l = some u → u[j]? = some v → ∃ v0 k0, l[j]? = some v0 ∧ shV k0 n v0 = some v
  | 0, _, _, _, _, h, _ => by simp [shL] at h
  | k + 1, [], _, _, _, h, e => by simp [shL] at h; subst h; simp at e
  | k + 1, a :: l, _, j, v, h, e => by
    simp only [shL] at h
    split at h
    · rename_i u' m h1 h2; cases h; cases j with
      | zero => simp at e; subst e; exact ⟨a, k, rfl, h1⟩
      | succ j => exact Qcf (l := l) (u := m) (j := j) h2 (by simpa using e)
    cases h
theorem QcU (x : Moved M1 M' n) {i : Nat} (hi : 256 ≤ i) (hk : M1.K i) {o u : AObj} {δ S : Nat} {ob : Obj} (h : shO n o = some u) (r : ORel M1 i o δ S ob) : ORel M' (n + (i - 256)) u δ S ob := by
  cases o with
  | cells c e m =>
    simp only [shO] at h; cases hm : Nat.beq m 1 with
    | true => rw [hm, cond_true] at h; cases h
    | false =>
      rw [hm, cond_false] at h
      split at h
      · rename_i l hl; cases h; obtain ⟨c', fr, h1, h2, h3, h4, h5⟩ := r; have hlen := Q8M hl; refine ⟨c', fr, h1, h2, by omega, fun j v hv => ?_, ?_⟩
        · obtain ⟨v0, k0, e1, e2⟩ := Qcf hl hv; obtain ⟨w, e3, e4⟩ := h4 j v0 e1; exact ⟨w, e3, Q1N x _ _ _ _ e2 e4⟩
        rw [hlen, x.mode i hi hk]; exact h5
      cases h
  | map es cl =>
    simp only [shO] at h
    split at h
    · rename_i l hl; cases h; obtain ⟨h1, es', h2, h3⟩ := r; exact ⟨h1, es', h2, Q8N x hl h3⟩
    cases h
  | dead => exact r.elim
  | _ => simp [shO] at h
theorem Q3g : ∀ {l u : List AObj} {j : Nat} {o : AObj}, Q7z n l = some u → l[j]? = some o → ∃ o', u[j]? = some o' ∧ shO n o = some o'
  | [], _, _, _, _, e => by simp at e
  | a :: l, u, j, o, h, e => by
    simp only [Q7z] at h
    split at h
    · rename_i o' l' h1 h2; cases h; cases j with
      | zero => simp at e; subst e; exact ⟨o', rfl, h1⟩
      | succ j =>
        obtain ⟨q, q1, q2⟩ := Q3g h2 (by simpa using e); exact ⟨q, by simpa using q1, q2⟩
    cases h
theorem Q6E : ∀ {l u : List AObj}, Q7z n l = some u → u.length = l.length
  | [], _, h => by simp [Q7z] at h; subst h; rfl
  | a :: l, u, h => by
    simp only [Q7z] at h
    split at h
    · rename_i h2; cases h; simp [Q6E h2]
    cases h
end
noncomputable def Yv : Hp → List AObj → Hp
  | h, [] => h
  | h, o :: l => Yv (h.alloc o) l
theorem Q7W : ∀ (l : List AObj) (h : Hp), (Yv h l).n = h.n + l.length
  | [], h => rfl
  | o :: l, h => by rw [Yv, Q7W, Hp.n_alloc, List.length_cons]; omega
theorem Q1e : ∀ (l : List AObj) (h : Hp) (i : Nat), i < h.n → (Yv h l).get i = h.get i
  | [], _, _, _ => rfl
  | o :: l, h, i, hi => by rw [Yv, Q1e l _ i (by rw [Hp.n_alloc]; omega), Hp.get_alloc, if_neg (by omega)]
theorem Q7r : ∀ (l : List AObj) (h : Hp) (j : Nat) (o : AObj), l[j]? = some o → (Yv h l).get (h.n + j) = some o
  | [], _, _, _, e => by simp at e
  | a :: l, h, 0, o, e => by
    simp at e; subst e; rw [Yv, Nat.add_zero, Q1e l _ _ (by rw [Hp.n_alloc]; omega), Hp.get_alloc, if_pos rfl]
  | a :: l, h, j + 1, o, e => by
    have := Q7r l (h.alloc a) j o (by simpa using e); rw [Hp.n_alloc] at this; rw [Yv, show h.n + (j + 1) = h.n + 1 + j by omega]; exact this
theorem Qcu : ∀ (l : List AObj) (h : Hp) (i : Nat), h.n + l.length ≤ i → (∀ i, h.n ≤ i → h.get i = none) → (Yv h l).get i = none
  | [], h, i, hi, hf => hf i (by simpa using hi)
  | o :: l, h, i, hi, hf => by
    rw [List.length_cons] at hi; refine Qcu l _ i (by rw [Hp.n_alloc]; omega) fun j hj => ?_; rw [Hp.n_alloc] at hj; rw [Hp.get_alloc, if_neg (by omega)]; exact hf j (by omega)
def Q7D : List MapEntry → List MapEntry → Bool
  | [], [] => true
  | e :: l, f :: m => sameV 400 e.key f.key && sameV 400 e.val f.val && Nat.beq e.born f.born && Q7D l m
  | _, _ => false
def QcY : AObj → AObj → Bool
  | .cells c e m, .cells c' e' m' => sameV.sameL 400 c c' && Nat.beq e e' && Nat.beq m m'
  | .map es cl, .map es' cl' => Q7D es es' && Nat.beq cl cl'
  | _, _ => false
def Q15 : AObj → Bool
  | .dead => true
  | _ => false
noncomputable def Q12 (h : Hp) : Nat → List AObj → Bool
  | _, [] => true
  | i, o :: l => (Q15 o || match h.get i with
    | some u => QcY o u
    | none => false) && Q12 h (i + 1) l
theorem Q6K : ∀ {l m : List MapEntry}, Q7D l m = true → l = m
  | [], [], _ => rfl
  | [], _ :: _, h => by simp [Q7D] at h
  | _ :: _, [], h => by simp [Q7D] at h
  | e :: l, f :: m, h => by
    simp only [Q7D, Bool.and_eq_true] at h; obtain ⟨⟨⟨h1, h2⟩, h3⟩, h4⟩ := h; obtain ⟨k, v, b⟩ := e; obtain ⟨k', v', b'⟩ := f; simp only at h1 h2 h3; rw [Yd _ _ _ h1, Yd _ _ _ h2, (QG _ _).1 h3, Q6K h4]
theorem QaX {o u : AObj} (h : QcY o u = true) : o = u := by
  unfold QcY at h
  split at h
  · simp only [Bool.and_eq_true] at h; rw [Q6J 400 (Yd 400) _ _ h.1.1, (QG _ _).1 h.1.2, (QG _ _).1 h.2]
  · simp only [Bool.and_eq_true] at h; rw [Q6K h.1, (QG _ _).1 h.2]
  cases h
theorem Q3C {h : Hp} : ∀ {l : List AObj} {i j : Nat} {o : AObj}, Q12 h i l = true → l[j]? = some o → o = .dead ∨ h.get (i + j) = some o
  | [], _, _, _, _, e => by simp at e
  | a :: l, i, 0, o, h1, e => by
    simp at e; subst e; simp only [Q12, Bool.and_eq_true, Bool.or_eq_true] at h1; rcases h1.1 with h2 | h2
    · cases a <;> simp [Q15] at h2
      exact .inl rfl
    split at h2
    · rename_i u hu; rw [QaX h2]; exact .inr hu
    cases h2
  | a :: l, i, j + 1, o, h1, e => by
    simp only [Q12, Bool.and_eq_true] at h1; have := Q3C h1.2 (show l[j]? = some o by simpa using e); rw [show i + (j + 1) = i + 1 + j by omega]; exact this
noncomputable def Q0P (E : Env) (f : FuncId) (n : Nat) (h : Hp) (v0 : Value) (os : List AObj) : Bool :=
  match J0 E f [] h with
  | some s => (match Q4x E n s with
    | s' => (match Qa5 E f s' with
      | some v => sameV 400 v0 v && Nat.beq s'.h.n (256 + os.length) && Q12 s'.h 256 os
      | none => false))
  | none => false
noncomputable def Jy (v0 : Value) (os : List AObj) (h : Hp) : Option (Value × Hp) := match shV 400 h.n v0, Q7z h.n os with
  | some v, some l => some (v, Yv h l)
  | _, _ => none
theorem Q58 (E : Env) (hm : E.P.follows .mixedOrders = true) {f : FuncId} {n : Nat} {M0 : Mp} {h0 : Hp} {w : World} {v0 : Value} {os : List AObj} (H0 : HRel w (fun _ => False) M0 h0 w) (hr : Q0P E f n h0 v0 os = true) :
    Calls E.P f #[] w fun e w' => ∃ v' M1 H1, e = .returned v' ∧ HRel w (fun _ => False) M1 H1 w' ∧ VRel M1 v0 v' ∧ H1.n = 256 + os.length ∧ Q12 H1 256 os = true := by
  intro cs0; unfold Q0P at hr
  split at hr
  case h_2 => cases hr
  rename_i s0 hs; simp only at hr
  split at hr
  case h_2 => cases hr
  rename_i v1 he; simp only [Bool.and_eq_true] at hr; obtain ⟨⟨e1, e2⟩, e3⟩ := hr; have e1 := Yd _ _ _ e1; subst e1; have e2 := (QG _ _).1 e2; unfold J0 at hs
  split at hs
  case h_2 => cases hs
  rename_i fr hfr; cases hs
  haveI : FactX ((fun _ : Nat => False) w.heap.size → E.q = true) := ⟨fun h => h.elim⟩
  have R0 : Sim w (fun _ => False) E cs0 ⟨fr, [], h0⟩ (lone (Frame.enter E.P f #[] .normal) cs0 w) :=
    ⟨M0, 0, _, cs0, w, rfl, H0, Nat.zero_le _, Jg (args := (#[] : Array Value)) (by exact .nil _) (by simpa using hfr) h0 0, rfl⟩
  obtain ⟨m', St, M, lo, fr', cs', w', rfl, H, hlo, T, S⟩ := Q5P hm n R0; generalize Q4x E n ⟨fr, [], h0⟩ = s at he H T S hlo e2 e3; unfold Qa5 at he
  split at he
  case h_2 => cases he
  rename_i fn nt tm todo ro h; cases hfn : Nat.beq fn f with
  | false => rw [hfn, cond_false] at he; cases he
  | true =>
    rw [hfn, cond_true] at he; have e := (QG _ _).1 hfn; subst e
    split at he
    case h_2 => cases he
    rename_i fu hfu
    split at he
    case h_2 => cases he
    rename_i vs hvs; obtain ⟨fn', tmps, todo', df', md', kd', ro'⟩ := fr'; obtain ⟨h1, h2, h3, h4, h5, h6⟩ := T; simp only at h1 h2 h3 h4 h5 h6 H S e2 e3; subst h1; subst h2; cases md' <;> simp only [MdRel] at h5
    cases df' with
    | cons d l => exact h4.elim
    | nil =>
      obtain ⟨v', hr, hv⟩ := KF H hfu hvs h6; have hone : oneOf vs = v0 := Option.some.inj he; rw [hone] at hv; have hcs : cs' = cs0 := S; subst hcs; exact ⟨.returned v', w', _, ⟨v', M, h, rfl, H, hv, e2, e3⟩, St, rfl, rfl, rfl, rfl, fu, E.hfn _ fu hfu, hr⟩
theorem Q59 {W w w' : World} {B : Nat → Prop} {M M1 : Mp} {h H1 h' : Hp} {os : List AObj} {v0 v v' : Value} (hnb : ¬ B W.heap.size) (H : HRel W B M h w) (K : HRel w (fun _ => False) M1 H1 w') (hn : H1.n = 256 + os.length) (ho : Q12 H1 256 os = true)
    (hv : VRel M1 v0 v') (hF : Jy v0 os h = some (v, h')) : ∃ M', Ev M M' ∧ HRel W B M' h' w' ∧ Keep M h M' h' (fun _ => False) ∧ VRel M' v v' := by
  unfold Jy at hF
  split at hF
  case h_2 => cases hF
  rename_i u l hu hl; cases hF; have hlen := Q6E hl; have h255 : 256 ≤ h.n := H.kn 255 (H.glob 255 (Nat.le_refl _)).1; have hb : Below w.heap.size w w' := ⟨K.os, K.tape.1, K.output, K.size, fun b hb => K.old b hb id⟩; have H2 := H.below hnb hb
  let dd : Nat → Bool := fun j => match os[j]? with | some o => Q15 o | none => true
  let M' : Mp := ⟨fun i => if i < h.n then M.ρ i else if dd (i - h.n) then none else M1.ρ (256 + (i - h.n)), fun i => if i < h.n then M.K i else i < h.n + os.length ∧ M1.K (256 + (i - h.n)), fun i => if i < h.n then M.md i else M1.md (256 + (i - h.n))⟩
  have ev : Ev M M' := ⟨fun i hi => by simp only [M', if_pos (H.kn i hi)]; exact hi, fun i x hi hx => by simp only [M', if_pos (H.kn i hi)] at hx; exact hx, fun i hi => by simp only [M', if_pos (H.kn i hi)]⟩
  have mv : Moved M1 M' h.n := by
    refine ⟨fun i h1 h2 => ?_, fun i h1 h2 x hx => ?_, fun i h1 h2 => ?_⟩
    · have := K.kn i h2; simp only [M', if_neg (show ¬ h.n + (i - 256) < h.n by omega)]; refine ⟨by omega, ?_⟩; rw [show 256 + (h.n + (i - 256) - h.n) = i by omega]; exact h2
    · simp only [M', if_neg (show ¬ h.n + (i - 256) < h.n by omega)] at hx
      split at hx
      · cases hx
      rw [show 256 + (h.n + (i - 256) - h.n) = i by omega] at hx; exact hx
    simp only [M', if_neg (show ¬ h.n + (i - 256) < h.n by omega)]; rw [show 256 + (h.n + (i - 256) - h.n) = i by omega]
  have hnew : ∀ i b δ S, h.n ≤ i → M'.ρ i = some (b, δ, S) → ∃ j o, i = h.n + j ∧ j < os.length ∧ l[j]? = some o ∧ M1.ρ (256 + j) = some (b, δ, S) ∧ w.heap.size ≤ b ∧ ∃ x, w'.heap[b]? = some x ∧ M1.K (256 + j) ∧ ORel M' i o δ S x := fun i b δ S hi hx => by
    simp only [M', if_neg (show ¬ i < h.n by omega)] at hx
    split at hx
    · cases hx
    rename_i hd; obtain ⟨hk, o, x, g1, g2, g3⟩ := K.obj _ b δ S hx; have hlt := K.kn _ hk; have hj : i - h.n < os.length := by omega
    obtain ⟨o', q1, q2⟩ := Q3g hl (List.getElem?_eq_getElem hj)
    have hob : o = os[i - h.n] := by
      have := Q3C ho (List.getElem?_eq_getElem hj); rcases this with h1 | h1
      · exact absurd (show dd (i - h.n) = true by simp only [dd, List.getElem?_eq_getElem hj, h1, Q15]) hd
      rw [g1] at h1; exact Option.some.inj h1
    subst hob; refine ⟨i - h.n, o', by omega, hj, q1, hx, ?_, x, g2, hk, ?_⟩
    · rcases Nat.lt_or_ge b w.heap.size with hlt2 | hge
      · rcases K.own _ b δ S hx hlt2 with hf | ⟨c, e, hc⟩
        · exact hf.elim
        rw [g1] at hc; have hc2 := Option.some.inj hc; rw [hc2] at q2; simp [shO] at q2
      exact hge
    have := QcU mv (by omega) hk q2 g3; rw [show h.n + (256 + (i - h.n) - 256) = i by omega] at this; exact this
  refine ⟨M', ev, ⟨fun i b δ S hx => ?_, fun i j b δ S δ' S' hx hy => ?_, fun i hi => ?_, fun i hi => ?_, fun i hk hx => ?_, H2.os, H2.tape, H2.output, H2.size, H2.old, fun i b δ S hx hbl => ?_, fun i hi => ?_⟩, ⟨by rw [Q7W]; omega, fun i hi hk _ => ⟨by simp only [M', if_pos hi]; exact hk, Q1e l h i hi⟩⟩, Q1N mv _ _ _ _ hu hv⟩
  · by_cases hi : i < h.n
    · simp only [M', if_pos hi] at hx; obtain ⟨hk, o, x, g1, g2, g3⟩ := H2.obj i b δ S hx; exact ⟨by simp only [M', if_pos hi]; exact hk, o, x, by rw [Q1e l h i hi]; exact g1, g2, g3.mono ev hk⟩
    obtain ⟨j, o, e1, e2, e3, e4, e5, x, e6, e7, e8⟩ := hnew i b δ S (by omega) hx; refine ⟨by simp only [M', if_neg hi]; exact ⟨by omega, by rw [show i - h.n = j by omega]; exact e7⟩, o, x, ?_, e6, e8⟩; rw [e1]; exact Q7r l h j o e3
  · by_cases hi : i < h.n
    · by_cases hj : j < h.n
      · simp only [M', if_pos hi] at hx; simp only [M', if_pos hj] at hy; rcases H2.inj i j b δ S δ' S' hx hy with h1 | ⟨c, e, h1⟩
        · exact .inl h1
        exact .inr ⟨c, e, by rw [Q1e l h i hi]; exact h1⟩
      simp only [M', if_pos hi] at hx; obtain ⟨_, _, _, _, _, _, e5, _⟩ := hnew j b δ' S' (by omega) hy; obtain ⟨_, _, x, _, g2, _⟩ := H.obj i b δ S hx; have := (Array.getElem?_eq_some_iff.1 g2).1; omega
    obtain ⟨p, o, e1, e2, e3, e4, e5, x, e6, e7, e8⟩ := hnew i b δ S (by omega) hx; by_cases hj : j < h.n
    · simp only [M', if_pos hj] at hy; obtain ⟨_, _, x, _, g2, _⟩ := H.obj j b δ' S' hy; have := (Array.getElem?_eq_some_iff.1 g2).1; omega
    obtain ⟨p2, o2, f1, f2, f3, f4, f5, _⟩ := hnew j b δ' S' (by omega) hy; rcases K.inj _ _ b δ S δ' S' e4 f4 with h1 | ⟨c, e, h1⟩
    · exact .inl (by omega)
    have hob := Q3C ho (List.getElem?_eq_getElem e2); obtain ⟨o', q1, q2⟩ := Q3g hl (List.getElem?_eq_getElem e2); rcases hob with hob | hob
    · simp only [M', if_neg hi] at hx
      split at hx
      · cases hx
      rename_i hd; exact absurd (show dd (i - h.n) = true by rw [show i - h.n = p by omega]; simp only [dd, List.getElem?_eq_getElem e2, hob, Q15]) hd
    rw [h1] at hob; have hc2 := Option.some.inj hob; rw [← hc2] at q2; simp [shO] at q2
  · rw [Q7W]; simp only [M'] at hi
    split at hi
    · omega
    have := hi.1; omega
  · rw [Q7W] at hi; exact Qcu l h i hi H2.fresh
  · by_cases hi : i < h.n
    · simp only [M', if_pos hi] at hx hk; rw [Q1e l h i hi]; exact H2.live i hk hx
    simp only [M', if_neg hi] at hx hk; have hj : i - h.n < os.length := by omega
    obtain ⟨o', q1, q2⟩ := Q3g hl (List.getElem?_eq_getElem hj); have hat := Q7r l h (i - h.n) o' q1; rw [show h.n + (i - h.n) = i by omega] at hat; rw [hat]
    split at hx
    · rename_i hd; simp only [dd, List.getElem?_eq_getElem hj] at hd
      revert hd q2
      generalize os[i - h.n] = ob; intro q2 hd; cases ob <;> simp [Q15] at hd
      simp [shO] at q2; exact .inr (by rw [← q2])
    rename_i hd; rcases Q3C ho (List.getElem?_eq_getElem hj) with h1 | h1
    · exact absurd (show dd (i - h.n) = true by simp only [dd, List.getElem?_eq_getElem hj, h1, Q15]) hd
    rcases K.live _ hk.2 hx with h2 | h2
    · rw [h1] at h2; cases h2
    rw [h1] at h2; have := Option.some.inj h2; exact absurd (show dd (i - h.n) = true by simp only [dd, List.getElem?_eq_getElem hj, this, Q15]) hd
  · by_cases hi : i < h.n
    · simp only [M', if_pos hi] at hx; rcases H2.own i b δ S hx hbl with h1 | ⟨c, e, h1⟩
      · exact .inl h1
      exact .inr ⟨c, e, by rw [Q1e l h i hi]; exact h1⟩
    obtain ⟨j, o, e1, e2, e3, e4, e5, _⟩ := hnew i b δ S (by omega) hx; have := H.size; omega
  have hg := H.glob i hi; have hlt : i < h.n := by omega
  refine ⟨by simp only [M', if_pos hlt]; exact hg.1, fun b δ S hx => ?_⟩; simp only [M', if_pos hlt] at hx; exact hg.2 b δ S hx
theorem Q8C {W w : World} {B : Nat → Prop} {M : Mp} {h : Hp} {g : Nat} {cs : List Value} (h255 : g ≤ 255) (H : HRel W B M h w) (ht : QS g cs h = true) : ∃ e fr, w.heap[g]? = some (.cells cs.toArray e fr) := by
  unfold QS at ht
  split at ht
  case h_2 => cases ht
  rename_i c e m hg; rw [Bool.and_eq_true, Bool.and_eq_true, decide_eq_true_eq] at ht; obtain ⟨⟨hm1, hlen⟩, hall⟩ := ht; have hm1 := (QB _ _).1 hm1
  obtain ⟨hpl, hcc⟩ := Q1q hlen fun x hx => by
    have := List.all_eq_true.1 hall x hx; simp only [Bool.and_eq_true] at this; exact ⟨this.1.1, Yd 20 _ _ this.2⟩
  subst hcc; obtain ⟨hK, hpos⟩ := H.glob g h255; obtain ⟨b, δ, S, x, hρ, hx, c', fr, rfl, hS, hle, hcs, hm'⟩ := H.place hK hg (by simp); obtain ⟨rfl, rfl⟩ := hpos b δ S hρ
  have hsz : S = c.length := by
    rcases hm' with ⟨_, _, _, h4, _⟩ | ⟨_, _, _, h4⟩ | ⟨⟨s, h5, _⟩, _⟩
    · exact h4
    · exact h4
    omega
  have hc' : c' = c.toArray := by
    apply Array.toList_inj.1; apply List.ext_getElem?; intro i; show c'.toList[i]? = c[i]?; cases hi : c[i]? with
    | none =>
      rw [List.getElem?_eq_none_iff] at hi; rw [List.getElem?_eq_none (by rw [Array.length_toList]; omega)]
    | some v =>
      obtain ⟨u, hu, hvu⟩ := hcs i v hi; rw [Nat.zero_add] at hu; have := Jt 20 (hpl v (List.mem_of_getElem? hi)) hvu; subst this; rw [Array.getElem?_toList, hu]
  subst hc'; exact ⟨_, _, hx⟩
noncomputable def YO (v0 : Value) (os : List AObj) (args : List Value) (h : Hp) : Option (Value × Hp) := match args with
  | [] => Jy v0 os h
  | _ => none
noncomputable def Q0h (g : Nat) (cs : List Value) (v0 : Value) (os : List AObj) (args : List Value) (h : Hp) : Option (Value × Hp) := match args with
  | [] => cond (QS g cs h) (Jy v0 os h) none
  | _ => none
noncomputable def Q2W (E : Env) (f : FuncId) (n : Nat) (h : Hp) (v0 : Value) (os : List AObj) : Bool :=
  match J0 E f [] h with
  | some s => (match runQ E n s with
    | s' => (match Qa5 E f s' with
      | some v => sameV 400 v0 v && Nat.beq s'.h.n (256 + os.length) && Q12 s'.h 256 os
      | none => false))
  | none => false
theorem Q1y {E : Env} {f : FuncId} {n : Nat} {h : Hp} {v0 : Value} {os : List AObj} (e : Q2W E f n h v0 os = true) : ∃ m, Q0P E f m h v0 os = true := by
  unfold Q2W at e
  split at e
  · rename_i s hs; obtain ⟨m, hm⟩ := Q3m (E := E) n s; refine ⟨m, ?_⟩; unfold Q0P; rw [hs]; simp only [hm]; exact e
  cases e
theorem Q2b (E : Env) (hm : E.P.follows .mixedOrders = true) {f : Nat} {v0 : Value} {os : List AObj} (run : ∃ n, Q0P E f n Hp.empty v0 os = true) : Q1p E.P f (YO v0 os) := by
  intro W B M h w args args' v h' hnb H hv hF; unfold YO at hF
  split at hF
  case h_2 => cases hF
  have hargs : args' = #[] := Array.toList_inj.1 (List.eq_nil_of_length_eq_zero hv.1.symm); subst hargs; obtain ⟨n, run⟩ := run; refine (Q58 E hm (HRel.start w) run).mono fun e w' ⟨v', M1, H1, he, K, r, hn, ho⟩ => ?_; obtain ⟨M', h1, h2, h3, h4⟩ := Q59 hnb H K hn ho r hF; exact ⟨v', M', he, h1, h2, h3, h4⟩
theorem Q86 (E : Env) (hm : E.P.follows .mixedOrders = true) {f g : Nat} {cs : List Value} {v0 : Value} {os : List AObj} (h255 : g ≤ 255) (hp : ∀ v, v ∈ cs → Zt 4 v = true) (run : ∀ e, ∃ n, Q0P E f n (Q1h g cs e) v0 os = true) : Q1p E.P f (Q0h g cs v0 os) := by
  intro W B M h w args args' v h' hnb H hv hF; unfold Q0h at hF
  split at hF
  case h_2 => cases hF
  obtain ⟨ht, hF⟩ := Qi hF; have hargs : args' = #[] := Array.toList_inj.1 (List.eq_nil_of_length_eq_zero hv.1.symm); subst hargs; obtain ⟨e, fr, hx⟩ := Q8C h255 H ht; obtain ⟨n, hn⟩ := run e; have H0 := HRel.tab (cs := cs.toArray) hx (fun v hv => hp v (by simpa using hv)) h255; rw [List.toList_toArray] at H0; refine (Q58 E hm H0 hn).mono fun e w' ⟨v', M1, H1, he, K, r, hn, ho⟩ => ?_; obtain ⟨M', h1, h2, h3, h4⟩ := Q59 hnb H K hn ho r hF; exact ⟨v', M', he, h1, h2, h3, h4⟩
theorem Ext.app (h : Hp) (l : List AObj) : Ext h (Yv h l) := ⟨by rw [Q7W]; omega, fun i hi => Q1e l h i hi⟩
theorem KD.app : ∀ (l : List AObj) (h : Hp), KD h (Yv h l)
  | [], h => .refl h
  | o :: l, h => (KD.alloc h o).trans (KD.app l _)
def pcs (n : Nat) (l : List AObj) (js : List Nat) : List Res := js.map fun j => cR (n + j) ((l[j]?).getD .dead)
theorem Q3z (n : Nat) (l : List AObj) (js : List Nat) : owns (pcs n l js) = js.map (n + ·) := by
  induction js with
  | nil => rfl
  | cons j js ih => rw [pcs, List.map_cons, Zc, List.map_cons]; simp only [pcs] at ih; rw [ih]; rfl
theorem SH.app {h0 h : Hp} {ds : List Nat} {L : List Res} (S : SH h0 ds L h) (l : List AObj) (js : List Nat) (hj : js.all (fun j => Nat.blt j l.length) = true) (nd : js.Nodup) : SH h0 ds (pcs h.n l js ++ L) (Yv h l) := by
  have S2 := S.grow (Ext.app h l)
  have hlt : ∀ j, j ∈ js → j < l.length := fun j hm => by
    have := List.all_eq_true.1 hj j hm; exact (ZF _ _).1 this
  refine ⟨S2.ext, fun r hr => ?_, fun i hi => ?_, fun i hi => ?_, ?_⟩
  · rcases List.mem_append.1 hr with hr | hr
    · obtain ⟨j, hm, rfl⟩ := List.mem_map.1 hr; show (Yv h l).get (h.n + j) = _; rw [List.getElem?_eq_getElem (hlt j hm)]; exact Q7r l h j _ (List.getElem?_eq_getElem (hlt j hm))
    exact S2.hold r hr
  · rw [Zg, Q3z] at hi; rcases List.mem_append.1 hi with hi | hi
    · obtain ⟨j, hm, rfl⟩ := List.mem_map.1 hi; have := hlt j hm; rw [Q7W]; omega
    exact S2.lt i hi
  · rw [Zg, Q3z] at hi; rcases List.mem_append.1 hi with hi | hi
    · obtain ⟨j, hm, rfl⟩ := List.mem_map.1 hi; have := S.ext.n; exact .inr (by omega)
    exact S2.new i hi
  rw [Zg, Q3z, List.nodup_append]; refine ⟨?_, S.nd, fun i hi k hk e => ?_⟩
  · exact List.pairwise_map.2 (nd.imp fun h e => h (by omega))
  obtain ⟨j, hm, rfl⟩ := List.mem_map.1 hi; subst e; have := S.lt _ hk; omega
section
variable {E : Env} {fn : FuncId} {nt : Nat} {l : Kn} {h h0 : Hp} {dr : Bool} {ops : Array Oper} {fin rest : List (Oper × List Oper)} {R : Kn → Hp → Prop} {lt : List Oper} {ds : List Nat} {L : List Res}
variable {d : Nat} {ty : TypeId} {pos : String} {af : Array Edge} {gg : Option (Nat × Bool)}
theorem Q5O {f : FuncId} {ats : Array TypeId} {v0 : Value} {os : List AObj} {vOf : Nat → Value} {lOf : Nat → List AObj} (js : List Nat) (S : SH h0 ds L h) (g : Gd ops l gg) (hd : Nat.blt d nt = true) (ho : Qbb E f = true) (hn : E.orc f = none) (hF : E.sm f = some (YO v0 os))
    (hv : ∀ n, shV 400 n v0 = some (vOf n)) (hl : ∀ n, Q7z n os = some (lOf n)) (hj : ∀ n, js.all (fun j => Nat.blt j (lOf n).length) = true) (nd : js.Nodup)
    (ha : ∀ n h', h0.n ≤ n → SH h0 ds (pcs n (lOf n) js ++ L) h' → ∀ q, q ∈ lt → Again E ops ((d, vOf n) :: l) h' q)
    (q : ∀ n h', h0.n ≤ n → SH h0 ds (pcs n (lOf n) js ++ L) h' → WL E fn nt dr ops fin rest ((d, vOf n) :: l) h' R) :
    WL E fn nt dr ops fin ((⟨some d, .call ⟨.value (.func f), #[], ats⟩, ty, pos, af, gg⟩, lt) :: rest) l h R := by
  have hout : YO v0 os [] h = some (vOf h.n, Yv h (lOf h.n)) := by simp only [YO, Jy, hv, hl]
  have S' := S.app (lOf h.n) js (hj _) nd; exact Qcl [] g hd rfl ho hn hF rfl hout (KD.app _ _) (ha _ _ S.ext.n S') (q _ _ S.ext.n S')
theorem QaY {f : FuncId} {ats : Array TypeId} {gt : Nat} {cs : List Value} {v0 : Value} {os : List AObj} {vOf : Nat → Value} {lOf : Nat → List AObj} (js : List Nat) (S : SH h0 ds L h) (ht : QS gt cs h0 = true) (hlt : gt < h0.n) (hds : gt ∉ ds) (g : Gd ops l gg) (hd : Nat.blt d nt = true)
    (ho : Qbb E f = true) (hn : E.orc f = none) (hF : E.sm f = some (Q0h gt cs v0 os))
    (hv : ∀ n, shV 400 n v0 = some (vOf n)) (hl : ∀ n, Q7z n os = some (lOf n)) (hj : ∀ n, js.all (fun j => Nat.blt j (lOf n).length) = true) (nd : js.Nodup)
    (ha : ∀ n h', h0.n ≤ n → SH h0 ds (pcs n (lOf n) js ++ L) h' → ∀ q, q ∈ lt → Again E ops ((d, vOf n) :: l) h' q)
    (q : ∀ n h', h0.n ≤ n → SH h0 ds (pcs n (lOf n) js ++ L) h' → WL E fn nt dr ops fin rest ((d, vOf n) :: l) h' R) :
    WL E fn nt dr ops fin ((⟨some d, .call ⟨.value (.func f), #[], ats⟩, ty, pos, af, gg⟩, lt) :: rest) l h R := by
  have ht' : QS gt cs h = true := by
    unfold QS at *; rw [S.ext.get gt hlt hds]; exact ht
  have hout : Q0h gt cs v0 os [] h = some (vOf h.n, Yv h (lOf h.n)) := by simp only [Q0h, ht', cond_true, Jy, hv, hl]
  have S' := S.app (lOf h.n) js (hj _) nd; exact Qcl [] g hd rfl ho hn hF rfl hout (KD.app _ _) (ha _ _ S.ext.n S') (q _ _ S.ext.n S')
end
end Go.X
namespace Go.X
section
variable {E : Env} {fn : FuncId} {nt : Nat} {l : Kn} {h : Hp} {dr : Bool} {ops : Array Oper} {fin rest : List (Oper × List Oper)} {R : Kn → Hp → Prop} {lt : List Oper}
variable {d : Nat} {ty t ty2 : TypeId} {pos : String} {af : Array Edge} {gg : Option (Nat × Bool)} {x y : Operand}
theorem Yz {s : ByteArray} {k : IntKind} {j : Int} {b : UInt8} (g : Gd ops l gg) (hd : Nat.blt d nt = true) (hx : evl l x = some (.string s)) (hy : evl l y = some (.int k j)) (ht : Qbw E t = true) (h1 : 0 ≤ j) (hb : s[j.toNat]? = some b)
    (q : WL E fn nt dr ops fin rest ((d, .int .u8 (b.toNat : Nat)) :: l) h R) : WL E fn nt dr ops fin ((⟨some d, .index t x y, ty, pos, af, gg⟩, lt) :: rest) l h R :=
  QR g rfl (fun _ ag => by simp only [QL, ag.ev hx, ag.ev hy, Q55, Yk h1, Q50 ht, hb]) (wn hd) q
theorem o_or8 {a b : Int} (g : Gd ops l gg) (hd : Nat.blt d nt = true) (hx : evl l x = some (.int .u8 a)) (hy : evl l y = some (.int .u8 b)) (q : WL E fn nt dr ops fin rest ((d, .int .u8 (IntKind.u8.wrap ((BitVec.ofInt 8 a ||| BitVec.ofInt 8 b).toNat : Nat))) :: l) h R) :
    WL E fn nt dr ops fin ((⟨some d, .binOp .or t x y ty2, ty, pos, af, gg⟩, lt) :: rest) l h R :=
  JG g hd hx hy rfl (by simp only [Zv, Z6, Yw]; rfl) q
theorem Q70 {s u : ByteArray} (g : Gd ops l gg) (hd : Nat.blt d nt = true) (hx : evl l x = some (.string s)) (hy : evl l y = some (.string u)) (hs : s.size + u.size < 9223372036854775808) (q : WL E fn nt dr ops fin rest ((d, .string (s ++ u)) :: l) h R) :
    WL E fn nt dr ops fin ((⟨some d, .binOp .add t x y ty2, ty, pos, af, gg⟩, lt) :: rest) l h R :=
  QR g rfl (fun _ ag => by
    have : ¬ (((s.size + u.size : Nat) : Int) > IntKind.i64.max) := by
      have e : IntKind.i64.max = 9223372036854775807 := by decide
      rw [e]; omega
    simp only [QL, ag.ev hx, ag.ev hy, Q45, Q1I, this, decide_false, cond_false]) (wn hd) q
end
theorem QaV {E : Env} {h : Hp} {t e by' n j : Nat} {s : Value} {xs : List Value} {bs : List Nat} (el : ElN E t e 0 by') (x : SlC e 0 h s xs n bs) (hj : j ≤ n) :
    ∃ v, Zk E h t s (some (.int .i64 (j : Nat))) none none = some v ∧ RowV h v (xs.drop j) := by
  have h1 : KI (.int .i64 (j : Nat)) = some j := by
    have := Yk (k := .i64) (j := (j : Int)) (by omega); simpa using this
  rcases x with ⟨rfl, rfl, rfl, rfl⟩ | ⟨b, m, c, rest, rfl, hb, hm, hlt, rfl, hl, hnc, hr⟩
  · obtain rfl : j = 0 := by omega
    exact ⟨.slice none 0 0, by simp only [Zk, el.und, el.size, Zi, h1], .nil⟩
  have hbo : Y1 j n c = true := ZE.2 ⟨by omega, by omega⟩; have hlen : xs.length = n := by omega
  rcases hm with rfl | rfl
  · by_cases e0 : c = j
    · subst e0; obtain rfl : n = c := by omega
      refine ⟨.slice (some ⟨b, 0, none⟩) (n - n) (n - n), by simp only [Zk, el.und, el.size, Zi, h1, Zo, hb, hbo, cond_true, Nat.beq_refl], .inl ⟨?_, _, _, by rw [Nat.sub_self]⟩⟩; rw [List.drop_eq_nil_of_le (by omega)]
    have e2 : Nat.beq c j = false := (QK _ _).2 e0; refine ⟨.slice (some ⟨b, j, none⟩) (n - j) (c - j), by simp only [Zk, el.und, el.size, Zi, h1, Zo, hb, hbo, cond_true, e2, cond_false, addr_add, Nat.zero_add, Nat.mul_one], .inr ⟨b, j, c - j, _, e, 0, by rw [List.length_drop, hlen], hb, hlt, fun i hi => ?_⟩⟩; rw [List.length_drop] at hi; rw [List.getElem?_append_left (by omega), List.getElem_drop, List.getElem?_eq_getElem]
  refine ⟨.slice (some ⟨b, j, none⟩) (n - j) (c - j), by simp only [Zk, el.und, el.size, Zi, h1, Zo, hb, hbo, Nat.beq_refl, Bool.and_self, cond_true, addr_add, Nat.zero_add, Nat.mul_one], .inr ⟨b, j, c - j, _, e, _, by rw [List.length_drop, hlen], hb, hlt, fun i hi => ?_⟩⟩; rw [List.length_drop] at hi; rw [List.getElem?_append_left (by omega), List.getElem_drop, List.getElem?_eq_getElem]
section
variable {E : Env} {fn : FuncId} {nt : Nat} {l : Kn} {h : Hp} {dr : Bool} {ops : Array Oper} {fin rest : List (Oper × List Oper)} {R : Kn → Hp → Prop} {lt : List Oper}
variable {d : Nat} {ty t ty2 : TypeId} {pos : String} {af : Array Edge} {gg : Option (Nat × Bool)} {x y : Operand}
def JI : Value → Bool
  | .nilFunc => true
  | _ => false
theorem o_eqfN {u : Value} (g : Gd ops l gg) (hd : Nat.blt d nt = true) (hx : evl l x = some u) (hy : evl l y = some .nilFunc) (hb : isF E t = true) (hu : u = .nilFunc ∨ ∃ f a b, u = .func f a b) (q : WL E fn nt dr ops fin rest ((d, .bool (JI u)) :: l) h R) :
    WL E fn nt dr ops fin ((⟨some d, .binOp .eql t x y ty2, ty, pos, af, gg⟩, lt) :: rest) l h R :=
  QR g rfl (fun _ ag => by
    unfold isF at hb
    split at hb
    · rename_i he; rcases hu with rfl | ⟨f, a, b, rfl⟩ <;> simp only [QL, ag.ev hx, ag.ev hy, Q45, ZZ, he, Z1, JI]
    cases hb) (wn hd) q
theorem Q9g {u : Value} (g : Gd ops l gg) (hd : Nat.blt d nt = true) (hx : evl l x = some u) (hy : evl l y = some .nilFunc) (hb : isF E t = true) (hu : u = .nilFunc ∨ ∃ f a b, u = .func f a b) (q : WL E fn nt dr ops fin rest ((d, .bool (!JI u)) :: l) h R) :
    WL E fn nt dr ops fin ((⟨some d, .binOp .neq t x y ty2, ty, pos, af, gg⟩, lt) :: rest) l h R :=
  QR g rfl (fun _ ag => by
    unfold isF at hb
    split at hb
    · rename_i he; rcases hu with rfl | ⟨f, a, b, rfl⟩ <;> simp only [QL, ag.ev hx, ag.ev hy, Q45, ZZ, he, Z1, JI]
    cases hb) (wn hd) q
end
theorem Qal (s : ByteArray) (i : Nat) : s[i]? = s.toList[i]? := by
  rw [ByteArray.toList_eq]; simp only [getElem?_def]; rfl
theorem Qak (s : ByteArray) : s.size = s.toList.length := by
  rw [ByteArray.toList_eq]; rfl
end Go.X
namespace Go.X
def RowG (h : Hp) (v : Value) (xs : List Value) : Prop :=
  (xs = [] ∧ (v = .slice none 0 0 ∨ ∃ a c, v = .slice (some a) 0 c)) ∨
  ∃ b o c cs e m, v = .slice (some ⟨b, o, none⟩) xs.length c ∧ xs.length ≤ c ∧ h.get b = some (.cells cs e m) ∧ b < h.n ∧ (m = 0 ∨ m = 1 ∨ m = 3) ∧ ∀ i (hi : i < xs.length), cs[o + i]? = some xs[i]
section
variable {E : Env} {h h' : Hp} {v : Value} {xs : List Value} {t e by' : Nat}
theorem RowG.row (x : RowG h v xs) : RowV h v xs := by
  rcases x with ⟨rfl, rfl | ⟨a, c, rfl⟩⟩ | ⟨b, o, c, cs, e, m, h1, _, h2, h3, _, h4⟩
  · exact .inl ⟨rfl, _, _, rfl⟩
  · exact .inl ⟨rfl, _, _, rfl⟩
  exact .inr ⟨b, o, c, cs, e, m, h1, h2, h3, h4⟩
theorem RowG.ext (x : RowG h v xs) (g : Ext h h') : RowG h' v xs := by
  rcases x with x | ⟨b, o, c, cs, e, m, h1, h5, h2, h3, h6, h4⟩
  · exact .inl x
  exact .inr ⟨b, o, c, cs, e, m, h1, h5, (g.get b h3).trans h2, Nat.lt_of_lt_of_le h3 g.n, h6, h4⟩
theorem QcS {a : Addr} {c : Nat} (el : ElN E t e 0 by') : Zk E h t (.slice (some a) 0 c) (some (.int .i64 ((0 : Nat) : Int))) none none = some (.slice (some a) 0 c) := by
  have h1 : KI (.int .i64 ((0 : Nat) : Int)) = some 0 := rfl; simp only [Zk, el.und, el.size, Zi, h1]; cases hm : Zo h a with
  | none => rfl
  | some m =>
    match m with
    | 0 => simp [YU, Ya]
    | 1 => simp [YU, Ya]
    | s + 2 =>
      simp only [Ya, Bool.true_and, Q2g, YU, Nat.zero_mul, Nat.sub_zero]; cases Nat.beq s _ <;> simp
theorem Q8J {j : Nat} (el : ElN E t e 0 by') (x : RowG h v xs) (hj : j ≤ xs.length) : ∃ v', RowV h v' (xs.drop j) ∧ ∀ g, Ext h g → Zk E g t v (some (.int .i64 (j : Nat))) none none = some v' := by
  have h1 : KI (.int .i64 (j : Nat)) = some j := by
    have := Yk (k := .i64) (j := (j : Int)) (by omega); simpa using this
  rcases x with ⟨rfl, rfl | ⟨a, c, rfl⟩⟩ | ⟨b, o, c, cs, e, m, rfl, hc, hb, hlt, hm, hat⟩
  · obtain rfl : j = 0 := by simpa using hj
    exact ⟨.slice none 0 0, .nil, fun g _ => by simp only [Zk, el.und, el.size, Zi, h1]⟩
  · obtain rfl : j = 0 := by simpa using hj
    exact ⟨.slice (some a) 0 c, .inl ⟨rfl, _, _, rfl⟩, fun g _ => QcS el⟩
  have hbo : Y1 j xs.length c = true := ZE.2 ⟨hj, hc⟩
  have key : ∀ v', RowV h v' (xs.drop j) → (∀ g, g.get b = some (.cells cs e m) → Zk E g t (.slice (some ⟨b, o, none⟩) xs.length c) (some (.int .i64 (j : Nat))) none none = some v') → ∃ v', RowV h v' (xs.drop j) ∧ ∀ g, Ext h g → Zk E g t (.slice (some ⟨b, o, none⟩) xs.length c) (some (.int .i64 (j : Nat))) none none = some v' :=
    fun v' hr hs => ⟨v', hr, fun g hg => hs g ((hg.get b hlt).trans hb)⟩
  have hrow : RowV h (.slice (some ⟨b, o + j, none⟩) (xs.length - j) (c - j)) (xs.drop j) := .inr ⟨b, o + j, c - j, cs, e, m, by rw [List.length_drop], hb, hlt, fun i hi => by
    rw [List.length_drop] at hi
    rw [List.getElem_drop, Nat.add_assoc]; exact hat _ _⟩
  by_cases e0 : c = j
  · subst e0; obtain he : xs.length = c := by omega
    rcases hm with rfl | rfl | rfl
    · exact key (.slice (some ⟨b, o, none⟩) (xs.length - c) (c - c)) (.inl ⟨by rw [List.drop_eq_nil_of_le (by omega)], _, _, by rw [show xs.length - c = 0 by omega]⟩) fun g hg => by simp only [Zk, el.und, el.size, Zi, h1, Zo, hg, hbo, cond_true, Nat.beq_refl]
    · exact key (.slice (some ⟨b, o, none⟩) (xs.length - c) (c - c)) (.inl ⟨by rw [List.drop_eq_nil_of_le (by omega)], _, _, by rw [show xs.length - c = 0 by omega]⟩) fun g hg => by simp only [Zk, el.und, el.size, Zi, h1, Zo, hg, hbo, cond_true, Nat.beq_refl]
    exact key _ hrow fun g hg => by simp only [Zk, el.und, el.size, Zi, h1, Zo, hg, hbo, Nat.beq_refl, Bool.and_self, cond_true, addr_add, Nat.zero_add, Nat.mul_one]
  have e2 : Nat.beq c j = false := (QK _ _).2 e0; rcases hm with rfl | rfl | rfl
  · exact key _ hrow fun g hg => by simp only [Zk, el.und, el.size, Zi, h1, Zo, hg, hbo, cond_true, e2, cond_false, addr_add, Nat.zero_add, Nat.mul_one]
  · exact key _ hrow fun g hg => by simp only [Zk, el.und, el.size, Zi, h1, Zo, hg, hbo, cond_true, e2, cond_false, addr_add, Nat.zero_add, Nat.mul_one]
  exact key _ hrow fun g hg => by simp only [Zk, el.und, el.size, Zi, h1, Zo, hg, hbo, Nat.beq_refl, Bool.and_self, cond_true, addr_add, Nat.zero_add, Nat.mul_one]
end
end Go.X
namespace Go.X
def Qew (t k nt : Nat) (ity : IntKind) : List Oper → Option (Int × Nat)
  | [⟨some r, .binOp .eql _ (.tmp k') (.const (.int ity' c)) _, _, _, _, none⟩, ⟨some t', .assign (.tmp r'), _, _, _, none⟩] =>
    cond (Nat.beq k' k && decide (ity' = ity) && Nat.beq t' t && Nat.beq r' r && Nat.blt r nt && Nat.blt t nt && decide (r ≠ k) && decide (t ≠ k)) (some (c, r)) none
  | _ => none
def Qa3 (t k nt : Nat) (ity : IntKind) : Code → Option (List (Int × Nat))
  | .region _ ops dr => cond (!dr && QW ops) ((Qew t k nt ity ops.toList).map fun p => [p]) none
  | .seq (.region _ ops dr) (.cond (.tmp t') .skip rest) => cond (!dr && QW ops && Nat.beq t' t) (match Qew t k nt ity ops.toList, Qa3 t k nt ity rest with
    | some p, some r => some (p :: r)
    | _, _ => none) none
  | _ => none
theorem Q5k {t k nt : Nat} {ity : IntKind} {ops : List Oper} {c : Int} {r : Nat} (h : Qew t k nt ity ops = some (c, r)) :
    ∃ t1 t2 t3 p1 a1 t4 p2 a2, ops = [⟨some r, .binOp .eql t1 (.tmp k) (.const (.int ity c)) t2, t3, p1, a1, none⟩, ⟨some t, .assign (.tmp r), t4, p2, a2, none⟩] ∧ Nat.blt r nt = true ∧ Nat.blt t nt = true ∧ r ≠ k ∧ t ≠ k := by
  unfold Qew at h
  split at h
  · rename_i r1 t1 k' ity' c1 t2 t3 p1 a1 t' r' t4 p2 a2; cases hq : (Nat.beq k' k && decide (ity' = ity) && Nat.beq t' t && Nat.beq r' r1 && Nat.blt r1 nt && Nat.blt t nt && decide (r1 ≠ k) && decide (t ≠ k)) with
    | false => rw [hq] at h; cases h
    | true =>
      rw [hq] at h; cases h; simp only [Bool.and_eq_true, decide_eq_true_eq] at hq; obtain ⟨⟨⟨⟨⟨⟨⟨h1, rfl⟩, h3⟩, h4⟩, h5⟩, h6⟩, h7⟩, h8⟩ := hq; have h1 := Nat.eq_of_beq_eq_true h1; have h3 := Nat.eq_of_beq_eq_true h3; have h4 := Nat.eq_of_beq_eq_true h4; subst h1; subst h3; subst h4; exact ⟨_, _, _, _, _, _, _, _, rfl, h5, h6, h7, h8⟩
  cases h
section
variable {E : Env} {fn : FuncId} {nt : Nat} {h : Hp} {Q : Out → Kn → Hp → Prop} {t k : Nat} {ity : IntKind} {K : Int}
theorem Qbu {l : Kn} {t : Nat} {v : Value} : lk ((t, v) :: l) t = some v := by simp [lk]
theorem Q4R {l : Kn} {t i : Nat} {v : Value} (h : i ≠ t) : lk ((t, v) :: l) i = lk l i := by
  have : Nat.beq t i = false := by
    cases e : Nat.beq t i with
    | false => rfl
    | true => exact absurd (Nat.eq_of_beq_eq_true e).symm h
  simp [lk, this]
theorem Qcc {l : Kn} {id : Nat} {ops : Array Oper} {c : Int} {r : Nat} (ho : QW ops = true) (h1 : Qew t k nt ity ops.toList = some (c, r)) (hk : lk l k = some (.int ity K))
    (q : Q .next ((t, .bool (decide (K = c))) :: (r, .bool (decide (K = c))) :: l) h) : W E fn nt (.region id ops false) l h Q := by
  obtain ⟨t1, t2, t3, p1, a1, t4, p2, a2, e, hr, ht, hrk, htk⟩ := Q5k h1; refine Q8 ho ?_; rw [e]; refine Qq gn hr hk rfl ?_; refine Q3 gn ht Qbu ?_; exact Q5 q
theorem w_eqs : ∀ (rs : List (Int × Nat)) (c : Code), Qa3 t k nt ity c = some rs → ∀ (l : Kn), lk l k = some (.int ity K) → ∀ Q : Out → Kn → Hp → Prop, (∀ l', (∀ i, i ≠ t → i ∉ rs.map Prod.snd → lk l' i = lk l i) → lk l' t = some (.bool (decide (K ∈ rs.map Prod.fst))) → Q .next l' h) → W E fn nt c l h Q := by
  intro rs
  induction rs with
  | nil =>
    intro c e
    exfalso
    unfold Qa3 at e
    split at e
    · rename_i id ops dr; cases hq : (!dr && QW ops) <;> rw [hq] at e
      · cases e
      cases h1 : Qew t k nt ity ops.toList <;> rw [h1] at e <;> cases e
    · rename_i id ops dr t' rest; cases hq : (!dr && QW ops && Nat.beq t' t) <;> rw [hq] at e
      · cases e
      simp only [cond_true] at e
      split at e <;> cases e
    cases e
  | cons p r ih =>
    intro c e l hk Q q; unfold Qa3 at e
    split at e
    · rename_i id ops dr; cases dr with
      | true => cases e
      | false =>
      cases hc : QW ops with
      | false => rw [hc] at e; cases e
      | true =>
      rw [hc] at e; simp only [Bool.not_false, Bool.and_self, cond_true, Option.map_eq_some_iff] at e; obtain ⟨⟨c, r1⟩, h1, e⟩ := e; cases e; refine Qcc hc h1 hk (q _ (fun i hi hm => ?_) ?_)
      · rw [Q4R hi, Q4R (by simpa using hm)]
      rw [Qbu]; simp
    · rename_i id ops dr t' rest; cases dr with
      | true => cases e
      | false =>
      cases hc : QW ops with
      | false => rw [hc] at e; cases e
      | true =>
      cases htt : Nat.beq t' t with
      | false => rw [htt, Bool.and_false] at e; cases e
      | true =>
      rw [hc, htt] at e; have htt := Nat.eq_of_beq_eq_true htt; subst htt; simp only [Bool.not_false, Bool.and_self, cond_true] at e
      split at e
      · rename_i p' r' h1 h2; cases e; obtain ⟨c, r1⟩ := p; refine Qj (Qcc hc h1 hk ?_); show W E fn nt (.cond _ _ _) _ _ _; obtain ⟨_, _, _, _, _, _, _, _, _, hr, ht, hrk, htk⟩ := Q5k h1; refine Qa (t := decide (K = c)) Qbu (fun hb => ?_) fun hb => ?_
        · refine Qe (q _ (fun i hi hm => ?_) ?_)
          · simp at hm; rw [Q4R hi, Q4R hm.1]
          rw [Qbu]; simp only [List.map_cons, List.mem_cons]; simp only [decide_eq_true_eq] at hb; simp [hb]
        have hk' : lk ((t', .bool (decide (K = c))) :: (r1, .bool (decide (K = c))) :: l) k = some (.int ity K) := by
          rw [Q4R (fun e => htk e.symm), Q4R (fun e => hrk e.symm)]; exact hk
        refine ih rest h2 _ hk' _ fun l' hl ht2 => q l' (fun i hi hm => ?_) ?_
        · simp at hm; rw [hl i hi (by simpa using hm.2), Q4R hi, Q4R hm.1]
        rw [ht2]; simp only [List.map_cons, List.mem_cons]; simp only [decide_eq_false_iff_not] at hb; simp [hb]
      cases e
    cases e
theorem Q6z {l l' : Kn} {ban : List Nat} (h : ∀ i, i ∉ ban → lk l' i = lk l i) : ∀ {m : Kn}, Sub m l → (m.map Prod.fst).all (fun i => !ban.elem i) = true → Sub m l'
  | [], _, _ => trivial
  | (i, v) :: m, hs, hk => by
    simp only [List.map_cons, List.all_cons, Bool.and_eq_true] at hk; refine ⟨?_, Q6z h hs.2 hk.2⟩; rw [h i (by simpa using hk.1)]; exact hs.1
theorem Zq {Q : Out → Kn → Hp → Prop} {id : Nat} {l : Kn} {h : Hp} (q : Q .next l h) : Blk id Q .next l h := q
theorem Ky {S A B : Code} {l : Kn} (k : Nat) (rs : List (Int × Nat)) (lc : Kn) (hS : Qa3 t k nt ity S = some rs) (hk : lk l k = some (.int ity K)) (hs : Sub lc l) (hb : (lc.map Prod.fst).all (fun i => !(t :: rs.map Prod.snd).elem i) = true)
    (qa : decide (K ∈ rs.map Prod.fst) = true → W E fn nt A lc h Q) (qb : decide (K ∈ rs.map Prod.fst) = false → W E fn nt B lc h Q) : W E fn nt (.seq S (.cond (.tmp t) A B)) l h Q := by
  refine Qj (w_eqs rs S hS l hk _ fun l' hl ht => ?_); show W E fn nt (.cond _ _ _) l' h Q; have hs' : Sub lc l' := Q6z (fun i hi => hl i (fun e => hi (by simp [e])) (fun e => hi (List.mem_cons_of_mem _ e))) hs hb; exact Qa ht (fun e => Q4g lc hs' (qa e)) fun e => Q4g lc hs' (qb e)
end
end Go.X
namespace Go.X
section
variable {h0 h g g1 g2 : Hp} {ds : List Nat} {L L0 : List Res} {r r' : Res} {b i j : Nat} {o : AObj}
theorem SH.two (S0 : SH h0 [] L0 g) (hd : ∀ k, k ∈ ds → h0.n ≤ k) (S : SH g ds L h) (hg : h0.get b = some o) (hb : b < h0.n) : h.get b = some o :=
  S.old (S0.old0 hg hb) (Nat.lt_of_lt_of_le hb S0.ext.n) fun hm => by have := hd b hm; omega
theorem SH.all0 (S0 : SH h0 [] L0 g) (hd : ∀ k, k ∈ ds → h0.n ≤ k) (S : SH g ds L h) : Ext h0 h := ⟨Nat.le_trans S0.ext.n S.ext.n, fun k hk => by
  rw [S.ext.get k (Nat.lt_of_lt_of_le hk S0.ext.n) fun hm => by have := hd k hm; omega]
  exact S0.ext.get k hk (by simp)⟩
theorem SH.own0 (S0 : SH h0 [] [r] g) : ∀ k, k ∈ r.own → h0.n ≤ k := fun k hk => by
  rcases S0.new k (by rw [Zc]; exact List.mem_append_left _ hk) with h | h
  · cases h
  exact h
theorem SH.enter (S0 : SH h0 [] [r] g) : SH g r.own [r] g := by
  have e : owns [r] = r.own := by simp [owns]
  refine SH.one (S0.res 0 rfl) (fun i hi => S0.lt i (by rw [e]; exact hi)) ?_; have := S0.nd; rwa [e] at this
theorem SH.sub1 (S0 : SH h0 [] L0 g) (hd : ∀ k, k ∈ ds → h0.n ≤ k) (S : SH g ds L g1) (i : Nat) (e : L[i]? = some r) : SH h0 [] [r] g1 := by
  have e1 : owns [r] = r.own := by simp [owns]
  refine ⟨(S0.all0 hd S).b [], fun q hq => ?_, fun k hk => ?_, fun k hk => ?_, ?_⟩
  · rw [List.mem_singleton] at hq; subst hq; exact S.res i e
  · rw [e1] at hk; exact S.lt k (Z7 (List.mem_of_getElem? e) hk)
  · rw [e1] at hk; rcases S.new k (Z7 (List.mem_of_getElem? e) hk) with h | h
    · exact .inr (hd k h)
    exact .inr (Nat.le_trans S0.ext.n h)
  rw [e1]; obtain ⟨A, B, rfl, _⟩ := Q3x e r; have := S.nd; rw [Zg, Zc, List.nodup_append] at this; exact (List.nodup_append.1 this.2.1).1
theorem SH.pick (S : SH h0 ds L h) (i : Nat) (e : L[i]? = some r) : SH h0 ds [r] h := by
  have e1 : owns [r] = r.own := by simp [owns]
  have hm := List.mem_of_getElem? e; refine ⟨S.ext, fun q hq => ?_, fun k hk => S.lt k (Z7 hm (by rw [← e1]; exact hk)), fun k hk => S.new k (Z7 hm (by rw [← e1]; exact hk)), ?_⟩
  · rw [List.mem_singleton] at hq; subst hq; exact S.res i e
  rw [e1]; obtain ⟨A, B, rfl, _⟩ := Q3x e r; have := S.nd; rw [Zg, Zc, List.nodup_append] at this; exact (List.nodup_append.1 this.2.1).1
theorem SH.ret (S : SH g ds L g1) (i : Nat) (e : L[i]? = some r) (S2 : SH g1 r.own [r'] g2) : SH g ds (L.set i r') g2 := by
  have e1 : owns [r'] = r'.own := by simp [owns]
  refine S.upd i e S2.ext (S2.res 0 rfl) (fun j hj => S2.lt j (by rw [e1]; exact hj)) (fun j hj => S2.new j (by rw [e1]; exact hj)) ?_; have := S2.nd; rwa [e1] at this
theorem SH.apart (S : SH h0 ds L h) (i j : Nat) (e1 : L[i]? = some (cR b o)) (e2 : L[j]? = some r) (hij : i ≠ j) : b ∉ r.own := Q2J S.nd hij e1 e2 b (by simp [cR])
end
end Go.X
namespace Go.X
open Go.Shelf Go.RowKit Go.Sort
theorem Q4l {W : World} {B : Nat → Prop} {M : Mp} {h : Hp} {w : World} (H : HRel W B M h w) {g : Nat} {cs : List Value} (h255 : g ≤ 255) (ht : QS g cs h = true) : ∃ e fr, w.heap[g]? = some (.cells cs.toArray e fr) := by
  unfold QS at ht
  split at ht
  case h_2 => cases ht
  rename_i c e m hg; rw [Bool.and_eq_true, Bool.and_eq_true, decide_eq_true_eq] at ht; obtain ⟨⟨hm1, hlen⟩, hall⟩ := ht; have hm1 := (QB _ _).1 hm1
  obtain ⟨hpl, hcc⟩ := Q1q hlen fun x hx => by
    have := List.all_eq_true.1 hall x hx; simp only [Bool.and_eq_true] at this; exact ⟨this.1.1, Yd 20 _ _ this.2⟩
  subst hcc; obtain ⟨hK, hpos⟩ := H.glob g h255; obtain ⟨b, δ, S, x, hρ, hx, c', fr, rfl, hS, hle, hcs, hm'⟩ := H.place hK hg (by simp); obtain ⟨rfl, rfl⟩ := hpos b δ S hρ
  have hsz : S = c.length := by
    rcases hm' with ⟨_, _, _, h4, _⟩ | ⟨_, _, _, h4⟩ | ⟨⟨s, h5, _⟩, _⟩
    · exact h4
    · exact h4
    omega
  have hc' : c' = c.toArray := by
    apply Array.toList_inj.1; apply List.ext_getElem?; intro i; show c'.toList[i]? = c[i]?; cases hi : c[i]? with
    | none =>
      rw [List.getElem?_eq_none_iff] at hi; rw [List.getElem?_eq_none (by rw [Array.length_toList]; omega)]
    | some v =>
      obtain ⟨u, hu, hvu⟩ := hcs i v hi; rw [Nat.zero_add] at hu; have := Jt 20 (hpl v (List.mem_of_getElem? hi)) hvu; subst this; rw [Array.getElem?_toList, hu]
  subst hc'; exact ⟨_, _, hx⟩
noncomputable def Qev (g : Nat) (args : List Value) (h : Hp) : Option (Value × Hp) := match args with
  | [.int .i64 n, .int .i64 b] => cond (QS g (Lib.pow10Tab.map (Value.int .u64)) h && decide (b = 10) && decide (-9223372036854775808 ≤ n) && decide (n ≤ 9223372036854775807)) (some (.string ⟨(Lib.itoa n).toArray⟩, h)) none
  | _ => none
theorem below_drewN {B : Nat} {a w : World} (h : Below B a w) (k : Nat) : Below B a (w.drewN k) := ⟨h.os, h.tape, h.output, h.size, h.block⟩
theorem below_grow {B : Nat} {a w : World} (h : Below B a w) (hB : B ≤ w.heap.size) (os : Array Obj) : Below B a (grow w os) :=
  ⟨h.os, h.tape, h.output, Nat.le_trans h.size (by show w.heap.size ≤ (w.heap ++ os).size; rw [Array.size_append]; omega), fun k hk => by
    rw [← h.block k hk]; show (w.heap ++ os)[k]? = _
    rw [Array.getElem?_append_left (by omega)]⟩
variable {P : Program} {ρ : Ren}
theorem Qea (L : Go.Proofs.LaysM.n173 P ρ) {g : Nat} (hn : P.globalNamed "internal/strconv.uint64pow10" = some g) (h255 : g ≤ 255) : Q1p P (ρ.f 173) (Qev g) := by
  intro W B M h w args args' v h' hnb H hv hF; unfold Qev at hF
  split at hF
  case h_2 => cases hF
  rename_i n b; obtain ⟨hc, hF⟩ := Qi hF; cases hF; simp only [Bool.and_eq_true, decide_eq_true_eq] at hc; obtain ⟨⟨⟨ht, rfl⟩, h0⟩, h1⟩ := hc
  have hargs : args' = #[.int .i64 n, .int .i64 10] := by
    apply Array.toList_inj.1; generalize args'.toList = l at hv; obtain ⟨hl, hv⟩ := hv
    match l, hl with
    | [a, c], _ =>
      have e1 := hv 0 _ _ rfl rfl; have e2 := hv 1 _ _ rfl rfl; cases e1; cases e2; rfl
  subst hargs; obtain ⟨e, fr, hg⟩ := Q4l H h255 ht
  have hT : Lib.TabIs P w "internal/strconv.uint64pow10" .u64 Lib.pow10Tab := by
    unfold Lib.TabIs World.var?; rw [hn]; simp only [Option.bind_some, hg]
  refine (Go.Proofs.Any.strconv_FormatInt_10 L n h0 h1 w hT).mono fun e' w' ⟨he, k, os, hw⟩ => ?_; subst hw; exact ⟨_, M, he, .refl M, H.below hnb (below_grow (below_drewN (Below.refl _ w) k) (Nat.le_refl _) os), .refl _ _ _, .string _⟩
end Go.X
namespace Go.X
open Go.Shelf Go.RowKit Go.Sort
noncomputable def Qbz (g : Nat) (h : Hp) : Bool := match h.get g with
  | some (.cells (.int .i64 _ :: _) _ _) => true
  | _ => false
section
variable {W : World} {B : Nat → Prop} {M : Mp} {h : Hp} {w : World} {g : Nat}
theorem Qdf {v : Value} {args' : Array Value} (hv : VsRel M [v] args'.toList) : ∃ u, args' = #[u] ∧ VRel M v u := by
  generalize hl : args'.toList = l at hv; obtain ⟨h1, h2⟩ := hv
  match l, h1 with
  | [a], _ => exact ⟨a, Array.toList_inj.1 hl, h2 0 _ _ rfl rfl⟩
end
variable {P : Program} {ρ : Ren}
noncomputable def cutX (g : Nat) (args : List Value) (h : Hp) : Option (Value × Hp) := match args with
  | [.string s, .string sep] => cond (Qbz g h && decide (s.size < 4294967281)) (some (.tuple #[.string ⟨(Lib.cut s.data.toList sep.data.toList).1.toArray⟩, .string ⟨(Lib.cut s.data.toList sep.data.toList).2.1.toArray⟩, .bool (Lib.cut s.data.toList sep.data.toList).2.2], h)) none
  | _ => none
noncomputable def Q83 (g : Nat) (args : List Value) (h : Hp) : Option (Value × Hp) := match args with
  | [.int .i64 n] => cond (QS g (Lib.pow10Tab.map (Value.int .u64)) h && decide (-9223372036854775808 ≤ n) && decide (n ≤ 9223372036854775807)) (some (.string ⟨(Lib.itoa n).toArray⟩, h)) none
  | _ => none
theorem Qbv (L : Go.Proofs.LaysM.n171 P ρ) {g : Nat} (hn : P.globalNamed "internal/strconv.uint64pow10" = some g) (h255 : g ≤ 255) : Q1p P (ρ.f 171) (Q83 g) := by
  intro W B M h w args args' v h' hnb H hv hF; unfold Q83 at hF
  split at hF
  case h_2 => cases hF
  rename_i n; obtain ⟨hc, hF⟩ := Qi hF; cases hF; simp only [Bool.and_eq_true, decide_eq_true_eq] at hc; obtain ⟨⟨ht, h0⟩, h1⟩ := hc; obtain ⟨u, rfl, e1⟩ := Qdf hv; cases e1; obtain ⟨e, fr, hg⟩ := Q4l H h255 ht
  have hT : Lib.TabIs P w "internal/strconv.uint64pow10" .u64 Lib.pow10Tab := by
    unfold Lib.TabIs World.var?; rw [hn]; simp only [Option.bind_some, hg]
  refine (Go.Proofs.Any.strconv_Itoa L n h0 h1 w hT).mono fun e' w' ⟨he, k, os, hw⟩ => ?_; subst hw; exact ⟨_, M, he, .refl M, H.below hnb (below_grow (below_drewN (Below.refl _ w) k) (Nat.le_refl _) os), .refl _ _ _, .string _⟩
end Go.X
namespace Go.X
theorem Q6H {s : ByteArray} : sameV 20 (.string s) (.string s) = true := by simp [sameV]
section
variable {E : Env} {l : Kn} {h : Hp} {ops : Array Oper} {d : Nat} {ty t ty2 : TypeId} {pos : String} {af : Array Edge} {gg : Option (Nat × Bool)} {x y : Operand}
theorem Qeo {s u : ByteArray} (g : Gd ops l gg) (hx : evl l x = some (.string s)) (hy : evl l y = some (.string u)) (hs : s.size + u.size < 9223372036854775808) (hl : lk l d = some (.string (s ++ u))) : Again E ops l h ⟨some d, .binOp .add t x y ty2, ty, pos, af, gg⟩ :=
  .inr ⟨g, _, d, rfl, hl, Q6H, fun _ ag => by
    have : ¬ (((s.size + u.size : Nat) : Int) > IntKind.i64.max) := by
      have e : IntKind.i64.max = 9223372036854775807 := by decide
      rw [e]; omega
    simp only [QL, ag.ev hx, ag.ev hy, Q45, Q1I, this, decide_false, cond_false]⟩
end
section
variable {E : Env} {fn : FuncId} {nt : Nat} {l : Kn} {h : Hp} {dr : Bool} {ops : Array Oper} {fin rest : List (Oper × List Oper)} {R : Kn → Hp → Prop} {lt : List Oper} {d : Nat} {ty s t : TypeId} {pos : String} {af : Array Edge} {gg : Option (Nat × Bool)} {x : Operand}
end
section
variable {E : Env} {fn : FuncId} {nt : Nat} {l : Kn} {h : Hp} {dr : Bool} {ops : Array Oper} {fin rest : List (Oper × List Oper)} {R : Kn → Hp → Prop} {lt : List Oper} {d : Nat} {ty t ty2 : TypeId} {pos : String} {af : Array Edge} {gg : Option (Nat × Bool)} {x y : Operand} {k : IntKind} {a b : Int}
end
section
variable {E : Env} {fn : FuncId} {nt : Nat} {l : Kn} {h : Hp} {dr : Bool} {ops : Array Oper} {fin rest : List (Oper × List Oper)} {R : Kn → Hp → Prop} {lt : List Oper} {d : Nat} {ty t ty2 : TypeId} {pos : String} {af : Array Edge} {gg : Option (Nat × Bool)} {x y z : Operand} {k k' : IntKind}
end
end Go.X
