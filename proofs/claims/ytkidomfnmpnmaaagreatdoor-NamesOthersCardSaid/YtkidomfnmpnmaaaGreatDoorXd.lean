/- The calculus: slices of one's own that need not fill their block (elements of several cells); appending to them, copying them. Conditions: none. The calculus: several elements appended at once, out of any slice that is read. Conditions: none. Regions whose order is open: the same checks, reckoned with masks. Conditions: none. What the masks find of a region, the checks find. Conditions: none. The machine X, whole regions at once: the same machine, reckoned with less memory. Conditions: none. What the machine that goes by whole regions comes to, X comes to. Conditions: none. A call without arguments that answers true where a table lies: a call that is not gone through. Conditions: X's run. The calculus: strings held against each other. Conditions: none. The calculus: what is owned of the memory, piece by piece; the rules that write, told of such pieces. Conditions: none. The calculus: maps whose keys stand for values of any type. Conditions: none. A call without arguments that makes something new: what it makes is run once, by X from nothing, and then laid wherever it is called. Conditions: X's run. The calculus: a string's bytes; strings put together; bytes' bits. Conditions: none. Rows that are only read, of any capacity, wherever an empty one's address leads. Conditions: none. A switch whose case has several whole numbers: one rule for the chain of tests. A row of bytes to which a string's bytes are appended; a piece of the memory that a function owns for a while. Conditions: none. strconv.FormatInt at base 10 as a call that is not gone through, where its table lies. Conditions: the library's contract, laid at the program. strings.Cut, strings.Split, strconv.Atoi, strconv.ParseInt, strconv.Itoa as calls that are not gone through. Conditions: the library's contracts, laid at the program; the library's variables lie there. X: strings added, compared, once more. Conditions: none. -/
import Derived.Test.YtkidomfnmpnmaaaGreatDoorXc
import Derived.Test.YtkidomfnmpnmaaaGreatDoorXa
import Derived.Shelf.Strconv.Itoa4
import Derived.Test.YtkidomfnmpnmaaaGreatDoorXb
import Derived.Shelf.Strings.Split
import Derived.Shelf.Strings.Cut
import Derived.Shelf.Strconv.AtoiAll
import Derived.Shelf.Strconv.ParseIntPublic10
namespace Go.X
theorem ExtB.join {A C : List Nat} {h h1 h2 : Hp} (x : ExtB A h h1) (y : ExtB C h1 h2) (d : ∀ i, i ∈ C → i ∈ A ∨ h.n ≤ i) : ExtB A h h2 :=
  ⟨Nat.le_trans x.n y.n, fun i hi hA => (y.get i (Nat.lt_of_lt_of_le hi x.n) fun hc => (d i hc).elim hA fun h1 => by omega).trans (x.get i hi hA)⟩
def SlC (e : TypeId) (z : Nat) (h : Hp) (s : Value) (cs : List Value) (n : Nat) (bs : List Nat) : Prop :=
  (s = .slice none 0 0 ∧ cs = [] ∧ n = 0 ∧ bs = []) ∨ ∃ b m c rest, s = .slice (some ⟨b, 0, none⟩) n c ∧ h.get b = some (.cells (cs ++ rest) e m) ∧ (m = 0 ∨ m = z + 3) ∧ b < h.n ∧ bs = [b] ∧ cs.length = n * (z + 1) ∧ n ≤ c ∧ rest.length = (c - n) * (z + 1)
section
variable {e z : Nat} {h h' : Hp} {s : Value} {cs : List Value} {n : Nat} {bs ds : List Nat}
theorem SlN.toC (x : SlN e z h s cs n bs) : SlC e z h s cs n bs := by
  rcases x with x | ⟨b, m, h1, h2, h3, h4, h5, h6⟩
  · exact .inl x
  exact .inr ⟨b, m, n, [], h1, by simpa using h2, h3, h4, h5, h6, Nat.le_refl _, by simp⟩
theorem SlC.keep (x : SlC e z h s cs n bs) (g : ExtB ds h h') (hd : ∀ i, i ∈ bs → i ∉ ds) : SlC e z h' s cs n bs := by
  rcases x with x | ⟨b, m, c, rest, h1, h2, h3, h4, rfl, h5⟩
  · exact .inl x
  exact .inr ⟨b, m, c, rest, h1, by rw [g.get b h4 (hd b (by simp))]; exact h2, h3, Nat.lt_of_lt_of_le h4 g.n, rfl, h5⟩
theorem SlC.ext (x : SlC e z h s cs n bs) (g : Ext h h') : SlC e z h' s cs n bs := x.keep (g.b []) (by simp)
theorem SlC.lt (x : SlC e z h s cs n bs) : ∀ i, i ∈ bs → i < h.n := by
  rcases x with ⟨_, _, _, rfl⟩ | ⟨b, m, c, rest, h1, h2, h3, h4, rfl, _⟩ <;> simp
  exact h4
theorem SlC.val (x : SlC e z h s cs n bs) : ∃ a c, s = .slice a n c := by
  rcases x with ⟨rfl, _, rfl, _⟩ | ⟨b, m, c, rest, rfl, _⟩
  · exact ⟨none, 0, rfl⟩
  exact ⟨_, _, rfl⟩
theorem SlC.first {b : Nat} {c : Nat} (x : SlC e z h (.slice (some ⟨b, 0, none⟩) n c) cs n bs) {k : Nat} (hk : k ≤ n) : SlC e z h (.slice (some ⟨b, 0, none⟩) k c) (cs.take (k * (z + 1))) k bs := by
  rcases x with ⟨h1, _⟩ | ⟨b', m, c', rest, h1, h2, h3, h4, rfl, h5, h6, h7⟩
  · cases h1
  cases h1; have hm : k * (z + 1) ≤ n * (z + 1) := Nat.mul_le_mul_right _ hk; have hm2 : n * (z + 1) ≤ c * (z + 1) := Nat.mul_le_mul_right _ h6; refine .inr ⟨b, m, c, cs.drop (k * (z + 1)) ++ rest, rfl, ?_, h3, h4, rfl, by simp; omega, by omega, ?_⟩
  · rw [← List.append_assoc, List.take_append_drop]; exact h2
  rw [List.length_append, List.length_drop, h5, h7, Nat.sub_mul, Nat.sub_mul]; omega
theorem Qfh {E : Env} {t by' q m' : Nat} {xs : List Value} (x : ElN E t e z by') (hs : SlC e z h s cs n bs) (hq : h.get q = some (.cells xs e m')) (hx : xs.length = z + 1) (hc : xs.all cellV = true)
    (hn : (n + 1) * (by' + 1) ≤ 1099511627776) :
    ∃ v' h' bs', Zw E h t t s (.slice (some ⟨q, 0, none⟩) 1 1) = some (v', h') ∧ SlC e z h' v' (cs ++ xs) (n + 1) bs' ∧ ExtB bs h h' ∧ ∀ i, i ∈ bs' → i ∈ bs ∨ h.n ≤ i := by
  have hfirst : J7 h (z + 1) 1 (.slice (some ⟨q, 0, none⟩) 1 1) = some xs := by
    have e1 : Nat.ble (0 + 1 * (z + 1)) xs.length = true := (Qu _ _).2 (by omega); have e2 : Nat.ble 1 1 = true := rfl; have e3 : Nat.beq 1 0 = false := rfl; simp only [J7, e2, e3, cond_true, cond_false, rowOf, hq, e1, List.drop_zero]; rw [List.take_of_length_le (by omega)]
  have e3 : Nat.beq 1 0 = false := rfl; rcases hs with ⟨rfl, rfl, rfl, rfl⟩ | ⟨b, m, c, rest, rfl, hb, hm, hlt, rfl, hl, hnc, hr⟩
  · refine ⟨_, _, [h.n], ?_, .inr ⟨h.n, z + 3, 1, [], rfl, by rw [List.append_nil]; exact Hp.get_alloc_self _ _, .inr rfl, by rw [Hp.n_alloc]; omega, rfl, by simp [hx], Nat.le_refl _, by simp⟩, (Ext.alloc h _).b _, by simp⟩; simp only [Zw, x.und, J4, x.size, x.bytes, hfirst, e3, cond_false]; exact x.growX h 1 [] xs (by omega)
  have hl' : (cs ++ xs).length = (n + 1) * (z + 1) := by rw [List.length_append, hl, hx, Nat.add_mul]; omega
  by_cases hlt2 : n + 1 ≤ c
  · have e1 : Nat.ble (n + 1) c = true := (Qu _ _).2 hlt2; have hm2 : (n + 1) * (z + 1) ≤ c * (z + 1) := Nat.mul_le_mul_right _ hlt2; rw [Nat.sub_mul] at hr; rw [Nat.add_mul] at hm2
    have hst : Zm h ((⟨b, 0, none⟩ : Addr).add (n * (z + 1))) xs = some (h.put b (.cells ((cs ++ xs) ++ rest.drop (z + 1)) e m)) := by
      have e4 : Nat.beq m 1 = false := (QI _ _).2 (by omega); have e5 : Nat.ble (0 + n * (z + 1) + xs.length) (cs ++ rest).length = true := (Qu _ _).2 (by rw [List.length_append]; omega); rw [addr_add]; simp only [Zm, hb, e4, e5, Bool.not_false, Bool.and_true, cond_true, Option.some.injEq]
      congr 2
      rw [Nat.zero_add, List.take_append_of_le_length (by omega), List.take_of_length_le (by omega), List.drop_append]
      congr 1
      rw [List.drop_eq_nil_of_le (by omega), List.nil_append]
      congr 1
      omega
    refine ⟨.slice (some ⟨b, 0, none⟩) (n + 1) c, _, [b], ?_, .inr ⟨b, m, c, rest.drop (z + 1), rfl, Hp.get_put_self _ _ _, hm, by rw [Hp.n_put]; exact hlt, rfl, hl', hlt2, ?_⟩, ExtB.put h b _, by simp⟩
    · simp only [Zw, x.und, J4, x.size, x.bytes, hfirst, e3, cond_false, e1, cond_true, hst, hc]
    rw [List.length_drop, hr, Nat.sub_mul, Nat.add_mul]; omega
  have hcn : c = n := by omega
  subst hcn; have hr0 : rest = [] := List.eq_nil_of_length_eq_zero (by rw [hr]; simp); subst hr0; rw [List.append_nil] at hb; obtain ⟨v', h', q1, q2, q3⟩ := Qfg x (.inr ⟨b, m, rfl, hb, hm, hlt, rfl, hl⟩) hq hx hc hn; exact ⟨v', h', [h.n], q1, q2.toC, q3, by simp⟩
end
section
variable {E : Env} {fn : FuncId} {nt : Nat} {l : Kn} {h : Hp} {dr : Bool} {ops : Array Oper} {fin rest : List (Oper × List Oper)} {R : Kn → Hp → Prop} {lt : List Oper}
variable {d : Nat} {ty t ty2 : TypeId} {pos : String} {af : Array Edge} {gg : Option (Nat × Bool)} {x y : Operand} {v : Value}
theorem Qc3 {b o n : Nat} {cs : List Value} {vs : Array Value} {e : TypeId} {m : Nat} (g : Gd ops l gg) (hx : evl l x = some (.pointer (some ⟨b, o, none⟩))) (hy : evl l y = some (.agg vs)) (hc : vs.toList.all cellV = true) (ht : E.size t = some n) (hn : vs.size = n)
    (hg : h.get b = some (.cells cs e m)) (hm : m ≠ 1) (hv : o + n ≤ cs.length) (ha : ∀ q, q ∈ lt → Again E ops l (h.put b (.cells (cs.take o ++ vs.toList ++ cs.drop (o + n)) e m)) q)
    (q : WL E fn nt dr ops fin rest l (h.put b (.cells (cs.take o ++ vs.toList ++ cs.drop (o + n)) e m)) R) :
    WL E fn nt dr ops fin ((⟨none, .store t x y, ty, pos, af, gg⟩, lt) :: rest) l h R := by
  refine Q3s g rfl (fun _ ag => ?_) wn0 ha q; have hl : vs.toList.length = n := by simpa using hn
  have e1 : Nat.ble (o + n) cs.length = true := (Qu _ _).2 hv; have e2 : Nat.beq m 1 = false := (QI _ _).2 hm; have e3 : Nat.beq vs.size n = true := (QE _ _).2 hn; simp only [Zx, ag.ev hx, ag.ev hy, Q0c, ht, Value.cells, e3, hc, Bool.and_true, cond_true, Zm, hg, hl, e1, e2, Bool.not_false]
theorem Qfi {k : IntKind} {a b : Int} {op : BinOp} (g : Gd ops l gg) (hx : evl l x = some (.int k a)) (hy : evl l y = some (.int k b)) (hs : Km op = false) (hv : ZA op k a b = some v) (hl : lk l d = some v) (hw : sameV 20 v v = true) :
    Again E ops l h ⟨some d, .binOp op t x y ty2, ty, pos, af, gg⟩ :=
  .inr ⟨g, v, d, rfl, hl, hw, fun _ ag => by simp only [QM, ag.ev hx, ag.ev hy, Q1T, hs, cond_false, YU, cond_true, hv]⟩
theorem Q8n {bb o n c z by' e : Nat} {k : IntKind} {vs : List Value} {m : Nat} {j : Int} (el : ElN E t e z by') (g : Gd ops l gg) (hd : Nat.blt d nt = true) (hx : evl l x = some (.slice (some ⟨bb, o, none⟩) n c)) (hy : evl l y = some (.int k j))
    (hg : h.get bb = some (.cells vs e m)) (hm : m = 0 ∨ m = z + 3) (h1 : 0 ≤ j) (h2 : j ≤ c)
    (q : WL E fn nt dr ops fin rest ((d, .slice (some ⟨bb, o, none⟩) j.toNat c) :: l) h R) : WL E fn nt dr ops fin ((⟨some d, .slice t x none (some y) none, ty, pos, af, gg⟩, lt) :: rest) l h R :=
  QN g rfl (fun _ ag => by
    have hb : Ya 0 j.toNat c = true := ZJ.2 ⟨Nat.zero_le _, by omega⟩; rcases hm with rfl | rfl
    · simp only [QM, ag.ev hx, Option.map_none, Option.map_some, ag.ev hy, Zn, el.und, el.size, Zi, Yr h1, Zq, hg, hb, cond_true, Nat.zero_mul, addr_add, Nat.add_zero, Nat.sub_zero, Bool.cond_self]
    simp only [QM, ag.ev hx, Option.map_none, Option.map_some, ag.ev hy, Zn, el.und, el.size, Zi, Yr h1, Zq, hg, hb, Nat.beq_refl, Bool.and_self, cond_true, Nat.zero_mul, addr_add, Nat.add_zero, Nat.sub_zero]) (wn hd) q
end
end Go.X
namespace Go.X
def SrcN (z : Nat) (h : Hp) (s : Value) (cs : List Value) (n : Nat) : Prop := J4 s = some n ∧ J7 h (z + 1) n s = some cs ∧ cs.length = n * (z + 1)
section
variable {e z : Nat} {h h' : Hp} {s w : Value} {cs xs : List Value} {n m : Nat} {bs ds : List Nat}
theorem Q9j {b o c : Nat} {all : List Value} {m' : Nat} (hg : h.get b = some (.cells all e m')) (hl : o + n * (z + 1) ≤ all.length) : SrcN z h (.slice (some ⟨b, o, none⟩) n c) ((all.drop o).take (n * (z + 1))) n := by
  refine ⟨rfl, ?_, by simp; omega⟩; have e1 : Nat.ble n n = true := (Qu _ _).2 (Nat.le_refl _); simp only [J7, e1, cond_true]; cases hn : Nat.beq n 0 with
  | true =>
    have := (QE _ _).1 hn; subst this; simp
  | false =>
    have e2 : Nat.ble (o + n * (z + 1)) all.length = true := (Qu _ _).2 hl; simp only [cond_false, rowOf, hg, e2, cond_true]
theorem SlC.src (x : SlC e z h s cs n bs) : SrcN z h s cs n := by
  rcases x with ⟨rfl, rfl, rfl, rfl⟩ | ⟨b, m, c, rest, rfl, hb, _, _, _, hl, _, _⟩
  · exact ⟨rfl, rfl, by simp⟩
  have := Q9j (z := z) (n := n) (c := c) (o := 0) hb (by rw [List.length_append]; omega); rw [List.drop_zero, List.take_append_of_le_length (by omega), List.take_of_length_le (by omega)] at this; exact this
theorem Qff {E : Env} {t by' : Nat} (x : ElN E t e z by') (hs : SlN e z h s cs n bs) (hw : SrcN z h w xs m) (hc : xs.all cellV = true) (hn : (n + m) * (by' + 1) ≤ 1099511627776) :
    ∃ v' h' bs', Zw E h t t s w = some (v', h') ∧ SlN e z h' v' (cs ++ xs) (n + m) bs' ∧ ExtB bs h h' ∧ ∀ i, i ∈ bs' → i ∈ bs ∨ h.n ≤ i := by
  obtain ⟨hl, hf, hlen⟩ := hw; by_cases h0 : m = 0
  · subst h0; have e0 : xs = [] := List.eq_nil_of_length_eq_zero (by rw [hlen]; simp); subst e0; have e3 : Nat.beq 0 0 = true := rfl; rw [List.append_nil]; rcases hs with ⟨rfl, rfl, rfl, rfl⟩ | ⟨b, m, rfl, hb, hm, hlt, rfl, hl2⟩
    · exact ⟨_, _, [], by simp only [Zw, x.und, hl, x.size, x.bytes, hf, e3, cond_true], .inl ⟨rfl, rfl, rfl, rfl⟩, .refl _ _, by simp⟩
    refine ⟨.slice (some ⟨b, 0, none⟩) n n, h, [b], ?_, .inr ⟨b, m, rfl, hb, hm, hlt, rfl, hl2⟩, .refl _ _, by simp⟩; have e4 : Nat.ble n n = true := (Qu _ _).2 (Nat.le_refl _); simp only [Zw, x.und, hl, x.size, x.bytes, hf, e3, cond_true, Zq, hb, e4]
  have e3 : Nat.beq m 0 = false := (QI _ _).2 h0; rcases hs with ⟨rfl, rfl, rfl, rfl⟩ | ⟨b, m', rfl, hb, hm, hlt, rfl, hl2⟩
  · refine ⟨.slice (some ⟨h.n, 0, none⟩) m m, h.alloc (.cells ([] ++ xs) e (z + 3)), [h.n], ?_, .inr ⟨h.n, z + 3, by rw [Nat.zero_add], Hp.get_alloc_self _ _, .inr rfl, by rw [Hp.n_alloc]; omega, rfl, by rw [List.nil_append, hlen]; congr 1; omega⟩, (Ext.alloc h _).b _, by simp⟩; simp only [Zw, x.und, hl, x.size, x.bytes, hf, e3, cond_false]; exact x.growX h m [] xs (by rw [Nat.zero_add] at hn; exact hn)
  have e1 : Nat.ble (n + m) n = false := by
    cases hc : Nat.ble (n + m) n with
    | false => rfl
    | true => have := (Qu _ _).1 hc; omega
  have e2 : Nat.ble (0 + n * (z + 1)) cs.length = true := (Qu _ _).2 (by omega)
  have hrow : rowOf h ⟨b, 0, none⟩ (n * (z + 1)) = some cs := by
    simp only [rowOf, hb, e2, cond_true, List.drop_zero]; rw [List.take_of_length_le (by omega)]
  have hl' : (cs ++ xs).length = (n + m) * (z + 1) := by rw [List.length_append, hl2, hlen, Nat.add_mul]
  rcases hm with rfl | rfl
  · refine ⟨_, _, [h.n], ?_, .inr ⟨h.n, z + 3, rfl, Hp.get_alloc_self _ _, .inr rfl, by rw [Hp.n_alloc]; omega, rfl, hl'⟩, (Ext.alloc h _).b _, by simp⟩; simp only [Zw, x.und, hl, x.size, x.bytes, hf, e3, cond_false, e1, hrow, hb, hc, cond_true]; exact x.growX h (n + m) cs xs hn
  refine ⟨.slice (some ⟨h.n, 0, none⟩) (n + m) (n + m), (h.put b .dead).alloc (.cells (cs ++ xs) e (z + 3)), [h.n], ?_, .inr ⟨h.n, z + 3, rfl, ?_, .inr rfl, by rw [Hp.n_alloc, Hp.n_put]; omega, rfl, hl'⟩, (ExtB.put h b .dead).trans ((Ext.alloc _ _).b _), by simp⟩
  · simp only [Zw, x.und, hl, x.size, x.bytes, hf, e3, cond_false, e1, hrow, hb, hc, cond_true]; have := x.growX (h.put b .dead) (n + m) cs xs hn; rw [Hp.n_put] at this; simpa [Nat.beq_refl] using this
  rw [Hp.get_alloc, Hp.n_put, if_pos rfl]
end
section
variable {E : Env} {fn : FuncId} {nt : Nat} {l : Kn} {h : Hp} {dr : Bool} {ops : Array Oper} {fin rest : List (Oper × List Oper)} {R : Kn → Hp → Prop} {lt : List Oper}
variable {d : Nat} {ty t : TypeId} {pos : String} {af : Array Edge} {gg : Option (Nat × Bool)} {x y : Operand} {v sv : Value}
theorem JI {b o n : Nat} {cs : List Value} {e : TypeId} {m : Nat} (g : Gd ops l gg) (hx : evl l x = some (.pointer (some ⟨b, o, none⟩))) (hc : isA E t = true) (hn : E.size t = some n)
    (hg : h.get b = some (.cells cs e m)) (hv : o + n ≤ cs.length) (hl : lk l d = some (.agg ((cs.drop o).take n).toArray)) (hs : sameV 20 (.agg ((cs.drop o).take n).toArray) (.agg ((cs.drop o).take n).toArray) = true) :
    Again E ops l h ⟨some d, .load t x, ty, pos, af, gg⟩ :=
  .inr ⟨g, _, d, rfl, hl, hs, fun _ ag => by simp only [QM, ag.ev hx, Q2n hc hn hg hv]⟩
theorem Q3X {lo : Int} {k : IntKind} (g : Gd ops l gg) (hd : Nat.blt d nt = true) (hx : evl l x = some sv) (hy : evl l y = some (.int k lo)) (hv : Zn E h t sv (some (.int k lo)) none none = some v)
    (q : WL E fn nt dr ops fin rest ((d, v) :: l) h R) : WL E fn nt dr ops fin ((⟨some d, .slice t x (some y) none none, ty, pos, af, gg⟩, lt) :: rest) l h R :=
  QN g rfl (fun _ ag => by simp only [QM, ag.ev hx, Option.map_none, Option.map_some, ag.ev hy, hv]) (wn hd) q
end
end Go.X
namespace Go.X
noncomputable section
def QcV (i : Nat) : Nat := Nat.shiftLeft 1 i
def maskN (l : List Nat) : Nat := List.rec (motive := fun _ => Nat) 0 (fun i _ ih => Nat.lor (QcV i) ih) l
def Qct (m i : Nat) : Bool := Nat.beq (Nat.land 1 (Nat.shiftRight m i)) 1
def Q3h (l : List Nat) : Nat → Bool :=
  List.rec (motive := fun _ => Nat → Bool) (fun _ => true) (fun i _ ih m => cond (Qct m i) false (ih (Nat.lor (QcV i) m))) l
def Q8M (p : Nat → Bool) (l : List Nat) : Bool := List.rec (motive := fun _ => Bool) true (fun i _ ih => cond (p i) ih false) l
def Q30 (es : List Edge) : Nat := List.rec (motive := fun _ => Nat) 0 (fun e _ ih => cond (Region.binds .any e) (Nat.lor (QcV e.on) ih) ih) es
def Q7s (n : Nat) : List Oper → Nat :=
  Nat.rec (motive := fun _ => List Oper → Nat) (fun l => List.casesOn (motive := fun _ => Nat) l 0 (fun o _ => Q30 o.after.toList)) (fun _ ih l => List.casesOn (motive := fun _ => Nat) l 0 (fun _ t => ih t)) n
def Qdf (l : List Oper) : Nat → List (Nat × Nat) :=
  List.rec (motive := fun _ => Nat → List (Nat × Nat)) (fun _ => []) (fun o _ ih i => match o.dst with
    | some d => (d, i) :: ih (i + 1)
    | none => ih (i + 1)) l
def fstL (l : List (Nat × Nat)) : List Nat := List.rec (motive := fun _ => List Nat) [] (fun p _ ih => p.1 :: ih) l
def Q6J (t : Nat) (l : List (Nat × Nat)) : Option Nat := List.rec (motive := fun _ => Option Nat) none (fun p _ ih => cond (Nat.beq p.1 t) (some p.2) ih) l
def Q99 (ops : Array Oper) (dl : List (Nat × Nat)) (l : List Oper) : Nat → Bool :=
  List.rec (motive := fun _ => Nat → Bool) (fun _ => true) (fun o _ ih i =>
    cond (Q8M (fun t => match Q6J t dl with | some j => cond (Qct (Q7s i ops.toList) j) true (ahead ops j i) | none => true) (tmpsOf o.op.operands.toList))
      (cond (match o.guard with | none => true | some (g, _) => ahead ops g i) (ih (i + 1)) false) false) l
def QbF (ops : Array Oper) : Bool :=
  cond (Q3h (fstL (Qdf ops.toList 0)) 0) (Q99 ops (Qdf ops.toList 0) ops.toList 0) false
def max2 (a b : Nat) : Nat := cond (Nat.ble a b) b a
def nthS (k : Nat) : List Nat → Nat :=
  Nat.rec (motive := fun _ => List Nat → Nat) (fun l => List.casesOn (motive := fun _ => Nat) l 0 (fun x _ => x)) (fun _ ih l => List.casesOn (motive := fun _ => Nat) l 0 (fun _ t => ih t)) k
def Q73 (acc : List Nat) (n : Nat) (es : List Edge) : Nat :=
  List.rec (motive := fun _ => Nat → Nat) (fun s => s) (fun e _ ih s => cond (Region.binds .any e) (ih (cond (Nat.blt e.on n) (max2 s (nthS (Nat.sub (Nat.pred n) e.on) acc)) s)) (ih s)) es 0
def Q0M (E : Env) (l : List Oper) : Nat → List Nat → Nat → List Nat :=
  List.rec (motive := fun _ => Nat → List Nat → Nat → List Nat) (fun _ _ _ => []) (fun o _ ih k acc n =>
    Q2x (Q73 acc n o.after.toList) fun s =>
      cond (Nat.beq (cls E o) 2) (s :: ih (k + 1) ((k + 1) :: acc) (n + 1)) (s :: ih k (s :: acc) (n + 1))) l
def QbR (E : Env) (l : List Oper) (k : Nat) : List Nat → Nat → List Nat → List Nat :=
  List.rec (motive := fun _ => List Nat → Nat → List Nat → List Nat) (fun _ _ r => r) (fun o _ ih st i r => List.casesOn (motive := fun _ => List Nat) st r (fun s st =>
    cond (Nat.beq s k) (cond (Nat.beq (cls E o) 2) (ih st (i + 1) r) (i :: ih st (i + 1) r)) (ih st (i + 1) r))) l
def Q06 (E : Env) (l : List Oper) : Nat → List Nat :=
  List.rec (motive := fun _ => Nat → List Nat) (fun _ => []) (fun o _ ih i => cond (Nat.beq (cls E o) 2) (i :: ih (i + 1)) (ih (i + 1))) l
def QeA (E : Env) (ops : List Oper) (st : List Nat) (ws : List Nat) : Nat → List Nat :=
  List.rec (motive := fun _ => Nat → List Nat) (fun k => QbR E ops k st 0 []) (fun w _ ih k => QbR E ops k st 0 (w :: ih (k + 1))) ws
def Q7O (E : Env) (ops : Array Oper) : List Nat := QeA E ops.toList (Q0M E ops.toList 0 [] 0) (Q06 E ops.toList 0) 0
def Q2D (l : List Oper) : Nat → Bool :=
  List.rec (motive := fun _ => Nat → Bool) (fun _ => true) (fun o _ ih i =>
    cond (List.rec (motive := fun _ => Bool) true (fun e _ ih => cond (Region.binds .any e) (cond (Nat.blt e.on i) ih false) ih) o.after.toList) (ih (i + 1)) false) l
def nthC (E : Env) (n : Nat) : List Oper → Nat :=
  Nat.rec (motive := fun _ => List Oper → Nat) (fun l => List.casesOn (motive := fun _ => Nat) l 2 (fun o _ => cls E o)) (fun _ ih l => List.casesOn (motive := fun _ => Nat) l 2 (fun _ t => ih t)) n
def Q7o (E : Env) (ops : List Oper) (l : List Nat) : Bool :=
  List.rec (motive := fun _ => Bool) true (fun i rest ih =>
    cond (Nat.beq (Nat.land (Q7s i ops) (maskN (i :: rest))) 0)
      (cond (Nat.beq (nthC E i ops) 2) (cond (Q8M (fun j => !Nat.beq (Nat.land (Q7s j ops) (maskN (i :: rest))) 0) rest) ih false) ih) false) l
def Qf8 (E : Env) (ops : Array Oper) (l : List Nat) : Bool :=
  cond (Q3h l 0) (cond (Q8M (fun i => Nat.blt i ops.size) l) (cond (Nat.beq (maskN l) (Nat.pred (QcV ops.size))) (Q7o E ops.toList l) false) false) false
def regionF (E : Env) (ops : Array Oper) : Bool :=
  cond (Q2D ops.toList 0) (cond (QbF ops) (cond (ops.toList.all QdP) (Qf8 E ops (Q7O E ops)) false) false) false
end
end Go.X
namespace Go.X
theorem Qas (m i : Nat) : Qct m i = m.testBit i := by
  show Nat.beq (1 &&& (m >>> i)) 1 = ((1 &&& (m >>> i)) != 0); rw [Nat.one_and_eq_mod_two]; rcases Nat.mod_two_eq_zero_or_one (m >>> i) with h | h <;> rw [h] <;> rfl
theorem Q2J (i j : Nat) : (QcV i).testBit j = decide (i = j) := by
  show (1 <<< i).testBit j = _; rw [Nat.one_shiftLeft, Nat.testBit_two_pow]
theorem Q0X (l : List Nat) (i : Nat) : (maskN l).testBit i = decide (i ∈ l) := by
  induction l with
  | nil => show Nat.testBit 0 i = _; simp
  | cons a l ih =>
    show (QcV a ||| maskN l).testBit i = _; rw [Nat.testBit_or, Q2J, ih]; by_cases e : a = i
    · subst e; simp
    rw [decide_eq_false e, Bool.false_or]; congr 1; simp [show ¬ i = a from fun h => e h.symm]
theorem Q04 : ∀ (l : List Nat) (m : Nat), Q3h l m = true → l.Nodup ∧ ∀ i, i ∈ l → m.testBit i = false
  | [], _, _ => ⟨.nil, by simp⟩
  | a :: l, m, h => by
    have h : cond (Qct m a) false (Q3h l (QcV a ||| m)) = true := h; rw [Qas] at h; cases hm : m.testBit a with
    | true => rw [hm] at h; cases h
    | false =>
      rw [hm, cond_false] at h; obtain ⟨h1, h2⟩ := Q04 l _ h; refine ⟨List.nodup_cons.2 ⟨fun hx => ?_, h1⟩, fun i hi => ?_⟩
      · have := h2 a hx; rw [Nat.testBit_or, Q2J] at this; simp at this
      rcases List.mem_cons.1 hi with e | hi
      · rw [e]; exact hm
      have := h2 i hi; rw [Nat.testBit_or] at this; exact (Bool.or_eq_false_iff.1 this).2
theorem Q1U (p : Nat → Bool) : ∀ l, Q8M p l = true ↔ ∀ i, i ∈ l → p i = true
  | [] => by simp [Q8M]
  | a :: l => by
    have e : Q8M p (a :: l) = cond (p a) (Q8M p l) false := rfl; rw [e]; cases h : p a with
    | false => simp [h]
    | true => rw [cond_true, Q1U p l]; simp [h]
theorem Qab {a b : Nat} (h : Nat.beq (Nat.land a b) 0 = true) {i : Nat} (ha : a.testBit i = true) : b.testBit i = false := by
  have h0 : a &&& b = 0 := Nat.eq_of_beq_eq_true h; have := congrArg (Nat.testBit · i) h0; simp only [Nat.testBit_and, ha, Bool.true_and, Nat.zero_testBit] at this; exact this
theorem Qac {a b : Nat} (h : (!Nat.beq (Nat.land a b) 0) = true) : ∃ i, a.testBit i = true ∧ b.testBit i = true := by
  have h0 : a &&& b ≠ 0 := fun e => by
    have : Nat.land a b = 0 := e; rw [this] at h; cases h
  obtain ⟨i, hi⟩ := Nat.exists_testBit_of_ne_zero h0; rw [Nat.testBit_and, Bool.and_eq_true] at hi; exact ⟨i, hi⟩
theorem Q6o (es : List Edge) (p : Nat) : (Q30 es).testBit p = decide (p ∈ (es.filter (fun e => Region.binds .any e)).map (·.on)) := by
  induction es with
  | nil => show Nat.testBit 0 p = _; simp
  | cons e es ih =>
    have h : Q30 (e :: es) = cond (Region.binds .any e) (QcV e.on ||| Q30 es) (Q30 es) := rfl; rw [h]; cases hb : Region.binds .any e with
    | false => rw [cond_false, ih]; simp [hb]
    | true =>
      rw [cond_true, Nat.testBit_or, Q2J, ih]; by_cases hp : e.on = p
      · subst hp; simp [hb]
      rw [decide_eq_false hp, Bool.false_or]; congr 1; simp [hb, show ¬ p = e.on from fun h => hp h.symm]
theorem Q54 : ∀ (n : Nat) (l : List Oper), Q7s n l = (match l[n]? with | some o => Q30 o.after.toList | none => 0)
  | 0, [] => rfl
  | 0, _ :: _ => rfl
  | _ + 1, [] => rfl
  | n + 1, _ :: l => Q54 n l
theorem Q2j (ops : Array Oper) (i p : Nat) : (Q7s i ops.toList).testBit p = decide (p ∈ Zc ops i) := by
  rw [Q54, show ops.toList[i]? = ops[i]? by simp]; unfold Zc; cases ops[i]? with
  | none => show Nat.testBit 0 p = _; simp
  | some o => exact Q6o _ _
theorem Q9U (E : Env) : ∀ (n : Nat) (l : List Oper), nthC E n l = (match l[n]? with | some o => cls E o | none => 2)
  | 0, [] => rfl
  | 0, _ :: _ => rfl
  | _ + 1, [] => rfl
  | n + 1, _ :: l => Q9U E n l
theorem Qc6 (E : Env) (ops : Array Oper) (i : Nat) : nthC E i ops.toList = Q5M E ops i := by
  rw [Q9U, show ops.toList[i]? = ops[i]? by simp]; rfl
theorem Q2f (E : Env) (ops : Array Oper) : ∀ l, Q7o E ops.toList l = true → Ji E ops l = true
  | [], _ => rfl
  | i :: rest, h => by
    have h : cond (Nat.beq (Nat.land (Q7s i ops.toList) (maskN (i :: rest))) 0)
      (cond (Nat.beq (nthC E i ops.toList) 2) (cond (Q8M (fun j => !Nat.beq (Nat.land (Q7s j ops.toList) (maskN (i :: rest))) 0) rest) (Q7o E ops.toList rest) false) (Q7o E ops.toList rest)) false = true := h
    cases h1 : Nat.beq (Nat.land (Q7s i ops.toList) (maskN (i :: rest))) 0 with
    | false => rw [h1] at h; cases h
    | true =>
      rw [h1, cond_true, Qc6] at h
      have a1 : (Zc ops i).all (fun p => !Q42 p (i :: rest)) = true := List.all_eq_true.2 fun p hp => by
        have := Qab h1 (i := p) (by rw [Q2j]; exact decide_eq_true hp); rw [Q0X] at this; rw [(YK p (i :: rest)).2 (of_decide_eq_false this)]; rfl
      unfold Ji; rw [a1, Bool.true_and]; cases h2 : Nat.beq (Q5M E ops i) 2 with
      | false => rw [h2, cond_false] at h; rw [cond_false, Bool.true_and]; exact Q2f E ops rest h
      | true =>
        rw [h2, cond_true] at h; cases h3 : Q8M (fun j => !Nat.beq (Nat.land (Q7s j ops.toList) (maskN (i :: rest))) 0) rest with
        | false => rw [h3] at h; cases h
        | true =>
          rw [h3, cond_true] at h; rw [cond_true, Q2f E ops rest h, Bool.and_true]; refine List.all_eq_true.2 fun j hj => List.any_eq_true.2 ?_; obtain ⟨p, hp1, hp2⟩ := Qac ((Q1U _ _).1 h3 j hj); rw [Q2j] at hp1; rw [Q0X] at hp2; exact ⟨p, of_decide_eq_true hp1, (Yn p _).2 (of_decide_eq_true hp2)⟩
theorem Qcz (E : Env) (ops : Array Oper) (l : List Nat) (h : Qf8 E ops l = true) : Q0j E ops l = true := by
  unfold Qf8 at h; cases h1 : Q3h l 0 with
  | false => rw [h1] at h; cases h
  | true =>
    rw [h1, cond_true] at h; cases h2 : Q8M (fun i => Nat.blt i ops.size) l with
    | false => rw [h2] at h; cases h
    | true =>
      rw [h2, cond_true] at h; cases h3 : Nat.beq (maskN l) (Nat.pred (QcV ops.size)) with
      | false => rw [h3] at h; cases h
      | true =>
        rw [h3, cond_true] at h
        have e3 : maskN l = 2 ^ ops.size - 1 := by
          rw [Nat.eq_of_beq_eq_true h3]; show (1 <<< ops.size) - 1 = _; rw [Nat.one_shiftLeft]
        unfold Q0j; rw [Q2f E ops l h, (Q34 l).2 (Q04 l 0 h1).1, List.all_eq_true.2 ((Q1U _ _).1 h2), Bool.true_and, Bool.true_and, Bool.true_and]; refine List.all_eq_true.2 fun i hi => ?_; have hlt : i < ops.size := List.mem_range.1 hi; have : (maskN l).testBit i = true := by rw [e3, Nat.testBit_two_pow_sub_one]; exact decide_eq_true hlt
        rw [Q0X] at this; exact (Yn i l).2 (of_decide_eq_true this)
theorem Q1p : ∀ (l : List Oper) (k : Nat), Q2D l k = true → ∀ (i : Nat) (o : Oper), l[i]? = some o → ∀ e, e ∈ o.after.toList → Region.binds .any e = true → e.on < k + i
  | [], _, _, i, o, h => by simp at h
  | q :: l, k, h, i, o, ho => by
    have h : cond (List.rec (motive := fun _ => Bool) true (fun e _ ih => cond (Region.binds .any e) (cond (Nat.blt e.on k) ih false) ih) q.after.toList) (Q2D l (k + 1)) false = true := h
    have key : ∀ es : List Edge, (List.rec (motive := fun _ => Bool) true (fun e _ ih => cond (Region.binds .any e) (cond (Nat.blt e.on k) ih false) ih) es : Bool) = true → ∀ e, e ∈ es → Region.binds .any e = true → e.on < k := by
      intro es
      induction es with
      | nil => intro _ e he; cases he
      | cons a es ih =>
        intro hr e he hb; have hr : cond (Region.binds .any a) (cond (Nat.blt a.on k) (List.rec (motive := fun _ => Bool) true (fun e _ ih => cond (Region.binds .any e) (cond (Nat.blt e.on k) ih false) ih) es) false) (List.rec (motive := fun _ => Bool) true (fun e _ ih => cond (Region.binds .any e) (cond (Nat.blt e.on k) ih false) ih) es) = true := hr; cases hba : Region.binds .any a with
        | false =>
          rw [hba, cond_false] at hr; rcases List.mem_cons.1 he with q | he
          · rw [q, hba] at hb; cases hb
          exact ih hr e he hb
        | true =>
          rw [hba, cond_true] at hr; cases hlt : Nat.blt a.on k with
          | false => rw [hlt] at hr; cases hr
          | true =>
            rw [hlt, cond_true] at hr; rcases List.mem_cons.1 he with q | he
            · rw [q]; exact Nat.le_of_ble_eq_true hlt
            exact ih hr e he hb
    cases hq : (List.rec (motive := fun _ => Bool) true (fun e _ ih => cond (Region.binds .any e) (cond (Nat.blt e.on k) ih false) ih) q.after.toList : Bool) with
    | false => rw [hq] at h; cases h
    | true =>
      rw [hq, cond_true] at h; cases i with
      | zero =>
        simp only [List.getElem?_cons_zero, Option.some.injEq] at ho; subst ho; intro e he hb; exact key _ hq e he hb
      | succ i =>
        intro e he hb; have := Q1p l (k + 1) h i o (by simpa using ho) e he hb; omega
theorem Q8F {ops : Array Oper} (h : Q2D ops.toList 0 = true) : K6 ops = true := by
  unfold K6; refine List.all_eq_true.2 fun i hi => List.all_eq_true.2 fun p hp => ?_; cases ho : ops[i]? with
  | none => unfold Zc at hp; rw [ho] at hp; cases hp
  | some o =>
    obtain ⟨e, he, hb, rfl⟩ := (Q03 ho p).1 hp; have := Q1p _ 0 h i o (by simpa using ho) e (by simpa using he) hb; exact Nat.ble_eq_true_of_le (by omega)
theorem Q1M : ∀ (l : List Oper) (k : Nat) (d i : Nat), (d, i) ∈ Qdf l k ↔ ∃ j o, l[j]? = some o ∧ o.dst = some d ∧ i = k + j
  | [], _, _, _ => by simp [Qdf]
  | q :: l, k, d, i => by
    have ih := Q1M l (k + 1) d i; have e : Qdf (q :: l) k = (match q.dst with | some d => (d, k) :: Qdf l (k + 1) | none => Qdf l (k + 1)) := rfl; rw [e]
    have back : (∃ j o, l[j]? = some o ∧ o.dst = some d ∧ i = k + 1 + j) → ∃ j o, (q :: l)[j]? = some o ∧ o.dst = some d ∧ i = k + j :=
      fun ⟨j, o, h1, h2, h3⟩ => ⟨j + 1, o, by simpa using h1, h2, by omega⟩
    cases hq : q.dst with
    | none =>
      simp only; rw [ih]; refine ⟨back, fun ⟨j, o, h1, h2, h3⟩ => ?_⟩; cases j with
      | zero => simp at h1; subst h1; rw [hq] at h2; cases h2
      | succ j => exact ⟨j, o, by simpa using h1, h2, by omega⟩
    | some d0 =>
      simp only [List.mem_cons, Prod.mk.injEq]; rw [ih]; constructor
      · rintro (⟨rfl, rfl⟩ | h)
        · exact ⟨0, q, rfl, hq, rfl⟩
        exact back h
      rintro ⟨j, o, h1, h2, h3⟩; cases j with
      | zero => simp at h1; subst h1; rw [hq] at h2; cases h2; exact .inl ⟨rfl, h3⟩
      | succ j => exact .inr ⟨j, o, by simpa using h1, h2, by omega⟩
theorem Qav : ∀ l : List (Nat × Nat), fstL l = l.map (·.1)
  | [] => rfl
  | p :: l => by show p.1 :: fstL l = _; rw [Qav l]; rfl
theorem Q6H : ∀ {l : List (Nat × Nat)}, (l.map (·.1)).Nodup → ∀ {x y : Nat × Nat}, x ∈ l → y ∈ l → x.1 = y.1 → x = y
  | [], _, x, _, hx, _, _ => by cases hx
  | p :: l, hn, x, y, hx, hy, e => by
    rw [List.map_cons, List.nodup_cons] at hn; rcases List.mem_cons.1 hx with q | hx <;> rcases List.mem_cons.1 hy with r | hy
    · rw [q, r]
    · exact absurd (List.mem_map.2 ⟨y, hy, by rw [← e, q]⟩) hn.1
    · exact absurd (List.mem_map.2 ⟨x, hx, by rw [e, r]⟩) hn.1
    exact Q6H hn.2 hx hy e
theorem Q3k : ∀ {l : List (Nat × Nat)} {t i : Nat}, (t, i) ∈ l → ∃ j, Q6J t l = some j ∧ (t, j) ∈ l
  | [], _, _, h => by cases h
  | p :: l, t, i, h => by
    have e : Q6J t (p :: l) = cond (Nat.beq p.1 t) (some p.2) (Q6J t l) := rfl; rw [e]; cases hb : Nat.beq p.1 t with
    | true =>
      have := Nat.eq_of_beq_eq_true hb; exact ⟨p.2, rfl, by rw [← this]; exact List.mem_cons_self⟩
    | false =>
      rcases List.mem_cons.1 h with q | h
      · rw [← q, Nat.beq_refl] at hb; cases hb
      obtain ⟨j, h1, h2⟩ := Q3k h; exact ⟨j, h1, List.mem_cons_of_mem _ h2⟩
theorem Q22 {ops : Array Oper} {dl : List (Nat × Nat)} : ∀ (l : List Oper) (k : Nat), Q99 ops dl l k = true → ∀ (i : Nat) (o : Oper), l[i]? = some o →
    (∀ t, t ∈ tmpsOf o.op.operands.toList → ∀ j, Q6J t dl = some j → Qct (Q7s (k + i) ops.toList) j = true ∨ ahead ops j (k + i) = true) ∧ (∀ g w, o.guard = some (g, w) → ahead ops g (k + i) = true)
  | [], _, _, i, o, h => by simp at h
  | q :: l, k, h, i, o, ho => by
    have h : cond (Q8M (fun t => match Q6J t dl with | some j => cond (Qct (Q7s k ops.toList) j) true (ahead ops j k) | none => true) (tmpsOf q.op.operands.toList))
      (cond (match q.guard with | none => true | some (g, _) => ahead ops g k) (Q99 ops dl l (k + 1)) false) false = true := h
    cases h1 : Q8M (fun t => match Q6J t dl with | some j => cond (Qct (Q7s k ops.toList) j) true (ahead ops j k) | none => true) (tmpsOf q.op.operands.toList) with
    | false => rw [h1] at h; cases h
    | true =>
      rw [h1, cond_true] at h; cases h2 : (match q.guard with | none => true | some (g, _) => ahead ops g k : Bool) with
      | false => rw [h2] at h; cases h
      | true =>
        rw [h2, cond_true] at h; cases i with
        | zero =>
          simp only [List.getElem?_cons_zero, Option.some.injEq] at ho; subst ho; refine ⟨fun t ht j hj => ?_, fun g w hg => ?_⟩
          · have := (Q1U _ _).1 h1 t ht; rw [hj] at this; simp only at this; cases hh : Qct (Q7s k ops.toList) j with
            | true => exact .inl rfl
            | false => rw [hh, cond_false] at this; exact .inr this
          rw [hg] at h2; exact h2
        | succ i =>
          have := Q22 l (k + 1) h i o (by simpa using ho); rwa [show k + 1 + i = k + (i + 1) by omega] at this
theorem Q8J {ops : Array Oper} {i j : Nat} (h : Qct (Q7s i ops.toList) j = true) : ahead ops j i = true := by
  rw [Qas, Q2j] at h; have := (Yn j (Zc ops i)).2 (of_decide_eq_true h); show Q5n ops 12 j i = true; unfold Q5n; rw [this]; rfl
theorem QbE {ops : Array Oper} (h : QbF ops = true) : Q2V ops = true := by
  unfold QbF at h; cases h1 : Q3h (fstL (Qdf ops.toList 0)) 0 with
  | false => rw [h1] at h; cases h
  | true =>
    rw [h1, cond_true] at h; have hn := (Q04 _ 0 h1).1; rw [Qav] at hn; have hs := Q22 _ 0 h
    have at0 : ∀ {o : Oper} {i : Nat}, (o, i) ∈ ops.toList.zipIdx → ops.toList[i]? = some o := fun {o i} hm => by
      obtain ⟨_, h2, h3⟩ := List.mem_zipIdx hm; rw [List.getElem?_eq_getElem (by omega)]; exact congrArg some (by simpa using h3.symm)
    unfold Q2V; simp only [Bool.and_eq_true]; refine ⟨List.all_eq_true.2 ?_, List.all_eq_true.2 ?_⟩
    · rintro ⟨o, i⟩ ho; refine List.all_eq_true.2 ?_; rintro ⟨q, j⟩ hq; simp only; cases hb : Nat.beq i j with
      | true => rfl
      | false =>
        rw [Bool.false_or]; cases hd : o.dst with
        | none => rfl
        | some d =>
          simp only; cases hdq : Q5I q d with
          | false => rfl
          | true =>
            have m1 := (Q1M ops.toList 0 d i).2 ⟨i, o, at0 ho, hd, by omega⟩; have m2 := (Q1M ops.toList 0 d j).2 ⟨j, q, at0 hq, (Js).1 hdq, by omega⟩; have := Q6H hn m1 m2 rfl; cases this; rw [Nat.beq_refl] at hb; cases hb
    rintro ⟨o, i⟩ ho; obtain ⟨s1, s2⟩ := hs i o (at0 ho); rw [Nat.zero_add] at s1 s2; simp only [Bool.and_eq_true]; refine ⟨List.all_eq_true.2 fun t ht => List.all_eq_true.2 ?_, ?_⟩
    · rintro ⟨q, j⟩ hq; simp only; cases hdq : Q5I q t with
      | false => rfl
      | true =>
        rw [Bool.not_true, Bool.false_or]; have m2 := (Q1M ops.toList 0 t j).2 ⟨j, q, at0 hq, (Js).1 hdq, by omega⟩; obtain ⟨j', f1, f2⟩ := Q3k m2; have := Q6H hn f2 m2 rfl; cases this; rcases s1 t ht j f1 with q1 | q1
        · exact Q8J q1
        exact q1
    cases hg : o.guard with
    | none => rfl
    | some gw =>
      obtain ⟨g, w⟩ := gw; exact s2 g w hg
theorem Q1V (E : Env) : ∀ (l : List Oper) (k : Nat), Q06 E l k = (l.zipIdx k).filterMap fun (o, i) => cond (Nat.beq (cls E o) 2) (some i) none
  | [], _ => rfl
  | o :: l, k => by
    have e : Q06 E (o :: l) k = cond (Nat.beq (cls E o) 2) (k :: Q06 E l (k + 1)) (Q06 E l (k + 1)) := rfl; rw [e, Q1V E l (k + 1), List.zipIdx_cons]; cases h : Nat.beq (cls E o) 2
    · rw [cond_false, List.filterMap_cons_none (by simp only [h, cond_false])]
    rw [cond_true, List.filterMap_cons_some (b := k) (by simp only [h, cond_true])]
theorem Q6f (E : Env) (k : Nat) (r : List Nat) : ∀ (l : List Oper) (st : List (Nat × Nat)) (i : Nat), QbR E l k (st.map (·.1)) i r =
    ((l.zip st).zipIdx i).filterMap (fun ((o, s), i) => cond (Nat.beq s.1 k && !Nat.beq (cls E o) 2) (some i) none) ++ r
  | [], _, _ => rfl
  | _ :: _, [], _ => rfl
  | o :: l, s :: st, i => by
    have e : QbR E (o :: l) k ((s :: st).map (·.1)) i r = cond (Nat.beq s.1 k) (cond (Nat.beq (cls E o) 2) (QbR E l k (st.map (·.1)) (i + 1) r) (i :: QbR E l k (st.map (·.1)) (i + 1) r)) (QbR E l k (st.map (·.1)) (i + 1) r) := rfl; rw [e, Q6f E k r l st (i + 1), List.zip_cons_cons, List.zipIdx_cons]; cases h1 : Nat.beq s.1 k
    · rw [cond_false, List.filterMap_cons_none (by simp only [h1, Bool.false_and, cond_false])]
    cases h2 : Nat.beq (cls E o) 2
    · rw [cond_true, cond_false, List.filterMap_cons_some (b := i) (by simp only [h1, h2, Bool.true_and, Bool.not_false, cond_true])]; rfl
    rw [cond_true, cond_true, List.filterMap_cons_none (by simp only [h1, h2, Bool.not_true, Bool.and_false, cond_false])]
theorem Q7F (E : Env) (ops : List Oper) (st : List (Nat × Nat)) : ∀ (ws : List Nat) (k : Nat), QeA E ops (st.map (·.1)) ws k = Q0i E ops st ws k
  | [], k => by
    show QbR E ops k (st.map (·.1)) 0 [] = Q1I E ops st k; rw [Q6f, List.append_nil]; rfl
  | w :: ws, k => by
    show QbR E ops k (st.map (·.1)) 0 (w :: QeA E ops (st.map (·.1)) ws (k + 1)) = Q1I E ops st k ++ w :: Q0i E ops st ws (k + 1); rw [Q6f, Q7F E ops st ws (k + 1)]; rfl
theorem Qem (a b : Nat) : max2 a b = max a b := by
  unfold max2; cases h : Nat.ble a b with
  | true => have := Nat.le_of_ble_eq_true h; rw [cond_true]; omega
  | false =>
    have : ¬ a ≤ b := fun q => by rw [Nat.ble_eq_true_of_le q] at h; cases h
    rw [cond_false]; omega
theorem Q9T : ∀ (k : Nat) (l : List Nat), nthS k l = l.getD k 0
  | 0, [] => rfl
  | 0, _ :: _ => rfl
  | _ + 1, [] => rfl
  | k + 1, _ :: l => Q9T k l
theorem Q9i (acc : List (Nat × Nat)) (o : Oper) : Q73 (acc.reverse.map (·.2)) acc.length o.after.toList = Q25 acc o := by
  unfold Q73 Q25; generalize o.after.toList = es
  have key : ∀ (es : List Edge) (s : Nat), (List.rec (motive := fun _ => Nat → Nat) (fun s => s) (fun e _ ih s => cond (Region.binds .any e) (ih (cond (Nat.blt e.on acc.length) (max2 s (nthS (Nat.sub (Nat.pred acc.length) e.on) (acc.reverse.map (·.2)))) s)) (ih s)) es s : Nat)
      = (es.filter (fun e => Region.binds .any e)).foldl (fun s e => max s (acc.getD e.on (0, 0)).2) s := by
    intro es
    induction es with
    | nil => intro s; rfl
    | cons e es ih =>
      intro s; show cond (Region.binds .any e) (List.rec (motive := fun _ => Nat → Nat) _ _ es _) (List.rec (motive := fun _ => Nat → Nat) _ _ es s) = _; rw [ih, ih]; cases hb : Region.binds .any e with
      | false => rw [cond_false, List.filter_cons, hb]; rfl
      | true =>
        rw [cond_true, List.filter_cons, hb]; show _ = List.foldl _ (max s (acc.getD e.on (0, 0)).2) _
        congr 1
        cases hlt : Nat.blt e.on acc.length with
        | false =>
          have : acc.length ≤ e.on := by
            rcases Nat.lt_or_ge e.on acc.length with q | q
            · rw [show Nat.blt e.on acc.length = true from Nat.ble_eq_true_of_le q] at hlt; cases hlt
            exact q
          rw [cond_false, List.getD_eq_getElem?_getD, List.getElem?_eq_none this]; show s = max s 0; omega
        | true =>
          have hl : e.on < acc.length := Nat.le_of_ble_eq_true hlt; rw [cond_true, Qem, Q9T]
          congr 1
          show ((acc.reverse.map (·.2)).getD (acc.length - 1 - e.on) 0) = _; rw [List.getD_eq_getElem?_getD, List.getD_eq_getElem?_getD, List.getElem?_map, List.getElem?_reverse (by omega), show acc.length - 1 - (acc.length - 1 - e.on) = e.on by omega, List.getElem?_eq_getElem hl]; rfl
  exact key es 0
theorem Q0L (E : Env) : ∀ (l : List Oper) (k : Nat) (acc : List (Nat × Nat)), (Q4J E l k acc).map (·.1) = acc.map (·.1) ++ Q0M E l k (acc.reverse.map (·.2)) acc.length
  | [], k, acc => by show acc.map (·.1) = _; simp [Q0M]
  | o :: l, k, acc => by
    have e : Q0M E (o :: l) k (acc.reverse.map (·.2)) acc.length = Q2x (Q73 (acc.reverse.map (·.2)) acc.length o.after.toList) fun s =>
      cond (Nat.beq (cls E o) 2) (s :: Q0M E l (k + 1) ((k + 1) :: acc.reverse.map (·.2)) (acc.length + 1)) (s :: Q0M E l k (s :: acc.reverse.map (·.2)) (acc.length + 1)) := rfl
    rw [e, Q0x, Q9i]; unfold Q4J; cases Nat.beq (cls E o) 2 with
    | true =>
      rw [cond_true, cond_true, Q0L E l (k + 1)]; simp [List.reverse_append]
    | false =>
      rw [cond_false, cond_false, Q0L E l k]; simp [List.reverse_append]
theorem Q5Q (E : Env) (ops : Array Oper) : Q7O E ops = canon E ops := by
  unfold Q7O canon; have h := Q0L E ops.toList 0 []; simp only [List.map_nil, List.nil_append, List.reverse_nil, List.length_nil] at h; rw [← h, Q7F, Q1V]; unfold Q8O; exact Eq.refl _
theorem Q8h {E : Env} {ops : Array Oper} (h : regionF E ops = true) : KO E ops = true := by
  unfold regionF at h; cases h1 : Q2D ops.toList 0 with
  | false => rw [h1] at h; cases h
  | true =>
    rw [h1, cond_true] at h; cases h2 : QbF ops with
    | false => rw [h2] at h; cases h
    | true =>
      rw [h2, cond_true] at h; cases h3 : ops.toList.all QdP with
      | false => rw [h3] at h; cases h
      | true =>
        rw [h3, cond_true, Q5Q] at h; have h4 := Qcz E ops _ h; unfold KO; simp only [Q8F h1, QbE h2, h3, h4, Bool.and_self]
end Go.X
namespace Go.X
noncomputable section
def Qfb (n : Nat) : List Value → List Value :=
  Nat.rec (motive := fun _ => List Value → List Value) (fun l => l) (fun _ ih l => List.rec (motive := fun _ => List Value) [] (fun _ t _ => ih t) l) n
def QdK (n : Nat) : List Value → List Value :=
  Nat.rec (motive := fun _ => List Value → List Value) (fun _ => []) (fun _ ih l => List.rec (motive := fun _ => List Value) [] (fun v t _ => v :: ih t) l) n
def Qcg (n : Nat) : List Value → Bool :=
  Nat.rec (motive := fun _ => List Value → Bool) (fun _ => true) (fun _ ih l => List.rec (motive := fun _ => Bool) false (fun _ t _ => ih t) l) n
def Qc1 (xs : List Value) : List Value → List Value :=
  List.rec (motive := fun _ => List Value → List Value) (fun l => l) (fun x _ ih l => List.rec (motive := fun _ => List Value) [x] (fun _ t _ => x :: ih t) l) xs
def Q9K (n : Nat) (xs : List Value) : List Value → List Value :=
  Nat.rec (motive := fun _ => List Value → List Value) (Qc1 xs) (fun _ ih l => List.rec (motive := fun _ => List Value) [] (fun v t _ => v :: ih t) l) n
def allQ (p : Value → Bool) (l : List Value) : Bool := List.rec (motive := fun _ => Bool) true (fun v _ ih => cond (p v) ih false) l
def rowQ (h : Hp) (a : Addr) (n : Nat) : Option (List Value) :=
  match a with
  | ⟨b, off, none⟩ => (match h.get b with
    | some (.cells c _ _) => cond (Qcg (Nat.add off n) c) (some (QdK n (Qfb off c))) none
    | _ => none)
  | _ => none
def Qfe (h : Hp) (a : Addr) : Option Value :=
  match a with
  | ⟨b, off, none⟩ => (match h.get b with
    | some (.cells c _ _) => List.rec (motive := fun _ => Option Value) none (fun v _ _ => some v) (Qfb off c)
    | _ => none)
  | _ => none
def Qa7 (E : Env) (t : TypeId) (a : Addr) (h : Hp) : Option Value :=
  match E.und t with
  | none => none
  | some d => match Ks d with
    | true => (match E.size t with
      | none => none
      | some n => match rowQ h a n with
        | none => none
        | some l => some (.agg l.toArray))
    | false => Qfe h a
def Q0d (h : Hp) (a : Addr) (l : List Value) : Option Hp :=
  match a with
  | ⟨b, off, none⟩ => (match h.get b with
    | some (.cells c e m) => cond (Nat.beq m 1) none (cond (Qcg (Nat.add off l.length) c) (some (h.put b (.cells (Q9K off l c) e m))) none)
    | _ => none)
  | _ => none
def Q71 (E : Env) (t : TypeId) (a : Addr) (v : Value) (h : Hp) : Option Hp :=
  match E.size t with
  | some n => (match v with
    | .agg cs => cond (Nat.beq cs.toList.length n) (cond (allQ cellV cs.toList) (Q0d h a cs.toList) none) none
    | v => cond (Nat.beq n 1) (cond (cellV v) (Q0d h a [v]) none) none)
  | none => none
def posQ (n : Nat) : Option Value := Q2x n fun r => some (.int .i64 (.ofNat r))
def Q9X (op : BinOp) (m n : Nat) : Option Value :=
  match op with
  | .lss => some (Yb (Nat.blt m n))
  | .leq => some (Yb (Nat.ble m n))
  | .gtr => some (Yb (Nat.blt n m))
  | .geq => some (Yb (Nat.ble n m))
  | .eql => some (Yb (Nat.beq m n))
  | .neq => some (Yb (!Nat.beq m n))
  | .add => cond (Nat.blt (Nat.add m n) 9223372036854775808) (posQ (Nat.add m n)) (ZA .add .i64 (.ofNat m) (.ofNat n))
  | .sub => cond (Nat.ble n m) (cond (Nat.blt m 9223372036854775808) (posQ (Nat.sub m n)) (ZA .sub .i64 (.ofNat m) (.ofNat n))) (ZA .sub .i64 (.ofNat m) (.ofNat n))
  | .mul => cond (Nat.blt (Nat.mul m n) 9223372036854775808) (posQ (Nat.mul m n)) (ZA .mul .i64 (.ofNat m) (.ofNat n))
  | op => ZA op .i64 (.ofNat m) (.ofNat n)
def binQ (E : Env) (h : Hp) (op : BinOp) (t : TypeId) (xo yo : Operand) (x y : Value) : Option Value :=
  match x with
  | .int .i64 (.ofNat m) => (match y with
    | .int .i64 (.ofNat n) => cond (Km op) (Q1T E h op t xo yo (.int .i64 (.ofNat m)) (.int .i64 (.ofNat n))) (Q9X op m n)
    | y => Q1T E h op t xo yo (.int .i64 (.ofNat m)) y)
  | x => Q1T E h op t xo yo x y
def Qe0 (_E : Env) (g : Operand → Value) (_h : Hp) (x : Operand) : Option Value := some (g x)
def Q9F (_E : Env) (g : Operand → Value) (_h : Hp) (x : Operand) : Option Value := some (g x)
def QdZ (_E : Env) (g : Operand → Value) (_h : Hp) (c a b : Operand) : Option Value := (match g c with | .bool t => some (cond t (g a) (g b)) | _ => none)
def QbV (E : Env) (g : Operand → Value) (_h : Hp) (t : TypeId) (ps : Array (Nat × Operand)) : Option Value := (match E.zero t, E.und t with
    | some z, some (.struct fs) =>
      (match fs.toList.mapM (fun f => (E.size f.type).map fun n => (f.offset, n)) with
       | some pl => (match Instr.fill (fun i => pl[i]?) z.cells (ps.toList.map fun (i, x) => (i, g x)) with
         | some cs => some (.agg cs)
         | none => none)
       | none => none)
    | some z, some (.array _ e) => (match E.size e with
      | some n => (match Instr.fill (fun i => some (i * n, n)) z.cells (ps.toList.map fun (i, x) => (i, g x)) with
        | some cs => some (.agg cs)
        | none => none)
      | none => none)
    | _, _ => none)
def Q6i (E : Env) (g : Operand → Value) (h : Hp) (t : TypeId) (a : Operand) : Option Value := (match g a with
    | .pointer (some a) => Qa7 E t a h
    | _ => none)
def Q6g (_E : Env) (g : Operand → Value) (_h : Hp) (x : Operand) : Option Value := (match g x with
    | .pointer (some a) => some (.pointer (some a))
    | .func (.func f) a b => some (.func (.func f) a b)
    | .func (.yield f) a b => some (.func (.yield f) a b)
    | .iface t v => some (.iface t v)
    | _ => none)
def QbW (E : Env) (g : Operand → Value) (h : Hp) (op : BinOp) (t : TypeId) (x y : Operand) : Option Value := binQ E h op t x y (g x) (g y)
def QdY (_E : Env) (g : Operand → Value) (_h : Hp) (op : UnOp) (x : Operand) : Option Value := unX op (g x)
def Q8d (E : Env) (g : Operand → Value) (h : Hp) (s d : TypeId) (x : Operand) : Option Value := KY E h s d (g x)
def Q1x (E : Env) (g : Operand → Value) (_h : Hp) (t : TypeId) (x : Operand) : Option Value := (match E.und t with
    | some (.interface _) => none
    | some _ => some (.iface t (g x))
    | none => none)
def Q6h (_E : Env) (g : Operand → Value) (_h : Hp) (fn : Fn) (a b : Array Operand) : Option Value := (match fn with
    | .yield _ => none
    | fn => some (.func fn (a.map g) (b.map g)))
def QbS (E : Env) (g : Operand → Value) (h : Hp) (t : TypeId) (x : Operand) (lo hi mx : Option Operand) : Option Value := Zn E h t (g x) (lo.map g) (hi.map g) (mx.map g)
def Q4T (E : Env) (g : Operand → Value) (_h : Hp) (t : TypeId) (x : Operand) (i : Nat) : Option Value := Yi E t (g x) i
def QbU (E : Env) (g : Operand → Value) (_h : Hp) (t : TypeId) (x : Operand) (i : Nat) : Option Value := Q5C E t (g x) i
def Q4S (E : Env) (g : Operand → Value) (_h : Hp) (t : TypeId) (x i : Operand) : Option Value := Yg E t (g x) (g i)
def QbT (E : Env) (g : Operand → Value) (_h : Hp) (t : TypeId) (x i : Operand) : Option Value := Q5p E t (g x) (g i)
def Q9E (E : Env) (g : Operand → Value) (h : Hp) (t : TypeId) (m k : Operand) (ok : Bool) : Option Value := KS E h t (g m) (g k) ok
def Q3G (E : Env) (g : Operand → Value) (_h : Hp) (x : Operand) (t a : TypeId) (ok : Bool) : Option Value := KF E (g x) t a ok
def Q8c (_E : Env) (g : Operand → Value) (_h : Hp) (x : Operand) (i : Nat) : Option Value := (match g x with | .tuple vs => vs[i]? | _ => none)
def Qe1 (E : Env) (g : Operand → Value) (h : Hp) (b : Builtin) (args : Array Operand) (argTypes : Array TypeId) : Option Value := (match b, argTypes[0]?, (args.toList.map g) with
    | .len, some t, x :: _ => Qbi E h t x
    | .max, _, x :: l => Q4b Qcf x l
    | .min, _, x :: l => Q4b Qce x l
    | _, _, _ => none)
def readG (E : Env) (g : Operand → Value) (o : Oper) (h : Hp) : Option Value :=
  match o.op with
  | .move x => Qe0 E g h x
  | .assign x => Q9F E g h x
  | .pick c a b => QdZ E g h c a b
  | .build t ps => QbV E g h t ps
  | .load t a => Q6i E g h t a
  | .nilCheck x => Q6g E g h x
  | .binOp op t x y _ => QbW E g h op t x y
  | .unOp op _ x => QdY E g h op x
  | .convert s d x => Q8d E g h s d x
  | .makeInterface t x => Q1x E g h t x
  | .makeFunc fn a b => Q6h E g h fn a b
  | .slice t x lo hi mx => QbS E g h t x lo hi mx
  | .fieldAddr t x i => Q4T E g h t x i
  | .field t x i => QbU E g h t x i
  | .indexAddr t x i => Q4S E g h t x i
  | .index t x i => QbT E g h t x i
  | .lookup t m k ok => Q9E E g h t m k ok
  | .typeAssert x t a ok => Q3G E g h x t a ok
  | .extract x i => Q8c E g h x i
  | .call { callee := .builtin b, args, argTypes } => Qe1 E g h b args argTypes
  | _ => none
def QcW (E : Env) (_g : Operand → Value) (e : TypeId) : Option (AObj × (Nat → Value)) := (match E.zero e with
    | some z => some (ZO z.cells e, ptrTo)
    | none => none)
def ag_box (_E : Env) (g : Operand → Value) (e : TypeId) (x : Operand) : Option (AObj × (Nat → Value)) := some (ZO (g x).cells e, ptrTo)
def Q4t (E : Env) (g : Operand → Value) (t : TypeId) (n : Nat) (ps : Array (Nat × Operand)) : Option (AObj × (Nat → Value)) := (match E.und t with
    | some (.slice e) => (match E.size e, E.zero e with
      | some (z + 1), some zv => cond (Nat.ble (n * (z + 1)) (2 ^ 24) && Nat.beq zv.cells.size (z + 1))
          (match Instr.fill (fun i => some (i * (z + 1), z + 1)) (Ql zv.cells.toList n).toArray (ps.toList.map fun (i, x) => (i, g x)) with
           | some cs => some (ZO cs e, fun i => .slice (some ⟨i, 0, none⟩) n n)
           | none => none) none
      | _, _ => none)
    | _ => none)
def Q8K (E : Env) (g : Operand → Value) (t : TypeId) (r : Option Operand) : Option (AObj × (Nat → Value)) := (match r, E.und t with
    | none, _ => some (.map [] 0, fun i => .map (some i))
    | some r, some (.map _ _) => (match g r with
      | .int _ _ => some (.map [] 0, fun i => .map (some i))
      | _ => none)
    | _, _ => none)
def Q5V (E : Env) (g : Operand → Value) (t : TypeId) (l c : Operand) : Option (AObj × (Nat → Value)) := (match E.und t, KR (g l), KR (g c) with
    | some (.slice e), some l, some c => (match E.size e, E.zero e, E.bytes e with
      | some (z + 1), some zv, some by' => cond (Nat.ble l c && Nat.ble c (2 ^ 40) && Nat.ble (by' * c) (2 ^ 47) && Nat.beq zv.cells.size (z + 1))
          (some (ZO (Ql zv.cells.toList c).toArray e, fun i => .slice (some ⟨i, 0, none⟩) l c)) none
      | _, _, _ => none)
    | _, _, _ => none)
def Q6S (E : Env) (g : Operand → Value) (t : TypeId) (x : Operand) : Option (AObj × (Nat → Value)) := (match E.und t, KR (g x) with
    | some (.chan _ e), some n => (match E.bytes e with
      | some by' => cond (Nat.ble n 1000000 && Nat.ble (by' * n) 1000000) (some (.chan n [] 0 0, fun i => .chan (some (i + 1)))) none
      | none => none)
    | _, _ => none)
def Qdk (E : Env) (g : Operand → Value) (o : Oper) : Option (AObj × (Nat → Value)) :=
  match o.op with
  | .alloc e => QcW E g e
  | .box e x => ag_box E g e x
  | .buildSlice t n ps => Q4t E g t n ps
  | .makeMap t r => Q8K E g t r
  | .makeSlice t l c => Q5V E g t l c
  | .makeChan t x => Q6S E g t x
  | _ => none
theorem Qbc (E : Env) (tm : Tr Value) (o : Oper) : Qdk E (ev tm) o = allocX E tm o := rfl
inductive As where
  | nil
  | cons (i : Nat) (v : Value) (r : As)
def As.get (a : As) (t : Nat) : Option Value := As.rec (motive := fun _ => Option Value) none (fun i v _ ih => cond (Nat.beq i t) (some v) ih) a
def As.on (a : As) (tm : Tr Value) : Tr Value := As.rec (motive := fun _ => Tr Value) tm (fun i v _ ih => ih.set (i + 1) i v) a
def getQ (a : As) (tm : Tr Value) (t : Nat) : Option Value := match a.get t with
  | some v => some v
  | none => tm.get t
structure Fn1 where
  f : As → Tr Value → Value
structure FnO where
  f : As → Tr Value → Hp → Option (Value × Hp)
structure FnW where
  f : As → Tr Value → Option Bool
structure FnC where
  f : As → Tr Value → List It → Option (List It)
def valQ (a : As) (tm : Tr Value) (t : Nat) : Value :=
  As.rec (motive := fun _ => Value) (Option.rec (motive := fun _ => Value) undef (fun v => v) (tm.get t)) (fun i v _ ih => Bool.rec (motive := fun _ => Value) ih v (Nat.beq i t)) a
def opdF (x : Operand) : Fn1 :=
  match x with
  | .tmp t => ⟨fun a tm => valQ a tm t⟩
  | .const v => ⟨fun _ _ => v⟩
  | .global g => ⟨fun _ _ => .pointer (some ⟨g, 0, none⟩)⟩
  | .func f => ⟨fun _ _ => .func (.func f) #[] #[]⟩
def opd (x : Operand) (a : As) (tm : Tr Value) : Value := Fn1.rec (motive := fun _ => Value) (fun f => f a tm) (opdF x)
def evQ (a : As) (tm : Tr Value) (x : Operand) : Value := opd x a tm
def Qbh (nt : Nat) (a : As) (d : Option Nat) (v : Value) : As :=
  match d with
  | none => a
  | some d => cond (Nat.blt d nt) (.cons d v a) a
def opQ (E : Env) (g : Operand → Value) (o : Oper) (h : Hp) : Option (Value × Hp) :=
  match cls E o with
  | 0 => (match readG E g o h with
    | some v => some (v, h)
    | none => none)
  | 1 => (match Qdk E g o with
    | some (b, f) => some (f h.n, h.alloc b)
    | none => none)
  | _ => none
def both (v : Option Value) (h : Hp) : Option (Value × Hp) := match v with
  | some v => some (v, h)
  | none => none
def opF (E : Env) (wr : Bool) (o : Oper) : FnO :=
  match o.op with
  | .move x => ⟨fun a tm h => some (opd x a tm, h)⟩
  | .assign x => ⟨fun a tm h => some (opd x a tm, h)⟩
  | .load t x => ⟨fun a tm h => (match opd x a tm with
    | .pointer (some p) => both (Qa7 E t p h) h
    | _ => none)⟩
  | .binOp op t x y _ => ⟨fun a tm h => both (binQ E h op t x y (opd x a tm) (opd y a tm)) h⟩
  | .fieldAddr t x i => ⟨fun a tm h => both (Yi E t (opd x a tm) i) h⟩
  | .indexAddr t x i => ⟨fun a tm h => both (Yg E t (opd x a tm) (opd i a tm)) h⟩
  | .pick c x y => ⟨fun a tm h => (match opd c a tm with
    | .bool t => some (cond t (opd x a tm) (opd y a tm), h)
    | _ => none)⟩
  | .store t x y => cond wr ⟨fun a tm h => (match opd x a tm with
    | .pointer (some p) => (match Q71 E t p (opd y a tm) h with
      | some h' => some (undef, h')
      | none => none)
    | _ => none)⟩ ⟨fun _ _ _ => none⟩
  | _ => ⟨fun a tm h => opQ E (evQ a tm) o h⟩
def opC (E : Env) (wr : Bool) (o : Oper) (a : As) (tm : Tr Value) (h : Hp) : Option (Value × Hp) := FnO.rec (motive := fun _ => Option (Value × Hp)) (fun f => f a tm h) (opF E wr o)
def nthO (n : Nat) : List Oper → Option Oper :=
  Nat.rec (motive := fun _ => List Oper → Option Oper) (fun l => List.rec (motive := fun _ => Option Oper) none (fun o _ _ => some o) l) (fun _ ih l => List.rec (motive := fun _ => Option Oper) none (fun _ t _ => ih t) l) n
def wantF (ops : Array Oper) (o : Oper) : FnW :=
  match o.guard with
  | none => ⟨fun _ _ => some true⟩
  | some (g, want) => (match nthO g ops.toList with
    | some og => (match og.dst with
      | some d => ⟨fun a tm => (match getQ a tm d with
        | some (.bool b) => some (b == want)
        | some (.tuple _) => some false
        | _ => none)⟩
      | none => ⟨fun _ _ => none⟩)
    | none => ⟨fun _ _ => none⟩)
def Qbp (ops : Array Oper) (o : Oper) (a : As) (tm : Tr Value) : Option Bool := FnW.rec (motive := fun _ => Option Bool) (fun f => f a tm) (wantF ops o)
structure Ci where
  want : As → Tr Value → Option Bool
  run : As → Tr Value → Hp → Option (Value × Hp)
  dst : Option Nat
def ci (E : Env) (wr : Bool) (ops : Array Oper) (i : Nat) : Ci :=
  match nthO i ops.toList with
  | none => ⟨fun _ _ => none, fun _ _ _ => none, none⟩
  | some o => ⟨Qbp ops o, opC E wr o, o.dst⟩
structure Rq where
  rest : List Nat
  a : As
  h : Hp
def Q6n (E : Env) (wr : Bool) (ops : Array Oper) (nt : Nat) (tm : Tr Value) (l : List Nat) : As → Hp → Rq :=
  List.rec (motive := fun _ => As → Hp → Rq) (fun a h => ⟨[], a, h⟩) (fun i rest ih a h =>
    match ci E wr ops i with
    | ⟨w, r, d⟩ => (match w a tm with
      | none => ⟨i :: rest, a, h⟩
      | some false => ih (Qbh nt a d undef) h
      | some true => (match r a tm h with
        | some (v, h') => ih (Qbh nt a d v) h'
        | none => ⟨i :: rest, a, h⟩))) l
structure Fq where
  todo : List It
  a : As
  h : Hp
def codeF (E : Env) (c : Code) : FnC :=
  match c with
  | .skip => ⟨fun _ _ k => some k⟩
  | .label _ => ⟨fun _ _ k => some k⟩
  | .seq a b => ⟨fun _ _ k => some (.code a :: .code b :: k)⟩
  | .cond c x y => ⟨fun a tm k => (match opd c a tm with
    | .bool t => some (.code (cond t x y) :: k)
    | _ => none)⟩
  | .block id b => ⟨fun _ _ k => some (.code b :: .inBlock id :: k)⟩
  | .loop b => ⟨fun _ _ k => some (.code b :: .inLoop b :: k)⟩
  | .exit id => ⟨fun _ _ k => ZI id k⟩
  | .region _ ops draw => cond (QX ops) (cond draw
      (cond (regionF E ops) ⟨fun _ _ k => some (.draw ops (Q7O E ops) :: k)⟩ ⟨fun _ _ _ => none⟩)
      ⟨fun _ _ k => some (.inRegion ops (List.range ops.size) :: k)⟩) ⟨fun _ _ _ => none⟩
  | _ => ⟨fun _ _ _ => none⟩
def Q8G (E : Env) (c : Code) (a : As) (tm : Tr Value) (k : List It) : Option (List It) := FnC.rec (motive := fun _ => Option (List It)) (fun f => f a tm k) (codeF E c)
def Kg (E : Env) (nt : Nat) (tm : Tr Value) (n : Nat) : List It → As → Hp → Fq :=
  Nat.rec (motive := fun _ => List It → As → Hp → Fq) (fun l a h => ⟨l, a, h⟩) (fun _ ih l a h =>
    match l with
    | [] => ⟨[], a, h⟩
    | i :: k => (match i with
      | .code c => (match Q8G E c a tm k with
        | some k' => ih k' a h
        | none => ⟨.code c :: k, a, h⟩)
      | .inBlock _ => ih k a h
      | .inLoop b => ih (.code b :: .inLoop b :: k) a h
      | .inRegion ops l => (match Q6n E true ops nt tm l a h with
        | ⟨[], a, h⟩ => ih k a h
        | ⟨i :: rest, a, h⟩ => ⟨.inRegion ops (i :: rest) :: k, a, h⟩)
      | .draw ops l => (match Q6n E false ops nt tm l a h with
        | ⟨[], a, h⟩ => ih k a h
        | ⟨i :: rest, a, h⟩ => ⟨.draw ops (i :: rest) :: k, a, h⟩)
      | i => ⟨i :: k, a, h⟩)) n
def Jz (E : Env) (a : As) (tm : Tr Value) (h : Hp) : List ResultVar → Option (List Value)
  | [] => some []
  | .tmp t :: l => (match Jz E a tm h l with
    | some r => some (opd (.tmp t) a tm :: r)
    | none => none)
  | .cell x t :: l => (match opd (.tmp x) a tm with
    | .pointer (some p) => (match KT E t p h, Jz E a tm h l with
      | some v, some r => some (v :: r)
      | _, _ => none)
    | _ => none)
def retQ (E : Env) (fn : FuncId) (a : As) (tm : Tr Value) (df : List Deferred) (kd : CallKind) (ro : Option Nat) (cs : List Fr) (h : Hp) (other : Option St) : Option St :=
  match ro with
  | some _ => other
  | none => (match df with
    | _ :: _ => other
    | [] => (match cs with
      | [] => other
      | c :: r => (match E.fn fn with
        | some f => (match Jz E a tm h f.results.toList with
          | some vs => Yv E kd (c :: r) h (oneOf vs)
          | none => none)
        | none => none)))
def Q9f (E : Env) (s : St) : Option St :=
  match s with
  | ⟨⟨fn, nt, tm, todo, df, md, kd, ro⟩, cs, h⟩ => (match md with
    | .run => (match Kg E nt tm 60 todo .nil h with
      | ⟨todo', a, h'⟩ => (match todo' with
        | [] => retQ E fn a tm df kd ro cs h' (QH E fn nt (a.on tm) [] df kd ro cs h')
        | i :: k => (match i with
          | .code c => (match c with
            | .ret => retQ E fn a tm df kd ro cs h' (QH E fn nt (a.on tm) (.code .ret :: k) df kd ro cs h')
            | c => QH E fn nt (a.on tm) (.code c :: k) df kd ro cs h')
          | i => QH E fn nt (a.on tm) (i :: k) df kd ro cs h')))
    | md => JS E fn nt tm todo df md kd ro cs h)
def runQ (E : Env) (n : Nat) : St → St :=
  Nat.rec (motive := fun _ => St → St) (fun s => s) (fun _ ih s => (match Q9f E s with
    | some s' => ih s'
    | none => s)) n
def nthG {α : Type} (n : Nat) : List α → Option α :=
  Nat.rec (motive := fun _ => List α → Option α) (fun l => List.rec (motive := fun _ => Option α) none (fun o _ _ => some o) l) (fun _ ih l => List.rec (motive := fun _ => Option α) none (fun _ t _ => ih t) l) n
theorem Q6t {α : Type} : ∀ (n : Nat) (l : List α), nthG n l = l[n]?
  | 0, [] => rfl
  | 0, _ :: _ => rfl
  | _ + 1, [] => rfl
  | n + 1, _ :: l => Q6t n l
def QcG (P : Program) : Env :=
  { envOf P with
    ty := fun t => nthG t P.types.toList, fn := fun f => nthG f P.funcs.toList
    hty := fun t i h => tyOk P t i (by rw [Q6t] at h; simpa using h)
    hfn := fun f i h => by show P.funcs[f]? = some i; rw [Q6t] at h; simpa using h }
def Q93 (E : Env) (f : FuncId) (n : Nat) (h : Hp) : Bool :=
  match Jf E f [] h with
  | some s => (match QaO E f (runQ E n s) with
    | some (.bool b) => b
    | _ => false)
  | none => false
end
end Go.X
namespace Go.X
theorem Q4i : ∀ (n : Nat) (l : List Value), Qfb n l = l.drop n
  | 0, _ => rfl
  | _ + 1, [] => rfl
  | n + 1, _ :: l => Q4i n l
theorem Q6Z : ∀ (n : Nat) (l : List Value), QdK n l = l.take n
  | 0, _ => rfl
  | _ + 1, [] => rfl
  | n + 1, v :: l => by show v :: QdK n l = _; rw [Q6Z n l]; rfl
theorem Q46 : ∀ (n : Nat) (l : List Value), Qcg n l = Nat.ble n l.length
  | 0, _ => (Nat.ble_eq_true_of_le (Nat.zero_le _)).symm
  | _ + 1, [] => rfl
  | n + 1, _ :: l => by show Qcg n l = _; rw [Q46 n l]; rfl
theorem Qbe (p : Value → Bool) : ∀ l : List Value, allQ p l = l.all p
  | [] => rfl
  | v :: l => by
    show cond (p v) (allQ p l) false = _; rw [Qbe p l]; cases h : p v <;> simp [h]
theorem Q7n : ∀ (xs l : List Value), xs.length ≤ l.length → Qc1 xs l = xs ++ l.drop xs.length
  | [], _, _ => rfl
  | x :: xs, [], h => by simp at h
  | x :: xs, _ :: l, h => by
    show x :: Qc1 xs l = _; rw [Q7n xs l (by simpa using h)]; rfl
theorem Q52 : ∀ (n : Nat) (xs l : List Value), n + xs.length ≤ l.length → Q9K n xs l = l.take n ++ xs ++ l.drop (n + xs.length)
  | 0, xs, l, h => by
    show Qc1 xs l = _; rw [Q7n xs l (by omega)]; simp
  | n + 1, xs, [], h => by simp at h
  | n + 1, xs, v :: l, h => by
    show v :: Q9K n xs l = _; rw [Q52 n xs l (by simp at h; omega), show n + 1 + xs.length = (n + xs.length) + 1 by omega]; rfl
theorem Q3Y : ∀ (n : Nat) (l : List Oper), nthO n l = l[n]?
  | 0, [] => rfl
  | 0, _ :: _ => rfl
  | _ + 1, [] => rfl
  | n + 1, _ :: l => Q3Y n l
theorem QdX (h : Hp) (a : Addr) (n : Nat) : rowQ h a n = rowOf h a n := by
  obtain ⟨b, off, sp⟩ := a; cases sp with
  | some s => rfl
  | none =>
    simp only [rowQ, rowOf]; cases h.get b with
    | none => rfl
    | some o => cases o <;> first | rfl | (simp only [Q46, Q6Z, Q4i]; rfl)
theorem QcO (h : Hp) (a : Addr) : Qfe h a = (match rowOf h a 1 with | some [v] => some v | _ => none) := by
  obtain ⟨b, off, sp⟩ := a; cases sp with
  | some s => rfl
  | none =>
    simp only [Qfe, rowOf]; cases h.get b with
    | none => rfl
    | some o =>
      cases o with
      | cells c e m =>
        simp only [Q4i]; cases hd : c.drop off with
        | nil =>
          have : c.length ≤ off := List.drop_eq_nil_iff.1 hd
          have hb : Nat.ble (off + 1) c.length = false := by
            cases hx : Nat.ble (off + 1) c.length with
            | false => rfl
            | true => have := Nat.le_of_ble_eq_true hx; omega
          rw [hb]; rfl
        | cons v t =>
          have hl : off < c.length := by
            rcases Nat.lt_or_ge off c.length with q | q
            · exact q
            rw [List.drop_eq_nil_iff.2 q] at hd; cases hd
          rw [show Nat.ble (off + 1) c.length = true from Nat.ble_eq_true_of_le hl]; rfl
      | _ => rfl
theorem Q7x (E : Env) (t : TypeId) (a : Addr) (h : Hp) : Qa7 E t a h = KT E t a h := by
  unfold Qa7 KT; cases E.und t with
  | none => rfl
  | some d =>
    simp only; cases Ks d with
    | true => simp only [QdX]; rfl
    | false => simp only [QcO]; rfl
theorem Q1e (h : Hp) (a : Addr) (l : List Value) : Q0d h a l = Zm h a l := by
  obtain ⟨b, off, sp⟩ := a; cases sp with
  | some s => rfl
  | none =>
    simp only [Q0d, Zm]; cases h.get b with
    | none => rfl
    | some o =>
      cases o with
      | cells c e m =>
        simp only [Q46]; show cond (Nat.beq m 1) none (cond (Nat.ble (off + l.length) c.length) _ none) = _; cases Nat.beq m 1 with
        | true => rfl
        | false =>
          cases hb : Nat.ble (off + l.length) c.length with
          | false => rfl
          | true => simp only [cond_false, cond_true, Bool.not_false, Bool.and_self]; rw [Q52 _ _ _ (Nat.le_of_ble_eq_true hb)]
      | _ => rfl
theorem Q9d (E : Env) (t : TypeId) (a : Addr) (v : Value) (h : Hp) : Q71 E t a v h = Q0c E t a v h := by
  unfold Q71 Q0c; cases E.size t with
  | none => rfl
  | some n =>
    simp only; cases v with
    | agg cs =>
      simp only [Value.cells, Qbe, Q1e]; show cond (Nat.beq cs.toList.length n) _ none = cond (Nat.beq cs.size n && _) _ none; rw [show cs.toList.length = cs.size by simp]; cases Nat.beq cs.size n <;> simp
    | _ =>
      simp only [Value.cells, Q1e]; show cond (Nat.beq n 1) _ none = cond (Nat.beq 1 n && _) _ none; rw [show Nat.beq n 1 = Nat.beq 1 n by rw [Bool.eq_iff_iff, Nat.beq_eq, Nat.beq_eq]; exact eq_comm]; cases Nat.beq 1 n <;> simp [cellV]
theorem Q6p (n : Nat) (h : n < 9223372036854775808) : posQ n = YF .i64 (Q07 .i64 (.ofNat n)) := by
  have hb : Nat.blt n 9223372036854775808 = true := Nat.ble_eq_true_of_le h; simp only [posQ, YF, Q0x, Q5x, Q07, hb, cond_true]
theorem Q9W (op : BinOp) (m n : Nat) : Q9X op m n = ZA op .i64 (.ofNat m) (.ofNat n) := by
  have blt : ∀ a b : Nat, Nat.blt a b = decide (a < b) := fun a b => by
    rw [Bool.eq_iff_iff]; simp [Nat.blt, Nat.ble_eq]; omega
  cases op <;> simp only [Q9X, ZA]
  case add =>
    cases hb : Nat.blt (Nat.add m n) 9223372036854775808 with
    | false => rfl
    | true => rw [cond_true, Q6p _ (Nat.le_of_ble_eq_true hb)]; rfl
  case mul =>
    cases hb : Nat.blt (Nat.mul m n) 9223372036854775808 with
    | false => rfl
    | true => rw [cond_true, Q6p _ (Nat.le_of_ble_eq_true hb)]; rfl
  case sub =>
    cases h1 : Nat.ble n m with
    | false => rfl
    | true =>
      cases h2 : Nat.blt m 9223372036854775808 with
      | false => rfl
      | true =>
        have e1 := Nat.le_of_ble_eq_true h1; have e2 : m < 9223372036854775808 := Nat.le_of_ble_eq_true h2; rw [cond_true, cond_true, Q6p _ (by show m - n < _; omega)]
        have : (Int.ofNat m - Int.ofNat n) = Int.ofNat (Nat.sub m n) := by
          show ((m : Int) - (n : Int)) = ((m - n : Nat) : Int); omega
        rw [this]
  case eql => congr 2; rw [Bool.eq_iff_iff, Nat.beq_eq, beq_iff_eq]; exact Int.ofNat_inj.symm
  case neq =>
    have : Nat.beq m n = (Int.ofNat m == Int.ofNat n) := by rw [Bool.eq_iff_iff, Nat.beq_eq, beq_iff_eq]; exact Int.ofNat_inj.symm
    rw [this]; rfl
  case lss => congr 2; rw [blt, decide_eq_decide]; exact Int.ofNat_lt.symm
  case leq => congr 2; rw [Bool.eq_iff_iff, Nat.ble_eq, decide_eq_true_iff]; exact Int.ofNat_le.symm
  case gtr => congr 2; rw [blt, decide_eq_decide]; exact Int.ofNat_lt.symm
  case geq => congr 2; rw [Bool.eq_iff_iff, Nat.ble_eq, decide_eq_true_iff]; exact Int.ofNat_le.symm
theorem Qba (E : Env) (h : Hp) (op : BinOp) (t : TypeId) (xo yo : Operand) (x y : Value) : binQ E h op t xo yo x y = Q1T E h op t xo yo x y := by
  unfold binQ
  split
  · split
    · rename_i m n; rw [Q9W]; cases hs : Km op with
      | true => rfl
      | false => simp only [cond_false, Q1T, hs, YV, cond_true]
    rfl
  rfl
theorem QbZ (E : Env) (tm : Tr Value) (o : Oper) (h : Hp) : readG E (ev tm) o h = QM E tm o h := by
  obtain ⟨dst, op, ty, pos, af, gd⟩ := o; cases op with
  | load t a =>
    show Q6i E (ev tm) h t a = (match ev tm a with | .pointer (some a) => KT E t a h | _ => none); unfold Q6i; simp only [Q7x]
    all_goals rfl
  | binOp op t x y ty => exact Qba _ _ _ _ _ _ _ _
  | call c =>
    obtain ⟨callee, args, ts⟩ := c; cases callee <;> rfl
  | _ => rfl
theorem Qat (tm : Tr Value) : ∀ (a : As) (t : Nat), (a.on tm).get t = getQ a tm t
  | .nil, _ => rfl
  | .cons i v r, t => by
    show ((r.on tm).set (i + 1) i v).get t = _; rw [Jn _ _ _ _ _ (Nat.lt_succ_self i), Qat tm r t]; show _ = (match cond (Nat.beq i t) (some v) (r.get t) with | some v => some v | none => tm.get t); by_cases e : i = t
    · subst e; rw [if_pos rfl, Nat.beq_refl]; rfl
    rw [if_neg e]
    have : Nat.beq i t = false := by
      cases hb : Nat.beq i t with
      | false => rfl
      | true => exact absurd (Nat.eq_of_beq_eq_true hb) e
    rw [this]; rfl
theorem Q8W (tm : Tr Value) (t : Nat) : ∀ a : As, valQ a tm t = (match getQ a tm t with | some v => v | none => undef)
  | .nil => by
    show (Option.rec (motive := fun _ => Value) undef (fun v => v) (tm.get t) : Value) = (match tm.get t with | some v => v | none => undef); cases tm.get t <;> rfl
  | .cons i v r => by
    have e1 : valQ (.cons i v r) tm t = (Bool.rec (motive := fun _ => Value) (valQ r tm t) v (Nat.beq i t) : Value) := rfl; have e2 : getQ (.cons i v r) tm t = (match cond (Nat.beq i t) (some v) (r.get t) with | some v => some v | none => tm.get t) := rfl; rw [e1, e2, Q8W tm t r]; cases Nat.beq i t <;> rfl
theorem Yp (x : Operand) (a : As) (tm : Tr Value) : opd x a tm = ev (a.on tm) x := by
  cases x with
  | tmp t =>
    show valQ a tm t = _; rw [Q8W]; simp only [ev, Qat]; rfl
  | _ => rfl
theorem evQ_eq (a : As) (tm : Tr Value) : evQ a tm = ev (a.on tm) := funext fun x => Yp x a tm
theorem Q3P (nt : Nat) (a : As) (tm : Tr Value) (d : Option Nat) (v : Value) : (Qbh nt a d v).on tm = Q0S nt (a.on tm) d v := by
  cases d with
  | none => rfl
  | some d =>
    simp only [Qbh, Q0S, Qfo]; cases Nat.blt d nt <;> rfl
theorem Q8U (ops : Array Oper) (o : Oper) (a : As) (tm : Tr Value) : Qbp ops o a tm = QG ops (a.on tm) o := by
  unfold Qbp wantF QG; cases o.guard with
  | none => rfl
  | some gw =>
    obtain ⟨g, want⟩ := gw; simp only [Q3Y, show ops.toList[g]? = ops[g]? by simp]; cases ops[g]? with
    | none => rfl
    | some og =>
      simp only; cases og.dst with
      | none => rfl
      | some d => simp only [Qat]; rfl
theorem Q7q (E : Env) {wr : Bool} {o : Oper} {a : As} {tm : Tr Value} {h h' : Hp} {v : Value} (e : opC E wr o a tm h = some (v, h')) :
    (cls E o = 0 ∧ QM E (a.on tm) o h = some v ∧ h' = h) ∨ (cls E o = 1 ∧ ∃ b f, allocX E (a.on tm) o = some (b, f) ∧ v = f h.n ∧ h' = h.alloc b) ∨
      (wr = true ∧ cls E o = 2 ∧ Zx E (a.on tm) o h = some (.skip h') ∧ v = undef) := by
  have gen : opQ E (evQ a tm) o h = some (v, h') → (cls E o = 0 ∧ QM E (a.on tm) o h = some v ∧ h' = h) ∨ (cls E o = 1 ∧ ∃ b f, allocX E (a.on tm) o = some (b, f) ∧ v = f h.n ∧ h' = h.alloc b) := by
    intro e; rw [evQ_eq] at e; unfold opQ at e
    split at e
    · rename_i hc; rw [QbZ] at e
      split at e
      · rename_i hv; cases e; exact .inl ⟨hc, hv, rfl⟩
      cases e
    · rename_i hc; rw [Qbc] at e
      split at e
      · rename_i hv; cases e; exact .inr ⟨hc, _, _, hv, rfl, rfl⟩
      cases e
    cases e
  have rd : ∀ {u : Option Value}, cls E o = 0 → QM E (a.on tm) o h = u → both u h = some (v, h') → (cls E o = 0 ∧ QM E (a.on tm) o h = some v ∧ h' = h) := by
    intro u hc hu e; cases u with
    | none => cases e
    | some u => cases e; exact ⟨hc, hu, rfl⟩
  obtain ⟨dst, op, ty, pos, af, gd⟩ := o; cases op with
  | move x =>
    have e : some (opd x a tm, h) = some (v, h') := e; rw [Yp] at e; cases e; exact .inl ⟨rfl, rfl, rfl⟩
  | assign x =>
    have e : some (opd x a tm, h) = some (v, h') := e; rw [Yp] at e; cases e; exact .inl ⟨rfl, rfl, rfl⟩
  | load t x =>
    have e : (match opd x a tm with | .pointer (some p) => both (Qa7 E t p h) h | _ => none) = some (v, h') := e; rw [Yp] at e; refine .inl ?_
    split at e
    · rename_i p hp; rw [Q7x] at e; exact rd rfl (by simp only [QM, hp]) e
    cases e
  | binOp op t x y _ =>
    have e : both (binQ E h op t x y (opd x a tm) (opd y a tm)) h = some (v, h') := e; rw [Yp, Yp, Qba] at e; exact .inl (rd rfl rfl e)
  | fieldAddr t x i =>
    have e : both (Yi E t (opd x a tm) i) h = some (v, h') := e; rw [Yp] at e; exact .inl (rd rfl rfl e)
  | indexAddr t x i =>
    have e : both (Yg E t (opd x a tm) (opd i a tm)) h = some (v, h') := e; rw [Yp, Yp] at e; exact .inl (rd rfl rfl e)
  | pick c x y =>
    have e : (match opd c a tm with | .bool t => some (cond t (opd x a tm) (opd y a tm), h) | _ => none) = some (v, h') := e; rw [Yp, Yp, Yp] at e; refine .inl ?_
    split at e
    · rename_i t hc; cases e; exact ⟨rfl, by simp only [QM, hc], rfl⟩
    cases e
  | store t x y =>
    cases wr with
    | false => cases (show (none : Option (Value × Hp)) = some (v, h') from e)
    | true =>
      have e : (match opd x a tm with
        | .pointer (some p) => (match Q71 E t p (opd y a tm) h with
          | some h' => some (undef, h')
          | none => none)
        | _ => none) = some (v, h') := e
      rw [Yp, Yp] at e
      split at e
      · rename_i p hp; rw [Q9d] at e
        split at e
        · rename_i h2 hs; cases e; exact .inr (.inr ⟨rfl, rfl, by simp only [Zx, hp, hs], rfl⟩)
        cases e
      cases e
  | _ => exact (gen e).elim .inl fun q => .inr (.inl q)
section
variable {E : Env} {fn : FuncId} {nt : Nat} {tm : Tr Value} {df : List Deferred} {kd : CallKind} {ro : Option Nat} {cs : List Fr} {k : List It} {ops : Array Oper}
theorem QaX {wr : Bool} {i : Nat} {o : Oper} (ho : ops[i]? = some o) : ci E wr ops i = ⟨Qbp ops o, opC E wr o, o.dst⟩ := by
  unfold ci; rw [Q3Y, show ops.toList[i]? = ops[i]? by simp, ho]
theorem QaY {wr : Bool} {i : Nat} (ho : ops[i]? = none) : ci E wr ops i = ⟨fun _ _ => none, fun _ _ _ => none, none⟩ := by
  unfold ci; rw [Q3Y, show ops.toList[i]? = ops[i]? by simp, ho]
theorem Q4W {wr : Bool} {i : Nat} {l : List Nat} {a : As} {h : Hp} : Q6n E wr ops nt tm (i :: l) a h = (match ci E wr ops i with
    | ⟨w, r, d⟩ => (match w a tm with
      | none => ⟨i :: l, a, h⟩
      | some false => Q6n E wr ops nt tm l (Qbh nt a d undef) h
      | some true => (match r a tm h with
        | some (v, h') => Q6n E wr ops nt tm l (Qbh nt a d v) h'
        | none => ⟨i :: l, a, h⟩))) := rfl
theorem Q3L : ∀ (l : List Nat) (a : As) (h : Hp), Runs E ⟨⟨fn, nt, a.on tm, .inRegion ops l :: k, df, .run, kd, ro⟩, cs, h⟩
    ⟨⟨fn, nt, (Q6n E true ops nt tm l a h).a.on tm, .inRegion ops (Q6n E true ops nt tm l a h).rest :: k, df, .run, kd, ro⟩, cs, (Q6n E true ops nt tm l a h).h⟩
  | [], a, h => .refl _ _
  | i :: l, a, h => by
    rw [Q4W]; cases ho : ops[i]? with
    | none => rw [QaY ho]; exact .refl _ _
    | some o =>
      rw [QaX ho]; simp only [Q8U]; cases hw : QG ops (a.on tm) o with
      | none => exact .refl _ _
      | some b =>
        cases b with
        | false =>
          refine Runs.step ?_ (Q3L l (Qbh nt a o.dst undef) h); simp only [stepX, QH, ho, hw, Q3P]
        | true =>
          simp only; cases he : opC E true o a tm h with
          | none => exact .refl _ _
          | some r =>
            obtain ⟨v, h'⟩ := r; refine Runs.step ?_ (Q3L l (Qbh nt a o.dst v) h'); rw [Q3P]; rcases Q7q E he with ⟨hc, hv, rfl⟩ | ⟨hc, b, f, hv, rfl, rfl⟩ | ⟨_, hc, hv, rfl⟩
            · simp only [stepX, QH, ho, hw, Q3T, hc, hv, Y7, QW]
            · simp only [stepX, QH, ho, hw, Q3T, hc, hv, Y7, QW]
            simp only [stepX, QH, ho, hw, Q3T, hc, hv, Y7, QW]
theorem Q2E : ∀ (l : List Nat) (a : As) (h : Hp), Runs E ⟨⟨fn, nt, a.on tm, .draw ops l :: k, df, .run, kd, ro⟩, cs, h⟩
    ⟨⟨fn, nt, (Q6n E false ops nt tm l a h).a.on tm, .draw ops (Q6n E false ops nt tm l a h).rest :: k, df, .run, kd, ro⟩, cs, (Q6n E false ops nt tm l a h).h⟩
  | [], a, h => .refl _ _
  | i :: l, a, h => by
    rw [Q4W]; cases ho : ops[i]? with
    | none => rw [QaY ho]; exact .refl _ _
    | some o =>
      rw [QaX ho]; simp only [Q8U]; cases hw : QG ops (a.on tm) o with
      | none => exact .refl _ _
      | some b =>
        cases b with
        | false =>
          refine Runs.step ?_ (Q2E l (Qbh nt a o.dst undef) h); simp only [stepX, QH, Q4j, ho, hw, Q3P]
        | true =>
          simp only; cases he : opC E false o a tm h with
          | none => exact .refl _ _
          | some r =>
            obtain ⟨v, h'⟩ := r; refine Runs.step ?_ (Q2E l (Qbh nt a o.dst v) h'); rw [Q3P]; rcases Q7q E he with ⟨hc, hv, rfl⟩ | ⟨hc, b, f, hv, rfl, rfl⟩ | ⟨hf, _⟩
            · simp only [stepX, QH, Q4j, ho, hw, hc, hv]
            · simp only [stepX, QH, Q4j, ho, hw, hc, hv]
            cases hf
theorem QaV {c : Code} {a : As} {h : Hp} {k' : List It} (e : Q8G E c a tm k = some k') :
    stepX E ⟨⟨fn, nt, a.on tm, .code c :: k, df, .run, kd, ro⟩, cs, h⟩ = some ⟨⟨fn, nt, a.on tm, k', df, .run, kd, ro⟩, cs, h⟩ := by
  cases c with
  | skip => cases (show some k = some k' from e); rfl
  | label _ => cases (show some k = some k' from e); rfl
  | seq x y => cases (show some (.code x :: .code y :: k) = some k' from e); rfl
  | cond c x y =>
    have e : (match opd c a tm with | .bool t => some (.code (cond t x y) :: k) | _ => none) = some k' := e; rw [Yp] at e
    split at e
    · rename_i hc; cases e; simp only [stepX, QH, hc]
    cases e
  | block id b => cases (show some (.code b :: .inBlock id :: k) = some k' from e); rfl
  | loop b => cases (show some (.code b :: .inLoop b :: k) = some k' from e); rfl
  | exit id =>
    have e : ZI id k = some k' := e; simp only [stepX, QH, e]
  | region id ops dr =>
    simp only [Q8G, codeF] at e; cases h1 : QX ops with
    | false => rw [h1] at e; cases (show (none : Option (List It)) = some k' from e)
    | true =>
      rw [h1, cond_true] at e; cases dr with
      | false => cases (show some (.inRegion ops (List.range ops.size) :: k) = some k' from e); simp only [stepX, QH, h1, cond_true, cond_false]
      | true =>
        rw [cond_true] at e; cases h2 : regionF E ops with
        | false => rw [h2] at e; cases (show (none : Option (List It)) = some k' from e)
        | true =>
          rw [h2, cond_true, Q5Q] at e; cases (show some (.draw ops (canon E ops) :: k) = some k' from e); simp only [stepX, QH, h1, Q8h h2, cond_true]
  | _ => cases (show (none : Option (List It)) = some k' from e)
theorem YM : ∀ (n : Nat) (l : List It) (a : As) (h : Hp), Runs E ⟨⟨fn, nt, a.on tm, l, df, .run, kd, ro⟩, cs, h⟩
    ⟨⟨fn, nt, (Kg E nt tm n l a h).a.on tm, (Kg E nt tm n l a h).todo, df, .run, kd, ro⟩, cs, (Kg E nt tm n l a h).h⟩
  | 0, _, _, _ => .refl _ _
  | n + 1, [], _, _ => .refl _ _
  | n + 1, i :: k, a, h => by
    cases i with
    | code c =>
      cases e : Q8G E c a tm k with
      | none =>
        have : Kg E nt tm (n + 1) (.code c :: k) a h = ⟨.code c :: k, a, h⟩ := by
          show (match Q8G E c a tm k with | some k' => Kg E nt tm n k' a h | none => ⟨.code c :: k, a, h⟩ : Fq) = _; rw [e]
        rw [this]; exact .refl _ _
      | some k' =>
        have : Kg E nt tm (n + 1) (.code c :: k) a h = Kg E nt tm n k' a h := by
          show (match Q8G E c a tm k with | some k' => Kg E nt tm n k' a h | none => ⟨.code c :: k, a, h⟩ : Fq) = _; rw [e]
        rw [this]; exact Runs.step (QaV e) (YM n k' a h)
    | inBlock _ => exact Runs.step rfl (YM n k a h)
    | inLoop b => exact Runs.step rfl (YM n (.code b :: .inLoop b :: k) a h)
    | inRegion ops l =>
      have hr := Q3L (E := E) (fn := fn) (nt := nt) (tm := tm) (df := df) (kd := kd) (ro := ro) (cs := cs) (k := k) (ops := ops) l a h
      have hq : Kg E nt tm (n + 1) (.inRegion ops l :: k) a h = (match Q6n E true ops nt tm l a h with
        | ⟨[], a, h⟩ => Kg E nt tm n k a h
        | ⟨i :: rest, a, h⟩ => ⟨.inRegion ops (i :: rest) :: k, a, h⟩) := rfl
      rw [hq]; generalize Q6n E true ops nt tm l a h = r at hr; obtain ⟨rest, a', h'⟩ := r; cases rest with
      | nil => exact hr.trans (Runs.step rfl (YM n k a' h'))
      | cons i rest => exact hr
    | draw ops l =>
      have hr := Q2E (E := E) (fn := fn) (nt := nt) (tm := tm) (df := df) (kd := kd) (ro := ro) (cs := cs) (k := k) (ops := ops) l a h
      have hq : Kg E nt tm (n + 1) (.draw ops l :: k) a h = (match Q6n E false ops nt tm l a h with
        | ⟨[], a, h⟩ => Kg E nt tm n k a h
        | ⟨i :: rest, a, h⟩ => ⟨.draw ops (i :: rest) :: k, a, h⟩) := rfl
      rw [hq]; generalize Q6n E false ops nt tm l a h = r at hr; obtain ⟨rest, a', h'⟩ := r; cases rest with
      | nil => exact hr.trans (Runs.step rfl (YM n k a' h'))
      | cons i rest => exact hr
    | _ => exact .refl _ _
end
theorem JW (E : Env) (a : As) (tm : Tr Value) (h : Hp) : ∀ l, Jz E a tm h l = Ze E (a.on tm) h l
  | [] => rfl
  | .tmp t :: l => by
    simp only [Jz, Ze, JW E a tm h l, Yp]; rfl
  | .cell x t :: l => by
    simp only [Jz, Ze, JW E a tm h l, Yp]; rfl
theorem Q7i {E : Env} {fn : FuncId} {nt : Nat} {a : As} {tm : Tr Value} {df : List Deferred} {kd : CallKind} {ro : Option Nat} {cs : List Fr} {h : Hp} {todo : List It} {s' : St}
    (hx : ∀ o, ro = o → QH E fn nt (a.on tm) todo df kd ro cs h = J5 E ⟨fn, nt, a.on tm, todo, df, .run, kd, ro⟩ cs h none ∨ QH E fn nt (a.on tm) todo df kd ro cs h = J5 E ⟨fn, nt, a.on tm, todo, df, .run, kd, ro⟩ cs h (some .ret))
    (e : retQ E fn a tm df kd ro cs h (QH E fn nt (a.on tm) todo df kd ro cs h) = some s') : Runs E ⟨⟨fn, nt, a.on tm, todo, df, .run, kd, ro⟩, cs, h⟩ s' := by
  have other : QH E fn nt (a.on tm) todo df kd ro cs h = some s' → Runs E ⟨⟨fn, nt, a.on tm, todo, df, .run, kd, ro⟩, cs, h⟩ s' := fun e => Runs.step e (.refl _ _); unfold retQ at e; cases ro with
  | some o => exact other e
  | none =>
    cases df with
    | cons d ds => exact other e
    | nil =>
      cases cs with
      | nil => exact other e
      | cons c r =>
        have h1 : QH E fn nt (a.on tm) todo [] kd none (c :: r) h = some ⟨⟨fn, nt, a.on tm, todo, [], .returning, kd, none⟩, c :: r, h⟩ := by
          rcases hx _ rfl with q | q <;> rw [q] <;> rfl
        refine Runs.step h1 (Runs.step ?_ (.refl _ _)); simp only [JW] at e; exact e
theorem Q9e {E : Env} {s s' : St} (e : Q9f E s = some s') : Runs E s s' := by
  obtain ⟨⟨fn, nt, tm, todo, df, md, kd, ro⟩, cs, h⟩ := s; cases md with
  | run =>
    have hr := YM (E := E) (fn := fn) (nt := nt) (tm := tm) (df := df) (kd := kd) (ro := ro) (cs := cs) 60 todo .nil h; simp only [Q9f] at e; generalize Kg E nt tm 60 todo .nil h = r at hr e; obtain ⟨todo', a, h'⟩ := r; refine hr.trans ?_; simp only at e; cases todo' with
    | nil => exact Q7i (fun _ _ => .inl rfl) e
    | cons i k =>
      cases i with
      | code c =>
        cases c with
        | ret => exact Q7i (fun _ _ => .inr rfl) e
        | _ => exact Runs.step e (.refl _ _)
      | _ => exact Runs.step e (.refl _ _)
  | returning => exact Runs.step e (.refl _ _)
  | panicking c => exact Runs.step e (.refl _ _)
theorem Q3E {E : Env} : ∀ (n : Nat) (s : St), Runs E s (runQ E n s)
  | 0, s => .refl _ _
  | n + 1, s => by
    have hq : runQ E (n + 1) s = (match Q9f E s with | some s' => runQ E n s' | none => s) := rfl; rw [hq]; cases e : Q9f E s with
    | none => exact .refl _ _
    | some s' => exact (Q9e e).trans (Q3E n s')
theorem Q60 {E : Env} {f : FuncId} {n : Nat} {h : Hp} (e : Q93 E f n h = true) : ∃ m, Jc E f m h = true := by
  unfold Q93 at e
  split at e
  · rename_i s hs; obtain ⟨m, hm⟩ := Q3E (E := E) n s; refine ⟨m, ?_⟩; unfold Jc; rw [hs]; simp only [hm]; exact e
  cases e
end Go.X
namespace Go.X
open Go.RowKit
noncomputable def QT (g : Nat) (cs : List Value) (h : Hp) : Bool := match h.get g with
  | some (.cells c _ m) => Nat.ble m 1 && decide (c.length = cs.length) && (c.zip cs).all fun (v, u) => Zy 20 v && Zy 20 u && sameV 20 v u
  | _ => false
noncomputable def Q2q (g : Nat) (cs : List Value) (args : List Value) (h : Hp) : Option (Value × Hp) := match args with
  | [] => cond (QT g cs h) (some (.bool true, h)) none
  | _ => none
theorem Q1F : ∀ {c cs : List Value}, c.length = cs.length → (∀ x, x ∈ c.zip cs → Zy 20 x.1 = true ∧ x.1 = x.2) → (∀ v, v ∈ c → Zy 20 v = true) ∧ c = cs
  | [], [], _, _ => ⟨fun v hv => (by cases hv), rfl⟩
  | [], _ :: _, h, _ => by simp at h
  | _ :: _, [], h, _ => by simp at h
  | v :: c, u :: cs, h, hz => by
    have h1 := hz (v, u) (by simp); obtain ⟨h2, h3⟩ := Q1F (c := c) (cs := cs) (by simpa using h) fun x hx => hz x (by simp [hx]); simp only at h1; refine ⟨fun w hw => ?_, by rw [h1.2, h3]⟩; rcases List.mem_cons.1 hw with rfl | hw
    · exact h1.1
    exact h2 w hw
theorem Qae (E : Env) (hm : E.P.follows .mixedOrders = true) {f g : Nat} {cs : List Value} (h255 : g ≤ 255) (hp : ∀ v, v ∈ cs → Zy 4 v = true) (run : ∀ e, ∃ n, Jc E f n (Q1w g cs e) = true) : Q1E E.P f (Q2q g cs) := by
  intro W B M h w args args' v h' hnb H hv hF; unfold Q2q at hF
  split at hF
  case h_2 => cases hF
  obtain ⟨ht, hF⟩ := Qi hF; cases hF; have hargs : args' = #[] := Array.toList_inj.1 (List.eq_nil_of_length_eq_zero hv.1.symm); subst hargs; unfold QT at ht
  split at ht
  case h_2 => cases ht
  rename_i c e m hg; rw [Bool.and_eq_true, Bool.and_eq_true, decide_eq_true_eq] at ht; obtain ⟨⟨hm1, hlen⟩, hall⟩ := ht; have hm1 := (Qu _ _).1 hm1
  obtain ⟨hpl, hcc⟩ := Q1F hlen fun x hx => by
    have := List.all_eq_true.1 hall x hx; simp only [Bool.and_eq_true] at this; exact ⟨this.1.1, Yl 20 _ _ this.2⟩
  subst hcc; obtain ⟨hK, hpos⟩ := H.glob g h255; obtain ⟨b, δ, S, x, hρ, hx, c', fr, rfl, hS, hle, hcs, hm'⟩ := H.place hK hg (by simp); obtain ⟨rfl, rfl⟩ := hpos b δ S hρ
  have hsz : S = c.length := by
    rcases hm' with ⟨_, _, _, h4, _⟩ | ⟨_, _, _, h4⟩ | ⟨⟨s, h5, _⟩, _⟩
    · exact h4
    · exact h4
    omega
  have hc' : c' = c.toArray := by
    apply Array.toList_inj.1; apply List.ext_getElem?; intro i; show c'.toList[i]? = c[i]?; cases hi : c[i]? with
    | none =>
      rw [List.getElem?_eq_none_iff] at hi; rw [List.getElem?_eq_none (by rw [Array.length_toList]; omega)]
    | some v =>
      obtain ⟨u, hu, hvu⟩ := hcs i v hi; rw [Nat.zero_add] at hu; have := JB 20 (hpl v (List.mem_of_getElem? hi)) hvu; subst this; rw [Array.getElem?_toList, hu]
  subst hc'; obtain ⟨n, hn⟩ := run e; refine (Q9c E hm hx (fun v hv => hp v (by simpa using hv)) h255 (by simpa using hn)).mono fun e' w' ⟨he, hb⟩ => ?_; exact ⟨_, M, he, .refl M, H.below hnb hb, .refl _ _ _, .bool _⟩
end Go.X
namespace Go.X
abbrev eqS (s u : ByteArray) : Bool := s.toList == u.toList
section
variable {E : Env} {fn : FuncId} {nt : Nat} {l : Kn} {h : Hp} {dr : Bool} {ops : Array Oper} {fin rest : List (Oper × List Oper)} {R : Kn → Hp → Prop} {lt : List Oper}
variable {d : Nat} {ty ty2 : TypeId} {pos : String} {af : Array Edge} {gg : Option (Nat × Bool)} {x y : Operand} {t : TypeId} {s u : ByteArray}
theorem Yx (g : Gd ops l gg) (hd : Nat.blt d nt = true) (hx : evl l x = some (.string s)) (hy : evl l y = some (.string u)) (q : WL E fn nt dr ops fin rest ((d, .bool (eqS s u)) :: l) h R) :
    WL E fn nt dr ops fin ((⟨some d, .binOp .eql t x y ty2, ty, pos, af, gg⟩, lt) :: rest) l h R :=
  QN g rfl (fun _ ag => by simp only [QM, ag.ev hx, ag.ev hy, Q1T, Q23, QY]) (wn hd) q
theorem Qee (g : Gd ops l gg) (hd : Nat.blt d nt = true) (hx : evl l x = some (.string s)) (hy : evl l y = some (.string u)) (q : WL E fn nt dr ops fin rest ((d, .bool (!eqS s u)) :: l) h R) :
    WL E fn nt dr ops fin ((⟨some d, .binOp .neq t x y ty2, ty, pos, af, gg⟩, lt) :: rest) l h R :=
  QN g rfl (fun _ ag => by simp only [QM, ag.ev hx, ag.ev hy, Q1T, Q23, QY]) (wn hd) q
end
end Go.X
namespace Go.X
structure Res where
  own : List Nat
  P : Hp → Prop
  st : ∀ h h' : Hp, (∀ i, i ∈ own → i < h.n ∧ h'.get i = h.get i) → h.n ≤ h'.n → P h → P h'
def owns (L : List Res) : List Nat := L.flatMap Res.own
theorem Z6 (r : Res) (L : List Res) : owns (r :: L) = r.own ++ owns L := rfl
theorem Zf (A B : List Res) : owns (A ++ B) = owns A ++ owns B := by simp [owns]
theorem Z9 {L : List Res} {r : Res} {i : Nat} (h : r ∈ L) (hi : i ∈ r.own) : i ∈ owns L := List.mem_flatMap.2 ⟨r, h, hi⟩
def cR (b : Nat) (o : AObj) : Res := ⟨[b], fun h => h.get b = some o, fun h h' e _ p => by rw [(e b (by simp)).2]; exact p⟩
def slR (e z : Nat) (s : Value) (cs : List Value) (n : Nat) (bs : List Nat) : Res := ⟨bs, fun h => SlC e z h s cs n bs, fun h h' k hn p => by
  rcases p with p | ⟨b, m, c, rest, h1, h2, h3, h4, h5, h6⟩
  · exact .inl p
  have := k b (by rw [h5]; simp)
  exact .inr ⟨b, m, c, rest, h1, by rw [this.2]; exact h2, h3, Nat.lt_of_lt_of_le this.1 hn, h5, h6⟩⟩
structure SH (h0 : Hp) (ds : List Nat) (L : List Res) (h : Hp) : Prop where
  ext : ExtB ds h0 h
  hold : ∀ r, r ∈ L → r.P h
  lt : ∀ i, i ∈ owns L → i < h.n
  new : ∀ i, i ∈ owns L → i ∈ ds ∨ h0.n ≤ i
  nd : (owns L).Nodup
section
variable {h0 h h' : Hp} {ds : List Nat} {L A B : List Res} {r r' : Res} {b i : Nat} {o : AObj}
theorem SH.start (h : Hp) : SH h [] [] h := ⟨.refl _ _, by simp, by simp [owns], by simp [owns], by simp [owns]⟩
theorem SH.begin {L : List Res} (hp : ∀ r, r ∈ L → r.P h) (hl : ∀ i, i ∈ owns L → i < h.n) (nd : (owns L).Nodup) : SH h (owns L) L h := ⟨.refl _ _, hp, hl, fun _ hi => .inl hi, nd⟩
theorem SH.one (hp : r.P h) (hl : ∀ i, i ∈ r.own → i < h.n) (nd : r.own.Nodup) : SH h r.own [r] h := by
  have e : owns [r] = r.own := by simp [owns]
  have := SH.begin (L := [r]) (h := h) (by simpa using hp) (by rw [e]; exact hl) (by rw [e]; exact nd); rwa [e] at this
theorem SH.cel (S : SH h0 ds L h) (i : Nat) (e : L[i]? = some (cR b o)) : h.get b = some o := S.hold _ (List.mem_of_getElem? e)
theorem SH.sl (S : SH h0 ds L h) (i : Nat) {et z n : Nat} {s : Value} {cs : List Value} {bs : List Nat} (e : L[i]? = some (slR et z s cs n bs)) : SlC et z h s cs n bs := S.hold _ (List.mem_of_getElem? e)
theorem SH.res (S : SH h0 ds L h) (i : Nat) (e : L[i]? = some r) : r.P h := S.hold _ (List.mem_of_getElem? e)
theorem SH.lt1 (S : SH h0 ds L h) (i : Nat) (e : L[i]? = some (cR b o)) : b < h.n := S.lt _ (Z9 (List.mem_of_getElem? e) (by simp [cR]))
theorem SH.old (S : SH h0 ds L h) (hg : h0.get b = some o) (hb : b < h0.n) (hd : b ∉ ds) : h.get b = some o := (S.ext.get b hb hd).trans hg
theorem SH.e0 (S : SH h0 [] L h) : Ext h0 h := S.ext.nil
theorem SH.old0 (S : SH h0 [] L h) (hg : h0.get b = some o) (hb : b < h0.n) : h.get b = some o := S.old hg hb (by simp)
theorem Q3Q {L : List Res} {i : Nat} {r : Res} (e : L[i]? = some r) (r' : Res) : ∃ A B, L = A ++ r :: B ∧ L.set i r' = A ++ r' :: B := by
  obtain ⟨hlt, rfl⟩ := List.getElem?_eq_some_iff.1 e; refine ⟨L.take i, L.drop (i + 1), ?_, ?_⟩
  · rw [← List.drop_eq_getElem_cons hlt, List.take_append_drop]
  rw [List.set_eq_take_append_cons_drop, if_pos hlt]
theorem SH.upd (S : SH h0 ds L h) (i : Nat) (e : L[i]? = some r) (g : ExtB r.own h h') (hp : r'.P h') (hl : ∀ j, j ∈ r'.own → j < h'.n) (hn : ∀ j, j ∈ r'.own → j ∈ r.own ∨ h.n ≤ j) (nd : r'.own.Nodup) : SH h0 ds (L.set i r') h' := by
  obtain ⟨A, B, rfl, e2⟩ := Q3Q e r'; rw [e2]; have nd0 := S.nd; rw [Zf, Z6] at nd0; simp only [List.nodup_append, List.mem_append] at nd0; obtain ⟨na, ⟨nr, nb, rb⟩, ab⟩ := nd0; have lt0 := S.lt; have new0 := S.new; simp only [Zf, Z6, List.mem_append] at lt0 new0; refine ⟨S.ext.join g fun j hj => new0 j (.inr (.inl hj)), fun q hq => ?_, fun j hj => ?_, fun j hj => ?_, ?_⟩
  · rcases List.mem_append.1 hq with hq | hq
    · refine q.st h h' (fun j hj => ?_) g.n (S.hold q (by simp [hq])); have hjA := Z9 hq hj; exact ⟨lt0 j (.inl hjA), g.get j (lt0 j (.inl hjA)) fun hr => ab j hjA j (.inl hr) rfl⟩
    rcases List.mem_cons.1 hq with rfl | hq
    · exact hp
    refine q.st h h' (fun j hj => ?_) g.n (S.hold q (by simp [hq])); have hjB := Z9 hq hj; exact ⟨lt0 j (.inr (.inr hjB)), g.get j (lt0 j (.inr (.inr hjB))) fun hr => rb j hr j hjB rfl⟩
  · simp only [Zf, Z6, List.mem_append] at hj; rcases hj with hj | hj | hj
    · exact Nat.lt_of_lt_of_le (lt0 j (.inl hj)) g.n
    · exact hl j hj
    exact Nat.lt_of_lt_of_le (lt0 j (.inr (.inr hj))) g.n
  · simp only [Zf, Z6, List.mem_append] at hj; rcases hj with hj | hj | hj
    · exact new0 j (.inl hj)
    · rcases hn j hj with h1 | h1
      · exact new0 j (.inr (.inl h1))
      exact .inr (Nat.le_trans S.ext.n h1)
    exact new0 j (.inr (.inr hj))
  rw [Zf, Z6]; simp only [List.nodup_append, List.mem_append]; refine ⟨na, ⟨nd, nb, fun j hj k hk ejk => ?_⟩, fun j hj k hk ejk => ?_⟩
  · subst ejk; rcases hn j hj with h1 | h1
    · exact rb j h1 j hk rfl
    have := lt0 j (.inr (.inr hk)); omega
  subst ejk; rcases hk with hk | hk
  · rcases hn j hk with h1 | h1
    · exact ab j hj j (.inl h1) rfl
    have := lt0 j (.inl hj); omega
  exact ab j hj j (.inr hk) rfl
theorem SH.push (S : SH h0 ds L h) (g : Ext h h') (hp : r.P h') (hl : ∀ j, j ∈ r.own → j < h'.n) (hn : ∀ j, j ∈ r.own → h.n ≤ j) (nd : r.own.Nodup) : SH h0 ds (r :: L) h' := by
  refine ⟨S.ext.join (g.b []) (by simp), fun q hq => ?_, fun j hj => ?_, fun j hj => ?_, ?_⟩
  · rcases List.mem_cons.1 hq with rfl | hq
    · exact hp
    exact q.st h h' (fun j hj => ⟨S.lt j (Z9 hq hj), g.get j (S.lt j (Z9 hq hj))⟩) g.n (S.hold q hq)
  · rw [Z6] at hj; rcases List.mem_append.1 hj with hj | hj
    · exact hl j hj
    exact Nat.lt_of_lt_of_le (S.lt j hj) g.n
  · rw [Z6] at hj; rcases List.mem_append.1 hj with hj | hj
    · exact .inr (Nat.le_trans S.ext.n (hn j hj))
    exact S.new j hj
  rw [Z6, List.nodup_append]; exact ⟨nd, S.nd, fun j hj k hk e => by subst e; have := S.lt j hk; have := hn j hj; omega⟩
theorem SH.grow (S : SH h0 ds L h) (g : Ext h h') : SH h0 ds L h' :=
  ⟨S.ext.join (g.b []) (by simp), fun q hq => q.st h h' (fun j hj => ⟨S.lt j (Z9 hq hj), g.get j (S.lt j (Z9 hq hj))⟩) g.n (S.hold q hq), fun j hj => Nat.lt_of_lt_of_le (S.lt j hj) g.n, S.new, S.nd⟩
theorem SH.alloc (S : SH h0 ds L h) (o : AObj) : SH h0 ds (cR h.n o :: L) (h.alloc o) :=
  S.push (Ext.alloc h o) (Hp.get_alloc_self _ _) (by simp [cR, Hp.n_alloc]) (by simp [cR]) (by simp [cR])
theorem SH.put (S : SH h0 ds L h) (i : Nat) (e : L[i]? = some (cR b o)) (o' : AObj) : SH h0 ds (L.set i (cR b o')) (h.put b o') :=
  S.upd i e (ExtB.put h b o') (Hp.get_put_self _ _ _) (by have := S.lt1 i e; simp [cR, Hp.n_put]; omega) (by simp [cR]) (by simp [cR])
theorem SH.nilSl (S : SH h0 ds L h) (e z : Nat) : SH h0 ds (slR e z (.slice none 0 0) [] 0 [] :: L) h := S.push (Ext.refl _) (.inl ⟨rfl, rfl, rfl, rfl⟩) (by simp [slR]) (by simp [slR]) (by simp [slR])
theorem SH.toSl {b e z n m : Nat} {cs : List Value} (S : SH h0 ds L h) (i : Nat) (hi : L[i]? = some (cR b (.cells cs e m))) (hm : m = 0 ∨ m = z + 3) (hn : cs.length = n * (z + 1)) : SH h0 ds (L.set i (slR e z (.slice (some ⟨b, 0, none⟩) n n) cs n [b])) h :=
  S.upd i hi (ExtB.refl _ _) (.inr ⟨b, m, n, [], rfl, by rw [List.append_nil]; exact S.cel i hi, hm, S.lt1 i hi, rfl, hn, Nat.le_refl _, by simp⟩) (by have := S.lt1 i hi; simp [slR]; exact this) (by simp [slR, cR]) (by simp [slR])
theorem SH.sub (S : SH h0 ds L h) (p : (A ++ B).Perm L) : SH h0 ds A h := by
  have pm : ∀ r, r ∈ A → r ∈ L := fun r hr => p.subset (by simp [hr]); have po : (owns (A ++ B)).Perm (owns L) := p.flatMap_right _; refine ⟨S.ext, fun r hr => S.hold r (pm r hr), fun i hi => S.lt i (po.subset (by rw [Zf]; simp [hi])), fun i hi => S.new i (po.subset (by rw [Zf]; simp [hi])), ?_⟩; have := po.nodup_iff.2 S.nd; rw [Zf, List.nodup_append] at this; exact this.1
theorem SH.drop (S : SH h0 ds (r :: L) h) : SH h0 ds L h := S.sub (B := [r]) (by
  simp)
theorem SH.ne {b c : Nat} {o u : AObj} (S : SH h0 ds (cR b o :: cR c u :: L) h) : b ≠ c := by
  have := S.nd; simp only [Z6, cR, List.cons_append, List.nil_append, List.nodup_cons, List.mem_cons] at this; exact fun e => this.1 (.inl e)
theorem Q32 : ∀ {L : List Res} {i j : Nat} {r q : Res}, (owns L).Nodup → i ≠ j → L[i]? = some r → L[j]? = some q → ∀ x, x ∈ r.own → x ∉ q.own
  | [], _, _, _, _, _, _, e, _ => by simp at e
  | s :: L, 0, 0, _, _, _, hij, _, _ => absurd rfl hij
  | s :: L, 0, j + 1, r, q, nd, _, e1, e2 => fun x h1 h2 => by
    simp only [List.getElem?_cons_zero, Option.some.injEq] at e1; subst e1; rw [Z6, List.nodup_append] at nd; exact nd.2.2 x h1 x (Z9 (List.mem_of_getElem? (by simpa using e2)) h2) rfl
  | s :: L, i + 1, 0, r, q, nd, _, e1, e2 => fun x h1 h2 => by
    simp only [List.getElem?_cons_zero, Option.some.injEq] at e2; subst e2; rw [Z6, List.nodup_append] at nd; exact nd.2.2 x h2 x (Z9 (List.mem_of_getElem? (by simpa using e1)) h1) rfl
  | s :: L, i + 1, j + 1, r, q, nd, hij, e1, e2 => by
    rw [Z6, List.nodup_append] at nd; exact Q32 (L := L) (i := i) (j := j) nd.2.1 (fun e => hij (by omega)) (by rw [List.getElem?_cons_succ] at e1; exact e1) (by rw [List.getElem?_cons_succ] at e2; exact e2)
theorem SH.since (S : SH h0 ds L h) (S2 : SH h (owns L) A h') (hA : ∀ i, i ∈ owns A → i ∈ owns L ∨ h.n ≤ i) : SH h0 ds A h' :=
  ⟨S.ext.join S2.ext S.new, S2.hold, S2.lt, fun i hi => (hA i hi).elim (S.new i) fun h1 => .inr (Nat.le_trans S.ext.n h1), S2.nd⟩
end
def RowV (h : Hp) (v : Value) (xs : List Value) : Prop := (xs = [] ∧ ∃ a c, v = .slice a 0 c) ∨ ∃ b o c cs e m, v = .slice (some ⟨b, o, none⟩) xs.length c ∧ h.get b = some (.cells cs e m) ∧ b < h.n ∧ ∀ i (hi : i < xs.length), cs[o + i]? = some xs[i]
section
variable {h h' : Hp} {v : Value} {xs : List Value}
theorem RowV.ext (x : RowV h v xs) (g : Ext h h') : RowV h' v xs := by
  rcases x with x | ⟨b, o, c, cs, e, m, h1, h2, h3, h4⟩
  · exact .inl x
  exact .inr ⟨b, o, c, cs, e, m, h1, (g.get b h3).trans h2, Nat.lt_of_lt_of_le h3 g.n, h4⟩
theorem RowV.val (x : RowV h v xs) : ∃ a c, v = .slice a xs.length c := by
  rcases x with ⟨rfl, a, c, h1⟩ | ⟨b, o, c, cs, e, m, h1, _⟩
  · exact ⟨a, c, h1⟩
  exact ⟨_, c, h1⟩
theorem RowV.at (x : RowV h v xs) (hn : 0 < xs.length) : ∃ b o c cs e m, v = .slice (some ⟨b, o, none⟩) xs.length c ∧ h.get b = some (.cells cs e m) ∧ b < h.n ∧ ∀ i (hi : i < xs.length), cs[o + i]? = some xs[i] := by
  rcases x with ⟨rfl, _⟩ | x
  · simp at hn
  exact x
theorem SlC.row {e : Nat} {n : Nat} {bs : List Nat} (x : SlC e 0 h v xs n bs) : RowV h v xs := by
  rcases x with ⟨h1, h2, h3, _⟩ | ⟨b, m, c, rest, h1, h2, _, h4, _, h5, _⟩
  · exact .inl ⟨h2, none, 0, h1⟩
  have hl : xs.length = n := by omega
  refine .inr ⟨b, 0, c, _, e, m, by rw [hl]; exact h1, h2, h4, fun i hi => ?_⟩; rw [Nat.zero_add, List.getElem?_append_left hi, List.getElem?_eq_getElem hi]
theorem RowV.of {b e m : Nat} (hg : h.get b = some (.cells xs e m)) (hb : b < h.n) {n c : Nat} (hn : n = xs.length) : RowV h (.slice (some ⟨b, 0, none⟩) n c) xs :=
  .inr ⟨b, 0, c, xs, e, m, by rw [hn], hg, hb, fun i hi => by rw [Nat.zero_add, List.getElem?_eq_getElem hi]⟩
theorem RowV.valM {α : Type} {f : α → Value} {ys : List α} (x : RowV h v (ys.map f)) : ∃ a c, v = .slice a ys.length c := by
  have := x.val; rwa [List.length_map] at this
theorem RowV.atM {α : Type} {f : α → Value} {ys : List α} (x : RowV h v (ys.map f)) (hn : 0 < ys.length) : ∃ b o c cs e m, v = .slice (some ⟨b, o, none⟩) ys.length c ∧ h.get b = some (.cells cs e m) ∧ b < h.n ∧ ∀ i (hi : i < ys.length), cs[o + i]? = some (f ys[i]) := by
  obtain ⟨b, o, c, cs, e, m, h1, h2, h3, h4⟩ := x.at (by rw [List.length_map]; exact hn); refine ⟨b, o, c, cs, e, m, by rw [List.length_map] at h1; exact h1, h2, h3, fun i hi => ?_⟩; rw [h4 i (by rw [List.length_map]; exact hi), List.getElem_map]
theorem RowV.nil : RowV h (.slice none 0 0) [] := .inl ⟨rfl, none, 0, rfl⟩
end
section
variable {E : Env} {fn : FuncId} {nt : Nat} {l : Kn} {h h0 : Hp} {dr : Bool} {ops : Array Oper} {fin rest : List (Oper × List Oper)} {R : Kn → Hp → Prop} {lt : List Oper} {ds : List Nat} {L : List Res}
variable {d : Nat} {ty t : TypeId} {pos : String} {af : Array Edge} {gg : Option (Nat × Bool)} {x y : Operand} {v : Value}
theorem Zl {e : TypeId} {zv : Value} (S : SH h0 ds L h) (g : Gd ops l gg) (hd : Nat.blt d nt = true) (hz : E.zero e = some zv)
    (q : ∀ b h', h0.n ≤ b → SH h0 ds (cR b (.cells zv.cells.toList e 0) :: L) h' → WL E fn nt dr ops fin rest ((d, .pointer (some ⟨b, 0, none⟩)) :: l) h' R) :
    WL E fn nt dr ops fin ((⟨some d, .alloc e, ty, pos, af, gg⟩, lt) :: rest) l h R := Qef g hd hz (q _ _ S.ext.n (S.alloc _))
theorem Yu {e : TypeId} (S : SH h0 ds L h) (g : Gd ops l gg) (hd : Nat.blt d nt = true) (hx : evl l x = some v)
    (q : ∀ b h', h0.n ≤ b → SH h0 ds (cR b (.cells v.cells.toList e 0) :: L) h' → WL E fn nt dr ops fin rest ((d, .pointer (some ⟨b, 0, none⟩)) :: l) h' R) :
    WL E fn nt dr ops fin ((⟨some d, .box e x, ty, pos, af, gg⟩, lt) :: rest) l h R := Qc5 g hd hx (q _ _ S.ext.n (S.alloc _))
theorem Q2a (S : SH h0 ds L h) (g : Gd ops l gg) (hd : Nat.blt d nt = true)
    (q : ∀ b h', h0.n ≤ b → SH h0 ds (cR b (.map (([] : Ms).map ent) 0) :: L) h' → WL E fn nt dr ops fin rest ((d, .map (some b)) :: l) h' R) :
    WL E fn nt dr ops fin ((⟨some d, .makeMap t none, ty, pos, af, gg⟩, lt) :: rest) l h R := Q9Q g hd (q _ _ S.ext.n (S.alloc _))
theorem Q29 {k k' : IntKind} {n c : Int} {e z by' : Nat} {zv : Value} (S : SH h0 ds L h) (g : Gd ops l gg) (hd : Nat.blt d nt = true) (hx : evl l x = some (.int k n)) (hy : evl l y = some (.int k' c)) (hu : E.und t = some (.slice e)) (hs : E.size e = some (z + 1))
    (hz : E.zero e = some zv) (hb : E.bytes e = some by') (hzs : zv.cells.size = z + 1) (h0' : 0 ≤ n) (h1 : n ≤ c) (h2 : c ≤ 1099511627776) (h3 : by' * c.toNat ≤ 140737488355328)
    (q : ∀ b h', h0.n ≤ b → SH h0 ds (cR b (.cells (Ql zv.cells.toList c.toNat) e 0) :: L) h' → WL E fn nt dr ops fin rest ((d, .slice (some ⟨b, 0, none⟩) n.toNat c.toNat) :: l) h' R) :
    WL E fn nt dr ops fin ((⟨some d, .makeSlice t x y, ty, pos, af, gg⟩, lt) :: rest) l h R := Q6r g hd hx hy hu hs hz hb hzs h0' h1 h2 h3 (q _ _ S.ext.n (S.alloc _))
theorem Qn {ps : Array (Nat × Operand)} {n : Nat} {e z : Nat} {zv : Value} {cs : Array Value} (pv : List (Nat × Value)) (S : SH h0 ds L h) (g : Gd ops l gg) (hd : Nat.blt d nt = true) (hu : E.und t = some (.slice e)) (hs : E.size e = some (z + 1))
    (hz : E.zero e = some zv) (hn : (Nat.ble (n * (z + 1)) (2 ^ 24) && Nat.beq zv.cells.size (z + 1)) = true)
    (hv : ps.toList.map (fun p => (p.1, evl l p.2)) = pv.map (fun p => (p.1, some p.2))) (hf : Instr.fill (fun i => some (i * (z + 1), z + 1)) (Ql zv.cells.toList n).toArray pv = some cs)
    (q : ∀ b h', h0.n ≤ b → SH h0 ds (cR b (.cells cs.toList e 0) :: L) h' → WL E fn nt dr ops fin rest ((d, .slice (some ⟨b, 0, none⟩) n n) :: l) h' R) :
    WL E fn nt dr ops fin ((⟨some d, .buildSlice t n ps, ty, pos, af, gg⟩, lt) :: rest) l h R := Q53 pv g hd hu hs hz hn hv hf (q _ _ S.ext.n (S.alloc _))
theorem ZD {b o : Nat} {cs : List Value} {e : TypeId} {m : Nat} (i : Nat) (S : SH h0 ds L h) (g : Gd ops l gg) (hx : evl l x = some (.pointer (some ⟨b, o, none⟩))) (hy : evl l y = some v) (hc : cellV v = true) (ht : E.size t = some 1)
    (hg : L[i]? = some (cR b (.cells cs e m))) (hm : m ≠ 1) (hv : o < cs.length) (ha : ∀ h', SH h0 ds (L.set i (cR b (.cells (cs.set o v) e m))) h' → ∀ q, q ∈ lt → Again E ops l h' q)
    (q : ∀ h', SH h0 ds (L.set i (cR b (.cells (cs.set o v) e m))) h' → WL E fn nt dr ops fin rest l h' R) :
    WL E fn nt dr ops fin ((⟨none, .store t x y, ty, pos, af, gg⟩, lt) :: rest) l h R := Q9O g hx hy hc ht (S.cel i hg) hm hv (ha _ (S.put i hg _)) (q _ (S.put i hg _))
theorem QL {b n : Nat} {cs : List Value} {vs : Array Value} {e : TypeId} {m : Nat} (i : Nat) (S : SH h0 ds L h) (g : Gd ops l gg) (hx : evl l x = some (.pointer (some ⟨b, 0, none⟩))) (hy : evl l y = some (.agg vs)) (hc : vs.toList.all cellV = true) (ht : E.size t = some n) (hn : vs.size = n)
    (hg : L[i]? = some (cR b (.cells cs e m))) (hm : m ≠ 1) (hv : cs.length = n) (ha : ∀ h', SH h0 ds (L.set i (cR b (.cells vs.toList e m))) h' → ∀ q, q ∈ lt → Again E ops l h' q)
    (q : ∀ h', SH h0 ds (L.set i (cR b (.cells vs.toList e m))) h' → WL E fn nt dr ops fin rest l h' R) :
    WL E fn nt dr ops fin ((⟨none, .store t x y, ty, pos, af, gg⟩, lt) :: rest) l h R := Qc4 g hx hy hc ht hn (S.cel i hg) hm hv (ha _ (S.put i hg _)) (q _ (S.put i hg _))
theorem SlC.nodup {e z : Nat} {h : Hp} {s : Value} {cs : List Value} {n : Nat} {bs : List Nat} (x : SlC e z h s cs n bs) : bs.Nodup := by
  rcases x with ⟨_, _, _, rfl⟩ | ⟨b, m, c, rest, h1, h2, h3, h4, rfl, _⟩ <;> simp
theorem SlC.cellV {e z : Nat} {h : Hp} {s : Value} {cs : List Value} {n : Nat} {bs : List Nat} (x : SlC e z h s cs n bs) : Go.X.cellV s = true := by
  obtain ⟨a, c, rfl⟩ := x.val; rfl
theorem KI {e z by' qb m' n : Nat} {s : Value} {cs xs : List Value} {bs : List Nat} (i j : Nat) (S : SH h0 ds L h) (el : ElN E t e z by') (g : Gd ops l gg) (hd : Nat.blt d nt = true) (hx : evl l x = some s) (hy : evl l y = some (.slice (some ⟨qb, 0, none⟩) 1 1))
    (hi : L[i]? = some (slR e z s cs n bs)) (hj : L[j]? = some (cR qb (.cells xs e m'))) (hl : xs.length = z + 1) (hc : xs.all cellV = true) (hn : (n + 1) * (by' + 1) ≤ 1099511627776)
    (ha : ∀ s' bs' h', SH h0 ds (L.set i (slR e z s' (cs ++ xs) (n + 1) bs')) h' → ∀ q, q ∈ lt → Again E ops ((d, s') :: l) h' q)
    (q : ∀ s' bs' h', SH h0 ds (L.set i (slR e z s' (cs ++ xs) (n + 1) bs')) h' → WL E fn nt dr ops fin rest ((d, s') :: l) h' R) :
    WL E fn nt dr ops fin ((⟨some d, .call ⟨.builtin .append, #[x, y], #[t, t]⟩, ty, pos, af, gg⟩, lt) :: rest) l h R := by
  obtain ⟨v', h', bs', q1, q2, q3, q4⟩ := Qfh el (S.sl i hi) (S.cel j hj) hl hc hn; have S' := S.upd (r' := slR e z v' (cs ++ xs) (n + 1) bs') i hi q3 q2 q2.lt q4 q2.nodup; exact Q7r g hd hx hy q1 (ha _ _ _ S') (q _ _ _ S')
section
variable {k : IntKind} {a b : Int} {t ty2 : TypeId}
theorem Q0G (g : Gd ops l gg) (hx : evl l x = some (.int k a)) (hy : evl l y = some (.int k b)) (hl : lk l d = some (.bool (decide (a = b)))) : Again E ops l h ⟨some d, .binOp .eql t x y ty2, ty, pos, af, gg⟩ := Qfi g hx hy rfl (by simp only [ZA, QY]; rfl) hl Q9x
end
theorem Jb {a b : Code} {Q : Out → Kn → Hp → Prop} (lc : Kn) (P : Kn → Hp → Prop) (q : W E fn nt a l h (Cut (fun l' h' => ∃ lv, l' = lv ++ lc ∧ P lv h') Q)) (q2 : ∀ lv h, P lv h → W E fn nt b (lv ++ lc) h Q) : W E fn nt (.seq a b) l h Q :=
  w_cut _ q (by rintro l' h' ⟨lv, rfl, p⟩; exact q2 lv h' p)
theorem Q1D {P : Kn → Hp → Prop} {lc : Kn} {Q : Out → Kn → Hp → Prop} (lv : Kn) (s : Sub (lv ++ lc) l) (p : P lv h) : Cut (fun l' h' => ∃ lv, l' = lv ++ lc ∧ P lv h') Q .next l h := ⟨_, s, lv, rfl, p⟩
theorem QV {b : Code} {Q : Out → Kn → Hp → Prop} (lv lc : Kn) (s : Sub (lv ++ lc) l) (I : Nat → Kn → Hp → Prop) {n : Nat} (start : I n lv h)
    (round : ∀ n lv h, I n lv h → W E fn nt b (lv ++ lc) h (Rnd (fun n l h => ∃ lv, l = lv ++ lc ∧ I n lv h) n Q)) : W E fn nt (.loop b) l h Q :=
  Q1Y (lv ++ lc) s (Q8V (fun n l h => ∃ lv, l = lv ++ lc ∧ I n lv h) ⟨lv, rfl, start⟩ (by rintro n l h ⟨lv, rfl, hI⟩; exact round n lv h hI))
theorem KL {I : Nat → Kn → Hp → Prop} {n : Nat} {lc : Kn} {Q : Out → Kn → Hp → Prop} (m : Nat) (hm : m < n) (lv : Kn) (s : Sub (lv ++ lc) l) (hI : I m lv h) : Rnd (fun n l h => ∃ lv, l = lv ++ lc ∧ I n lv h) n Q .next l h :=
  ⟨m, hm, _, s, lv, rfl, hI⟩
end
end Go.X
namespace Go.X
section
variable {K : Type} [DecidableEq K]
abbrev MsK (K : Type) := List (K × Value × Nat)
def Q1C (enc : K → Value) (x : K × Value × Nat) : MapEntry := { key := enc x.1, val := x.2.1, born := x.2.2 }
def fK (k : K) : MsK K → Nat → Option (Nat × Value)
  | [], _ => none
  | (a, v, _) :: r, i => if k = a then some (i, v) else fK k r (i + 1)
def Q0s (M : MsK K) (k : K) : Option Value := (fK k M 0).map (·.2)
def Q8L (M : MsK K) (k : K) (v : Value) (cl : Nat) : MsK K × Nat := match fK k M 0 with
  | some (i, _) => (M.modify i fun x => (k, v, x.2.2), cl)
  | none => (M ++ [(k, v, cl)], cl + 1)
structure KeyT (E : Env) (t kt et : TypeId) (enc : K → Value) : Prop where
  und : E.und t = some (.map kt et)
  eq : ∀ h a b, Jm E h kt (enc a) (enc b) = some (decide (a = b))
  ok : ∀ a, Y8 E kt (enc a) = true
variable {E : Env} {t kt et : TypeId} {enc : K → Value}
theorem KeyT.find (T : KeyT E t kt et enc) (h : Hp) (k : K) : ∀ (M : MsK K) (i : Nat), Q16 E h kt (enc k) (M.map (Q1C enc)) i = some (fK k M i)
  | [], _ => rfl
  | (a, v, n) :: r, i => by
    simp only [List.map_cons, Q16, Q1C, T.eq, fK]; by_cases e : k = a
    · subst e; simp
    simp only [e, decide_false, if_false]; exact T.find h k r (i + 1)
theorem QaE {k : K} : ∀ {M : MsK K} {i j : Nat} {v : Value}, fK k M i = some (j, v) → ∃ p, j = i + p ∧ p < M.length ∧ ∃ n, M[p]? = some (k, v, n)
  | [], _, _, _, h => by simp [fK] at h
  | (a, u, n) :: r, i, j, v, h => by
    simp only [fK] at h; by_cases e : k = a
    · rw [if_pos e] at h; cases h; exact ⟨0, rfl, by simp, n, by simp [e]⟩
    rw [if_neg e] at h; obtain ⟨p, h1, h2, m, h3⟩ := QaE h; exact ⟨p + 1, by omega, by simp; omega, m, by simpa using h3⟩
theorem Q5D {k k' : K} {v : Value} : ∀ (M : MsK K) (s p : Nat) (u : Value), fK k M s = some (s + p, u) →
    (fK k' (M.modify p fun x => (k, v, x.2.2)) s).map (·.2) = if k' = k then some v else (fK k' M s).map (·.2)
  | [], _, _, _, h => by simp [fK] at h
  | (a, w, n) :: r, s, p, u, h => by
    simp only [fK] at h; by_cases e : k = a
    · rw [if_pos e] at h; have hp : p = 0 := by simp at h; omega
      subst hp; simp only [List.modify_zero_cons, fK]; by_cases e' : k' = k
      · subst e'; simp
      rw [if_neg e', if_neg e', if_neg (fun x => e' (x.trans e.symm))]
    rw [if_neg e] at h; cases p with
    | zero =>
      obtain ⟨q, h1, _⟩ := QaE h; omega
    | succ p =>
      simp only [List.modify_succ_cons, fK]; by_cases e' : k' = a
      · rw [if_pos e', if_pos e', if_neg (fun x => e (x.symm.trans e'))]
      rw [if_neg e', if_neg e']; exact Q5D r (s + 1) p u (by rw [h]; congr 2; omega)
theorem Q5E {k k' : K} {v : Value} {c : Nat} : ∀ (M : MsK K) (s : Nat), fK k M s = none → (fK k' (M ++ [(k, v, c)]) s).map (·.2) = if k' = k then some v else (fK k' M s).map (·.2)
  | [], s, _ => by
    simp only [List.nil_append, fK]; by_cases e : k' = k
    · subst e; simp
    rw [if_neg e, if_neg e]
  | (a, w, n) :: r, s, h => by
    simp only [fK] at h; by_cases e : k = a
    · rw [if_pos e] at h; cases h
    rw [if_neg e] at h; simp only [List.cons_append, fK]; by_cases e' : k' = a
    · rw [if_pos e', if_pos e', if_neg (fun x => e (x.symm.trans e'))]
    rw [if_neg e', if_neg e']; exact Q5E r (s + 1) h
theorem Q49 (M : MsK K) (k k' : K) (v : Value) (cl : Nat) : Q0s (Q8L M k v cl).1 k' = if k' = k then some v else Q0s M k' := by
  unfold Q8L Q0s; cases h : fK k M 0 with
  | none => exact Q5E M 0 h
  | some x =>
    obtain ⟨i, u⟩ := x; exact Q5D M 0 i u (by rw [h, Nat.zero_add])
theorem Q36 {K2 : Type} {enc : K2 → Value} (f : K2 × Value × Nat → K2 × Value × Nat) (g : MapEntry → MapEntry) (hg : ∀ x, Q1C enc (f x) = g (Q1C enc x)) : ∀ (M : MsK K2) (i : Nat), (M.map (Q1C enc)).modify i g = (M.modify i f).map (Q1C enc)
  | [], _ => by simp
  | a :: l, 0 => by simp [hg]
  | a :: l, i + 1 => by simp [Q36 f g hg l i]
section
variable {fn : FuncId} {nt : Nat} {l : Kn} {h h0 : Hp} {dr : Bool} {ops : Array Oper} {fin rest : List (Oper × List Oper)} {R : Kn → Hp → Prop} {lt : List Oper} {ds : List Nat} {L : List Res}
variable {d : Nat} {ty : TypeId} {pos : String} {af : Array Edge} {gg : Option (Nat × Bool)} {x y z : Operand} {v zv : Value} {M : MsK K} {cl r : Nat} {k : K}
theorem Q1j (T : KeyT E t kt et enc) (hg : h.get r = some (.map (M.map (Q1C enc)) cl)) (hz : E.zero et = some zv) (ok : Bool) :
    KS E h t (.map (some r)) (enc k) ok = some (match Q0s M k with | some v => cond ok (.tuple #[v, .bool true]) v | none => cond ok (.tuple #[zv, .bool false]) zv) := by
  simp only [KS, T.und, mapOf, hg, T.ok, cond_true, T.find, Q0s]; cases fK k M 0 with
  | none => simp [hz]
  | some x => rfl
theorem Q2i (T : KeyT E t kt et enc) (g : Gd ops l gg) (hd : Nat.blt d nt = true) (hx : evl l x = some (.map (some r))) (hy : evl l y = some (enc k)) (hg : h.get r = some (.map (M.map (Q1C enc)) cl)) (hz : E.zero et = some zv)
    (q : WL E fn nt dr ops fin rest ((d, (Q0s M k).getD zv) :: l) h R) : WL E fn nt dr ops fin ((⟨some d, .lookup t x y false, ty, pos, af, gg⟩, lt) :: rest) l h R :=
  QN g rfl (fun _ ag => by
    simp only [QM, ag.ev hx, ag.ev hy, Q1j T hg hz]
    cases Q0s M k <;> rfl) (wn hd) q
theorem YQ (T : KeyT E t kt et enc) (g : Gd ops l gg) (hd : Nat.blt d nt = true) (hx : evl l x = some (.map (some r))) (hy : evl l y = some (enc k)) (hg : h.get r = some (.map (M.map (Q1C enc)) cl)) (hz : E.zero et = some zv)
    (q : WL E fn nt dr ops fin rest ((d, .tuple #[(Q0s M k).getD zv, .bool (Q0s M k).isSome]) :: l) h R) : WL E fn nt dr ops fin ((⟨some d, .lookup t x y true, ty, pos, af, gg⟩, lt) :: rest) l h R :=
  QN g rfl (fun _ ag => by
    simp only [QM, ag.ev hx, ag.ev hy, Q1j T hg hz]
    cases Q0s M k <;> rfl) (wn hd) q
theorem Qen (T : KeyT E t kt et enc) (hg : h.get r = some (.map (M.map (Q1C enc)) cl)) : Jk E h t (.map (some r)) (enc k) v = some (h.put r (.map ((Q8L M k v cl).1.map (Q1C enc)) (Q8L M k v cl).2)) := by
  simp only [Jk, T.und, hg, T.ok, cond_true, T.find, Q8L]; cases hf : fK k M 0 with
  | none => simp [Q1C]
  | some x =>
    obtain ⟨i, w⟩ := x; simp only [Option.some.injEq]
    congr 2
    exact Q36 (fun x => (k, v, x.2.2)) _ (fun _ => rfl) M i
theorem Kb (i : Nat) (S : SH h0 ds L h) (T : KeyT E t kt et enc) (g : Gd ops l gg) (hx : evl l x = some (.map (some r))) (hy : evl l y = some (enc k)) (hz : evl l z = some v)
    (hg : L[i]? = some (cR r (.map (M.map (Q1C enc)) cl))) (ha : ∀ h', SH h0 ds (L.set i (cR r (.map ((Q8L M k v cl).1.map (Q1C enc)) (Q8L M k v cl).2))) h' → ∀ q, q ∈ lt → Again E ops l h' q)
    (q : ∀ h', SH h0 ds (L.set i (cR r (.map ((Q8L M k v cl).1.map (Q1C enc)) (Q8L M k v cl).2))) h' → WL E fn nt dr ops fin rest l h' R) :
    WL E fn nt dr ops fin ((⟨none, .mapUpdate t x y z, ty, pos, af, gg⟩, lt) :: rest) l h R := by
  refine Q3s g rfl (fun _ ag => ?_) wn0 (ha _ (S.put i hg _)) (q _ (S.put i hg _)); simp only [Zx, ag.ev hx, ag.ev hy, ag.ev hz, Qen T (S.cel i hg)]
end
end
theorem Qco {E : Env} {kt : TypeId} (hk : E.und kt = some (.int .i64)) (h : Hp) (a b : Int) : Jm E h kt (.int .i64 a) (.int .i64 b) = some (decide (a = b)) := Qal hk a b
theorem KeyT.int {E : Env} {t kt et : TypeId} (hu : E.und t = some (.map kt et)) (hk : E.und kt = some (.int .i64)) : KeyT E t kt et (fun n : Int => Value.int .i64 n) := ⟨hu, fun h a b => Qco hk h a b, fun a => Qaj hk a⟩
end Go.X
namespace Go.X
open Go.RowKit
mutual
def shV : Nat → Nat → Value → Option Value
  | 0, _, _ => none
  | k + 1, n, v => match v with
    | .bool b => some (.bool b)
    | .int k a => some (.int k a)
    | .string s => some (.string s)
    | .pointer none => some (.pointer none)
    | .slice none l c => some (.slice none l c)
    | .map none => some (.map none)
    | .nilFunc => some .nilFunc
    | .nilIface => some .nilIface
    | .pointer (some a) => cond (Nat.ble 256 a.block) (some (.pointer (some ⟨n + (a.block - 256), a.off, a.spot⟩))) none
    | .slice (some a) l c => cond (Nat.ble 256 a.block) (some (.slice (some ⟨n + (a.block - 256), a.off, a.spot⟩) l c)) none
    | .map (some r) => cond (Nat.ble 256 r) (some (.map (some (n + (r - 256))))) none
    | .func (.func f) a b => (match shL k n a.toList, shL k n b.toList with
      | some l, some m => some (.func (.func f) l.toArray m.toArray)
      | _, _ => none)
    | .agg a => (match shL k n a.toList with
      | some l => some (.agg l.toArray)
      | none => none)
    | _ => none
def shL : Nat → Nat → List Value → Option (List Value)
  | 0, _, _ => none
  | _ + 1, _, [] => some []
  | k + 1, n, v :: l => match shV k n v, shL k n l with
    | some u, some m => some (u :: m)
    | _, _ => none
end
def shE (n : Nat) : List MapEntry → Option (List MapEntry)
  | [] => some []
  | e :: l => match shV 400 n e.key, shV 400 n e.val, shE n l with
    | some k, some v, some m => some ({ key := k, val := v, born := e.born } :: m)
    | _, _, _ => none
def shO (n : Nat) : AObj → Option AObj
  | .cells c e m => cond (Nat.beq m 1) none (match shL 400 n c with
    | some l => some (.cells l e m)
    | none => none)
  | .map es cl => (match shE n es with
    | some l => some (.map l cl)
    | none => none)
  | .dead => some .dead
  | _ => none
def Q82 (n : Nat) : List AObj → Option (List AObj)
  | [] => some []
  | o :: l => match shO n o, Q82 n l with
    | some o, some l => some (o :: l)
    | _, _ => none
structure Moved (M1 M' : Mp) (n : Nat) : Prop where
  known : ∀ i, 256 ≤ i → M1.K i → M'.K (n + (i - 256))
  place : ∀ i, 256 ≤ i → M1.K i → ∀ x, M'.ρ (n + (i - 256)) = some x → M1.ρ i = some x
  mode : ∀ i, 256 ≤ i → M1.K i → M'.md (n + (i - 256)) = M1.md i
section
variable {M1 M' : Mp} {n : Nat}
mutual
theorem Q27 (x : Moved M1 M' n) : ∀ (k : Nat) (v u w : Value), shV k n v = some u → VRel M1 v w → VRel M' u w
  | 0, _, _, _, h, _ => by simp [shV] at h
  | k + 1, v, u, w, h, r => by
    cases r with
    | bool => simp [shV] at h; subst h; exact .bool _
    | int => simp [shV] at h; subst h; exact .int _ _
    | string => simp [shV] at h; subst h; exact .string _
    | nilp => simp [shV] at h; subst h; exact .nilp
    | nils => simp [shV] at h; subst h; exact .nils _ _
    | nilm => simp [shV] at h; subst h; exact .nilm
    | nilFunc => simp [shV] at h; subst h; exact .nilFunc
    | nilIface => simp [shV] at h; subst h; exact .nilIface
    | ptr hr =>
      simp only [shV] at h; obtain ⟨h1, h⟩ := Qi h; cases h; have h1 := (Qu _ _).1 h1; exact .ptr ⟨x.known _ h1 hr.1, fun b δ S hρ => hr.2 b δ S (x.place _ h1 hr.1 _ hρ)⟩
    | sl hr =>
      simp only [shV] at h; obtain ⟨h1, h⟩ := Qi h; cases h; have h1 := (Qu _ _).1 h1; refine .sl ⟨x.known _ h1 hr.1, fun b δ S hρ => ?_⟩; have := hr.2 b δ S (x.place _ h1 hr.1 _ hρ); unfold SlOk at *; rw [← x.mode _ h1 hr.1] at this; exact this
    | map hr =>
      simp only [shV] at h; obtain ⟨h1, h⟩ := Qi h; cases h; have h1 := (Qu _ _).1 h1; exact .map ⟨x.known _ h1 hr.1, fun b δ S hρ => hr.2 b δ S (x.place _ h1 hr.1 _ hρ)⟩
    | @func f f' a b c d hf ha hb ka kb =>
      cases f with
      | func g =>
        simp only [shV] at h
        split at h
        · rename_i l m h1 h2; cases h; have hl := Q3z x k _ _ _ h1 ⟨ha, ka⟩; have hm := Q3z x k _ _ _ h2 ⟨hb, kb⟩; refine .func' ?_ (by simpa using hl) (by simpa using hm); cases f' <;> simp only [FnRel] at hf ⊢ <;> first | exact hf | cases hf
        cases h
      | _ => simp [shV] at h
    | @agg a c ha ka =>
      simp only [shV] at h
      split at h
      · rename_i l h1; cases h; exact .agg' (by simpa using Q3z x k _ _ _ h1 ⟨ha, ka⟩)
      cases h
    | float => simp [shV] at h
    | complex => simp [shV] at h
    | junk => simp [shV] at h
    | chan => simp [shV] at h
    | nilc => simp [shV] at h
    | iface => simp [shV] at h
    | tuple => simp [shV] at h
theorem Q3z (x : Moved M1 M' n) : ∀ (k : Nat) (l u w : List Value), shL k n l = some u → VsRel M1 l w → VsRel M' u w
  | 0, _, _, _, h, _ => by simp [shL] at h
  | k + 1, [], u, w, h, r => by
    simp [shL] at h; subst h; cases w with
    | nil => exact .nil _
    | cons a b => have := r.1; simp at this
  | k + 1, v :: l, u, w, h, r => by
    simp only [shL] at h
    split at h
    · rename_i u' m h1 h2; cases h; cases w with
      | nil => have := r.1; simp at this
      | cons a b => exact .cons (Q27 x k _ _ _ h1 r.uncons.1) (Q3z x k _ _ _ h2 r.uncons.2)
    cases h
end
theorem Q9p (x : Moved M1 M' n) : ∀ {l u w : List MapEntry}, shE n l = some u → EsRel M1 l w → EsRel M' u w
  | [], u, w, h, r => by
    simp [shE] at h; subst h; exact ⟨r.1, fun i a b ha => by simp at ha⟩
  | e :: l, u, w, h, r => by
    simp only [shE] at h
    split at h
    · rename_i k v m h1 h2 h3; cases h; cases w with
      | nil => have := r.1; simp at this
      | cons a b =>
        have h0 := r.2 0 e a rfl rfl; have hr : EsRel M1 l b := ⟨by have := r.1; simpa using this, fun i p q hp hq => r.2 (i + 1) p q (by simpa using hp) (by simpa using hq)⟩; have ih := Q9p x h3 hr; refine ⟨by simp [ih.1], fun i p q hp hq => ?_⟩; cases i with
        | zero =>
          simp at hp hq; subst hp; subst hq; exact ⟨Q27 x _ _ _ _ h1 h0.1, Q27 x _ _ _ _ h2 h0.2.1, h0.2.2⟩
        | succ i => exact ih.2 i p q (by simpa using hp) (by simpa using hq)
    cases h
theorem Q9o : ∀ {k : Nat} {l u : List Value}, shL k n l = some u → u.length = l.length
  | 0, _, _, h => by simp [shL] at h
  | k + 1, [], _, h => by simp [shL] at h; subst h; rfl
  | k + 1, v :: l, _, h => by
    simp only [shL] at h
    split at h
    · rename_i h2; cases h; simp [Q9o h2]
    cases h
theorem Qd4 : ∀ {k : Nat} {l u : List Value} {j : Nat} {v : Value}, shL k n l = some u → u[j]? = some v → ∃ v0 k0, l[j]? = some v0 ∧ shV k0 n v0 = some v
  | 0, _, _, _, _, h, _ => by simp [shL] at h
  | k + 1, [], _, _, _, h, e => by simp [shL] at h; subst h; simp at e
  | k + 1, a :: l, _, j, v, h, e => by
    simp only [shL] at h
    split at h
    · rename_i u' m h1 h2; cases h; cases j with
      | zero => simp at e; subst e; exact ⟨a, k, rfl, h1⟩
      | succ j => exact Qd4 (l := l) (u := m) (j := j) h2 (by simpa using e)
    cases h
theorem QdN (x : Moved M1 M' n) {i : Nat} (hi : 256 ≤ i) (hk : M1.K i) {o u : AObj} {δ S : Nat} {ob : Obj} (h : shO n o = some u) (r : ORel M1 i o δ S ob) : ORel M' (n + (i - 256)) u δ S ob := by
  cases o with
  | cells c e m =>
    simp only [shO] at h; cases hm : Nat.beq m 1 with
    | true => rw [hm, cond_true] at h; cases h
    | false =>
      rw [hm, cond_false] at h
      split at h
      · rename_i l hl; cases h; obtain ⟨c', fr, h1, h2, h3, h4, h5⟩ := r; have hlen := Q9o hl; refine ⟨c', fr, h1, h2, by omega, fun j v hv => ?_, ?_⟩
        · obtain ⟨v0, k0, e1, e2⟩ := Qd4 hl hv; obtain ⟨w, e3, e4⟩ := h4 j v0 e1; exact ⟨w, e3, Q27 x _ _ _ _ e2 e4⟩
        rw [hlen, x.mode i hi hk]; exact h5
      cases h
  | map es cl =>
    simp only [shO] at h
    split at h
    · rename_i l hl; cases h; obtain ⟨h1, es', h2, h3⟩ := r; exact ⟨h1, es', h2, Q9p x hl h3⟩
    cases h
  | dead => exact r.elim
  | _ => simp [shO] at h
theorem Q3y : ∀ {l u : List AObj} {j : Nat} {o : AObj}, Q82 n l = some u → l[j]? = some o → ∃ o', u[j]? = some o' ∧ shO n o = some o'
  | [], _, _, _, _, e => by simp at e
  | a :: l, u, j, o, h, e => by
    simp only [Q82] at h
    split at h
    · rename_i o' l' h1 h2; cases h; cases j with
      | zero => simp at e; subst e; exact ⟨o', rfl, h1⟩
      | succ j =>
        obtain ⟨q, q1, q2⟩ := Q3y h2 (by simpa using e); exact ⟨q, by simpa using q1, q2⟩
    cases h
theorem Q75 : ∀ {l u : List AObj}, Q82 n l = some u → u.length = l.length
  | [], _, h => by simp [Q82] at h; subst h; rfl
  | a :: l, u, h => by
    simp only [Q82] at h
    split at h
    · rename_i h2; cases h; simp [Q75 h2]
    cases h
end
noncomputable def YC : Hp → List AObj → Hp
  | h, [] => h
  | h, o :: l => YC (h.alloc o) l
theorem Q8p : ∀ (l : List AObj) (h : Hp), (YC h l).n = h.n + l.length
  | [], h => rfl
  | o :: l, h => by rw [YC, Q8p, Hp.n_alloc, List.length_cons]; omega
theorem Q1t : ∀ (l : List AObj) (h : Hp) (i : Nat), i < h.n → (YC h l).get i = h.get i
  | [], _, _, _ => rfl
  | o :: l, h, i, hi => by rw [YC, Q1t l _ i (by rw [Hp.n_alloc]; omega), Hp.get_alloc, if_neg (by omega)]
theorem Q7T : ∀ (l : List AObj) (h : Hp) (j : Nat) (o : AObj), l[j]? = some o → (YC h l).get (h.n + j) = some o
  | [], _, _, _, e => by simp at e
  | a :: l, h, 0, o, e => by
    simp at e; subst e; rw [YC, Nat.add_zero, Q1t l _ _ (by rw [Hp.n_alloc]; omega), Hp.get_alloc, if_pos rfl]
  | a :: l, h, j + 1, o, e => by
    have := Q7T l (h.alloc a) j o (by simpa using e); rw [Hp.n_alloc] at this; rw [YC, show h.n + (j + 1) = h.n + 1 + j by omega]; exact this
theorem Qdj : ∀ (l : List AObj) (h : Hp) (i : Nat), h.n + l.length ≤ i → (∀ i, h.n ≤ i → h.get i = none) → (YC h l).get i = none
  | [], h, i, hi, hf => hf i (by simpa using hi)
  | o :: l, h, i, hi, hf => by
    rw [List.length_cons] at hi; refine Qdj l _ i (by rw [Hp.n_alloc]; omega) fun j hj => ?_; rw [Hp.n_alloc] at hj; rw [Hp.get_alloc, if_neg (by omega)]; exact hf j (by omega)
def Q86 : List MapEntry → List MapEntry → Bool
  | [], [] => true
  | e :: l, f :: m => sameV 400 e.key f.key && sameV 400 e.val f.val && Nat.beq e.born f.born && Q86 l m
  | _, _ => false
def QdS : AObj → AObj → Bool
  | .cells c e m, .cells c' e' m' => sameV.sameL 400 c c' && Nat.beq e e' && Nat.beq m m'
  | .map es cl, .map es' cl' => Q86 es es' && Nat.beq cl cl'
  | _, _ => false
def Q1l : AObj → Bool
  | .dead => true
  | _ => false
noncomputable def Q1i (h : Hp) : Nat → List AObj → Bool
  | _, [] => true
  | i, o :: l => (Q1l o || match h.get i with
    | some u => QdS o u
    | none => false) && Q1i h (i + 1) l
theorem Q7a : ∀ {l m : List MapEntry}, Q86 l m = true → l = m
  | [], [], _ => rfl
  | [], _ :: _, h => by simp [Q86] at h
  | _ :: _, [], h => by simp [Q86] at h
  | e :: l, f :: m, h => by
    simp only [Q86, Bool.and_eq_true] at h; obtain ⟨⟨⟨h1, h2⟩, h3⟩, h4⟩ := h; obtain ⟨k, v, b⟩ := e; obtain ⟨k', v', b'⟩ := f; simp only at h1 h2 h3; rw [Yl _ _ _ h1, Yl _ _ _ h2, (QE _ _).1 h3, Q7a h4]
theorem QbM {o u : AObj} (h : QdS o u = true) : o = u := by
  unfold QdS at h
  split at h
  · simp only [Bool.and_eq_true] at h; rw [Q79 400 (Yl 400) _ _ h.1.1, (QE _ _).1 h.1.2, (QE _ _).1 h.2]
  · simp only [Bool.and_eq_true] at h; rw [Q7a h.1, (QE _ _).1 h.2]
  cases h
theorem Q3W {h : Hp} : ∀ {l : List AObj} {i j : Nat} {o : AObj}, Q1i h i l = true → l[j]? = some o → o = .dead ∨ h.get (i + j) = some o
  | [], _, _, _, _, e => by simp at e
  | a :: l, i, 0, o, h1, e => by
    simp at e; subst e; simp only [Q1i, Bool.and_eq_true, Bool.or_eq_true] at h1; rcases h1.1 with h2 | h2
    · cases a <;> simp [Q1l] at h2
      exact .inl rfl
    split at h2
    · rename_i u hu; rw [QbM h2]; exact .inr hu
    cases h2
  | a :: l, i, j + 1, o, h1, e => by
    simp only [Q1i, Bool.and_eq_true] at h1; have := Q3W h1.2 (show l[j]? = some o by simpa using e); rw [show i + (j + 1) = i + 1 + j by omega]; exact this
noncomputable def Q14 (E : Env) (f : FuncId) (n : Nat) (h : Hp) (v0 : Value) (os : List AObj) : Bool :=
  match Jf E f [] h with
  | some s => (match Q4P E n s with
    | s' => (match QaO E f s' with
      | some v => sameV 400 v0 v && Nat.beq s'.h.n (256 + os.length) && Q1i s'.h 256 os
      | none => false))
  | none => false
noncomputable def JG (v0 : Value) (os : List AObj) (h : Hp) : Option (Value × Hp) := match shV 400 h.n v0, Q82 h.n os with
  | some v, some l => some (v, YC h l)
  | _, _ => none
theorem Q5t (E : Env) (hm : E.P.follows .mixedOrders = true) {f : FuncId} {n : Nat} {M0 : Mp} {h0 : Hp} {w : World} {v0 : Value} {os : List AObj} (H0 : HRel w (fun _ => False) M0 h0 w) (hr : Q14 E f n h0 v0 os = true) :
    Calls E.P f #[] w fun e w' => ∃ v' M1 H1, e = .returned v' ∧ HRel w (fun _ => False) M1 H1 w' ∧ VRel M1 v0 v' ∧ H1.n = 256 + os.length ∧ Q1i H1 256 os = true := by
  intro cs0; unfold Q14 at hr
  split at hr
  case h_2 => cases hr
  rename_i s0 hs; simp only at hr
  split at hr
  case h_2 => cases hr
  rename_i v1 he; simp only [Bool.and_eq_true] at hr; obtain ⟨⟨e1, e2⟩, e3⟩ := hr; have e1 := Yl _ _ _ e1; subst e1; have e2 := (QE _ _).1 e2; unfold Jf at hs
  split at hs
  case h_2 => cases hs
  rename_i fr hfr; cases hs
  haveI : FactX ((fun _ : Nat => False) w.heap.size → E.q = true) := ⟨fun h => h.elim⟩
  have R0 : Sim w (fun _ => False) E cs0 ⟨fr, [], h0⟩ (lone (Frame.enter E.P f #[] .normal) cs0 w) :=
    ⟨M0, 0, _, cs0, w, rfl, H0, Nat.zero_le _, Jr (args := (#[] : Array Value)) (by exact .nil _) (by simpa using hfr) h0 0, rfl⟩
  obtain ⟨m', St, M, lo, fr', cs', w', rfl, H, hlo, T, S⟩ := Q6e hm n R0; generalize Q4P E n ⟨fr, [], h0⟩ = s at he H T S hlo e2 e3; unfold QaO at he
  split at he
  case h_2 => cases he
  rename_i fn nt tm todo ro h; cases hfn : Nat.beq fn f with
  | false => rw [hfn, cond_false] at he; cases he
  | true =>
    rw [hfn, cond_true] at he; have e := (QE _ _).1 hfn; subst e
    split at he
    case h_2 => cases he
    rename_i fu hfu
    split at he
    case h_2 => cases he
    rename_i vs hvs; obtain ⟨fn', tmps, todo', df', md', kd', ro'⟩ := fr'; obtain ⟨h1, h2, h3, h4, h5, h6⟩ := T; simp only at h1 h2 h3 h4 h5 h6 H S e2 e3; subst h1; subst h2; cases md' <;> simp only [MdRel] at h5
    cases df' with
    | cons d l => exact h4.elim
    | nil =>
      obtain ⟨v', hr, hv⟩ := KM H hfu hvs h6; have hone : oneOf vs = v0 := Option.some.inj he; rw [hone] at hv; have hcs : cs' = cs0 := S; subst hcs; exact ⟨.returned v', w', _, ⟨v', M, h, rfl, H, hv, e2, e3⟩, St, rfl, rfl, rfl, rfl, fu, E.hfn _ fu hfu, hr⟩
theorem Q5u {W w w' : World} {B : Nat → Prop} {M M1 : Mp} {h H1 h' : Hp} {os : List AObj} {v0 v v' : Value} (hnb : ¬ B W.heap.size) (H : HRel W B M h w) (K : HRel w (fun _ => False) M1 H1 w') (hn : H1.n = 256 + os.length) (ho : Q1i H1 256 os = true)
    (hv : VRel M1 v0 v') (hF : JG v0 os h = some (v, h')) : ∃ M', Ev M M' ∧ HRel W B M' h' w' ∧ Keep M h M' h' (fun _ => False) ∧ VRel M' v v' := by
  unfold JG at hF
  split at hF
  case h_2 => cases hF
  rename_i u l hu hl; cases hF; have hlen := Q75 hl; have h255 : 256 ≤ h.n := H.kn 255 (H.glob 255 (Nat.le_refl _)).1; have hb : Below w.heap.size w w' := ⟨K.os, K.tape.1, K.output, K.size, fun b hb => K.old b hb id⟩; have H2 := H.below hnb hb
  let dd : Nat → Bool := fun j => match os[j]? with | some o => Q1l o | none => true
  let M' : Mp := ⟨fun i => if i < h.n then M.ρ i else if dd (i - h.n) then none else M1.ρ (256 + (i - h.n)), fun i => if i < h.n then M.K i else i < h.n + os.length ∧ M1.K (256 + (i - h.n)), fun i => if i < h.n then M.md i else M1.md (256 + (i - h.n))⟩
  have ev : Ev M M' := ⟨fun i hi => by simp only [M', if_pos (H.kn i hi)]; exact hi, fun i x hi hx => by simp only [M', if_pos (H.kn i hi)] at hx; exact hx, fun i hi => by simp only [M', if_pos (H.kn i hi)]⟩
  have mv : Moved M1 M' h.n := by
    refine ⟨fun i h1 h2 => ?_, fun i h1 h2 x hx => ?_, fun i h1 h2 => ?_⟩
    · have := K.kn i h2; simp only [M', if_neg (show ¬ h.n + (i - 256) < h.n by omega)]; refine ⟨by omega, ?_⟩; rw [show 256 + (h.n + (i - 256) - h.n) = i by omega]; exact h2
    · simp only [M', if_neg (show ¬ h.n + (i - 256) < h.n by omega)] at hx
      split at hx
      · cases hx
      rw [show 256 + (h.n + (i - 256) - h.n) = i by omega] at hx; exact hx
    simp only [M', if_neg (show ¬ h.n + (i - 256) < h.n by omega)]; rw [show 256 + (h.n + (i - 256) - h.n) = i by omega]
  have hnew : ∀ i b δ S, h.n ≤ i → M'.ρ i = some (b, δ, S) → ∃ j o, i = h.n + j ∧ j < os.length ∧ l[j]? = some o ∧ M1.ρ (256 + j) = some (b, δ, S) ∧ w.heap.size ≤ b ∧ ∃ x, w'.heap[b]? = some x ∧ M1.K (256 + j) ∧ ORel M' i o δ S x := fun i b δ S hi hx => by
    simp only [M', if_neg (show ¬ i < h.n by omega)] at hx
    split at hx
    · cases hx
    rename_i hd; obtain ⟨hk, o, x, g1, g2, g3⟩ := K.obj _ b δ S hx; have hlt := K.kn _ hk; have hj : i - h.n < os.length := by omega
    obtain ⟨o', q1, q2⟩ := Q3y hl (List.getElem?_eq_getElem hj)
    have hob : o = os[i - h.n] := by
      have := Q3W ho (List.getElem?_eq_getElem hj); rcases this with h1 | h1
      · exact absurd (show dd (i - h.n) = true by simp only [dd, List.getElem?_eq_getElem hj, h1, Q1l]) hd
      rw [g1] at h1; exact Option.some.inj h1
    subst hob; refine ⟨i - h.n, o', by omega, hj, q1, hx, ?_, x, g2, hk, ?_⟩
    · rcases Nat.lt_or_ge b w.heap.size with hlt2 | hge
      · rcases K.own _ b δ S hx hlt2 with hf | ⟨c, e, hc⟩
        · exact hf.elim
        rw [g1] at hc; have hc2 := Option.some.inj hc; rw [hc2] at q2; simp [shO] at q2
      exact hge
    have := QdN mv (by omega) hk q2 g3; rw [show h.n + (256 + (i - h.n) - 256) = i by omega] at this; exact this
  refine ⟨M', ev, ⟨fun i b δ S hx => ?_, fun i j b δ S δ' S' hx hy => ?_, fun i hi => ?_, fun i hi => ?_, fun i hk hx => ?_, H2.os, H2.tape, H2.output, H2.size, H2.old, fun i b δ S hx hbl => ?_, fun i hi => ?_⟩, ⟨by rw [Q8p]; omega, fun i hi hk _ => ⟨by simp only [M', if_pos hi]; exact hk, Q1t l h i hi⟩⟩, Q27 mv _ _ _ _ hu hv⟩
  · by_cases hi : i < h.n
    · simp only [M', if_pos hi] at hx; obtain ⟨hk, o, x, g1, g2, g3⟩ := H2.obj i b δ S hx; exact ⟨by simp only [M', if_pos hi]; exact hk, o, x, by rw [Q1t l h i hi]; exact g1, g2, g3.mono ev hk⟩
    obtain ⟨j, o, e1, e2, e3, e4, e5, x, e6, e7, e8⟩ := hnew i b δ S (by omega) hx; refine ⟨by simp only [M', if_neg hi]; exact ⟨by omega, by rw [show i - h.n = j by omega]; exact e7⟩, o, x, ?_, e6, e8⟩; rw [e1]; exact Q7T l h j o e3
  · by_cases hi : i < h.n
    · by_cases hj : j < h.n
      · simp only [M', if_pos hi] at hx; simp only [M', if_pos hj] at hy; rcases H2.inj i j b δ S δ' S' hx hy with h1 | ⟨c, e, h1⟩
        · exact .inl h1
        exact .inr ⟨c, e, by rw [Q1t l h i hi]; exact h1⟩
      simp only [M', if_pos hi] at hx; obtain ⟨_, _, _, _, _, _, e5, _⟩ := hnew j b δ' S' (by omega) hy; obtain ⟨_, _, x, _, g2, _⟩ := H.obj i b δ S hx; have := (Array.getElem?_eq_some_iff.1 g2).1; omega
    obtain ⟨p, o, e1, e2, e3, e4, e5, x, e6, e7, e8⟩ := hnew i b δ S (by omega) hx; by_cases hj : j < h.n
    · simp only [M', if_pos hj] at hy; obtain ⟨_, _, x, _, g2, _⟩ := H.obj j b δ' S' hy; have := (Array.getElem?_eq_some_iff.1 g2).1; omega
    obtain ⟨p2, o2, f1, f2, f3, f4, f5, _⟩ := hnew j b δ' S' (by omega) hy; rcases K.inj _ _ b δ S δ' S' e4 f4 with h1 | ⟨c, e, h1⟩
    · exact .inl (by omega)
    have hob := Q3W ho (List.getElem?_eq_getElem e2); obtain ⟨o', q1, q2⟩ := Q3y hl (List.getElem?_eq_getElem e2); rcases hob with hob | hob
    · simp only [M', if_neg hi] at hx
      split at hx
      · cases hx
      rename_i hd; exact absurd (show dd (i - h.n) = true by rw [show i - h.n = p by omega]; simp only [dd, List.getElem?_eq_getElem e2, hob, Q1l]) hd
    rw [h1] at hob; have hc2 := Option.some.inj hob; rw [← hc2] at q2; simp [shO] at q2
  · rw [Q8p]; simp only [M'] at hi
    split at hi
    · omega
    have := hi.1; omega
  · rw [Q8p] at hi; exact Qdj l h i hi H2.fresh
  · by_cases hi : i < h.n
    · simp only [M', if_pos hi] at hx hk; rw [Q1t l h i hi]; exact H2.live i hk hx
    simp only [M', if_neg hi] at hx hk; have hj : i - h.n < os.length := by omega
    obtain ⟨o', q1, q2⟩ := Q3y hl (List.getElem?_eq_getElem hj); have hat := Q7T l h (i - h.n) o' q1; rw [show h.n + (i - h.n) = i by omega] at hat; rw [hat]
    split at hx
    · rename_i hd; simp only [dd, List.getElem?_eq_getElem hj] at hd
      revert hd q2
      generalize os[i - h.n] = ob; intro q2 hd; cases ob <;> simp [Q1l] at hd
      simp [shO] at q2; exact .inr (by rw [← q2])
    rename_i hd; rcases Q3W ho (List.getElem?_eq_getElem hj) with h1 | h1
    · exact absurd (show dd (i - h.n) = true by simp only [dd, List.getElem?_eq_getElem hj, h1, Q1l]) hd
    rcases K.live _ hk.2 hx with h2 | h2
    · rw [h1] at h2; cases h2
    rw [h1] at h2; have := Option.some.inj h2; exact absurd (show dd (i - h.n) = true by simp only [dd, List.getElem?_eq_getElem hj, this, Q1l]) hd
  · by_cases hi : i < h.n
    · simp only [M', if_pos hi] at hx; rcases H2.own i b δ S hx hbl with h1 | ⟨c, e, h1⟩
      · exact .inl h1
      exact .inr ⟨c, e, by rw [Q1t l h i hi]; exact h1⟩
    obtain ⟨j, o, e1, e2, e3, e4, e5, _⟩ := hnew i b δ S (by omega) hx; have := H.size; omega
  have hg := H.glob i hi; have hlt : i < h.n := by omega
  refine ⟨by simp only [M', if_pos hlt]; exact hg.1, fun b δ S hx => ?_⟩; simp only [M', if_pos hlt] at hx; exact hg.2 b δ S hx
theorem Q9b {W w : World} {B : Nat → Prop} {M : Mp} {h : Hp} {g : Nat} {cs : List Value} (h255 : g ≤ 255) (H : HRel W B M h w) (ht : QT g cs h = true) : ∃ e fr, w.heap[g]? = some (.cells cs.toArray e fr) := by
  unfold QT at ht
  split at ht
  case h_2 => cases ht
  rename_i c e m hg; rw [Bool.and_eq_true, Bool.and_eq_true, decide_eq_true_eq] at ht; obtain ⟨⟨hm1, hlen⟩, hall⟩ := ht; have hm1 := (Qu _ _).1 hm1
  obtain ⟨hpl, hcc⟩ := Q1F hlen fun x hx => by
    have := List.all_eq_true.1 hall x hx; simp only [Bool.and_eq_true] at this; exact ⟨this.1.1, Yl 20 _ _ this.2⟩
  subst hcc; obtain ⟨hK, hpos⟩ := H.glob g h255; obtain ⟨b, δ, S, x, hρ, hx, c', fr, rfl, hS, hle, hcs, hm'⟩ := H.place hK hg (by simp); obtain ⟨rfl, rfl⟩ := hpos b δ S hρ
  have hsz : S = c.length := by
    rcases hm' with ⟨_, _, _, h4, _⟩ | ⟨_, _, _, h4⟩ | ⟨⟨s, h5, _⟩, _⟩
    · exact h4
    · exact h4
    omega
  have hc' : c' = c.toArray := by
    apply Array.toList_inj.1; apply List.ext_getElem?; intro i; show c'.toList[i]? = c[i]?; cases hi : c[i]? with
    | none =>
      rw [List.getElem?_eq_none_iff] at hi; rw [List.getElem?_eq_none (by rw [Array.length_toList]; omega)]
    | some v =>
      obtain ⟨u, hu, hvu⟩ := hcs i v hi; rw [Nat.zero_add] at hu; have := JB 20 (hpl v (List.mem_of_getElem? hi)) hvu; subst this; rw [Array.getElem?_toList, hu]
  subst hc'; exact ⟨_, _, hx⟩
noncomputable def YZ (v0 : Value) (os : List AObj) (args : List Value) (h : Hp) : Option (Value × Hp) := match args with
  | [] => JG v0 os h
  | _ => none
noncomputable def Q0w (g : Nat) (cs : List Value) (v0 : Value) (os : List AObj) (args : List Value) (h : Hp) : Option (Value × Hp) := match args with
  | [] => cond (QT g cs h) (JG v0 os h) none
  | _ => none
noncomputable def Q3g (E : Env) (f : FuncId) (n : Nat) (h : Hp) (v0 : Value) (os : List AObj) : Bool :=
  match Jf E f [] h with
  | some s => (match runQ E n s with
    | s' => (match QaO E f s' with
      | some v => sameV 400 v0 v && Nat.beq s'.h.n (256 + os.length) && Q1i s'.h 256 os
      | none => false))
  | none => false
theorem Q1P {E : Env} {f : FuncId} {n : Nat} {h : Hp} {v0 : Value} {os : List AObj} (e : Q3g E f n h v0 os = true) : ∃ m, Q14 E f m h v0 os = true := by
  unfold Q3g at e
  split at e
  · rename_i s hs; obtain ⟨m, hm⟩ := Q3E (E := E) n s; refine ⟨m, ?_⟩; unfold Q14; rw [hs]; simp only [hm]; exact e
  cases e
theorem Q2w (E : Env) (hm : E.P.follows .mixedOrders = true) {f : Nat} {v0 : Value} {os : List AObj} (run : ∃ n, Q14 E f n Hp.empty v0 os = true) : Q1E E.P f (YZ v0 os) := by
  intro W B M h w args args' v h' hnb H hv hF; unfold YZ at hF
  split at hF
  case h_2 => cases hF
  have hargs : args' = #[] := Array.toList_inj.1 (List.eq_nil_of_length_eq_zero hv.1.symm); subst hargs; obtain ⟨n, run⟩ := run; refine (Q5t E hm (HRel.start w) run).mono fun e w' ⟨v', M1, H1, he, K, r, hn, ho⟩ => ?_; obtain ⟨M', h1, h2, h3, h4⟩ := Q5u hnb H K hn ho r hF; exact ⟨v', M', he, h1, h2, h3, h4⟩
theorem Q8y (E : Env) (hm : E.P.follows .mixedOrders = true) {f g : Nat} {cs : List Value} {v0 : Value} {os : List AObj} (h255 : g ≤ 255) (hp : ∀ v, v ∈ cs → Zy 4 v = true) (run : ∀ e, ∃ n, Q14 E f n (Q1w g cs e) v0 os = true) : Q1E E.P f (Q0w g cs v0 os) := by
  intro W B M h w args args' v h' hnb H hv hF; unfold Q0w at hF
  split at hF
  case h_2 => cases hF
  obtain ⟨ht, hF⟩ := Qi hF; have hargs : args' = #[] := Array.toList_inj.1 (List.eq_nil_of_length_eq_zero hv.1.symm); subst hargs; obtain ⟨e, fr, hx⟩ := Q9b h255 H ht; obtain ⟨n, hn⟩ := run e; have H0 := HRel.tab (cs := cs.toArray) hx (fun v hv => hp v (by simpa using hv)) h255; rw [List.toList_toArray] at H0; refine (Q5t E hm H0 hn).mono fun e w' ⟨v', M1, H1, he, K, r, hn, ho⟩ => ?_; obtain ⟨M', h1, h2, h3, h4⟩ := Q5u hnb H K hn ho r hF; exact ⟨v', M', he, h1, h2, h3, h4⟩
theorem Ext.app (h : Hp) (l : List AObj) : Ext h (YC h l) := ⟨by rw [Q8p]; omega, fun i hi => Q1t l h i hi⟩
theorem KD.app : ∀ (l : List AObj) (h : Hp), KD h (YC h l)
  | [], h => .refl h
  | o :: l, h => (KD.alloc h o).trans (KD.app l _)
def pcs (n : Nat) (l : List AObj) (js : List Nat) : List Res := js.map fun j => cR (n + j) ((l[j]?).getD .dead)
theorem Q3S (n : Nat) (l : List AObj) (js : List Nat) : owns (pcs n l js) = js.map (n + ·) := by
  induction js with
  | nil => rfl
  | cons j js ih => rw [pcs, List.map_cons, Z6, List.map_cons]; simp only [pcs] at ih; rw [ih]; rfl
theorem SH.app {h0 h : Hp} {ds : List Nat} {L : List Res} (S : SH h0 ds L h) (l : List AObj) (js : List Nat) (hj : js.all (fun j => Nat.blt j l.length) = true) (nd : js.Nodup) : SH h0 ds (pcs h.n l js ++ L) (YC h l) := by
  have S2 := S.grow (Ext.app h l)
  have hlt : ∀ j, j ∈ js → j < l.length := fun j hm => by
    have := List.all_eq_true.1 hj j hm; exact (ZK _ _).1 this
  refine ⟨S2.ext, fun r hr => ?_, fun i hi => ?_, fun i hi => ?_, ?_⟩
  · rcases List.mem_append.1 hr with hr | hr
    · obtain ⟨j, hm, rfl⟩ := List.mem_map.1 hr; show (YC h l).get (h.n + j) = _; rw [List.getElem?_eq_getElem (hlt j hm)]; exact Q7T l h j _ (List.getElem?_eq_getElem (hlt j hm))
    exact S2.hold r hr
  · rw [Zf, Q3S] at hi; rcases List.mem_append.1 hi with hi | hi
    · obtain ⟨j, hm, rfl⟩ := List.mem_map.1 hi; have := hlt j hm; rw [Q8p]; omega
    exact S2.lt i hi
  · rw [Zf, Q3S] at hi; rcases List.mem_append.1 hi with hi | hi
    · obtain ⟨j, hm, rfl⟩ := List.mem_map.1 hi; have := S.ext.n; exact .inr (by omega)
    exact S2.new i hi
  rw [Zf, Q3S, List.nodup_append]; refine ⟨?_, S.nd, fun i hi k hk e => ?_⟩
  · exact List.pairwise_map.2 (nd.imp fun h e => h (by omega))
  obtain ⟨j, hm, rfl⟩ := List.mem_map.1 hi; subst e; have := S.lt _ hk; omega
section
variable {E : Env} {fn : FuncId} {nt : Nat} {l : Kn} {h h0 : Hp} {dr : Bool} {ops : Array Oper} {fin rest : List (Oper × List Oper)} {R : Kn → Hp → Prop} {lt : List Oper} {ds : List Nat} {L : List Res}
variable {d : Nat} {ty : TypeId} {pos : String} {af : Array Edge} {gg : Option (Nat × Bool)}
theorem Q6d {f : FuncId} {ats : Array TypeId} {v0 : Value} {os : List AObj} {vOf : Nat → Value} {lOf : Nat → List AObj} (js : List Nat) (S : SH h0 ds L h) (g : Gd ops l gg) (hd : Nat.blt d nt = true) (ho : Qc2 E f = true) (hn : E.orc f = none) (hF : E.sm f = some (YZ v0 os))
    (hv : ∀ n, shV 400 n v0 = some (vOf n)) (hl : ∀ n, Q82 n os = some (lOf n)) (hj : ∀ n, js.all (fun j => Nat.blt j (lOf n).length) = true) (nd : js.Nodup)
    (ha : ∀ n h', h0.n ≤ n → SH h0 ds (pcs n (lOf n) js ++ L) h' → ∀ q, q ∈ lt → Again E ops ((d, vOf n) :: l) h' q)
    (q : ∀ n h', h0.n ≤ n → SH h0 ds (pcs n (lOf n) js ++ L) h' → WL E fn nt dr ops fin rest ((d, vOf n) :: l) h' R) :
    WL E fn nt dr ops fin ((⟨some d, .call ⟨.value (.func f), #[], ats⟩, ty, pos, af, gg⟩, lt) :: rest) l h R := by
  have hout : YZ v0 os [] h = some (vOf h.n, YC h (lOf h.n)) := by simp only [YZ, JG, hv, hl]
  have S' := S.app (lOf h.n) js (hj _) nd; exact Qda [] g hd rfl ho hn hF rfl hout (KD.app _ _) (ha _ _ S.ext.n S') (q _ _ S.ext.n S')
theorem QbO {f : FuncId} {ats : Array TypeId} {gt : Nat} {cs : List Value} {v0 : Value} {os : List AObj} {vOf : Nat → Value} {lOf : Nat → List AObj} (js : List Nat) (S : SH h0 ds L h) (ht : QT gt cs h0 = true) (hlt : gt < h0.n) (hds : gt ∉ ds) (g : Gd ops l gg) (hd : Nat.blt d nt = true)
    (ho : Qc2 E f = true) (hn : E.orc f = none) (hF : E.sm f = some (Q0w gt cs v0 os))
    (hv : ∀ n, shV 400 n v0 = some (vOf n)) (hl : ∀ n, Q82 n os = some (lOf n)) (hj : ∀ n, js.all (fun j => Nat.blt j (lOf n).length) = true) (nd : js.Nodup)
    (ha : ∀ n h', h0.n ≤ n → SH h0 ds (pcs n (lOf n) js ++ L) h' → ∀ q, q ∈ lt → Again E ops ((d, vOf n) :: l) h' q)
    (q : ∀ n h', h0.n ≤ n → SH h0 ds (pcs n (lOf n) js ++ L) h' → WL E fn nt dr ops fin rest ((d, vOf n) :: l) h' R) :
    WL E fn nt dr ops fin ((⟨some d, .call ⟨.value (.func f), #[], ats⟩, ty, pos, af, gg⟩, lt) :: rest) l h R := by
  have ht' : QT gt cs h = true := by
    unfold QT at *; rw [S.ext.get gt hlt hds]; exact ht
  have hout : Q0w gt cs v0 os [] h = some (vOf h.n, YC h (lOf h.n)) := by simp only [Q0w, ht', cond_true, JG, hv, hl]
  have S' := S.app (lOf h.n) js (hj _) nd; exact Qda [] g hd rfl ho hn hF rfl hout (KD.app _ _) (ha _ _ S.ext.n S') (q _ _ S.ext.n S')
end
end Go.X
namespace Go.X
section
variable {E : Env} {fn : FuncId} {nt : Nat} {l : Kn} {h : Hp} {dr : Bool} {ops : Array Oper} {fin rest : List (Oper × List Oper)} {R : Kn → Hp → Prop} {lt : List Oper}
variable {d : Nat} {ty t ty2 : TypeId} {pos : String} {af : Array Edge} {gg : Option (Nat × Bool)} {x y : Operand}
theorem YG {s : ByteArray} {k : IntKind} {j : Int} {b : UInt8} (g : Gd ops l gg) (hd : Nat.blt d nt = true) (hx : evl l x = some (.string s)) (hy : evl l y = some (.int k j)) (ht : Qcl E t = true) (h1 : 0 ≤ j) (hb : s[j.toNat]? = some b)
    (q : WL E fn nt dr ops fin rest ((d, .int .u8 (b.toNat : Nat)) :: l) h R) : WL E fn nt dr ops fin ((⟨some d, .index t x y, ty, pos, af, gg⟩, lt) :: rest) l h R :=
  QN g rfl (fun _ ag => by simp only [QM, ag.ev hx, ag.ev hy, Q5p, Yr h1, Q5k ht, hb]) (wn hd) q
theorem o_or8 {a b : Int} (g : Gd ops l gg) (hd : Nat.blt d nt = true) (hx : evl l x = some (.int .u8 a)) (hy : evl l y = some (.int .u8 b)) (q : WL E fn nt dr ops fin rest ((d, .int .u8 (IntKind.u8.wrap ((BitVec.ofInt 8 a ||| BitVec.ofInt 8 b).toNat : Nat))) :: l) h R) :
    WL E fn nt dr ops fin ((⟨some d, .binOp .or t x y ty2, ty, pos, af, gg⟩, lt) :: rest) l h R :=
  JQ g hd hx hy rfl (by simp only [ZA, Z7, YD]; rfl) q
theorem Q33 {s u : ByteArray} (g : Gd ops l gg) (hd : Nat.blt d nt = true) (hx : evl l x = some (.string s)) (hy : evl l y = some (.string u)) (hs : s.size + u.size < 9223372036854775808) (q : WL E fn nt dr ops fin rest ((d, .string (s ++ u)) :: l) h R) :
    WL E fn nt dr ops fin ((⟨some d, .binOp .add t x y ty2, ty, pos, af, gg⟩, lt) :: rest) l h R :=
  QN g rfl (fun _ ag => by
    have : ¬ (((s.size + u.size : Nat) : Int) > IntKind.i64.max) := by
      have e : IntKind.i64.max = 9223372036854775807 := by decide
      rw [e]; omega
    simp only [QM, ag.ev hx, ag.ev hy, Q1T, Q23, this, decide_false, cond_false]) (wn hd) q
end
theorem QbJ {E : Env} {h : Hp} {t e by' n j : Nat} {s : Value} {xs : List Value} {bs : List Nat} (el : ElN E t e 0 by') (x : SlC e 0 h s xs n bs) (hj : j ≤ n) :
    ∃ v, Zn E h t s (some (.int .i64 (j : Nat))) none none = some v ∧ RowV h v (xs.drop j) := by
  have h1 : KR (.int .i64 (j : Nat)) = some j := by
    have := Yr (k := .i64) (j := (j : Int)) (by omega); simpa using this
  rcases x with ⟨rfl, rfl, rfl, rfl⟩ | ⟨b, m, c, rest, rfl, hb, hm, hlt, rfl, hl, hnc, hr⟩
  · obtain rfl : j = 0 := by omega
    exact ⟨.slice none 0 0, by simp only [Zn, el.und, el.size, Zi, h1], .nil⟩
  have hbo : Ya j n c = true := ZJ.2 ⟨by omega, by omega⟩; have hlen : xs.length = n := by omega
  rcases hm with rfl | rfl
  · by_cases e0 : c = j
    · subst e0; obtain rfl : n = c := by omega
      refine ⟨.slice (some ⟨b, 0, none⟩) (n - n) (n - n), by simp only [Zn, el.und, el.size, Zi, h1, Zq, hb, hbo, cond_true, Nat.beq_refl], .inl ⟨?_, _, _, by rw [Nat.sub_self]⟩⟩; rw [List.drop_eq_nil_of_le (by omega)]
    have e2 : Nat.beq c j = false := (QI _ _).2 e0; refine ⟨.slice (some ⟨b, j, none⟩) (n - j) (c - j), by simp only [Zn, el.und, el.size, Zi, h1, Zq, hb, hbo, cond_true, e2, cond_false, addr_add, Nat.zero_add, Nat.mul_one], .inr ⟨b, j, c - j, _, e, 0, by rw [List.length_drop, hlen], hb, hlt, fun i hi => ?_⟩⟩; rw [List.length_drop] at hi; rw [List.getElem?_append_left (by omega), List.getElem_drop, List.getElem?_eq_getElem]
  refine ⟨.slice (some ⟨b, j, none⟩) (n - j) (c - j), by simp only [Zn, el.und, el.size, Zi, h1, Zq, hb, hbo, Nat.beq_refl, Bool.and_self, cond_true, addr_add, Nat.zero_add, Nat.mul_one], .inr ⟨b, j, c - j, _, e, _, by rw [List.length_drop, hlen], hb, hlt, fun i hi => ?_⟩⟩; rw [List.length_drop] at hi; rw [List.getElem?_append_left (by omega), List.getElem_drop, List.getElem?_eq_getElem]
section
variable {E : Env} {fn : FuncId} {nt : Nat} {l : Kn} {h : Hp} {dr : Bool} {ops : Array Oper} {fin rest : List (Oper × List Oper)} {R : Kn → Hp → Prop} {lt : List Oper}
variable {d : Nat} {ty t ty2 : TypeId} {pos : String} {af : Array Edge} {gg : Option (Nat × Bool)} {x y : Operand}
def JR : Value → Bool
  | .nilFunc => true
  | _ => false
theorem o_eqfN {u : Value} (g : Gd ops l gg) (hd : Nat.blt d nt = true) (hx : evl l x = some u) (hy : evl l y = some .nilFunc) (hb : isF E t = true) (hu : u = .nilFunc ∨ ∃ f a b, u = .func f a b) (q : WL E fn nt dr ops fin rest ((d, .bool (JR u)) :: l) h R) :
    WL E fn nt dr ops fin ((⟨some d, .binOp .eql t x y ty2, ty, pos, af, gg⟩, lt) :: rest) l h R :=
  QN g rfl (fun _ ag => by
    unfold isF at hb
    split at hb
    · rename_i he; rcases hu with rfl | ⟨f, a, b, rfl⟩ <;> simp only [QM, ag.ev hx, ag.ev hy, Q1T, ZQ, he, QY, JR]
    cases hb) (wn hd) q
theorem Q9P {u : Value} (g : Gd ops l gg) (hd : Nat.blt d nt = true) (hx : evl l x = some u) (hy : evl l y = some .nilFunc) (hb : isF E t = true) (hu : u = .nilFunc ∨ ∃ f a b, u = .func f a b) (q : WL E fn nt dr ops fin rest ((d, .bool (!JR u)) :: l) h R) :
    WL E fn nt dr ops fin ((⟨some d, .binOp .neq t x y ty2, ty, pos, af, gg⟩, lt) :: rest) l h R :=
  QN g rfl (fun _ ag => by
    unfold isF at hb
    split at hb
    · rename_i he; rcases hu with rfl | ⟨f, a, b, rfl⟩ <;> simp only [QM, ag.ev hx, ag.ev hy, Q1T, ZQ, he, QY, JR]
    cases hb) (wn hd) q
end
theorem Qb5 (s : ByteArray) (i : Nat) : s[i]? = s.toList[i]? := by
  rw [ByteArray.toList_eq]; simp only [getElem?_def]; rfl
theorem Qb4 (s : ByteArray) : s.size = s.toList.length := by
  rw [ByteArray.toList_eq]; rfl
end Go.X
namespace Go.X
def RowG (h : Hp) (v : Value) (xs : List Value) : Prop :=
  (xs = [] ∧ (v = .slice none 0 0 ∨ ∃ a c, v = .slice (some a) 0 c)) ∨
  ∃ b o c cs e m, v = .slice (some ⟨b, o, none⟩) xs.length c ∧ xs.length ≤ c ∧ h.get b = some (.cells cs e m) ∧ b < h.n ∧ (m = 0 ∨ m = 1 ∨ m = 3) ∧ ∀ i (hi : i < xs.length), cs[o + i]? = some xs[i]
section
variable {E : Env} {h h' : Hp} {v : Value} {xs : List Value} {t e by' : Nat}
theorem RowG.row (x : RowG h v xs) : RowV h v xs := by
  rcases x with ⟨rfl, rfl | ⟨a, c, rfl⟩⟩ | ⟨b, o, c, cs, e, m, h1, _, h2, h3, _, h4⟩
  · exact .inl ⟨rfl, _, _, rfl⟩
  · exact .inl ⟨rfl, _, _, rfl⟩
  exact .inr ⟨b, o, c, cs, e, m, h1, h2, h3, h4⟩
theorem RowG.ext (x : RowG h v xs) (g : Ext h h') : RowG h' v xs := by
  rcases x with x | ⟨b, o, c, cs, e, m, h1, h5, h2, h3, h6, h4⟩
  · exact .inl x
  exact .inr ⟨b, o, c, cs, e, m, h1, h5, (g.get b h3).trans h2, Nat.lt_of_lt_of_le h3 g.n, h6, h4⟩
theorem SlC.g {e : TypeId} {n : Nat} {bs : List Nat} (x : SlC e 0 h v xs n bs) : RowG h v xs := by
  rcases x with ⟨rfl, rfl, rfl, rfl⟩ | ⟨b, m, c, rest, rfl, hb, hm, hlt, rfl, hl, hnc, hr⟩
  · exact .inl ⟨rfl, .inl rfl⟩
  refine .inr ⟨b, 0, c, _, e, m, by rw [hl, Nat.zero_add, Nat.mul_one], by omega, hb, hlt, by omega, fun i hi => ?_⟩; rw [Nat.zero_add, List.getElem?_append_left hi, List.getElem?_eq_getElem]
theorem QdM {a : Addr} {c : Nat} (el : ElN E t e 0 by') : Zn E h t (.slice (some a) 0 c) (some (.int .i64 ((0 : Nat) : Int))) none none = some (.slice (some a) 0 c) := by
  have h1 : KR (.int .i64 ((0 : Nat) : Int)) = some 0 := rfl; simp only [Zn, el.und, el.size, Zi, h1]; cases hm : Zq h a with
  | none => rfl
  | some m =>
    match m with
    | 0 => simp [K8, Yj]
    | 1 => simp [K8, Yj]
    | s + 2 =>
      simp only [Yj, Bool.true_and, Q2C, K8, Nat.zero_mul, Nat.sub_zero]; cases Nat.beq s _ <;> simp
theorem Q9l {j : Nat} (el : ElN E t e 0 by') (x : RowG h v xs) (hj : j ≤ xs.length) : ∃ v', RowV h v' (xs.drop j) ∧ ∀ g, Ext h g → Zn E g t v (some (.int .i64 (j : Nat))) none none = some v' := by
  have h1 : KR (.int .i64 (j : Nat)) = some j := by
    have := Yr (k := .i64) (j := (j : Int)) (by omega); simpa using this
  rcases x with ⟨rfl, rfl | ⟨a, c, rfl⟩⟩ | ⟨b, o, c, cs, e, m, rfl, hc, hb, hlt, hm, hat⟩
  · obtain rfl : j = 0 := by simpa using hj
    exact ⟨.slice none 0 0, .nil, fun g _ => by simp only [Zn, el.und, el.size, Zi, h1]⟩
  · obtain rfl : j = 0 := by simpa using hj
    exact ⟨.slice (some a) 0 c, .inl ⟨rfl, _, _, rfl⟩, fun g _ => QdM el⟩
  have hbo : Ya j xs.length c = true := ZJ.2 ⟨hj, hc⟩
  have key : ∀ v', RowV h v' (xs.drop j) → (∀ g, g.get b = some (.cells cs e m) → Zn E g t (.slice (some ⟨b, o, none⟩) xs.length c) (some (.int .i64 (j : Nat))) none none = some v') → ∃ v', RowV h v' (xs.drop j) ∧ ∀ g, Ext h g → Zn E g t (.slice (some ⟨b, o, none⟩) xs.length c) (some (.int .i64 (j : Nat))) none none = some v' :=
    fun v' hr hs => ⟨v', hr, fun g hg => hs g ((hg.get b hlt).trans hb)⟩
  have hrow : RowV h (.slice (some ⟨b, o + j, none⟩) (xs.length - j) (c - j)) (xs.drop j) := .inr ⟨b, o + j, c - j, cs, e, m, by rw [List.length_drop], hb, hlt, fun i hi => by
    rw [List.length_drop] at hi
    rw [List.getElem_drop, Nat.add_assoc]; exact hat _ _⟩
  by_cases e0 : c = j
  · subst e0; obtain he : xs.length = c := by omega
    rcases hm with rfl | rfl | rfl
    · exact key (.slice (some ⟨b, o, none⟩) (xs.length - c) (c - c)) (.inl ⟨by rw [List.drop_eq_nil_of_le (by omega)], _, _, by rw [show xs.length - c = 0 by omega]⟩) fun g hg => by simp only [Zn, el.und, el.size, Zi, h1, Zq, hg, hbo, cond_true, Nat.beq_refl]
    · exact key (.slice (some ⟨b, o, none⟩) (xs.length - c) (c - c)) (.inl ⟨by rw [List.drop_eq_nil_of_le (by omega)], _, _, by rw [show xs.length - c = 0 by omega]⟩) fun g hg => by simp only [Zn, el.und, el.size, Zi, h1, Zq, hg, hbo, cond_true, Nat.beq_refl]
    exact key _ hrow fun g hg => by simp only [Zn, el.und, el.size, Zi, h1, Zq, hg, hbo, Nat.beq_refl, Bool.and_self, cond_true, addr_add, Nat.zero_add, Nat.mul_one]
  have e2 : Nat.beq c j = false := (QI _ _).2 e0; rcases hm with rfl | rfl | rfl
  · exact key _ hrow fun g hg => by simp only [Zn, el.und, el.size, Zi, h1, Zq, hg, hbo, cond_true, e2, cond_false, addr_add, Nat.zero_add, Nat.mul_one]
  · exact key _ hrow fun g hg => by simp only [Zn, el.und, el.size, Zi, h1, Zq, hg, hbo, cond_true, e2, cond_false, addr_add, Nat.zero_add, Nat.mul_one]
  exact key _ hrow fun g hg => by simp only [Zn, el.und, el.size, Zi, h1, Zq, hg, hbo, Nat.beq_refl, Bool.and_self, cond_true, addr_add, Nat.zero_add, Nat.mul_one]
end
end Go.X
namespace Go.X
def Qfs (t k nt : Nat) (ity : IntKind) : List Oper → Option (Int × Nat)
  | [⟨some r, .binOp .eql _ (.tmp k') (.const (.int ity' c)) _, _, _, _, none⟩, ⟨some t', .assign (.tmp r'), _, _, _, none⟩] =>
    cond (Nat.beq k' k && decide (ity' = ity) && Nat.beq t' t && Nat.beq r' r && Nat.blt r nt && Nat.blt t nt && decide (r ≠ k) && decide (t ≠ k)) (some (c, r)) none
  | _ => none
def QaJ (t k nt : Nat) (ity : IntKind) : Code → Option (List (Int × Nat))
  | .region _ ops dr => cond (!dr && QX ops) ((Qfs t k nt ity ops.toList).map fun p => [p]) none
  | .seq (.region _ ops dr) (.cond (.tmp t') .skip rest) => cond (!dr && QX ops && Nat.beq t' t) (match Qfs t k nt ity ops.toList, QaJ t k nt ity rest with
    | some p, some r => some (p :: r)
    | _, _ => none) none
  | _ => none
theorem Q5G {t k nt : Nat} {ity : IntKind} {ops : List Oper} {c : Int} {r : Nat} (h : Qfs t k nt ity ops = some (c, r)) :
    ∃ t1 t2 t3 p1 a1 t4 p2 a2, ops = [⟨some r, .binOp .eql t1 (.tmp k) (.const (.int ity c)) t2, t3, p1, a1, none⟩, ⟨some t, .assign (.tmp r), t4, p2, a2, none⟩] ∧ Nat.blt r nt = true ∧ Nat.blt t nt = true ∧ r ≠ k ∧ t ≠ k := by
  unfold Qfs at h
  split at h
  · rename_i r1 t1 k' ity' c1 t2 t3 p1 a1 t' r' t4 p2 a2; cases hq : (Nat.beq k' k && decide (ity' = ity) && Nat.beq t' t && Nat.beq r' r1 && Nat.blt r1 nt && Nat.blt t nt && decide (r1 ≠ k) && decide (t ≠ k)) with
    | false => rw [hq] at h; cases h
    | true =>
      rw [hq] at h; cases h; simp only [Bool.and_eq_true, decide_eq_true_eq] at hq; obtain ⟨⟨⟨⟨⟨⟨⟨h1, rfl⟩, h3⟩, h4⟩, h5⟩, h6⟩, h7⟩, h8⟩ := hq; have h1 := Nat.eq_of_beq_eq_true h1; have h3 := Nat.eq_of_beq_eq_true h3; have h4 := Nat.eq_of_beq_eq_true h4; subst h1; subst h3; subst h4; exact ⟨_, _, _, _, _, _, _, _, rfl, h5, h6, h7, h8⟩
  cases h
section
variable {E : Env} {fn : FuncId} {nt : Nat} {h : Hp} {Q : Out → Kn → Hp → Prop} {t k : Nat} {ity : IntKind} {K : Int}
theorem Qcj {l : Kn} {t : Nat} {v : Value} : lk ((t, v) :: l) t = some v := by simp [lk]
theorem Q5a {l : Kn} {t i : Nat} {v : Value} (h : i ≠ t) : lk ((t, v) :: l) i = lk l i := by
  have : Nat.beq t i = false := by
    cases e : Nat.beq t i with
    | false => rfl
    | true => exact absurd (Nat.eq_of_beq_eq_true e).symm h
  simp [lk, this]
theorem Qd0 {l : Kn} {id : Nat} {ops : Array Oper} {c : Int} {r : Nat} (ho : QX ops = true) (h1 : Qfs t k nt ity ops.toList = some (c, r)) (hk : lk l k = some (.int ity K))
    (q : Q .next ((t, .bool (decide (K = c))) :: (r, .bool (decide (K = c))) :: l) h) : W E fn nt (.region id ops false) l h Q := by
  obtain ⟨t1, t2, t3, p1, a1, t4, p2, a2, e, hr, ht, hrk, htk⟩ := Q5G h1; refine Q7 ho ?_; rw [e]; refine Qr gn hr hk rfl ?_; refine Q3 gn ht Qcj ?_; exact Q5 q
theorem w_eqs : ∀ (rs : List (Int × Nat)) (c : Code), QaJ t k nt ity c = some rs → ∀ (l : Kn), lk l k = some (.int ity K) → ∀ Q : Out → Kn → Hp → Prop, (∀ l', (∀ i, i ≠ t → i ∉ rs.map Prod.snd → lk l' i = lk l i) → lk l' t = some (.bool (decide (K ∈ rs.map Prod.fst))) → Q .next l' h) → W E fn nt c l h Q := by
  intro rs
  induction rs with
  | nil =>
    intro c e
    exfalso
    unfold QaJ at e
    split at e
    · rename_i id ops dr; cases hq : (!dr && QX ops) <;> rw [hq] at e
      · cases e
      cases h1 : Qfs t k nt ity ops.toList <;> rw [h1] at e <;> cases e
    · rename_i id ops dr t' rest; cases hq : (!dr && QX ops && Nat.beq t' t) <;> rw [hq] at e
      · cases e
      simp only [cond_true] at e
      split at e <;> cases e
    cases e
  | cons p r ih =>
    intro c e l hk Q q; unfold QaJ at e
    split at e
    · rename_i id ops dr; cases dr with
      | true => cases e
      | false =>
      cases hc : QX ops with
      | false => rw [hc] at e; cases e
      | true =>
      rw [hc] at e; simp only [Bool.not_false, Bool.and_self, cond_true, Option.map_eq_some_iff] at e; obtain ⟨⟨c, r1⟩, h1, e⟩ := e; cases e; refine Qd0 hc h1 hk (q _ (fun i hi hm => ?_) ?_)
      · rw [Q5a hi, Q5a (by simpa using hm)]
      rw [Qcj]; simp
    · rename_i id ops dr t' rest; cases dr with
      | true => cases e
      | false =>
      cases hc : QX ops with
      | false => rw [hc] at e; cases e
      | true =>
      cases htt : Nat.beq t' t with
      | false => rw [htt, Bool.and_false] at e; cases e
      | true =>
      rw [hc, htt] at e; have htt := Nat.eq_of_beq_eq_true htt; subst htt; simp only [Bool.not_false, Bool.and_self, cond_true] at e
      split at e
      · rename_i p' r' h1 h2; cases e; obtain ⟨c, r1⟩ := p; refine Qk (Qd0 hc h1 hk ?_); show W E fn nt (.cond _ _ _) _ _ _; obtain ⟨_, _, _, _, _, _, _, _, _, hr, ht, hrk, htk⟩ := Q5G h1; refine Qa (t := decide (K = c)) Qcj (fun hb => ?_) fun hb => ?_
        · refine Qe (q _ (fun i hi hm => ?_) ?_)
          · simp at hm; rw [Q5a hi, Q5a hm.1]
          rw [Qcj]; simp only [List.map_cons, List.mem_cons]; simp only [decide_eq_true_eq] at hb; simp [hb]
        have hk' : lk ((t', .bool (decide (K = c))) :: (r1, .bool (decide (K = c))) :: l) k = some (.int ity K) := by
          rw [Q5a (fun e => htk e.symm), Q5a (fun e => hrk e.symm)]; exact hk
        refine ih rest h2 _ hk' _ fun l' hl ht2 => q l' (fun i hi hm => ?_) ?_
        · simp at hm; rw [hl i hi (by simpa using hm.2), Q5a hi, Q5a hm.1]
        rw [ht2]; simp only [List.map_cons, List.mem_cons]; simp only [decide_eq_false_iff_not] at hb; simp [hb]
      cases e
    cases e
theorem Q70 {l l' : Kn} {ban : List Nat} (h : ∀ i, i ∉ ban → lk l' i = lk l i) : ∀ {m : Kn}, Sub m l → (m.map Prod.fst).all (fun i => !ban.elem i) = true → Sub m l'
  | [], _, _ => trivial
  | (i, v) :: m, hs, hk => by
    simp only [List.map_cons, List.all_cons, Bool.and_eq_true] at hk; refine ⟨?_, Q70 h hs.2 hk.2⟩; rw [h i (by simpa using hk.1)]; exact hs.1
theorem Zv {Q : Out → Kn → Hp → Prop} {id : Nat} {l : Kn} {h : Hp} (q : Q .next l h) : Blk id Q .next l h := q
theorem KE {S A B : Code} {l : Kn} (k : Nat) (rs : List (Int × Nat)) (lc : Kn) (hS : QaJ t k nt ity S = some rs) (hk : lk l k = some (.int ity K)) (hs : Sub lc l) (hb : (lc.map Prod.fst).all (fun i => !(t :: rs.map Prod.snd).elem i) = true)
    (qa : decide (K ∈ rs.map Prod.fst) = true → W E fn nt A lc h Q) (qb : decide (K ∈ rs.map Prod.fst) = false → W E fn nt B lc h Q) : W E fn nt (.seq S (.cond (.tmp t) A B)) l h Q := by
  refine Qk (w_eqs rs S hS l hk _ fun l' hl ht => ?_); show W E fn nt (.cond _ _ _) l' h Q; have hs' : Sub lc l' := Q70 (fun i hi => hl i (fun e => hi (by simp [e])) (fun e => hi (List.mem_cons_of_mem _ e))) hs hb; exact Qa ht (fun e => Q1Y lc hs' (qa e)) fun e => Q1Y lc hs' (qb e)
end
end Go.X
namespace Go.X
section
variable {h0 h g g1 g2 : Hp} {ds : List Nat} {L L0 : List Res} {r r' : Res} {b i j : Nat} {o : AObj}
theorem SH.two (S0 : SH h0 [] L0 g) (hd : ∀ k, k ∈ ds → h0.n ≤ k) (S : SH g ds L h) (hg : h0.get b = some o) (hb : b < h0.n) : h.get b = some o :=
  S.old (S0.old0 hg hb) (Nat.lt_of_lt_of_le hb S0.ext.n) fun hm => by have := hd b hm; omega
theorem SH.all0 (S0 : SH h0 [] L0 g) (hd : ∀ k, k ∈ ds → h0.n ≤ k) (S : SH g ds L h) : Ext h0 h := ⟨Nat.le_trans S0.ext.n S.ext.n, fun k hk => by
  rw [S.ext.get k (Nat.lt_of_lt_of_le hk S0.ext.n) fun hm => by have := hd k hm; omega]
  exact S0.ext.get k hk (by simp)⟩
theorem SH.own0 (S0 : SH h0 [] [r] g) : ∀ k, k ∈ r.own → h0.n ≤ k := fun k hk => by
  rcases S0.new k (by rw [Z6]; exact List.mem_append_left _ hk) with h | h
  · cases h
  exact h
theorem SH.enter (S0 : SH h0 [] [r] g) : SH g r.own [r] g := by
  have e : owns [r] = r.own := by simp [owns]
  refine SH.one (S0.res 0 rfl) (fun i hi => S0.lt i (by rw [e]; exact hi)) ?_; have := S0.nd; rwa [e] at this
theorem SH.sub1 (S0 : SH h0 [] L0 g) (hd : ∀ k, k ∈ ds → h0.n ≤ k) (S : SH g ds L g1) (i : Nat) (e : L[i]? = some r) : SH h0 [] [r] g1 := by
  have e1 : owns [r] = r.own := by simp [owns]
  refine ⟨(S0.all0 hd S).b [], fun q hq => ?_, fun k hk => ?_, fun k hk => ?_, ?_⟩
  · rw [List.mem_singleton] at hq; subst hq; exact S.res i e
  · rw [e1] at hk; exact S.lt k (Z9 (List.mem_of_getElem? e) hk)
  · rw [e1] at hk; rcases S.new k (Z9 (List.mem_of_getElem? e) hk) with h | h
    · exact .inr (hd k h)
    exact .inr (Nat.le_trans S0.ext.n h)
  rw [e1]; obtain ⟨A, B, rfl, _⟩ := Q3Q e r; have := S.nd; rw [Zf, Z6, List.nodup_append] at this; exact (List.nodup_append.1 this.2.1).1
theorem SH.pick (S : SH h0 ds L h) (i : Nat) (e : L[i]? = some r) : SH h0 ds [r] h := by
  have e1 : owns [r] = r.own := by simp [owns]
  have hm := List.mem_of_getElem? e; refine ⟨S.ext, fun q hq => ?_, fun k hk => S.lt k (Z9 hm (by rw [← e1]; exact hk)), fun k hk => S.new k (Z9 hm (by rw [← e1]; exact hk)), ?_⟩
  · rw [List.mem_singleton] at hq; subst hq; exact S.res i e
  rw [e1]; obtain ⟨A, B, rfl, _⟩ := Q3Q e r; have := S.nd; rw [Zf, Z6, List.nodup_append] at this; exact (List.nodup_append.1 this.2.1).1
theorem SH.ret (S : SH g ds L g1) (i : Nat) (e : L[i]? = some r) (S2 : SH g1 r.own [r'] g2) : SH g ds (L.set i r') g2 := by
  have e1 : owns [r'] = r'.own := by simp [owns]
  refine S.upd i e S2.ext (S2.res 0 rfl) (fun j hj => S2.lt j (by rw [e1]; exact hj)) (fun j hj => S2.new j (by rw [e1]; exact hj)) ?_; have := S2.nd; rwa [e1] at this
theorem SH.apart (S : SH h0 ds L h) (i j : Nat) (e1 : L[i]? = some (cR b o)) (e2 : L[j]? = some r) (hij : i ≠ j) : b ∉ r.own := Q32 S.nd hij e1 e2 b (by simp [cR])
end
end Go.X
namespace Go.X
open Go.Shelf Go.RowKit Go.Sort
theorem Q4D {W : World} {B : Nat → Prop} {M : Mp} {h : Hp} {w : World} (H : HRel W B M h w) {g : Nat} {cs : List Value} (h255 : g ≤ 255) (ht : QT g cs h = true) : ∃ e fr, w.heap[g]? = some (.cells cs.toArray e fr) := by
  unfold QT at ht
  split at ht
  case h_2 => cases ht
  rename_i c e m hg; rw [Bool.and_eq_true, Bool.and_eq_true, decide_eq_true_eq] at ht; obtain ⟨⟨hm1, hlen⟩, hall⟩ := ht; have hm1 := (Qu _ _).1 hm1
  obtain ⟨hpl, hcc⟩ := Q1F hlen fun x hx => by
    have := List.all_eq_true.1 hall x hx; simp only [Bool.and_eq_true] at this; exact ⟨this.1.1, Yl 20 _ _ this.2⟩
  subst hcc; obtain ⟨hK, hpos⟩ := H.glob g h255; obtain ⟨b, δ, S, x, hρ, hx, c', fr, rfl, hS, hle, hcs, hm'⟩ := H.place hK hg (by simp); obtain ⟨rfl, rfl⟩ := hpos b δ S hρ
  have hsz : S = c.length := by
    rcases hm' with ⟨_, _, _, h4, _⟩ | ⟨_, _, _, h4⟩ | ⟨⟨s, h5, _⟩, _⟩
    · exact h4
    · exact h4
    omega
  have hc' : c' = c.toArray := by
    apply Array.toList_inj.1; apply List.ext_getElem?; intro i; show c'.toList[i]? = c[i]?; cases hi : c[i]? with
    | none =>
      rw [List.getElem?_eq_none_iff] at hi; rw [List.getElem?_eq_none (by rw [Array.length_toList]; omega)]
    | some v =>
      obtain ⟨u, hu, hvu⟩ := hcs i v hi; rw [Nat.zero_add] at hu; have := JB 20 (hpl v (List.mem_of_getElem? hi)) hvu; subst this; rw [Array.getElem?_toList, hu]
  subst hc'; exact ⟨_, _, hx⟩
noncomputable def Qfq (g : Nat) (args : List Value) (h : Hp) : Option (Value × Hp) := match args with
  | [.int .i64 n, .int .i64 b] => cond (QT g (Lib.pow10Tab.map (Value.int .u64)) h && decide (b = 10) && decide (-9223372036854775808 ≤ n) && decide (n ≤ 9223372036854775807)) (some (.string ⟨(Lib.itoa n).toArray⟩, h)) none
  | _ => none
theorem below_drewN {B : Nat} {a w : World} (h : Below B a w) (k : Nat) : Below B a (w.drewN k) := ⟨h.os, h.tape, h.output, h.size, h.block⟩
theorem below_grow {B : Nat} {a w : World} (h : Below B a w) (hB : B ≤ w.heap.size) (os : Array Obj) : Below B a (grow w os) :=
  ⟨h.os, h.tape, h.output, Nat.le_trans h.size (by show w.heap.size ≤ (w.heap ++ os).size; rw [Array.size_append]; omega), fun k hk => by
    rw [← h.block k hk]; show (w.heap ++ os)[k]? = _
    rw [Array.getElem?_append_left (by omega)]⟩
variable {P : Program} {ρ : Ren}
theorem Qf6 (L : Go.Proofs.LaysM.n173 P ρ) {g : Nat} (hn : P.globalNamed "internal/strconv.uint64pow10" = some g) (h255 : g ≤ 255) : Q1E P (ρ.f 173) (Qfq g) := by
  intro W B M h w args args' v h' hnb H hv hF; unfold Qfq at hF
  split at hF
  case h_2 => cases hF
  rename_i n b; obtain ⟨hc, hF⟩ := Qi hF; cases hF; simp only [Bool.and_eq_true, decide_eq_true_eq] at hc; obtain ⟨⟨⟨ht, rfl⟩, h0⟩, h1⟩ := hc
  have hargs : args' = #[.int .i64 n, .int .i64 10] := by
    apply Array.toList_inj.1; generalize args'.toList = l at hv; obtain ⟨hl, hv⟩ := hv
    match l, hl with
    | [a, c], _ =>
      have e1 := hv 0 _ _ rfl rfl; have e2 := hv 1 _ _ rfl rfl; cases e1; cases e2; rfl
  subst hargs; obtain ⟨e, fr, hg⟩ := Q4D H h255 ht
  have hT : Lib.TabIs P w "internal/strconv.uint64pow10" .u64 Lib.pow10Tab := by
    unfold Lib.TabIs World.var?; rw [hn]; simp only [Option.bind_some, hg]
  refine (Go.Proofs.Any.strconv_FormatInt_10 L n h0 h1 w hT).mono fun e' w' ⟨he, k, os, hw⟩ => ?_; subst hw; exact ⟨_, M, he, .refl M, H.below hnb (below_grow (below_drewN (Below.refl _ w) k) (Nat.le_refl _) os), .refl _ _ _, .string _⟩
end Go.X
namespace Go.X
open Go.Shelf Go.RowKit Go.Sort
noncomputable def Qcn (g : Nat) (h : Hp) : Bool := match h.get g with
  | some (.cells (.int .i64 _ :: _) _ _) => true
  | _ => false
section
variable {W : World} {B : Nat → Prop} {M : Mp} {h : Hp} {w : World} {g : Nat}
theorem Qeb {v : Value} {args' : Array Value} (hv : VsRel M [v] args'.toList) : ∃ u, args' = #[u] ∧ VRel M v u := by
  generalize hl : args'.toList = l at hv; obtain ⟨h1, h2⟩ := hv
  match l, h1 with
  | [a], _ => exact ⟨a, Array.toList_inj.1 hl, h2 0 _ _ rfl rfl⟩
end
variable {P : Program} {ρ : Ren}
noncomputable def cutX (g : Nat) (args : List Value) (h : Hp) : Option (Value × Hp) := match args with
  | [.string s, .string sep] => cond (Qcn g h && decide (s.size < 4294967281)) (some (.tuple #[.string ⟨(Lib.cut s.data.toList sep.data.toList).1.toArray⟩, .string ⟨(Lib.cut s.data.toList sep.data.toList).2.1.toArray⟩, .bool (Lib.cut s.data.toList sep.data.toList).2.2], h)) none
  | _ => none
noncomputable def Q8w (g : Nat) (args : List Value) (h : Hp) : Option (Value × Hp) := match args with
  | [.int .i64 n] => cond (QT g (Lib.pow10Tab.map (Value.int .u64)) h && decide (-9223372036854775808 ≤ n) && decide (n ≤ 9223372036854775807)) (some (.string ⟨(Lib.itoa n).toArray⟩, h)) none
  | _ => none
theorem Qck (L : Go.Proofs.LaysM.n171 P ρ) {g : Nat} (hn : P.globalNamed "internal/strconv.uint64pow10" = some g) (h255 : g ≤ 255) : Q1E P (ρ.f 171) (Q8w g) := by
  intro W B M h w args args' v h' hnb H hv hF; unfold Q8w at hF
  split at hF
  case h_2 => cases hF
  rename_i n; obtain ⟨hc, hF⟩ := Qi hF; cases hF; simp only [Bool.and_eq_true, decide_eq_true_eq] at hc; obtain ⟨⟨ht, h0⟩, h1⟩ := hc; obtain ⟨u, rfl, e1⟩ := Qeb hv; cases e1; obtain ⟨e, fr, hg⟩ := Q4D H h255 ht
  have hT : Lib.TabIs P w "internal/strconv.uint64pow10" .u64 Lib.pow10Tab := by
    unfold Lib.TabIs World.var?; rw [hn]; simp only [Option.bind_some, hg]
  refine (Go.Proofs.Any.strconv_Itoa L n h0 h1 w hT).mono fun e' w' ⟨he, k, os, hw⟩ => ?_; subst hw; exact ⟨_, M, he, .refl M, H.below hnb (below_grow (below_drewN (Below.refl _ w) k) (Nat.le_refl _) os), .refl _ _ _, .string _⟩
end Go.X
namespace Go.X
theorem Q78 {s : ByteArray} : sameV 20 (.string s) (.string s) = true := by simp [sameV]
section
variable {E : Env} {l : Kn} {h : Hp} {ops : Array Oper} {d : Nat} {ty t ty2 : TypeId} {pos : String} {af : Array Edge} {gg : Option (Nat × Bool)} {x y : Operand}
theorem Qfj {s u : ByteArray} (g : Gd ops l gg) (hx : evl l x = some (.string s)) (hy : evl l y = some (.string u)) (hs : s.size + u.size < 9223372036854775808) (hl : lk l d = some (.string (s ++ u))) : Again E ops l h ⟨some d, .binOp .add t x y ty2, ty, pos, af, gg⟩ :=
  .inr ⟨g, _, d, rfl, hl, Q78, fun _ ag => by
    have : ¬ (((s.size + u.size : Nat) : Int) > IntKind.i64.max) := by
      have e : IntKind.i64.max = 9223372036854775807 := by decide
      rw [e]; omega
    simp only [QM, ag.ev hx, ag.ev hy, Q1T, Q23, this, decide_false, cond_false]⟩
end
section
variable {E : Env} {fn : FuncId} {nt : Nat} {l : Kn} {h : Hp} {dr : Bool} {ops : Array Oper} {fin rest : List (Oper × List Oper)} {R : Kn → Hp → Prop} {lt : List Oper} {d : Nat} {ty s t : TypeId} {pos : String} {af : Array Edge} {gg : Option (Nat × Bool)} {x : Operand}
end
section
variable {E : Env} {fn : FuncId} {nt : Nat} {l : Kn} {h : Hp} {dr : Bool} {ops : Array Oper} {fin rest : List (Oper × List Oper)} {R : Kn → Hp → Prop} {lt : List Oper} {d : Nat} {ty t ty2 : TypeId} {pos : String} {af : Array Edge} {gg : Option (Nat × Bool)} {x y : Operand} {k : IntKind} {a b : Int}
end
section
variable {E : Env} {fn : FuncId} {nt : Nat} {l : Kn} {h : Hp} {dr : Bool} {ops : Array Oper} {fin rest : List (Oper × List Oper)} {R : Kn → Hp → Prop} {lt : List Oper} {d : Nat} {ty t ty2 : TypeId} {pos : String} {af : Array Edge} {gg : Option (Nat × Bool)} {x y z : Operand} {k k' : IntKind}
end
end Go.X
