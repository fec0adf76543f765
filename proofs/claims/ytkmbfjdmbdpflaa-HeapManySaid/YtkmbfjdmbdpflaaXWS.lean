/- The calculus: pure calls, blocks left, slices of a call's own; growing. Conditions: none. -/
import Derived.Test.YtkmbfjdmbdpflaaXWO
namespace Go.X

section
variable {E : Env} {fn : FuncId} {nt : Nat} {l l' : Kn} {h h' : Hp} {Q : Out → Kn → Hp → Prop}

theorem blk_eq {id : Nat} (q : Q .next l h) : Blk id Q (.exit id) l h := by
  show if id = id then Q .next l h else Q (.exit id) l h
  rw [if_pos rfl]; exact q
theorem blk_ne {id i : Nat} (hi : i ≠ id) (q : Q (.exit i) l h) : Blk id Q (.exit i) l h := by
  show if i = id then Q .next l h else Q (.exit i) l h
  rw [if_neg hi]; exact q

theorem thn_exit {b : Code} {i : Nat} (q : Q (.exit i) l h) : Thn E fn nt b Q (.exit i) l h := q
theorem rnd_exit {I : Nat → Kn → Hp → Prop} {n i : Nat} (q : Q (.exit i) l h) : Rnd I n Q (.exit i) l h := q

theorem w_weak {c : Code} (l' : Kn) (s : Sub l' l) (q : W E fn nt c l' h Q) : W E fn nt c l h Q := T.weak s q

/-- A call that leaves the memory as it is. -/
def CP (E : Env) (f : FuncId) (args : List Value) (h : Hp) (v : Value) : Prop := C E f args h fun v' h' => v' = v ∧ h' = h

theorem c_pure {f : FuncId} {args : List Value} {v : Value} {P : Value → Hp → Prop} (c : CP E f args h v) (p : P v h) : C E f args h P := C.mono c fun _ _ ⟨e1, e2⟩ => by subst e1; subst e2; exact p

end

/-- Memory that has grown: what lay there lies there. -/
structure Ext (h h' : Hp) : Prop where
  n : h.n ≤ h'.n
  get : ∀ i, i < h.n → h'.get i = h.get i

/-- The same but for some blocks. -/
structure ExtB (bs : List Nat) (h h' : Hp) : Prop where
  n : h.n ≤ h'.n
  get : ∀ i, i < h.n → i ∉ bs → h'.get i = h.get i

theorem Ext.refl (h : Hp) : Ext h h := ⟨Nat.le_refl _, fun _ _ => rfl⟩
theorem Ext.trans {a b c : Hp} (x : Ext a b) (y : Ext b c) : Ext a c := ⟨Nat.le_trans x.n y.n, fun i hi => (y.get i (Nat.lt_of_lt_of_le hi x.n)).trans (x.get i hi)⟩
theorem Ext.alloc (h : Hp) (o : AObj) : Ext h (h.alloc o) := ⟨by rw [Hp.n_alloc]; omega, fun i hi => by rw [Hp.get_alloc, if_neg (by omega)]⟩
theorem Ext.b {h h' : Hp} (x : Ext h h') (bs : List Nat) : ExtB bs h h' := ⟨x.n, fun i hi _ => x.get i hi⟩
theorem ExtB.refl (bs : List Nat) (h : Hp) : ExtB bs h h := ⟨Nat.le_refl _, fun _ _ _ => rfl⟩
theorem ExtB.trans {bs : List Nat} {a b c : Hp} (x : ExtB bs a b) (y : ExtB bs b c) : ExtB bs a c :=
  ⟨Nat.le_trans x.n y.n, fun i hi hb => (y.get i (Nat.lt_of_lt_of_le hi x.n) hb).trans (x.get i hi hb)⟩
theorem ExtB.mono {as bs : List Nat} {h h' : Hp} (x : ExtB as h h') (s : ∀ i, i ∈ as → i < h.n → i ∈ bs) : ExtB bs h h' := ⟨x.n, fun i hi hb => x.get i hi fun ha => hb (s i ha hi)⟩
theorem ExtB.put (h : Hp) (b : Nat) (o : AObj) : ExtB [b] h (h.put b o) := ⟨by rw [Hp.n_put]; omega, fun i hi hb => by rw [Hp.get_put, if_neg (fun e => hb (by simp [e]))]⟩
theorem ExtB.nil {h h' : Hp} (x : ExtB [] h h') : Ext h h' := ⟨x.n, fun i hi => x.get i hi (by simp)⟩

theorem Hp.get_alloc_self (h : Hp) (o : AObj) : (h.alloc o).get h.n = some o := by rw [Hp.get_alloc, if_pos rfl]
theorem Hp.get_put_self (h : Hp) (b : Nat) (o : AObj) : (h.put b o).get b = some o := by rw [Hp.get_put, if_pos rfl]

/-- A slice, elements of one cell, that fills its block: its items, its block (none: nil). -/
def Sl (e : TypeId) (h : Hp) (s : Value) (vs : List Value) (bs : List Nat) : Prop :=
  (s = .slice none 0 0 ∧ vs = [] ∧ bs = []) ∨ ∃ b m, s = .slice (some ⟨b, 0, none⟩) vs.length vs.length ∧ h.get b = some (.cells vs e m) ∧ (m = 0 ∨ m = 3) ∧ b < h.n ∧ bs = [b]

theorem Sl.keep {e : TypeId} {h h' : Hp} {s : Value} {vs : List Value} {bs cs : List Nat} (x : Sl e h s vs bs) (g : ExtB cs h h') (hd : ∀ i, i ∈ bs → i ∉ cs) : Sl e h' s vs bs := by
  rcases x with x | ⟨b, m, h1, h2, h3, h4, rfl⟩
  · exact .inl x
  · exact .inr ⟨b, m, h1, by rw [g.get b h4 (hd b (by simp))]; exact h2, h3, Nat.lt_of_lt_of_le h4 g.n, rfl⟩

theorem Sl.ext {e : TypeId} {h h' : Hp} {s : Value} {vs : List Value} {bs : List Nat} (x : Sl e h s vs bs) (g : Ext h h') : Sl e h' s vs bs := x.keep (g.b []) (by simp)

theorem Sl.lt {e : TypeId} {h : Hp} {s : Value} {vs : List Value} {bs : List Nat} (x : Sl e h s vs bs) : ∀ i, i ∈ bs → i < h.n := by
  rcases x with ⟨_, _, rfl⟩ | ⟨b, m, h1, h2, h3, h4, rfl⟩ <;> simp
  exact h4

/-- A slice that is of some length has a block. -/
theorem Sl.at {e : TypeId} {h : Hp} {s : Value} {vs : List Value} {bs : List Nat} (x : Sl e h s vs bs) (hn : 0 < vs.length) :
    ∃ b m, s = .slice (some ⟨b, 0, none⟩) vs.length vs.length ∧ h.get b = some (.cells vs e m) ∧ (m = 0 ∨ m = 3) ∧ b < h.n ∧ bs = [b] := by
  rcases x with ⟨_, rfl, _⟩ | x
  · simp at hn
  · exact x

/-- Its value. -/
theorem Sl.val {e : TypeId} {h : Hp} {s : Value} {vs : List Value} {bs : List Nat} (x : Sl e h s vs bs) : ∃ a, s = .slice a vs.length vs.length := by
  rcases x with ⟨rfl, rfl, _⟩ | ⟨b, m, rfl, _⟩
  · exact ⟨none, rfl⟩
  · exact ⟨_, rfl⟩

theorem Sl.new {h : Hp} {e : TypeId} {vs : List Value} {m : Nat} (hm : m = 0 ∨ m = 3) : Sl e (h.alloc (.cells vs e m)) (.slice (some ⟨h.n, 0, none⟩) vs.length vs.length) vs [h.n] :=
  .inr ⟨_, m, rfl, Hp.get_alloc_self _ _, hm, by rw [Hp.n_alloc]; omega, rfl⟩

theorem Sl.put {e : TypeId} {h : Hp} {b m n : Nat} {vs : List Value} (hn : n = vs.length) (hm : m = 0 ∨ m = 3) (hb : b < h.n) : Sl e (h.put b (.cells vs e m)) (.slice (some ⟨b, 0, none⟩) n n) vs [b] :=
  .inr ⟨b, m, by rw [hn], Hp.get_put_self _ _ _, hm, by rw [Hp.n_put]; exact hb, rfl⟩

/-! append -/

section
variable {E : Env} {h : Hp} {t e : TypeId} {by' : Nat}

/-- Elements of one cell, of so many bytes. -/
structure El (E : Env) (t e by' : Nat) : Prop where
  und : E.und t = some (.slice e)
  size : E.size e = some 1
  bytes : E.bytes e = some (by' + 1)
  zero : ∃ zv, E.zero e = some zv ∧ zv.cells.size = 1

theorem El.growX {E : Env} {t e by' : Nat} (x : El E t e by') (h : Hp) (n : Nat) (old xs : List Value) (hn : n * (by' + 1) ≤ 1099511627776) :
    growX E h e 1 (by' + 1) n old xs = some (.slice (some ⟨h.n, 0, none⟩) n n, h.alloc (.cells (old ++ xs) e 3)) := by
  obtain ⟨zv, hz, hs⟩ := x.zero
  have : Nat.ble (n * (by' + 1)) (2 ^ 40) = true := (ble_iff _ _).2 (by omega)
  simp only [Go.X.growX, hz, hs, this, Nat.beq_refl, Bool.and_true, cond_true]

/-- What is appended: some other slice's items, wherever they lie. -/
structure Src (h : Hp) (s : Value) (xs : List Value) : Prop where
  len : lenOfX s = some xs.length
  first : firstX h 1 xs.length s = some xs
  cell : xs.all cellV = true
  lt : ∀ a n c, s = .slice (some a) n c → a.block < h.n

theorem Src.keep {h h' : Hp} {s : Value} {xs : List Value} {cs : List Nat} (x : Src h s xs) (g : ExtB cs h h') (hd : ∀ a n c, s = .slice (some a) n c → a.block ∉ cs) : Src h' s xs := by
  refine ⟨x.len, ?_, x.cell, fun a n c e => Nat.lt_of_lt_of_le (x.lt a n c e) g.n⟩
  have h1 := x.first
  cases s with
  | slice a n c =>
    cases a with
    | none => exact h1
    | some a =>
      have hg := g.get _ (x.lt a n c rfl) (hd a n c rfl)
      simp only [firstX, rowOf, hg] at h1 ⊢
      exact h1
  | string b => exact h1
  | _ => simp [firstX] at h1

theorem Src.ext {h h' : Hp} {s : Value} {xs : List Value} (x : Src h s xs) (g : Ext h h') : Src h' s xs := x.keep (g.b []) (by simp)

/-- What nil is made of. -/
theorem Src.nil {h : Hp} {xs : List Value} {n c : Nat} (x : Src h (.slice none n c) xs) : xs = [] := by
  have h1 := x.first
  have h2 := x.len
  simp only [lenOfX, Option.some.injEq] at h2
  simp only [firstX] at h1
  cases hb : (Nat.ble xs.length n && Nat.beq n 0) with
  | false => rw [hb, cond_false] at h1; cases h1
  | true => rw [hb, cond_true, Option.some.injEq] at h1; exact h1.symm

theorem Src.len' {h : Hp} {xs : List Value} {a : Option Addr} {n c : Nat} (x : Src h (.slice a n c) xs) : n = xs.length := by
  have h2 := x.len
  simpa [lenOfX] using h2

/-- Where its items lie. -/
theorem Src.at {h : Hp} {xs : List Value} {a : Option Addr} {n c : Nat} (x : Src h (.slice a n c) xs) (hn : 0 < xs.length) :
    ∃ b o cs e m, a = some ⟨b, o, none⟩ ∧ h.get b = some (.cells cs e m) ∧ b < h.n ∧ o + xs.length ≤ cs.length ∧ ∀ i, i < xs.length → cs[o + i]? = xs[i]? := by
  have h1 := x.first
  cases a with
  | none => rw [x.nil] at hn; simp at hn
  | some a =>
    obtain ⟨b, o, sp⟩ := a
    have hlt := x.lt _ _ _ rfl
    have hl := x.len'
    subst hl
    have e1 : Nat.ble xs.length xs.length = true := (ble_iff _ _).2 (Nat.le_refl _)
    have e0 : Nat.beq xs.length 0 = false := (beq_false _ _).2 (by omega)
    simp only [firstX, e1, cond_true, e0, cond_false, rowOf, Nat.mul_one] at h1
    cases sp with
    | some s => cases h1
    | none =>
      simp only at h1
      split at h1
      · rename_i cs e m hg
        cases hb : Nat.ble (o + xs.length) cs.length with
        | false => rw [hb, cond_false] at h1; cases h1
        | true =>
          rw [hb, cond_true, Option.some.injEq] at h1
          have hb' := (ble_iff _ _).1 hb
          refine ⟨b, o, cs, e, m, rfl, hg, hlt, hb', fun i hi => ?_⟩
          rw [← List.getElem?_drop, ← List.getElem?_take_of_lt hi, h1]
      · cases h1

theorem Sl.src {h : Hp} {s : Value} {vs : List Value} {bs : List Nat} (x : Sl e h s vs bs) (hc : vs.all cellV = true) : Src h s vs := by
  rcases x with ⟨rfl, rfl, _⟩ | ⟨b, m, rfl, h2, h3, h4⟩
  · exact ⟨rfl, rfl, rfl, fun a n c e => by cases e⟩
  · refine ⟨rfl, ?_, hc, fun a n c e => by cases e; exact h4.1⟩
    have e1 : Nat.ble vs.length vs.length = true := (ble_iff _ _).2 (Nat.le_refl _)
    have e2 : Nat.ble (0 + vs.length) vs.length = true := (ble_iff _ _).2 (by omega)
    have e3 : cond (Nat.beq vs.length 0) (some []) (some vs) = some vs := by
      cases vs with
      | nil => rfl
      | cons v r => rfl
    simp only [firstX, e1, cond_true, rowOf, h2, Nat.mul_one, e2, List.drop_zero, List.take_length, e3]

/-- append to a slice of one's own: its items behind the others; the elder block is gone. -/
theorem append_own {s w : Value} {vs xs : List Value} {bs : List Nat} (x : El E t e by') (hs : Sl e h s vs bs) (hx : Src h w xs) (hn : (vs.length + xs.length) * (by' + 1) ≤ 1099511627776) :
    ∃ v' h' bs', appendX E h t t s w = some (v', h') ∧ Sl e h' v' (vs ++ xs) bs' ∧ ExtB bs h h' ∧ (∀ i, i ∈ bs' → i ∈ bs ∨ (i = h.n)) := by
  have hgo := x.growX
  rcases hs with ⟨rfl, rfl, rfl⟩ | ⟨b, m, rfl, hb, hm, hlt, rfl⟩
  · by_cases h0 : xs.length = 0
    · have : xs = [] := List.eq_nil_of_length_eq_zero h0
      subst this
      refine ⟨.slice none 0 0, h, [], ?_, .inl ⟨rfl, rfl, rfl⟩, .refl _ _, by simp⟩
      have h1 := hx.first
      simp only [appendX, x.und, hx.len, x.size, x.bytes, List.length_nil, Nat.beq_refl, cond_true] at h1 ⊢
      simp only [h1]
    · refine ⟨.slice (some ⟨h.n, 0, none⟩) xs.length xs.length, h.alloc (.cells ([] ++ xs) e 3), [h.n], ?_, ?_, (Ext.alloc h _).b _, by simp⟩
      · have hb0 : Nat.beq xs.length 0 = false := (beq_false _ _).2 h0
        simp only [appendX, x.und, hx.len, x.size, x.bytes, hx.first, hb0, cond_false]
        exact hgo h xs.length [] xs (by simp at hn; omega)
      · exact Sl.new (.inr rfl)
  · by_cases h0 : xs.length = 0
    · have : xs = [] := List.eq_nil_of_length_eq_zero h0
      subst this
      refine ⟨.slice (some ⟨b, 0, none⟩) vs.length vs.length, h, [b], ?_, by rw [List.append_nil]; exact .inr ⟨b, m, rfl, hb, hm, hlt, rfl⟩, .refl _ _, by simp⟩
      have h1 := hx.first
      have e1 : Nat.ble vs.length vs.length = true := (ble_iff _ _).2 (Nat.le_refl _)
      simp only [appendX, x.und, hx.len, x.size, x.bytes, List.length_nil, Nat.beq_refl, cond_true] at h1 ⊢
      simp only [h1, modeOf, hb, e1, cond_true]
    · have hb0 : Nat.beq xs.length 0 = false := (beq_false _ _).2 h0
      have e1 : Nat.ble (vs.length + xs.length) vs.length = false := by
        cases hc : Nat.ble (vs.length + xs.length) vs.length with
        | false => rfl
        | true => have := (ble_iff _ _).1 hc; omega
      have e2 : Nat.ble (0 + vs.length) vs.length = true := (ble_iff _ _).2 (by omega)
      have hrow : rowOf h ⟨b, 0, none⟩ (vs.length * 1) = some vs := by
        simp only [rowOf, hb, Nat.mul_one, e2, cond_true, List.drop_zero, List.take_length]
      rcases hm with rfl | rfl
      · refine ⟨.slice (some ⟨h.n, 0, none⟩) (vs.length + xs.length) (vs.length + xs.length), h.alloc (.cells (vs ++ xs) e 3), [h.n], ?_, ?_, (Ext.alloc h _).b _, by simp⟩
        · simp only [appendX, x.und, hx.len, x.size, x.bytes, hx.first, hb0, cond_false, e1, hrow, hb, hx.cell, cond_true]
          exact hgo h (vs.length + xs.length) vs xs hn
        · have := Sl.new (h := h) (e := e) (vs := vs ++ xs) (m := 3) (.inr rfl)
          rwa [List.length_append] at this
      · refine ⟨.slice (some ⟨h.n, 0, none⟩) (vs.length + xs.length) (vs.length + xs.length), (h.put b .dead).alloc (.cells (vs ++ xs) e 3), [h.n], ?_, ?_, ?_, by simp⟩
        · simp only [appendX, x.und, hx.len, x.size, x.bytes, hx.first, hb0, cond_false, e1, hrow, hb, hx.cell, cond_true, Nat.beq_refl, Bool.and_true]
          have := hgo (h.put b .dead) (vs.length + xs.length) vs xs hn
          rw [Hp.n_put] at this
          simpa [Nat.beq_refl] using this
        · have := Sl.new (h := h.put b .dead) (e := e) (vs := vs ++ xs) (m := 3) (.inr rfl)
          rw [List.length_append, Hp.n_put] at this
          exact this
        · exact (ExtB.put h b .dead).trans ((Ext.alloc _ _).b _)

/-- append to a new slice of no items: what slices.Clone does. -/
theorem append_new {a : Option Addr} {n c : Nat} {xs : List Value} (x : El E t e by') (hx : Src h (.slice a n c) xs) (hn : xs.length * (by' + 1) ≤ 1099511627776) :
    ∃ v' h' bs', appendX E (h.alloc (.cells [] e 0)) t t (.slice (some ⟨h.n, 0, none⟩) 0 0) (.slice a n c) = some (v', h') ∧ Sl e h' v' xs bs' ∧ Ext h h' ∧ ∀ i, i ∈ bs' → h.n ≤ i := by
  obtain ⟨v', h', bs', h1, h2, h3, h4⟩ := append_own (h := h.alloc (.cells [] e 0)) x (Sl.new (e := e) (vs := []) (m := 0) (.inl rfl)) (hx.ext (Ext.alloc _ _)) (by simpa using hn)
  refine ⟨v', h', bs', h1, by simpa using h2, ?_, fun i hi => ?_⟩
  · have g := ((Ext.alloc h (.cells [] e 0)).b [h.n]).trans h3
    exact ⟨g.n, fun i hi => g.get i hi (by simp; omega)⟩
  · rcases h4 i hi with h5 | h5
    · simp at h5; omega
    · rw [h5, Hp.n_alloc]; omega

end

theorem at_int {k : IntKind} {l : List Int} {o : Nat} (i : Nat) (h : i < l.length) (e : o = i) : (l.map fun n => Value.int k n)[o]? = some (.int k ((l[i]?).getD 0)) := by
  subst e; simp [List.getElem?_map, List.getElem?_eq_getElem h]
theorem at_bool {l : List Bool} {o : Nat} (i : Nat) (h : i < l.length) (e : o = i) : (l.map fun n => Value.bool n)[o]? = some (.bool ((l[i]?).getD false)) := by
  subst e; simp [List.getElem?_map, List.getElem?_eq_getElem h]
theorem getD_mem {α : Type} {l : List α} {i : Nat} {d : α} (h : i < l.length) : (l[i]?).getD d ∈ l := by
  rw [List.getElem?_eq_getElem h]; exact List.getElem_mem h

theorem append_nil {E : Env} {h : Hp} {t e by' : Nat} {w : Value} {xs : List Value} (x : El E t e by') (hx : Src h w xs) (hn : xs.length * (by' + 1) ≤ 1099511627776) :
    ∃ v' h' bs', appendX E h t t (.slice none 0 0) w = some (v', h') ∧ Sl e h' v' xs bs' ∧ Ext h h' ∧ ∀ i, i ∈ bs' → h.n ≤ i := by
  obtain ⟨v', h', bs', h1, h2, h3, h4⟩ := append_own (h := h) (vs := []) (bs := []) x (.inl ⟨rfl, rfl, rfl⟩) hx (by simpa using hn)
  refine ⟨v', h', bs', h1, by simpa using h2, h3.nil, fun i hi => ?_⟩
  rcases h4 i hi with h5 | h5
  · simp at h5
  · omega

theorem bv {p q : Bool} (h : p = true ↔ q = true) : Value.bool p = Value.bool q := congrArg _ (Bool.eq_iff_iff.2 h)

theorem all_int {k : IntKind} (l : List Int) : (l.map fun n => Value.int k n).all cellV = true := by simp [List.all_map, List.all_eq_true, cellV]
theorem all_bool (l : List Bool) : (l.map fun b => Value.bool b).all cellV = true := by simp [List.all_map, List.all_eq_true, cellV]

end Go.X
