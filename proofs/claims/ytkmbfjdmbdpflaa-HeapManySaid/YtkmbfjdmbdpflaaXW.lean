/- A calculus over the machine X: what a piece of code comes to from what is known of its temporaries and of the memory; code, regions, calls. Conditions: none. -/
import Derived.Test.YtkmbfjdmbdpflaaXOpen
import Derived.Test.YtkmbfjdmbdpflaaXCongr
namespace Go.X

/-- What is known of a frame's temporaries: the newest first. -/
abbrev Kn := List (Nat × Value)
def lk : Kn → Nat → Option Value
  | [], _ => none
  | (k, v) :: r, t => cond (Nat.beq k t) (some v) (lk r t)
def Ag (tm : Tr Value) (l : Kn) : Prop := ∀ t v, lk l t = some v → tm.get t = some v
/-- All that one list knows another one knows too. -/
def Sub : Kn → Kn → Prop
  | [], _ => True
  | (t, v) :: r, l => lk l t = some v ∧ Sub r l
def evl (l : Kn) : Operand → Option Value
  | .tmp t => lk l t
  | .const v => some v
  | .global g => some (.pointer (some ⟨g, 0, none⟩))
  | .func f => some (.func (.func f) #[] #[])

theorem Ag.ev {tm : Tr Value} {l : Kn} (a : Ag tm l) {o : Operand} {v : Value} (h : evl l o = some v) : ev tm o = v := by
  cases o with
  | tmp t => simp only [evl] at h; simp only [Go.X.ev, a t v h]
  | const c => simp only [evl, Option.some.injEq] at h; exact h
  | global g => simp only [evl, Option.some.injEq] at h; exact h
  | func f => simp only [evl, Option.some.injEq] at h; exact h

theorem lk_cons (k : Nat) (v : Value) (r : Kn) (t : Nat) : lk ((k, v) :: r) t = if k = t then some v else lk r t := by
  simp only [lk]
  by_cases h : k = t
  · subst h; simp [Nat.beq_refl]
  · rw [(beq_false k t).2 h, if_neg h]; rfl

theorem Ag.put {tm : Tr Value} {l : Kn} (a : Ag tm l) (nt d : Nat) (v : Value) (hd : Nat.blt d nt = true) : Ag (setT nt tm d v) ((d, v) :: l) := by
  intro t u h
  rw [lk_cons] at h
  rw [get_setT]
  by_cases e : d = t
  · rw [if_pos e] at h; rw [if_pos ⟨e, (blt_iff _ _).1 hd⟩]; exact h
  · rw [if_neg e] at h; rw [if_neg (fun x => e x.1)]; exact a t u h

theorem Sub.ag {tm : Tr Value} : ∀ {l' l : Kn}, Sub l' l → Ag tm l → Ag tm l'
  | [], _, _, _ => fun t v h => by simp [lk] at h
  | (k, w) :: r, l, s, a => fun t v h => by
    rw [lk_cons] at h
    split at h
    · rename_i e; subst e; cases h; exact a _ _ s.1
    · exact Sub.ag s.2 a t v h

inductive Out where
  | next
  | ret
  | exit (id : Nat)

def Lands (E : Env) (s : St) (fn : FuncId) (nt : Nat) (tm : Tr Value) (k : List It) (kd : CallKind) (cs : List Fr) (h : Hp) : Out → Prop
  | .next => Runs E s ⟨⟨fn, nt, tm, k, [], .run, kd, none⟩, cs, h⟩
  | .exit id => ∀ k', exitToX id k = some k' → Runs E s ⟨⟨fn, nt, tm, k', [], .run, kd, none⟩, cs, h⟩
  | .ret => ∃ todo, Runs E s ⟨⟨fn, nt, tm, todo, [], .returning, kd, none⟩, cs, h⟩

/-- What is done first, ahead of whatever comes behind, comes to Q. -/
def T (E : Env) (fn : FuncId) (nt : Nat) (is : List It) (l : Kn) (h : Hp) (Q : Out → Kn → Hp → Prop) : Prop :=
  ∀ tm, Ag tm l → ∃ o l' h' tm', Q o l' h' ∧ Ag tm' l' ∧ ∀ k kd cs, Lands E ⟨⟨fn, nt, tm, is ++ k, [], .run, kd, none⟩, cs, h⟩ fn nt tm' k kd cs h' o

/-- The same of code. -/
def W (E : Env) (fn : FuncId) (nt : Nat) (c : Code) (l : Kn) (h : Hp) (Q : Out → Kn → Hp → Prop) : Prop := T E fn nt [.code c] l h Q

section
variable {E : Env} {fn : FuncId} {nt : Nat} {l l' : Kn} {h h' : Hp} {Q : Out → Kn → Hp → Prop} {is is' : List It} {k : List It}

theorem Lands.pre {s s' : St} {tm : Tr Value} {kd : CallKind} {cs : List Fr} {o : Out} (r : Runs E s s') (h : Lands E s' fn nt tm k kd cs h' o) : Lands E s fn nt tm k kd cs h' o := by
  cases o with
  | next => exact r.trans h
  | exit id => exact fun k' hk => r.trans (h k' hk)
  | ret => obtain ⟨todo, ht⟩ := h; exact ⟨todo, r.trans ht⟩

theorem T.done (q : Q .next l h) : T E fn nt [] l h Q := fun tm a => ⟨.next, l, h, tm, q, a, fun _ _ _ => .refl _ _⟩

theorem T.pre (hs : ∀ tm, Ag tm l → ∃ tm2, Ag tm2 l' ∧ ∀ k kd cs, Runs E ⟨⟨fn, nt, tm, is ++ k, [], .run, kd, none⟩, cs, h⟩ ⟨⟨fn, nt, tm2, is' ++ k, [], .run, kd, none⟩, cs, h'⟩)
    (q : T E fn nt is' l' h' Q) : T E fn nt is l h Q := by
  intro tm a
  obtain ⟨tm2, a2, r⟩ := hs tm a
  obtain ⟨o, l3, h3, tm3, q3, a3, r3⟩ := q tm2 a2
  exact ⟨o, l3, h3, tm3, q3, a3, fun k kd cs => (r3 k kd cs).pre (r k kd cs)⟩

theorem T.step (hs : ∀ tm k kd cs, Ag tm l → stepX E ⟨⟨fn, nt, tm, is ++ k, [], .run, kd, none⟩, cs, h⟩ = some ⟨⟨fn, nt, tm, is' ++ k, [], .run, kd, none⟩, cs, h'⟩)
    (q : T E fn nt is' l h' Q) : T E fn nt is l h Q :=
  .pre (fun tm a => ⟨tm, a, fun k kd cs => .step (hs tm k kd cs a) (.refl _ _)⟩) q

theorem T.mono {Q' : Out → Kn → Hp → Prop} (q : T E fn nt is l h Q) (hq : ∀ o l h, Q o l h → Q' o l h) : T E fn nt is l h Q' := by
  intro tm a
  obtain ⟨o, l3, h3, tm3, q3, a3, r3⟩ := q tm a
  exact ⟨o, l3, h3, tm3, hq _ _ _ q3, a3, r3⟩

theorem T.weak (s : Sub l' l) (q : T E fn nt is l' h Q) : T E fn nt is l h Q := fun tm a => q tm (s.ag a)

/-- One thing behind another one, where jumps out of the one pass the other one by. -/
theorem T.seq {i2 : It} (hx : ∀ id k, exitToX id (i2 :: k) = exitToX id k) (q : T E fn nt is l h fun o l h => match o with | .next => T E fn nt [i2] l h Q | o => Q o l h) : T E fn nt (is ++ [i2]) l h Q := by
  intro tm a
  obtain ⟨o, l3, h3, tm3, q3, a3, r3⟩ := q tm a
  cases o with
  | next =>
    obtain ⟨o, l4, h4, tm4, q4, a4, r4⟩ := q3 tm3 a3
    refine ⟨o, l4, h4, tm4, q4, a4, fun k kd cs => ?_⟩
    have := r3 (i2 :: k) kd cs
    rw [List.append_assoc]
    exact (r4 k kd cs).pre this
  | ret =>
    refine ⟨.ret, l3, h3, tm3, q3, a3, fun k kd cs => ?_⟩
    rw [List.append_assoc]
    exact r3 (i2 :: k) kd cs
  | exit id =>
    refine ⟨.exit id, l3, h3, tm3, q3, a3, fun k kd cs => ?_⟩
    rw [List.append_assoc]
    intro k' hk
    exact r3 (i2 :: k) kd cs k' (by rw [hx]; exact hk)

/-- What comes behind: code, unless it is left. -/
def Thn (E : Env) (fn : FuncId) (nt : Nat) (b : Code) (Q : Out → Kn → Hp → Prop) : Out → Kn → Hp → Prop
  | .next, l, h => W E fn nt b l h Q
  | .ret, l, h => Q .ret l h
  | .exit i, l, h => Q (.exit i) l h

theorem w_seq {a b : Code} (q : W E fn nt a l h (Thn E fn nt b Q)) : W E fn nt (.seq a b) l h Q := by
  have q' : T E fn nt [.code a] l h (Thn E fn nt b Q) := q
  refine .step (is' := [.code a] ++ [.code b]) (fun tm k kd cs _ => rfl) (.seq (fun _ _ => rfl) (q'.mono fun o l h q => ?_))
  cases o <;> exact q

theorem w_skip (q : Q .next l h) : W E fn nt .skip l h Q := .step (is' := []) (fun _tm _k _kd _cs _ => rfl) (.done q)

theorem w_ret (q : Q .ret l h) : W E fn nt .ret l h Q := fun tm a => ⟨.ret, l, h, tm, q, a, fun _k _kd _cs => ⟨_, .step rfl (.refl _ _)⟩⟩

theorem w_exit {id : Nat} (q : Q (.exit id) l h) : W E fn nt (.exit id) l h Q := fun tm a => ⟨.exit id, l, h, tm, q, a, fun k kd cs => by
  intro k' hk
  refine .step (b := ⟨⟨fn, nt, tm, k', [], .run, kd, none⟩, cs, h⟩) ?_ (.refl _ _)
  show (match exitToX id k with | some k' => _ | none => _) = _
  rw [hk]⟩

theorem w_cond {c : Operand} {a b : Code} {t : Bool} (hc : evl l c = some (.bool t)) (qa : t = true → W E fn nt a l h Q) (qb : t = false → W E fn nt b l h Q) : W E fn nt (.cond c a b) l h Q := by
  cases t with
  | true => exact .step (is' := [.code a]) (fun tm k kd cs ag => by simp only [stepX, execX, List.cons_append, List.nil_append, ag.ev hc, cond_true]) (qa rfl)
  | false => exact .step (is' := [.code b]) (fun tm k kd cs ag => by simp only [stepX, execX, List.cons_append, List.nil_append, ag.ev hc, cond_false]) (qb rfl)

theorem exitTo_block (id i : Nat) (k : List It) : exitToX id (.inBlock i :: k) = if i = id then some k else exitToX id k := by
  show cond (Nat.beq i id) (some k) (exitToX id k) = _
  by_cases e : i = id
  · subst e; simp [Nat.beq_refl]
  · rw [(beq_false i id).2 e, if_neg e]; rfl

/-- Behind a block: who leaves it goes on there. -/
def Blk (id : Nat) (Q : Out → Kn → Hp → Prop) : Out → Kn → Hp → Prop
  | .next, l, h => Q .next l h
  | .ret, l, h => Q .ret l h
  | .exit i, l, h => if i = id then Q .next l h else Q (.exit i) l h

theorem w_block {id : Nat} {b : Code} (q : W E fn nt b l h (Blk id Q)) : W E fn nt (.block id b) l h Q := by
  intro tm a
  obtain ⟨o, l3, h3, tm3, q3, a3, r3⟩ := q tm a
  cases o with
  | next =>
    refine ⟨.next, l3, h3, tm3, q3, a3, fun k kd cs => ?_⟩
    exact .step rfl ((r3 (.inBlock id :: k) kd cs).trans (.step rfl (.refl _ _)))
  | ret =>
    refine ⟨.ret, l3, h3, tm3, q3, a3, fun k kd cs => ?_⟩
    obtain ⟨todo, r⟩ := r3 (.inBlock id :: k) kd cs
    exact ⟨todo, .step rfl r⟩
  | exit i =>
    by_cases e : i = id
    · simp only [Blk, if_pos e] at q3
      refine ⟨.next, l3, h3, tm3, q3, a3, fun k kd cs => ?_⟩
      exact .step rfl (r3 (.inBlock id :: k) kd cs k (by rw [exitTo_block, if_pos e.symm]))
    · simp only [Blk, if_neg e] at q3
      refine ⟨.exit i, l3, h3, tm3, q3, a3, fun k kd cs => ?_⟩
      intro k' hk
      exact .step rfl (r3 (.inBlock id :: k) kd cs k' (by rw [exitTo_block, if_neg (fun x => e x.symm)]; exact hk))

/-- Behind a round: the next one begins, unless the loop is left. -/
def Rnd (I : Nat → Kn → Hp → Prop) (n : Nat) (Q : Out → Kn → Hp → Prop) : Out → Kn → Hp → Prop
  | .next, l, h => ∃ m, m < n ∧ ∃ l', Sub l' l ∧ I m l' h
  | .ret, l, h => Q .ret l h
  | .exit i, l, h => Q (.exit i) l h

/-- A loop: what holds whenever a round begins, and a measure. -/
theorem w_loop {b : Code} (I : Nat → Kn → Hp → Prop) {n : Nat} (start : I n l h)
    (round : ∀ n l h, I n l h → W E fn nt b l h (Rnd I n Q)) : W E fn nt (.loop b) l h Q := by
  have key : ∀ n l h, I n l h → T E fn nt [.code b, .inLoop b] l h Q := by
    intro n
    induction n using Nat.strongRecOn with
    | _ n ih =>
      intro l h hI
      refine T.seq (is := [.code b]) (fun _ _ => rfl) (T.mono (round n l h hI) fun o l2 h2 q => ?_)
      cases o with
      | next =>
        obtain ⟨m, hm, l3, s, hI3⟩ := q
        exact .step (is' := [.code b, .inLoop b]) (fun tm k kd cs _ => rfl) (.weak s (ih m hm l3 h2 hI3))
      | ret => exact q
      | exit i => exact q
  exact .step (is' := [.code b, .inLoop b]) (fun tm k kd cs _ => rfl) (key n l h start)

/-! Regions -/

/-- The operations of a region, in the order in which X goes through them; each with the reads that are made again behind it, where it writes. -/
def Rs (E : Env) (ops : Array Oper) (dr : Bool) : List Nat → List (Oper × List Oper) → Prop
  | [], [] => True
  | i :: t, (o, lt) :: r => ops[i]? = some o ∧ (dr = true → cls E o = 2 → ∀ j, j ∈ late E ops i t → ∃ q, q ∈ lt ∧ ops[j]? = some q) ∧ Rs E ops dr t r
  | _, _ => False

def rItem (dr : Bool) (ops : Array Oper) (todo : List Nat) : It := match dr with
  | true => .draw ops todo
  | false => .inRegion ops todo

/-- From these operations on until only the last ones are left. -/
def WL (E : Env) (fn : FuncId) (nt : Nat) (dr : Bool) (ops : Array Oper) (fin its : List (Oper × List Oper)) (l : Kn) (h : Hp) (Q : Kn → Hp → Prop) : Prop :=
  ∀ todo, Rs E ops dr todo its → ∀ tm, Ag tm l → ∃ l' h' tm' todo', Q l' h' ∧ Ag tm' l' ∧ Rs E ops dr todo' fin ∧
    ∀ k kd cs, Runs E ⟨⟨fn, nt, tm, rItem dr ops todo :: k, [], .run, kd, none⟩, cs, h⟩ ⟨⟨fn, nt, tm', rItem dr ops todo' :: k, [], .run, kd, none⟩, cs, h'⟩

theorem WL.pre {E : Env} {fn : FuncId} {nt : Nat} {dr : Bool} {ops : Array Oper} {fin its its' : List (Oper × List Oper)} {l l' : Kn} {h h' : Hp} {Q : Kn → Hp → Prop}
    (hs : ∀ todo, Rs E ops dr todo its → ∃ todo', Rs E ops dr todo' its' ∧ ∀ tm, Ag tm l → ∃ tm2, Ag tm2 l' ∧ ∀ k kd cs, Runs E ⟨⟨fn, nt, tm, rItem dr ops todo :: k, [], .run, kd, none⟩, cs, h⟩ ⟨⟨fn, nt, tm2, rItem dr ops todo' :: k, [], .run, kd, none⟩, cs, h'⟩)
    (q : WL E fn nt dr ops fin its' l' h' Q) : WL E fn nt dr ops fin its l h Q := by
  intro todo hr tm a
  obtain ⟨todo', hr', r⟩ := hs todo hr
  obtain ⟨tm2, a2, r2⟩ := r tm a
  obtain ⟨l3, h3, tm3, t3, q3, a3, hr3, r3⟩ := q todo' hr' tm2 a2
  exact ⟨l3, h3, tm3, t3, q3, a3, hr3, fun k kd cs => (r2 k kd cs).trans (r3 k kd cs)⟩

theorem WL.done {E : Env} {fn : FuncId} {nt : Nat} {dr : Bool} {ops : Array Oper} {its : List (Oper × List Oper)} {l : Kn} {h : Hp} {Q : Out → Kn → Hp → Prop}
    (q : WL E fn nt dr ops [] its l h (Q .next)) {todo : List Nat} (hr : Rs E ops dr todo its) : T E fn nt [rItem dr ops todo] l h Q := by
  intro tm a
  obtain ⟨l3, h3, tm3, t3, q3, a3, hr3, r3⟩ := q todo hr tm a
  refine ⟨.next, l3, h3, tm3, q3, a3, fun k kd cs => (r3 k kd cs).trans (.step ?_ (.refl _ _))⟩
  cases t3 with
  | cons i t => exact hr3.elim
  | nil => cases dr <;> rfl

theorem rs_range (E : Env) (ops : Array Oper) : ∀ (n k : Nat), k + n = ops.size → Rs E ops false ((List.range' k n)) ((ops.toList.drop k).map fun o => (o, []))
  | 0, k, e => by
    have : ops.toList.drop k = [] := by rw [List.drop_eq_nil_iff]; simp; omega
    rw [this]; trivial
  | n + 1, k, e => by
    have hk : k < ops.toList.length := by simp; omega
    rw [List.drop_eq_getElem_cons hk, List.range'_succ]
    refine ⟨?_, fun h => by (cases h), rs_range E ops n (k + 1) (by omega)⟩
    simp [Array.getElem?_eq_getElem (show k < ops.size by omega)]

theorem w_region {id : Nat} {ops : Array Oper} (hc : constsOk ops = true) (q : WL E fn nt false ops [] (ops.toList.map fun o => (o, [])) l h (Q .next)) : W E fn nt (.region id ops false) l h Q := by
  have hr : Rs E ops false (List.range ops.size) (ops.toList.map fun o => (o, [])) := by
    have := rs_range E ops ops.size 0 (by omega)
    rwa [List.drop_zero, ← List.range_eq_range'] at this
  refine .step (is' := [.inRegion ops (List.range ops.size)]) (fun tm k kd cs _ => ?_) (WL.done q hr)
  simp only [stepX, execX, List.cons_append, List.nil_append, hc, cond_true, cond_false]

def pk (ops : List Oper) : Nat → Oper
  | 0 => ops.headD default
  | n + 1 => pk ops.tail n

def resolve (ops : Array Oper) (sp : List (Nat × List Nat)) : List (Oper × List Oper) := sp.map fun p => (pk ops.toList p.1, p.2.map (pk ops.toList))

def dOk (E : Env) (ops : Array Oper) : List (Nat × List Nat) → Bool
  | [] => true
  | (i, lt) :: r => Nat.blt i ops.size && (!Nat.beq (cls E (pk ops.toList i)) 2 || (late E ops i (r.map (·.1))).all (fun j => Nat.blt j ops.size && memN j lt)) && dOk E ops r

theorem pk_get (ops : List Oper) : ∀ (i : Nat), i < ops.length → ops[i]? = some (pk ops i) := by
  induction ops with
  | nil => intro i h; simp at h
  | cons o r ih =>
    intro i h
    cases i with
    | zero => rfl
    | succ n => simp only [List.getElem?_cons_succ, pk, List.tail_cons]; exact ih n (by simpa using h)

theorem pkA (ops : Array Oper) (i : Nat) (h : i < ops.size) : ops[i]? = some (pk ops.toList i) := by
  rw [← pk_get ops.toList i (by simpa using h)]; simp

theorem rs_draw (E : Env) (ops : Array Oper) : ∀ sp, dOk E ops sp = true → Rs E ops true (sp.map (·.1)) (resolve ops sp)
  | [], _ => trivial
  | (i, lt) :: r, h => by
    simp only [dOk, Bool.and_eq_true, Bool.or_eq_true, Bool.not_eq_true', beq_false, List.all_eq_true, memN_iff, blt_iff] at h
    refine ⟨pkA ops i h.1.1, fun _ hc j hj => ?_, rs_draw E ops r h.2⟩
    obtain ⟨h1, h2⟩ := (h.1.2.resolve_left fun hn => hn hc) j hj
    exact ⟨_, List.mem_map_of_mem h2, pkA ops j h1⟩

theorem w_draw {id : Nat} {ops : Array Oper} (sp : List (Nat × List Nat)) (hc : constsOk ops = true) (hk : regionOk E ops = true) (hs : canon E ops = sp.map (·.1)) (hd : dOk E ops sp = true)
    (q : WL E fn nt true ops [] (resolve ops sp) l h (Q .next)) : W E fn nt (.region id ops true) l h Q := by
  refine .step (is' := [.draw ops (canon E ops)]) (fun tm k kd cs _ => ?_) (WL.done q (by rw [hs]; exact rs_draw E ops sp hd))
  simp only [stepX, execX, List.cons_append, List.nil_append, hc, hk, cond_true]

variable {dr : Bool} {ops : Array Oper} {fin rest : List (Oper × List Oper)} {R : Kn → Hp → Prop} {lt : List Oper}

theorem wl_nil (l' : Kn) (s : Sub l' l) (q : R l' h) : WL E fn nt dr ops rest rest l h R := fun todo hr tm a => ⟨l', h, tm, todo, q, s.ag a, hr, fun _ _ _ => .refl _ _⟩

theorem wl_end (q : R l h) : WL E fn nt dr ops rest rest l h R := fun todo hr tm a => ⟨l, h, tm, todo, q, a, hr, fun _ _ _ => .refl _ _⟩

theorem wl_weak {its : List (Oper × List Oper)} (l' : Kn) (s : Sub l' l) (q : WL E fn nt dr ops fin its l' h R) : WL E fn nt dr ops fin its l h R := fun todo hr tm a => q todo hr tm (s.ag a)

theorem WL.mono {its : List (Oper × List Oper)} {R' : Kn → Hp → Prop} (q : WL E fn nt dr ops fin its l h R) (hq : ∀ l h, R l h → R' l h) : WL E fn nt dr ops fin its l h R' := by
  intro todo hr tm a
  obtain ⟨l3, h3, tm3, t3, q3, r⟩ := q todo hr tm a
  exact ⟨l3, h3, tm3, t3, hq _ _ q3, r⟩

/-- One part of the operations behind the other one. -/
theorem wl_cut {its mid : List (Oper × List Oper)} (q : WL E fn nt dr ops mid its l h fun l h => WL E fn nt dr ops fin mid l h R) : WL E fn nt dr ops fin its l h R := by
  intro todo hr tm a
  obtain ⟨l3, h3, tm3, t3, q3, a3, hr3, r3⟩ := q todo hr tm a
  obtain ⟨l4, h4, tm4, t4, q4, a4, hr4, r4⟩ := q3 t3 hr3 tm3 a3
  exact ⟨l4, h4, tm4, t4, q4, a4, hr4, fun k kd cs => (r3 k kd cs).trans (r4 k kd cs)⟩

/-- Is an operation wanted? -/
def Gd (ops : Array Oper) (l : Kn) (g : Option (Nat × Bool)) : Prop :=
  match g with
  | none => True
  | some (g, w) => ∃ og d, ops[g]? = some og ∧ og.dst = some d ∧ lk l d = some (.bool w)

theorem gn : Gd ops l none := trivial

theorem gy {g d : Nat} {w b : Bool} (h1 : (pk ops.toList g).dst = some d) (h0 : Nat.blt g ops.size = true) (h2 : lk l d = some (.bool b)) (h3 : b = w) : Gd ops l (some (g, w)) :=
  ⟨_, d, pkA ops g ((blt_iff _ _).1 h0), h1, h3 ▸ h2⟩

theorem Gd.wanted {o : Oper} {tm : Tr Value} (g : Gd ops l o.guard) (a : Ag tm l) : wantedX ops tm o = some true := by
  unfold wantedX
  generalize o.guard = x at g
  cases x with
  | none => rfl
  | some p =>
    obtain ⟨i, w⟩ := p
    obtain ⟨og, d, h1, h2, h3⟩ := g
    simp only [h1, h2, a _ _ h3]
    cases w <;> rfl

/-- Is it not wanted? -/
def Ng (ops : Array Oper) (l : Kn) (g : Option (Nat × Bool)) : Prop :=
  match g with
  | none => False
  | some (g, w) => ∃ og d v, ops[g]? = some og ∧ og.dst = some d ∧ lk l d = some v ∧ (v = .bool (!w) ∨ v = undef)

theorem ng {g d : Nat} {w b : Bool} (h1 : (pk ops.toList g).dst = some d) (h0 : Nat.blt g ops.size = true) (h2 : lk l d = some (.bool b)) (h3 : b = !w) : Ng ops l (some (g, w)) :=
  ⟨_, d, _, pkA ops g ((blt_iff _ _).1 h0), h1, h2, .inl (by rw [h3])⟩
theorem ngu {g d : Nat} {w : Bool} (h1 : (pk ops.toList g).dst = some d) (h0 : Nat.blt g ops.size = true) (h2 : lk l d = some undef) : Ng ops l (some (g, w)) :=
  ⟨_, d, _, pkA ops g ((blt_iff _ _).1 h0), h1, h2, .inr rfl⟩

theorem Ng.wanted {o : Oper} {tm : Tr Value} (g : Ng ops l o.guard) (a : Ag tm l) : wantedX ops tm o = some false := by
  unfold wantedX
  generalize o.guard = x at g
  cases x with
  | none => exact g.elim
  | some p =>
    obtain ⟨i, w⟩ := p
    obtain ⟨og, d, v, h1, h2, h3, h4⟩ := g
    simp only [h1, h2, a _ _ h3]
    rcases h4 with rfl | rfl
    · cases w <;> rfl
    · rfl

def Wn (nt : Nat) (l : Kn) (d : Option Nat) (v : Value) (l' : Kn) : Prop := match d with
  | none => l' = l
  | some d => Nat.blt d nt = true ∧ l' = (d, v) :: l

theorem Wn.put {d : Option Nat} {v : Value} (w : Wn nt l d v l') {tm : Tr Value} (a : Ag tm l) : Ag (putT nt tm d v) l' := by
  cases d with
  | none => exact w ▸ a
  | some d => obtain ⟨h1, rfl⟩ := w; exact a.put nt d v h1

theorem wn {d : Nat} {v : Value} (h : Nat.blt d nt = true) : Wn nt l (some d) v ((d, v) :: l) := ⟨h, rfl⟩
theorem wn0 {v : Value} : Wn nt l none v l := rfl

theorem wl_skip {o : Oper} (g : Ng ops l o.guard) (w : Wn nt l o.dst undef l') (q : WL E fn nt dr ops fin rest l' h R) : WL E fn nt dr ops fin ((o, lt) :: rest) l h R := by
  refine .pre (fun todo hr => ?_) q
  cases todo with
  | nil => exact hr.elim
  | cons i t =>
    obtain ⟨h1, _, h3⟩ := hr
    refine ⟨t, h3, fun tm a => ⟨_, w.put a, fun k kd cs => .step ?_ (.refl _ _)⟩⟩
    cases dr
    · simp only [rItem, stepX, execX, h1, g.wanted a]
    · simp only [rItem, stepX, execX, drawX, h1, g.wanted a]

/-- A read. -/
theorem wl_read {o : Oper} {v : Value} (g : Gd ops l o.guard) (hc : cls E o = 0) (hv : ∀ tm, Ag tm l → readX E tm o h = some v) (w : Wn nt l o.dst v l') (q : WL E fn nt dr ops fin rest l' h R) :
    WL E fn nt dr ops fin ((o, lt) :: rest) l h R := by
  refine .pre (fun todo hr => ?_) q
  cases todo with
  | nil => exact hr.elim
  | cons i t =>
    obtain ⟨h1, _, h3⟩ := hr
    refine ⟨t, h3, fun tm a => ⟨_, w.put a, fun k kd cs => .step ?_ (.refl _ _)⟩⟩
    cases dr
    · simp only [rItem, stepX, execX, h1, g.wanted a, operX, hc, hv tm a, nextX, finishX]
    · simp only [rItem, stepX, execX, drawX, h1, g.wanted a, hc, hv tm a]

/-- A new block. -/
theorem wl_alloc {o : Oper} {b : AObj} {f : Nat → Value} (g : Gd ops l o.guard) (hc : cls E o = 1) (hv : ∀ tm, Ag tm l → allocX E tm o = some (b, f)) (w : Wn nt l o.dst (f h.n) l')
    (q : WL E fn nt dr ops fin rest l' (h.alloc b) R) : WL E fn nt dr ops fin ((o, lt) :: rest) l h R := by
  refine .pre (fun todo hr => ?_) q
  cases todo with
  | nil => exact hr.elim
  | cons i t =>
    obtain ⟨h1, _, h3⟩ := hr
    refine ⟨t, h3, fun tm a => ⟨_, w.put a, fun k kd cs => .step ?_ (.refl _ _)⟩⟩
    cases dr
    · simp only [rItem, stepX, execX, h1, g.wanted a, operX, hc, hv tm a, nextX, finishX]
    · simp only [rItem, stepX, execX, drawX, h1, g.wanted a, hc, hv tm a]

/-- A read that is made again comes to the same. -/
def Again (E : Env) (ops : Array Oper) (l : Kn) (h : Hp) (q : Oper) : Prop :=
  Ng ops l q.guard ∨ (Gd ops l q.guard ∧ ∃ v d, q.dst = some d ∧ lk l d = some v ∧ sameV 20 v v = true ∧ ∀ tm, Ag tm l → readX E tm q h = some v)

theorem chk_runs {tm : Tr Value} {k : List It} {kd : CallKind} {cs : List Fr} {rest : List Nat} : ∀ (js : List Nat), (∀ j, j ∈ js → againX E tm h ops j = true) →
    Runs E ⟨⟨fn, nt, tm, .chk ops js rest :: k, [], .run, kd, none⟩, cs, h⟩ ⟨⟨fn, nt, tm, .draw ops rest :: k, [], .run, kd, none⟩, cs, h⟩
  | [], _ => .step rfl (.refl _ _)
  | j :: js, hj => .step (by simp only [stepX, execX, hj j (by simp), cond_true]) (chk_runs js fun i hi => hj i (by simp [hi]))

theorem Again.ok {tm : Tr Value} (a : Ag tm l) {q : Oper} {j : Nat} (hq : ops[j]? = some q) (g : Again E ops l h q) : againX E tm h ops j = true := by
  unfold againX
  simp only [hq]
  rcases g with g | ⟨g, v, d, h1, h2, h3, h4⟩
  · simp only [g.wanted a]
  · simp only [g.wanted a, h4 tm a, h1, a _ _ h2, h3]

theorem fin_region {i : Nat} {t : List Nat} {o : Oper} {v : Value} {tm : Tr Value} {k : List It} {kd : CallKind} (h1 : ops[i]? = some o) :
    finishX E ⟨fn, nt, tm, .inRegion ops (i :: t) :: k, [], .run, kd, none⟩ v = some ⟨fn, nt, putT nt tm o.dst v, .inRegion ops t :: k, [], .run, kd, none⟩ := by
  simp only [finishX, h1]
theorem fin_draw {i : Nat} {t : List Nat} {o : Oper} {v : Value} {tm : Tr Value} {k : List It} {kd : CallKind} (h1 : ops[i]? = some o) :
    finishX E ⟨fn, nt, tm, .draw ops (i :: t) :: k, [], .run, kd, none⟩ v = some ⟨fn, nt, putT nt tm o.dst v, .chk ops (late E ops i t) t :: k, [], .run, kd, none⟩ := by
  simp only [finishX, h1]

/-- A writer, whatever it does in between: it ends with a value, and a memory. -/
theorem wl_fin {o : Oper} {v : Value} (g : Gd ops l o.guard)
    (hv : ∀ tm fr cs fr' is k kd, Ag tm l → fr = ⟨fn, nt, tm, is :: k, [], .run, kd, none⟩ → finishX E fr v = some fr' →
      ∃ s, (match writeX E tm o h with | some n => nextX E fr cs h n | none => none) = some s ∧ Runs E s ⟨fr', cs, h'⟩)
    (hc : cls E o = 2) (w : Wn nt l o.dst v l') (ha : ∀ q, q ∈ lt → Again E ops l' h' q) (q : WL E fn nt dr ops fin rest l' h' R) : WL E fn nt dr ops fin ((o, lt) :: rest) l h R := by
  refine .pre (fun todo hr => ?_) q
  cases todo with
  | nil => exact hr.elim
  | cons i t =>
    obtain ⟨h1, h2, h3⟩ := hr
    cases dr
    · refine ⟨t, h3, fun tm a => ⟨_, w.put a, fun k kd cs => ?_⟩⟩
      obtain ⟨s, e1, e2⟩ := hv tm _ cs _ (.inRegion ops (i :: t)) k kd a rfl (fin_region h1)
      refine .step (b := s) ?_ e2
      simp only [rItem, stepX, execX, h1, g.wanted a, operX, hc]
      exact e1
    · refine ⟨t, h3, fun tm a => ⟨_, w.put a, fun k kd cs => ?_⟩⟩
      obtain ⟨s, e1, e2⟩ := hv tm _ cs _ (.draw ops (i :: t)) k kd a rfl (fin_draw h1)
      refine .step (b := s) ?_ (e2.trans (chk_runs _ fun j hj => ?_))
      · simp only [rItem, stepX, execX, drawX, h1, g.wanted a, hc]
        exact e1
      · obtain ⟨q, hq, hj⟩ := h2 rfl hc j hj
        exact (ha q hq).ok (w.put a) hj

theorem wl_value {o : Oper} {v : Value} (g : Gd ops l o.guard) (hc : cls E o = 2) (hv : ∀ tm, Ag tm l → writeX E tm o h = some (.value v h')) (w : Wn nt l o.dst v l') (ha : ∀ q, q ∈ lt → Again E ops l' h' q)
    (q : WL E fn nt dr ops fin rest l' h' R) : WL E fn nt dr ops fin ((o, lt) :: rest) l h R :=
  wl_fin g (fun tm fr cs fr' is k kd a e hf => ⟨⟨fr', cs, h'⟩, by simp only [hv tm a, nextX, hf], .refl _ _⟩) hc w ha q

theorem wl_none {o : Oper} (g : Gd ops l o.guard) (hc : cls E o = 2) (hv : ∀ tm, Ag tm l → writeX E tm o h = some (.skip h')) (w : Wn nt l o.dst undef l') (ha : ∀ q, q ∈ lt → Again E ops l' h' q)
    (q : WL E fn nt dr ops fin rest l' h' R) : WL E fn nt dr ops fin ((o, lt) :: rest) l h R :=
  wl_fin g (fun tm fr cs fr' is k kd a e hf => ⟨⟨fr', cs, h'⟩, by simp only [hv tm a, nextX, hf], .refl _ _⟩) hc w ha q

end

/-! Calls -/

/-- A call: with which value, and which memory, it ends. -/
def C (E : Env) (f : FuncId) (args : List Value) (h : Hp) (Q : Value → Hp → Prop) : Prop :=
  ∃ v h', Q v h' ∧ ∃ fu tm fr0 vs, E.fn f = some fu ∧ enterX E f args .normal = some fr0 ∧ resultsX E tm h' fu.results.toList = some vs ∧ oneOf vs = v ∧
    ∀ kd cs, ∃ todo, Runs E ⟨{ fr0 with kind := kd }, cs, h⟩ ⟨⟨f, fr0.nt, tm, todo, [], .returning, kd, none⟩, cs, h'⟩

theorem C.mono {E : Env} {f : FuncId} {args : List Value} {h : Hp} {Q Q' : Value → Hp → Prop} (c : C E f args h Q) (hq : ∀ v h', Q v h' → Q' v h') : C E f args h Q' := by
  obtain ⟨v, h', q, r⟩ := c
  exact ⟨v, h', hq _ _ q, r⟩

def argsL : List Value → Nat → Kn
  | [], _ => []
  | v :: r, i => (i, v) :: argsL r (i + 1)

theorem argsK_get : ∀ (vs : List Value) (i : Nat) (tm : Tr Value) (t : Nat) (v : Value), (if t < i then tm.get t = some v else lk (argsL vs i) t = some v) → (argsT vs i tm).get t = some v
  | [], i, tm, t, v, h => by
    simp only [argsT]
    split at h
    · exact h
    · simp [argsL, lk] at h
  | u :: r, i, tm, t, v, h => by
    simp only [argsT]
    refine argsK_get r (i + 1) _ t v ?_
    split at h
    · rename_i hlt
      rw [if_pos (by omega), get_set _ _ _ _ _ (by omega), if_neg (by omega)]; exact h
    · rename_i hge
      simp only [argsL] at h
      rw [lk_cons] at h
      split at h
      · rename_i e
        subst e; cases h
        rw [if_pos (by omega), get_set _ _ _ _ _ (by omega), if_pos rfl]
      · rw [if_neg (by omega)]; exact h

/-- The results of a function, from what is known. -/
def resL (l : Kn) : List ResultVar → Option (List Value)
  | [] => some []
  | .tmp t :: r => (match lk l t, resL l r with
    | some v, some vs => some (v :: vs)
    | _, _ => none)
  | _ => none

theorem resL_ok {E : Env} {l : Kn} {tm : Tr Value} {h : Hp} (a : Ag tm l) : ∀ (rs : List ResultVar) (vs : List Value), resL l rs = some vs → resultsX E tm h rs = some vs
  | [], vs, e => e
  | .tmp t :: r, vs, e => by
    simp only [resL] at e
    split at e
    · rename_i v ws h1 h2
      cases e
      simp only [resultsX, resL_ok a r _ h2, a.ev (o := .tmp t) h1]
    · cases e
  | .cell a t :: r, vs, e => by simp [resL] at e

/-- Into a function whose results are temporaries. -/
theorem c_enter {E : Env} {f : FuncId} {args : List Value} {h : Hp} {Q : Value → Hp → Prop} {fu : Func} {c : Code} (hf : E.fn f = some fu) (hb : fu.body = some c)
    (q : W E f (args.length + (fu.ntmps - args.length)) c (argsL args 0) h fun o l h => (o = .ret ∨ o = .next) ∧ ∃ vs, resL l fu.results.toList = some vs ∧ Q (oneOf vs) h) : C E f args h Q := by
  have ag : Ag (argsT args 0 .leaf) (argsL args 0) := fun t v e => argsK_get args 0 .leaf t v (by rw [if_neg (by omega)]; exact e)
  obtain ⟨o, l', h', tm', ⟨ho, vs, h1, h2⟩, a', r⟩ := q _ ag
  refine ⟨_, h', h2, fu, tm', ⟨f, args.length + (fu.ntmps - args.length), argsT args 0 .leaf, [.code c], [], .run, .normal, none⟩, vs, hf, by simp only [enterX, hf, hb], resL_ok a' _ _ h1, rfl, fun kd cs => ?_⟩
  have := r [] kd cs
  rcases ho with rfl | rfl
  · exact this
  · exact ⟨_, Runs.trans this (.step rfl (.refl _ _))⟩

theorem C.back {E : Env} {f : FuncId} {args : List Value} {h : Hp} {Q : Value → Hp → Prop} (c : C E f args h Q) :
    ∃ v h', Q v h' ∧ ∃ fr0, enterX E f args .normal = some fr0 ∧ ∀ fr cs fr', finishX E fr v = some fr' → Runs E ⟨fr0, fr :: cs, h⟩ ⟨fr', cs, h'⟩ := by
  obtain ⟨v, h', q, fu, tm, fr0, vs, h1, h2, h3, h4, r⟩ := c
  refine ⟨v, h', q, fr0, h2, fun fr cs fr' hf => ?_⟩
  obtain ⟨todo, r⟩ := r .normal (fr :: cs)
  have e : ({ fr0 with kind := .normal } : Fr) = fr0 := by
    unfold enterX at h2
    split at h2
    · split at h2
      · cases h2; rfl
      · cases h2
    · cases h2
  rw [e] at r
  refine r.trans (.step ?_ (.refl _ _))
  subst h4
  simp only [stepX, unwindX, h1, h3, returnX, hf]

section
variable {E : Env} {fn : FuncId} {nt : Nat} {l l' : Kn} {h h' : Hp} {dr : Bool} {ops : Array Oper} {fin rest : List (Oper × List Oper)} {R : Kn → Hp → Prop} {lt : List Oper}

/-- A call in a region. -/
theorem wl_enter {o : Oper} {f : FuncId} {args : List Value} (g : Gd ops l o.guard) (hc : cls E o = 2) (ho : E.orc f = none) (hv : ∀ tm, Ag tm l → ∃ as, as.toList = args ∧ writeX E tm o h = some (.enter f as))
    (q : C E f args h fun v h' => ∃ l', Wn nt l o.dst v l' ∧ (∀ q, q ∈ lt → Again E ops l' h' q) ∧ WL E fn nt dr ops fin rest l' h' R) : WL E fn nt dr ops fin ((o, lt) :: rest) l h R := by
  obtain ⟨v, h', ⟨l', w, ha, q⟩, fr0, e1, r⟩ := q.back
  refine wl_fin g (fun tm fr cs fr' is k kd a e hf => ?_) hc w ha q
  obtain ⟨as, has, hw⟩ := hv tm a
  subst has
  refine ⟨⟨fr0, fr :: cs, h⟩, ?_, r _ _ _ hf⟩
  rw [hw]
  show nextX E fr cs h (.enter f as) = _
  show ((match E.orc f with
      | some v => (match as.toList with
       | [] => (match finishX E fr v with | some fr => some (⟨fr, cs, h⟩ : St) | none => none)
       | _ => none)
      | none => (match enterX E f as.toList .normal with | some fr' => some ⟨fr', fr :: cs, h⟩ | none => none)) : Option St) = _
  rw [ho]
  show ((match enterX E f as.toList .normal with | some fr' => some ⟨fr', fr :: cs, h⟩ | none => none) : Option St) = _
  rw [e1]

/-- A call of a function of which it is known what it answers. -/
theorem wl_orc {o : Oper} {f : FuncId} {v : Value} (g : Gd ops l o.guard) (hc : cls E o = 2) (ho : E.orc f = some v) (hv : ∀ tm, Ag tm l → writeX E tm o h = some (.enter f #[]))
    (w : Wn nt l o.dst v l') (ha : ∀ q, q ∈ lt → Again E ops l' h q) (q : WL E fn nt dr ops fin rest l' h R) : WL E fn nt dr ops fin ((o, lt) :: rest) l h R := by
  refine wl_fin g (fun tm fr cs fr' is k kd a e hf => ⟨⟨fr', cs, h⟩, by simp only [hv tm a, nextX, ho, hf], .refl _ _⟩) hc w ha q

end

/-- The whole: a call that ends with true, as X's run. -/
theorem C.run {E : Env} {f : FuncId} {args : List Value} {h : Hp} (c : C E f args h fun v _ => v = .bool true) :
    ∃ s0 n, startX E f args h = some s0 ∧ endX E f (runX E n s0) = some (.bool true) := by
  obtain ⟨v, h', rfl, fu, tm, fr0, vs, h1, h2, h3, h4, r⟩ := c
  obtain ⟨todo, n, r⟩ := r .normal []
  have e : ({ fr0 with kind := .normal } : Fr) = fr0 := by
    unfold enterX at h2
    split at h2
    · split at h2
      · cases h2; rfl
      · cases h2
    · cases h2
  rw [e] at r
  refine ⟨⟨fr0, [], h⟩, n, by simp only [startX, h2], ?_⟩
  rw [r]
  simp only [endX, Nat.beq_refl, cond_true, h1, h3, h4]

end Go.X
