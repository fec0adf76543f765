/- A calculus over the machine X: what a piece of code comes to from what is known of its temporaries and of the memory; code, regions, calls. Conditions: none. The calculus' rules for the operations: reads, reckoning, new blocks, stores. Conditions: none. The calculus: pure calls, blocks left, slices of a call's own; growing. Conditions: none. A start from the whole of the old memory: X has all of its blocks, and only reads them. Conditions: none. The row's end of a call that reads its arguments and answers true; what slices of the arguments are. Conditions: none. A start from one package-level table, that X only reads: the row's end of a call without arguments. Conditions: the table lies in the memory. The calculus: maps keyed by integers; results of several values; blocks that are values. Conditions: none. The calculus: functions whose results lie in cells; division; strings compared. Conditions: none. The calculus: slices of one's own whose elements are of several cells; appending to them. Conditions: none. The calculus: ranges over functions: the record of a range, its rounds, the calls of what it yields. Conditions: none. What lies behind a law's argument, as X has it: values, structs, arrays, slices of such. Conditions: none. The calculus: words of 64 bits; quotients; scopes and labels. Conditions: none. The calculus: slices.Sorted over maps.Keys of a map keyed by integers, a call that is not gone through. Conditions: the library's contract at the program. The calculus: operations on structs that are compared; copies of slices whose elements are of several cells. Conditions: none. -/
import Derived.Test.YtoejddhaiogonaaDoorXb
import Derived.Test.YtoejddhaiogonaaDoorXa
import Derived.Sort.Grow
import Derived.Deep.Draws
import Derived.OpenVars
import Derived.Deep.Slices
import Derived.Lib.LaidTab
import Derived.OpenShut
import Derived.Lib.SlKeysI
import Derived.Maps.Own
namespace Go.X

/-- What is known of a frame's temporaries: the newest first. -/
abbrev Kn := List (Nat × Value)
def lk : Kn → Nat → Option Value
  | [], _ => none
  | (k, v) :: r, t => cond (Nat.beq k t) (some v) (lk r t)
def Ag (tm : Tr Value) (l : Kn) : Prop := ∀ t v, lk l t = some v → tm.get t = some v
/-- All that one list knows another one knows too. -/
def Sub : Kn → Kn → Prop
  | [], _ => True
  | (t, v) :: r, l => lk l t = some v ∧ Sub r l
def evl (l : Kn) : Operand → Option Value
  | .tmp t => lk l t
  | .const v => some v
  | .global g => some (.pointer (some ⟨g, 0, none⟩))
  | .func f => some (.func (.func f) #[] #[])

theorem Ag.ev {tm : Tr Value} {l : Kn} (a : Ag tm l) {o : Operand} {v : Value} (h : evl l o = some v) : ev tm o = v := by
  cases o with
  | tmp t => simp only [evl] at h; simp only [Go.X.ev, a t v h]
  | const c => simp only [evl, Option.some.injEq] at h; exact h
  | global g => simp only [evl, Option.some.injEq] at h; exact h
  | func f => simp only [evl, Option.some.injEq] at h; exact h

theorem lk_cons (k : Nat) (v : Value) (r : Kn) (t : Nat) : lk ((k, v) :: r) t = if k = t then some v else lk r t := by
  simp only [lk]
  by_cases h : k = t
  · subst h; simp [Nat.beq_refl]
  rw [(beq_false k t).2 h, if_neg h]; rfl

theorem Ag.put {tm : Tr Value} {l : Kn} (a : Ag tm l) (nt d : Nat) (v : Value) (hd : Nat.blt d nt = true) : Ag (setT nt tm d v) ((d, v) :: l) := by
  intro t u h
  rw [lk_cons] at h
  rw [get_setT]
  by_cases e : d = t
  · rw [if_pos e] at h; rw [if_pos ⟨e, (blt_iff _ _).1 hd⟩]; exact h
  rw [if_neg e] at h; rw [if_neg (fun x => e x.1)]; exact a t u h

theorem Sub.ag {tm : Tr Value} : ∀ {l' l : Kn}, Sub l' l → Ag tm l → Ag tm l'
  | [], _, _, _ => fun t v h => by simp [lk] at h
  | (k, w) :: r, l, s, a => fun t v h => by
    rw [lk_cons] at h
    split at h
    · rename_i e; subst e; cases h; exact a _ _ s.1
    exact Sub.ag s.2 a t v h

inductive Out where
  | next
  | ret
  | exit (id : Nat)

def Lands (E : Env) (s : St) (fn : FuncId) (nt : Nat) (tm : Tr Value) (k : List It) (df : List Deferred) (kd : CallKind) (ro : Option Nat) (cs : List Fr) (h : Hp) : Out → Prop
  | .next => Runs E s ⟨⟨fn, nt, tm, k, df, .run, kd, ro⟩, cs, h⟩
  | .exit id => ∃ k', exitToX id k' = exitToX id k ∧ Runs E s ⟨⟨fn, nt, tm, .code (.exit id) :: k', df, .run, kd, ro⟩, cs, h⟩
  | .ret => ∃ k', Runs E s ⟨⟨fn, nt, tm, .code .ret :: k', df, .run, kd, ro⟩, cs, h⟩

/-- Has code no range over a function? -/
def noRF : Code → Bool
  | .seq a b => noRF a && noRF b
  | .cond _ a b => noRF a && noRF b
  | .block _ b => noRF b
  | .loop b => noRF b
  | .scope b => noRF b
  | .rangeFunc _ _ _ _ => false
  | _ => true
def noIt : It → Bool
  | .code c => noRF c
  | .inLoop b => noRF b
  | _ => true

/-- The rows of deferred calls that lie there stay. -/
def KD (h h' : Hp) : Prop := h.n ≤ h'.n ∧ ∀ b, b < h.n → ∀ d, h.get b = some (.deferred d) → h'.get b = some (.deferred d)
theorem KD.refl (h : Hp) : KD h h := ⟨Nat.le_refl _, fun _ _ _ e => e⟩
theorem KD.trans {a b c : Hp} (x : KD a b) (y : KD b c) : KD a c := ⟨Nat.le_trans x.1 y.1, fun i hi d e => y.2 i (Nat.lt_of_lt_of_le hi x.1) d (x.2 i hi d e)⟩
theorem KD.alloc (h : Hp) (o : AObj) : KD h (h.alloc o) := ⟨by rw [Hp.n_alloc]; omega, fun i hi d e => by rw [Hp.get_alloc, if_neg (by omega)]; exact e⟩
theorem KD.put {h : Hp} {b : Nat} (o : AObj) (hb : ∀ d, h.get b ≠ some (.deferred d)) : KD h (h.put b o) :=
  ⟨by rw [Hp.n_put]; omega, fun i _ d e => by
    rw [Hp.get_put]
    split
    · rename_i e'; subst e'; exact absurd e (hb d)
    exact e⟩

/-- New rows of deferred calls, empty ones. -/
def Dd (h h' : Hp) (ds : List Nat) : Prop := KD h h' ∧ ds.Nodup ∧ ∀ b, b ∈ ds → h.n ≤ b ∧ b < h'.n ∧ h'.get b = some (.deferred (some []))
theorem Dd.nil {h h' : Hp} (k : KD h h') : Dd h h' [] := ⟨k, .nil, fun b hb => by cases hb⟩
theorem Dd.comp {a b c : Hp} {d1 d2 : List Nat} (x : Dd a b d1) (y : Dd b c d2) : Dd a c (d2 ++ d1) := by
  refine ⟨x.1.trans y.1, ?_, fun i hi => ?_⟩
  · rw [List.nodup_append]
    refine ⟨y.2.1, x.2.1, fun i hi j hj e => ?_⟩
    have h1 := (y.2.2 i hi).1
    have h2 := (x.2.2 j hj).2.1
    omega
  rcases List.mem_append.1 hi with hi | hi
  · obtain ⟨p, q, r⟩ := y.2.2 i hi
    exact ⟨Nat.le_trans x.1.1 p, q, r⟩
  obtain ⟨p, q, r⟩ := x.2.2 i hi
  exact ⟨p, Nat.lt_of_lt_of_le q y.1.1, y.1.2 i q _ r⟩
theorem Dd.pre {a b c : Hp} {d : List Nat} (x : KD a b) (y : Dd b c d) : Dd a c d := by simpa using (Dd.nil x).comp y
def marks (ds : List Nat) : List Deferred := ds.map fun b => { target := .collected b, args := #[] }
theorem marks_app (a b : List Nat) (df : List Deferred) : marks (a ++ b) ++ df = marks a ++ (marks b ++ df) := by simp [marks]

/-! What an operation writes leaves the rows of deferred calls alone. -/

theorem storeRow_KD {h h' : Hp} {a : Addr} {l : List Value} (e : storeRow h a l = some h') : KD h h' := by
  unfold storeRow at e
  split at e
  · cases e
  split at e
  · rename_i hg
    rw [Bool.cond_eq_ite] at e
    split at e
    · cases e; exact KD.put _ (by intro d hd; rw [hg] at hd; cases hd)
    cases e
  cases e

theorem mapPut_KD {E : Env} {h h' : Hp} {t : TypeId} {m k v : Value} (e : mapPutX E h t m k v = some h') : KD h h' := by
  unfold mapPutX at e
  split at e
  · split at e
    · rename_i hg
      rw [Bool.cond_eq_ite] at e
      split at e
      · split at e
        · cases e; exact KD.put _ (by intro d hd; rw [hg] at hd; cases hd)
        · cases e; exact KD.put _ (by intro d hd; rw [hg] at hd; cases hd)
        cases e
      cases e
    cases e
  cases e

theorem mapEntry_KD {E : Env} {h h' : Hp} {t : TypeId} {m k v : Value} (e : mapEntryX E h t m k = some (v, h')) : KD h h' := by
  unfold mapEntryX at e
  split at e
  · split at e
    · rename_i hg
      rw [Bool.cond_eq_ite] at e
      split at e
      · split at e
        · split at e
          · cases e; exact KD.put _ (by intro d hd; rw [hg] at hd; cases hd)
          cases e
        · split at e
          · cases e; exact KD.put _ (by intro d hd; rw [hg] at hd; cases hd)
          cases e
        cases e
      cases e
    cases e
  cases e

theorem entryStore_KD {h h' : Hp} {m k v : Value} (e : entryStoreX h m k v = some h') : KD h h' := by
  unfold entryStoreX at e
  split at e
  · split at e
    · rename_i hg
      split at e
      · cases e; exact KD.put _ (by intro d hd; rw [hg] at hd; cases hd)
      cases e
    cases e
  cases e

theorem delete_KD {E : Env} {h h' : Hp} {t : TypeId} {m k : Value} (e : deleteX E h t m k = some h') : KD h h' := by
  unfold deleteX at e
  split at e
  · split at e
    · rename_i hg
      rw [Bool.cond_eq_ite] at e
      split at e
      · split at e
        · cases e; exact KD.put _ (by intro d hd; rw [hg] at hd; cases hd)
        · cases e; exact KD.refl _
        cases e
      cases e
    cases e
  cases e

theorem grow_KD {E : Env} {h h' : Hp} {e : TypeId} {z b n : Nat} {old xs : List Value} {v : Value} (q : growX E h e z b n old xs = some (v, h')) : KD h h' := by
  unfold growX at q
  split at q
  · rw [Bool.cond_eq_ite] at q
    split at q
    · cases q; exact KD.alloc _ _
    cases q
  cases q

theorem append_KD {E : Env} {h h' : Hp} {t t' : TypeId} {s x v : Value} (e : appendX E h t t' s x = some (v, h')) : KD h h' := by
  unfold appendX at e
  split at e
  · split at e
    · cases e
    · split at e
      · rw [Bool.cond_eq_ite] at e
        split at e
        · cases e; exact KD.refl _
        exact grow_KD e
      · rw [Bool.cond_eq_ite] at e
        split at e
        · split at e
          · rw [Bool.cond_eq_ite] at e
            split at e
            · cases e; exact KD.refl _
            cases e
          cases e
        rw [Bool.cond_eq_ite] at e
        split at e
        · split at e
          · rename_i hs
            rw [Bool.cond_eq_ite] at e
            split at e
            · cases e; exact storeRow_KD hs
            cases e
          cases e
        split at e
        · rename_i hg
          rw [Bool.cond_eq_ite] at e
          split at e
          · split at e
            · rw [Bool.cond_eq_ite] at e
              split at e
              · exact (KD.put _ (by intro d hd; rw [hg] at hd; cases hd)).trans (grow_KD e)
              cases e
            exact grow_KD e
          cases e
        cases e
      cases e
    cases e
  cases e

theorem copy_KD {E : Env} {h h' : Hp} {t : TypeId} {a b v : Value} (e : copyX E h t a b = some (v, h')) : KD h h' := by
  unfold copyX at e
  split at e
  · split at e
    · split at e
      · rw [Bool.cond_eq_ite] at e
        split at e
        · split at e
          · rename_i hs
            cases e; exact storeRow_KD hs
          cases e
        cases e
      cases e
    · cases e; exact KD.refl _
    cases e
  cases e

theorem clone_KD {h h' : Hp} {as : List Value} {v : Value} (e : cloneX h as = some (.value v h') ∨ cloneX h as = some (.skip h')) : KD h h' := by
  unfold cloneX at e
  split at e
  · split at e
    · rcases e with e | e
      · cases e; exact KD.alloc _ _
      cases e
    rcases e with e | e <;> cases e
  rcases e with e | e <;> cases e

theorem callFn_KD {E : Env} {h h' : Hp} {f : FuncId} {as : Array Value} {v : Value} (e : callFnX E h f as = some (.value v h') ∨ callFnX E h f as = some (.skip h')) : KD h h' := by
  unfold callFnX at e
  rw [Bool.cond_eq_ite] at e
  split at e
  · exact clone_KD e
  split at e
  · rw [Bool.cond_eq_ite] at e
    split at e <;> rcases e with e | e <;> cases e
  rcases e with e | e <;> cases e

theorem invoke_KD {E : Env} {h h' : Hp} {d : Deferred} {v : Value} (e : invokeX E h d = some (.value v h') ∨ invokeX E h d = some (.skip h')) : KD h h' := by
  unfold invokeX at e
  split at e
  · exact callFn_KD e
  · rcases e with e | e <;> cases e
  · split at e
    · split at e
      · exact callFn_KD e
      rcases e with e | e <;> cases e
    rcases e with e | e <;> cases e
  · split at e
    · split at e
      · split at e
        · rename_i hs
          rcases e with e | e
          · cases e; exact append_KD hs
          cases e
        rcases e with e | e <;> cases e
      rcases e with e | e <;> cases e
    · split at e
      · rename_i hs
        rcases e with e | e
        · cases e; exact copy_KD hs
        cases e
      rcases e with e | e <;> cases e
    · split at e
      · rename_i hs
        rcases e with e | e
        · cases e; exact delete_KD hs
        cases e
      rcases e with e | e <;> cases e
    · rcases e with e | e <;> cases e
    · split at e <;> rcases e with e | e <;> cases e
    rcases e with e | e <;> cases e
  rcases e with e | e <;> cases e

theorem write_KD {E : Env} {tm : Tr Value} {o : Oper} {h h' : Hp} {v : Value} (e : writeX E tm o h = some (.value v h') ∨ writeX E tm o h = some (.skip h')) : KD h h' := by
  unfold writeX at e
  split at e
  · split at e
    · split at e
      · rename_i hs
        rcases e with e | e
        · cases e
        cases e
        unfold storeX at hs
        split at hs
        · rw [Bool.cond_eq_ite] at hs
          split at hs
          · exact storeRow_KD hs
          cases hs
        cases hs
      rcases e with e | e <;> cases e
    rcases e with e | e <;> cases e
  · split at e
    · rename_i hs; rcases e with e | e <;> cases e; exact mapPut_KD hs
    rcases e with e | e <;> cases e
  · split at e
    · rename_i hs; rcases e with e | e <;> cases e; exact mapPut_KD hs
    rcases e with e | e <;> cases e
  · split at e
    · rename_i hs; rcases e with e | e <;> cases e; exact mapEntry_KD hs
    rcases e with e | e <;> cases e
  · split at e
    · rename_i hs; rcases e with e | e <;> cases e; exact entryStore_KD hs
    rcases e with e | e <;> cases e
  · split at e
    · rcases e with e | e <;> cases e; exact KD.alloc _ _
    · rcases e with e | e <;> cases e; exact KD.alloc _ _
    · split at e
      · rcases e with e | e <;> cases e; exact KD.alloc _ _
      rcases e with e | e <;> cases e
    rcases e with e | e <;> cases e
  · split at e
    · split at e
      · rename_i hg
        rw [Bool.cond_eq_ite] at e
        split at e <;> rcases e with e | e <;> cases e
        · exact KD.put _ (by intro d hd; rw [hg] at hd; cases hd)
        exact KD.refl _
      rcases e with e | e <;> cases e
    rcases e with e | e <;> cases e
  · split at e
    · split at e
      · rcases e with e | e <;> cases e; exact KD.alloc _ _
      rcases e with e | e <;> cases e
    · rw [Bool.cond_eq_ite] at e
      split at e
      · split at e
        · rename_i hg
          rcases e with e | e <;> cases e; exact KD.put _ (by intro d hd; rw [hg] at hd; cases hd)
        rcases e with e | e <;> cases e
      rcases e with e | e <;> cases e
    rcases e with e | e <;> cases e
  · split at e
    · exact invoke_KD e
    rcases e with e | e <;> cases e
  · split at e <;> rcases e with e | e <;> cases e
  · split at e <;> rcases e with e | e <;> cases e
  rcases e with e | e <;> cases e

/-- What is done first, ahead of whatever comes behind, comes to Q. -/
def T (E : Env) (fn : FuncId) (nt : Nat) (is : List It) (l : Kn) (h : Hp) (Q : Out → Kn → Hp → Prop) : Prop :=
  ∀ tm, Ag tm l → ∃ o l' h' tm' ds, Q o l' h' ∧ Ag tm' l' ∧ (is.all noIt = true → ds = []) ∧ Dd h h' ds ∧
    ∀ k df kd ro cs, (is.all noIt = true ∨ ro = none) → Lands E ⟨⟨fn, nt, tm, is ++ k, df, .run, kd, ro⟩, cs, h⟩ fn nt tm' k (marks ds ++ df) kd ro cs h' o

/-- The same of code. -/
def W (E : Env) (fn : FuncId) (nt : Nat) (c : Code) (l : Kn) (h : Hp) (Q : Out → Kn → Hp → Prop) : Prop := T E fn nt [.code c] l h Q

section
variable {E : Env} {fn : FuncId} {nt : Nat} {l l' : Kn} {h h' : Hp} {Q : Out → Kn → Hp → Prop} {is is' : List It} {k : List It}

theorem Lands.pre {s s' : St} {tm : Tr Value} {df : List Deferred} {kd : CallKind} {ro : Option Nat} {cs : List Fr} {o : Out} (r : Runs E s s') (h : Lands E s' fn nt tm k df kd ro cs h' o) : Lands E s fn nt tm k df kd ro cs h' o := by
  cases o with
  | next => exact r.trans h
  | exit id => obtain ⟨k', e, h⟩ := h; exact ⟨k', e, r.trans h⟩
  | ret => obtain ⟨k', h⟩ := h; exact ⟨k', r.trans h⟩

theorem T.done (q : Q .next l h) : T E fn nt [] l h Q := fun tm a => ⟨.next, l, h, tm, [], q, a, fun _ => rfl, .nil (.refl h), fun _ _ _ _ _ _ => .refl _ _⟩

theorem T.pre (hn : is.all noIt = true → is'.all noIt = true) (hk : KD h h') (hs : ∀ tm, Ag tm l → ∃ tm2, Ag tm2 l' ∧ ∀ k df kd ro cs, Runs E ⟨⟨fn, nt, tm, is ++ k, df, .run, kd, ro⟩, cs, h⟩ ⟨⟨fn, nt, tm2, is' ++ k, df, .run, kd, ro⟩, cs, h'⟩)
    (q : T E fn nt is' l' h' Q) : T E fn nt is l h Q := by
  intro tm a
  obtain ⟨tm2, a2, r⟩ := hs tm a
  obtain ⟨o, l3, h3, tm3, ds, q3, a3, n3, d3, r3⟩ := q tm2 a2
  exact ⟨o, l3, h3, tm3, ds, q3, a3, fun e => n3 (hn e), .pre hk d3, fun k df kd ro cs ho => (r3 k df kd ro cs (ho.imp hn id)).pre (r k df kd ro cs)⟩

theorem T.step (hs : ∀ tm k df kd ro cs, Ag tm l → stepX E ⟨⟨fn, nt, tm, is ++ k, df, .run, kd, ro⟩, cs, h⟩ = some ⟨⟨fn, nt, tm, is' ++ k, df, .run, kd, ro⟩, cs, h'⟩)
    (q : T E fn nt is' l h' Q) (hk : KD h h' := by exact KD.refl _) (hn : is.all noIt = true → is'.all noIt = true := by simp [noIt, noRF]) : T E fn nt is l h Q :=
  .pre hn hk (fun tm a => ⟨tm, a, fun k df kd ro cs => .step (hs tm k df kd ro cs a) (.refl _ _)⟩) q

theorem T.mono {Q' : Out → Kn → Hp → Prop} (q : T E fn nt is l h Q) (hq : ∀ o l h, Q o l h → Q' o l h) : T E fn nt is l h Q' := by
  intro tm a
  obtain ⟨o, l3, h3, tm3, ds, q3, r3⟩ := q tm a
  exact ⟨o, l3, h3, tm3, ds, hq _ _ _ q3, r3⟩

theorem T.weak (s : Sub l' l) (q : T E fn nt is l' h Q) : T E fn nt is l h Q := fun tm a => q tm (s.ag a)

/-- One thing behind another one, where jumps out of the one pass the other one by. -/
theorem T.seq {i2 : It} (hx : ∀ id k, exitToX id (i2 :: k) = exitToX id k) (q : T E fn nt is l h fun o l h => match o with | .next => T E fn nt [i2] l h Q | o => Q o l h) : T E fn nt (is ++ [i2]) l h Q := by
  intro tm a
  obtain ⟨o, l3, h3, tm3, ds, q3, a3, n3, d3, r3⟩ := q tm a
  have hn : (is ++ [i2]).all noIt = true → is.all noIt = true ∧ [i2].all noIt = true := fun e => by rw [List.all_append, Bool.and_eq_true] at e; exact e
  cases o with
  | next =>
    obtain ⟨o, l4, h4, tm4, ds4, q4, a4, n4, d4, r4⟩ := q3 tm3 a3
    refine ⟨o, l4, h4, tm4, ds4 ++ ds, q4, a4, fun e => by rw [n3 (hn e).1, n4 (hn e).2]; rfl, d3.comp d4, fun k df kd ro cs ho => ?_⟩
    have := r3 (i2 :: k) df kd ro cs (ho.imp (fun e => (hn e).1) id)
    rw [List.append_assoc, marks_app]
    exact (r4 k _ kd ro cs (ho.imp (fun e => (hn e).2) id)).pre this
  | ret =>
    refine ⟨.ret, l3, h3, tm3, ds, q3, a3, fun e => n3 (hn e).1, d3, fun k df kd ro cs ho => ?_⟩
    rw [List.append_assoc]
    exact r3 (i2 :: k) df kd ro cs (ho.imp (fun e => (hn e).1) id)
  | exit id =>
    refine ⟨.exit id, l3, h3, tm3, ds, q3, a3, fun e => n3 (hn e).1, d3, fun k df kd ro cs ho => ?_⟩
    rw [List.append_assoc]
    obtain ⟨k', e, r⟩ := r3 (i2 :: k) df kd ro cs (ho.imp (fun e => (hn e).1) fun e => e)
    exact ⟨k', by rw [e, hx], r⟩

/-- What comes behind: code, unless it is left. -/
def Thn (E : Env) (fn : FuncId) (nt : Nat) (b : Code) (Q : Out → Kn → Hp → Prop) : Out → Kn → Hp → Prop
  | .next, l, h => W E fn nt b l h Q
  | .ret, l, h => Q .ret l h
  | .exit i, l, h => Q (.exit i) l h

theorem w_seq {a b : Code} (q : W E fn nt a l h (Thn E fn nt b Q)) : W E fn nt (.seq a b) l h Q := by
  have q' : T E fn nt [.code a] l h (Thn E fn nt b Q) := q
  refine .step (is' := [.code a] ++ [.code b]) (fun tm k df kd ro cs _ => rfl) (.seq (fun _ _ => rfl) (q'.mono fun o l h q => ?_))
  cases o <;> exact q

theorem w_skip (q : Q .next l h) : W E fn nt .skip l h Q := .step (is' := []) (fun _tm _k _df _kd _ro _cs _ => rfl) (.done q)

theorem w_ret (q : Q .ret l h) : W E fn nt .ret l h Q := fun tm a => ⟨.ret, l, h, tm, [], q, a, fun _ => rfl, .nil (.refl h), fun k _df _kd _ro _cs _ => ⟨k, .refl _ _⟩⟩

theorem w_exit {id : Nat} (q : Q (.exit id) l h) : W E fn nt (.exit id) l h Q := fun tm a => ⟨.exit id, l, h, tm, [], q, a, fun _ => rfl, .nil (.refl h), fun k _df _kd _ro _cs _ => ⟨k, rfl, .refl _ _⟩⟩

theorem w_cond {c : Operand} {a b : Code} {t : Bool} (hc : evl l c = some (.bool t)) (qa : t = true → W E fn nt a l h Q) (qb : t = false → W E fn nt b l h Q) : W E fn nt (.cond c a b) l h Q := by
  cases t with
  | true => exact .step (is' := [.code a]) (fun tm k df kd ro cs ag => by simp only [stepX, execX, List.cons_append, List.nil_append, ag.ev hc, cond_true]) (qa rfl) (hn := fun e => by simp [noIt, noRF] at e ⊢; exact e.1)
  | false => exact .step (is' := [.code b]) (fun tm k df kd ro cs ag => by simp only [stepX, execX, List.cons_append, List.nil_append, ag.ev hc, cond_false]) (qb rfl) (hn := fun e => by simp [noIt, noRF] at e ⊢; exact e.2)

theorem exitTo_block (id i : Nat) (k : List It) : exitToX id (.inBlock i :: k) = if i = id then some k else exitToX id k := by
  show cond (Nat.beq i id) (some k) (exitToX id k) = _
  by_cases e : i = id
  · subst e; simp [Nat.beq_refl]
  rw [(beq_false i id).2 e, if_neg e]; rfl

/-- Behind a block: who leaves it goes on there. -/
def Blk (id : Nat) (Q : Out → Kn → Hp → Prop) : Out → Kn → Hp → Prop
  | .next, l, h => Q .next l h
  | .ret, l, h => Q .ret l h
  | .exit i, l, h => if i = id then Q .next l h else Q (.exit i) l h

theorem w_block {id : Nat} {b : Code} (q : W E fn nt b l h (Blk id Q)) : W E fn nt (.block id b) l h Q := by
  intro tm a
  obtain ⟨o, l3, h3, tm3, ds, q3, a3, n3, d3, r3⟩ := q tm a
  cases o with
  | next =>
    refine ⟨.next, l3, h3, tm3, ds, q3, a3, n3, d3, fun k df kd ro cs ho => ?_⟩
    exact .step rfl (Runs.trans (r3 (.inBlock id :: k) df kd ro cs ho) (.step rfl (.refl _ _)))
  | ret =>
    refine ⟨.ret, l3, h3, tm3, ds, q3, a3, n3, d3, fun k df kd ro cs ho => ?_⟩
    obtain ⟨k', r⟩ := r3 (.inBlock id :: k) df kd ro cs ho
    exact ⟨k', .step rfl r⟩
  | exit i =>
    by_cases e : i = id
    · simp only [Blk, if_pos e] at q3
      refine ⟨.next, l3, h3, tm3, ds, q3, a3, n3, d3, fun k df kd ro cs ho => ?_⟩
      obtain ⟨k', e2, r⟩ := r3 (.inBlock id :: k) df kd ro cs ho
      rw [exitTo_block, if_pos e.symm] at e2
      refine .step rfl (Runs.trans r (.step (b := ⟨⟨fn, nt, tm3, k, marks ds ++ df, .run, kd, ro⟩, cs, h3⟩) ?_ (.refl _ _)))
      show (match exitToX i k' with | some k' => _ | none => _) = _
      rw [e2]
    simp only [Blk, if_neg e] at q3
    refine ⟨.exit i, l3, h3, tm3, ds, q3, a3, n3, d3, fun k df kd ro cs ho => ?_⟩
    obtain ⟨k', e2, r⟩ := r3 (.inBlock id :: k) df kd ro cs ho
    rw [exitTo_block, if_neg (fun x => e x.symm)] at e2
    exact ⟨k', e2, .step rfl r⟩

/-- Behind a round: the next one begins, unless the loop is left. -/
def Rnd (I : Nat → Kn → Hp → Prop) (n : Nat) (Q : Out → Kn → Hp → Prop) : Out → Kn → Hp → Prop
  | .next, l, h => ∃ m, m < n ∧ ∃ l', Sub l' l ∧ I m l' h
  | .ret, l, h => Q .ret l h
  | .exit i, l, h => Q (.exit i) l h

/-- A loop: what holds whenever a round begins, and a measure. -/
theorem w_loop {b : Code} (I : Nat → Kn → Hp → Prop) {n : Nat} (start : I n l h)
    (round : ∀ n l h, I n l h → W E fn nt b l h (Rnd I n Q)) : W E fn nt (.loop b) l h Q := by
  have key : ∀ n l h, I n l h → T E fn nt [.code b, .inLoop b] l h Q := by
    intro n
    induction n using Nat.strongRecOn with
    | _ n ih =>
      intro l h hI
      refine T.seq (is := [.code b]) (fun _ _ => rfl) (T.mono (round n l h hI) fun o l2 h2 q => ?_)
      cases o with
      | next =>
        obtain ⟨m, hm, l3, s, hI3⟩ := q
        exact .step (is' := [.code b, .inLoop b]) (fun tm k df kd ro cs _ => rfl) (.weak s (ih m hm l3 h2 hI3))
      | ret => exact q
      | exit i => exact q
  exact .step (is' := [.code b, .inLoop b]) (fun tm k df kd ro cs _ => rfl) (key n l h start)

/-! Regions -/

/-- The operations of a region, in the order in which X goes through them; each with the reads that are made again behind it, where it writes. -/
def Rs (E : Env) (ops : Array Oper) (dr : Bool) : List Nat → List (Oper × List Oper) → Prop
  | [], [] => True
  | i :: t, (o, lt) :: r => ops[i]? = some o ∧ (dr = true → cls E o = 2 → ∀ j, j ∈ late E ops i t → ∃ q, q ∈ lt ∧ ops[j]? = some q) ∧ Rs E ops dr t r
  | _, _ => False

def rItem (dr : Bool) (ops : Array Oper) (todo : List Nat) : It := match dr with
  | true => .draw ops todo
  | false => .inRegion ops todo

/-- From these operations on until only the last ones are left. -/
def WL (E : Env) (fn : FuncId) (nt : Nat) (dr : Bool) (ops : Array Oper) (fin its : List (Oper × List Oper)) (l : Kn) (h : Hp) (Q : Kn → Hp → Prop) : Prop :=
  ∀ todo, Rs E ops dr todo its → ∀ tm, Ag tm l → ∃ l' h' tm' todo', Q l' h' ∧ Ag tm' l' ∧ Rs E ops dr todo' fin ∧ KD h h' ∧
    ∀ k df kd ro cs, Runs E ⟨⟨fn, nt, tm, rItem dr ops todo :: k, df, .run, kd, ro⟩, cs, h⟩ ⟨⟨fn, nt, tm', rItem dr ops todo' :: k, df, .run, kd, ro⟩, cs, h'⟩

theorem WL.pre {E : Env} {fn : FuncId} {nt : Nat} {dr : Bool} {ops : Array Oper} {fin its its' : List (Oper × List Oper)} {l l' : Kn} {h h' : Hp} {Q : Kn → Hp → Prop} (hk : KD h h')
    (hs : ∀ todo, Rs E ops dr todo its → ∃ todo', Rs E ops dr todo' its' ∧ ∀ tm, Ag tm l → ∃ tm2, Ag tm2 l' ∧ ∀ k df kd ro cs, Runs E ⟨⟨fn, nt, tm, rItem dr ops todo :: k, df, .run, kd, ro⟩, cs, h⟩ ⟨⟨fn, nt, tm2, rItem dr ops todo' :: k, df, .run, kd, ro⟩, cs, h'⟩)
    (q : WL E fn nt dr ops fin its' l' h' Q) : WL E fn nt dr ops fin its l h Q := by
  intro todo hr tm a
  obtain ⟨todo', hr', r⟩ := hs todo hr
  obtain ⟨tm2, a2, r2⟩ := r tm a
  obtain ⟨l3, h3, tm3, t3, q3, a3, hr3, k3, r3⟩ := q todo' hr' tm2 a2
  exact ⟨l3, h3, tm3, t3, q3, a3, hr3, hk.trans k3, fun k df kd ro cs => (r2 k df kd ro cs).trans (r3 k df kd ro cs)⟩

theorem WL.done {E : Env} {fn : FuncId} {nt : Nat} {dr : Bool} {ops : Array Oper} {its : List (Oper × List Oper)} {l : Kn} {h : Hp} {Q : Out → Kn → Hp → Prop}
    (q : WL E fn nt dr ops [] its l h (Q .next)) {todo : List Nat} (hr : Rs E ops dr todo its) : T E fn nt [rItem dr ops todo] l h Q := by
  intro tm a
  obtain ⟨l3, h3, tm3, t3, q3, a3, hr3, k3, r3⟩ := q todo hr tm a
  refine ⟨.next, l3, h3, tm3, [], q3, a3, fun _ => rfl, .nil k3, fun k df kd ro cs _ => Runs.trans (r3 k df kd ro cs) (.step ?_ (.refl _ _))⟩
  cases t3 with
  | cons i t => exact hr3.elim
  | nil => cases dr <;> rfl

theorem rs_range (E : Env) (ops : Array Oper) : ∀ (n k : Nat), k + n = ops.size → Rs E ops false ((List.range' k n)) ((ops.toList.drop k).map fun o => (o, []))
  | 0, k, e => by
    have : ops.toList.drop k = [] := by rw [List.drop_eq_nil_iff]; simp; omega
    rw [this]; trivial
  | n + 1, k, e => by
    have hk : k < ops.toList.length := by simp; omega
    rw [List.drop_eq_getElem_cons hk, List.range'_succ]
    refine ⟨?_, fun h => by (cases h), rs_range E ops n (k + 1) (by omega)⟩
    simp [Array.getElem?_eq_getElem (show k < ops.size by omega)]

theorem w_region {id : Nat} {ops : Array Oper} (hc : constsOk ops = true) (q : WL E fn nt false ops [] (ops.toList.map fun o => (o, [])) l h (Q .next)) : W E fn nt (.region id ops false) l h Q := by
  have hr : Rs E ops false (List.range ops.size) (ops.toList.map fun o => (o, [])) := by
    have := rs_range E ops ops.size 0 (by omega)
    rwa [List.drop_zero, ← List.range_eq_range'] at this
  refine .step (is' := [.inRegion ops (List.range ops.size)]) (fun tm k df kd ro cs _ => ?_) (WL.done q hr) (hn := fun _ => rfl)
  simp only [stepX, execX, List.cons_append, List.nil_append, hc, cond_true, cond_false]

def pk (ops : List Oper) : Nat → Oper
  | 0 => ops.headD default
  | n + 1 => pk ops.tail n

def resolve (ops : Array Oper) (sp : List (Nat × List Nat)) : List (Oper × List Oper) := sp.map fun p => (pk ops.toList p.1, p.2.map (pk ops.toList))

def dOk (E : Env) (ops : Array Oper) : List (Nat × List Nat) → Bool
  | [] => true
  | (i, lt) :: r => Nat.blt i ops.size && (!Nat.beq (cls E (pk ops.toList i)) 2 || (late E ops i (r.map (·.1))).all (fun j => Nat.blt j ops.size && memN j lt)) && dOk E ops r

theorem pk_get (ops : List Oper) : ∀ (i : Nat), i < ops.length → ops[i]? = some (pk ops i) := by
  induction ops with
  | nil => intro i h; simp at h
  | cons o r ih =>
    intro i h
    cases i with
    | zero => rfl
    | succ n => simp only [List.getElem?_cons_succ, pk, List.tail_cons]; exact ih n (by simpa using h)

theorem pkA (ops : Array Oper) (i : Nat) (h : i < ops.size) : ops[i]? = some (pk ops.toList i) := by
  rw [← pk_get ops.toList i (by simpa using h)]; simp

theorem rs_draw (E : Env) (ops : Array Oper) : ∀ sp, dOk E ops sp = true → Rs E ops true (sp.map (·.1)) (resolve ops sp)
  | [], _ => trivial
  | (i, lt) :: r, h => by
    simp only [dOk, Bool.and_eq_true, Bool.or_eq_true, Bool.not_eq_true', beq_false, List.all_eq_true, memN_iff, blt_iff] at h
    refine ⟨pkA ops i h.1.1, fun _ hc j hj => ?_, rs_draw E ops r h.2⟩
    obtain ⟨h1, h2⟩ := (h.1.2.resolve_left fun hn => hn hc) j hj
    exact ⟨_, List.mem_map_of_mem h2, pkA ops j h1⟩

theorem w_draw {id : Nat} {ops : Array Oper} (sp : List (Nat × List Nat)) (hc : constsOk ops = true) (hk : regionOk E ops = true) (hs : canon E ops = sp.map (·.1)) (hd : dOk E ops sp = true)
    (q : WL E fn nt true ops [] (resolve ops sp) l h (Q .next)) : W E fn nt (.region id ops true) l h Q := by
  refine .step (is' := [.draw ops (canon E ops)]) (fun tm k df kd ro cs _ => ?_) (WL.done q (by rw [hs]; exact rs_draw E ops sp hd)) (hn := fun _ => rfl)
  simp only [stepX, execX, List.cons_append, List.nil_append, hc, hk, cond_true]

variable {dr : Bool} {ops : Array Oper} {fin rest : List (Oper × List Oper)} {R : Kn → Hp → Prop} {lt : List Oper}

theorem wl_end (q : R l h) : WL E fn nt dr ops rest rest l h R := fun todo hr tm a => ⟨l, h, tm, todo, q, a, hr, .refl h, fun _ _ _ _ _ => .refl _ _⟩

theorem WL.mono {its : List (Oper × List Oper)} {R' : Kn → Hp → Prop} (q : WL E fn nt dr ops fin its l h R) (hq : ∀ l h, R l h → R' l h) : WL E fn nt dr ops fin its l h R' := by
  intro todo hr tm a
  obtain ⟨l3, h3, tm3, t3, q3, r⟩ := q todo hr tm a
  exact ⟨l3, h3, tm3, t3, hq _ _ q3, r⟩

/-- One part of the operations behind the other one. -/
theorem wl_cut {its mid : List (Oper × List Oper)} (q : WL E fn nt dr ops mid its l h fun l h => WL E fn nt dr ops fin mid l h R) : WL E fn nt dr ops fin its l h R := by
  intro todo hr tm a
  obtain ⟨l3, h3, tm3, t3, q3, a3, hr3, k3, r3⟩ := q todo hr tm a
  obtain ⟨l4, h4, tm4, t4, q4, a4, hr4, k4, r4⟩ := q3 t3 hr3 tm3 a3
  exact ⟨l4, h4, tm4, t4, q4, a4, hr4, k3.trans k4, fun k df kd ro cs => (r3 k df kd ro cs).trans (r4 k df kd ro cs)⟩

/-- Is an operation wanted? -/
def Gd (ops : Array Oper) (l : Kn) (g : Option (Nat × Bool)) : Prop :=
  match g with
  | none => True
  | some (g, w) => ∃ og d, ops[g]? = some og ∧ og.dst = some d ∧ lk l d = some (.bool w)

theorem gn : Gd ops l none := trivial

theorem gy {g d : Nat} {w b : Bool} (h1 : (pk ops.toList g).dst = some d) (h0 : Nat.blt g ops.size = true) (h2 : lk l d = some (.bool b)) (h3 : b = w) : Gd ops l (some (g, w)) :=
  ⟨_, d, pkA ops g ((blt_iff _ _).1 h0), h1, h3 ▸ h2⟩

theorem Gd.wanted {o : Oper} {tm : Tr Value} (g : Gd ops l o.guard) (a : Ag tm l) : wantedX ops tm o = some true := by
  unfold wantedX
  generalize o.guard = x at g
  cases x with
  | none => rfl
  | some p =>
    obtain ⟨i, w⟩ := p
    obtain ⟨og, d, h1, h2, h3⟩ := g
    simp only [h1, h2, a _ _ h3]
    cases w <;> rfl

/-- Is it not wanted? -/
def Ng (ops : Array Oper) (l : Kn) (g : Option (Nat × Bool)) : Prop :=
  match g with
  | none => False
  | some (g, w) => ∃ og d v, ops[g]? = some og ∧ og.dst = some d ∧ lk l d = some v ∧ (v = .bool (!w) ∨ v = undef)

theorem ng {g d : Nat} {w b : Bool} (h1 : (pk ops.toList g).dst = some d) (h0 : Nat.blt g ops.size = true) (h2 : lk l d = some (.bool b)) (h3 : b = !w) : Ng ops l (some (g, w)) :=
  ⟨_, d, _, pkA ops g ((blt_iff _ _).1 h0), h1, h2, .inl (by rw [h3])⟩
theorem ngu {g d : Nat} {w : Bool} (h1 : (pk ops.toList g).dst = some d) (h0 : Nat.blt g ops.size = true) (h2 : lk l d = some undef) : Ng ops l (some (g, w)) :=
  ⟨_, d, _, pkA ops g ((blt_iff _ _).1 h0), h1, h2, .inr rfl⟩

theorem Ng.wanted {o : Oper} {tm : Tr Value} (g : Ng ops l o.guard) (a : Ag tm l) : wantedX ops tm o = some false := by
  unfold wantedX
  generalize o.guard = x at g
  cases x with
  | none => exact g.elim
  | some p =>
    obtain ⟨i, w⟩ := p
    obtain ⟨og, d, v, h1, h2, h3, h4⟩ := g
    simp only [h1, h2, a _ _ h3]
    rcases h4 with rfl | rfl
    · cases w <;> rfl
    rfl

def Wn (nt : Nat) (l : Kn) (d : Option Nat) (v : Value) (l' : Kn) : Prop := match d with
  | none => l' = l
  | some d => Nat.blt d nt = true ∧ l' = (d, v) :: l

theorem Wn.put {d : Option Nat} {v : Value} (w : Wn nt l d v l') {tm : Tr Value} (a : Ag tm l) : Ag (putT nt tm d v) l' := by
  cases d with
  | none => exact w ▸ a
  | some d => obtain ⟨h1, rfl⟩ := w; exact a.put nt d v h1

theorem wn {d : Nat} {v : Value} (h : Nat.blt d nt = true) : Wn nt l (some d) v ((d, v) :: l) := ⟨h, rfl⟩
theorem wn0 {v : Value} : Wn nt l none v l := rfl

theorem wl_skip {o : Oper} (g : Ng ops l o.guard) (w : Wn nt l o.dst undef l') (q : WL E fn nt dr ops fin rest l' h R) : WL E fn nt dr ops fin ((o, lt) :: rest) l h R := by
  refine .pre (.refl h) (fun todo hr => ?_) q
  cases todo with
  | nil => exact hr.elim
  | cons i t =>
    obtain ⟨h1, _, h3⟩ := hr
    refine ⟨t, h3, fun tm a => ⟨_, w.put a, fun k df kd ro cs => .step ?_ (.refl _ _)⟩⟩
    cases dr
    · simp only [rItem, stepX, execX, h1, g.wanted a]
    simp only [rItem, stepX, execX, drawX, h1, g.wanted a]

/-- A read. -/
theorem wl_read {o : Oper} {v : Value} (g : Gd ops l o.guard) (hc : cls E o = 0) (hv : ∀ tm, Ag tm l → readX E tm o h = some v) (w : Wn nt l o.dst v l') (q : WL E fn nt dr ops fin rest l' h R) :
    WL E fn nt dr ops fin ((o, lt) :: rest) l h R := by
  refine .pre (.refl h) (fun todo hr => ?_) q
  cases todo with
  | nil => exact hr.elim
  | cons i t =>
    obtain ⟨h1, _, h3⟩ := hr
    refine ⟨t, h3, fun tm a => ⟨_, w.put a, fun k df kd ro cs => .step ?_ (.refl _ _)⟩⟩
    cases dr
    · simp only [rItem, stepX, execX, h1, g.wanted a, operX, hc, hv tm a, nextX, finishX]
    simp only [rItem, stepX, execX, drawX, h1, g.wanted a, hc, hv tm a]

/-- A new block. -/
theorem wl_alloc {o : Oper} {b : AObj} {f : Nat → Value} (g : Gd ops l o.guard) (hc : cls E o = 1) (hv : ∀ tm, Ag tm l → allocX E tm o = some (b, f)) (w : Wn nt l o.dst (f h.n) l')
    (q : WL E fn nt dr ops fin rest l' (h.alloc b) R) : WL E fn nt dr ops fin ((o, lt) :: rest) l h R := by
  refine .pre (.alloc h b) (fun todo hr => ?_) q
  cases todo with
  | nil => exact hr.elim
  | cons i t =>
    obtain ⟨h1, _, h3⟩ := hr
    refine ⟨t, h3, fun tm a => ⟨_, w.put a, fun k df kd ro cs => .step ?_ (.refl _ _)⟩⟩
    cases dr
    · simp only [rItem, stepX, execX, h1, g.wanted a, operX, hc, hv tm a, nextX, finishX]
    simp only [rItem, stepX, execX, drawX, h1, g.wanted a, hc, hv tm a]

/-- A read that is made again comes to the same. -/
def Again (E : Env) (ops : Array Oper) (l : Kn) (h : Hp) (q : Oper) : Prop :=
  Ng ops l q.guard ∨ (Gd ops l q.guard ∧ ∃ v d, q.dst = some d ∧ lk l d = some v ∧ sameV 20 v v = true ∧ ∀ tm, Ag tm l → readX E tm q h = some v)

theorem chk_runs {tm : Tr Value} {k : List It} {df : List Deferred} {kd : CallKind} {ro : Option Nat} {cs : List Fr} {rest : List Nat} : ∀ (js : List Nat), (∀ j, j ∈ js → againX E tm h ops j = true) →
    Runs E ⟨⟨fn, nt, tm, .chk ops js rest :: k, df, .run, kd, ro⟩, cs, h⟩ ⟨⟨fn, nt, tm, .draw ops rest :: k, df, .run, kd, ro⟩, cs, h⟩
  | [], _ => .step rfl (.refl _ _)
  | j :: js, hj => .step (by simp only [stepX, execX, hj j (by simp), cond_true]) (chk_runs js fun i hi => hj i (by simp [hi]))

theorem Again.ok {tm : Tr Value} (a : Ag tm l) {q : Oper} {j : Nat} (hq : ops[j]? = some q) (g : Again E ops l h q) : againX E tm h ops j = true := by
  unfold againX
  simp only [hq]
  rcases g with g | ⟨g, v, d, h1, h2, h3, h4⟩
  · simp only [g.wanted a]
  simp only [g.wanted a, h4 tm a, h1, a _ _ h2, h3]

theorem fin_region {i : Nat} {t : List Nat} {o : Oper} {v : Value} {tm : Tr Value} {k : List It} {df : List Deferred} {kd : CallKind} {ro : Option Nat} (h1 : ops[i]? = some o) :
    finishX E ⟨fn, nt, tm, .inRegion ops (i :: t) :: k, df, .run, kd, ro⟩ v = some ⟨fn, nt, putT nt tm o.dst v, .inRegion ops t :: k, df, .run, kd, ro⟩ := by
  simp only [finishX, h1]
theorem fin_draw {i : Nat} {t : List Nat} {o : Oper} {v : Value} {tm : Tr Value} {k : List It} {df : List Deferred} {kd : CallKind} {ro : Option Nat} (h1 : ops[i]? = some o) :
    finishX E ⟨fn, nt, tm, .draw ops (i :: t) :: k, df, .run, kd, ro⟩ v = some ⟨fn, nt, putT nt tm o.dst v, .chk ops (late E ops i t) t :: k, df, .run, kd, ro⟩ := by
  simp only [finishX, h1]

/-- A writer, whatever it does in between: it ends with a value, and a memory. -/
theorem wl_fin {o : Oper} {v : Value} (g : Gd ops l o.guard) (hk : KD h h')
    (hv : ∀ tm fr cs fr' is k df kd ro, Ag tm l → fr = ⟨fn, nt, tm, is :: k, df, .run, kd, ro⟩ → finishX E fr v = some fr' →
      ∃ s, (match writeX E tm o h with | some n => nextX E fr cs h n | none => none) = some s ∧ Runs E s ⟨fr', cs, h'⟩)
    (hc : cls E o = 2) (w : Wn nt l o.dst v l') (ha : ∀ q, q ∈ lt → Again E ops l' h' q) (q : WL E fn nt dr ops fin rest l' h' R) : WL E fn nt dr ops fin ((o, lt) :: rest) l h R := by
  refine .pre hk (fun todo hr => ?_) q
  cases todo with
  | nil => exact hr.elim
  | cons i t =>
    obtain ⟨h1, h2, h3⟩ := hr
    cases dr
    · refine ⟨t, h3, fun tm a => ⟨_, w.put a, fun k df kd ro cs => ?_⟩⟩
      obtain ⟨s, e1, e2⟩ := hv tm _ cs _ (.inRegion ops (i :: t)) k df kd ro a rfl (fin_region h1)
      refine .step (b := s) ?_ e2
      simp only [rItem, stepX, execX, h1, g.wanted a, operX, hc]
      exact e1
    refine ⟨t, h3, fun tm a => ⟨_, w.put a, fun k df kd ro cs => ?_⟩⟩
    obtain ⟨s, e1, e2⟩ := hv tm _ cs _ (.draw ops (i :: t)) k df kd ro a rfl (fin_draw h1)
    refine .step (b := s) ?_ (e2.trans (chk_runs _ fun j hj => ?_))
    · simp only [rItem, stepX, execX, drawX, h1, g.wanted a, hc]
      exact e1
    obtain ⟨q, hq, hj⟩ := h2 rfl hc j hj
    exact (ha q hq).ok (w.put a) hj

theorem wl_value {o : Oper} {v : Value} (g : Gd ops l o.guard) (hc : cls E o = 2) (hv : ∀ tm, Ag tm l → writeX E tm o h = some (.value v h')) (w : Wn nt l o.dst v l') (ha : ∀ q, q ∈ lt → Again E ops l' h' q)
    (q : WL E fn nt dr ops fin rest l' h' R) : WL E fn nt dr ops fin ((o, lt) :: rest) l h R := fun todo hr tm a =>
  wl_fin g (write_KD (.inl (hv tm a))) (fun tm fr cs fr' is k df kd ro a e hf => ⟨⟨fr', cs, h'⟩, by simp only [hv tm a, nextX, hf], .refl _ _⟩) hc w ha q todo hr tm a

theorem wl_none {o : Oper} (g : Gd ops l o.guard) (hc : cls E o = 2) (hv : ∀ tm, Ag tm l → writeX E tm o h = some (.skip h')) (w : Wn nt l o.dst undef l') (ha : ∀ q, q ∈ lt → Again E ops l' h' q)
    (q : WL E fn nt dr ops fin rest l' h' R) : WL E fn nt dr ops fin ((o, lt) :: rest) l h R := fun todo hr tm a =>
  wl_fin g (write_KD (v := undef) (.inr (hv tm a))) (fun tm fr cs fr' is k df kd ro a e hf => ⟨⟨fr', cs, h'⟩, by simp only [hv tm a, nextX, hf], .refl _ _⟩) hc w ha q todo hr tm a

end

/-! Calls -/

/-- A call: with which value, and which memory, it ends. -/
def C (E : Env) (f : FuncId) (args : List Value) (h : Hp) (Q : Value → Hp → Prop) : Prop :=
  ∃ v h', Q v h' ∧ KD h h' ∧ ∃ fu tm fr0 vs, E.fn f = some fu ∧ enterX E f args .normal = some fr0 ∧ resultsX E tm h' fu.results.toList = some vs ∧ oneOf vs = v ∧
    ∀ kd cs, ∃ todo, Runs E ⟨{ fr0 with kind := kd }, cs, h⟩ ⟨⟨f, fr0.nt, tm, todo, [], .returning, kd, none⟩, cs, h'⟩

theorem C.mono {E : Env} {f : FuncId} {args : List Value} {h : Hp} {Q Q' : Value → Hp → Prop} (c : C E f args h Q) (hq : ∀ v h', Q v h' → Q' v h') : C E f args h Q' := by
  obtain ⟨v, h', q, r⟩ := c
  exact ⟨v, h', hq _ _ q, r⟩

def argsL : List Value → Nat → Kn
  | [], _ => []
  | v :: r, i => (i, v) :: argsL r (i + 1)

theorem argsK_get : ∀ (vs : List Value) (i : Nat) (tm : Tr Value) (t : Nat) (v : Value), (if t < i then tm.get t = some v else lk (argsL vs i) t = some v) → (argsT vs i tm).get t = some v
  | [], i, tm, t, v, h => by
    simp only [argsT]
    split at h
    · exact h
    simp [argsL, lk] at h
  | u :: r, i, tm, t, v, h => by
    simp only [argsT]
    refine argsK_get r (i + 1) _ t v ?_
    split at h
    · rename_i hlt
      rw [if_pos (by omega), get_set _ _ _ _ _ (by omega), if_neg (by omega)]; exact h
    rename_i hge
    simp only [argsL] at h
    rw [lk_cons] at h
    split at h
    · rename_i e
      subst e; cases h
      rw [if_pos (by omega), get_set _ _ _ _ _ (by omega), if_pos rfl]
    rw [if_neg (by omega)]; exact h

/-- The results of a function, from what is known. -/
def resL (l : Kn) : List ResultVar → Option (List Value)
  | [] => some []
  | .tmp t :: r => (match lk l t, resL l r with
    | some v, some vs => some (v :: vs)
    | _, _ => none)
  | _ => none

theorem resL_ok {E : Env} {l : Kn} {tm : Tr Value} {h : Hp} (a : Ag tm l) : ∀ (rs : List ResultVar) (vs : List Value), resL l rs = some vs → resultsX E tm h rs = some vs
  | [], vs, e => e
  | .tmp t :: r, vs, e => by
    simp only [resL] at e
    split at e
    · rename_i v ws h1 h2
      cases e
      simp only [resultsX, resL_ok a r _ h2, a.ev (o := .tmp t) h1]
    cases e
  | .cell a t :: r, vs, e => by simp [resL] at e

theorem run_ret {E : Env} {f : FuncId} {nt : Nat} {tm : Tr Value} {kd : CallKind} {cs : List Fr} {h : Hp} {s : St} {o : Out} (ho : o = .ret ∨ o = .next) (r : Lands E s f nt tm [] [] kd none cs h o) :
    ∃ todo, Runs E s ⟨⟨f, nt, tm, todo, [], .returning, kd, none⟩, cs, h⟩ := by
  rcases ho with rfl | rfl
  · obtain ⟨k', r⟩ := r
    exact ⟨_, Runs.trans r (.step rfl (.refl _ _))⟩
  exact ⟨_, Runs.trans r (.step rfl (.refl _ _))⟩

/-- Into a function whose results are temporaries. -/
theorem c_enter {E : Env} {f : FuncId} {args : List Value} {h : Hp} {Q : Value → Hp → Prop} {fu : Func} {c : Code} (hf : E.fn f = some fu) (hb : fu.body = some c)
    (q : W E f (args.length + (fu.ntmps - args.length)) c (argsL args 0) h fun o l h => (o = .ret ∨ o = .next) ∧ ∃ vs, resL l fu.results.toList = some vs ∧ Q (oneOf vs) h) (hn : noRF c = true := by kernel_rfl) : C E f args h Q := by
  have ag : Ag (argsT args 0 .leaf) (argsL args 0) := fun t v e => argsK_get args 0 .leaf t v (by rw [if_neg (by omega)]; exact e)
  obtain ⟨o, l', h', tm', ds, ⟨ho, vs, h1, h2⟩, a', n', d', r⟩ := q _ ag
  have hds := n' (by simp [noIt, hn])
  subst hds
  exact ⟨_, h', h2, d'.1, fu, tm', ⟨f, args.length + (fu.ntmps - args.length), argsT args 0 .leaf, [.code c], [], .run, .normal, none⟩, vs, hf, by simp only [enterX, hf, hb], resL_ok a' _ _ h1, rfl,
    fun kd cs => run_ret ho (r [] [] kd none cs (.inr rfl))⟩

theorem C.back {E : Env} {f : FuncId} {args : List Value} {h : Hp} {Q : Value → Hp → Prop} (c : C E f args h Q) :
    ∃ v h', Q v h' ∧ KD h h' ∧ ∃ fr0, enterX E f args .normal = some fr0 ∧ ∀ fr cs fr', finishX E fr v = some fr' → Runs E ⟨fr0, fr :: cs, h⟩ ⟨fr', cs, h'⟩ := by
  obtain ⟨v, h', q, hk, fu, tm, fr0, vs, h1, h2, h3, h4, r⟩ := c
  refine ⟨v, h', q, hk, fr0, h2, fun fr cs fr' hf => ?_⟩
  obtain ⟨todo, r⟩ := r .normal (fr :: cs)
  have e : ({ fr0 with kind := .normal } : Fr) = fr0 := by
    unfold enterX at h2
    split at h2
    · split at h2
      · cases h2; rfl
      cases h2
    cases h2
  rw [e] at r
  refine r.trans (.step ?_ (.refl _ _))
  subst h4
  simp only [stepX, unwindX, h1, h3, returnX, hf]

section
variable {E : Env} {fn : FuncId} {nt : Nat} {l l' : Kn} {h h' : Hp} {dr : Bool} {ops : Array Oper} {fin rest : List (Oper × List Oper)} {R : Kn → Hp → Prop} {lt : List Oper}

/-- A call in a region. -/
theorem wl_enter {o : Oper} {f : FuncId} {args : List Value} (g : Gd ops l o.guard) (hc : cls E o = 2) (ho : E.orc f = none) (hs : E.sm f = none) (hv : ∀ tm, Ag tm l → ∃ as, as.toList = args ∧ writeX E tm o h = some (.enter f as))
    (q : C E f args h fun v h' => ∃ l', Wn nt l o.dst v l' ∧ (∀ q, q ∈ lt → Again E ops l' h' q) ∧ WL E fn nt dr ops fin rest l' h' R) : WL E fn nt dr ops fin ((o, lt) :: rest) l h R := by
  obtain ⟨v, h', ⟨l', w, ha, q⟩, hk, fr0, e1, r⟩ := q.back
  refine wl_fin g hk (fun tm fr cs fr' is k df kd ro a e hf => ?_) hc w ha q
  obtain ⟨as, has, hw⟩ := hv tm a
  subst has
  refine ⟨⟨fr0, fr :: cs, h⟩, ?_, r _ _ _ hf⟩
  rw [hw]
  show nextX E fr cs h (.enter f as) = _
  show ((match E.orc f with
      | some v => (match as.toList with
       | [] => (match finishX E fr v with | some fr => some (⟨fr, cs, h⟩ : St) | none => none)
       | _ => none)
      | none => (match E.sm f with
        | some F => (match F as.toList h with
          | some (v, h') => (match finishX E fr v with | some fr => some (⟨fr, cs, h'⟩ : St) | none => none)
          | none => none)
        | none => (match enterX E f as.toList .normal with | some fr' => some ⟨fr', fr :: cs, h⟩ | none => none))) : Option St) = _
  rw [ho]
  show ((match E.sm f with
        | some F => (match F as.toList h with
          | some (v, h') => (match finishX E fr v with | some fr => some (⟨fr, cs, h'⟩ : St) | none => none)
          | none => none)
        | none => (match enterX E f as.toList .normal with | some fr' => some ⟨fr', fr :: cs, h⟩ | none => none)) : Option St) = _
  rw [hs]
  show ((match enterX E f as.toList .normal with | some fr' => some ⟨fr', fr :: cs, h⟩ | none => none) : Option St) = _
  rw [e1]

/-- A call of a function that is not gone through. -/
theorem wl_sm {o : Oper} {f : FuncId} {args : List Value} {F : List Value → Hp → Option (Value × Hp)} {v : Value} (g : Gd ops l o.guard) (hc : cls E o = 2) (ho : E.orc f = none) (hs : E.sm f = some F) (hv : ∀ tm, Ag tm l → ∃ as, as.toList = args ∧ writeX E tm o h = some (.enter f as))
    (hF : F args h = some (v, h')) (hk : KD h h') (w : Wn nt l o.dst v l') (ha : ∀ q, q ∈ lt → Again E ops l' h' q) (q : WL E fn nt dr ops fin rest l' h' R) : WL E fn nt dr ops fin ((o, lt) :: rest) l h R := by
  refine wl_fin g hk (fun tm fr cs fr' is k df kd ro a e hf => ?_) hc w ha q
  obtain ⟨as, has, hw⟩ := hv tm a
  subst has
  refine ⟨⟨fr', cs, h'⟩, ?_, .refl _ _⟩
  rw [hw]
  simp only [nextX, ho, hs, hF, hf]

end

/-- The whole: a call whose answer is known, as X's run. -/
theorem C.run {E : Env} {f : FuncId} {args : List Value} {h : Hp} {v0 : Value} (c : C E f args h fun v _ => v = v0) :
    ∃ s0 n, startX E f args h = some s0 ∧ endX E f (runX E n s0) = some v0 := by
  obtain ⟨v, h', rfl, _, fu, tm, fr0, vs, h1, h2, h3, h4, r⟩ := c
  obtain ⟨todo, n, r⟩ := r .normal []
  have e : ({ fr0 with kind := .normal } : Fr) = fr0 := by
    unfold enterX at h2
    split at h2
    · split at h2
      · cases h2; rfl
      cases h2
    cases h2
  rw [e] at r
  refine ⟨⟨fr0, [], h⟩, n, by simp only [startX, h2], ?_⟩
  rw [r]
  simp only [endX, Nat.beq_refl, cond_true, h1, h3, h4]

end Go.X

namespace Go.X

section
variable {E : Env} {fn : FuncId} {nt : Nat} {l l' : Kn} {h h' : Hp} {dr : Bool} {ops : Array Oper} {fin rest : List (Oper × List Oper)} {R : Kn → Hp → Prop} {lt : List Oper}
variable {d : Nat} {ty : TypeId} {pos : String} {af : Array Edge} {gg : Option (Nat × Bool)} {x y z : Operand} {v u : Value} {t : TypeId}

theorem o_move (g : Gd ops l gg) (hd : Nat.blt d nt = true) (hx : evl l x = some v) (q : WL E fn nt dr ops fin rest ((d, v) :: l) h R) : WL E fn nt dr ops fin ((⟨some d, .move x, ty, pos, af, gg⟩, lt) :: rest) l h R :=
  wl_read g rfl (fun _ a => congrArg some (a.ev hx)) (wn hd) q

theorem o_assign (g : Gd ops l gg) (hd : Nat.blt d nt = true) (hx : evl l x = some v) (q : WL E fn nt dr ops fin rest ((d, v) :: l) h R) : WL E fn nt dr ops fin ((⟨some d, .assign x, ty, pos, af, gg⟩, lt) :: rest) l h R :=
  wl_read g rfl (fun _ a => congrArg some (a.ev hx)) (wn hd) q

theorem o_pickt {b : Bool} (g : Gd ops l gg) (hd : Nat.blt d nt = true) (hx : evl l x = some (.bool b)) (hb : b = true) (hy : evl l y = some v) (q : WL E fn nt dr ops fin rest ((d, v) :: l) h R) :
    WL E fn nt dr ops fin ((⟨some d, .pick x y z, ty, pos, af, gg⟩, lt) :: rest) l h R :=
  wl_read g rfl (fun _ a => by subst hb; simp only [readX, a.ev hx, cond_true, a.ev hy]) (wn hd) q

theorem o_pickf {b : Bool} (g : Gd ops l gg) (hd : Nat.blt d nt = true) (hx : evl l x = some (.bool b)) (hb : b = false) (hz : evl l z = some v) (q : WL E fn nt dr ops fin rest ((d, v) :: l) h R) :
    WL E fn nt dr ops fin ((⟨some d, .pick x y z, ty, pos, af, gg⟩, lt) :: rest) l h R :=
  wl_read g rfl (fun _ a => by subst hb; simp only [readX, a.ev hx, cond_false, a.ev hz]) (wn hd) q

theorem o_not {b : Bool} (g : Gd ops l gg) (hd : Nat.blt d nt = true) (hx : evl l x = some (.bool b)) (q : WL E fn nt dr ops fin rest ((d, .bool (!b)) :: l) h R) :
    WL E fn nt dr ops fin ((⟨some d, .unOp .not t x, ty, pos, af, gg⟩, lt) :: rest) l h R :=
  wl_read g rfl (fun _ a => by simp only [readX, a.ev hx, unX, boolV_eq]) (wn hd) q

/-! Reckoning -/
section
variable {k : IntKind} {a b : Int} {op : BinOp} {ty2 : TypeId}

theorem o_int2 (g : Gd ops l gg) (hd : Nat.blt d nt = true) (hx : evl l x = some (.int k a)) (hy : evl l y = some (.int k b)) (hs : isShift op = false) (hv : intBin op k a b = some v)
    (q : WL E fn nt dr ops fin rest ((d, v) :: l) h R) : WL E fn nt dr ops fin ((⟨some d, .binOp op t x y ty2, ty, pos, af, gg⟩, lt) :: rest) l h R :=
  wl_read g rfl (fun _ ag => by simp only [readX, ag.ev hx, ag.ev hy, binX, hs, cond_false, kindEq_refl, cond_true, hv]) (wn hd) q

theorem o_lss (g : Gd ops l gg) (hd : Nat.blt d nt = true) (hx : evl l x = some (.int k a)) (hy : evl l y = some (.int k b)) (q : WL E fn nt dr ops fin rest ((d, .bool (decide (a < b))) :: l) h R) :
    WL E fn nt dr ops fin ((⟨some d, .binOp .lss t x y ty2, ty, pos, af, gg⟩, lt) :: rest) l h R := o_int2 g hd hx hy rfl (by simp only [intBin, boolV_eq]) q
theorem o_leq (g : Gd ops l gg) (hd : Nat.blt d nt = true) (hx : evl l x = some (.int k a)) (hy : evl l y = some (.int k b)) (q : WL E fn nt dr ops fin rest ((d, .bool (decide (a ≤ b))) :: l) h R) :
    WL E fn nt dr ops fin ((⟨some d, .binOp .leq t x y ty2, ty, pos, af, gg⟩, lt) :: rest) l h R := o_int2 g hd hx hy rfl (by simp only [intBin, boolV_eq]) q
theorem o_gtr (g : Gd ops l gg) (hd : Nat.blt d nt = true) (hx : evl l x = some (.int k a)) (hy : evl l y = some (.int k b)) (q : WL E fn nt dr ops fin rest ((d, .bool (decide (b < a))) :: l) h R) :
    WL E fn nt dr ops fin ((⟨some d, .binOp .gtr t x y ty2, ty, pos, af, gg⟩, lt) :: rest) l h R := o_int2 g hd hx hy rfl (by simp only [intBin, boolV_eq, gt_iff_lt]) q
theorem o_geq (g : Gd ops l gg) (hd : Nat.blt d nt = true) (hx : evl l x = some (.int k a)) (hy : evl l y = some (.int k b)) (q : WL E fn nt dr ops fin rest ((d, .bool (decide (b ≤ a))) :: l) h R) :
    WL E fn nt dr ops fin ((⟨some d, .binOp .geq t x y ty2, ty, pos, af, gg⟩, lt) :: rest) l h R := o_int2 g hd hx hy rfl (by simp only [intBin, boolV_eq, ge_iff_le]) q
theorem o_eqi (g : Gd ops l gg) (hd : Nat.blt d nt = true) (hx : evl l x = some (.int k a)) (hy : evl l y = some (.int k b)) (q : WL E fn nt dr ops fin rest ((d, .bool (decide (a = b))) :: l) h R) :
    WL E fn nt dr ops fin ((⟨some d, .binOp .eql t x y ty2, ty, pos, af, gg⟩, lt) :: rest) l h R := o_int2 g hd hx hy rfl (by simp only [intBin, boolV_eq]; rfl) q
theorem o_nei (g : Gd ops l gg) (hd : Nat.blt d nt = true) (hx : evl l x = some (.int k a)) (hy : evl l y = some (.int k b)) (q : WL E fn nt dr ops fin rest ((d, .bool (!decide (a = b))) :: l) h R) :
    WL E fn nt dr ops fin ((⟨some d, .binOp .neq t x y ty2, ty, pos, af, gg⟩, lt) :: rest) l h R := o_int2 g hd hx hy rfl (by simp only [intBin, boolV_eq]; rfl) q

theorem wrap64 {n : Int} (h1 : -9223372036854775808 ≤ n) (h2 : n < 9223372036854775808) : IntKind.i64.wrap n = n := IntWalk.i64_in n ⟨by omega, by omega⟩

theorem o_add (g : Gd ops l gg) (hd : Nat.blt d nt = true) (hx : evl l x = some (.int .i64 a)) (hy : evl l y = some (.int .i64 b)) (h1 : -9223372036854775808 ≤ a + b) (h2 : a + b < 9223372036854775808)
    (q : WL E fn nt dr ops fin rest ((d, .int .i64 (a + b)) :: l) h R) :
    WL E fn nt dr ops fin ((⟨some d, .binOp .add t x y ty2, ty, pos, af, gg⟩, lt) :: rest) l h R := o_int2 g hd hx hy rfl (by simp only [intBin, someI_eq, wrapX_eq, wrap64 h1 h2]) q
theorem o_sub (g : Gd ops l gg) (hd : Nat.blt d nt = true) (hx : evl l x = some (.int .i64 a)) (hy : evl l y = some (.int .i64 b)) (h1 : -9223372036854775808 ≤ a - b) (h2 : a - b < 9223372036854775808)
    (q : WL E fn nt dr ops fin rest ((d, .int .i64 (a - b)) :: l) h R) :
    WL E fn nt dr ops fin ((⟨some d, .binOp .sub t x y ty2, ty, pos, af, gg⟩, lt) :: rest) l h R := o_int2 g hd hx hy rfl (by simp only [intBin, someI_eq, wrapX_eq, wrap64 h1 h2]) q
theorem o_mul (g : Gd ops l gg) (hd : Nat.blt d nt = true) (hx : evl l x = some (.int .i64 a)) (hy : evl l y = some (.int .i64 b)) (h1 : -9223372036854775808 ≤ a * b) (h2 : a * b < 9223372036854775808)
    (q : WL E fn nt dr ops fin rest ((d, .int .i64 (a * b)) :: l) h R) :
    WL E fn nt dr ops fin ((⟨some d, .binOp .mul t x y ty2, ty, pos, af, gg⟩, lt) :: rest) l h R := o_int2 g hd hx hy rfl (by simp only [intBin, someI_eq, wrapX_eq, wrap64 h1 h2]) q
end

/-! Types, as they are asked for -/
def isB (E : Env) (t : TypeId) : Bool := match E.und t with | some .bool => true | _ => false
def isS (E : Env) (t : TypeId) : Bool := match E.und t with | some (.slice _) => true | _ => false
def isStr (E : Env) (t : TypeId) : Bool := match E.und t with | some .string => true | _ => false
/-- One cell. -/
def isC (E : Env) (t : TypeId) : Bool := match E.und t with | some d => !aggDesc d | _ => false
def isA (E : Env) (t : TypeId) : Bool := match E.und t with | some d => aggDesc d | _ => false
/-- A slice's, or an array's, elements' size. -/
def elemZ (E : Env) (t : TypeId) : Option Nat := match E.und t with
  | some (.slice e) => E.size e
  | _ => none
def fOff (E : Env) (t : TypeId) (i : Nat) : Option Nat := match E.und t with
  | some (.struct fs) => (match fs[i]? with
    | some f => (match E.size f.type with
      | some (_ + 1) => some f.offset
      | _ => none)
    | none => none)
  | _ => none

theorem isS_und (hp : isS E t = true) : ∃ e, E.und t = some (.slice e) := by
  unfold isS at hp; split at hp
  · exact ⟨_, ‹_›⟩
  cases hp
theorem isB_und (hp : isB E t = true) : E.und t = some .bool := by
  unfold isB at hp; split at hp
  · assumption
  cases hp
theorem isStr_und (hp : isStr E t = true) : E.und t = some .string := by
  unfold isStr at hp; split at hp
  · assumption
  cases hp
theorem isC_und (hp : isC E t = true) : ∃ e, E.und t = some e ∧ aggDesc e = false := by
  unfold isC at hp; split at hp
  · exact ⟨_, ‹_›, by simpa using hp⟩
  cases hp
theorem isA_und (hp : isA E t = true) : ∃ e, E.und t = some e ∧ aggDesc e = true := by
  unfold isA at hp; split at hp
  · exact ⟨_, ‹_›, by simpa using hp⟩
  cases hp
theorem elemZ_und {n : Nat} (hp : elemZ E t = some n) : ∃ e, E.und t = some (.slice e) ∧ E.size e = some n := by
  unfold elemZ at hp; split at hp
  · exact ⟨_, ‹_›, hp⟩
  cases hp

section
variable {op : BinOp} {ty2 : TypeId}

theorem o_eqb {a b : Bool} (g : Gd ops l gg) (hd : Nat.blt d nt = true) (hx : evl l x = some (.bool a)) (hy : evl l y = some (.bool b)) (hb : isB E t = true)
    (q : WL E fn nt dr ops fin rest ((d, .bool (a == b)) :: l) h R) : WL E fn nt dr ops fin ((⟨some d, .binOp .eql t x y ty2, ty, pos, af, gg⟩, lt) :: rest) l h R :=
  wl_read g rfl (fun _ ag => by simp only [readX, ag.ev hx, ag.ev hy, binX, equalX, isB_und hb, boolV_eq]) (wn hd) q
end

theorem o_len {a : Option Addr} {n c : Nat} (g : Gd ops l gg) (hd : Nat.blt d nt = true) (hx : evl l x = some (.slice a n c)) (hb : isS E t = true)
    (q : WL E fn nt dr ops fin rest ((d, .int .i64 (n : Nat)) :: l) h R) : WL E fn nt dr ops fin ((⟨some d, .call ⟨.builtin .len, #[x], #[t]⟩, ty, pos, af, gg⟩, lt) :: rest) l h R :=
  wl_read g rfl (fun _ ag => by
    obtain ⟨e, he⟩ := isS_und hb
    simp only [readX, List.map_cons, List.map_nil, ag.ev hx, lenX, he, someI_eq, List.getElem?_toArray, List.getElem?_cons_zero]) (wn hd) q

theorem o_lenstr {s : ByteArray} (g : Gd ops l gg) (hd : Nat.blt d nt = true) (hx : evl l x = some (.string s)) (hb : isStr E t = true)
    (q : WL E fn nt dr ops fin rest ((d, .int .i64 (s.size : Nat)) :: l) h R) : WL E fn nt dr ops fin ((⟨some d, .call ⟨.builtin .len, #[x], #[t]⟩, ty, pos, af, gg⟩, lt) :: rest) l h R :=
  wl_read g rfl (fun _ ag => by
    simp only [readX, List.map_cons, List.map_nil, ag.ev hx, lenX, isStr_und hb, someI_eq, List.getElem?_toArray, List.getElem?_cons_zero]) (wn hd) q

theorem o_nilCheck {a : Addr} (g : Gd ops l gg) (hd : Nat.blt d nt = true) (hx : evl l x = some (.pointer (some a))) (q : WL E fn nt dr ops fin rest ((d, .pointer (some a)) :: l) h R) :
    WL E fn nt dr ops fin ((⟨some d, .nilCheck x, ty, pos, af, gg⟩, lt) :: rest) l h R :=
  wl_read g rfl (fun _ ag => by simp only [readX, ag.ev hx]) (wn hd) q

theorem addr_add (b o k : Nat) : (⟨b, o, none⟩ : Addr).add k = ⟨b, o + k, none⟩ := by
  unfold Addr.add
  split
  · rename_i e; subst e; rfl
  rfl

theorem o_fieldAddr {b o i off : Nat} (g : Gd ops l gg) (hd : Nat.blt d nt = true) (hx : evl l x = some (.pointer (some ⟨b, o, none⟩))) (ho : fOff E t i = some off)
    (q : WL E fn nt dr ops fin rest ((d, .pointer (some ⟨b, o + off, none⟩)) :: l) h R) : WL E fn nt dr ops fin ((⟨some d, .fieldAddr t x i, ty, pos, af, gg⟩, lt) :: rest) l h R :=
  wl_read g rfl (fun _ ag => by
    unfold fOff at ho
    split at ho
    · rename_i fs hu
      split at ho
      · rename_i f hf
        split at ho
        · rename_i n hs
          cases ho
          simp only [readX, ag.ev hx, fieldAddrX, hu, hf, hs, addr_add]
        cases ho
      cases ho
    cases ho) (wn hd) q

theorem natOf_int {k : IntKind} {j : Int} (hj : 0 ≤ j) : natOf (.int k j) = some j.toNat := by
  cases j with
  | ofNat n => rfl
  | negSucc n => exact absurd hj (by omega)

theorem o_indexAddr {b o n c zz : Nat} {k : IntKind} {j : Int} (g : Gd ops l gg) (hd : Nat.blt d nt = true) (hx : evl l x = some (.slice (some ⟨b, o, none⟩) n c)) (hy : evl l y = some (.int k j))
    (hz : elemZ E t = some zz) (h1 : 0 ≤ j) (h2 : j < n)
    (q : WL E fn nt dr ops fin rest ((d, .pointer (some ⟨b, o + j.toNat * zz, none⟩)) :: l) h R) : WL E fn nt dr ops fin ((⟨some d, .indexAddr t x y, ty, pos, af, gg⟩, lt) :: rest) l h R :=
  wl_read g rfl (fun _ ag => by
    obtain ⟨e, he, hs⟩ := elemZ_und hz
    have hlt : Nat.blt j.toNat n = true := (blt_iff _ _).2 (by omega)
    simp only [readX, ag.ev hx, ag.ev hy, indexAddrX, natOf_int h1, he, hs, hlt, cond_true, addr_add]) (wn hd) q

theorem o_field {cs : Array Value} {i : Nat} (g : Gd ops l gg) (hd : Nat.blt d nt = true) (hx : evl l x = some (.agg cs)) (hv : fieldX E t (.agg cs) i = some v)
    (q : WL E fn nt dr ops fin rest ((d, v) :: l) h R) : WL E fn nt dr ops fin ((⟨some d, .field t x i, ty, pos, af, gg⟩, lt) :: rest) l h R :=
  wl_read g rfl (fun _ ag => by simp only [readX, ag.ev hx, hv]) (wn hd) q

/-! Loads -/

theorem take_drop_one {l : List Value} {o : Nat} {v : Value} (h : l[o]? = some v) : (l.drop o).take 1 = [v] := by
  obtain ⟨hlt, rfl⟩ := List.getElem?_eq_some_iff.1 h
  rw [List.drop_eq_getElem_cons hlt]; rfl

theorem loadX_cell {b o : Nat} {cs : List Value} {e : TypeId} {m : Nat} (hc : isC E t = true) (hg : h.get b = some (.cells cs e m)) (hv : cs[o]? = some v) : loadX E t ⟨b, o, none⟩ h = some v := by
  obtain ⟨e, he, ha⟩ := isC_und hc
  have hlt := (List.getElem?_eq_some_iff.1 hv).1
  have : Nat.ble (o + 1) cs.length = true := (ble_iff _ _).2 hlt
  simp only [loadX, he, ha, rowOf, hg, this, cond_true, take_drop_one hv]

theorem o_load {b o : Nat} {cs : List Value} {e : TypeId} {m : Nat} (g : Gd ops l gg) (hd : Nat.blt d nt = true) (hx : evl l x = some (.pointer (some ⟨b, o, none⟩))) (hc : isC E t = true)
    (hg : h.get b = some (.cells cs e m)) (hv : cs[o]? = some v) (q : WL E fn nt dr ops fin rest ((d, v) :: l) h R) :
    WL E fn nt dr ops fin ((⟨some d, .load t x, ty, pos, af, gg⟩, lt) :: rest) l h R :=
  wl_read g rfl (fun _ ag => by simp only [readX, ag.ev hx, loadX_cell hc hg hv]) (wn hd) q

theorem loadX_agg {b o n : Nat} {cs : List Value} {e : TypeId} {m : Nat} (hc : isA E t = true) (hn : E.size t = some n) (hg : h.get b = some (.cells cs e m)) (hv : o + n ≤ cs.length) :
    loadX E t ⟨b, o, none⟩ h = some (.agg ((cs.drop o).take n).toArray) := by
  obtain ⟨e, he, ha⟩ := isA_und hc
  have : Nat.ble (o + n) cs.length = true := (ble_iff _ _).2 hv
  simp only [loadX, he, ha, hn, rowOf, hg, this, cond_true]

theorem o_loadA {b o n : Nat} {cs : List Value} {e : TypeId} {m : Nat} (g : Gd ops l gg) (hd : Nat.blt d nt = true) (hx : evl l x = some (.pointer (some ⟨b, o, none⟩))) (hc : isA E t = true) (hn : E.size t = some n)
    (hg : h.get b = some (.cells cs e m)) (hv : o + n ≤ cs.length) (q : WL E fn nt dr ops fin rest ((d, .agg ((cs.drop o).take n).toArray) :: l) h R) :
    WL E fn nt dr ops fin ((⟨some d, .load t x, ty, pos, af, gg⟩, lt) :: rest) l h R :=
  wl_read g rfl (fun _ ag => by simp only [readX, ag.ev hx, loadX_agg hc hn hg hv]) (wn hd) q

/-- A load that is made again. -/
theorem ag_load {b o : Nat} {cs : List Value} {e : TypeId} {m : Nat} (g : Gd ops l gg) (hx : evl l x = some (.pointer (some ⟨b, o, none⟩))) (hc : isC E t = true)
    (hg : h.get b = some (.cells cs e m)) (hv : cs[o]? = some v) (hl : lk l d = some v) (hs : sameV 20 v v = true) : Again E ops l h ⟨some d, .load t x, ty, pos, af, gg⟩ :=
  .inr ⟨g, v, d, rfl, hl, hs, fun _ ag => by simp only [readX, ag.ev hx, loadX_cell hc hg hv]⟩
theorem ag_len {a : Option Addr} {n c : Nat} (g : Gd ops l gg) (hx : evl l x = some (.slice a n c)) (hb : isS E t = true) (hl : lk l d = some (.int .i64 (n : Nat))) :
    Again E ops l h ⟨some d, .call ⟨.builtin .len, #[x], #[t]⟩, ty, pos, af, gg⟩ :=
  .inr ⟨g, _, d, rfl, hl, by simp [sameV, kindEq], fun _ ag => by
    obtain ⟨e, he⟩ := isS_und hb
    simp only [readX, List.map_cons, List.map_nil, ag.ev hx, lenX, he, someI_eq, List.getElem?_toArray, List.getElem?_cons_zero]⟩

theorem ag0 : ∀ q, q ∈ ([] : List Oper) → Again E ops l h q := fun q hq => by cases hq
theorem ag1 {q : Oper} {r : List Oper} (a : Again E ops l h q) (as : ∀ q, q ∈ r → Again E ops l h q) : ∀ p, p ∈ q :: r → Again E ops l h p := fun p hp => by
  rcases List.mem_cons.1 hp with rfl | hp
  · exact a
  exact as p hp

theorem same_int {k : IntKind} {n : Int} : sameV 20 (.int k n) (.int k n) = true := by simp [sameV, kindEq_refl]
theorem same_bool {b : Bool} : sameV 20 (.bool b) (.bool b) = true := by simp [sameV]
theorem same_slice {a : Option Addr} {n c : Nat} : sameV 20 (.slice a n c) (.slice a n c) = true := by cases a <;> simp [sameV]
/-! New blocks -/

theorem o_alloc {e : TypeId} {zv : Value} (g : Gd ops l gg) (hd : Nat.blt d nt = true) (hz : E.zero e = some zv)
    (q : WL E fn nt dr ops fin rest ((d, .pointer (some ⟨h.n, 0, none⟩)) :: l) (h.alloc (.cells zv.cells.toList e 0)) R) :
    WL E fn nt dr ops fin ((⟨some d, .alloc e, ty, pos, af, gg⟩, lt) :: rest) l h R :=
  wl_alloc (f := ptrTo) g rfl (fun _ _ => by simp only [allocX, hz, cellsObj]) (wn hd) q

theorem o_box {e : TypeId} (g : Gd ops l gg) (hd : Nat.blt d nt = true) (hx : evl l x = some v)
    (q : WL E fn nt dr ops fin rest ((d, .pointer (some ⟨h.n, 0, none⟩)) :: l) (h.alloc (.cells v.cells.toList e 0)) R) :
    WL E fn nt dr ops fin ((⟨some d, .box e x, ty, pos, af, gg⟩, lt) :: rest) l h R :=
  wl_alloc (f := ptrTo) g rfl (fun _ ag => by simp only [allocX, ag.ev hx, cellsObj]) (wn hd) q

def partsOf (E : Env) (t : TypeId) : Option (List (Nat × Nat)) := match E.und t with
  | some (.struct fs) => fs.toList.mapM fun f => (E.size f.type).map fun n => (f.offset, n)
  | _ => none

theorem evs_parts {tm : Tr Value} (ag : Ag tm l) : ∀ {ps : List (Nat × Operand)} {pv : List (Nat × Value)}, ps.map (fun p => (p.1, evl l p.2)) = pv.map (fun p => (p.1, some p.2)) →
    (ps.map fun (p : Nat × Operand) => (p.1, ev tm p.2)) = pv
  | [], [], _ => rfl
  | [], _ :: _, h => by simp at h
  | _ :: _, [], h => by simp at h
  | p :: ps, q :: pv, h => by
    simp only [List.map_cons, List.cons.injEq, Prod.mk.injEq] at h
    rw [List.map_cons, evs_parts ag h.2, ag.ev h.1.2, h.1.1]

theorem o_build {ps : Array (Nat × Operand)} {pl : List (Nat × Nat)} {zv : Value} {cs : Array Value} (pv : List (Nat × Value)) (g : Gd ops l gg) (hd : Nat.blt d nt = true) (hz : E.zero t = some zv)
    (hp : partsOf E t = some pl) (hv : ps.toList.map (fun p => (p.1, evl l p.2)) = pv.map (fun p => (p.1, some p.2))) (hf : Instr.fill (fun i => pl[i]?) zv.cells pv = some cs)
    (q : WL E fn nt dr ops fin rest ((d, .agg cs) :: l) h R) : WL E fn nt dr ops fin ((⟨some d, .build t ps, ty, pos, af, gg⟩, lt) :: rest) l h R :=
  wl_read g rfl (fun _ ag => by
    unfold partsOf at hp
    split at hp
    · rename_i fs hu
      simp only [readX, hz, hu, hp, evs_parts ag hv, hf]
    cases hp) (wn hd) q

theorem o_buildSlice {ps : Array (Nat × Operand)} {n : Nat} {e z : Nat} {zv : Value} {cs : Array Value} (pv : List (Nat × Value)) (g : Gd ops l gg) (hd : Nat.blt d nt = true) (hu : E.und t = some (.slice e)) (hs : E.size e = some (z + 1))
    (hz : E.zero e = some zv) (hn : (Nat.ble (n * (z + 1)) (2 ^ 24) && Nat.beq zv.cells.size (z + 1)) = true)
    (hv : ps.toList.map (fun p => (p.1, evl l p.2)) = pv.map (fun p => (p.1, some p.2))) (hf : Instr.fill (fun i => some (i * (z + 1), z + 1)) (repeatCells zv.cells.toList n).toArray pv = some cs)
    (q : WL E fn nt dr ops fin rest ((d, .slice (some ⟨h.n, 0, none⟩) n n) :: l) (h.alloc (.cells cs.toList e 0)) R) : WL E fn nt dr ops fin ((⟨some d, .buildSlice t n ps, ty, pos, af, gg⟩, lt) :: rest) l h R :=
  wl_alloc (f := fun i => .slice (some ⟨i, 0, none⟩) n n) g rfl (fun _ ag => by
    simp only [allocX, hu, hs, hz, hn, cond_true, evs_parts ag hv, hf, cellsObj]) (wn hd) q

/-! Stores -/

theorem set_eq {l : List Value} {o : Nat} {v : Value} (h : o < l.length) : l.take o ++ [v] ++ l.drop (o + 1) = l.set o v := by
  rw [List.set_eq_take_append_cons_drop]; simp [h]

theorem o_store {b o : Nat} {cs : List Value} {e : TypeId} {m : Nat} (g : Gd ops l gg) (hx : evl l x = some (.pointer (some ⟨b, o, none⟩))) (hy : evl l y = some v) (hc : cellV v = true) (ht : E.size t = some 1)
    (hg : h.get b = some (.cells cs e m)) (hm : m ≠ 1) (hv : o < cs.length) (ha : ∀ q, q ∈ lt → Again E ops l (h.put b (.cells (cs.set o v) e m)) q)
    (q : WL E fn nt dr ops fin rest l (h.put b (.cells (cs.set o v) e m)) R) :
    WL E fn nt dr ops fin ((⟨none, .store t x y, ty, pos, af, gg⟩, lt) :: rest) l h R := by
  refine wl_none g rfl (fun _ ag => ?_) wn0 ha q
  have hcell : v.cells = #[v] := by cases v <;> first | rfl | simp [cellV] at hc
  have e1 : Nat.ble (o + 1) cs.length = true := (ble_iff _ _).2 hv
  have e2 : Nat.beq m 1 = false := (beq_false _ _).2 hm
  simp only [writeX, ag.ev hx, ag.ev hy, storeX, ht, hcell, List.size_toArray, List.length_cons, List.length_nil, Nat.zero_add, Nat.beq_refl, List.all_cons, List.all_nil, hc, Bool.and_true, cond_true, storeRow, hg, e1, e2,
    Bool.not_false, set_eq hv]

theorem o_append {s w : Value} {t' : TypeId} (g : Gd ops l gg) (hd : Nat.blt d nt = true) (hx : evl l x = some s) (hy : evl l y = some w) (ha : appendX E h t t' s w = some (v, h'))
    (hag : ∀ q, q ∈ lt → Again E ops ((d, v) :: l) h' q)
    (q : WL E fn nt dr ops fin rest ((d, v) :: l) h' R) : WL E fn nt dr ops fin ((⟨some d, .call ⟨.builtin .append, #[x, y], #[t, t']⟩, ty, pos, af, gg⟩, lt) :: rest) l h R :=
  wl_value g rfl (fun _ ag => by
    simp only [writeX, resolveX, invokeX, List.getElem?_toArray, List.getElem?_cons_zero, List.getElem?_cons_succ, List.map_toArray, List.map_cons, List.map_nil, ag.ev hx, ag.ev hy, ha]) (wn hd) hag q

/-! Calls -/

def callOk (E : Env) (f : FuncId) : Bool := !E.ext f && (E.orc f).isNone && (E.sm f).isNone && match E.fn f with
  | some fn => fn.body.isSome && !(fn.name == "runtime.NumGoroutine")
  | none => false
def orcOk (E : Env) (f : FuncId) : Bool := !E.ext f && match E.fn f with
  | some fn => fn.body.isSome && !(fn.name == "runtime.NumGoroutine")
  | none => false

theorem evs_args {tm : Tr Value} (ag : Ag tm l) : ∀ {ps : List Operand} {pv : List Value}, ps.map (evl l) = pv.map some → ps.map (ev tm) = pv
  | [], [], _ => rfl
  | [], _ :: _, h => by simp at h
  | _ :: _, [], h => by simp at h
  | p :: ps, q :: pv, h => by
    simp only [List.map_cons, List.cons.injEq] at h
    rw [List.map_cons, evs_args ag h.2, ag.ev h.1]

theorem writeX_call {tm : Tr Value} {f : FuncId} {args : Array Operand} {as : Array TypeId} {vs : List Value} {first cap : Array Value} (ag : Ag tm l) (hf : evl l x = some (.func (.func f) first cap)) (hv : args.toList.map (evl l) = vs.map some)
    (ho : E.ext f = false) (hfn : (match E.fn f with | some fn => fn.body.isSome && !(fn.name == "runtime.NumGoroutine") | none => false) = true) :
    ∃ as', as'.toList = first.toList ++ vs ++ cap.toList ∧ writeX E tm ⟨some d, .call ⟨.value x, args, as⟩, ty, pos, af, gg⟩ h = some (.enter f as') := by
  refine ⟨(first ++ args.map (ev tm)) ++ cap, by simp [evs_args ag hv], ?_⟩
  simp only [writeX, resolveX, ag.ev hf, invokeX, callFnX, ho, cond_false]
  revert hfn
  cases E.fn f with
  | none => intro hfn; cases hfn
  | some fn => intro hfn; simp only at hfn; simp only [hfn, cond_true]

theorem o_call {f : FuncId} {args : Array Operand} {as : Array TypeId} (vs : List Value) {first cap : Array Value} (g : Gd ops l gg) (hd : Nat.blt d nt = true) (hf : evl l x = some (.func (.func f) first cap)) (ho : callOk E f = true) (hv : args.toList.map (evl l) = vs.map some)
    (q : C E f (first.toList ++ vs ++ cap.toList) h fun v h' => (∀ q, q ∈ lt → Again E ops ((d, v) :: l) h' q) ∧ WL E fn nt dr ops fin rest ((d, v) :: l) h' R) :
    WL E fn nt dr ops fin ((⟨some d, .call ⟨.value x, args, as⟩, ty, pos, af, gg⟩, lt) :: rest) l h R := by
  simp only [callOk, Bool.and_eq_true, Bool.not_eq_true', Option.isNone_iff_eq_none] at ho
  exact wl_enter g rfl ho.1.1.2 ho.1.2 (fun _ ag => writeX_call ag hf hv ho.1.1.1 ho.2) (q.mono fun v h' q => ⟨_, wn hd, q.1, q.2⟩)

/-- A call of a function that is not gone through. -/
theorem o_sm {f : FuncId} {args : Array Operand} {as : Array TypeId} (vs : List Value) {first cap : Array Value} {F : List Value → Hp → Option (Value × Hp)} (g : Gd ops l gg) (hd : Nat.blt d nt = true) (hf : evl l x = some (.func (.func f) first cap)) (ho : orcOk E f = true) (hn : E.orc f = none) (hs : E.sm f = some F) (hv : args.toList.map (evl l) = vs.map some)
    (hF : F (first.toList ++ vs ++ cap.toList) h = some (v, h')) (hk : KD h h') (ha : ∀ q, q ∈ lt → Again E ops ((d, v) :: l) h' q)
    (q : WL E fn nt dr ops fin rest ((d, v) :: l) h' R) :
    WL E fn nt dr ops fin ((⟨some d, .call ⟨.value x, args, as⟩, ty, pos, af, gg⟩, lt) :: rest) l h R := by
  simp only [orcOk, Bool.and_eq_true, Bool.not_eq_true'] at ho
  exact wl_sm g rfl hn hs (fun _ ag => writeX_call ag hf hv ho.1 ho.2) hF hk (wn hd) ha q

/-! 'a || b', 'a && b' -/

def disj : List Nat → List Nat → Bool
  | [], _ => true
  | a :: r, l => !memN a l && disj r l

/-- All operations are unwanted, if temporary `dc` is not `w`. -/
def skOk (nt : Nat) (ops : Array Oper) (dc : Nat) (w : Bool) (keys : List Nat) : List Nat → List (Oper × List Oper) → Bool
  | _, [] => true
  | done, (o, _) :: r => (match o.dst with
      | some d => Nat.blt d nt && !memN d keys && !memN d done &&
        (match o.guard with
         | some (i, w') => (match (pk ops.toList i).dst with
           | some e => Nat.blt i ops.size && ((Nat.beq e dc && (w == w')) || memN e done)
           | none => false)
         | none => false) && skOk nt ops dc w keys (d :: done) r
      | none => false)

theorem lk_mem : ∀ (l : Kn) (t : Nat) (v : Value), lk l t = some v → t ∈ l.map (·.1)
  | [], _, _, h => by simp [lk] at h
  | (k, u) :: r, t, v, h => by
    rw [lk_cons] at h
    split at h
    · rename_i e; subst e; simp
    exact List.mem_cons_of_mem _ (lk_mem r t v h)

theorem lk_append : ∀ (p l : Kn) (t : Nat), t ∉ p.map (·.1) → lk (p ++ l) t = lk l t
  | [], _, _, _ => rfl
  | (k, u) :: r, l, t, h => by
    rw [List.cons_append, lk_cons, if_neg (fun e => h (by simp [e])), lk_append r l t (fun m => h (List.mem_cons_of_mem _ m))]

theorem Ag.split {tm : Tr Value} {p : Kn} (a : Ag tm (p ++ l)) (hd : ∀ t, t ∈ p.map (·.1) → t ∉ l.map (·.1)) : Ag tm l := fun t v h =>
  a t v (by rw [lk_append _ _ _ fun m => hd t m (lk_mem _ _ _ h)]; exact h)

theorem disj_iff : ∀ (a l : List Nat), disj a l = true → ∀ t, t ∈ a → t ∉ l
  | [], _, _, t, h => by simp at h
  | k :: r, l, hd, t, h => by
    simp only [disj, Bool.and_eq_true, Bool.not_eq_true', memN_false] at hd
    rcases List.mem_cons.1 h with rfl | h
    · exact hd.1
    exact disj_iff r l hd.2 t h

/-- All of a row is passed by. -/
theorem sk_all {dc : Nat} {w b : Bool} (hb : lk l dc = some (.bool b)) (hw : b = !w) {its : List (Oper × List Oper)} : ∀ (seg : List (Oper × List Oper)) (done : List Nat) (p : Kn), p.map (·.1) = done → (∀ t v, (t, v) ∈ p → v = undef) →
    dc ∉ done → (∀ t, t ∈ done → t ∉ l.map (·.1)) → skOk nt ops dc w (l.map (·.1)) done seg = true → (∀ p', (∀ t, t ∈ p'.map (·.1) → t ∉ l.map (·.1)) → WL E fn nt dr ops fin its (p' ++ l) h R) → WL E fn nt dr ops fin (seg ++ its) (p ++ l) h R
  | [], done, p, hp, hu, hn, hd, hs, q => q p (hp ▸ hd)
  | (o, lt) :: r, done, p, hp, hu, hn, hd, hs, q => by
    unfold skOk at hs
    cases ho : o.dst with
    | none => rw [ho] at hs; cases hs
    | some d =>
      rw [ho] at hs
      simp only [Bool.and_eq_true, Bool.not_eq_true', memN_false] at hs
      obtain ⟨⟨⟨⟨h1, h2⟩, h3⟩, h4⟩, h5⟩ := hs
      have hdcl : dc ∈ l.map (·.1) := lk_mem _ _ _ hb
      have hmem : ∀ e, e ∈ done → ∃ v, (e, v) ∈ p := fun e he => by
        rw [← hp] at he
        obtain ⟨⟨a, b⟩, h6, h7⟩ := List.mem_map.1 he
        exact ⟨b, by rw [← h7]; exact h6⟩
      have hund : ∀ (p : Kn) (e : Nat), (∀ t v, (t, v) ∈ p → v = undef) → e ∈ p.map (·.1) → lk (p ++ l) e = some undef := by
        intro p
        induction p with
        | nil => intro e _ he; simp at he
        | cons x p ih =>
          intro e hu he
          obtain ⟨k, u⟩ := x
          rw [List.cons_append, lk_cons]
          by_cases ek : k = e
          · rw [if_pos ek, hu k u (by simp)]
          rw [if_neg ek]
          refine ih e (fun t v h => hu t v (by simp [h])) ?_
          simp at he
          rcases he with he | he
          · exact absurd he.symm ek
          simpa using he
      have hng : Ng ops (p ++ l) o.guard := by
        cases hg : o.guard with
        | none => rw [hg] at h4; cases h4
        | some gw =>
          obtain ⟨i, w'⟩ := gw
          rw [hg] at h4
          simp only at h4
          cases hpk : (pk ops.toList i).dst with
          | none => rw [hpk] at h4; cases h4
          | some e =>
            rw [hpk] at h4
            simp only [Bool.and_eq_true, Bool.or_eq_true, beq_iff, memN_iff, beq_iff_eq] at h4
            obtain ⟨h6, h7⟩ := h4
            rcases h7 with ⟨rfl, rfl⟩ | h7
            · exact ng (b := b) hpk h6 (by rw [lk_append _ _ _ (hp ▸ hn)]; exact hb) hw
            exact ngu hpk h6 (hund p e hu (hp ▸ h7))
      refine wl_skip hng (l' := (d, undef) :: (p ++ l)) (by rw [ho]; exact wn h1) ?_
      refine sk_all hb hw r (d :: done) ((d, undef) :: p) (by simp [hp]) (fun t v h => ?_) (fun h => ?_) (fun t ht => ?_) h5 q
      · rcases List.mem_cons.1 h with h | h
        · cases h; rfl
        exact hu t v h
      · rcases List.mem_cons.1 h with h | h
        · subst h; exact h2 hdcl
        exact hn h
      rcases List.mem_cons.1 ht with h | h
      · subst h; exact h2
      exact hd t h

theorem o_or {dc tb n : Nat} {b B : Bool} {its : List (Oper × List Oper)} (hb : lk l dc = some (.bool b)) (hsk : skOk nt ops dc false (l.map (·.1)) [] (its.take n) = true)
    (hp : its.drop n = (⟨some d, .pick (.tmp dc) (.const (.bool true)) (.tmp tb), ty, pos, af, gg⟩, lt) :: rest) (g : Gd ops l gg) (hd : Nat.blt d nt = true)
    (q1 : b = false → WL E fn nt dr ops (its.drop n) its l h fun l1 h1 => h1 = h ∧ lk l1 tb = some (.bool B) ∧ ∃ k, l1.drop k = l ∧ disj ((l1.take k).map (·.1)) (l.map (·.1)) = true)
    (q : WL E fn nt dr ops fin rest ((d, .bool (b || B)) :: l) h R) : WL E fn nt dr ops fin its l h R := by
  cases b with
  | false =>
    refine wl_cut ((q1 rfl).mono fun l1 h1 ⟨e1, e2, k, e3, e4⟩ => ?_)
    subst e1
    have hlk : ∀ t v, lk l t = some v → lk l1 t = some v := fun t v e => by
      rw [← List.take_append_drop k l1, e3, lk_append _ _ _ (fun m => disj_iff _ _ e4 t m (lk_mem _ _ _ e))]; exact e
    rw [hp]
    have g' : Gd ops l1 gg := by
      unfold Gd at g ⊢
      cases gg with
      | none => trivial
      | some x => obtain ⟨og, d, a1, a2, a3⟩ := g; exact ⟨og, d, a1, a2, hlk _ _ a3⟩
    refine o_pickf (v := .bool B) g' hd (hlk dc _ hb) rfl e2 ?_
    intro todo hr tm ag
    refine q todo hr tm fun t v e => ?_
    rw [lk_cons] at e
    by_cases hdt : d = t
    · rw [if_pos hdt] at e; exact ag t v (by rw [lk_cons, if_pos hdt]; exact e)
    rw [if_neg hdt] at e; exact ag t v (by rw [lk_cons, if_neg hdt]; exact hlk _ _ e)
  | true =>
    rw [← List.take_append_drop n its]
    refine sk_all (p := []) hb rfl (its.take n) [] rfl (fun _ _ h => by simp at h) (by simp) (fun _ h => by simp at h) hsk fun p' hp' => ?_
    rw [hp]
    have hlk : ∀ t v, lk l t = some v → lk (p' ++ l) t = some v := fun t v e => by
      rw [lk_append _ _ _ (fun m => hp' t m (lk_mem _ _ _ e))]; exact e
    have g' : Gd ops (p' ++ l) gg := by
      unfold Gd at g ⊢
      cases gg with
      | none => trivial
      | some x => obtain ⟨og, d, a1, a2, a3⟩ := g; exact ⟨og, d, a1, a2, hlk _ _ a3⟩
    refine o_pickt (v := .bool true) g' hd (hlk dc _ hb) rfl rfl ?_
    intro todo hr tm ag
    refine q todo hr tm fun t v e => ?_
    rw [lk_cons] at e
    by_cases hdt : d = t
    · rw [if_pos hdt] at e; exact ag t v (by rw [lk_cons, if_pos hdt]; exact e)
    rw [if_neg hdt] at e; exact ag t v (by rw [lk_cons, if_neg hdt]; exact hlk _ _ e)

theorem o_and {dc tb n : Nat} {b B : Bool} {its : List (Oper × List Oper)} (hb : lk l dc = some (.bool b)) (hsk : skOk nt ops dc true (l.map (·.1)) [] (its.take n) = true)
    (hp : its.drop n = (⟨some d, .pick (.tmp dc) (.tmp tb) (.const (.bool false)), ty, pos, af, gg⟩, lt) :: rest) (g : Gd ops l gg) (hd : Nat.blt d nt = true)
    (q1 : b = true → WL E fn nt dr ops (its.drop n) its l h fun l1 h1 => h1 = h ∧ lk l1 tb = some (.bool B) ∧ ∃ k, l1.drop k = l ∧ disj ((l1.take k).map (·.1)) (l.map (·.1)) = true)
    (q : WL E fn nt dr ops fin rest ((d, .bool (b && B)) :: l) h R) : WL E fn nt dr ops fin its l h R := by
  cases b with
  | true =>
    refine wl_cut ((q1 rfl).mono fun l1 h1 ⟨e1, e2, k, e3, e4⟩ => ?_)
    subst e1
    have hlk : ∀ t v, lk l t = some v → lk l1 t = some v := fun t v e => by
      rw [← List.take_append_drop k l1, e3, lk_append _ _ _ (fun m => disj_iff _ _ e4 t m (lk_mem _ _ _ e))]; exact e
    rw [hp]
    have g' : Gd ops l1 gg := by
      unfold Gd at g ⊢
      cases gg with
      | none => trivial
      | some x => obtain ⟨og, d, a1, a2, a3⟩ := g; exact ⟨og, d, a1, a2, hlk _ _ a3⟩
    refine o_pickt (v := .bool B) g' hd (hlk dc _ hb) rfl e2 ?_
    intro todo hr tm ag
    refine q todo hr tm fun t v e => ?_
    rw [lk_cons] at e
    by_cases hdt : d = t
    · rw [if_pos hdt] at e; exact ag t v (by rw [lk_cons, if_pos hdt]; exact e)
    rw [if_neg hdt] at e; exact ag t v (by rw [lk_cons, if_neg hdt]; exact hlk _ _ e)
  | false =>
    rw [← List.take_append_drop n its]
    refine sk_all (p := []) hb rfl (its.take n) [] rfl (fun _ _ h => by simp at h) (by simp) (fun _ h => by simp at h) hsk fun p' hp' => ?_
    rw [hp]
    have hlk : ∀ t v, lk l t = some v → lk (p' ++ l) t = some v := fun t v e => by
      rw [lk_append _ _ _ (fun m => hp' t m (lk_mem _ _ _ e))]; exact e
    have g' : Gd ops (p' ++ l) gg := by
      unfold Gd at g ⊢
      cases gg with
      | none => trivial
      | some x => obtain ⟨og, d, a1, a2, a3⟩ := g; exact ⟨og, d, a1, a2, hlk _ _ a3⟩
    refine o_pickf (v := .bool false) g' hd (hlk dc _ hb) rfl rfl ?_
    intro todo hr tm ag
    refine q todo hr tm fun t v e => ?_
    rw [lk_cons] at e
    by_cases hdt : d = t
    · rw [if_pos hdt] at e; exact ag t v (by rw [lk_cons, if_pos hdt]; exact e)
    rw [if_neg hdt] at e; exact ag t v (by rw [lk_cons, if_neg hdt]; exact hlk _ _ e)

/-- By a bool's two cases. -/
theorem wl_split {dc : Nat} {b : Bool} {its : List (Oper × List Oper)} (_hb : lk l dc = some (.bool b)) (q1 : b = true → WL E fn nt dr ops fin its l h R) (q2 : b = false → WL E fn nt dr ops fin its l h R) : WL E fn nt dr ops fin its l h R := by
  cases b with
  | true => exact q1 rfl
  | false => exact q2 rfl

/-- Some operations that are passed by. -/
theorem wl_skips {dc n : Nat} {w b : Bool} {its : List (Oper × List Oper)} (hb : lk l dc = some (.bool b)) (hw : b = !w) (hsk : skOk nt ops dc w (l.map (·.1)) [] (its.take n) = true)
    (q : WL E fn nt dr ops fin (its.drop n) l h R) : WL E fn nt dr ops fin its l h R := by
  rw [← List.take_append_drop n its]
  refine sk_all (p := []) hb hw (its.take n) [] rfl (fun _ _ h => by simp at h) (by simp) (fun _ h => by simp at h) hsk fun p' hp' => ?_
  intro todo hr tm ag
  exact q todo hr tm (ag.split hp')

end

end Go.X

namespace Go.X

section
variable {E : Env} {fn : FuncId} {nt : Nat} {l l' : Kn} {h h' : Hp} {Q : Out → Kn → Hp → Prop}

theorem blk_eq {id : Nat} (q : Q .next l h) : Blk id Q (.exit id) l h := by
  show if id = id then Q .next l h else Q (.exit id) l h
  rw [if_pos rfl]; exact q
theorem thn_exit {b : Code} {i : Nat} (q : Q (.exit i) l h) : Thn E fn nt b Q (.exit i) l h := q
theorem rnd_exit {I : Nat → Kn → Hp → Prop} {n i : Nat} (q : Q (.exit i) l h) : Rnd I n Q (.exit i) l h := q

theorem w_weak {c : Code} (l' : Kn) (s : Sub l' l) (q : W E fn nt c l' h Q) : W E fn nt c l h Q := T.weak s q

/-- A call that leaves the memory as it is. -/
def CP (E : Env) (f : FuncId) (args : List Value) (h : Hp) (v : Value) : Prop := C E f args h fun v' h' => v' = v ∧ h' = h

theorem c_pure {f : FuncId} {args : List Value} {v : Value} {P : Value → Hp → Prop} (c : CP E f args h v) (p : P v h) : C E f args h P := C.mono c fun _ _ ⟨e1, e2⟩ => by subst e1; subst e2; exact p

end

/-- Memory that has grown: what lay there lies there. -/
structure Ext (h h' : Hp) : Prop where
  n : h.n ≤ h'.n
  get : ∀ i, i < h.n → h'.get i = h.get i

/-- The same but for some blocks. -/
structure ExtB (bs : List Nat) (h h' : Hp) : Prop where
  n : h.n ≤ h'.n
  get : ∀ i, i < h.n → i ∉ bs → h'.get i = h.get i

theorem Ext.refl (h : Hp) : Ext h h := ⟨Nat.le_refl _, fun _ _ => rfl⟩
theorem Ext.trans {a b c : Hp} (x : Ext a b) (y : Ext b c) : Ext a c := ⟨Nat.le_trans x.n y.n, fun i hi => (y.get i (Nat.lt_of_lt_of_le hi x.n)).trans (x.get i hi)⟩
theorem Ext.alloc (h : Hp) (o : AObj) : Ext h (h.alloc o) := ⟨by rw [Hp.n_alloc]; omega, fun i hi => by rw [Hp.get_alloc, if_neg (by omega)]⟩
theorem Ext.b {h h' : Hp} (x : Ext h h') (bs : List Nat) : ExtB bs h h' := ⟨x.n, fun i hi _ => x.get i hi⟩
theorem ExtB.refl (bs : List Nat) (h : Hp) : ExtB bs h h := ⟨Nat.le_refl _, fun _ _ _ => rfl⟩
theorem ExtB.trans {bs : List Nat} {a b c : Hp} (x : ExtB bs a b) (y : ExtB bs b c) : ExtB bs a c :=
  ⟨Nat.le_trans x.n y.n, fun i hi hb => (y.get i (Nat.lt_of_lt_of_le hi x.n) hb).trans (x.get i hi hb)⟩
theorem ExtB.mono {as bs : List Nat} {h h' : Hp} (x : ExtB as h h') (s : ∀ i, i ∈ as → i < h.n → i ∈ bs) : ExtB bs h h' := ⟨x.n, fun i hi hb => x.get i hi fun ha => hb (s i ha hi)⟩
theorem ExtB.put (h : Hp) (b : Nat) (o : AObj) : ExtB [b] h (h.put b o) := ⟨by rw [Hp.n_put]; omega, fun i hi hb => by rw [Hp.get_put, if_neg (fun e => hb (by simp [e]))]⟩
theorem ExtB.nil {h h' : Hp} (x : ExtB [] h h') : Ext h h' := ⟨x.n, fun i hi => x.get i hi (by simp)⟩

theorem Hp.get_alloc_self (h : Hp) (o : AObj) : (h.alloc o).get h.n = some o := by rw [Hp.get_alloc, if_pos rfl]
theorem Hp.get_put_self (h : Hp) (b : Nat) (o : AObj) : (h.put b o).get b = some o := by rw [Hp.get_put, if_pos rfl]

/-- A slice, elements of one cell, that fills its block: its items, its block (none: nil). -/
def Sl (e : TypeId) (h : Hp) (s : Value) (vs : List Value) (bs : List Nat) : Prop :=
  (s = .slice none 0 0 ∧ vs = [] ∧ bs = []) ∨ ∃ b m, s = .slice (some ⟨b, 0, none⟩) vs.length vs.length ∧ h.get b = some (.cells vs e m) ∧ (m = 0 ∨ m = 3) ∧ b < h.n ∧ bs = [b]

theorem Sl.keep {e : TypeId} {h h' : Hp} {s : Value} {vs : List Value} {bs cs : List Nat} (x : Sl e h s vs bs) (g : ExtB cs h h') (hd : ∀ i, i ∈ bs → i ∉ cs) : Sl e h' s vs bs := by
  rcases x with x | ⟨b, m, h1, h2, h3, h4, rfl⟩
  · exact .inl x
  exact .inr ⟨b, m, h1, by rw [g.get b h4 (hd b (by simp))]; exact h2, h3, Nat.lt_of_lt_of_le h4 g.n, rfl⟩

theorem Sl.ext {e : TypeId} {h h' : Hp} {s : Value} {vs : List Value} {bs : List Nat} (x : Sl e h s vs bs) (g : Ext h h') : Sl e h' s vs bs := x.keep (g.b []) (by simp)

theorem Sl.lt {e : TypeId} {h : Hp} {s : Value} {vs : List Value} {bs : List Nat} (x : Sl e h s vs bs) : ∀ i, i ∈ bs → i < h.n := by
  rcases x with ⟨_, _, rfl⟩ | ⟨b, m, h1, h2, h3, h4, rfl⟩ <;> simp
  exact h4

/-- A slice that is of some length has a block. -/
theorem Sl.at {e : TypeId} {h : Hp} {s : Value} {vs : List Value} {bs : List Nat} (x : Sl e h s vs bs) (hn : 0 < vs.length) :
    ∃ b m, s = .slice (some ⟨b, 0, none⟩) vs.length vs.length ∧ h.get b = some (.cells vs e m) ∧ (m = 0 ∨ m = 3) ∧ b < h.n ∧ bs = [b] := by
  rcases x with ⟨_, rfl, _⟩ | x
  · simp at hn
  exact x

/-- Its value. -/
theorem Sl.val {e : TypeId} {h : Hp} {s : Value} {vs : List Value} {bs : List Nat} (x : Sl e h s vs bs) : ∃ a, s = .slice a vs.length vs.length := by
  rcases x with ⟨rfl, rfl, _⟩ | ⟨b, m, rfl, _⟩
  · exact ⟨none, rfl⟩
  exact ⟨_, rfl⟩

theorem Sl.new {h : Hp} {e : TypeId} {vs : List Value} {m : Nat} (hm : m = 0 ∨ m = 3) : Sl e (h.alloc (.cells vs e m)) (.slice (some ⟨h.n, 0, none⟩) vs.length vs.length) vs [h.n] :=
  .inr ⟨_, m, rfl, Hp.get_alloc_self _ _, hm, by rw [Hp.n_alloc]; omega, rfl⟩

theorem Sl.put {e : TypeId} {h : Hp} {b m n : Nat} {vs : List Value} (hn : n = vs.length) (hm : m = 0 ∨ m = 3) (hb : b < h.n) : Sl e (h.put b (.cells vs e m)) (.slice (some ⟨b, 0, none⟩) n n) vs [b] :=
  .inr ⟨b, m, by rw [hn], Hp.get_put_self _ _ _, hm, by rw [Hp.n_put]; exact hb, rfl⟩

/-! append -/

section
variable {E : Env} {h : Hp} {t e : TypeId} {by' : Nat}

/-- Elements of one cell, of so many bytes. -/
structure El (E : Env) (t e by' : Nat) : Prop where
  und : E.und t = some (.slice e)
  size : E.size e = some 1
  bytes : E.bytes e = some (by' + 1)
  zero : ∃ zv, E.zero e = some zv ∧ zv.cells.size = 1

theorem El.growX {E : Env} {t e by' : Nat} (x : El E t e by') (h : Hp) (n : Nat) (old xs : List Value) (hn : n * (by' + 1) ≤ 1099511627776) :
    growX E h e 1 (by' + 1) n old xs = some (.slice (some ⟨h.n, 0, none⟩) n n, h.alloc (.cells (old ++ xs) e 3)) := by
  obtain ⟨zv, hz, hs⟩ := x.zero
  have : Nat.ble (n * (by' + 1)) (2 ^ 40) = true := (ble_iff _ _).2 (by omega)
  simp only [Go.X.growX, hz, hs, this, Nat.beq_refl, Bool.true_or, Bool.and_true, cond_true]

/-- What is appended: some other slice's items, wherever they lie. -/
structure Src (h : Hp) (s : Value) (xs : List Value) : Prop where
  len : lenOfX s = some xs.length
  first : firstX h 1 xs.length s = some xs
  cell : xs.all cellV = true
  lt : ∀ a n c, s = .slice (some a) n c → a.block < h.n

theorem Src.keep {h h' : Hp} {s : Value} {xs : List Value} {cs : List Nat} (x : Src h s xs) (g : ExtB cs h h') (hd : ∀ a n c, s = .slice (some a) n c → a.block ∉ cs) : Src h' s xs := by
  refine ⟨x.len, ?_, x.cell, fun a n c e => Nat.lt_of_lt_of_le (x.lt a n c e) g.n⟩
  have h1 := x.first
  cases s with
  | slice a n c =>
    cases a with
    | none => exact h1
    | some a =>
      have hg := g.get _ (x.lt a n c rfl) (hd a n c rfl)
      simp only [firstX, rowOf, hg] at h1 ⊢
      exact h1
  | string b => exact h1
  | _ => simp [firstX] at h1

theorem Src.ext {h h' : Hp} {s : Value} {xs : List Value} (x : Src h s xs) (g : Ext h h') : Src h' s xs := x.keep (g.b []) (by simp)

/-- What nil is made of. -/
theorem Src.nil {h : Hp} {xs : List Value} {n c : Nat} (x : Src h (.slice none n c) xs) : xs = [] := by
  have h1 := x.first
  have h2 := x.len
  simp only [lenOfX, Option.some.injEq] at h2
  simp only [firstX] at h1
  cases hb : (Nat.ble xs.length n && Nat.beq n 0) with
  | false => rw [hb, cond_false] at h1; cases h1
  | true => rw [hb, cond_true, Option.some.injEq] at h1; exact h1.symm

theorem Src.len' {h : Hp} {xs : List Value} {a : Option Addr} {n c : Nat} (x : Src h (.slice a n c) xs) : n = xs.length := by
  have h2 := x.len
  simpa [lenOfX] using h2

/-- Where its items lie. -/
theorem Src.at {h : Hp} {xs : List Value} {a : Option Addr} {n c : Nat} (x : Src h (.slice a n c) xs) (hn : 0 < xs.length) :
    ∃ b o cs e m, a = some ⟨b, o, none⟩ ∧ h.get b = some (.cells cs e m) ∧ b < h.n ∧ o + xs.length ≤ cs.length ∧ ∀ i, i < xs.length → cs[o + i]? = xs[i]? := by
  have h1 := x.first
  cases a with
  | none => rw [x.nil] at hn; simp at hn
  | some a =>
    obtain ⟨b, o, sp⟩ := a
    have hlt := x.lt _ _ _ rfl
    have hl := x.len'
    subst hl
    have e1 : Nat.ble xs.length xs.length = true := (ble_iff _ _).2 (Nat.le_refl _)
    have e0 : Nat.beq xs.length 0 = false := (beq_false _ _).2 (by omega)
    simp only [firstX, e1, cond_true, e0, cond_false, rowOf, Nat.mul_one] at h1
    cases sp with
    | some s => cases h1
    | none =>
      simp only at h1
      split at h1
      · rename_i cs e m hg
        cases hb : Nat.ble (o + xs.length) cs.length with
        | false => rw [hb, cond_false] at h1; cases h1
        | true =>
          rw [hb, cond_true, Option.some.injEq] at h1
          have hb' := (ble_iff _ _).1 hb
          refine ⟨b, o, cs, e, m, rfl, hg, hlt, hb', fun i hi => ?_⟩
          rw [← List.getElem?_drop, ← List.getElem?_take_of_lt hi, h1]
      cases h1

theorem Sl.src {h : Hp} {s : Value} {vs : List Value} {bs : List Nat} (x : Sl e h s vs bs) (hc : vs.all cellV = true) : Src h s vs := by
  rcases x with ⟨rfl, rfl, _⟩ | ⟨b, m, rfl, h2, h3, h4⟩
  · exact ⟨rfl, rfl, rfl, fun a n c e => by cases e⟩
  refine ⟨rfl, ?_, hc, fun a n c e => by cases e; exact h4.1⟩
  have e1 : Nat.ble vs.length vs.length = true := (ble_iff _ _).2 (Nat.le_refl _)
  have e2 : Nat.ble (0 + vs.length) vs.length = true := (ble_iff _ _).2 (by omega)
  have e3 : cond (Nat.beq vs.length 0) (some []) (some vs) = some vs := by
    cases vs with
    | nil => rfl
    | cons v r => rfl
  simp only [firstX, e1, cond_true, rowOf, h2, Nat.mul_one, e2, List.drop_zero, List.take_length, e3]

/-- append to a slice of one's own: its items behind the others; the elder block is gone. -/
theorem append_own {s w : Value} {vs xs : List Value} {bs : List Nat} (x : El E t e by') (hs : Sl e h s vs bs) (hx : Src h w xs) (hn : (vs.length + xs.length) * (by' + 1) ≤ 1099511627776) :
    ∃ v' h' bs', appendX E h t t s w = some (v', h') ∧ Sl e h' v' (vs ++ xs) bs' ∧ ExtB bs h h' ∧ (∀ i, i ∈ bs' → i ∈ bs ∨ (i = h.n)) := by
  have hgo := x.growX
  rcases hs with ⟨rfl, rfl, rfl⟩ | ⟨b, m, rfl, hb, hm, hlt, rfl⟩
  · by_cases h0 : xs.length = 0
    · have : xs = [] := List.eq_nil_of_length_eq_zero h0
      subst this
      refine ⟨.slice none 0 0, h, [], ?_, .inl ⟨rfl, rfl, rfl⟩, .refl _ _, by simp⟩
      have h1 := hx.first
      simp only [appendX, x.und, hx.len, x.size, x.bytes, List.length_nil, Nat.beq_refl, cond_true] at h1 ⊢
      simp only [h1]
    refine ⟨.slice (some ⟨h.n, 0, none⟩) xs.length xs.length, h.alloc (.cells ([] ++ xs) e 3), [h.n], ?_, ?_, (Ext.alloc h _).b _, by simp⟩
    · have hb0 : Nat.beq xs.length 0 = false := (beq_false _ _).2 h0
      simp only [appendX, x.und, hx.len, x.size, x.bytes, hx.first, hb0, cond_false]
      exact hgo h xs.length [] xs (by simp at hn; omega)
    exact Sl.new (.inr rfl)
  by_cases h0 : xs.length = 0
  · have : xs = [] := List.eq_nil_of_length_eq_zero h0
    subst this
    refine ⟨.slice (some ⟨b, 0, none⟩) vs.length vs.length, h, [b], ?_, by rw [List.append_nil]; exact .inr ⟨b, m, rfl, hb, hm, hlt, rfl⟩, .refl _ _, by simp⟩
    have h1 := hx.first
    have e1 : Nat.ble vs.length vs.length = true := (ble_iff _ _).2 (Nat.le_refl _)
    simp only [appendX, x.und, hx.len, x.size, x.bytes, List.length_nil, Nat.beq_refl, cond_true] at h1 ⊢
    simp only [h1, modeOf, hb, e1, cond_true]
  have hb0 : Nat.beq xs.length 0 = false := (beq_false _ _).2 h0
  have e1 : Nat.ble (vs.length + xs.length) vs.length = false := by
    cases hc : Nat.ble (vs.length + xs.length) vs.length with
    | false => rfl
    | true => have := (ble_iff _ _).1 hc; omega
  have e2 : Nat.ble (0 + vs.length) vs.length = true := (ble_iff _ _).2 (by omega)
  have hrow : rowOf h ⟨b, 0, none⟩ (vs.length * 1) = some vs := by
    simp only [rowOf, hb, Nat.mul_one, e2, cond_true, List.drop_zero, List.take_length]
  rcases hm with rfl | rfl
  · refine ⟨.slice (some ⟨h.n, 0, none⟩) (vs.length + xs.length) (vs.length + xs.length), h.alloc (.cells (vs ++ xs) e 3), [h.n], ?_, ?_, (Ext.alloc h _).b _, by simp⟩
    · simp only [appendX, x.und, hx.len, x.size, x.bytes, hx.first, hb0, cond_false, e1, hrow, hb, hx.cell, cond_true]
      exact hgo h (vs.length + xs.length) vs xs hn
    have := Sl.new (h := h) (e := e) (vs := vs ++ xs) (m := 3) (.inr rfl)
    rwa [List.length_append] at this
  refine ⟨.slice (some ⟨h.n, 0, none⟩) (vs.length + xs.length) (vs.length + xs.length), (h.put b .dead).alloc (.cells (vs ++ xs) e 3), [h.n], ?_, ?_, ?_, by simp⟩
  · simp only [appendX, x.und, hx.len, x.size, x.bytes, hx.first, hb0, cond_false, e1, hrow, hb, hx.cell, cond_true, Nat.beq_refl, Bool.and_true]
    have := hgo (h.put b .dead) (vs.length + xs.length) vs xs hn
    rw [Hp.n_put] at this
    simpa [Nat.beq_refl] using this
  · have := Sl.new (h := h.put b .dead) (e := e) (vs := vs ++ xs) (m := 3) (.inr rfl)
    rw [List.length_append, Hp.n_put] at this
    exact this
  exact (ExtB.put h b .dead).trans ((Ext.alloc _ _).b _)

end

theorem append_nil {E : Env} {h : Hp} {t e by' : Nat} {w : Value} {xs : List Value} (x : El E t e by') (hx : Src h w xs) (hn : xs.length * (by' + 1) ≤ 1099511627776) :
    ∃ v' h' bs', appendX E h t t (.slice none 0 0) w = some (v', h') ∧ Sl e h' v' xs bs' ∧ Ext h h' ∧ ∀ i, i ∈ bs' → h.n ≤ i := by
  obtain ⟨v', h', bs', h1, h2, h3, h4⟩ := append_own (h := h) (vs := []) (bs := []) x (.inl ⟨rfl, rfl, rfl⟩) hx (by simpa using hn)
  refine ⟨v', h', bs', h1, by simpa using h2, h3.nil, fun i hi => ?_⟩
  rcases h4 i hi with h5 | h5
  · simp at h5
  omega

theorem bv {p q : Bool} (h : p = true ↔ q = true) : Value.bool p = Value.bool q := congrArg _ (Bool.eq_iff_iff.2 h)

end Go.X

namespace Go.X
open Go.RowKit Go.Sort

/-- One more than the block that a value leads to. -/
def refB : Value → Nat
  | .slice (some a) _ _ => a.block + 1
  | .pointer (some a) => a.block + 1
  | _ => 0
def maxB (l : List Value) : Nat := l.foldr (fun v n => max (refB v) n) 0
theorem maxB_mem : ∀ {l : List Value} {v : Value}, v ∈ l → refB v ≤ maxB l
  | u :: r, v, h => by
    show refB v ≤ max (refB u) (maxB r)
    rcases List.mem_cons.1 h with rfl | h
    · omega
    have := maxB_mem h; omega
def objB : Obj → Nat
  | .cells cs _ _ => maxB cs.toList
  | _ => 0
def heapB (l : List Obj) : Nat := l.foldr (fun o n => max (objB o) n) 0
theorem heapB_mem : ∀ {l : List Obj} {o : Obj}, o ∈ l → objB o ≤ heapB l
  | u :: r, v, h => by
    show objB v ≤ max (objB u) (heapB r)
    rcases List.mem_cons.1 h with rfl | h
    · omega
    have := heapB_mem h; omega
/-- X's numbers begin behind all that the memory's cells name. -/
def topB (w : World) : Nat := max (max w.heap.size 256) (heapB w.heap.toList)
theorem topB_size (w : World) : w.heap.size ≤ topB w := by unfold topB; omega
theorem topB_256 (w : World) : 256 ≤ topB w := by unfold topB; omega
theorem topB_cell {w : World} {a : Addr} {v : Value} (h : w.cell? a = some v) : refB v ≤ topB w := by
  unfold World.cell? at h
  split at h
  · rename_i c e fr hx
    split at h
    · cases h
    have h1 : Obj.cells c e fr ∈ w.heap.toList := by
      rw [← Array.mem_def]; exact Array.mem_of_getElem? hx
    have h2 := heapB_mem h1
    have h3 : v ∈ c.toList := by rw [← Array.mem_def]; exact Array.mem_of_getElem? h
    have h4 := maxB_mem h3
    simp only [objB] at h2
    unfold topB; omega
  cases h

/-- Every block lies where it lies. -/
def Mp.all (w : World) : Mp where
  ρ i := match w.heap[i]? with
    | some (.cells cs _ _) => some (i, 0, cs.size)
    | _ => Option.none
  K i := i < topB w
  md _ := 0

theorem all_rel (M : Mp) : ∀ v : Value, ∃ x, VRel M x v
  | .agg cs => by
    have h : ∀ i : Fin cs.size, ∃ x, VRel M x cs[i] := fun i => all_rel M cs[i]
    have hc := fun i => Classical.choose_spec (h i)
    refine ⟨.agg (Array.ofFn fun i => Classical.choose (h i)), .agg (by simp) fun i v w hv hw => ?_⟩
    simp only [Array.getElem?_toList, Array.getElem?_ofFn] at hv hw
    split at hv
    · rename_i hi
      cases hv
      rw [Array.getElem?_eq_getElem hi] at hw
      cases hw
      exact hc ⟨i, hi⟩
    cases hv
  | .tuple cs => by
    have h : ∀ i : Fin cs.size, ∃ x, VRel M x cs[i] := fun i => all_rel M cs[i]
    have hc := fun i => Classical.choose_spec (h i)
    refine ⟨.tuple (Array.ofFn fun i => Classical.choose (h i)), .tuple (by simp) fun i v w hv hw => ?_⟩
    simp only [Array.getElem?_toList, Array.getElem?_ofFn] at hv hw
    split at hv
    · rename_i hi
      cases hv
      rw [Array.getElem?_eq_getElem hi] at hw
      cases hw
      exact hc ⟨i, hi⟩
    cases hv
  | .bool b => ⟨_, .bool b⟩
  | .int k n => ⟨_, .int k n⟩
  | .float k n => ⟨_, .float k n⟩
  | .complex k a b => ⟨_, .complex k a b⟩
  | .string s => ⟨_, .string s⟩
  | .pointer a => ⟨_, .junk trivial⟩
  | .slice a n c => ⟨_, .junk trivial⟩
  | .map r => ⟨_, .junk trivial⟩
  | .chan r => ⟨_, .junk trivial⟩
  | .func f a b => ⟨_, .junk trivial⟩
  | .nilFunc => ⟨_, .nilFunc⟩
  | .iface t v => ⟨_, .junk trivial⟩
  | .nilIface => ⟨_, .nilIface⟩
termination_by v => SizeOf.sizeOf v
decreasing_by all_goals (simp_wf; have := Array.sizeOf_getElem cs i.1 i.2; omega)

open Classical in
/-- A value, as X has it: itself, where that may be. -/
noncomputable def selfX (M : Mp) (v : Value) : Value := if VRel M v v then v else Classical.choose (all_rel M v)

theorem selfX_rel (M : Mp) (v : Value) : VRel M (selfX M v) v := by
  unfold selfX
  split
  · assumption
  exact Classical.choose_spec (all_rel M v)

theorem selfX_eq {M : Mp} {v : Value} (h : VRel M v v) : selfX M v = v := by rw [selfX, if_pos h]

noncomputable def allObj (M : Mp) (w : World) (i : Nat) : Option AObj := match w.heap[i]? with
  | some (.cells cs e _) => some (.cells (cs.toList.map (selfX M)) e 1)
  | _ => Option.none

noncomputable def allT (M : Mp) (w : World) : Nat → Tr AObj
  | 0 => .leaf
  | n + 1 => match allObj M w n with
    | some o => (allT M w n).set (n + 1) n o
    | Option.none => allT M w n

theorem allT_get (M : Mp) (w : World) : ∀ n i, (allT M w n).get i = if i < n then allObj M w i else Option.none
  | 0, i => get_leaf i
  | n + 1, i => by
    unfold allT
    split
    · rename_i o ho
      rw [get_set _ _ _ _ _ (by omega), allT_get M w n i]
      by_cases h1 : n = i
      · subst h1; rw [if_pos rfl, if_pos (by omega), ho]
      rw [if_neg h1]
      by_cases h2 : i < n
      · rw [if_pos h2, if_pos (by omega)]
      rw [if_neg h2, if_neg (by omega)]
    rename_i ho
    rw [allT_get M w n i]
    by_cases h1 : n = i
    · subst h1; rw [if_neg (by omega), if_pos (by omega), ho]
    by_cases h2 : i < n
    · rw [if_pos h2, if_pos (by omega)]
    rw [if_neg h2, if_neg (by omega)]

/-- The memory, as X has it. -/
noncomputable def Hp.all (w : World) : Hp := ⟨allT (Mp.all w) w w.heap.size, topB w⟩

theorem Hp.all_get (w : World) (i : Nat) : (Hp.all w).get i = allObj (Mp.all w) w i := by
  show (allT (Mp.all w) w w.heap.size).get i = _
  rw [allT_get]
  split
  · rfl
  rename_i h
  unfold allObj
  rw [Array.getElem?_eq_none (by omega)]

theorem HRel.all (w : World) : HRel w (fun _ => False) (Mp.all w) (Hp.all w) w := by
  have hpl : ∀ i b δ S, (Mp.all w).ρ i = some (b, δ, S) → ∃ cs e fr, w.heap[i]? = some (.cells cs e fr) ∧ b = i ∧ δ = 0 ∧ S = cs.size := fun i b δ S h => by
    simp only [Mp.all] at h
    split at h
    · rename_i cs e fr hx
      cases h
      exact ⟨cs, e, fr, hx, rfl, rfl, rfl⟩
    cases h
  have hro : ∀ i b δ S, (Mp.all w).ρ i = some (b, δ, S) → RO (Hp.all w) i := fun i b δ S h => by
    obtain ⟨cs, e, fr, hx, _⟩ := hpl i b δ S h
    exact ⟨cs.toList.map (selfX (Mp.all w)), e, by rw [Hp.all_get, allObj, hx]⟩
  refine ⟨fun i b δ S h => ?_, fun i j b δ S δ' S' h _ => .inr (hro i b δ S h), fun i hi => hi, fun i hi => ?_, fun i _ h => ?_, rfl, ⟨rfl, fun _ => Nat.le_refl _⟩, rfl, Nat.le_refl _, fun b _ _ => rfl, fun i b δ S h _ => .inr (hro i b δ S h), fun i hi => ⟨?_, fun b δ S h => ?_⟩⟩
  · obtain ⟨cs, e, fr, hx, rfl, rfl, rfl⟩ := hpl i b δ S h
    have hlt := (Array.getElem?_eq_some_iff.1 hx).1
    refine ⟨show b < topB w by have := topB_size w; omega, .cells (cs.toList.map (selfX (Mp.all w))) e 1, _, by rw [Hp.all_get, allObj, hx], hx, cs, fr, rfl, rfl, by simp, fun j v hj => ?_, .inr (.inl ⟨rfl, rfl, rfl, by simp⟩)⟩
    rw [List.getElem?_map] at hj
    cases hc : cs.toList[j]? with
    | none => rw [hc] at hj; cases hj
    | some u =>
      rw [hc] at hj
      cases hj
      exact ⟨u, by rw [Nat.zero_add]; simpa using hc, selfX_rel _ _⟩
  · have : topB w ≤ i := hi
    have := topB_size w
    rw [Hp.all_get, allObj, Array.getElem?_eq_none (by omega)]
  · rw [Hp.all_get, allObj]
    simp only [Mp.all] at h
    split at h
    · cases h
    rename_i hx
    exact .inl rfl
  · show i < topB w; have := topB_256 w; omega
  obtain ⟨cs, e, fr, hx, rfl, rfl, rfl⟩ := hpl i b δ S h
  exact ⟨rfl, rfl⟩

/-! What X has of the arguments -/

section
variable {w : World}

theorem all_slice' (a : Addr) (n c : Nat) (h : a.block < topB w) : VRel (Mp.all w) (.slice (some a) n c) (.slice (some a) n c) := by
  refine .sl ⟨h, fun b δ S hb => .inl ⟨rfl, ?_, rfl⟩⟩
  simp only [Mp.all] at hb
  split at hb
  · cases hb; simp
  cases hb
theorem all_slice (a : Addr) (n c : Nat) (h : a.block < w.heap.size) : VRel (Mp.all w) (.slice (some a) n c) (.slice (some a) n c) := all_slice' a n c (Nat.lt_of_lt_of_le h (topB_size w))
end

/-- What a call comes to in the calculus, from the whole of the old memory. -/
theorem open_below (E : Env) (hm : E.P.follows .mixedOrders = true) {f : FuncId} {args : List Value} {args' : Array Value} {w : World} (hv : VsRel (Mp.all w) args args'.toList)
    (c : C E f args (Hp.all w) fun v _ => v = .bool true) : Calls E.P f args' w fun e w' => e = .returned (.bool true) ∧ Below w.heap.size w w' := by
  obtain ⟨s0, n, hs, he⟩ := c.run
  exact run_below E hm (HRel.all w) hv hs he

end Go.X

namespace Go.X
open Go.ChangeShapes Go.WideShapes Go.ChangeAt Go.RowKit Go.Deep

section
variable {H : Type} {enc : TypeId × Value → H} {P : Program} {W W' : World}

/-- Each argument reads behind the call as it did. -/
theorem trodAll_below (hl : laidOutB P = true) (hb : Below W.heap.size W W') : ∀ {ts : List TypeId} {vs : List Value} {ds : List (DataW H)} {ps : List MemPlace}, ts.all (fun t => P.readableRec t && decide (t < P.types.size)) = true →
    (∀ x ∈ ps, x.block < W.heap.size) → DataW.TrodAll enc P W 0 (fun _ => true) true ts vs ds ps → DataW.TrodAll enc P W' 0 (fun b => decide (b < W.heap.size)) true ts vs ds ps
  | [], [], [], _, _, _, h => h
  | [], _ :: _, _, _, _, _, h => h.elim
  | [], [], _ :: _, _, _, _, h => h.elim
  | _ :: _, [], _, _, _, _, h => h.elim
  | _ :: _, _ :: _, [], _, _, _, h => h.elim
  | t :: ts, v :: vs, d :: ds, ps, hr, hlt, ⟨p, q, h1, h2, e⟩ => by
    subst e
    simp only [List.all_cons, Bool.and_eq_true, decide_eq_true_eq] at hr
    exact ⟨p, q, Below.trod hl hr.1.1 hr.1.2 h1 hb (fun x hx => hlt x (by simp [hx])), trodAll_below hl hb hr.2 (fun x hx => hlt x (by simp [hx])) h2, rfl⟩

theorem trodAll_len : ∀ {w : World} {base : Nat} {spare : Nat → Bool} {held : Bool} {ts : List TypeId} {vs : List Value} {ds : List (DataW H)} {ps : List MemPlace}, DataW.TrodAll enc P w base spare held ts vs ds ps → ds.length = ts.length
  | _, _, _, _, [], [], [], _, _ => rfl
  | _, _, _, _, [], _ :: _, _, _, h => h.elim
  | _, _, _, _, [], [], _ :: _, _, h => h.elim
  | _, _, _, _, _ :: _, [], _, _, h => h.elim
  | _, _, _, _, _ :: _, _ :: _, [], _, h => h.elim
  | _, _, _, _, t :: ts, v :: vs, d :: ds, ps, ⟨p, q, h1, h2, e⟩ => by simp [trodAll_len h2]

/-- The row's end. -/
theorem open_post {f : Func} {s : ChangeSpec} {fresh handsOn apart : Bool} {t : TypeId} {ds gs : List (DataW H)} {before : List MemPlace} {args : Array Value}
    (hl : laidOutB P = true) (hrd : f.params.toList.all (fun t => P.readableRec t && decide (t < P.types.size)) = true) (hv : s.vars = []) (hr : f.resultTypes = #[t]) (ht : P.underlying t = some .bool)
    (hs : ∀ ds : List (DataW H), ds.length = f.params.toList.length → (s.fn H ds).results = [.lit (.bool true)] ∧ (s.fn H ds).args = ds ∧ (s.fn H ds).vars = [])
    (hW : DataW.Whole enc P f.params.toList s.vars apart W args.toList ds gs before) (hb : Below W.heap.size W W') :
    s.post enc P f apart fresh handsOn false W args (.bool true) W' := by
  have hW' := hW
  obtain ⟨p, q, hA, hV, rfl, hfz, hnd⟩ := hW
  rw [hv] at hV
  obtain ⟨rfl, rfl⟩ := trodVars_none hV
  obtain ⟨h1, h2, h3⟩ := hs ds (trodAll_len hA)
  have hlt : ∀ x ∈ p, x.block < W.heap.size := fun x hx => hW'.lt x (by simp [hx])
  refine ⟨ds, [], _, [], p, [], hW', ?_, ?_, ?_, hb.frame _, fun h => by cases h⟩
  · simp only [List.append_nil, h1, hr]
    exact trodAll_mk1 (shut_bool ht true)
  · simp only [List.append_nil, h2]
    exact trodAll_below hl hb hrd hlt hA
  simp only [List.append_nil, h3, hv]
  rfl

/-! Slices among the arguments -/

theorem okSlice {t e : TypeId} {r : Reach} {base : Nat} {v : Value} (ht : P.underlying t = some (.slice e)) (h : Value.okWide P W r base t v) :
    v = .slice none 0 0 ∨ ∃ a len cap, v = .slice (some a) len cap ∧ a.block < W.heap.size := by
  simp only [Value.okWide, ht, Cell.okWide] at h
  cases v <;> simp only [Cell.ok, ht] at h <;> try exact h.elim
  rename_i a len cap
  cases a with
  | none =>
    left
    cases len with
    | zero =>
      cases cap with
      | zero => rfl
      | succ n => exact h.elim
    | succ n => exact h.elim
  | some a =>
    right
    refine ⟨a, len, cap, rfl, ?_⟩
    obtain ⟨_, _, _, _, row, cells, hsh, _⟩ := h
    unfold World.shape? at hsh
    split at hsh
    · rename_i hx; exact (Array.getElem?_eq_some_iff.1 hx).1
    cases hsh

end

end Go.X

namespace Go.X
open Go.RowKit

/-- The memory that nothing lies in but a table. -/
noncomputable def tabHp (g : Nat) (cs : List Value) (e : TypeId) : Hp := Hp.empty.put g (.cells cs e 1)

def Mp.tab (g S : Nat) : Mp := ⟨fun i => if i = g then some (g, 0, S) else Option.none, fun i => i ≤ 255, fun _ => 0⟩

theorem HRel.tab {w : World} {g : Nat} {cs : Array Value} {e : TypeId} {fr : Nat × Nat} (hg : w.heap[g]? = some (.cells cs e fr)) (hp : ∀ v, v ∈ cs.toList → plainV 4 v = true) (h255 : g ≤ 255) :
    HRel w (fun _ => False) (Mp.tab g cs.size) (tabHp g cs.toList e) w := by
  have hpl : ∀ i b δ S, (Mp.tab g cs.size).ρ i = some (b, δ, S) → i = g ∧ b = g ∧ δ = 0 ∧ S = cs.size := fun i b δ S h => by
    simp only [Mp.tab] at h
    split at h
    · rename_i e; cases h; exact ⟨e, rfl, rfl, rfl⟩
    cases h
  have hget : (tabHp g cs.toList e).get g = some (.cells cs.toList e 1) := by rw [tabHp, Hp.get_put, if_pos rfl]
  have hget' : ∀ i, i ≠ g → (tabHp g cs.toList e).get i = none := fun i hi => by rw [tabHp, Hp.get_put, if_neg (fun x => hi x.symm)]; exact Hp.get_empty i
  have hro : RO (tabHp g cs.toList e) g := ⟨_, _, hget⟩
  have hn : (tabHp g cs.toList e).n = 256 := rfl
  refine ⟨fun i b δ S h => ?_, fun i j b δ S δ' S' h _ => ?_, fun i hi => ?_, fun i hi => ?_, fun i hk h => ?_, rfl, ⟨rfl, fun _ => Nat.le_refl _⟩, rfl, Nat.le_refl _, fun b _ _ => rfl, fun i b δ S h _ => ?_, fun i hi => ⟨hi, fun b δ S h => ?_⟩⟩
  · obtain ⟨rfl, rfl, rfl, rfl⟩ := hpl i b δ S h
    refine ⟨h255, .cells cs.toList e 1, _, hget, hg, cs, fr, rfl, rfl, by simp, fun j v hj => ⟨v, by rw [Nat.zero_add]; simpa using hj, plain_rel _ 4 v (hp v (List.mem_of_getElem? hj))⟩, .inr (.inl ⟨rfl, rfl, rfl, by simp⟩)⟩
  · obtain ⟨rfl, _⟩ := hpl i b δ S h
    exact .inr hro
  · have : i ≤ 255 := hi
    rw [hn]; omega
  · rw [hn] at hi
    exact hget' i (by omega)
  · by_cases e : i = g
    · subst e; simp [Mp.tab] at h
    exact .inl (hget' i e)
  · obtain ⟨rfl, _⟩ := hpl i b δ S h
    exact .inr hro
  obtain ⟨rfl, rfl, rfl, _⟩ := hpl i b δ S h
  exact ⟨rfl, rfl⟩

/-- What a call without arguments answers, within so many steps, from some memory. -/
noncomputable def truthFrom (E : Env) (f : FuncId) (n : Nat) (h : Hp) : Bool :=
  match startX E f [] h with
  | some s => (match endX E f (runX E n s) with
    | some (.bool b) => b
    | _ => false)
  | none => false

theorem tab_below (E : Env) (hm : E.P.follows .mixedOrders = true) {f : FuncId} {n : Nat} {w : World} {g : Nat} {cs : Array Value} {e : TypeId} {fr : Nat × Nat} (hg : w.heap[g]? = some (.cells cs e fr)) (hp : ∀ v, v ∈ cs.toList → plainV 4 v = true) (h255 : g ≤ 255)
    (ht : truthFrom E f n (tabHp g cs.toList e) = true) : Calls E.P f #[] w fun e w' => e = .returned (.bool true) ∧ Below w.heap.size w w' := by
  unfold truthFrom at ht
  split at ht
  · rename_i s hs
    split at ht
    · rename_i b hend
      subst ht
      exact (run_calls E hm rfl (HRel.tab hg hp h255) (.nil _) hs hend).mono fun _ _ ⟨h1, h2, h3, h4, h5, h6⟩ => ⟨h1, ⟨h2, h3, h4, h5, h6⟩⟩
    cases ht
  cases ht

/-- Where a listed table lies. -/
theorem tab_block {P : Program} {w : World} {name : String} {g : Nat} {k : IntKind} {zs : List Int} (hn : P.globalNamed name = some g) (h : Lib.TabIs P w name k zs) :
    ∃ e fr, w.heap[g]? = some (.cells (zs.map fun z => Value.int k z).toArray e fr) := by
  unfold Lib.TabIs World.var? at h
  rw [hn] at h
  simp only [Option.bind_some] at h
  cases hh : w.heap[g]? with
  | none => rw [hh] at h; cases h
  | some o =>
    rw [hh] at h
    cases o with
    | cells c e fr =>
      simp only [Option.some.injEq] at h
      exact ⟨e, fr, by rw [h]⟩
    | _ => simp at h

end Go.X

namespace Go.X

/-- A map's entries: keys, values, and when each was laid. -/
abbrev Ms := List (Int × Value × Nat)
def ent (x : Int × Value × Nat) : MapEntry := { key := .int .i64 x.1, val := x.2.1, born := x.2.2 }

def fi (k : Int) : Ms → Nat → Option (Nat × Value)
  | [], _ => none
  | (a, v, _) :: r, i => if a = k then some (i, v) else fi k r (i + 1)

def getI (M : Ms) (k : Int) : Option Value := (fi k M 0).map (·.2)

theorem keyEq_int {E : Env} {h : Hp} {kt : TypeId} (hk : E.und kt = some (.int .i64)) (a b : Int) : keyEqX E h kt (.int .i64 a) (.int .i64 b) = some (decide (a = b)) := by
  simp [keyEqX, hk, keyFits, kindEq, sameV]

theorem fi_some {k : Int} : ∀ {M : Ms} {i j : Nat} {v : Value}, fi k M i = some (j, v) → ∃ p, j = i + p ∧ p < M.length ∧ ∃ n, M[p]? = some (k, v, n)
  | [], _, _, _, h => by simp [fi] at h
  | (a, u, n) :: r, i, j, v, h => by
    simp only [fi] at h
    by_cases e : a = k
    · rw [if_pos e] at h
      cases h
      exact ⟨0, rfl, by simp, n, by simp [e]⟩
    rw [if_neg e] at h
    obtain ⟨p, h1, h2, m, h3⟩ := fi_some h
    exact ⟨p + 1, by omega, by simp; omega, m, by simpa using h3⟩

/-- A value laid under a key. -/
def putI (M : Ms) (k : Int) (v : Value) (cl : Nat) : Ms × Nat := match fi k M 0 with
  | some (i, _) => (M.modify i fun x => (k, v, x.2.2), cl)
  | none => (M ++ [(k, v, cl)], cl + 1)

theorem fi_modify {k k' : Int} {v : Value} : ∀ (M : Ms) (s p : Nat) (u : Value), fi k M s = some (s + p, u) →
    (fi k' (M.modify p fun x => (k, v, x.2.2)) s).map (·.2) = if k' = k then some v else (fi k' M s).map (·.2)
  | [], _, _, _, h => by simp [fi] at h
  | (a, w, n) :: r, s, p, u, h => by
    simp only [fi] at h
    by_cases e : a = k
    · rw [if_pos e] at h
      have hp : p = 0 := by simp at h; omega
      subst hp
      simp only [List.modify_zero_cons, fi]
      by_cases e' : k = k'
      · subst e'; simp
      rw [if_neg e', if_neg (fun x => e' x.symm), if_neg (fun x => e' (e ▸ x))]
    rw [if_neg e] at h
    cases p with
    | zero =>
      obtain ⟨q, h1, _⟩ := fi_some h
      omega
    | succ p =>
      simp only [List.modify_succ_cons, fi]
      by_cases e' : a = k'
      · rw [if_pos e', if_pos e', if_neg (fun x => e (e'.trans x))]
      rw [if_neg e', if_neg e']
      exact fi_modify r (s + 1) p u (by rw [h]; congr 2; omega)

theorem fi_append {k k' : Int} {v : Value} {c : Nat} : ∀ (M : Ms) (s : Nat), fi k M s = none → (fi k' (M ++ [(k, v, c)]) s).map (·.2) = if k' = k then some v else (fi k' M s).map (·.2)
  | [], s, _ => by
    simp only [List.nil_append, fi]
    by_cases e : k = k'
    · subst e; simp
    rw [if_neg e, if_neg (fun x => e x.symm)]
  | (a, w, n) :: r, s, h => by
    simp only [fi] at h
    by_cases e : a = k
    · rw [if_pos e] at h; cases h
    rw [if_neg e] at h
    simp only [List.cons_append, fi]
    by_cases e' : a = k'
    · rw [if_pos e', if_pos e', if_neg (fun x => e (e'.trans x))]
    rw [if_neg e', if_neg e']
    exact fi_append r (s + 1) h

theorem get_put (M : Ms) (k k' : Int) (v : Value) (cl : Nat) : getI (putI M k v cl).1 k' = if k' = k then some v else getI M k' := by
  unfold putI getI
  cases h : fi k M 0 with
  | none => exact fi_append M 0 h
  | some x =>
    obtain ⟨i, u⟩ := x
    exact fi_modify M 0 i u (by rw [h, Nat.zero_add])

section
variable {E : Env} {fn : FuncId} {nt : Nat} {l l' : Kn} {h h' : Hp} {dr : Bool} {ops : Array Oper} {fin rest : List (Oper × List Oper)} {R : Kn → Hp → Prop} {lt : List Oper}
variable {d : Nat} {ty : TypeId} {pos : String} {af : Array Edge} {gg : Option (Nat × Bool)} {x y z : Operand} {v u : Value} {t : TypeId}

/-- The map's type, its keys' (integers) and its values'. -/
structure MapT (E : Env) (t kt et : TypeId) : Prop where
  und : E.und t = some (.map kt et)
  key : E.und kt = some (.int .i64)

theorem keyOk_int {kt : TypeId} (hk : E.und kt = some (.int .i64)) (k : Int) : keyOkX E kt (.int .i64 k) = true := by simp [keyOkX, hk, keyFits, kindEq]

theorem o_makeMap (g : Gd ops l gg) (hd : Nat.blt d nt = true) (q : WL E fn nt dr ops fin rest ((d, .map (some h.n)) :: l) (h.alloc (.map (([] : Ms).map ent) 0)) R) :
    WL E fn nt dr ops fin ((⟨some d, .makeMap t none, ty, pos, af, gg⟩, lt) :: rest) l h R :=
  wl_alloc (f := fun i => .map (some i)) g rfl (fun _ _ => rfl) (wn hd) q

theorem o_extract {vs : Array Value} {i : Nat} (g : Gd ops l gg) (hd : Nat.blt d nt = true) (hx : evl l x = some (.tuple vs)) (hv : vs[i]? = some v) (q : WL E fn nt dr ops fin rest ((d, v) :: l) h R) :
    WL E fn nt dr ops fin ((⟨some d, .extract x i, ty, pos, af, gg⟩, lt) :: rest) l h R :=
  wl_read g rfl (fun _ ag => by simp only [readX, ag.ev hx, hv]) (wn hd) q

/-- A struct, or an array, stored over the whole of its block. -/
theorem o_storeA {b n : Nat} {cs : List Value} {vs : Array Value} {e : TypeId} {m : Nat} (g : Gd ops l gg) (hx : evl l x = some (.pointer (some ⟨b, 0, none⟩))) (hy : evl l y = some (.agg vs)) (hc : vs.toList.all cellV = true) (ht : E.size t = some n) (hn : vs.size = n)
    (hg : h.get b = some (.cells cs e m)) (hm : m ≠ 1) (hv : cs.length = n) (ha : ∀ q, q ∈ lt → Again E ops l (h.put b (.cells vs.toList e m)) q)
    (q : WL E fn nt dr ops fin rest l (h.put b (.cells vs.toList e m)) R) :
    WL E fn nt dr ops fin ((⟨none, .store t x y, ty, pos, af, gg⟩, lt) :: rest) l h R := by
  refine wl_none g rfl (fun _ ag => ?_) wn0 ha q
  have e1 : Nat.ble vs.toList.length cs.length = true := (ble_iff _ _).2 (by simp; omega)
  have e2 : Nat.beq m 1 = false := (beq_false _ _).2 hm
  have e3 : Nat.beq vs.size n = true := (beq_iff _ _).2 hn
  have hd : cs.drop vs.toList.length = [] := by rw [List.drop_eq_nil_iff]; simp; omega
  simp only [writeX, ag.ev hx, ag.ev hy, storeX, ht, Value.cells, e3, hc, Bool.and_true, cond_true, storeRow, hg, Nat.zero_add, e1, e2, Bool.not_false, List.take_zero, List.nil_append, Nat.zero_add, hd, List.append_nil]

end

end Go.X

namespace Go.X

section
variable {E : Env} {l : Kn} {h : Hp} {r : List ResultVar} {vs : List Value} {v : Value} {a : Nat} {t : TypeId}

end

/-! The memory, known by some of its blocks alone. -/

theorem wl_at {E : Env} {fn : FuncId} {nt : Nat} {l : Kn} {h : Hp} {dr : Bool} {ops : Array Oper} {fin its : List (Oper × List Oper)} {R : Kn → Hp → Prop} (P : Hp → Prop) (p : P h) (q : ∀ h, P h → WL E fn nt dr ops fin its l h R) : WL E fn nt dr ops fin its l h R := q h p
theorem Ext.of {h h1 h2 : Hp} {cs : List Nat} (g : Ext h h1) (k : ExtB cs h1 h2) (d : ∀ i, i ∈ cs → h.n ≤ i) : Ext h h2 :=
  ⟨Nat.le_trans g.n k.n, fun i hi => (k.get i (Nat.lt_of_lt_of_le hi g.n) fun hc => absurd (d i hc) (by omega)).trans (g.get i hi)⟩
theorem Sl.nodup {e : TypeId} {h : Hp} {s : Value} {vs : List Value} {bs : List Nat} (x : Sl e h s vs bs) : bs.Nodup := by
  rcases x with ⟨_, _, rfl⟩ | ⟨_, _, _, _, _, _, rfl⟩ <;> simp

/-! Joining: what holds behind a code, whichever way it went. -/

def Cut (P : Kn → Hp → Prop) (Q : Out → Kn → Hp → Prop) : Out → Kn → Hp → Prop
  | .next, l, h => ∃ l', Sub l' l ∧ P l' h
  | .ret, l, h => Q .ret l h
  | .exit i, l, h => Q (.exit i) l h

theorem w_cut {E : Env} {fn : FuncId} {nt : Nat} {l : Kn} {h : Hp} {a b : Code} {Q : Out → Kn → Hp → Prop} (P : Kn → Hp → Prop) (q : W E fn nt a l h (Cut P Q)) (q2 : ∀ l h, P l h → W E fn nt b l h Q) : W E fn nt (.seq a b) l h Q :=
  w_seq (T.mono q fun o l h hh => by
    cases o with
    | next =>
      obtain ⟨l', s, p⟩ := hh
      exact w_weak l' s (q2 l' h p)
    | ret => exact hh
    | exit i => exact hh)
/-! Adding, whatever comes of it. -/

theorem ExtB.more {h h1 h2 : Hp} {A bs : List Nat} (g : ExtB A h h1) (k : ExtB bs h1 h2) (d : ∀ i, i ∈ bs → h.n ≤ i) : ExtB A h h2 :=
  ⟨Nat.le_trans g.n k.n, fun i hi hn => (k.get i (Nat.lt_of_lt_of_le hi g.n) fun hb => by have := d i hb; omega).trans (g.get i hi hn)⟩

/-! Interfaces around a value, and maps.clone. -/

section
variable {E : Env} {fn : FuncId} {nt : Nat} {l : Kn} {h : Hp} {dr : Bool} {ops : Array Oper} {fin rest : List (Oper × List Oper)} {R : Kn → Hp → Prop} {lt : List Oper} {d : Nat} {ty t : TypeId} {pos : String} {af : Array Edge} {gg : Option (Nat × Bool)} {x : Operand} {v : Value}

end

/-- A closure over one variable. -/
theorem o_makeFunc1 {E : Env} {fn : FuncId} {nt : Nat} {l : Kn} {h : Hp} {dr : Bool} {ops : Array Oper} {fin rest : List (Oper × List Oper)} {R : Kn → Hp → Prop} {lt : List Oper} {d : Nat} {ty : TypeId} {pos : String} {af : Array Edge} {gg : Option (Nat × Bool)} {x : Operand} {v : Value} {f : FuncId}
    (g : Gd ops l gg) (hd : Nat.blt d nt = true) (hx : evl l x = some v) (q : WL E fn nt dr ops fin rest ((d, .func (.func f) #[] #[v]) :: l) h R) :
    WL E fn nt dr ops fin ((⟨some d, .makeFunc (.func f) #[] #[x], ty, pos, af, gg⟩, lt) :: rest) l h R :=
  wl_read g rfl (fun _ ag => by simp [readX, ag.ev hx]) (wn hd) q

end Go.X

namespace Go.X

/-- Elements of z + 1 cells, of so many bytes. -/
structure ElN (E : Env) (t e z by' : Nat) : Prop where
  und : E.und t = some (.slice e)
  size : E.size e = some (z + 1)
  bytes : E.bytes e = some (by' + 1)
  zero : ∃ zv, E.zero e = some zv ∧ zv.cells.size = z + 1

/-- A slice of n elements that fills its block: its cells, its block (none: nil). -/
def SlN (e : TypeId) (z : Nat) (h : Hp) (s : Value) (cs : List Value) (n : Nat) (bs : List Nat) : Prop :=
  (s = .slice none 0 0 ∧ cs = [] ∧ n = 0 ∧ bs = []) ∨ ∃ b m, s = .slice (some ⟨b, 0, none⟩) n n ∧ h.get b = some (.cells cs e m) ∧ (m = 0 ∨ m = z + 3) ∧ b < h.n ∧ bs = [b] ∧ cs.length = n * (z + 1)

theorem SlN.keep {e : TypeId} {z : Nat} {h h' : Hp} {s : Value} {cs : List Value} {n : Nat} {bs ds : List Nat} (x : SlN e z h s cs n bs) (g : ExtB ds h h') (hd : ∀ i, i ∈ bs → i ∉ ds) : SlN e z h' s cs n bs := by
  rcases x with x | ⟨b, m, h1, h2, h3, h4, rfl, h5⟩
  · exact .inl x
  exact .inr ⟨b, m, h1, by rw [g.get b h4 (hd b (by simp))]; exact h2, h3, Nat.lt_of_lt_of_le h4 g.n, rfl, h5⟩

theorem SlN.ext {e : TypeId} {z : Nat} {h h' : Hp} {s : Value} {cs : List Value} {n : Nat} {bs : List Nat} (x : SlN e z h s cs n bs) (g : Ext h h') : SlN e z h' s cs n bs := x.keep (g.b []) (by simp)

theorem SlN.lt {e : TypeId} {z : Nat} {h : Hp} {s : Value} {cs : List Value} {n : Nat} {bs : List Nat} (x : SlN e z h s cs n bs) : ∀ i, i ∈ bs → i < h.n := by
  rcases x with ⟨_, _, _, rfl⟩ | ⟨b, m, h1, h2, h3, h4, rfl, _⟩ <;> simp
  exact h4

theorem SlN.at {e : TypeId} {z : Nat} {h : Hp} {s : Value} {cs : List Value} {n : Nat} {bs : List Nat} (x : SlN e z h s cs n bs) (hn : 0 < n) :
    ∃ b m, s = .slice (some ⟨b, 0, none⟩) n n ∧ h.get b = some (.cells cs e m) ∧ (m = 0 ∨ m = z + 3) ∧ b < h.n ∧ bs = [b] ∧ cs.length = n * (z + 1) := by
  rcases x with ⟨_, _, rfl, _⟩ | x
  · simp at hn
  exact x

theorem SlN.val {e : TypeId} {z : Nat} {h : Hp} {s : Value} {cs : List Value} {n : Nat} {bs : List Nat} (x : SlN e z h s cs n bs) : ∃ a, s = .slice a n n := by
  rcases x with ⟨rfl, _, rfl, _⟩ | ⟨b, m, rfl, _⟩
  · exact ⟨none, rfl⟩
  exact ⟨_, rfl⟩

theorem SlN.len {e : TypeId} {z : Nat} {h : Hp} {s : Value} {cs : List Value} {n : Nat} {bs : List Nat} (x : SlN e z h s cs n bs) : cs.length = n * (z + 1) := by
  rcases x with ⟨_, rfl, rfl, _⟩ | ⟨_, _, _, _, _, _, _, h5⟩
  · simp
  exact h5

theorem SlN.nodup {e : TypeId} {z : Nat} {h : Hp} {s : Value} {cs : List Value} {n : Nat} {bs : List Nat} (x : SlN e z h s cs n bs) : bs.Nodup := by
  rcases x with ⟨_, _, _, rfl⟩ | ⟨_, _, _, _, _, _, rfl, _⟩ <;> simp

theorem ElN.growX {E : Env} {t e z by' : Nat} (x : ElN E t e z by') (h : Hp) (n : Nat) (old xs : List Value) (hn : n * (by' + 1) ≤ 1099511627776) :
    growX E h e (z + 1) (by' + 1) n old xs = some (.slice (some ⟨h.n, 0, none⟩) n n, h.alloc (.cells (old ++ xs) e (z + 3))) := by
  obtain ⟨zv, hz, hs⟩ := x.zero
  have : Nat.ble (n * (by' + 1)) (2 ^ 40) = true := (ble_iff _ _).2 (by omega)
  simp only [Go.X.growX, hz, hs, this, Nat.beq_refl, Bool.true_or, Bool.and_true, cond_true]

/-- One element appended, that lies in a block of its own (as buildSlice lays it). -/
theorem appendN {E : Env} {h : Hp} {t e z by' : Nat} {s : Value} {cs xs : List Value} {n q m' : Nat} {bs : List Nat} (x : ElN E t e z by') (hs : SlN e z h s cs n bs) (hq : h.get q = some (.cells xs e m')) (hx : xs.length = z + 1) (hc : xs.all cellV = true)
    (hn : (n + 1) * (by' + 1) ≤ 1099511627776) :
    ∃ v' h', appendX E h t t s (.slice (some ⟨q, 0, none⟩) 1 1) = some (v', h') ∧ SlN e z h' v' (cs ++ xs) (n + 1) [h.n] ∧ ExtB bs h h' := by
  have hfirst : firstX h (z + 1) 1 (.slice (some ⟨q, 0, none⟩) 1 1) = some xs := by
    have e1 : Nat.ble (0 + 1 * (z + 1)) xs.length = true := (ble_iff _ _).2 (by omega)
    have e2 : Nat.ble 1 1 = true := rfl
    have e3 : Nat.beq 1 0 = false := rfl
    simp only [firstX, e2, e3, cond_true, cond_false, rowOf, hq, e1, List.drop_zero]
    rw [List.take_of_length_le (by omega)]
  have e3 : Nat.beq 1 0 = false := rfl
  rcases hs with ⟨rfl, rfl, rfl, rfl⟩ | ⟨b, m, rfl, hb, hm, hlt, rfl, hl⟩
  · refine ⟨_, _, ?_, .inr ⟨h.n, z + 3, rfl, Hp.get_alloc_self _ _, .inr rfl, by rw [Hp.n_alloc]; omega, rfl, by simp [hx]⟩, (Ext.alloc h _).b _⟩
    simp only [appendX, x.und, lenOfX, x.size, x.bytes, hfirst, e3, cond_false]
    exact x.growX h 1 [] xs (by omega)
  have e1 : Nat.ble (n + 1) n = false := by
    cases hc : Nat.ble (n + 1) n with
    | false => rfl
    | true => have := (ble_iff _ _).1 hc; omega
  have e2 : Nat.ble (0 + n * (z + 1)) cs.length = true := (ble_iff _ _).2 (by omega)
  have hrow : rowOf h ⟨b, 0, none⟩ (n * (z + 1)) = some cs := by
    simp only [rowOf, hb, e2, cond_true, List.drop_zero]
    rw [List.take_of_length_le (by omega)]
  have hl' : (cs ++ xs).length = (n + 1) * (z + 1) := by rw [List.length_append, hl, hx, Nat.add_mul]; omega
  rcases hm with rfl | rfl
  · refine ⟨_, _, ?_, .inr ⟨h.n, z + 3, rfl, Hp.get_alloc_self _ _, .inr rfl, by rw [Hp.n_alloc]; omega, rfl, hl'⟩, (Ext.alloc h _).b _⟩
    simp only [appendX, x.und, lenOfX, x.size, x.bytes, hfirst, e3, cond_false, e1, hrow, hb, hc, cond_true]
    exact x.growX h (n + 1) cs xs hn
  refine ⟨.slice (some ⟨h.n, 0, none⟩) (n + 1) (n + 1), (h.put b .dead).alloc (.cells (cs ++ xs) e (z + 3)), ?_, .inr ⟨h.n, z + 3, rfl, ?_, .inr rfl, by rw [Hp.n_alloc, Hp.n_put]; omega, rfl, hl'⟩, (ExtB.put h b .dead).trans ((Ext.alloc _ _).b _)⟩
  · simp only [appendX, x.und, lenOfX, x.size, x.bytes, hfirst, e3, cond_false, e1, hrow, hb, hc, cond_true]
    have := x.growX (h.put b .dead) (n + 1) cs xs hn
    rw [Hp.n_put] at this
    simpa [Nat.beq_refl] using this
  rw [Hp.get_alloc, Hp.n_put, if_pos rfl]

end Go.X

namespace Go.X

/-! The rows of deferred calls of ranges are empty, and go when the function is left. -/

/-- Behind a call: but for rows of deferred calls that the call made, the memory is as it was. -/
def Co (h0 h h' : Hp) : Prop := h'.n = h.n ∧ ∀ b, (b < h0.n ∨ ∀ d, h.get b ≠ some (.deferred d)) → h'.get b = h.get b

theorem Co.cells {h0 h h' : Hp} (x : Co h0 h h') {b : Nat} {c : List Value} {e : TypeId} {m : Nat} (g : h.get b = some (.cells c e m)) : h'.get b = some (.cells c e m) := by
  rw [x.2 b (.inr fun d hd => by rw [g] at hd; cases hd)]; exact g
theorem Co.ext {h0 h h' : Hp} (x : Co h0 h h') (g : Ext h0 h) : Ext h0 h' :=
  ⟨by rw [x.1]; exact g.n, fun i hi => (x.2 i (.inl hi)).trans (g.get i hi)⟩
/-! The range -/

def pend : Option Code → List It → List It
  | none, k => k
  | some c, k => .code c :: k

section
variable {E : Env} {fn : FuncId} {nt : Nat} {l : Kn} {h : Hp} {Q : Out → Kn → Hp → Prop}

end

/-! Rounds -/

/-- A call of what a range yields. -/
def Y (E : Env) (x : Nat) (args : List Value) (h : Hp) (Q : Value → Hp → Prop) : Prop :=
  ∃ v h', Q v h' ∧ KD h h' ∧ ∀ fr cs fr', finishX E fr v = some fr' → ∀ as : Array Value, as.toList = args → ∃ s, nextX E fr cs h (.round x as) = some s ∧ Runs E s ⟨fr', cs, h'⟩

theorem Y.mono {E : Env} {x : Nat} {args : List Value} {h : Hp} {Q Q' : Value → Hp → Prop} (c : Y E x args h Q) (hq : ∀ v h', Q v h' → Q' v h') : Y E x args h Q' := by
  obtain ⟨v, h', q, r⟩ := c
  exact ⟨v, h', hq _ _ q, r⟩

noncomputable def parK : List Nat → List Value → Kn → Kn
  | t :: ts, v :: vs, l => parK ts vs ((t, v) :: l)
  | _, _, l => l

def isF (E : Env) (t : TypeId) : Bool := match E.und t with | some (.func _ _ _) => true | _ => false

/-! A range, its record known by what it does alone. -/

/-- Behind a round's body. -/
def RdA (x : Nat) (rc : LoopState → Option Code → AObj) (Q : Value → Hp → Prop) (o : Out) (h : Hp) : Prop :=
  ∃ st p, h.get x = some (rc st p) ∧ match o with
    | .next => Q (.bool true) (h.put x (rc .ready none))
    | .ret => Q (.bool false) (h.put x (rc .done (some .ret)))
    | .exit i => Q (.bool false) (h.put x (rc .done (some (.exit i))))

/-- Behind the parameters of a round. -/
def RbA (E : Env) (fn : FuncId) (nt : Nat) (b : Code) (x : Nat) (rc : LoopState → Option Code → AObj) (Q : Value → Hp → Prop) (o : Out) (l : Kn) (h : Hp) : Prop :=
  match o with
  | .next => ∃ p, h.get x = some (rc .ready p) ∧ W E fn nt b l (h.put x (rc .busy p)) fun o _ h => RdA x rc Q o h
  | _ => False

/-- What a range's rounds are. -/
structure RangeAt (E : Env) (fn : FuncId) (nt : Nat) (l : Kn) (ps : Array Tmp) (a b : Code) (x : Nat) (rc : LoopState → Option Code → AObj) : Prop where
  round : ∀ {args : List Value} {h : Hp} {Q : Value → Hp → Prop} {p : Option Code}, h.get x = some (rc .ready p) → Nat.beq args.length ps.toList.length = true →
    W E fn nt a (parK ps.toList args l) h (fun o l h => RbA E fn nt b x rc Q o l h) → Y E x args h Q

end Go.X

namespace Go.X
open Go.RowKit Go.Deep Go.ChangeShapes Go.WideShapes Go.ChangeAt

/-- Cells of a type that is plain data, in a memory. -/
inductive Rd (P : Program) (h : Hp) : TypeId → List Value → Prop
  | bool {t} (ht : P.underlying t = some .bool) (b : Bool) : Rd P h t [.bool b]
  | int {t k} (ht : P.underlying t = some (.int k)) (n : Int) (hn : k.min ≤ n ∧ n ≤ k.max) : Rd P h t [.int k n]
  | string {t} (ht : P.underlying t = some .string) (s : ByteArray) (hs : s.size ≤ maxLen) : Rd P h t [.string s]
  | struct {t fs cs} (ht : P.underlying t = some (.struct fs)) (hl : cs.length = P.cellsOf t) (hf : ∀ (i : Nat) (f : Field), fs[i]? = some f → Rd P h f.type ((cs.drop f.offset).take (P.cellsOf f.type))) : Rd P h t cs
  | array {t n e cs} (ht : P.underlying t = some (.array n e)) (hl : cs.length = P.cellsOf t) (hf : ∀ i, i < n → Rd P h e ((cs.drop (i * P.cellsOf e)).take (P.cellsOf e))) : Rd P h t cs
  | nils {t e} (ht : P.underlying t = some (.slice e)) : Rd P h t [.slice none 0 0]
  | slice0 {t e} (ht : P.underlying t = some (.slice e)) (a : Addr) (n c : Nat) (hn : n = 0 ∨ P.cellsOf e = 0) (hm : n ≤ c ∧ c ≤ maxLen) (hb : a.block < h.n) : Rd P h t [.slice (some a) n c]
  | slice {t e} (ht : P.underlying t = some (.slice e)) (b o n c : Nat) (cs : List Value) (u : TypeId) (hm : n ≤ c ∧ c ≤ maxLen) (hb : b < h.n) (hn : 0 < n) (hg : h.get b = some (.cells cs u 1)) (hl : o + n * P.cellsOf e ≤ cs.length)
      (hr : ∀ i, i < n → Rd P h e ((cs.drop (o + i * P.cellsOf e)).take (P.cellsOf e))) : Rd P h t [.slice (some ⟨b, o, none⟩) n c]
  | other {t cs d} (ht : P.underlying t = some d) (hd : (match d with | .bool => false | .int _ => false | .string => false | .struct _ => false | .array _ _ => false | .slice _ => false | _ => true) = true) : Rd P h t cs

section
variable {P : Program} {h : Hp} {t : TypeId} {cs : List Value}

theorem Rd.inv_int {k : IntKind} (ht : P.underlying t = some (.int k)) (x : Rd P h t cs) : ∃ n, cs = [.int k n] ∧ k.min ≤ n ∧ n ≤ k.max := by
  cases x with
  | int ht' n hn => rw [ht] at ht'; cases ht'; exact ⟨n, rfl, hn⟩
  | other ht' hd => rw [ht] at ht'; cases ht'; cases hd
  | _ => simp_all

theorem Rd.inv_string (ht : P.underlying t = some .string) (x : Rd P h t cs) : ∃ s, cs = [.string s] ∧ s.size ≤ maxLen := by
  cases x with
  | string ht' s hs => exact ⟨s, rfl, hs⟩
  | other ht' hd => rw [ht] at ht'; cases ht'; cases hd
  | _ => simp_all

theorem Rd.inv_struct {fs : Array Field} (ht : P.underlying t = some (.struct fs)) (x : Rd P h t cs) : cs.length = P.cellsOf t ∧ ∀ (i : Nat) (f : Field), fs[i]? = some f → Rd P h f.type ((cs.drop f.offset).take (P.cellsOf f.type)) := by
  cases x with
  | struct ht' hl hf => rw [ht] at ht'; cases ht'; exact ⟨hl, hf⟩
  | other ht' hd => rw [ht] at ht'; cases ht'; cases hd
  | _ => simp_all

/-- A slice: its items, where it has any. -/
theorem Rd.inv_slice {e : TypeId} (ht : P.underlying t = some (.slice e)) (hz : 0 < P.cellsOf e) (x : Rd P h t cs) :
    ∃ a n c, cs = [.slice a n c] ∧ n ≤ c ∧ c ≤ maxLen ∧ (a = none → n = 0 ∧ c = 0) ∧ (∀ a', a = some a' → a'.block < h.n) ∧
      (n = 0 ∨ ∃ b o xs u, a = some ⟨b, o, none⟩ ∧ b < h.n ∧ h.get b = some (.cells xs u 1) ∧ o + n * P.cellsOf e ≤ xs.length ∧ ∀ i, i < n → Rd P h e ((xs.drop (o + i * P.cellsOf e)).take (P.cellsOf e))) := by
  cases x with
  | nils ht' => exact ⟨none, 0, 0, rfl, Nat.le_refl _, Nat.zero_le _, fun _ => ⟨rfl, rfl⟩, fun _ e => (by cases e), .inl rfl⟩
  | slice0 ht' a n c hn hm hb =>
    rw [ht] at ht'; cases ht'
    exact ⟨some a, n, c, rfl, hm.1, hm.2, fun e => (by cases e), fun _ e => (by cases e; exact hb), .inl (by omega)⟩
  | slice ht' b o n c xs u hm hb hn hg hl hr =>
    rw [ht] at ht'; cases ht'
    exact ⟨_, n, c, rfl, hm.1, hm.2, fun e => (by cases e), fun _ e => (by cases e; exact hb), .inr ⟨b, o, xs, u, rfl, hb, hg, hl, hr⟩⟩
  | other ht' hd => rw [ht] at ht'; cases ht'; cases hd
  | _ => simp_all

end

section
variable {P : Program} {H : Type} {enc : TypeId × Value → H} {W : World}

theorem selfX_of {M : Mp} {v : Value} (h : VRel M v v) : [v].map (selfX M) = [v] := by rw [List.map_cons, List.map_nil, selfX_eq h]

/-- What is read of the old memory, X has too. -/
theorem rd_of_trod : ∀ (fuel : Nat) (t : TypeId) (cs : List Value) (x : DataW H × List MemPlace), (∀ v, v ∈ cs → refB v ≤ topB W) → DataW.trod enc P W 0 (fun _ => true) true fuel t cs = some x → Rd P (Hp.all W) t (cs.map (selfX (Mp.all W)))
  | 0, _, _, _, _, h => by simp [DataW.trod] at h
  | fuel + 1, t, cs, x, hb, h => by
    have hu : ∃ d, P.underlying t = some d := by
      cases hd : P.underlying t with
      | some d => exact ⟨d, rfl⟩
      | none => unfold DataW.trod at h; rw [hd] at h; simp at h
    obtain ⟨d, hd⟩ := hu
    cases d with
    | bool =>
      obtain ⟨b, rfl, _⟩ := DataW.trod_bool hd h
      rw [selfX_of (.bool b)]; exact .bool hd b
    | int k =>
      obtain ⟨n, rfl, _, hw⟩ := DataW.trod_int hd h
      rw [selfX_of (.int k n)]; exact .int hd n (by simpa [Lit.wf] using hw)
    | string =>
      obtain ⟨s, rfl, _, hs⟩ := DataW.trod_string hd h
      rw [selfX_of (.string s)]; exact .string hd s hs
    | struct fs =>
      obtain ⟨xs, n, e, _, hl, hxs, hf⟩ := DataW.trod_struct hd h
      cases e
      refine .struct hd (by rw [List.length_map]; exact hl) fun i f hi => ?_
      have hlt : i < xs.length := by rw [hxs]; exact (Array.getElem?_eq_some_iff.1 hi).1
      have h1 := hf i f hi
      rw [List.getElem?_eq_getElem hlt] at h1
      rw [← List.map_drop, ← List.map_take]
      exact rd_of_trod fuel _ _ _ (fun v hv => hb v (List.mem_of_mem_drop (List.mem_of_mem_take hv))) h1
    | array n e =>
      obtain ⟨xs, m, e', _, hl, hxs, hf⟩ := DataW.trod_array hd h
      cases e'
      refine .array hd (by rw [List.length_map]; exact hl) fun i hi => ?_
      have h1 := hf i hi
      rw [List.getElem?_eq_getElem (by omega)] at h1
      rw [← List.map_drop, ← List.map_take]
      exact rd_of_trod fuel _ _ _ (fun v hv => hb v (List.mem_of_mem_drop (List.mem_of_mem_take hv))) h1
    | slice e =>
      rcases DataW.trod_slice hd h with ⟨rfl, _⟩ | ⟨a, len, cap, elems, rest, n, en, rfl, _, _, hle, hm, hlen, hel, _, _⟩
      · rw [selfX_of (.nils 0 0)]; exact .nils hd
      cases en
      have hab : a.block < topB W := by have := hb _ (List.mem_singleton_self _); simp only [refB] at this; omega
      rw [selfX_of (all_slice' a len cap hab)]
      by_cases h0 : len = 0 ∨ P.cellsOf e = 0
      · exact .slice0 hd a len cap h0 ⟨hle, hm⟩ hab
      have hlp : 0 < len := by omega
      have hzp : 0 < P.cellsOf e := by omega
      have key : ∀ i, i < len → ∃ cs', W.cells? 0 (a.add (i * P.cellsOf e)) (P.cellsOf e) = some cs' ∧ Rd P (Hp.all W) e (cs'.map (selfX (Mp.all W))) := fun i hi => by
        have h1 := hel i hi
        rw [List.getElem?_eq_getElem (by omega)] at h1
        cases hc : W.cells? 0 (a.add (i * P.cellsOf e)) (P.cellsOf e) with
        | none => rw [hc] at h1; cases h1
        | some cs' =>
          rw [hc] at h1
          obtain ⟨_, hl', hce⟩ := World.cells?_some hc
          refine ⟨cs', rfl, rd_of_trod fuel e cs' _ (fun v hv => ?_) h1⟩
          obtain ⟨j, hj, rfl⟩ := List.mem_iff_getElem.1 hv
          exact topB_cell (a := (a.add (i * P.cellsOf e)).add j) (by rw [hce j (by omega), List.getElem?_eq_getElem hj])
      have cell : ∀ i j, i < len → j < P.cellsOf e → ∃ v, W.cell? ((a.add (i * P.cellsOf e)).add j) = some v := fun i j hi hj => by
        obtain ⟨cs', hc, _⟩ := key i hi
        obtain ⟨_, hl', hce⟩ := World.cells?_some hc
        exact ⟨_, by rw [hce j hj, List.getElem?_eq_getElem (by omega)]⟩
      -- the block
      obtain ⟨v0, hv0⟩ := cell 0 0 hlp hzp
      have ea : (a.add (0 * P.cellsOf e)).add 0 = a := by simp [Addr.add]
      rw [ea] at hv0
      obtain ⟨b, o, sp⟩ := a
      unfold World.cell? at hv0
      split at hv0
      · rename_i c u fr hx
        split at hv0
        · cases hv0
        rename_i hs
        have hsp : sp = none := by simpa using hs
        subst hsp
        have hg : (Hp.all W).get b = some (.cells (c.toList.map (selfX (Mp.all W))) u 1) := by rw [Hp.all_get, allObj, hx]
        have at' : ∀ i j, i < len → j < P.cellsOf e → W.cell? (((⟨b, o, none⟩ : Addr).add (i * P.cellsOf e)).add j) = c.toList[o + i * P.cellsOf e + j]? := fun i j _ _ => by
          rw [addr_add, addr_add]; simp [World.cell?, hx]
        have hfit : o + len * P.cellsOf e ≤ c.toList.length := by
          obtain ⟨v, hv⟩ := cell (len - 1) (P.cellsOf e - 1) (by omega) (by omega)
          rw [at' _ _ (by omega) (by omega)] at hv
          have := (List.getElem?_eq_some_iff.1 hv).1
          have e1 : len * P.cellsOf e = (len - 1) * P.cellsOf e + P.cellsOf e := by
            conv => lhs; rw [show len = (len - 1) + 1 from by omega, Nat.add_mul, Nat.one_mul]
          omega
        refine .slice hd b o len cap _ u ⟨hle, hm⟩ hab hlp hg (by rw [List.length_map]; exact hfit) fun i hi => ?_
        obtain ⟨cs', hc, hr⟩ := key i hi
        obtain ⟨_, hl', hce⟩ := World.cells?_some hc
        rw [← List.map_drop, ← List.map_take]
        have : (c.toList.drop (o + i * P.cellsOf e)).take (P.cellsOf e) = cs' := by
          apply List.ext_getElem?
          intro j
          by_cases hj : j < P.cellsOf e
          · rw [List.getElem?_take_of_lt hj, List.getElem?_drop, ← at' i j hi hj, hce j hj]
          rw [List.getElem?_eq_none (by rw [List.length_take]; omega), List.getElem?_eq_none (by omega)]
        rw [this]; exact hr
      cases hv0
    | _ => exact .other hd rfl

end

/-- A row of structs, by what each of them is. -/
theorem rows_of {α : Type} {n : Nat} {Q : Nat → α → Prop} (h : ∀ i, i < n → ∃ x, Q i x) : ∃ xs : List α, xs.length = n ∧ ∀ i (hi : i < xs.length), Q i xs[i] := by
  induction n with
  | zero => exact ⟨[], rfl, fun i hi => by simp at hi⟩
  | succ n ih =>
    obtain ⟨xs, hl, hq⟩ := ih fun i hi => h i (by omega)
    obtain ⟨x, hx⟩ := h n (by omega)
    refine ⟨xs ++ [x], by simp [hl], fun i hi => ?_⟩
    by_cases hlt : i < xs.length
    · rw [List.getElem_append_left hlt]; exact hq i hlt
    have : i = n := by simp at hi; omega
    subst this
    subst hl
    simp; exact hx

theorem one_at {cs : List Value} {o : Nat} {u : Value} (h : (cs.drop o).take 1 = [u]) : cs[o]? = some u := by
  have := congrArg (fun l => l[0]?) h
  simpa [List.getElem?_take, List.getElem?_drop] using this

section
variable {P : Program} {h : Hp} {s : TypeId} {fs : Array Field} {cs : List Value}

/-- A field that is an integer. -/
theorem Rd.fld_int (x : Rd P h s cs) (hs : P.underlying s = some (.struct fs)) (i o t : Nat) {k : IntKind} {f : Field} (hi : fs[i]? = some f) (hf : f.type = t ∧ f.offset = o) (ht : P.underlying t = some (.int k)) (hc : P.cellsOf t = 1) : ∃ n : Int, cs[o]? = some (.int k n) ∧ k.min ≤ n ∧ n ≤ k.max := by
  have h1 := (x.inv_struct hs).2 i f hi
  rw [hf.1, hf.2, hc] at h1
  obtain ⟨n, e, hn⟩ := h1.inv_int ht
  exact ⟨n, one_at e, hn⟩
theorem Rd.fld_string (x : Rd P h s cs) (hs : P.underlying s = some (.struct fs)) (i o t : Nat) {f : Field} (hi : fs[i]? = some f) (hf : f.type = t ∧ f.offset = o) (ht : P.underlying t = some .string) (hc : P.cellsOf t = 1) : ∃ b : ByteArray, cs[o]? = some (.string b) ∧ b.size ≤ maxLen := by
  have h1 := (x.inv_struct hs).2 i f hi
  rw [hf.1, hf.2, hc] at h1
  obtain ⟨b, e, hb⟩ := h1.inv_string ht
  exact ⟨b, one_at e, hb⟩
theorem Rd.fld (x : Rd P h s cs) (hs : P.underlying s = some (.struct fs)) (i o t : Nat) {f : Field} (hi : fs[i]? = some f) (hf : f.type = t ∧ f.offset = o) : Rd P h t ((cs.drop o).take (P.cellsOf t)) := by
  have h1 := (x.inv_struct hs).2 i f hi
  rwa [hf.1, hf.2] at h1

/-- Items of one cell each in a row. -/
theorem Rd.cells1 {t e : TypeId} {α : Type} (mk : α → Value) (Q : α → Prop) (hc : ∀ x, cellV (mk x) = true) (ht : P.underlying t = some (.slice e)) (he : P.cellsOf e = 1) (hq : ∀ cs, Rd P h e cs → ∃ x, cs = [mk x] ∧ Q x) (x : Rd P h t cs) :
    ∃ a n c, cs = [.slice a n c] ∧ n ≤ c ∧ c ≤ maxLen ∧ ∃ xs : List α, xs.length = n ∧ Src h (.slice a n c) (xs.map mk) ∧ ∀ x, x ∈ xs → Q x := by
  obtain ⟨a, n, c, rfl, hle, hm, hnil, hlt, hrow⟩ := x.inv_slice ht (by rw [he]; omega)
  refine ⟨a, n, c, rfl, hle, hm, ?_⟩
  rcases hrow with rfl | ⟨b, o, xs, u, rfl, hb, hg, hl, hr⟩
  · refine ⟨[], rfl, ⟨rfl, ?_, rfl, fun a' n' c' e => by cases e; exact hlt _ rfl⟩, fun x hx => by cases hx⟩
    cases a with
    | none => rfl
    | some a => rfl
  rw [he, Nat.mul_one] at hl
  obtain ⟨vals, hvl, hv⟩ := rows_of (n := n) (Q := fun i (z : α) => xs[o + i]? = some (mk z) ∧ Q z) fun i hi => by
    have h1 := hr i hi
    rw [he, Nat.mul_one] at h1
    obtain ⟨z, e, hz⟩ := hq _ h1
    exact ⟨z, one_at e, hz⟩
  refine ⟨vals, hvl, ⟨by simp [lenOfX, hvl], ?_, by simp [List.all_map, List.all_eq_true, hc], fun a' n' c' e => by cases e; exact hb⟩, fun x hx => ?_⟩
  · have hlen : (vals.map mk).length = n := by simp [hvl]
    rw [hlen]
    have e2 : Nat.ble n n = true := (ble_iff _ _).2 (Nat.le_refl _)
    by_cases h0 : n = 0
    · subst h0
      have : vals = [] := List.eq_nil_of_length_eq_zero hvl
      subst this; rfl
    have e3 : Nat.beq n 0 = false := (beq_false _ _).2 h0
    have e4 : Nat.ble (o + n) xs.length = true := (ble_iff _ _).2 hl
    simp only [firstX, e2, cond_true, e3, cond_false, Nat.mul_one, rowOf, hg, e4, Option.some.injEq]
    apply List.ext_getElem?
    intro i
    by_cases hi : i < n
    · rw [List.getElem?_take_of_lt hi, List.getElem?_drop, (hv i (by omega)).1, List.getElem?_map, List.getElem?_eq_getElem (by omega)]; rfl
    rw [List.getElem?_eq_none (by rw [List.length_take]; omega), List.getElem?_eq_none (by omega)]
  obtain ⟨i, hi, rfl⟩ := List.mem_iff_getElem.1 hx
  exact (hv i hi).2

theorem Rd.strings {t e : TypeId} (ht : P.underlying t = some (.slice e)) (hi : P.underlying e = some .string) (he : P.cellsOf e = 1) (x : Rd P h t cs) :
    ∃ a n c, cs = [.slice a n c] ∧ n ≤ c ∧ c ≤ maxLen ∧ ∃ xs : List ByteArray, xs.length = n ∧ Src h (.slice a n c) (xs.map Value.string) ∧ ∀ x, x ∈ xs → x.size ≤ maxLen :=
  x.cells1 Value.string (fun z => z.size ≤ maxLen) (fun _ => rfl) ht he fun _ y => by obtain ⟨n, e, hn⟩ := y.inv_string hi; exact ⟨n, e, hn⟩

end

end Go.X

namespace Go.X

section
variable {E : Env} {fn : FuncId} {nt : Nat} {l : Kn} {h : Hp} {dr : Bool} {ops : Array Oper} {fin rest : List (Oper × List Oper)} {R : Kn → Hp → Prop} {lt : List Oper} {d : Nat} {ty t ty2 : TypeId} {pos : String} {af : Array Edge} {gg : Option (Nat × Bool)} {X Y : Operand}

/-! Shifts -/

end

/-! Scopes, labels -/

section
variable {E : Env} {fn : FuncId} {nt : Nat} {l : Kn} {h : Hp} {Q : Out → Kn → Hp → Prop}

end

end Go.X

namespace Go.X
open Go.RowKit Go.Maps

/-! Integers in order, reckoned plainly -/

/-! What a map's keys are -/

/-- The library's contract. -/
structure SortKeys (P : Program) (f g kt : Nat) : Prop where
  ty : P.underlying kt = some (.int .i64)
  yes : ∀ (Bm b nn : Nat) (D0 : DataW Nat) (R : Value → Option (DataW Nat × List MemPlace)) (w : World), Bm < w.heap.size → w.cell? ⟨Bm, 0, none⟩ = some (.map (some b)) → w.ownsMap P kt R b nn D0 → Maps.size D0 ≤ maxLen → Maps.size D0 * 8 ≤ 140737488355328 →
    Calls P f #[.func (.func g) #[] #[.pointer (some ⟨Bm, 0, none⟩)]] w fun e w' => ∃ (v : Value) (ss : List Int), e = .returned v ∧ ss.Perm (intKeys D0) ∧
      w'.ownsRow w.heap.size kt 1 v ss.length ((ss.mergeSort (fun x y => decide (x ≤ y))).map encZ) ∧ (v = .slice none 0 0 ↔ ss = []) ∧ Below w.heap.size w w'
  no : ∀ (Bm : Nat) (w : World), Bm < w.heap.size → w.cell? ⟨Bm, 0, none⟩ = some (.map none) →
    Calls P f #[.func (.func g) #[] #[.pointer (some ⟨Bm, 0, none⟩)]] w fun e w' => e = .returned (.slice none 0 0) ∧ Below w.heap.size w w'

theorem HRel.low {W : World} {B : Nat → Prop} {M : Mp} {h : Hp} {w : World} (H : HRel W B M h w) {i b δ S : Nat} (hi : M.ρ i = some (b, δ, S)) : b < w.heap.size := by
  obtain ⟨_, _, x, _, h2, _⟩ := H.obj i b δ S hi
  exact (Array.getElem?_eq_some_iff.1 h2).1

/-- A function that is not gone through, more. -/
noncomputable def envSm (E : Env) (g : Nat) (F : List Value → Hp → Option (Value × Hp)) (hl : SmLaw E.P g F) : Env :=
  { E with
    sm := fun f => cond (Nat.beq f g) (some F) (E.sm f)
    hsm := fun f F' hf => by
      cases hb : Nat.beq f g with
      | true =>
        rw [hb] at hf
        simp only [cond_true, Option.some.injEq] at hf
        subst hf
        have := (beq_iff _ _).1 hb
        subst this
        exact hl
      | false => rw [hb] at hf; exact E.hsm f F' hf
    q := false
    hq := fun h => by cases h }

end Go.X

namespace Go.X

section
variable {E : Env} {fn : FuncId} {nt : Nat} {l l' : Kn} {h h' : Hp} {dr : Bool} {ops : Array Oper} {fin rest : List (Oper × List Oper)} {R : Kn → Hp → Prop} {lt : List Oper}
variable {d : Nat} {ty t ty2 : TypeId} {pos : String} {af : Array Edge} {gg : Option (Nat × Bool)} {x y : Operand} {v u w : Value} {op : BinOp}

end

end Go.X
