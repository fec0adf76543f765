/- The calculus: functions whose results lie in cells; division; strings compared. Conditions: none. -/
import Derived.Test.YtkmbfjdmbdpflaaXMap
namespace Go.X

/-- The results of a function, from what is known, and the memory. -/
def resH (E : Env) (l : Kn) (h : Hp) : List ResultVar → Option (List Value)
  | [] => some []
  | .tmp t :: r => (match lk l t, resH E l h r with
    | some v, some vs => some (v :: vs)
    | _, _ => none)
  | .cell a t :: r => (match lk l a with
    | some (.pointer (some p)) => (match loadX E t p h, resH E l h r with
      | some v, some vs => some (v :: vs)
      | _, _ => none)
    | _ => none)

theorem resH_ok {E : Env} {l : Kn} {tm : Tr Value} {h : Hp} (a : Ag tm l) : ∀ (rs : List ResultVar) (vs : List Value), resH E l h rs = some vs → resultsX E tm h rs = some vs
  | [], _, e => e
  | .tmp t :: r, vs, e => by
    simp only [resH] at e
    split at e
    · rename_i v ws h1 h2
      cases e
      simp only [resultsX, resH_ok a r _ h2, a.ev (o := .tmp t) h1]
    · cases e
  | .cell c t :: r, vs, e => by
    simp only [resH] at e
    split at e
    · rename_i p h1
      split at e
      · rename_i v ws h2 h3
        cases e
        simp only [resultsX, a.ev (o := .tmp c) h1, h2, resH_ok a r _ h3]
      · cases e
    · cases e

/-- Into a function whose results may lie in cells. -/
theorem c_enterH {E : Env} {f : FuncId} {args : List Value} {h : Hp} {Q : Value → Hp → Prop} {fu : Func} {c : Code} (hf : E.fn f = some fu) (hb : fu.body = some c)
    (q : W E f (args.length + (fu.ntmps - args.length)) c (argsL args 0) h fun o l h => (o = .ret ∨ o = .next) ∧ ∃ vs, resH E l h fu.results.toList = some vs ∧ Q (oneOf vs) h) : C E f args h Q := by
  have ag : Ag (argsT args 0 .leaf) (argsL args 0) := fun t v e => argsK_get args 0 .leaf t v (by rw [if_neg (by omega)]; exact e)
  obtain ⟨o, l', h', tm', ⟨ho, vs, h1, h2⟩, a', r⟩ := q _ ag
  refine ⟨_, h', h2, fu, tm', ⟨f, args.length + (fu.ntmps - args.length), argsT args 0 .leaf, [.code c], [], .run, .normal, none⟩, vs, hf, by simp only [enterX, hf, hb], resH_ok a' _ _ h1, rfl, fun kd cs => ?_⟩
  have := r [] kd cs
  rcases ho with rfl | rfl
  · exact this
  · exact ⟨_, Runs.trans this (.step rfl (.refl _ _))⟩

section
variable {E : Env} {l : Kn} {h : Hp} {r : List ResultVar} {vs : List Value} {v : Value} {a : Nat} {t : TypeId}

theorem resH_tmp (h1 : lk l a = some v) (h2 : resH E l h r = some vs) : resH E l h (.tmp a :: r) = some (v :: vs) := by simp only [resH, h1, h2]

theorem resH_agg {b n : Nat} {cs : List Value} {e : TypeId} {m : Nat} (h1 : lk l a = some (.pointer (some ⟨b, 0, none⟩))) (hc : isA E t = true) (hn : E.size t = some n) (hg : h.get b = some (.cells cs e m)) (hl : cs.length = n)
    (h2 : resH E l h r = some vs) : resH E l h (.cell a t :: r) = some (.agg cs.toArray :: vs) := by
  have := loadX_agg (o := 0) hc hn hg (by omega)
  simp only [List.drop_zero, List.take_of_length_le (Nat.le_of_eq hl)] at this
  simp only [resH, h1, this, h2]

theorem resH_cell {b o : Nat} {cs : List Value} {e : TypeId} {m : Nat} (h1 : lk l a = some (.pointer (some ⟨b, o, none⟩))) (hc : isC E t = true) (hg : h.get b = some (.cells cs e m)) (hv : cs[o]? = some v)
    (h2 : resH E l h r = some vs) : resH E l h (.cell a t :: r) = some (v :: vs) := by
  simp only [resH, h1, loadX_cell hc hg hv, h2]
end

/-! The memory, known by some of its blocks alone. -/

theorem wl_at {E : Env} {fn : FuncId} {nt : Nat} {l : Kn} {h : Hp} {dr : Bool} {ops : Array Oper} {fin its : List (Oper × List Oper)} {R : Kn → Hp → Prop} (P : Hp → Prop) (p : P h) (q : ∀ h, P h → WL E fn nt dr ops fin its l h R) : WL E fn nt dr ops fin its l h R := q h p
theorem w_at {E : Env} {fn : FuncId} {nt : Nat} {l : Kn} {h : Hp} {c : Code} {Q : Out → Kn → Hp → Prop} (P : Hp → Prop) (p : P h) (q : ∀ h, P h → W E fn nt c l h Q) : W E fn nt c l h Q := q h p

theorem Ext.of {h h1 h2 : Hp} {cs : List Nat} (g : Ext h h1) (k : ExtB cs h1 h2) (d : ∀ i, i ∈ cs → h.n ≤ i) : Ext h h2 :=
  ⟨Nat.le_trans g.n k.n, fun i hi => (k.get i (Nat.lt_of_lt_of_le hi g.n) fun hc => absurd (d i hc) (by omega)).trans (g.get i hi)⟩
theorem ExtB.put2 (h : Hp) (a b : Nat) (o u : AObj) : ExtB [a, b] h ((h.put a o).put b u) :=
  ((ExtB.put h a o).mono (by simp)).trans ((ExtB.put _ b u).mono (by simp))

theorem Sl.nodup {e : TypeId} {h : Hp} {s : Value} {vs : List Value} {bs : List Nat} (x : Sl e h s vs bs) : bs.Nodup := by
  rcases x with ⟨_, _, rfl⟩ | ⟨_, _, _, _, _, _, rfl⟩ <;> simp

/-! Joining: what holds behind a code, whichever way it went. -/

def Cut (P : Kn → Hp → Prop) (Q : Out → Kn → Hp → Prop) : Out → Kn → Hp → Prop
  | .next, l, h => ∃ l', Sub l' l ∧ P l' h
  | .ret, l, h => Q .ret l h
  | .exit i, l, h => Q (.exit i) l h

theorem w_cut {E : Env} {fn : FuncId} {nt : Nat} {l : Kn} {h : Hp} {a b : Code} {Q : Out → Kn → Hp → Prop} (P : Kn → Hp → Prop) (q : W E fn nt a l h (Cut P Q)) (q2 : ∀ l h, P l h → W E fn nt b l h Q) : W E fn nt (.seq a b) l h Q :=
  w_seq (T.mono q fun o l h hh => by
    cases o with
    | next =>
      obtain ⟨l', s, p⟩ := hh
      exact w_weak l' s (q2 l' h p)
    | ret => exact hh
    | exit i => exact hh)
theorem cut_exit {P : Kn → Hp → Prop} {Q : Out → Kn → Hp → Prop} {l : Kn} {h : Hp} {i : Nat} (q : Q (.exit i) l h) : Cut P Q (.exit i) l h := q

end Go.X
