/- A call without arguments that answers true and leaves all old memory as it was: the row's end. Conditions: none. -/
import Derived.Test.YtkmbfjdmbdpflaaXSim6
import Derived.ProofKit
namespace Go.X
open Go.ChangeShapes Go.WideShapes Go.ChangeAt Go.RowKit

theorem tyOk (P : Program) (t : Nat) (i : TypeInfo) (h : P.types[t]? = some i) : P.info? t = some i := by
  have ht : t < P.types.size := by
    rcases Nat.lt_or_ge t P.types.size with h1 | h1
    · exact h1
    · simp [Array.getElem?_eq_none h1] at h
  simp [Tables.info?, ht, ← h]

def envOf (P : Program) : Env := { P, ty := fun t => P.types[t]?, fn := fun f => P.funcs[f]?, hty := tyOk P, hfn := fun _ _ h => h, ext := fun _ => false, hext := fun _ h => absurd h (by simp), orc := fun _ => none, horc := fun _ _ h => absurd h (by simp) }

/-- The same, where function g is maps.clone. -/
def envClone (P : Program) (g : Nat) (fn : Func) (h1 : P.funcs[g]? = some fn) (h2 : (fn.name == "runtime.NumGoroutine") = false) (h3 : fn.body.isNone = true) (h4 : Extern.findNext fn = none)
    (h5 : Extern.find fn = some Extern.MapsClone.clone) : Env :=
  { envOf P with ext := fun f => Nat.beq f g, hext := fun f h => ⟨fn, (beq_iff f g).1 h ▸ h1, h2, h3, h4, h5⟩ }

/-- X's run, as a contract. -/
theorem truth_below (E : Env) (hm : E.P.follows .mixedOrders = true) {f : FuncId} {n : Nat} (ht : truthX E f n = true) (w : World) :
    Calls E.P f #[] w fun e w' => e = .returned (.bool true) ∧ Below w.heap.size w w' :=
  (truth_calls E hm ht w).mono fun _ _ ⟨h1, h2, h3, h4, h5, h6⟩ => ⟨h1, ⟨h2, h3, h4, h5, h6⟩⟩

/-- X's run that ends with a value without addresses, as a contract. -/
theorem value_below (E : Env) (hm : E.P.follows .mixedOrders = true) {f : FuncId} {n : Nat} {v : Value} (ht : valueX E f n = some v) (hp : plainV 20 v = true) (w : World) :
    Calls E.P f #[] w fun e w' => e = .returned v ∧ Below w.heap.size w w' :=
  (value_calls E hm ht hp w).mono fun _ _ ⟨h1, h2, h3, h4, h5, h6⟩ => ⟨h1, ⟨h2, h3, h4, h5, h6⟩⟩

theorem known_orc {E : Env} {g : Nat} {v0 : Value} (hp : plainV 20 v0 = true) (h : ∀ w, Calls E.P g #[] w fun e w' => e = .returned v0 ∧ Below w.heap.size w w') (f : Nat) (v : Value)
    (hf : cond (Nat.beq f g) (some v0) (E.orc f) = some v) : plainV 20 v = true ∧ ∀ w, Calls E.P f #[] w fun e w' => e = .returned v ∧ Below w.heap.size w w' := by
  cases hx : Nat.beq f g with
  | true =>
    have e := (beq_iff f g).1 hx
    subst e
    rw [hx, cond_true, Option.some.injEq] at hf
    subst hf
    exact ⟨hp, h⟩
  | false =>
    rw [hx, cond_false] at hf
    exact E.horc f v hf

/-- What is known to answer so need not be run again. -/
def envValue (E : Env) (g : Nat) (v0 : Value) (hp : plainV 20 v0 = true) (h : ∀ w, Calls E.P g #[] w fun e w' => e = .returned v0 ∧ Below w.heap.size w w') : Env :=
  { E with orc := fun f => cond (Nat.beq f g) (some v0) (E.orc f), horc := known_orc hp h }

/-- What is known to answer true need not be run again. -/
def envKnown (E : Env) (g : Nat) (h : ∀ w, Calls E.P g #[] w fun e w' => e = .returned (.bool true) ∧ Below w.heap.size w w') : Env := envValue E g (.bool true) rfl h

theorem nil_post {H : Type} {enc : TypeId × Value → H} {P : Program} {f : Func} {s : ChangeSpec} {fresh handsOn apart : Bool} {W W' : World} {t : TypeId} {ds gs : List (DataW H)} {before : List MemPlace}
    (hp : f.params = #[]) (hv : s.vars = []) (hr : f.resultTypes = #[t]) (ht : P.underlying t = some .bool) (hs : (s.fn H []).results = [.lit (.bool true)] ∧ (s.fn H []).args = [] ∧ (s.fn H []).vars = [])
    {args : Array Value} (hW : DataW.Whole enc P f.params.toList s.vars apart W args.toList ds gs before) (hb : Below W.heap.size W W') :
    s.post enc P f apart fresh handsOn false W args (.bool true) W' := by
  have hW' := hW
  obtain ⟨p, q, hA, hV, rfl, hfz, hnd⟩ := hW
  rw [hp] at hA
  rw [hv] at hV
  obtain ⟨rfl, rfl, rfl⟩ := trodAll_none hA
  obtain ⟨rfl, rfl⟩ := trodVars_none hV
  obtain ⟨h1, h2, h3⟩ := hs
  refine ⟨[], [], _, [], [], [], hW', ?_, ?_, ?_, hb.frame _, fun h => by cases h⟩
  · simp only [List.append_nil, h1, hr]
    exact trodAll_mk1 (shut_bool ht true)
  · simp only [List.append_nil, h2, hp]
    exact trodAll_mk0
  · simp only [List.append_nil, h3, hv]
    rfl

end Go.X
