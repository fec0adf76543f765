/- A call without arguments that answers true and leaves all old memory as it was: the row's end. Conditions: none. -/
import Derived.Test.YtkmbfjdmbdpflaaXSim6
import Derived.ProofKit
namespace Go.X
open Go.ChangeShapes Go.WideShapes Go.ChangeAt Go.RowKit

theorem tyOk (P : Program) (t : Nat) (i : TypeInfo) (h : P.types[t]? = some i) : P.info? t = some i := by
  have ht : t < P.types.size := by
    rcases Nat.lt_or_ge t P.types.size with h1 | h1
    · exact h1
    · simp [Array.getElem?_eq_none h1] at h
  simp [Tables.info?, ht, ← h]

def envOf (P : Program) : Env := { P, ty := fun t => P.types[t]?, fn := fun f => P.funcs[f]?, hty := tyOk P, hfn := fun _ _ h => h }

/-- X's run, as a contract. -/
theorem truth_below (P : Program) (hm : P.follows .mixedOrders = true) {f : FuncId} {n : Nat} (ht : truthX (envOf P) f n = true) (w : World) :
    Calls P f #[] w fun e w' => e = .returned (.bool true) ∧ Below w.heap.size w w' :=
  (truth_calls (envOf P) hm ht w).mono fun _ _ ⟨h1, h2, h3, h4, h5, h6⟩ => ⟨h1, ⟨h2, h3, h4, h5, h6⟩⟩

theorem nil_post {H : Type} {enc : TypeId × Value → H} {P : Program} {f : Func} {s : ChangeSpec} {fresh handsOn apart : Bool} {W W' : World} {t : TypeId} {ds gs : List (DataW H)} {before : List MemPlace}
    (hp : f.params = #[]) (hv : s.vars = []) (hr : f.resultTypes = #[t]) (ht : P.underlying t = some .bool) (hs : (s.fn H []).results = [.lit (.bool true)] ∧ (s.fn H []).args = [] ∧ (s.fn H []).vars = [])
    {args : Array Value} (hW : DataW.Whole enc P f.params.toList s.vars apart W args.toList ds gs before) (hb : Below W.heap.size W W') :
    s.post enc P f apart fresh handsOn false W args (.bool true) W' := by
  have hW' := hW
  obtain ⟨p, q, hA, hV, rfl, hfz, hnd⟩ := hW
  rw [hp] at hA
  rw [hv] at hV
  obtain ⟨rfl, rfl, rfl⟩ := trodAll_none hA
  obtain ⟨rfl, rfl⟩ := trodVars_none hV
  obtain ⟨h1, h2, h3⟩ := hs
  refine ⟨[], [], _, [], [], [], hW', ?_, ?_, ?_, hb.frame _, fun h => by cases h⟩
  · simp only [List.append_nil, h1, hr]
    exact trodAll_mk1 (shut_bool ht true)
  · simp only [List.append_nil, h2, hp]
    exact trodAll_mk0
  · simp only [List.append_nil, h3, hv]
    rfl

end Go.X
