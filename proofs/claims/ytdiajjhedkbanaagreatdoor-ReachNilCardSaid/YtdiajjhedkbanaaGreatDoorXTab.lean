/- A start from one package-level table, that X only reads: the row's end of a call without arguments. Conditions: the table lies in the memory. -/
import Derived.Test.YtdiajjhedkbanaaGreatDoorXNil
import Derived.Lib.LaidTab
namespace Go.X
open Go.RowKit

/-- The memory that nothing lies in but a table. -/
def tabHp (g : Nat) (cs : List Value) (e : TypeId) : Hp := Hp.empty.put g (.cells cs e 1)

def Mp.tab (g S : Nat) : Mp := ⟨fun i => if i = g then some (g, 0, S) else Option.none, fun i => i ≤ 255, fun _ => 0⟩

theorem HRel.tab {w : World} {g : Nat} {cs : Array Value} {e : TypeId} {fr : Nat × Nat} (hg : w.heap[g]? = some (.cells cs e fr)) (hp : ∀ v, v ∈ cs.toList → plainV 4 v = true) (h255 : g ≤ 255) :
    HRel w (fun _ => False) (Mp.tab g cs.size) (tabHp g cs.toList e) w := by
  have hpl : ∀ i b δ S, (Mp.tab g cs.size).ρ i = some (b, δ, S) → i = g ∧ b = g ∧ δ = 0 ∧ S = cs.size := fun i b δ S h => by
    simp only [Mp.tab] at h
    split at h
    · rename_i e; cases h; exact ⟨e, rfl, rfl, rfl⟩
    · cases h
  have hget : (tabHp g cs.toList e).get g = some (.cells cs.toList e 1) := by rw [tabHp, Hp.get_put, if_pos rfl]
  have hget' : ∀ i, i ≠ g → (tabHp g cs.toList e).get i = none := fun i hi => by rw [tabHp, Hp.get_put, if_neg (fun x => hi x.symm)]; exact Hp.get_empty i
  have hro : RO (tabHp g cs.toList e) g := ⟨_, _, hget⟩
  have hn : (tabHp g cs.toList e).n = 256 := rfl
  refine ⟨fun i b δ S h => ?_, fun i j b δ S δ' S' h _ => ?_, fun i hi => ?_, fun i hi => ?_, fun i hk h => ?_, rfl, rfl, rfl, Nat.le_refl _, fun b _ _ => rfl, fun i b δ S h _ => ?_, fun i hi => ⟨hi, fun b δ S h => ?_⟩⟩
  · obtain ⟨rfl, rfl, rfl, rfl⟩ := hpl i b δ S h
    refine ⟨h255, .cells cs.toList e 1, _, hget, hg, cs, fr, rfl, rfl, by simp, fun j v hj => ⟨v, by rw [Nat.zero_add]; simpa using hj, plain_rel _ 4 v (hp v (List.mem_of_getElem? hj))⟩, .inr (.inl ⟨rfl, rfl, rfl, by simp⟩)⟩
  · obtain ⟨rfl, _⟩ := hpl i b δ S h
    exact .inr hro
  · have : i ≤ 255 := hi
    rw [hn]; omega
  · rw [hn] at hi
    exact hget' i (by omega)
  · by_cases e : i = g
    · subst e; simp [Mp.tab] at h
    · exact .inl (hget' i e)
  · obtain ⟨rfl, _⟩ := hpl i b δ S h
    exact .inr hro
  · obtain ⟨rfl, rfl, rfl, _⟩ := hpl i b δ S h
    exact ⟨rfl, rfl⟩

/-- What a call without arguments answers, within so many steps, from some memory. -/
def truthFrom (E : Env) (f : FuncId) (n : Nat) (h : Hp) : Bool :=
  match startX E f [] h with
  | some s => (match endX E f (runX E n s) with
    | some (.bool b) => b
    | _ => false)
  | none => false

theorem tab_below (E : Env) (hm : E.P.follows .mixedOrders = true) {f : FuncId} {n : Nat} {w : World} {g : Nat} {cs : Array Value} {e : TypeId} {fr : Nat × Nat} (hg : w.heap[g]? = some (.cells cs e fr)) (hp : ∀ v, v ∈ cs.toList → plainV 4 v = true) (h255 : g ≤ 255)
    (ht : truthFrom E f n (tabHp g cs.toList e) = true) : Calls E.P f #[] w fun e w' => e = .returned (.bool true) ∧ Below w.heap.size w w' := by
  unfold truthFrom at ht
  split at ht
  · rename_i s hs
    split at ht
    · rename_i b hend
      subst ht
      exact (run_calls E hm rfl (HRel.tab hg hp h255) (.nil _) hs hend).mono fun _ _ ⟨h1, h2, h3, h4, h5, h6⟩ => ⟨h1, ⟨h2, h3, h4, h5, h6⟩⟩
    · cases ht
  · cases ht

/-- Where a listed table lies. -/
theorem tab_block {P : Program} {w : World} {name : String} {g : Nat} {k : IntKind} {zs : List Int} (hn : P.globalNamed name = some g) (h : Lib.TabIs P w name k zs) :
    ∃ e fr, w.heap[g]? = some (.cells (zs.map fun z => Value.int k z).toArray e fr) := by
  unfold Lib.TabIs World.var? at h
  rw [hn] at h
  simp only [Option.bind_some] at h
  cases hh : w.heap[g]? with
  | none => rw [hh] at h; cases h
  | some o =>
    rw [hh] at h
    cases o with
    | cells c e fr =>
      simp only [Option.some.injEq] at h
      exact ⟨e, fr, by rw [h]⟩
    | _ => simp at h

end Go.X
