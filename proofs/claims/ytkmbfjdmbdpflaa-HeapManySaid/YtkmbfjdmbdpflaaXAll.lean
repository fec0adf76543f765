/- A start from the whole of the old memory: X has all of its blocks, and only reads them. Conditions: none. -/
import Derived.Test.YtkmbfjdmbdpflaaXWS
namespace Go.X
open Go.RowKit

/-- Every block lies where it lies. -/
def Mp.all (w : World) : Mp where
  ρ i := match w.heap[i]? with
    | some (.cells cs _ _) => some (i, 0, cs.size)
    | _ => Option.none
  K i := i < max w.heap.size 256
  md _ := 0

theorem all_rel (M : Mp) : ∀ v : Value, ∃ x, VRel M x v
  | .agg cs => by
    have h : ∀ i : Fin cs.size, ∃ x, VRel M x cs[i] := fun i => all_rel M cs[i]
    have hc := fun i => Classical.choose_spec (h i)
    refine ⟨.agg (Array.ofFn fun i => Classical.choose (h i)), .agg (by simp) fun i v w hv hw => ?_⟩
    simp only [Array.getElem?_toList, Array.getElem?_ofFn] at hv hw
    split at hv
    · rename_i hi
      cases hv
      rw [Array.getElem?_eq_getElem hi] at hw
      cases hw
      exact hc ⟨i, hi⟩
    · cases hv
  | .tuple cs => by
    have h : ∀ i : Fin cs.size, ∃ x, VRel M x cs[i] := fun i => all_rel M cs[i]
    have hc := fun i => Classical.choose_spec (h i)
    refine ⟨.tuple (Array.ofFn fun i => Classical.choose (h i)), .tuple (by simp) fun i v w hv hw => ?_⟩
    simp only [Array.getElem?_toList, Array.getElem?_ofFn] at hv hw
    split at hv
    · rename_i hi
      cases hv
      rw [Array.getElem?_eq_getElem hi] at hw
      cases hw
      exact hc ⟨i, hi⟩
    · cases hv
  | .bool b => ⟨_, .bool b⟩
  | .int k n => ⟨_, .int k n⟩
  | .float k n => ⟨_, .float k n⟩
  | .complex k a b => ⟨_, .complex k a b⟩
  | .string s => ⟨_, .string s⟩
  | .pointer a => ⟨_, .junk 0 trivial⟩
  | .slice a n c => ⟨_, .junk 0 trivial⟩
  | .map r => ⟨_, .junk 0 trivial⟩
  | .chan r => ⟨_, .junk 0 trivial⟩
  | .func f a b => ⟨_, .junk 0 trivial⟩
  | .nilFunc => ⟨_, .nilFunc⟩
  | .iface t v => ⟨_, .junk 0 trivial⟩
  | .nilIface => ⟨_, .nilIface⟩
termination_by v => SizeOf.sizeOf v
decreasing_by all_goals (simp_wf; have := Array.sizeOf_getElem cs i.1 i.2; omega)

open Classical in
/-- A value, as X has it: itself, where that may be. -/
noncomputable def selfX (M : Mp) (v : Value) : Value := if VRel M v v then v else Classical.choose (all_rel M v)

theorem selfX_rel (M : Mp) (v : Value) : VRel M (selfX M v) v := by
  unfold selfX
  split
  · assumption
  · exact Classical.choose_spec (all_rel M v)

theorem selfX_eq {M : Mp} {v : Value} (h : VRel M v v) : selfX M v = v := by rw [selfX, if_pos h]

noncomputable def allObj (M : Mp) (w : World) (i : Nat) : Option AObj := match w.heap[i]? with
  | some (.cells cs e _) => some (.cells (cs.toList.map (selfX M)) e 1)
  | _ => Option.none

noncomputable def allT (M : Mp) (w : World) : Nat → Tr AObj
  | 0 => .leaf
  | n + 1 => match allObj M w n with
    | some o => (allT M w n).set (n + 1) n o
    | Option.none => allT M w n

theorem allT_get (M : Mp) (w : World) : ∀ n i, (allT M w n).get i = if i < n then allObj M w i else Option.none
  | 0, i => rfl
  | n + 1, i => by
    unfold allT
    split
    · rename_i o ho
      rw [get_set _ _ _ _ _ (by omega), allT_get M w n i]
      by_cases h1 : n = i
      · subst h1; rw [if_pos rfl, if_pos (by omega), ho]
      · rw [if_neg h1]
        by_cases h2 : i < n
        · rw [if_pos h2, if_pos (by omega)]
        · rw [if_neg h2, if_neg (by omega)]
    · rename_i ho
      rw [allT_get M w n i]
      by_cases h1 : n = i
      · subst h1; rw [if_neg (by omega), if_pos (by omega), ho]
      · by_cases h2 : i < n
        · rw [if_pos h2, if_pos (by omega)]
        · rw [if_neg h2, if_neg (by omega)]

/-- The memory, as X has it. -/
noncomputable def Hp.all (w : World) : Hp := ⟨allT (Mp.all w) w w.heap.size, max w.heap.size 256⟩

theorem Hp.all_get (w : World) (i : Nat) : (Hp.all w).get i = allObj (Mp.all w) w i := by
  show (allT (Mp.all w) w w.heap.size).get i = _
  rw [allT_get]
  split
  · rfl
  · rename_i h
    unfold allObj
    rw [Array.getElem?_eq_none (by omega)]

theorem HRel.all (w : World) : HRel w (fun _ => False) (Mp.all w) (Hp.all w) w := by
  have hpl : ∀ i b δ S, (Mp.all w).ρ i = some (b, δ, S) → ∃ cs e fr, w.heap[i]? = some (.cells cs e fr) ∧ b = i ∧ δ = 0 ∧ S = cs.size := fun i b δ S h => by
    simp only [Mp.all] at h
    split at h
    · rename_i cs e fr hx
      cases h
      exact ⟨cs, e, fr, hx, rfl, rfl, rfl⟩
    · cases h
  have hro : ∀ i b δ S, (Mp.all w).ρ i = some (b, δ, S) → RO (Hp.all w) i := fun i b δ S h => by
    obtain ⟨cs, e, fr, hx, _⟩ := hpl i b δ S h
    exact ⟨cs.toList.map (selfX (Mp.all w)), e, by rw [Hp.all_get, allObj, hx]⟩
  refine ⟨fun i b δ S h => ?_, fun i j b δ S δ' S' h _ => .inr (hro i b δ S h), fun i hi => hi, fun i hi => ?_, fun i _ h => ?_, rfl, rfl, rfl, Nat.le_refl _, fun b _ _ => rfl, fun i b δ S h _ => .inr (hro i b δ S h), fun i hi => ⟨?_, fun b δ S h => ?_⟩⟩
  · obtain ⟨cs, e, fr, hx, rfl, rfl, rfl⟩ := hpl i b δ S h
    have hlt := (Array.getElem?_eq_some_iff.1 hx).1
    refine ⟨show b < max w.heap.size 256 by omega, .cells (cs.toList.map (selfX (Mp.all w))) e 1, _, by rw [Hp.all_get, allObj, hx], hx, cs, fr, rfl, rfl, by simp, fun j v hj => ?_, .inr (.inl ⟨rfl, rfl, rfl, by simp⟩)⟩
    rw [List.getElem?_map] at hj
    cases hc : cs.toList[j]? with
    | none => rw [hc] at hj; cases hj
    | some u =>
      rw [hc] at hj
      cases hj
      exact ⟨u, by rw [Nat.zero_add]; simpa using hc, selfX_rel _ _⟩
  · have : max w.heap.size 256 ≤ i := hi
    rw [Hp.all_get, allObj, Array.getElem?_eq_none (by omega)]
  · rw [Hp.all_get, allObj]
    simp only [Mp.all] at h
    split at h
    · cases h
    · rename_i hx
      exact .inl rfl
  · show i < max w.heap.size 256; omega
  · obtain ⟨cs, e, fr, hx, rfl, rfl, rfl⟩ := hpl i b δ S h
    exact ⟨rfl, rfl⟩

/-! What X has of the arguments -/

section
variable {w : World}

theorem all_slice (a : Addr) (n c : Nat) (h : a.block < w.heap.size) : VRel (Mp.all w) (.slice (some a) n c) (.slice (some a) n c) := by
  refine .sl ⟨show a.block < max w.heap.size 256 by omega, fun b δ S hb => .inl ⟨rfl, ?_, rfl⟩⟩
  simp only [Mp.all] at hb
  split at hb
  · cases hb; simp
  · cases hb
theorem all_ptr (a : Addr) (h : a.block < w.heap.size) : VRel (Mp.all w) (.pointer (some a)) (.pointer (some a)) := by
  refine .ptr ⟨show a.block < max w.heap.size 256 by omega, fun b δ S hb => ?_⟩
  simp only [Mp.all] at hb
  split at hb
  · cases hb; simp
  · cases hb

/-- A cell of the memory, as X has it. -/
theorem all_cell {a : Addr} {v : Value} (h : w.cell? a = some v) (hv : VRel (Mp.all w) v v) :
    a.spot = Option.none ∧ a.block < w.heap.size ∧ ∃ cs e, (Hp.all w).get a.block = some (.cells cs e 1) ∧ cs[a.off]? = some v := by
  unfold World.cell? at h
  split at h
  · rename_i c e fr hx
    split at h
    · cases h
    · rename_i hs
      refine ⟨by simpa using hs, (Array.getElem?_eq_some_iff.1 hx).1, c.toList.map (selfX (Mp.all w)), e, by rw [Hp.all_get, allObj, hx], ?_⟩
      rw [List.getElem?_map]
      have : c.toList[a.off]? = some v := by simpa using h
      rw [this, Option.map_some, selfX_eq hv]
  · cases h

/-- Items of one cell each, that follow each other. -/
theorem all_src {a : Addr} {n c : Nat} {V : Nat → Value} (h : ∀ i, i < n → w.cell? (a.add i) = some (V i)) (hv : ∀ i, i < n → VRel (Mp.all w) (V i) (V i)) (hc : ∀ i, i < n → cellV (V i) = true) (hb : a.block < w.heap.size) :
    Src (Hp.all w) (.slice (some a) n c) ((List.range n).map V) := by
  refine ⟨by simp [lenOfX], ?_, by simpa [List.all_eq_true] using hc, fun a' n' c' e => by cases e; show a.block < max w.heap.size 256; omega⟩
  have e1 : Nat.ble n n = true := (ble_iff _ _).2 (Nat.le_refl _)
  simp only [List.length_map, List.length_range, firstX, e1, cond_true]
  by_cases hn : n = 0
  · subst hn; rfl
  · rw [(beq_false n 0).2 hn, cond_false, Nat.mul_one]
    have h0 := all_cell (h 0 (by omega)) (hv 0 (by omega))
    have ea : a.add 0 = a := by simp [Addr.add]
    rw [ea] at h0
    obtain ⟨hs, _, cs, e, hg, _⟩ := h0
    obtain ⟨b, o, sp⟩ := a
    simp only at hs hg
    subst hs
    have hat : ∀ i, i < n → cs[o + i]? = some (V i) := fun i hi => by
      obtain ⟨_, _, cs', e', hg', h4⟩ := all_cell (h i hi) (hv i hi)
      rw [addr_add] at hg' h4
      simp only at hg' h4
      rw [hg] at hg'
      cases hg'
      exact h4
    have hlen : o + n ≤ cs.length := by
      have := (List.getElem?_eq_some_iff.1 (hat (n - 1) (by omega))).1
      omega
    have e2 : Nat.ble (o + n) cs.length = true := (ble_iff _ _).2 hlen
    simp only [rowOf, hg, e2, cond_true, Option.some.injEq]
    apply List.ext_getElem?
    intro i
    by_cases hi : i < n
    · rw [List.getElem?_take_of_lt hi, List.getElem?_drop, hat i hi]
      simp [hi]
    · rw [List.getElem?_eq_none (by simp; omega), List.getElem?_eq_none (by simp; omega)]

end

/-- What a call comes to in the calculus, from the whole of the old memory. -/
theorem open_below (E : Env) (hm : E.P.follows .mixedOrders = true) {f : FuncId} {args : List Value} {args' : Array Value} {w : World} (hv : VsRel (Mp.all w) args args'.toList)
    (c : C E f args (Hp.all w) fun v _ => v = .bool true) : Calls E.P f args' w fun e w' => e = .returned (.bool true) ∧ Below w.heap.size w w' := by
  obtain ⟨s0, n, hs, he⟩ := c.run
  exact run_below E hm (HRel.all w) hv hs he

end Go.X
