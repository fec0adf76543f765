/- Chapter 8: the machine over the chapter's program; objects and heaps as they lie in memory. Conditions: none. -/
import Derived.Test.YtkmbfjdmbdpflaaRows
import Derived.Test.YtkmbfjdmbdpflaaXRes
import Derived.Test.YtkmbfjdmbdpflaaXAll
namespace Go.Proofs.Ytkmbfjdmbdpflaa
open Go.X Go.RowKit

theorem heap_mixed : Try.prog.follows .mixedOrders = true := by kernel_rfl
noncomputable def heapE0 : Env := envClone Try.prog 77 Try.f77 Try.func77 (by kernel_rfl) (by kernel_rfl) (by kernel_rfl) (by kernel_rfl)
theorem heap_known : truthX heapE0 18 20000 = true := by kernel_rfl
noncomputable def heapE : Env := envKnown heapE0 18 (truth_below heapE0 heap_mixed heap_known)

/-- An object. -/
structure Ob where
  kind : Int
  of : Int
  vals : List Int
  site : Int
  maker : Int
  nth : Int

abbrev iV (k : Int) : Value := .int .i64 k
abbrev isV (l : List Int) : List Value := l.map fun n => .int .i64 n
abbrev ptrV (i : Nat) : Value := .pointer (some ⟨i, 0, none⟩)

/-- An object's cells. -/
def Ob.cells (o : Ob) (sv : Value) : List Value := [iV o.kind, iV o.of, sv, iV o.site, iV o.maker, iV o.nth]

structure ObAt (h : Hp) (b : Nat) (o : Ob) (bs : List Nat) : Prop where
  at' : ∃ sv, h.get b = some (.cells (o.cells sv) 46 0) ∧ Sl 2 h sv (isV o.vals) bs
  lt : b < h.n
  d : b ∉ bs

theorem ObAt.keep {h h' : Hp} {b : Nat} {o : Ob} {bs cs : List Nat} (x : ObAt h b o bs) (g : ExtB cs h h') (h1 : b ∉ cs) (h2 : ∀ i, i ∈ bs → i ∉ cs) : ObAt h' b o bs := by
  obtain ⟨sv, p, q⟩ := x.at'
  exact ⟨⟨sv, by rw [g.get b x.lt h1]; exact p, q.keep g h2⟩, Nat.lt_of_lt_of_le x.lt g.n, x.d⟩

/-- How many of a maker's there are. -/
def cnt (k : Int) (obs : List Ob) : Int := ((obs.filter fun o => decide (o.maker = k)).length : Nat)

theorem cnt_nil (k : Int) : cnt k [] = 0 := rfl
theorem cnt_append (k : Int) (obs : List Ob) (o : Ob) : cnt k (obs ++ [o]) = cnt k obs + (if o.maker = k then 1 else 0) := by
  unfold cnt
  rw [List.filter_append, List.length_append]
  by_cases h : o.maker = k <;> simp [h]
theorem cnt_le (k : Int) (obs : List Ob) : 0 ≤ cnt k obs ∧ cnt k obs ≤ obs.length := by
  unfold cnt
  have := List.length_filter_le (fun o : Ob => decide (o.maker = k)) obs
  omega

/-- A heap: its objects, where they lie, its slice, its map. -/
structure HeapR (h : Hp) (b : Nat) (obs : List Ob) (ps : List Nat) (vb : List (List Nat)) (sa : Value) (Ba : List Nat) (r : Nat) (M : Ms) (cl : Nat) : Prop where
  top : h.get b = some (.cells [sa, .map (some r)] 87 0)
  all : Sl 99 h sa (ps.map ptrV) Ba
  made : h.get r = some (.map (M.map ent) cl)
  count : ∀ k, (getI M k).getD (iV 0) = iV (cnt k obs)
  lps : ps.length = obs.length
  lvb : vb.length = obs.length
  each : ∀ i (hi : i < obs.length), ObAt h (ps[i]'(by omega)) obs[i] (vb[i]'(by omega))
  nodup : (b :: r :: (Ba ++ ps ++ vb.flatten)).Nodup
  lt : ∀ i, i ∈ b :: r :: (Ba ++ ps ++ vb.flatten) → i < h.n

def HeapR.own (b r : Nat) (Ba ps : List Nat) (vb : List (List Nat)) : List Nat := b :: r :: (Ba ++ ps ++ vb.flatten)

section
variable {h h' : Hp} {b : Nat} {obs : List Ob} {ps : List Nat} {vb : List (List Nat)} {sa : Value} {Ba : List Nat} {r : Nat} {M : Ms} {cl : Nat}

theorem HeapR.keep {cs : List Nat} (x : HeapR h b obs ps vb sa Ba r M cl) (g : ExtB cs h h') (hd : ∀ i, i ∈ HeapR.own b r Ba ps vb → i ∉ cs) : HeapR h' b obs ps vb sa Ba r M cl := by
  have hb := hd b (by simp [HeapR.own])
  have hr := hd r (by simp [HeapR.own])
  refine ⟨by rw [g.get b (x.lt b (by simp)) hb]; exact x.top, x.all.keep g fun i hi => hd i (by simp [HeapR.own, hi]), by rw [g.get r (x.lt r (by simp)) hr]; exact x.made, x.count, x.lps, x.lvb, fun i hi => ?_, x.nodup, fun i hi => Nat.lt_of_lt_of_le (x.lt i hi) g.n⟩
  exact (x.each i hi).keep g (hd _ (by simp [HeapR.own, List.getElem_mem])) fun j hj => hd j (by
    simp only [HeapR.own, List.mem_cons, List.mem_append]
    exact .inr (.inr (.inr (List.mem_flatten.2 ⟨_, List.getElem_mem _, hj⟩))))

theorem HeapR.ext (x : HeapR h b obs ps vb sa Ba r M cl) (g : Ext h h') : HeapR h' b obs ps vb sa Ba r M cl := x.keep (g.b []) (by simp)

end

end Go.Proofs.Ytkmbfjdmbdpflaa
