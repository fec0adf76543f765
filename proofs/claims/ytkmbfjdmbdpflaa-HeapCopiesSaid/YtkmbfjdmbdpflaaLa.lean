/- Chapter 8: the machine over the chapter's program; objects and heaps as they lie in memory. Conditions: none. Chapter 8, the program's side: New, Count, at, add. Conditions: none. Chapter 8, the program's side: add, Make, Object. Conditions: none. Chapter 8, the program's side: Make, Object. Conditions: none. HeapMany, in the calculus. Conditions: none. Chapter 8, the document's side: how its heap lies in memory; Has, Len, Is. Conditions: none. Chapter 8, the document's side: Is, Get, Set. Conditions: none. Chapter 8, the document's side: Set, SameObject. Conditions: none. Chapter 8, the document's side: SameObject. Conditions: none. Chapter 8, the document's side: add, Make, Closure. Conditions: none. Chapter 8: Make and Closure of the document; Closure of the program. Conditions: none. Chapter 8, the program's side: Is, Len, Get, Set. Conditions: none. Chapter 8, the program's side: Set. Conditions: none. Chapter 8: the acts; few. Conditions: none. Chapter 8: both heaps side by side. Conditions: none. Chapter 8: the law's do: an act upon both heaps. Conditions: none. -/
import Derived.Test.YtkmbfjdmbdpflaaRows
import Derived.Test.YtkmbfjdmbdpflaaXc
namespace Go.Proofs.Ytkmbfjdmbdpflaa
open Go.X Go.RowKit

theorem heap_mixed : Try.prog.follows .mixedOrders = true := by kernel_rfl
noncomputable def heapE0 : Env := envClone Try.prog 77 Try.f77 Try.func77 (by kernel_rfl) (by kernel_rfl) (by kernel_rfl) (by kernel_rfl)
theorem heap_known : truthX heapE0 18 20000 = true := by kernel_rfl
noncomputable def heapE : Env := envKnown heapE0 18 (truth_below heapE0 heap_mixed heap_known)

/-- An object. -/
structure Ob where
  kind : Int
  of : Int
  vals : List Int
  site : Int
  maker : Int
  nth : Int

abbrev iV (k : Int) : Value := .int .i64 k
abbrev isV (l : List Int) : List Value := l.map fun n => .int .i64 n
abbrev ptrV (i : Nat) : Value := .pointer (some ⟨i, 0, none⟩)

/-- An object's cells. -/
def Ob.cells (o : Ob) (sv : Value) : List Value := [iV o.kind, iV o.of, sv, iV o.site, iV o.maker, iV o.nth]

structure ObAt (h : Hp) (b : Nat) (o : Ob) (bs : List Nat) : Prop where
  at' : ∃ sv, h.get b = some (.cells (o.cells sv) 46 0) ∧ Sl 2 h sv (isV o.vals) bs
  lt : b < h.n
  d : b ∉ bs

theorem ObAt.keep {h h' : Hp} {b : Nat} {o : Ob} {bs cs : List Nat} (x : ObAt h b o bs) (g : ExtB cs h h') (h1 : b ∉ cs) (h2 : ∀ i, i ∈ bs → i ∉ cs) : ObAt h' b o bs := by
  obtain ⟨sv, p, q⟩ := x.at'
  exact ⟨⟨sv, by rw [g.get b x.lt h1]; exact p, q.keep g h2⟩, Nat.lt_of_lt_of_le x.lt g.n, x.d⟩

/-- How many of a maker's there are. -/
def cnt (k : Int) (obs : List Ob) : Int := ((obs.filter fun o => decide (o.maker = k)).length : Nat)

theorem cnt_nil (k : Int) : cnt k [] = 0 := rfl
theorem cnt_append (k : Int) (obs : List Ob) (o : Ob) : cnt k (obs ++ [o]) = cnt k obs + (if o.maker = k then 1 else 0) := by
  unfold cnt
  rw [List.filter_append, List.length_append]
  by_cases h : o.maker = k <;> simp [h]
theorem cnt_le (k : Int) (obs : List Ob) : 0 ≤ cnt k obs ∧ cnt k obs ≤ obs.length := by
  unfold cnt
  have := List.length_filter_le (fun o : Ob => decide (o.maker = k)) obs
  omega

/-- A heap: its objects, where they lie, its slice, its map. -/
structure HeapR (h : Hp) (b : Nat) (obs : List Ob) (ps : List Nat) (vb : List (List Nat)) (sa : Value) (Ba : List Nat) (r : Nat) (M : Ms) (cl : Nat) : Prop where
  top : h.get b = some (.cells [sa, .map (some r)] 87 0)
  all : Sl 99 h sa (ps.map ptrV) Ba
  made : h.get r = some (.map (M.map ent) cl)
  count : ∀ k, (getI M k).getD (iV 0) = iV (cnt k obs)
  lps : ps.length = obs.length
  lvb : vb.length = obs.length
  each : ∀ i (hi : i < obs.length), ObAt h (ps[i]'(by omega)) obs[i] (vb[i]'(by omega))
  nodup : (b :: r :: (Ba ++ ps ++ vb.flatten)).Nodup
  lt : ∀ i, i ∈ b :: r :: (Ba ++ ps ++ vb.flatten) → i < h.n

def HeapR.own (b r : Nat) (Ba ps : List Nat) (vb : List (List Nat)) : List Nat := b :: r :: (Ba ++ ps ++ vb.flatten)

section
variable {h h' : Hp} {b : Nat} {obs : List Ob} {ps : List Nat} {vb : List (List Nat)} {sa : Value} {Ba : List Nat} {r : Nat} {M : Ms} {cl : Nat}

theorem HeapR.keep {cs : List Nat} (x : HeapR h b obs ps vb sa Ba r M cl) (g : ExtB cs h h') (hd : ∀ i, i ∈ HeapR.own b r Ba ps vb → i ∉ cs) : HeapR h' b obs ps vb sa Ba r M cl := by
  have hb := hd b (by simp [HeapR.own])
  have hr := hd r (by simp [HeapR.own])
  refine ⟨by rw [g.get b (x.lt b (by simp)) hb]; exact x.top, x.all.keep g fun i hi => hd i (by simp [HeapR.own, hi]), by rw [g.get r (x.lt r (by simp)) hr]; exact x.made, x.count, x.lps, x.lvb, fun i hi => ?_, x.nodup, fun i hi => Nat.lt_of_lt_of_le (x.lt i hi) g.n⟩
  exact (x.each i hi).keep g (hd _ (by simp [HeapR.own, List.getElem_mem])) fun j hj => hd j (by
    simp only [HeapR.own, List.mem_cons, List.mem_append]
    exact .inr (.inr (.inr (List.mem_flatten.2 ⟨_, List.getElem_mem _, hj⟩))))

theorem HeapR.ext (x : HeapR h b obs ps vb sa Ba r M cl) (g : Ext h h') : HeapR h' b obs ps vb sa Ba r M cl := x.keep (g.b []) (by simp)

end

end Go.Proofs.Ytkmbfjdmbdpflaa

namespace Go.Proofs.Ytkmbfjdmbdpflaa
open Go.X

theorem el99 : El heapE 84 99 7 := ⟨by kernel_rfl, by kernel_rfl, by kernel_rfl, .pointer none, by kernel_rfl, rfl⟩
theorem el2 : El heapE 44 2 7 := ⟨by kernel_rfl, by kernel_rfl, by kernel_rfl, .int .i64 0, by kernel_rfl, rfl⟩
theorem mt : MapT heapE 85 3 3 := ⟨by kernel_rfl, by kernel_rfl⟩

theorem nodup_push {b r p n : Nat} {Ba Ba' ps bs : List Nat} {vb : List (List Nat)} (x : (b :: r :: (Ba ++ ps ++ vb.flatten)).Nodup) (xlt : ∀ i, i ∈ b :: r :: (Ba ++ ps ++ vb.flatten) → i < n)
    (hp : p ∉ b :: r :: (Ba ++ ps ++ vb.flatten)) (hpn : p < n) (hbs : ∀ i, i ∈ bs → i ∉ b :: r :: (Ba ++ ps ++ vb.flatten)) (hbn : ∀ i, i ∈ bs → i < n) (hpb : p ∉ bs) (hn : bs.Nodup) (hBa : ∀ i, i ∈ Ba' → i ∈ Ba ∨ n ≤ i) (hBn : Ba'.Nodup) :
    (b :: r :: (Ba' ++ (ps ++ [p]) ++ (vb ++ [bs]).flatten)).Nodup := by
  rw [List.flatten_append, List.flatten_cons, List.flatten_nil, List.append_nil]
  generalize vb.flatten = F at *
  simp only [List.nodup_cons, List.nodup_append, List.mem_append, List.mem_cons, List.not_mem_nil, or_false] at *
  grind

section
variable {h h' : Hp} {b : Nat} {obs : List Ob} {ps : List Nat} {vb : List (List Nat)} {sa : Value} {Ba : List Nat} {r : Nat} {M : Ms} {cl : Nat}

/-- New -/
theorem c19 : C heapE 19 [] h fun v h' => ∃ b r, v = ptrV b ∧ HeapR h' b [] [] [] (.slice none 0 0) [] r [] 0 ∧ Ext h h' ∧ h.n ≤ b ∧ h.n ≤ r := by
  refine c_enter (fu := Try.f19) (by kernel_rfl) rfl ?_
  refine w_seq ?_
  refine w_region (by kernel_rfl) ?_
  refine o_assign gn rfl rfl ?_
  refine wl_end ?_
  refine w_seq ?_
  refine w_region (by kernel_rfl) ?_
  refine o_makeMap gn rfl ?_
  refine o_build (zv := .agg #[.slice none 0 0, .map none]) (pl := [(0, 1), (1, 1)]) [(1, _)] gn rfl (by kernel_rfl) (by kernel_rfl) rfl rfl ?_
  refine o_box gn rfl rfl ?_
  refine o_assign gn rfl rfl ?_
  refine wl_end ?_
  refine w_ret ?_
  refine ⟨.inl rfl, _, rfl, ?_⟩
  refine ⟨_, _, rfl, ⟨Hp.get_alloc_self _ _, .inl ⟨rfl, rfl, rfl⟩, ?_, fun k => rfl, rfl, rfl, fun i hi => absurd hi (by simp), ?_, ?_⟩, (Ext.alloc _ _).trans (Ext.alloc _ _), ?_, Nat.le_refl _⟩
  · rw [Hp.get_alloc, if_neg (by rw [Hp.n_alloc]; omega)]; exact Hp.get_alloc_self _ _
  · simp [Hp.n_alloc]
  · intro i hi; simp [Hp.n_alloc] at hi ⊢; omega
  · rw [Hp.n_alloc]; omega

/-- Count -/
theorem c22 (hl : HeapR h b obs ps vb sa Ba r M cl) : CP heapE 22 [ptrV b] h (iV obs.length) := by
  obtain ⟨a, rfl⟩ := hl.all.val
  have ht := hl.top
  refine c_enter (fu := Try.f22) (by kernel_rfl) rfl ?_
  refine w_seq ?_
  refine w_region (by kernel_rfl) ?_
  refine o_assign gn rfl rfl ?_
  refine wl_end ?_
  refine w_seq ?_
  refine w_seq ?_
  refine w_region (by kernel_rfl) ?_
  refine o_move gn rfl rfl ?_
  refine o_eqp gn rfl rfl rfl (by kernel_rfl) ?_
  refine wl_end ?_
  refine w_cond rfl (fun hb => ?_) fun hb => ?_
  · skip
    refine w_seq ?_
    refine w_region (by kernel_rfl) ?_
    refine o_assign gn rfl rfl ?_
    refine wl_end ?_
    refine w_ret ?_
    refine ⟨.inl rfl, _, rfl, ?_⟩
    cases hb
  · skip
    refine w_skip ?_
    refine w_seq ?_
    refine w_region (by kernel_rfl) ?_
    refine o_move gn rfl rfl ?_
    refine o_nilCheck gn rfl rfl ?_
    refine o_fieldAddr (off := 0) gn rfl rfl (by kernel_rfl) ?_
    refine o_load gn rfl rfl (by kernel_rfl) (by assumption) rfl ?_
    refine o_len gn rfl rfl (by kernel_rfl) ?_
    refine o_assign gn rfl rfl ?_
    refine wl_end ?_
    refine w_ret ?_
    refine ⟨.inl rfl, _, rfl, ?_⟩
    exact ⟨by simp [oneOf, hl.lps], rfl⟩

/-- at -/
def atV (ps : List Nat) (id : Int) : Value := if 1 ≤ id ∧ id ≤ ps.length then ptrV ((ps[(id - 1).toNat]?).getD 0) else .pointer none

theorem c55 {id : Int} (hl : HeapR h b obs ps vb sa Ba r M cl) (hps : ps.length ≤ 100000) : CP heapE 55 [ptrV b, iV id] h (atV ps id) := by
  obtain ⟨a, rfl⟩ := hl.all.val
  have ht := hl.top
  have hlen : (ps.map ptrV).length = ps.length := by simp
  refine c_enter (fu := Try.f55) (by kernel_rfl) rfl ?_
  refine w_seq ?_
  refine w_region (by kernel_rfl) ?_
  refine o_assign gn rfl rfl ?_
  refine wl_end ?_
  refine w_seq ?_
  refine w_seq ?_
  refine w_region (by kernel_rfl) ?_
  refine o_move gn rfl rfl ?_
  refine o_eqp gn rfl rfl rfl (by kernel_rfl) ?_
  refine o_move gn rfl rfl ?_
  refine o_or (n := 2) rfl rfl rfl gn rfl (fun hb => by
      refine o_move (gy rfl rfl rfl hb) rfl rfl ?_
      refine o_lss (gy rfl rfl rfl hb) rfl rfl rfl ?_
      exact wl_end ⟨rfl, rfl, 2, rfl, rfl⟩) ?_
  refine o_move gn rfl rfl ?_
  refine o_or (n := 7) rfl rfl rfl gn rfl (fun hb => by
      refine o_move (gy rfl rfl rfl hb) rfl rfl ?_
      refine o_move (gy rfl rfl rfl hb) rfl rfl ?_
      refine o_nilCheck (gy rfl rfl rfl hb) rfl rfl ?_
      refine o_fieldAddr (off := 0) (gy rfl rfl rfl hb) rfl rfl (by kernel_rfl) ?_
      refine o_load (gy rfl rfl rfl hb) rfl rfl (by kernel_rfl) (by assumption) rfl ?_
      refine o_len (gy rfl rfl rfl hb) rfl rfl (by kernel_rfl) ?_
      refine o_gtr (gy rfl rfl rfl hb) rfl rfl rfl ?_
      exact wl_end ⟨rfl, rfl, 7, rfl, rfl⟩) ?_
  refine wl_end ?_
  refine w_cond rfl (fun hb => ?_) fun hb => ?_
  · skip
    refine w_seq ?_
    refine w_region (by kernel_rfl) ?_
    refine o_assign gn rfl rfl ?_
    refine wl_end ?_
    refine w_ret ?_
    refine ⟨.inl rfl, _, rfl, ?_⟩
    have hr : ¬ (1 ≤ id ∧ id ≤ ps.length) := by simp at hb; omega
    exact ⟨by rw [atV, if_neg hr]; rfl, rfl⟩
  · skip
    have hr : 1 ≤ id ∧ id ≤ ps.length := by simp at hb; omega
    obtain ⟨bb, m, ea, hbb, hm, hblt, hB⟩ := hl.all.at (by omega)
    cases ea
    refine w_skip ?_
    refine w_seq ?_
    refine w_region (by kernel_rfl) ?_
    refine o_move gn rfl rfl ?_
    refine o_nilCheck gn rfl rfl ?_
    refine o_fieldAddr (off := 0) gn rfl rfl (by kernel_rfl) ?_
    refine o_load gn rfl rfl (by kernel_rfl) (by assumption) rfl ?_
    refine o_move gn rfl rfl ?_
    refine o_sub gn rfl rfl rfl (by omega) (by omega) ?_
    refine o_indexAddr (zz := 1) gn rfl rfl rfl (by kernel_rfl) (by omega) (by omega) ?_
    have hv : (ps.map ptrV)[0 + (id - 1).toNat * 1]? = some (ptrV ((ps[(id - 1).toNat]?).getD 0)) := by
      rw [Nat.zero_add, Nat.mul_one, List.getElem?_map, List.getElem?_eq_getElem (show (id - 1).toNat < ps.length by omega)]; rfl
    refine o_load gn rfl rfl (by kernel_rfl) hbb hv ?_
    refine o_assign gn rfl rfl ?_
    refine wl_end ?_
    refine w_ret ?_
    refine ⟨.inl rfl, _, rfl, ?_⟩
    exact ⟨by rw [atV, if_pos hr]; rfl, rfl⟩

/-- slices.Clone -/
theorem c73 {a : Option Addr} {n c : Nat} {xs : List Value} (hs : Src h (.slice a n c) xs) (hn : xs.length ≤ 100000) :
    C heapE 73 [.slice a n c] h fun v h' => ∃ bs, Sl 2 h' v xs bs ∧ Ext h h' ∧ ∀ i, i ∈ bs → h.n ≤ i := by
  obtain ⟨v', h', bs', h1, h2, h3, h4⟩ := append_new (E := heapE) el2 hs (by omega)
  refine c_enter (fu := Try.f73) (by kernel_rfl) rfl ?_
  refine w_seq ?_
  refine w_region (by kernel_rfl) ?_
  refine o_assign gn rfl rfl ?_
  refine wl_end ?_
  refine w_seq ?_
  refine w_seq ?_
  refine w_region (by kernel_rfl) ?_
  refine o_move gn rfl rfl ?_
  refine o_eqs gn rfl rfl rfl (by kernel_rfl) ?_
  refine wl_end ?_
  refine w_cond rfl (fun hb => ?_) fun hb => ?_
  · skip
    refine w_seq ?_
    refine w_region (by kernel_rfl) ?_
    refine o_assign gn rfl rfl ?_
    refine wl_end ?_
    refine w_ret ?_
    refine ⟨.inl rfl, _, rfl, ?_⟩
    simp only [Option.isNone_iff_eq_none] at hb; subst hb; exact ⟨[], .inl ⟨rfl, hs.nil, rfl⟩, .refl _, by simp⟩
  · skip
    refine w_skip ?_
    refine w_seq ?_
    refine w_region (by kernel_rfl) ?_
    refine o_buildSlice (e := 2) (z := 0) (zv := .int .i64 0) [] gn rfl (by kernel_rfl) (by kernel_rfl) (by kernel_rfl) (by kernel_rfl) rfl rfl ?_
    refine o_move gn rfl rfl ?_
    refine o_append gn rfl rfl rfl h1 ag0 ?_
    refine o_assign gn rfl rfl ?_
    refine wl_end ?_
    refine w_ret ?_
    refine ⟨.inl rfl, _, rfl, ?_⟩
    exact ⟨bs', h2, h3, h4⟩

/-- copied -/
theorem c56 {p : Nat} {o : Ob} {bs : List Nat} (ho : ObAt h p o bs) (hn : o.vals.length ≤ 100000) :
    C heapE 56 [ptrV p] h fun v h' => ∃ sv bs', v = .agg (o.cells sv).toArray ∧ Sl 2 h' sv (isV o.vals) bs' ∧ Ext h h' ∧ ∀ i, i ∈ bs' → h.n ≤ i := by
  obtain ⟨sv, hp, hs⟩ := ho.at'
  obtain ⟨a, rfl⟩ := hs.val
  have hpn := ho.lt
  refine c_enterH (fu := Try.f56) (by kernel_rfl) rfl ?_
  refine w_seq ?_
  refine w_region (by kernel_rfl) ?_
  refine o_alloc (zv := .agg #[.int .i64 0, .int .i64 0, .slice none 0 0, .int .i64 0, .int .i64 0, .int .i64 0]) gn rfl (by kernel_rfl) ?_
  refine wl_end ?_
  refine w_seq ?_
  refine w_region (by kernel_rfl) ?_
  refine o_move gn rfl rfl ?_
  refine o_nilCheck gn rfl rfl ?_
  refine o_loadA (n := 6) gn rfl rfl (by kernel_rfl) (by kernel_rfl) (((Ext.alloc _ _).get _ ho.lt).trans hp) (Nat.le_refl 6) ?_
  refine o_alloc (zv := .agg #[.int .i64 0, .int .i64 0, .slice none 0 0, .int .i64 0, .int .i64 0, .int .i64 0]) gn rfl (by kernel_rfl) ?_
  rw [Hp.n_alloc]
  refine o_storeA (n := 6) gn rfl rfl rfl (by kernel_rfl) rfl ((Hp.get_alloc _ _ _).trans (if_pos (Hp.n_alloc _ _))) (by decide) rfl ag0 ?_
  refine wl_at (fun h3 => h3.get p = some (.cells (o.cells (.slice a (isV o.vals).length (isV o.vals).length)) 46 0) ∧ h3.get (h.n + 1) = some (.cells (o.cells (.slice a (isV o.vals).length (isV o.vals).length)) 46 0) ∧ (∃ cs, h3.get h.n = some (.cells cs 46 0) ∧ cs.length = 6) ∧ Ext h h3 ∧ h3.n = h.n + 2) ⟨?_, ?_, ⟨[.int .i64 0, .int .i64 0, .slice none 0 0, .int .i64 0, .int .i64 0, .int .i64 0], ?_, rfl⟩, ?_, ?_⟩ fun h3 ⟨g1, g2, ⟨cs3, g3, g4⟩, x3, n3⟩ => ?_
  · rw [Hp.get_put, if_neg (by omega), Hp.get_alloc, if_neg (by rw [Hp.n_alloc]; omega), Hp.get_alloc, if_neg (by omega)]; exact hp
  · exact Hp.get_put_self _ _ _
  · rw [Hp.get_put, if_neg (by omega), Hp.get_alloc, if_neg (by rw [Hp.n_alloc]; omega)]; exact Hp.get_alloc_self _ _
  · exact ((Ext.alloc h _).trans (Ext.alloc _ _)).of (ExtB.put _ _ _) (by simp [Hp.n_alloc])
  · rw [Hp.n_put, Hp.n_alloc, Hp.n_alloc]
  refine wl_end ?_
  refine w_seq ?_
  refine w_region (by kernel_rfl) ?_
  refine o_move gn rfl rfl ?_
  refine o_nilCheck gn rfl rfl ?_
  refine o_fieldAddr (off := 2) gn rfl rfl (by kernel_rfl) ?_
  refine o_load gn rfl rfl (by kernel_rfl) g1 rfl ?_
  refine o_call [_] gn rfl rfl (by kernel_rfl) rfl (C.mono (c73 ((hs.ext x3).src (all_int _)) (by simpa using hn)) ?_)
  rintro sv4 h4 ⟨bs', s4, x4, f4⟩
  obtain ⟨a4, rfl⟩ := s4.val
  have g5 := (x4.get (h.n + 1) (by omega)).trans g2
  have g6 := (x4.get h.n (by omega)).trans g3
  refine ⟨ag0, ?_⟩
  refine o_fieldAddr (off := 2) gn rfl rfl (by kernel_rfl) ?_
  refine o_store gn rfl rfl rfl (by kernel_rfl) g5 (by decide) (by simp [Ob.cells]) ag0 ?_
  refine wl_end ?_
  refine w_seq ?_
  refine w_region (by kernel_rfl) ?_
  refine o_loadA (n := 6) gn rfl rfl (by kernel_rfl) (by kernel_rfl) (Hp.get_put_self _ _ _) (Nat.le_refl 6) ?_
  refine o_storeA (n := 6) gn rfl rfl rfl (by kernel_rfl) rfl ((Hp.get_put _ _ _ _).trans ((if_neg (Nat.succ_ne_self _)).trans g6)) (by decide) g4 ag0 ?_
  refine wl_end ?_
  refine w_ret ?_
  refine ⟨.inl rfl, _, (resH_agg rfl (by kernel_rfl) (by kernel_rfl) (Hp.get_put_self _ _ _) rfl rfl), ?_⟩
  have k := ExtB.put2 h4
  exact ⟨_, bs', rfl, s4.keep (k _ _ _ _) (fun i hi hj => by have := f4 i hi; simp [Hp.n_alloc] at hj; omega), (x3.trans x4).of (k _ _ _ _) (by simp [Hp.n_alloc]), fun i hi => by have := f4 i hi; omega⟩

end

end Go.Proofs.Ytkmbfjdmbdpflaa


namespace Go.Proofs.Ytkmbfjdmbdpflaa
open Go.X

section
variable {h h' : Hp} {b : Nat} {obs : List Ob} {ps : List Nat} {vb : List (List Nat)} {sa : Value} {Ba : List Nat} {r : Nat} {M : Ms} {cl : Nat}

theorem HeapR.dis (hl : HeapR h b obs ps vb sa Ba r M cl) : b ≠ r ∧ b ∉ Ba ∧ r ∉ Ba ∧ (∀ i, i ∈ ps → i ≠ b ∧ i ≠ r ∧ i ∉ Ba) ∧ (∀ i, i ∈ vb.flatten → i ≠ b ∧ i ≠ r ∧ i ∉ Ba) := by
  have := hl.nodup
  generalize vb.flatten = F at *
  simp only [List.nodup_cons, List.nodup_append, List.mem_append, List.mem_cons, List.not_mem_nil, or_false] at this
  grind

theorem HeapR.push {p : Nat} {o : Ob} {sa' : Value} {bs Ba' : List Nat} {M' : Ms} {cl' : Nat} (hl : HeapR h b obs ps vb sa Ba r M cl) (plt : p < h.n) (hpo : p ∉ HeapR.own b r Ba ps vb) (hbs : ∀ i, i ∈ bs → i ∉ HeapR.own b r Ba ps vb) (hbl : ∀ i, i ∈ bs → i < h.n) (hpb : p ∉ bs) (hbn : bs.Nodup)
    (g : ExtB (p :: b :: r :: Ba) h h') (top : h'.get b = some (.cells [sa', .map (some r)] 87 0)) (all : Sl 99 h' sa' ((ps ++ [p]).map ptrV) Ba') (hBa : ∀ i, i ∈ Ba' → i ∈ Ba ∨ h.n ≤ i) (made : h'.get r = some (.map (M'.map ent) cl'))
    (count : ∀ k, (getI M' k).getD (iV 0) = iV (cnt k (obs ++ [o]))) (ob : ObAt h' p o bs) : HeapR h' b (obs ++ [o]) (ps ++ [p]) (vb ++ [bs]) sa' Ba' r M' cl' := by
  obtain ⟨d1, d2, d3, d4, d5⟩ := hl.dis
  have hown : ∀ i, i ∈ ps ∨ i ∈ vb.flatten → i ∈ HeapR.own b r Ba ps vb := fun i hi => by simp only [HeapR.own, List.mem_cons, List.mem_append]; rcases hi with h1 | h1 <;> simp [h1]
  refine ⟨top, all, made, count, by simp [hl.lps], by simp [hl.lvb], fun i hi => ?_, nodup_push hl.nodup hl.lt hpo plt hbs hbl hpb hbn hBa all.nodup, fun i hi => ?_⟩
  · have e1 := hl.lps; have e2 := hl.lvb
    by_cases hlt : i < obs.length
    · simp only [List.getElem_append_left (show i < ps.length by omega), List.getElem_append_left (show i < vb.length by omega), List.getElem_append_left hlt]
      have hm : ps[i] ∈ ps := List.getElem_mem _
      refine (hl.each i hlt).keep g (fun hx => ?_) fun j hj hx => ?_
      · have := d4 _ hm
        simp only [List.mem_cons] at hx
        rcases hx with hx | hx | hx | hx
        · exact hpo (hx ▸ hown _ (.inl hm))
        · exact this.1 hx
        · exact this.2.1 hx
        · exact this.2.2 hx
      · have hf : j ∈ vb.flatten := List.mem_flatten.2 ⟨_, List.getElem_mem _, hj⟩
        have := d5 _ hf
        simp only [List.mem_cons] at hx
        rcases hx with hx | hx | hx | hx
        · exact hpo (hx ▸ hown _ (.inr hf))
        · exact this.1 hx
        · exact this.2.1 hx
        · exact this.2.2 hx
    · have : i = obs.length := by simp at hi; omega
      subst this
      simp only [List.getElem_append_right (show ps.length ≤ obs.length by omega), List.getElem_append_right (show vb.length ≤ obs.length by omega), List.getElem_append_right (Nat.le_refl obs.length), List.getElem_singleton]
      exact ob
  · have := g.n
    simp only [List.mem_cons, List.mem_append, List.flatten_append, List.flatten_cons, List.flatten_nil, List.append_nil, List.not_mem_nil, or_false] at hi
    have k := fun hi => Nat.lt_of_lt_of_le (hl.lt i hi) this
    rcases hi with rfl | rfl | (hi | hi | hi) | hi | hi
    · exact k (by simp)
    · exact k (by simp)
    · exact all.lt _ hi
    · exact k (by simp [hi])
    · exact Nat.lt_of_lt_of_le (hi ▸ plt) this
    · exact k (by rw [List.mem_cons, List.mem_cons, List.mem_append]; exact .inr (.inr (.inr hi)))
    · exact Nat.lt_of_lt_of_le (hbl i hi) this

/-- add -/
theorem c54 {p : Nat} {o : Ob} {sv : Value} {bs : List Nat} (hl : HeapR h b obs ps vb sa Ba r M cl) (hp : h.get p = some (.cells (o.cells sv) 46 0)) (hs : Sl 2 h sv (isV o.vals) bs) (plt : p < h.n) (hpo : p ∉ HeapR.own b r Ba ps vb)
    (hbs : ∀ i, i ∈ bs → i ∉ HeapR.own b r Ba ps vb) (hpb : p ∉ bs) :
    C heapE 54 [ptrV b, ptrV p] h fun v h' => v = .tuple #[iV (if obs.length < 1024 then (obs.length : Int) + 1 else 0), iV (if obs.length < 1024 then 0 else 11)] ∧
      (obs.length < 1024 → (∃ sa' Ba' M' cl', HeapR h' b (obs ++ [{ o with nth := cnt o.maker obs }]) (ps ++ [p]) (vb ++ [bs]) sa' Ba' r M' cl' ∧ ∀ i, i ∈ Ba' → i ∈ Ba ∨ h.n ≤ i) ∧ ExtB (p :: b :: r :: Ba) h h') ∧
      (1024 ≤ obs.length → h' = h) := by
  obtain ⟨a, rfl⟩ := hl.all.val
  have ht := hl.top
  have hr := hl.made
  have hlen : (ps.map ptrV).length = obs.length := by simp [hl.lps]
  obtain ⟨d1, d2, d3, d4, d5⟩ := hl.dis
  have hbp : p ≠ b := fun e => hpo (by simp [HeapR.own, e])
  have hrp : p ≠ r := fun e => hpo (by simp [HeapR.own, e])
  have hpB : p ∉ Ba := fun e => hpo (by simp [HeapR.own, e])
  have hblt : b < h.n := hl.lt b (by simp)
  have hrlt : r < h.n := hl.lt r (by simp)
  have hcnt := cnt_le o.maker obs
  have hgc := hl.count o.maker
  refine c_enter (fu := Try.f54) (by kernel_rfl) rfl ?_
  refine w_seq ?_
  refine w_region (by kernel_rfl) ?_
  refine o_assign gn rfl rfl ?_
  refine o_assign gn rfl rfl ?_
  refine wl_end ?_
  refine w_seq ?_
  refine w_seq ?_
  refine w_region (by kernel_rfl) ?_
  refine o_move gn rfl rfl ?_
  refine o_nilCheck gn rfl rfl ?_
  refine o_fieldAddr (off := 0) gn rfl rfl (by kernel_rfl) ?_
  refine o_load gn rfl rfl (by kernel_rfl) (by assumption) rfl ?_
  refine o_len gn rfl rfl (by kernel_rfl) ?_
  refine o_geq gn rfl rfl rfl ?_
  refine wl_end ?_
  refine w_cond rfl (fun hb => ?_) fun hb => ?_
  · skip
    refine w_seq ?_
    refine w_region (by kernel_rfl) ?_
    refine o_assign gn rfl rfl ?_
    refine o_assign gn rfl rfl ?_
    refine wl_end ?_
    refine w_ret ?_
    refine ⟨.inl rfl, _, rfl, ?_⟩
    have hge : 1024 ≤ obs.length := by have := hl.lps; simp at hb; omega
    refine ⟨?_, fun hx => absurd hx (by omega), fun _ => rfl⟩
    rw [if_neg (by omega), if_neg (by omega)]; rfl
  · skip
    have hlt : obs.length < 1024 := by have := hl.lps; simp at hb; omega
    refine w_skip ?_
    refine w_seq ?_
    refine w_seq ?_
    refine w_region (by kernel_rfl) ?_
    refine o_move gn rfl rfl ?_
    refine o_nilCheck gn rfl rfl ?_
    refine o_fieldAddr (off := 1) gn rfl rfl (by kernel_rfl) ?_
    refine o_load gn rfl rfl (by kernel_rfl) (by assumption) rfl ?_
    refine o_eqm (kt := 3) (et := 3) gn rfl rfl rfl (by kernel_rfl) ?_
    refine wl_end ?_
    refine w_cond rfl (fun hb => ?_) fun hb => ?_
    · skip
      refine w_region (by kernel_rfl) ?_
      refine o_move gn rfl rfl ?_
      cases hb
    · skip
      refine w_skip ?_
      refine w_seq ?_
      refine w_draw [(0, []), (1, []), (2, []), (3, []), (4, []), (5, []), (6, []), (7, []), (8, []), (9, []), (10, []), (11, []), (12, [])] (by kernel_rfl) (by kernel_rfl) (by kernel_rfl) (by kernel_rfl) ?_
      refine o_move gn rfl rfl ?_
      refine o_move gn rfl rfl ?_
      refine o_nilCheck gn rfl rfl ?_
      refine o_fieldAddr (off := 1) gn rfl rfl (by kernel_rfl) ?_
      refine o_load gn rfl rfl (by kernel_rfl) (by assumption) rfl ?_
      refine o_move gn rfl rfl ?_
      refine o_nilCheck gn rfl rfl ?_
      refine o_fieldAddr (off := 4) gn rfl rfl (by kernel_rfl) ?_
      refine o_load gn rfl rfl (by kernel_rfl) (by assumption) rfl ?_
      refine o_lookup (zv := .int .i64 0) mt gn rfl rfl rfl (by assumption) (by kernel_rfl) ?_
      rw [hgc]
      refine o_nilCheck gn rfl rfl ?_
      refine o_fieldAddr (off := 5) gn rfl rfl (by kernel_rfl) ?_
      refine o_store gn rfl rfl rfl (by kernel_rfl) hp (by decide) (by simp [Ob.cells]) ag0 ?_
      refine wl_at (fun h1 => h1.get b = h.get b ∧ h1.get p = some (.cells (Ob.cells { o with nth := cnt o.maker obs } sv) 46 0) ∧ h1.get r = h.get r ∧ ExtB [p] h h1 ∧ h1.n = h.n) ⟨?_, ?_, ?_, ?_, ?_⟩ fun h1 ⟨f1, f2, f3, x1, n1⟩ => ?_
      · rw [Hp.get_put, if_neg hbp]
      · exact Hp.get_put_self _ _ _
      · rw [Hp.get_put, if_neg hrp]
      · exact ExtB.put _ _ _
      · exact Hp.n_put _ _ _
      rw [ht] at f1
      rw [hr] at f3
      refine wl_end ?_
      refine w_seq ?_
      refine w_draw [(0, []), (1, []), (2, []), (3, []), (4, []), (5, []), (6, []), (7, []), (8, []), (9, []), (10, [])] (by kernel_rfl) (by kernel_rfl) (by kernel_rfl) (by kernel_rfl) ?_
      refine o_move gn rfl rfl ?_
      refine o_nilCheck gn rfl rfl ?_
      refine o_fieldAddr (off := 1) gn rfl rfl (by kernel_rfl) ?_
      refine o_load gn rfl rfl (by kernel_rfl) (by assumption) rfl ?_
      refine o_move gn rfl rfl ?_
      refine o_nilCheck gn rfl rfl ?_
      refine o_fieldAddr (off := 4) gn rfl rfl (by kernel_rfl) ?_
      refine o_load gn rfl rfl (by kernel_rfl) (by assumption) rfl ?_
      refine o_lookup (zv := .int .i64 0) mt gn rfl rfl rfl (by assumption) (by kernel_rfl) ?_
      rw [hgc]
      refine o_add gn rfl rfl rfl (by omega) (by omega) ?_
      refine o_mapUpdate mt gn rfl rfl rfl (by assumption) ag0 ?_
      refine wl_at (fun h2 => h2.get b = h.get b ∧ h2.get p = some (.cells (Ob.cells { o with nth := cnt o.maker obs } sv) 46 0) ∧ h2.get r = some (.map ((putI M o.maker (iV (cnt o.maker obs + 1)) cl).1.map ent) (putI M o.maker (iV (cnt o.maker obs + 1)) cl).2) ∧ ExtB [p, r] h h2 ∧ h2.n = h.n) ⟨?_, ?_, ?_, ?_, ?_⟩ fun h2 ⟨f4, f5, f6, x2, n2⟩ => ?_
      · rw [Hp.get_put, if_neg (fun e => d1 e.symm), f1, ht]
      · rw [Hp.get_put, if_neg (fun e => hrp e.symm), f2]
      · exact Hp.get_put_self _ _ _
      · exact (x1.mono (by simp)).trans ((ExtB.put _ _ _).mono (by simp))
      · rw [Hp.n_put, n1]
      rw [ht] at f4
      refine wl_end ?_
      refine w_seq ?_
      refine w_region (by kernel_rfl) ?_
      refine o_move gn rfl rfl ?_
      refine o_move gn rfl rfl ?_
      refine o_nilCheck gn rfl rfl ?_
      refine o_fieldAddr (off := 0) gn rfl rfl (by kernel_rfl) ?_
      refine o_load gn rfl rfl (by kernel_rfl) (by assumption) rfl ?_
      refine o_move gn rfl rfl ?_
      refine o_buildSlice (e := 99) (z := 0) (zv := .pointer none) [(0, _)] gn rfl (by kernel_rfl) (by kernel_rfl) (by kernel_rfl) (by kernel_rfl) rfl rfl ?_
      have x3 : Ext h2 (h2.alloc (.cells [ptrV p] 99 0)) := Ext.alloc _ _
      have x3' := (x2.trans (x3.b _))
      obtain ⟨v', h4, Ba', a1, a2, a3, a4⟩ := append_own el99 (hl.all.keep x3' (fun i hi hj => by simp at hj; rcases hj with rfl | rfl; exact hpB hi; exact d3 hi)) ((Sl.new (h := h2) (e := 99) (vs := [ptrV p]) (m := 0) (.inl rfl)).src rfl) (by simp; have := hl.lps; omega)
      obtain ⟨a9, rfl⟩ := a2.val
      have f7 : h4.get b = some (.cells [.slice a (ps.map ptrV).length (ps.map ptrV).length, .map (some r)] 87 0) := (a3.get b (by rw [Hp.n_alloc]; omega) d2).trans ((x3.get b (by omega)).trans f4)
      refine o_append gn rfl rfl rfl a1 ag0 ?_
      refine o_nilCheck gn rfl rfl ?_
      refine o_fieldAddr (off := 0) gn rfl rfl (by kernel_rfl) ?_
      refine o_store gn rfl rfl rfl (by kernel_rfl) f7 (by decide) (by simp) ag0 ?_
      refine wl_end ?_
      refine w_seq ?_
      refine w_region (by kernel_rfl) ?_
      refine o_move gn rfl rfl ?_
      refine o_nilCheck gn rfl rfl ?_
      refine o_fieldAddr (off := 0) gn rfl rfl (by kernel_rfl) ?_
      refine o_load gn rfl rfl (by kernel_rfl) (Hp.get_put_self _ _ _) rfl ?_
      refine o_len gn rfl rfl (by kernel_rfl) ?_
      refine o_assign gn rfl rfl ?_
      refine o_assign gn rfl rfl ?_
      refine wl_end ?_
      refine w_ret ?_
      refine ⟨.inl rfl, _, rfl, ?_⟩
      have e5 := ExtB.put h4 b
      have n3 := x3'.n
      have n4 := a3.n
      refine ⟨by rw [if_pos hlt, if_pos hlt]; simp [oneOf, hl.lps], fun _ => ⟨⟨_, Ba', (putI M o.maker (iV (cnt o.maker obs + 1)) cl).1, (putI M o.maker (iV (cnt o.maker obs + 1)) cl).2, HeapR.push hl plt hpo hbs hs.lt hpb hs.nodup ?g (Hp.get_put_self _ _ _) ?all ?hBa ?made ?count ?ob, ?hBa⟩, ?g⟩, fun hx => absurd hx (by omega)⟩
      case g => exact ((x3'.mono (bs := p :: b :: r :: Ba) (fun i hi _ => by simp at hi; rcases hi with rfl | rfl <;> simp)).trans (a3.mono (fun i hi _ => by simp [hi]))).trans ((e5 _).mono (by simp))
      case all => rw [List.map_append]; exact a2.keep (e5 _) (fun i hi hj => by simp at hj; subst hj; rcases a4 i hi with h1 | h1; exact d2 h1; rw [Hp.n_alloc] at h1; omega)
      case hBa => intro i hi; rcases a4 i hi with h1 | h1; exact .inl h1; right; rw [h1, Hp.n_alloc]; omega
      case made => rw [Hp.get_put, if_neg d1, a3.get r (by rw [Hp.n_alloc]; omega) d3, x3.get r (by omega)]; exact f6
      case count =>
        intro k
        rw [get_put, cnt_append]
        by_cases hk : k = o.maker
        · subst hk; simp
        · rw [if_neg hk, hl.count k, if_neg (fun e => hk e.symm)]; simp
      case ob => exact ⟨⟨sv, by rw [Hp.get_put, if_neg (fun e => hbp e.symm), a3.get p (by rw [Hp.n_alloc]; omega) hpB, x3.get p (by omega)]; exact f5, hs.keep (((x3'.mono (bs := p :: b :: r :: Ba) (fun i hi _ => by simp at hi; rcases hi with rfl | rfl <;> simp)).trans (a3.mono (fun i hi _ => by simp [hi]))).trans ((e5 _).mono (by simp))) (fun i hi hj => by
          simp only [List.mem_cons] at hj
          rcases hj with rfl | hj
          · exact hpb hi
          · exact hbs i hi (by simp only [HeapR.own, List.mem_cons, List.mem_append]; rcases hj with h1 | h1 | h1 <;> simp [h1]))⟩, by rw [Hp.n_put]; omega, hpb⟩

end

end Go.Proofs.Ytkmbfjdmbdpflaa


namespace Go.Proofs.Ytkmbfjdmbdpflaa
open Go.X

/-- A heap, and the blocks that are its own. -/
def HAt (h : Hp) (b : Nat) (obs : List Ob) (own : List Nat) : Prop := ∃ ps vb sa Ba r M cl, HeapR h b obs ps vb sa Ba r M cl ∧ own = HeapR.own b r Ba ps vb

theorem HAt.keep {h h' : Hp} {b : Nat} {obs : List Ob} {own cs : List Nat} (x : HAt h b obs own) (g : ExtB cs h h') (hd : ∀ i, i ∈ own → i ∉ cs) : HAt h' b obs own := by
  obtain ⟨ps, vb, sa, Ba, r, M, cl, x, rfl⟩ := x
  exact ⟨ps, vb, sa, Ba, r, M, cl, x.keep g hd, rfl⟩
theorem HAt.ext {h h' : Hp} {b : Nat} {obs : List Ob} {own : List Nat} (x : HAt h b obs own) (g : Ext h h') : HAt h' b obs own := x.keep (g.b []) (by simp)
theorem HAt.lt {h : Hp} {b : Nat} {obs : List Ob} {own : List Nat} (x : HAt h b obs own) : ∀ i, i ∈ own → i < h.n := by
  obtain ⟨ps, vb, sa, Ba, r, M, cl, x, rfl⟩ := x
  exact x.lt

/-- An object laid. -/
def layO (obs : List Ob) (o : Ob) : List Ob := if obs.length < 1024 then obs ++ [{ o with nth := cnt o.maker obs }] else obs
def layN (obs : List Ob) : Int := if obs.length < 1024 then (obs.length : Int) + 1 else 0
def layE (obs : List Ob) : Int := if obs.length < 1024 then 0 else 11

theorem c54' {h h0 : Hp} {b p : Nat} {obs : List Ob} {own : List Nat} {o : Ob} {sv : Value} {bs : List Nat} (hl : HAt h0 b obs own) (x : Ext h0 h) (hp : h.get p = some (.cells (o.cells sv) 46 0)) (hs : Sl 2 h sv (isV o.vals) bs) (plt : p < h.n) (hp0 : h0.n ≤ p)
    (hbs : ∀ i, i ∈ bs → h0.n ≤ i) (hpb : p ∉ bs) :
    C heapE 54 [ptrV b, ptrV p] h fun v h' => v = .tuple #[iV (layN obs), iV (layE obs)] ∧ ∃ own', HAt h' b (layO obs o) own' ∧ (∀ i, i ∈ own' → i ∈ own ∨ h0.n ≤ i) ∧ ExtB own h0 h' := by
  have hlt := hl.lt
  obtain ⟨ps, vb, sa, Ba, r, M, cl, hl, rfl⟩ := hl
  refine C.mono (c54 (hl.ext x) hp hs plt (fun hi => by have := hlt _ hi; omega) (fun i hi hj => by have := hbs i hi; have := hlt _ hj; omega) hpb) ?_
  rintro v h' ⟨rfl, q1, q2⟩
  refine ⟨rfl, ?_⟩
  by_cases hc : obs.length < 1024
  · obtain ⟨⟨sa', Ba', M', cl', k1, k2⟩, k3⟩ := q1 hc
    refine ⟨_, ⟨_, _, _, _, _, _, _, by rw [layO, if_pos hc]; exact k1, rfl⟩, fun i hi => ?_, ?_⟩
    · have n0 := x.n
      simp only [HeapR.own, List.mem_cons, List.mem_append, List.flatten_append, List.flatten_cons, List.flatten_nil, List.append_nil, List.not_mem_nil, or_false] at hi ⊢
      rcases hi with rfl | rfl | (hi | hi | hi) | hi | hi
      · simp
      · simp
      · rcases k2 i hi with h1 | h1
        · simp [h1]
        · right; omega
      · simp [hi]
      · right; omega
      · exact .inl (.inr (.inr (.inr hi)))
      · exact .inr (hbs i hi)
    · refine ⟨Nat.le_trans x.n k3.n, fun i hi hn => (k3.get i (Nat.lt_of_lt_of_le hi x.n) fun hm => ?_).trans (x.get i hi)⟩
      simp only [List.mem_cons] at hm
      rcases hm with rfl | rfl | rfl | hm
      · exact absurd hi (by omega)
      · exact hn (by simp [HeapR.own])
      · exact hn (by simp [HeapR.own])
      · exact hn (by simp [HeapR.own, hm])
  · rw [q2 (by omega)]
    exact ⟨_, ⟨_, _, _, _, _, _, _, by rw [layO, if_neg hc]; exact hl.ext x, rfl⟩, fun i hi => .inl hi, x.b _⟩

section
variable {h h' : Hp} {b : Nat} {obs : List Ob} {own : List Nat}

theorem rep_isV : ∀ m : Nat, repeatCells [Value.int .i64 0] m = isV (List.replicate m 0)
  | 0 => rfl
  | m + 1 => by rw [List.replicate_succ]; show _ :: repeatCells _ m = _ :: _; rw [rep_isV m]

/-- What Make does not take. -/
def mkBad (kind size : Int) : Prop := kind < 1 ∨ 3 < kind ∨ size < 0 ∨ 64 < size ∨ (kind = 3 ∧ size ≠ 1)
instance (kind size : Int) : Decidable (mkBad kind size) := by unfold mkBad; infer_instance

def mkOb (kind of size site by' : Int) : Ob := ⟨kind, of, List.replicate size.toNat 0, site, by', 0⟩
def mkO (obs : List Ob) (kind of size site by' : Int) : List Ob := if mkBad kind size then obs else layO obs (mkOb kind of size site by')
def mkN (obs : List Ob) (kind size : Int) : Int := if mkBad kind size then 0 else layN obs
def mkE (obs : List Ob) (kind size : Int) : Int := if mkBad kind size then 2 else layE obs

/-- Make -/
theorem c20 {kind of size site by' : Int} (hl : HAt h b obs own) :
    C heapE 20 [ptrV b, iV kind, iV of, iV size, iV site, iV by'] h fun v h' => v = .tuple #[iV (mkN obs kind size), iV (mkE obs kind size)] ∧ ∃ own', HAt h' b (mkO obs kind of size site by') own' ∧ (∀ i, i ∈ own' → i ∈ own ∨ h.n ≤ i) ∧ ExtB own h h' := by
  refine c_enter (fu := Try.f20) (by kernel_rfl) rfl ?_
  refine w_seq ?_
  refine w_region (by kernel_rfl) ?_
  refine o_assign gn rfl rfl ?_
  refine o_assign gn rfl rfl ?_
  refine wl_end ?_
  refine w_seq ?_
  refine w_block ?_
  refine w_seq ?_
  refine w_region (by kernel_rfl) ?_
  refine o_move gn rfl rfl ?_
  refine o_eqp gn rfl rfl rfl (by kernel_rfl) ?_
  refine o_assign gn rfl rfl ?_
  refine wl_end ?_
  refine w_cond rfl (fun hb => ?_) fun hb => ?_
  · skip
    refine w_seq ?_
    refine w_region (by kernel_rfl) ?_
    refine o_assign gn rfl rfl ?_
    refine o_assign gn rfl rfl ?_
    refine wl_end ?_
    refine w_ret ?_
    refine ⟨.inl rfl, _, rfl, ?_⟩
    cases hb
  · skip
    refine w_seq ?_
    refine w_region (by kernel_rfl) ?_
    refine o_move gn rfl rfl ?_
    refine o_lss gn rfl rfl rfl ?_
    refine o_move gn rfl rfl ?_
    refine o_or (n := 2) rfl rfl rfl gn rfl (fun hb => by
        refine o_move (gy rfl rfl rfl hb) rfl rfl ?_
        refine o_gtr (gy rfl rfl rfl hb) rfl rfl rfl ?_
        exact wl_end ⟨rfl, rfl, 2, rfl, rfl⟩) ?_
    refine o_move gn rfl rfl ?_
    refine o_or (n := 2) rfl rfl rfl gn rfl (fun hb => by
        refine o_move (gy rfl rfl rfl hb) rfl rfl ?_
        refine o_lss (gy rfl rfl rfl hb) rfl rfl rfl ?_
        exact wl_end ⟨rfl, rfl, 2, rfl, rfl⟩) ?_
    refine o_move gn rfl rfl ?_
    refine o_or (n := 2) rfl rfl rfl gn rfl (fun hb => by
        refine o_move (gy rfl rfl rfl hb) rfl rfl ?_
        refine o_gtr (gy rfl rfl rfl hb) rfl rfl rfl ?_
        exact wl_end ⟨rfl, rfl, 2, rfl, rfl⟩) ?_
    refine o_move gn rfl rfl ?_
    refine o_or (n := 6) rfl rfl rfl gn rfl (fun hb => by
        refine o_move (gy rfl rfl rfl hb) rfl rfl ?_
        refine o_eqi (gy rfl rfl rfl hb) rfl rfl rfl ?_
        refine o_move (gy rfl rfl rfl hb) rfl rfl ?_
        refine o_and (n := 2) rfl rfl rfl (gy rfl rfl rfl hb) rfl (fun hb => by
            refine o_move (gy rfl rfl rfl hb) rfl rfl ?_
            refine o_nei (gy rfl rfl rfl hb) rfl rfl rfl ?_
            exact wl_end ⟨rfl, rfl, 2, rfl, rfl⟩) ?_
        exact wl_end ⟨rfl, rfl, 4, rfl, rfl⟩) ?_
    refine o_assign gn rfl rfl ?_
    refine wl_end ?_
    refine w_cond rfl (fun hb => ?_) fun hb => ?_
    · skip
      refine w_seq ?_
      refine w_region (by kernel_rfl) ?_
      refine o_assign gn rfl rfl ?_
      refine o_assign gn rfl rfl ?_
      refine wl_end ?_
      refine w_ret ?_
      refine ⟨.inl rfl, _, rfl, ?_⟩
      have hbad : mkBad kind size := by unfold mkBad; simp at hb; omega
      exact ⟨by rw [mkN, mkE, if_pos hbad, if_pos hbad]; rfl, own, by rw [mkO, if_pos hbad]; exact hl, fun i hi => .inl hi, .refl _ _⟩
    · skip
      have hbad : ¬ mkBad kind size := by unfold mkBad; simp at hb; omega
      have hbad' := hbad
      unfold mkBad at hbad'
      refine w_skip ?_
      refine w_seq ?_
      refine w_region (by kernel_rfl) ?_
      refine o_move gn rfl rfl ?_
      refine o_move gn rfl rfl ?_
      refine o_move gn rfl rfl ?_
      refine o_move gn rfl rfl ?_
      refine o_makeSlice (e := 2) (z := 0) (zv := .int .i64 0) (by' := 8) gn rfl rfl rfl (by kernel_rfl) (by kernel_rfl) (by kernel_rfl) (by kernel_rfl) (by decide) (by omega) (by omega) (by omega) (by omega) ?_
      refine o_move gn rfl rfl ?_
      refine o_move gn rfl rfl ?_
      refine o_build (zv := .agg #[.int .i64 0, .int .i64 0, .slice none 0 0, .int .i64 0, .int .i64 0, .int .i64 0]) (pl := [(0, 1), (1, 1), (2, 1), (3, 1), (4, 1), (5, 1)]) [(0, _), (1, _), (2, _), (3, _), (4, _)] gn rfl (by kernel_rfl) (by kernel_rfl) rfl rfl ?_
      refine o_box gn rfl rfl ?_
      refine wl_at (fun h2 => h2.get (h.n + 1) = some (.cells ((mkOb kind of size site by').cells (.slice (some ⟨h.n, 0, none⟩) size.toNat size.toNat)) 46 0) ∧ Sl 2 h2 (.slice (some ⟨h.n, 0, none⟩) size.toNat size.toNat) (isV (List.replicate size.toNat 0)) [h.n] ∧ Ext h h2 ∧ h2.n = h.n + 2) ⟨?_, ?_, ?_, ?_⟩ fun h2 ⟨f1, f2, x2, n2⟩ => ?_
      · rw [Hp.get_alloc, if_pos (Hp.n_alloc _ _)]; rfl
      · refine Sl.ext ?_ (Ext.alloc _ _)
        have := Sl.new (h := h) (e := 2) (vs := isV (List.replicate size.toNat 0)) (m := 0) (.inl rfl)
        show Sl 2 (h.alloc (.cells (repeatCells [.int .i64 0] size.toNat) 2 0)) _ _ _
        rw [rep_isV]
        simpa using this
      · exact (Ext.alloc _ _).trans (Ext.alloc _ _)
      · rw [Hp.n_alloc, Hp.n_alloc]
      rw [Hp.n_alloc]
      refine o_call [_, _] gn rfl rfl (by kernel_rfl) rfl (C.mono (c54' (o := mkOb kind of size site by') hl x2 f1 f2 (by omega) (by omega) (by simp) (by simp)) ?_)
      rintro v h' ⟨rfl, own', q1, q2, q3⟩
      refine ⟨ag0, ?_⟩
      refine o_extract gn rfl rfl rfl ?_
      refine o_extract gn rfl rfl rfl ?_
      refine o_assign gn rfl rfl ?_
      refine o_assign gn rfl rfl ?_
      refine wl_end ?_
      refine w_ret ?_
      refine ⟨.inl rfl, _, rfl, ?_⟩
      exact ⟨by rw [mkN, mkE, if_neg hbad, if_neg hbad]; rfl, own', by rw [mkO, if_neg hbad]; exact q1, q2, q3⟩

/-- An object by its number. -/
def obAt (obs : List Ob) (id : Int) : Option Ob := if 1 ≤ id then obs[(id - 1).toNat]? else none

theorem HeapR.at' {ps : List Nat} {vb : List (List Nat)} {sa : Value} {Ba : List Nat} {r : Nat} {M : Ms} {cl : Nat} (hl : HeapR h b obs ps vb sa Ba r M cl) (id : Int) :
    (obAt obs id = none ∧ atV ps id = .pointer none) ∨ ∃ p o bs, obAt obs id = some o ∧ atV ps id = ptrV p ∧ ObAt h p o bs ∧ o ∈ obs ∧ p ∈ ps ∧ (∀ i, i ∈ bs → i ∈ vb.flatten) := by
  have e1 := hl.lps; have e2 := hl.lvb
  unfold obAt atV
  by_cases hr : 1 ≤ id ∧ id ≤ ps.length
  · right
    have hlt : (id - 1).toNat < obs.length := by omega
    refine ⟨ps[(id - 1).toNat], obs[(id - 1).toNat], vb[(id - 1).toNat], by rw [if_pos hr.1, List.getElem?_eq_getElem hlt], ?_, hl.each _ hlt, List.getElem_mem _, List.getElem_mem _, fun i hi => List.mem_flatten.2 ⟨_, List.getElem_mem _, hi⟩⟩
    rw [if_pos hr, List.getElem?_eq_getElem (show (id - 1).toNat < ps.length by omega)]; rfl
  · left
    refine ⟨?_, by rw [if_neg hr]⟩
    split
    · exact List.getElem?_eq_none (by omega)
    · rfl

def obZ : List Value := [.int .i64 0, .int .i64 0, .slice none 0 0, .int .i64 0, .int .i64 0, .int .i64 0]

/-- Object -/
theorem c21 {id : Int} (hl : HAt h b obs own) (hn : obs.length ≤ 1024) (hv : ∀ o, o ∈ obs → o.vals.length ≤ 100000) :
    C heapE 21 [ptrV b, iV id] h fun v h' => Ext h h' ∧ match obAt obs id with
      | some o => ∃ sv bs, v = .tuple #[.agg (o.cells sv).toArray, iV 0] ∧ Sl 2 h' sv (isV o.vals) bs ∧ ∀ i, i ∈ bs → h.n ≤ i
      | none => v = .tuple #[.agg obZ.toArray, iV 13] := by
  obtain ⟨ps, vb, sa, Ba, r, M, cl, hl, rfl⟩ := hl
  have e1 := hl.lps
  have x1 := Ext.alloc h (.cells obZ 46 0)
  have hat := hl.at' id
  refine c_enterH (fu := Try.f21) (by kernel_rfl) rfl ?_
  refine w_seq ?_
  refine w_region (by kernel_rfl) ?_
  refine o_alloc (zv := .agg #[.int .i64 0, .int .i64 0, .slice none 0 0, .int .i64 0, .int .i64 0, .int .i64 0]) gn rfl (by kernel_rfl) ?_
  refine o_assign gn rfl rfl ?_
  refine wl_end ?_
  refine w_seq ?_
  refine w_region (by kernel_rfl) ?_
  refine o_move gn rfl rfl ?_
  refine o_move gn rfl rfl ?_
  refine o_call [_, _] gn rfl rfl (by kernel_rfl) rfl (c_pure (c55 (hl.ext x1) (by omega)) ⟨ag0, ?_⟩)
  obtain ⟨ao, ha⟩ : ∃ ao, atV ps id = .pointer ao := by rcases hat with ⟨_, h2⟩ | ⟨p, o, bs, _, h2, _⟩ <;> exact ⟨_, h2⟩
  rw [ha] at hat ⊢
  refine o_assign gn rfl rfl ?_
  refine wl_end ?_
  refine w_block ?_
  refine w_seq ?_
  refine w_region (by kernel_rfl) ?_
  refine o_move gn rfl rfl ?_
  refine o_eqp gn rfl rfl rfl (by kernel_rfl) ?_
  refine o_assign gn rfl rfl ?_
  refine wl_end ?_
  refine w_cond rfl (fun hb => ?_) fun hb => ?_
  · skip
    refine w_seq ?_
    refine w_region (by kernel_rfl) ?_
    cases hb
  · skip
    refine w_seq ?_
    refine w_region (by kernel_rfl) ?_
    refine o_move gn rfl rfl ?_
    refine o_eqp gn rfl rfl rfl (by kernel_rfl) ?_
    refine o_assign gn rfl rfl ?_
    refine wl_end ?_
    refine w_cond rfl (fun hb => ?_) fun hb => ?_
    · skip
      refine w_seq ?_
      refine w_region (by kernel_rfl) ?_
      have hnone : obAt obs id = none := by
        simp only [Option.isNone_iff_eq_none] at hb; subst hb
        rcases hat with ⟨h1, _⟩ | ⟨p, o, bs, _, h2, _⟩
        · exact h1
        · cases h2
      refine o_build (zv := .agg #[.int .i64 0, .int .i64 0, .slice none 0 0, .int .i64 0, .int .i64 0, .int .i64 0]) (pl := [(0, 1), (1, 1), (2, 1), (3, 1), (4, 1), (5, 1)]) [] gn rfl (by kernel_rfl) (by kernel_rfl) rfl rfl ?_
      refine o_storeA (n := 6) gn rfl rfl rfl (by kernel_rfl) rfl (Hp.get_alloc_self _ _) (by decide) rfl ag0 ?_
      refine o_assign gn rfl rfl ?_
      refine wl_end ?_
      refine w_ret ?_
      refine ⟨.inl rfl, _, (resH_agg rfl (by kernel_rfl) (by kernel_rfl) (Hp.get_put_self _ _ _) rfl (resH_tmp rfl rfl)), ?_⟩
      rw [hnone]
      exact ⟨x1.of (ExtB.put _ _ _) (by simp), rfl⟩
    · skip
      refine w_seq ?_
      refine w_region (by kernel_rfl) ?_
      refine o_move gn rfl rfl ?_
      obtain ⟨p, o, bs, ho, h2, hob, hmem, _, _⟩ : ∃ p o bs, obAt obs id = some o ∧ Value.pointer ao = ptrV p ∧ ObAt h p o bs ∧ o ∈ obs ∧ p ∈ ps ∧ (∀ i, i ∈ bs → i ∈ vb.flatten) := by
        rcases hat with ⟨_, h2⟩ | h2
        · cases h2; cases hb
        · exact h2
      cases h2
      refine o_call [_] gn rfl rfl (by kernel_rfl) rfl (C.mono (c56 (hob.keep (x1.b []) (by simp) (by simp)) (hv o hmem)) ?_)
      rintro v h4 ⟨sv, bs', rfl, s4, x4, f4⟩
      obtain ⟨a4, rfl⟩ := s4.val
      have g4 := (x4.get h.n (by rw [Hp.n_alloc]; omega)).trans (Hp.get_alloc_self h _)
      refine ⟨ag0, ?_⟩
      refine o_storeA (n := 6) gn rfl rfl rfl (by kernel_rfl) rfl g4 (by decide) rfl ag0 ?_
      refine o_assign gn rfl rfl ?_
      refine wl_end ?_
      refine w_ret ?_
      refine ⟨.inl rfl, _, (resH_agg rfl (by kernel_rfl) (by kernel_rfl) (Hp.get_put_self _ _ _) rfl (resH_tmp rfl rfl)), ?_⟩
      rw [ho]
      exact ⟨(x1.trans x4).of (ExtB.put _ _ _) (by simp), _, bs', rfl, s4.keep (ExtB.put _ _ _) (fun i hi hj => by have := f4 i hi; rw [Hp.n_alloc] at this; simp at hj; omega), fun i hi => by have := f4 i hi; rw [Hp.n_alloc] at this; omega⟩

end

end Go.Proofs.Ytkmbfjdmbdpflaa


namespace Go.Proofs.Ytkmbfjdmbdpflaa
open Go.X

theorem c22' {h : Hp} {b : Nat} {obs : List Ob} {own : List Nat} (hl : HAt h b obs own) : CP heapE 22 [ptrV b] h (iV obs.length) := by
  obtain ⟨_, _, _, _, _, _, _, hl, _⟩ := hl
  exact c22 hl

def oneOb (k c : Int) : Ob := ⟨1, 0, [0, 0], 0, k, c⟩
theorem oneOb_maker (k c : Int) : (oneOb k c).maker = k := rfl

/-- HeapMany -/
theorem c5 {h : Hp} {many every : Int} : C heapE 5 [iV many, iV every] h fun v _ => v = .bool true := by
  have hnb : ¬ mkBad 1 2 := by decide
  refine c_enter (fu := Try.f5) (by kernel_rfl) rfl ?_
  refine w_seq ?_
  refine w_region (by kernel_rfl) ?_
  refine o_assign gn rfl rfl ?_
  refine wl_end ?_
  refine w_seq ?_
  refine w_seq ?_
  refine w_region (by kernel_rfl) ?_
  refine o_move gn rfl rfl ?_
  refine o_lss gn rfl rfl rfl ?_
  refine o_move gn rfl rfl ?_
  refine o_or (n := 2) rfl rfl rfl gn rfl (fun hb => by
      refine o_move (gy rfl rfl rfl hb) rfl rfl ?_
      refine o_gtr (gy rfl rfl rfl hb) rfl rfl rfl ?_
      exact wl_end ⟨rfl, rfl, 2, rfl, rfl⟩) ?_
  refine o_move gn rfl rfl ?_
  refine o_or (n := 2) rfl rfl rfl gn rfl (fun hb => by
      refine o_move (gy rfl rfl rfl hb) rfl rfl ?_
      refine o_lss (gy rfl rfl rfl hb) rfl rfl rfl ?_
      exact wl_end ⟨rfl, rfl, 2, rfl, rfl⟩) ?_
  refine wl_end ?_
  refine w_cond rfl (fun hb => ?_) fun hb => ?_
  · skip
    refine w_seq ?_
    refine w_region (by kernel_rfl) ?_
    refine o_orc (f := 18) (v := .bool true) gn rfl (by kernel_rfl) (by kernel_rfl) ag0 ?_
    refine o_assign gn rfl rfl ?_
    refine wl_end ?_
    refine w_ret ?_
    refine ⟨.inl rfl, _, rfl, ?_⟩
    rfl
  · skip
    have hr : 0 ≤ many ∧ many ≤ 1030 ∧ 2 ≤ every := by simp at hb; omega
    refine w_skip ?_
    refine w_seq ?_
    refine w_region (by kernel_rfl) ?_
    refine o_call [] gn rfl rfl (by kernel_rfl) rfl (C.mono c19 ?_)
    rintro v0 hp0 ⟨b, r, rfl, l0, x0, _, _⟩
    refine ⟨ag0, ?_⟩
    refine o_assign gn rfl rfl ?_
    refine wl_end ?_
    refine w_seq ?_
    refine w_region (by kernel_rfl) ?_
    refine o_assign gn rfl rfl ?_
    refine wl_end ?_
    refine w_seq ?_
    refine w_seq ?_
    refine w_region (by kernel_rfl) ?_
    refine o_assign gn rfl rfl ?_
    refine wl_end ?_
    refine w_block ?_
    refine w_weak [(0, iV many), (1, iV every), (5, ptrV b), (6, iV 0), (7, iV 0)] (by repeat (first | exact trivial | refine ⟨rfl, ?_⟩)) ?_
    refine w_loop (fun k l hh => ∃ (i : Int) (obs : List Ob) (own : List Nat), 0 ≤ i ∧ i ≤ many ∧ k = (many - i).toNat ∧ HAt hh b obs own ∧ (obs.length : Int) = min i 1024 ∧ cnt 1 obs + cnt 2 obs = obs.length ∧ (∀ o, o ∈ obs → o.vals.length ≤ 100000) ∧ l = [(0, iV many), (1, iV every), (5, ptrV b), (6, iV (cnt 2 obs)), (7, iV i)]) (n := (many - (0 : Int)).toNat) ?_ fun k l hh hI => ?_
    · exact ⟨0, [], _, by omega, by omega, rfl, ⟨_, _, _, _, _, _, _, l0, rfl⟩, by simp; omega, rfl, by simp, rfl⟩
    · obtain ⟨i, obs, own, hi0, hi1, rfl, hl, hlen, hsum, hvals, rfl⟩ := hI
      refine w_seq ?_
      refine w_seq ?_
      refine w_region (by kernel_rfl) ?_
      refine o_move gn rfl rfl ?_
      refine o_move gn rfl rfl ?_
      refine o_lss gn rfl rfl rfl ?_
      refine wl_end ?_
      refine w_cond rfl (fun hb => ?_) fun hb => ?_
      · skip
        refine w_skip ?_
        refine w_seq ?_
        refine w_block ?_
        refine w_seq ?_
        refine w_region (by kernel_rfl) ?_
        refine o_assign gn rfl rfl ?_
        refine wl_end ?_
        have hlt : i < many := by simpa using hb
        have hc1 := cnt_le 1 obs
        have hc2 := cnt_le 2 obs
        obtain ⟨hq0, hqq⟩ : ∃ x, x = hh := ⟨_, rfl⟩
        subst hqq
        refine w_cut (fun l hh => ∃ by' : Int, (by' = 1 ∨ by' = 2) ∧ hh = hq0 ∧ l = [(0, iV many), (1, iV every), (5, ptrV b), (6, iV (cnt 2 obs)), (7, iV i), (8, iV by')]) ?_ fun l hh hJ => ?_
        · skip
          refine w_seq ?_
          refine w_region (by kernel_rfl) ?_
          refine o_move gn rfl rfl ?_
          refine o_move gn rfl rfl ?_
          refine o_rem gn rfl rfl rfl (by omega) ?_
          refine o_eqi gn rfl rfl rfl ?_
          refine wl_end ?_
          refine w_cond rfl (fun hb => ?_) fun hb => ?_
          · skip
            refine w_region (by kernel_rfl) ?_
            refine o_assign gn rfl rfl ?_
            refine wl_end ?_
            exact ⟨_, (by repeat (first | exact trivial | refine ⟨rfl, ?_⟩)), ⟨2, .inr rfl, rfl, rfl⟩⟩
          · skip
            refine w_skip ?_
            exact ⟨_, (by repeat (first | exact trivial | refine ⟨rfl, ?_⟩)), ⟨1, .inl rfl, rfl, rfl⟩⟩
        · obtain ⟨by', hby, rfl, rfl⟩ := hJ
          refine w_seq ?_
          refine w_region (by kernel_rfl) ?_
          refine o_move gn rfl rfl ?_
          refine o_move gn rfl rfl ?_
          refine o_call [_, _, _, _, _, _] gn rfl rfl (by kernel_rfl) rfl (C.mono (c20 hl) ?_)
          rintro v1 hp1 ⟨rfl, own1, l1, f1, x1⟩
          rw [mkN, if_neg hnb, mkE, if_neg hnb]
          rw [mkO, if_neg hnb] at l1
          refine ⟨ag0, ?_⟩
          refine o_move gn rfl rfl ?_
          refine o_extract gn rfl rfl rfl ?_
          refine o_extract gn rfl rfl rfl ?_
          refine o_assign gn rfl rfl ?_
          refine o_assign gn rfl rfl ?_
          refine wl_end ?_
          refine w_seq ?_
          refine w_seq ?_
          refine w_region (by kernel_rfl) ?_
          refine o_move gn rfl rfl ?_
          refine o_geq gn rfl rfl rfl ?_
          refine wl_end ?_
          refine w_cond rfl (fun hb => ?_) fun hb => ?_
          · skip
            refine w_seq ?_
            refine w_seq ?_
            refine w_region (by kernel_rfl) ?_
            refine o_move gn rfl rfl ?_
            have hge : 1024 ≤ i := by simpa using hb
            have e1 : layN obs = 0 := if_neg (by omega)
            have e2 : layE obs = 11 := if_neg (by omega)
            have e3 : layO obs (mkOb 1 0 2 0 by') = obs := if_neg (by omega)
            refine o_nei gn rfl rfl rfl ?_
            refine o_move gn rfl rfl ?_
            refine o_or (n := 2) rfl rfl rfl gn rfl (fun hb => by
                refine o_move (gy rfl rfl rfl hb) rfl rfl ?_
                refine o_nei (gy rfl rfl rfl hb) rfl rfl rfl ?_
                exact wl_end ⟨rfl, rfl, 2, rfl, rfl⟩) ?_
            refine wl_end ?_
            refine w_cond rfl (fun hb => ?_) fun hb => ?_
            · skip
              refine w_seq ?_
              refine w_region (by kernel_rfl) ?_
              refine o_assign gn rfl rfl ?_
              refine wl_end ?_
              refine w_ret ?_
              refine ⟨.inl rfl, _, rfl, ?_⟩
              exfalso
              simp [e1, e2] at hb
            · skip
              refine w_skip ?_
              refine w_exit ?_
              refine thn_exit ?_
              refine blk_eq ?_
              refine w_region (by kernel_rfl) ?_
              refine o_move gn rfl rfl ?_
              refine o_add gn rfl rfl rfl (by omega) (by omega) ?_
              refine o_assign gn rfl rfl ?_
              refine wl_end ?_
              exact ⟨(many - (i + 1)).toNat, by omega, _, (by repeat (first | exact trivial | refine ⟨rfl, ?_⟩)), ⟨i + 1, obs, own1, by omega, by omega, rfl, by rw [← e3]; exact l1, by omega, hsum, hvals, rfl⟩⟩
          · skip
            have hge : i < 1024 := by simpa using hb
            have e1 : layN obs = i + 1 := by rw [layN, if_pos (by omega)]; omega
            have e2 : layE obs = 0 := if_pos (by omega)
            have e3 : layO obs (mkOb 1 0 2 0 by') = obs ++ [oneOb by' (cnt by' obs)] := if_pos (by omega)
            have e4 : obAt (layO obs (mkOb 1 0 2 0 by')) (layN obs) = some (oneOb by' (cnt by' obs)) := by
              rw [e1, e3, obAt, if_pos (by omega), show (i + 1 - 1).toNat = obs.length from by omega]; simp
            have hv1 : ∀ o, o ∈ layO obs (mkOb 1 0 2 0 by') → o.vals.length ≤ 100000 := by
              rw [e3]; intro o ho
              rcases List.mem_append.1 ho with h1 | h1
              · exact hvals o h1
              · simp at h1; subst h1; simp [oneOb]
            refine w_skip ?_
            refine w_seq ?_
            refine w_region (by kernel_rfl) ?_
            refine o_move gn rfl rfl ?_
            refine o_move gn rfl rfl ?_
            refine o_call [_, _] gn rfl rfl (by kernel_rfl) rfl (C.mono (c21 (id := layN obs) l1 (by rw [e3]; simp; omega) hv1) ?_)
            rintro v2 hp2 ⟨x2, q2⟩
            rw [e4] at q2
            obtain ⟨sv, bs, rfl, s2, f2⟩ := q2
            obtain ⟨asv, rfl⟩ := s2.val
            refine ⟨ag0, ?_⟩
            refine o_move gn rfl rfl ?_
            refine o_extract gn rfl rfl rfl ?_
            refine o_extract gn rfl rfl rfl ?_
            refine o_alloc (zv := .agg #[.int .i64 0, .int .i64 0, .slice none 0 0, .int .i64 0, .int .i64 0, .int .i64 0]) gn rfl (by kernel_rfl) ?_
            refine o_storeA (n := 6) gn rfl rfl rfl (by kernel_rfl) rfl (Hp.get_alloc_self _ _) (by decide) rfl ag0 ?_
            refine wl_at (fun h3 => h3.get hp2.n = some (.cells (Ob.cells (oneOb by' (cnt by' obs)) (.slice asv (isV [0, 0]).length (isV [0, 0]).length)) 46 0) ∧ Ext hp2 h3) ⟨Hp.get_put_self _ _ _, (Ext.alloc hp2 _).of (ExtB.put _ _ _) (by simp)⟩ fun h3 ⟨g3, x3⟩ => ?_
            have l3 := l1.ext (x2.trans x3)
            refine o_assign gn rfl rfl ?_
            refine wl_end ?_
            refine w_seq ?_
            refine w_region (by kernel_rfl) ?_
            refine o_move gn rfl rfl ?_
            refine o_move gn rfl rfl ?_
            refine o_sub gn rfl rfl rfl (by omega) (by omega) ?_
            refine o_assign gn rfl rfl ?_
            refine wl_end ?_
            refine w_cut (fun l hh => ∃ nth others : Int, nth = cnt by' obs ∧ others = cnt 2 (obs ++ [oneOb by' (cnt by' obs)]) ∧ hh = h3 ∧ l = [(0, iV many), (1, iV every), (5, ptrV b), (6, iV others), (7, iV i), (8, iV by'), (9, iV (layN obs)), (10, iV (layE obs)), (11, ptrV hp2.n), (12, iV 0), (13, iV nth)]) ?_ fun l hh hJ => ?_
            · skip
              refine w_seq ?_
              refine w_region (by kernel_rfl) ?_
              refine o_move gn rfl rfl ?_
              refine o_eqi gn rfl rfl rfl ?_
              refine wl_end ?_
              refine w_cond rfl (fun hb => ?_) fun hb => ?_
              · skip
                refine w_seq ?_
                refine w_region (by kernel_rfl) ?_
                refine o_move gn rfl rfl ?_
                refine o_assign gn rfl rfl ?_
                refine wl_end ?_
                refine w_region (by kernel_rfl) ?_
                refine o_move gn rfl rfl ?_
                refine o_add gn rfl rfl rfl (by omega) (by omega) ?_
                refine o_assign gn rfl rfl ?_
                refine wl_end ?_
                exact ⟨_, (by repeat (first | exact trivial | refine ⟨rfl, ?_⟩)), ⟨cnt 2 obs, cnt 2 obs + 1, by rw [show by' = 2 from by simpa using hb], by rw [cnt_append, oneOb_maker, if_pos (show by' = 2 from by simpa using hb)], rfl, rfl⟩⟩
              · skip
                refine w_skip ?_
                exact ⟨_, (by repeat (first | exact trivial | refine ⟨rfl, ?_⟩)), ⟨i - cnt 2 obs, cnt 2 obs, by rw [show by' = 1 from by rcases hby with h1 | h1; exact h1; simp [h1] at hb]; omega, by rw [cnt_append, oneOb_maker, if_neg (show ¬ by' = 2 from by simpa using hb)]; omega, rfl, rfl⟩⟩
            · obtain ⟨nth, others, hnth, rfl, rfl, rfl⟩ := hJ
              refine w_seq ?_
              refine w_region (by kernel_rfl) ?_
              refine o_move gn rfl rfl ?_
              refine o_nei gn rfl rfl rfl ?_
              refine o_move gn rfl rfl ?_
              refine o_or (n := 2) rfl rfl rfl gn rfl (fun hb => by
                  refine o_move (gy rfl rfl rfl hb) rfl rfl ?_
                  refine o_nei (gy rfl rfl rfl hb) rfl rfl rfl ?_
                  exact wl_end ⟨rfl, rfl, 2, rfl, rfl⟩) ?_
              refine o_move gn rfl rfl ?_
              refine o_or (n := 4) rfl rfl rfl gn rfl (fun hb => by
                  refine o_move (gy rfl rfl rfl hb) rfl rfl ?_
                  refine o_move (gy rfl rfl rfl hb) rfl rfl ?_
                  refine o_add (gy rfl rfl rfl hb) rfl rfl rfl (by omega) (by omega) ?_
                  refine o_nei (gy rfl rfl rfl hb) rfl rfl rfl ?_
                  exact wl_end ⟨rfl, rfl, 4, rfl, rfl⟩) ?_
              refine o_move gn rfl rfl ?_
              refine o_or (n := 4) rfl rfl rfl gn rfl (fun hb => by
                  refine o_fieldAddr (off := 4) (gy rfl rfl rfl hb) rfl rfl (by kernel_rfl) ?_
                  refine o_load (gy rfl rfl rfl hb) rfl rfl (by kernel_rfl) (by assumption) rfl ?_
                  refine o_move (gy rfl rfl rfl hb) rfl rfl ?_
                  refine o_nei (gy rfl rfl rfl hb) rfl rfl rfl ?_
                  exact wl_end ⟨rfl, rfl, 4, rfl, rfl⟩) ?_
              refine o_move gn rfl rfl ?_
              refine o_or (n := 4) rfl rfl rfl gn rfl (fun hb => by
                  refine o_fieldAddr (off := 5) (gy rfl rfl rfl hb) rfl rfl (by kernel_rfl) ?_
                  refine o_load (gy rfl rfl rfl hb) rfl rfl (by kernel_rfl) (by assumption) rfl ?_
                  refine o_move (gy rfl rfl rfl hb) rfl rfl ?_
                  refine o_nei (gy rfl rfl rfl hb) rfl rfl rfl ?_
                  exact wl_end ⟨rfl, rfl, 4, rfl, rfl⟩) ?_
              refine wl_end ?_
              refine w_cond rfl (fun hb => ?_) fun hb => ?_
              · skip
                refine w_seq ?_
                refine w_region (by kernel_rfl) ?_
                refine o_assign gn rfl rfl ?_
                refine wl_end ?_
                refine w_ret ?_
                refine ⟨.inl rfl, _, rfl, ?_⟩
                exfalso
                simp [e1, e2, hnth, oneOb] at hb
              · skip
                refine w_skip ?_
                refine w_region (by kernel_rfl) ?_
                refine o_move gn rfl rfl ?_
                refine o_add gn rfl rfl rfl (by omega) (by omega) ?_
                refine o_assign gn rfl rfl ?_
                refine wl_end ?_
                exact ⟨(many - (i + 1)).toNat, by omega, _, (by repeat (first | exact trivial | refine ⟨rfl, ?_⟩)), ⟨i + 1, _, own1, by omega, by omega, rfl, by rw [← e3]; exact l3, by simp; omega, by rw [cnt_append, cnt_append, oneOb_maker]; rcases hby with h1 | h1 <;> simp [h1] <;> omega, by rw [← e3]; exact hv1, rfl⟩⟩
      · skip
        refine w_exit ?_
        refine thn_exit ?_
        refine rnd_exit ?_
        refine blk_eq ?_
        refine w_seq ?_
        refine w_region (by kernel_rfl) ?_
        refine o_move gn rfl rfl ?_
        refine o_call [_] gn rfl rfl (by kernel_rfl) rfl (c_pure (c22' hl) ⟨ag0, ?_⟩)
        refine o_move gn rfl rfl ?_
        refine o_min gn rfl rfl rfl ?_
        refine o_eqi gn rfl rfl rfl ?_
        refine o_move gn rfl rfl ?_
        refine o_and (n := 1) rfl rfl rfl gn rfl (fun hb => by
            refine o_orc (f := 18) (v := .bool true) (gy rfl rfl rfl hb) rfl (by kernel_rfl) (by kernel_rfl) ag0 ?_
            exact wl_end ⟨rfl, rfl, 1, rfl, rfl⟩) ?_
        refine o_assign gn rfl rfl ?_
        refine wl_end ?_
        refine w_ret ?_
        refine ⟨.inl rfl, _, rfl, ?_⟩
        have hge : ¬ i < many := by simpa using hb
        have : (obs.length : Int) = min many 1024 := by omega
        simp [oneOf, this]

end Go.Proofs.Ytkmbfjdmbdpflaa


namespace Go.Proofs.Ytkmbfjdmbdpflaa
open Go.X

/-- An object of the document's row: the object, its slice, that slice's blocks. -/
structure En where
  o : Ob
  sv : Value
  bs : List Nat

def En.cells (e : En) : List Value := e.o.cells e.sv
theorem En.len (e : En) : e.cells.length = 6 := rfl

def rowC (es : List En) : List Value := es.flatMap En.cells
def rowB (es : List En) : List Nat := es.flatMap En.bs
def rowO (es : List En) : List Ob := es.map En.o

theorem rowC_len (es : List En) : (rowC es).length = es.length * 6 := by
  unfold rowC
  induction es with
  | nil => rfl
  | cons e r ih => rw [List.flatMap_cons, List.length_append, ih, e.len, List.length_cons]; omega

theorem rowC_at : ∀ {es : List En} {i j : Nat} (hi : i < es.length) (_hj : j < 6), (rowC es)[i * 6 + j]? = (es[i]).cells[j]?
  | e :: r, 0, j, _, hj => by
    show (rowC (e :: r))[0 * 6 + j]? = e.cells[j]?
    rw [rowC, List.flatMap_cons, List.getElem?_append_left (by rw [e.len]; omega)]; congr 1; omega
  | e :: r, i + 1, j, hi, hj => by
    rw [rowC, List.flatMap_cons, List.getElem?_append_right (by rw [e.len]; omega), e.len, show (i + 1) * 6 + j - 6 = i * 6 + j from by omega]
    exact rowC_at (es := r) (by simpa using hi) hj

/-- The document's heap. -/
structure DocR (h : Hp) (b : Nat) (es : List En) (sa : Value) (Ba : List Nat) : Prop where
  top : h.get b = some (.cells [sa] 66 0)
  row : SlN 46 5 h sa (rowC es) es.length Ba
  each : ∀ e, e ∈ es → Sl 2 h e.sv (isV e.o.vals) e.bs
  nodup : (b :: (Ba ++ rowB es)).Nodup
  lt : b < h.n

section
variable {h h' : Hp} {b : Nat} {es : List En} {sa : Value} {Ba : List Nat}

theorem DocR.keep {cs : List Nat} (x : DocR h b es sa Ba) (g : ExtB cs h h') (hd : ∀ i, i ∈ b :: (Ba ++ rowB es) → i ∉ cs) : DocR h' b es sa Ba :=
  ⟨by rw [g.get b x.lt (hd b (by simp))]; exact x.top, x.row.keep g fun i hi => hd i (by simp [hi]), fun e he => (x.each e he).keep g fun i hi => hd i (by
    simp only [List.mem_cons, List.mem_append]; exact .inr (.inr (List.mem_flatMap.2 ⟨e, he, hi⟩))), x.nodup, Nat.lt_of_lt_of_le x.lt g.n⟩
theorem DocR.ext (x : DocR h b es sa Ba) (g : Ext h h') : DocR h' b es sa Ba := x.keep (g.b []) (by simp)
theorem DocR.own (x : DocR h b es sa Ba) : ∀ i, i ∈ b :: (Ba ++ rowB es) → i < h.n := fun i hi => by
  simp only [List.mem_cons, List.mem_append, rowB, List.mem_flatMap] at hi
  rcases hi with rfl | hi | ⟨e, he, hi⟩
  · exact x.lt
  · exact x.row.lt i hi
  · exact (x.each e he).lt i hi

/-- There is an object of that number. -/
def isId (es : List En) (id : Int) : Bool := decide (1 ≤ id) && decide (id ≤ es.length)

theorem obAt_isId (es : List En) (id : Int) : isId es id = true ↔ ∃ (hi : (id - 1).toNat < es.length), 1 ≤ id ∧ obAt (rowO es) id = some (es[(id - 1).toNat]).o := by
  unfold isId obAt rowO
  simp only [Bool.and_eq_true, decide_eq_true_eq]
  constructor
  · intro ⟨h1, h2⟩
    have hi : (id - 1).toNat < es.length := by omega
    exact ⟨hi, h1, by rw [if_pos h1, List.getElem?_map, List.getElem?_eq_getElem hi]; rfl⟩
  · intro ⟨hi, h1, _⟩
    exact ⟨h1, by omega⟩
theorem obAt_not (es : List En) (id : Int) (hf : isId es id = false) : obAt (rowO es) id = none := by
  unfold isId at hf
  unfold obAt rowO
  simp only [Bool.and_eq_false_iff, decide_eq_false_iff_not] at hf
  split
  · rw [List.getElem?_eq_none]; rw [List.length_map]; omega
  · rfl

/-- Has -/
theorem c67 {id : Int} (hl : DocR h b es sa Ba) : CP heapE 67 [ptrV b, iV id] h (.bool (isId es id)) := by
  obtain ⟨a, rfl⟩ := hl.row.val
  have ht := hl.top
  refine c_enter (fu := Try.f67) (by kernel_rfl) rfl ?_
  refine w_seq ?_
  refine w_region (by kernel_rfl) ?_
  refine o_assign gn rfl rfl ?_
  refine wl_end ?_
  refine w_seq ?_
  refine w_region (by kernel_rfl) ?_
  refine o_move gn rfl rfl ?_
  refine o_geq gn rfl rfl rfl ?_
  refine o_move gn rfl rfl ?_
  refine o_and (n := 7) rfl rfl rfl gn rfl (fun hb => by
      refine o_move (gy rfl rfl rfl hb) rfl rfl ?_
      refine o_move (gy rfl rfl rfl hb) rfl rfl ?_
      refine o_nilCheck (gy rfl rfl rfl hb) rfl rfl ?_
      refine o_fieldAddr (off := 0) (gy rfl rfl rfl hb) rfl rfl (by kernel_rfl) ?_
      refine o_load (gy rfl rfl rfl hb) rfl rfl (by kernel_rfl) (by assumption) rfl ?_
      refine o_len (gy rfl rfl rfl hb) rfl rfl (by kernel_rfl) ?_
      refine o_leq (gy rfl rfl rfl hb) rfl rfl rfl ?_
      exact wl_end ⟨rfl, rfl, 7, rfl, rfl⟩) ?_
  refine o_assign gn rfl rfl ?_
  refine wl_end ?_
  refine w_ret ?_
  refine ⟨.inl rfl, _, rfl, ?_⟩
  exact ⟨by simp [oneOf, isId], rfl⟩

/-- A cell of the row. -/
theorem DocR.cell (hl : DocR h b es sa Ba) {i : Nat} (hi : i < es.length) : ∃ bb m, sa = .slice (some ⟨bb, 0, none⟩) es.length es.length ∧ h.get bb = some (.cells (rowC es) 46 m) ∧ m ≠ 1 ∧ bb < h.n ∧ Ba = [bb] ∧ (∀ j, j < 6 → (rowC es)[0 + i * 6 + j]? = (es[i]).cells[j]?) ∧ i * 6 + 6 ≤ (rowC es).length := by
  obtain ⟨bb, m, e1, e2, e3, e4, e5, _⟩ := hl.row.at (by omega)
  exact ⟨bb, m, e1, e2, by omega, e4, e5, fun j hj => by rw [Nat.zero_add]; exact rowC_at hi hj, by rw [rowC_len]; omega⟩

/-- Len -/
def lenOb : Option Ob → Int
  | some o => o.vals.length
  | none => 0

theorem c66 {id : Int} (hl : DocR h b es sa Ba) (hn : es.length ≤ 100000) : CP heapE 66 [ptrV b, iV id] h (iV (lenOb (obAt (rowO es) id))) := by
  have hsl := hl.row.val
  have ht := hl.top
  refine c_enter (fu := Try.f66) (by kernel_rfl) rfl ?_
  refine w_seq ?_
  refine w_region (by kernel_rfl) ?_
  refine o_assign gn rfl rfl ?_
  refine wl_end ?_
  refine w_seq ?_
  refine w_seq ?_
  refine w_region (by kernel_rfl) ?_
  refine o_move gn rfl rfl ?_
  refine o_move gn rfl rfl ?_
  refine o_call [_, _] gn rfl rfl (by kernel_rfl) rfl (c_pure (c67 hl) ⟨ag0, ?_⟩)
  refine o_not gn rfl rfl ?_
  refine wl_end ?_
  refine w_cond rfl (fun hb => ?_) fun hb => ?_
  · skip
    refine w_seq ?_
    refine w_region (by kernel_rfl) ?_
    refine o_assign gn rfl rfl ?_
    refine wl_end ?_
    refine w_ret ?_
    refine ⟨.inl rfl, _, rfl, ?_⟩
    have hf : isId es id = false := by simpa using hb
    exact ⟨by rw [obAt_not es id hf]; rfl, rfl⟩
  · skip
    have hf : isId es id = true := by simpa using hb
    obtain ⟨hi, h1, ho⟩ := (obAt_isId es id).1 hf
    obtain ⟨bb, m, rfl, hbb, hm, hblt, hB, hcs, _⟩ := hl.cell hi
    have hsv := hl.each _ (List.getElem_mem hi)
    obtain ⟨av, hav⟩ := hsv.val
    have hv : (rowC es)[0 + (id - 1).toNat * 6 + 2]? = some (.slice av (isV (es[(id - 1).toNat]).o.vals).length (isV (es[(id - 1).toNat]).o.vals).length) := by rw [hcs 2 (by omega), ← hav]; rfl
    refine w_skip ?_
    refine w_seq ?_
    refine w_region (by kernel_rfl) ?_
    refine o_move gn rfl rfl ?_
    refine o_nilCheck gn rfl rfl ?_
    refine o_fieldAddr (off := 0) gn rfl rfl (by kernel_rfl) ?_
    refine o_load gn rfl rfl (by kernel_rfl) (by assumption) rfl ?_
    refine o_move gn rfl rfl ?_
    refine o_sub gn rfl rfl rfl (by omega) (by omega) ?_
    refine o_indexAddr (zz := 6) gn rfl rfl rfl (by kernel_rfl) (by omega) (by omega) ?_
    refine o_fieldAddr (off := 2) gn rfl rfl (by kernel_rfl) ?_
    refine o_load gn rfl rfl (by kernel_rfl) hbb hv ?_
    refine o_len gn rfl rfl (by kernel_rfl) ?_
    refine o_assign gn rfl rfl ?_
    refine wl_end ?_
    refine w_ret ?_
    refine ⟨.inl rfl, _, rfl, ?_⟩
    exact ⟨by rw [ho]; simp [oneOf, lenOb], rfl⟩

end

end Go.Proofs.Ytkmbfjdmbdpflaa


namespace Go.Proofs.Ytkmbfjdmbdpflaa
open Go.X

def kindOb : Option Ob → Int
  | some o => o.kind
  | none => 0
def valsOb : Option Ob → List Int
  | some o => o.vals
  | none => []

/-- Get's value, and its error. -/
def getOk (oo : Option Ob) (i : Int) : Prop := 0 ≤ i ∧ i < lenOb oo
instance (oo : Option Ob) (i : Int) : Decidable (getOk oo i) := by unfold getOk; infer_instance
def getV (oo : Option Ob) (i : Int) : Int := if getOk oo i then ((valsOb oo)[i.toNat]?).getD 0 else 0
def getE (oo : Option Ob) (i : Int) : Int := if getOk oo i then 0 else 13

theorem getOk_some {oo : Option Ob} {i : Int} (h : getOk oo i) : ∃ o, oo = some o ∧ 0 ≤ i ∧ i < o.vals.length := by
  cases oo with
  | some o => exact ⟨o, rfl, h.1, h.2⟩
  | none => have := h.1; have := h.2; simp [lenOb] at this; omega

theorem isId_obAt {es : List En} {id : Int} {o : Ob} (h : obAt (rowO es) id = some o) : ∃ (hi : (id - 1).toNat < es.length), 1 ≤ id ∧ id ≤ es.length ∧ (es[(id - 1).toNat]).o = o := by
  have hb : isId es id = true := by
    cases hf : isId es id with
    | true => rfl
    | false => rw [obAt_not es id hf] at h; cases h
  obtain ⟨hi, h1, h2⟩ := (obAt_isId es id).1 hb
  rw [h] at h2
  exact ⟨hi, h1, by unfold isId at hb; simp at hb; omega, by cases h2; rfl⟩

section
variable {h h' : Hp} {b : Nat} {es : List En} {sa : Value} {Ba : List Nat}

/-- Is -/
theorem c65 {id k : Int} (hl : DocR h b es sa Ba) (hn : es.length ≤ 100000) : CP heapE 65 [ptrV b, iV id, iV k] h (.bool (isId es id && decide (kindOb (obAt (rowO es) id) = k))) := by
  have ht := hl.top
  refine c_enter (fu := Try.f65) (by kernel_rfl) rfl ?_
  refine w_seq ?_
  refine w_region (by kernel_rfl) ?_
  refine o_assign gn rfl rfl ?_
  refine wl_end ?_
  refine w_seq ?_
  refine w_region (by kernel_rfl) ?_
  refine o_move gn rfl rfl ?_
  refine o_move gn rfl rfl ?_
  refine o_call [_, _] gn rfl rfl (by kernel_rfl) rfl (c_pure (c67 hl) ⟨ag0, ?_⟩)
  refine o_move gn rfl rfl ?_
  refine o_and (n := 11) rfl rfl rfl gn rfl (fun hb => by
      obtain ⟨hi, h1, ho⟩ := (obAt_isId es id).1 hb
      obtain ⟨bb, m, ea, hbb, hm, hblt, hB, hcs, _⟩ := hl.cell hi
      rw [ea] at ht
      have hv : (rowC es)[0 + (id - 1).toNat * 6 + 0]? = some (iV (kindOb (obAt (rowO es) id))) := by rw [hcs 0 (by omega), ho]; rfl
      refine o_move (gy rfl rfl rfl hb) rfl rfl ?_
      refine o_nilCheck (gy rfl rfl rfl hb) rfl rfl ?_
      refine o_fieldAddr (off := 0) (gy rfl rfl rfl hb) rfl rfl (by kernel_rfl) ?_
      refine o_load (gy rfl rfl rfl hb) rfl rfl (by kernel_rfl) ht rfl ?_
      refine o_move (gy rfl rfl rfl hb) rfl rfl ?_
      refine o_sub (gy rfl rfl rfl hb) rfl rfl rfl (by omega) (by omega) ?_
      refine o_indexAddr (zz := 6) (gy rfl rfl rfl hb) rfl rfl rfl (by kernel_rfl) (by omega) (by omega) ?_
      refine o_fieldAddr (off := 0) (gy rfl rfl rfl hb) rfl rfl (by kernel_rfl) ?_
      refine o_load (gy rfl rfl rfl hb) rfl rfl (by kernel_rfl) hbb hv ?_
      refine o_move (gy rfl rfl rfl hb) rfl rfl ?_
      refine o_eqi (gy rfl rfl rfl hb) rfl rfl rfl ?_
      exact wl_end ⟨rfl, rfl, 11, rfl, rfl⟩) ?_
  refine o_assign gn rfl rfl ?_
  refine wl_end ?_
  refine w_ret ?_
  refine ⟨.inl rfl, _, rfl, ?_⟩
  exact ⟨rfl, rfl⟩

/-- Get -/
theorem c63 {id i : Int} (hl : DocR h b es sa Ba) (hn : es.length ≤ 100000) : CP heapE 63 [ptrV b, iV id, iV i] h (.tuple #[iV (getV (obAt (rowO es) id) i), iV (getE (obAt (rowO es) id) i)]) := by
  have ht := hl.top
  refine c_enter (fu := Try.f63) (by kernel_rfl) rfl ?_
  refine w_seq ?_
  refine w_region (by kernel_rfl) ?_
  refine o_assign gn rfl rfl ?_
  refine o_assign gn rfl rfl ?_
  refine wl_end ?_
  refine w_seq ?_
  refine w_seq ?_
  refine w_region (by kernel_rfl) ?_
  refine o_move gn rfl rfl ?_
  refine o_lss gn rfl rfl rfl ?_
  refine o_move gn rfl rfl ?_
  refine o_or (n := 5) rfl rfl rfl gn rfl (fun hb => by
      refine o_move (gy rfl rfl rfl hb) rfl rfl ?_
      refine o_move (gy rfl rfl rfl hb) rfl rfl ?_
      refine o_move (gy rfl rfl rfl hb) rfl rfl ?_
      refine o_call [_, _] (gy rfl rfl rfl hb) rfl rfl (by kernel_rfl) rfl (c_pure (c66 hl hn) ⟨ag0, ?_⟩)
      refine o_geq (gy rfl rfl rfl hb) rfl rfl rfl ?_
      exact wl_end ⟨rfl, rfl, 5, rfl, rfl⟩) ?_
  refine wl_end ?_
  refine w_cond rfl (fun hb => ?_) fun hb => ?_
  · skip
    refine w_seq ?_
    refine w_region (by kernel_rfl) ?_
    refine o_assign gn rfl rfl ?_
    refine o_assign gn rfl rfl ?_
    refine wl_end ?_
    refine w_ret ?_
    refine ⟨.inl rfl, _, rfl, ?_⟩
    have hf : ¬ getOk (obAt (rowO es) id) i := by unfold getOk; simp at hb; omega
    exact ⟨by rw [getV, getE, if_neg hf, if_neg hf]; rfl, rfl⟩
  · skip
    have hf : getOk (obAt (rowO es) id) i := by unfold getOk; simp at hb; omega
    obtain ⟨o, ho, h0, h1⟩ := getOk_some hf
    obtain ⟨hi, hid1, hid2, heo⟩ := isId_obAt ho
    obtain ⟨bb, m, rfl, hbb, hm, hblt, hB, hcs, _⟩ := hl.cell hi
    have hsv := hl.each _ (List.getElem_mem hi)
    rw [heo] at hsv
    obtain ⟨bv, mv, hav, hbv, _, _, _⟩ := hsv.at (by simp; omega)
    have hv : (rowC es)[0 + (id - 1).toNat * 6 + 2]? = some (.slice (some ⟨bv, 0, none⟩) (isV o.vals).length (isV o.vals).length) := by rw [hcs 2 (by omega), ← hav]; rfl
    refine w_skip ?_
    refine w_seq ?_
    refine w_region (by kernel_rfl) ?_
    refine o_move gn rfl rfl ?_
    refine o_nilCheck gn rfl rfl ?_
    refine o_fieldAddr (off := 0) gn rfl rfl (by kernel_rfl) ?_
    refine o_load gn rfl rfl (by kernel_rfl) (by assumption) rfl ?_
    refine o_move gn rfl rfl ?_
    refine o_sub gn rfl rfl rfl (by omega) (by omega) ?_
    refine o_indexAddr (zz := 6) gn rfl rfl rfl (by kernel_rfl) (by omega) (by omega) ?_
    refine o_fieldAddr (off := 2) gn rfl rfl (by kernel_rfl) ?_
    refine o_load gn rfl rfl (by kernel_rfl) hbb hv ?_
    refine o_move gn rfl rfl ?_
    refine o_indexAddr (zz := 1) gn rfl rfl rfl (by kernel_rfl) (by omega) (by simp; omega) ?_
    refine o_load gn rfl rfl (by kernel_rfl) hbv (at_int i.toNat (by omega) (by omega)) ?_
    refine o_assign gn rfl rfl ?_
    refine o_assign gn rfl rfl ?_
    refine wl_end ?_
    refine w_ret ?_
    refine ⟨.inl rfl, _, rfl, ?_⟩
    exact ⟨by rw [getV, getE, if_pos hf, if_pos hf, ho]; rfl, rfl⟩

end

end Go.Proofs.Ytkmbfjdmbdpflaa


namespace Go.Proofs.Ytkmbfjdmbdpflaa
open Go.X

/-- A value set. -/
def setOk (oo : Option Ob) (i : Int) : Prop := getOk oo i ∧ kindOb oo ≠ 4
instance (oo : Option Ob) (i : Int) : Decidable (setOk oo i) := by unfold setOk; infer_instance
def Ob.put (o : Ob) (i : Nat) (n : Int) : Ob := { o with vals := o.vals.set i n }
def setO (obs : List Ob) (id i n : Int) : List Ob := if setOk (obAt obs id) i then obs.modify (id - 1).toNat (fun o => o.put i.toNat n) else obs
def setE (oo : Option Ob) (i : Int) : Int := if setOk oo i then 0 else 13

def En.put (e : En) (i : Nat) (n : Int) : En := { e with o := e.o.put i n }

theorem rowC_put (es : List En) (k i : Nat) (n : Int) : rowC (es.modify k fun e => e.put i n) = rowC es := by
  unfold rowC
  induction es generalizing k with
  | nil => simp
  | cons e r ih =>
    cases k with
    | zero => rfl
    | succ k => rw [List.modify_succ_cons, List.flatMap_cons, List.flatMap_cons, ih]
theorem rowB_put (es : List En) (k i : Nat) (n : Int) : rowB (es.modify k fun e => e.put i n) = rowB es := by
  unfold rowB
  induction es generalizing k with
  | nil => simp
  | cons e r ih =>
    cases k with
    | zero => rfl
    | succ k => rw [List.modify_succ_cons, List.flatMap_cons, List.flatMap_cons, ih]
theorem rowO_put (es : List En) (k i : Nat) (n : Int) : rowO (es.modify k fun e => e.put i n) = (rowO es).modify k fun o => o.put i n := by
  unfold rowO
  induction es generalizing k with
  | nil => simp
  | cons e r ih =>
    cases k with
    | zero => rfl
    | succ k => rw [List.modify_succ_cons, List.map_cons, List.map_cons, List.modify_succ_cons, ih]

theorem rowB_apart {es : List En} (hd : (rowB es).Nodup) {i k x : Nat} (hi : i < es.length) (hk : k < es.length) (hne : i ≠ k) (h1 : x ∈ (es[i]).bs) : x ∉ (es[k]).bs := by
  unfold rowB at hd
  rw [List.Nodup, List.pairwise_flatMap] at hd
  have := List.pairwise_iff_getElem.1 hd.2
  intro h2
  rcases Nat.lt_or_gt_of_ne hne with h | h
  · exact (this i k hi hk h) x h1 x h2 rfl
  · exact (this k i hk hi h) x h2 x h1 rfl

section
variable {h h' : Hp} {b : Nat} {es : List En} {sa : Value} {Ba : List Nat}

theorem DocR.setV (hl : DocR h b es sa Ba) {k bb m : Nat} (hk : k < es.length) (hB : (es[k]).bs = [bb]) (hsv : (es[k]).sv = .slice (some ⟨bb, 0, none⟩) (es[k]).o.vals.length (es[k]).o.vals.length) (hm : m = 0 ∨ m = 3) (i : Nat) (n : Int) :
    DocR (h.put bb (.cells (isV ((es[k]).o.vals.set i n)) 2 m)) b (es.modify k fun e => e.put i n) sa Ba ∧ ExtB (rowB es) h (h.put bb (.cells (isV ((es[k]).o.vals.set i n)) 2 m)) := by
  have g := ExtB.put h bb (.cells (isV ((es[k]).o.vals.set i n)) 2 m)
  have hin : bb ∈ rowB es := List.mem_flatMap.2 ⟨_, List.getElem_mem hk, by rw [hB]; simp⟩
  have hnd := hl.nodup
  have hbb : bb < h.n := hl.own bb (by simp [hin])
  rw [List.nodup_cons, List.nodup_append] at hnd
  obtain ⟨n1, n2, n3, n4⟩ := hnd
  refine ⟨⟨?_, ?_, fun e he => ?_, by rw [rowB_put]; exact hl.nodup, by rw [Hp.n_put]; exact hl.lt⟩, g.mono (by simp [hin])⟩
  · rw [Hp.get_put, if_neg (fun e => n1 (by simp [← e, hin]))]; exact hl.top
  · rw [rowC_put, List.length_modify]
    exact hl.row.keep g fun j hj hx => by simp at hx; subst hx; exact n4 _ hj _ hin rfl
  · obtain ⟨j, hj, rfl⟩ := List.mem_iff_getElem.1 he
    rw [List.length_modify] at hj
    rw [List.getElem_modify]
    split
    · rename_i hjk
      subst hjk
      show Sl 2 _ (es[k]).sv (isV ((es[k]).o.vals.set i n)) (es[k]).bs
      rw [hB, hsv]
      exact Sl.put (by simp) hm hbb
    · rename_i hjk
      exact (hl.each _ (List.getElem_mem hj)).keep g fun x hx hy => by
        simp at hy; subst hy
        exact rowB_apart n3 hj hk (fun e => hjk e.symm) hx (by rw [hB]; simp)

/-- Set -/
theorem c64 {id i n : Int} (hl : DocR h b es sa Ba) (hn : es.length ≤ 100000) : C heapE 64 [ptrV b, iV id, iV i, iV n] h fun v h' => v = iV (setE (obAt (rowO es) id) i) ∧ ∃ es', DocR h' b es' sa Ba ∧ rowO es' = setO (rowO es) id i n ∧ rowB es' = rowB es ∧ ExtB (rowB es) h h' := by
  have ht := hl.top
  refine c_enter (fu := Try.f64) (by kernel_rfl) rfl ?_
  refine w_seq ?_
  refine w_region (by kernel_rfl) ?_
  refine o_assign gn rfl rfl ?_
  refine wl_end ?_
  refine w_seq ?_
  refine w_seq ?_
  refine w_region (by kernel_rfl) ?_
  refine o_move gn rfl rfl ?_
  refine o_lss gn rfl rfl rfl ?_
  refine o_move gn rfl rfl ?_
  refine o_or (n := 5) rfl rfl rfl gn rfl (fun hb => by
      refine o_move (gy rfl rfl rfl hb) rfl rfl ?_
      refine o_move (gy rfl rfl rfl hb) rfl rfl ?_
      refine o_move (gy rfl rfl rfl hb) rfl rfl ?_
      refine o_call [_, _] (gy rfl rfl rfl hb) rfl rfl (by kernel_rfl) rfl (c_pure (c66 hl hn) ⟨ag0, ?_⟩)
      refine o_geq (gy rfl rfl rfl hb) rfl rfl rfl ?_
      exact wl_end ⟨rfl, rfl, 5, rfl, rfl⟩) ?_
  refine o_move gn rfl rfl ?_
  refine o_or (n := 3) rfl rfl rfl gn rfl (fun hb => by
      refine o_move (gy rfl rfl rfl hb) rfl rfl ?_
      refine o_move (gy rfl rfl rfl hb) rfl rfl ?_
      refine o_call [_, _, _] (gy rfl rfl rfl hb) rfl rfl (by kernel_rfl) rfl (c_pure (c65 hl hn) ⟨ag0, ?_⟩)
      exact wl_end ⟨rfl, rfl, 3, rfl, rfl⟩) ?_
  refine wl_end ?_
  refine w_cond rfl (fun hb => ?_) fun hb => ?_
  · skip
    refine w_seq ?_
    refine w_region (by kernel_rfl) ?_
    refine o_assign gn rfl rfl ?_
    refine wl_end ?_
    refine w_ret ?_
    refine ⟨.inl rfl, _, rfl, ?_⟩
    have hf : ¬ setOk (obAt (rowO es) id) i := by
      intro ⟨hx, hk⟩
      obtain ⟨o, ho, h0, h1⟩ := getOk_some hx
      rw [ho] at hb hk
      simp [lenOb, kindOb] at hb hk
      grind
    exact ⟨by rw [setE, if_neg hf]; rfl, es, hl, by rw [setO, if_neg hf], rfl, .refl _ _⟩
  · skip
    have hg : getOk (obAt (rowO es) id) i := by unfold getOk; simp at hb; omega
    obtain ⟨o, ho, h0, h1⟩ := getOk_some hg
    obtain ⟨hi, hid1, hid2, heo⟩ := isId_obAt ho
    have hf : setOk (obAt (rowO es) id) i := ⟨hg, by
      have hid : isId es id = true := by simp [isId, hid1, hid2]
      intro hk; rw [hk, hid] at hb; simp at hb⟩
    obtain ⟨bb, m, rfl, hbb, hm, hblt, hB, hcs, _⟩ := hl.cell hi
    have hsv := hl.each _ (List.getElem_mem hi)
    rw [heo] at hsv
    obtain ⟨bv, mv, hav, hbv, hmv, _, hBv⟩ := hsv.at (by simp; omega)
    have hv : (rowC es)[0 + (id - 1).toNat * 6 + 2]? = some (.slice (some ⟨bv, 0, none⟩) (isV o.vals).length (isV o.vals).length) := by rw [hcs 2 (by omega), ← hav]; rfl
    refine w_skip ?_
    refine w_seq ?_
    refine w_region (by kernel_rfl) ?_
    refine o_move gn rfl rfl ?_
    refine o_nilCheck gn rfl rfl ?_
    refine o_fieldAddr (off := 0) gn rfl rfl (by kernel_rfl) ?_
    refine o_load gn rfl rfl (by kernel_rfl) (by assumption) rfl ?_
    refine o_move gn rfl rfl ?_
    refine o_sub gn rfl rfl rfl (by omega) (by omega) ?_
    refine o_indexAddr (zz := 6) gn rfl rfl rfl (by kernel_rfl) (by omega) (by omega) ?_
    refine o_fieldAddr (off := 2) gn rfl rfl (by kernel_rfl) ?_
    refine o_load gn rfl rfl (by kernel_rfl) hbb hv ?_
    refine o_move gn rfl rfl ?_
    refine o_move gn rfl rfl ?_
    refine o_indexAddr (zz := 1) gn rfl rfl rfl (by kernel_rfl) (by omega) (by simp; omega) ?_
    refine o_store gn rfl rfl rfl (by kernel_rfl) hbv (by omega) (by simp; omega) ag0 ?_
    refine wl_end ?_
    refine w_seq ?_
    refine w_region (by kernel_rfl) ?_
    refine o_assign gn rfl rfl ?_
    refine wl_end ?_
    refine w_ret ?_
    refine ⟨.inl rfl, _, rfl, ?_⟩
    have hset : (isV o.vals).set (0 + i.toNat * 1) (iV n) = isV ((es[(id - 1).toNat]).o.vals.set i.toNat n) := by rw [heo]; simp [isV, List.map_set]
    rw [hset]
    obtain ⟨r1, r2⟩ := hl.setV hi hBv (by rw [heo, hav]; simp) hmv i.toNat n
    exact ⟨by rw [setE, if_pos hf]; rfl, _, r1, by rw [rowO_put, setO, if_pos hf], rowB_put _ _ _ _, r2⟩

end

end Go.Proofs.Ytkmbfjdmbdpflaa


namespace Go.Proofs.Ytkmbfjdmbdpflaa
open Go.X

/-- The same object? -/
def sameOb (a b : Ob) : Bool := decide (a.kind = b.kind ∧ a.of = b.of ∧ a.site = b.site ∧ a.maker = b.maker ∧ a.nth = b.nth ∧ a.vals = b.vals)
theorem sameOb_iff (a b : Ob) : sameOb a b = true ↔ a = b := by
  unfold sameOb
  cases a; cases b
  simp only [decide_eq_true_eq, Ob.mk.injEq]
  grind

/-- SameObject -/
theorem c68 {h : Hp} {o o' : Ob} {sv sv' : Value} {bs bs' : List Nat} (hs : Sl 2 h sv (isV o.vals) bs) (hs' : Sl 2 h sv' (isV o'.vals) bs') (hn : o.vals.length ≤ 100000) :
    C heapE 68 [.agg (o.cells sv).toArray, .agg (o'.cells sv').toArray] h fun v h' => v = .bool (sameOb o o') ∧ Ext h h' := by
  obtain ⟨a, rfl⟩ := hs.val
  obtain ⟨a', rfl⟩ := hs'.val
  refine c_enter (fu := Try.f68) (by kernel_rfl) rfl ?_
  refine w_seq ?_
  refine w_region (by kernel_rfl) ?_
  refine o_box gn rfl rfl ?_
  refine o_box gn rfl rfl ?_
  refine wl_at (fun h2 => h2.get h.n = some (.cells (o.cells (.slice a (isV o.vals).length (isV o.vals).length)) 46 0) ∧ h2.get (h.n + 1) = some (.cells (o'.cells (.slice a' (isV o'.vals).length (isV o'.vals).length)) 46 0) ∧ Ext h h2) ⟨?_, ?_, ?_⟩ fun h2 ⟨g1, g2, x2⟩ => ?_
  · rw [Hp.get_alloc, if_neg (by rw [Hp.n_alloc]; omega)]; exact Hp.get_alloc_self _ _
  · rw [Hp.get_alloc, if_pos (Hp.n_alloc _ _)]; rfl
  · exact (Ext.alloc _ _).trans (Ext.alloc _ _)
  rw [Hp.n_alloc]
  refine o_assign gn rfl rfl ?_
  refine wl_end ?_
  refine w_seq ?_
  refine w_seq ?_
  refine w_region (by kernel_rfl) ?_
  refine o_fieldAddr (off := 0) gn rfl rfl (by kernel_rfl) ?_
  refine o_load gn rfl rfl (by kernel_rfl) (by assumption) rfl ?_
  refine o_fieldAddr (off := 0) gn rfl rfl (by kernel_rfl) ?_
  refine o_load gn rfl rfl (by kernel_rfl) (by assumption) rfl ?_
  refine o_nei gn rfl rfl rfl ?_
  refine o_move gn rfl rfl ?_
  refine o_or (n := 5) rfl rfl rfl gn rfl (fun hb => by
      refine o_fieldAddr (off := 1) (gy rfl rfl rfl hb) rfl rfl (by kernel_rfl) ?_
      refine o_load (gy rfl rfl rfl hb) rfl rfl (by kernel_rfl) (by assumption) rfl ?_
      refine o_fieldAddr (off := 1) (gy rfl rfl rfl hb) rfl rfl (by kernel_rfl) ?_
      refine o_load (gy rfl rfl rfl hb) rfl rfl (by kernel_rfl) (by assumption) rfl ?_
      refine o_nei (gy rfl rfl rfl hb) rfl rfl rfl ?_
      exact wl_end ⟨rfl, rfl, 5, rfl, rfl⟩) ?_
  refine o_move gn rfl rfl ?_
  refine o_or (n := 5) rfl rfl rfl gn rfl (fun hb => by
      refine o_fieldAddr (off := 3) (gy rfl rfl rfl hb) rfl rfl (by kernel_rfl) ?_
      refine o_load (gy rfl rfl rfl hb) rfl rfl (by kernel_rfl) (by assumption) rfl ?_
      refine o_fieldAddr (off := 3) (gy rfl rfl rfl hb) rfl rfl (by kernel_rfl) ?_
      refine o_load (gy rfl rfl rfl hb) rfl rfl (by kernel_rfl) (by assumption) rfl ?_
      refine o_nei (gy rfl rfl rfl hb) rfl rfl rfl ?_
      exact wl_end ⟨rfl, rfl, 5, rfl, rfl⟩) ?_
  refine o_move gn rfl rfl ?_
  refine o_or (n := 5) rfl rfl rfl gn rfl (fun hb => by
      refine o_fieldAddr (off := 4) (gy rfl rfl rfl hb) rfl rfl (by kernel_rfl) ?_
      refine o_load (gy rfl rfl rfl hb) rfl rfl (by kernel_rfl) (by assumption) rfl ?_
      refine o_fieldAddr (off := 4) (gy rfl rfl rfl hb) rfl rfl (by kernel_rfl) ?_
      refine o_load (gy rfl rfl rfl hb) rfl rfl (by kernel_rfl) (by assumption) rfl ?_
      refine o_nei (gy rfl rfl rfl hb) rfl rfl rfl ?_
      exact wl_end ⟨rfl, rfl, 5, rfl, rfl⟩) ?_
  refine o_move gn rfl rfl ?_
  refine o_or (n := 5) rfl rfl rfl gn rfl (fun hb => by
      refine o_fieldAddr (off := 5) (gy rfl rfl rfl hb) rfl rfl (by kernel_rfl) ?_
      refine o_load (gy rfl rfl rfl hb) rfl rfl (by kernel_rfl) (by assumption) rfl ?_
      refine o_fieldAddr (off := 5) (gy rfl rfl rfl hb) rfl rfl (by kernel_rfl) ?_
      refine o_load (gy rfl rfl rfl hb) rfl rfl (by kernel_rfl) (by assumption) rfl ?_
      refine o_nei (gy rfl rfl rfl hb) rfl rfl rfl ?_
      exact wl_end ⟨rfl, rfl, 5, rfl, rfl⟩) ?_
  refine o_move gn rfl rfl ?_
  refine o_or (n := 7) rfl rfl rfl gn rfl (fun hb => by
      refine o_fieldAddr (off := 2) (gy rfl rfl rfl hb) rfl rfl (by kernel_rfl) ?_
      refine o_load (gy rfl rfl rfl hb) rfl rfl (by kernel_rfl) (by assumption) rfl ?_
      refine o_len (gy rfl rfl rfl hb) rfl rfl (by kernel_rfl) ?_
      refine o_fieldAddr (off := 2) (gy rfl rfl rfl hb) rfl rfl (by kernel_rfl) ?_
      refine o_load (gy rfl rfl rfl hb) rfl rfl (by kernel_rfl) (by assumption) rfl ?_
      refine o_len (gy rfl rfl rfl hb) rfl rfl (by kernel_rfl) ?_
      refine o_nei (gy rfl rfl rfl hb) rfl rfl rfl ?_
      exact wl_end ⟨rfl, rfl, 7, rfl, rfl⟩) ?_
  refine wl_end ?_
  refine w_cond rfl (fun hb => ?_) fun hb => ?_
  · skip
    refine w_seq ?_
    refine w_region (by kernel_rfl) ?_
    refine o_assign gn rfl rfl ?_
    refine wl_end ?_
    refine w_ret ?_
    refine ⟨.inl rfl, _, rfl, ?_⟩
    have hne : sameOb o o' = false := by
      cases hx : sameOb o o' with
      | false => rfl
      | true => rw [sameOb_iff] at hx; subst hx; simp at hb
    exact ⟨by rw [hne]; rfl, x2⟩
  · skip
    have hlen : o.vals.length = o'.vals.length := by simp at hb; grind
    have hsame : o.kind = o'.kind ∧ o.of = o'.of ∧ o.site = o'.site ∧ o.maker = o'.maker ∧ o.nth = o'.nth := by simp at hb; grind
    have hs2 := hs.ext x2
    have hs2' := hs'.ext x2
    refine w_skip ?_
    refine w_seq ?_
    refine w_seq ?_
    refine w_region (by kernel_rfl) ?_
    refine o_assign gn rfl rfl ?_
    refine wl_end ?_
    refine w_block ?_
    refine w_weak [(2, ptrV h.n), (3, ptrV (h.n + 1)), (5, iV 0)] (by repeat (first | exact trivial | refine ⟨rfl, ?_⟩)) ?_
    refine w_loop (fun k l hh => ∃ i : Int, 0 ≤ i ∧ i ≤ o.vals.length ∧ k = (o.vals.length - i).toNat ∧ (∀ j : Nat, j < i.toNat → o.vals[j]? = o'.vals[j]?) ∧ hh = h2 ∧ l = [(2, ptrV h.n), (3, ptrV (h.n + 1)), (5, iV i)]) (n := (o.vals.length - (0 : Int)).toNat) ?_ fun k l hh hI => ?_
    · exact ⟨0, by omega, by omega, rfl, fun j hj => by omega, rfl, rfl⟩
    · obtain ⟨i, hi0, hi1, rfl, hall, rfl, rfl⟩ := hI
      refine w_seq ?_
      refine w_seq ?_
      refine w_region (by kernel_rfl) ?_
      refine o_move gn rfl rfl ?_
      refine o_fieldAddr (off := 2) gn rfl rfl (by kernel_rfl) ?_
      refine o_load gn rfl rfl (by kernel_rfl) (by assumption) rfl ?_
      refine o_len gn rfl rfl (by kernel_rfl) ?_
      refine o_lss gn rfl rfl rfl ?_
      refine wl_end ?_
      refine w_cond rfl (fun hb => ?_) fun hb => ?_
      · skip
        have hlt : i < o.vals.length := by simpa using hb
        obtain ⟨bv, mv, hav, hbv, _, _, _⟩ := hs2.at (by simp; omega)
        obtain ⟨bv', mv', hav', hbv', _, _, _⟩ := hs2'.at (by simp; omega)
        simp only [Value.slice.injEq, and_true] at hav hav'
        obtain ⟨rfl, _⟩ := hav
        obtain ⟨rfl, _⟩ := hav'
        have hv := at_int (k := .i64) (l := o.vals) i.toNat (by omega) (show 0 + i.toNat * 1 = i.toNat from by omega)
        have hv' := at_int (k := .i64) (l := o'.vals) i.toNat (by omega) (show 0 + i.toNat * 1 = i.toNat from by omega)
        refine w_skip ?_
        refine w_seq ?_
        refine w_block ?_
        refine w_seq ?_
        refine w_draw [(0, []), (1, []), (2, []), (3, []), (4, []), (5, []), (6, []), (7, []), (8, []), (9, []), (10, [])] (by kernel_rfl) (by kernel_rfl) (by kernel_rfl) (by kernel_rfl) ?_
        refine o_fieldAddr (off := 2) gn rfl rfl (by kernel_rfl) ?_
        refine o_load gn rfl rfl (by kernel_rfl) (by assumption) rfl ?_
        refine o_move gn rfl rfl ?_
        refine o_indexAddr (zz := 1) gn rfl rfl rfl (by kernel_rfl) (by omega) (by simp; omega) ?_
        refine o_load gn rfl rfl (by kernel_rfl) hbv hv ?_
        refine o_fieldAddr (off := 2) gn rfl rfl (by kernel_rfl) ?_
        refine o_load gn rfl rfl (by kernel_rfl) (by assumption) rfl ?_
        refine o_move gn rfl rfl ?_
        refine o_indexAddr (zz := 1) gn rfl rfl rfl (by kernel_rfl) (by omega) (by simp; omega) ?_
        refine o_load gn rfl rfl (by kernel_rfl) hbv' hv' ?_
        refine o_nei gn rfl rfl rfl ?_
        refine wl_end ?_
        refine w_cond rfl (fun hb => ?_) fun hb => ?_
        · skip
          refine w_seq ?_
          refine w_region (by kernel_rfl) ?_
          refine o_assign gn rfl rfl ?_
          refine wl_end ?_
          refine w_ret ?_
          refine ⟨.inl rfl, _, rfl, ?_⟩
          have hne : sameOb o o' = false := by
            cases hx : sameOb o o' with
            | false => rfl
            | true => rw [sameOb_iff] at hx; subst hx; simp at hb
          exact ⟨by rw [hne]; rfl, x2⟩
        · skip
          refine w_skip ?_
          refine w_region (by kernel_rfl) ?_
          refine o_move gn rfl rfl ?_
          refine o_add gn rfl rfl rfl (by omega) (by omega) ?_
          refine o_assign gn rfl rfl ?_
          refine wl_end ?_
          exact ⟨(o.vals.length - (i + 1)).toNat, by omega, _, (by repeat (first | exact trivial | refine ⟨rfl, ?_⟩)), ⟨i + 1, by omega, by omega, rfl, fun j hj => by
            by_cases hji : j < i.toNat
            · exact hall j hji
            · have : j = i.toNat := by omega
              subst this
              have hb' : (o.vals[i.toNat]?).getD 0 = (o'.vals[i.toNat]?).getD 0 := by simpa using hb
              rw [List.getElem?_eq_getElem (show i.toNat < o.vals.length by omega), List.getElem?_eq_getElem (show i.toNat < o'.vals.length by omega)] at hb' ⊢
              simpa using hb', rfl, rfl⟩⟩
      · skip
        refine w_exit ?_
        refine thn_exit ?_
        refine rnd_exit ?_
        refine blk_eq ?_
        refine w_seq ?_
        refine w_region (by kernel_rfl) ?_
        refine o_assign gn rfl rfl ?_
        refine wl_end ?_
        refine w_ret ?_
        refine ⟨.inl rfl, _, rfl, ?_⟩
        have hge : ¬ i < o.vals.length := by simpa using hb
        have heq : o.vals = o'.vals := List.ext_getElem? fun j => by
          by_cases hj : j < o.vals.length
          · exact hall j (by omega)
          · rw [List.getElem?_eq_none (by omega), List.getElem?_eq_none (by omega)]
        have hyes : sameOb o o' = true := by unfold sameOb; simp [hsame, heq]
        exact ⟨by rw [hyes]; rfl, x2⟩

end Go.Proofs.Ytkmbfjdmbdpflaa


namespace Go.Proofs.Ytkmbfjdmbdpflaa
open Go.X

theorem el46 : ElN heapE 64 46 5 63 := ⟨by kernel_rfl, by kernel_rfl, by kernel_rfl, .agg #[.int .i64 0, .int .i64 0, .slice none 0 0, .int .i64 0, .int .i64 0, .int .i64 0], by kernel_rfl, rfl⟩

theorem cnt_take (k : Int) (obs : List Ob) (i : Nat) (hi : i < obs.length) : cnt k (obs.take (i + 1)) = cnt k (obs.take i) + (if (obs[i]).maker = k then 1 else 0) := by
  rw [List.take_add_one, List.getElem?_eq_getElem hi]
  exact cnt_append k _ _

section
variable {h h' : Hp} {b : Nat} {es : List En} {sa : Value} {Ba : List Nat}

theorem DocR.push (hl : DocR h b es sa Ba) {o : Ob} {sv sa' : Value} {bs Ba' : List Nat} (hs : Sl 2 h sv (isV o.vals) bs) (hbs : ∀ i, i ∈ bs → i ∉ b :: (Ba ++ rowB es)) (g : ExtB (b :: Ba) h h')
    (top : h'.get b = some (.cells [sa'] 66 0)) (row : SlN 46 5 h' sa' (rowC es ++ o.cells sv) (es.length + 1) Ba') (hBa : ∀ i, i ∈ Ba' → h.n ≤ i) : DocR h' b (es ++ [⟨o, sv, bs⟩]) sa' Ba' := by
  have hnd := hl.nodup
  rw [List.nodup_cons, List.nodup_append] at hnd
  obtain ⟨n1, n2, n3, n4⟩ := hnd
  refine ⟨top, ?_, fun e he => ?_, ?_, Nat.lt_of_lt_of_le hl.lt g.n⟩
  · rw [show rowC (es ++ [⟨o, sv, bs⟩]) = rowC es ++ o.cells sv from by simp [rowC, En.cells], List.length_append]
    exact row
  · rcases List.mem_append.1 he with h1 | h1
    · exact (hl.each e h1).keep g fun i hi hj => by
        have hr : i ∈ rowB es := List.mem_flatMap.2 ⟨e, h1, hi⟩
        rcases List.mem_cons.1 hj with rfl | hj
        · exact n1 (by simp [hr])
        · exact n4 _ hj _ hr rfl
    · simp only [List.mem_cons, List.not_mem_nil, or_false] at h1
      subst h1
      exact hs.keep g fun i hi hj => hbs i hi (by simp only [List.mem_cons, List.mem_append] at hj ⊢; rcases hj with h1 | h1 <;> simp [h1])
  · rw [show rowB (es ++ [⟨o, sv, bs⟩]) = rowB es ++ bs from by simp [rowB]]
    have hown := hl.own
    have hbl := hs.lt
    have hbn := hs.nodup
    have hBn := row.nodup
    generalize rowB es = F at *
    simp only [List.nodup_cons, List.nodup_append, List.mem_append, List.mem_cons] at *
    grind

/-- add -/
theorem c76 {o : Ob} {sv : Value} {bs : List Nat} (hl : DocR h b es sa Ba) (hn : es.length ≤ 100000) (hs : Sl 2 h sv (isV o.vals) bs) (hbs : ∀ i, i ∈ bs → i ∉ b :: (Ba ++ rowB es)) :
    C heapE 76 [ptrV b, .agg (o.cells sv).toArray] h fun v h' => v = .tuple #[iV (layN (rowO es)), iV (layE (rowO es))] ∧ ∃ es' sa' Ba', DocR h' b es' sa' Ba' ∧ rowO es' = layO (rowO es) o ∧
      (∀ i, i ∈ b :: (Ba' ++ rowB es') → i ∈ b :: (Ba ++ rowB es) ∨ i ∈ bs ∨ h.n ≤ i) ∧ ExtB (b :: Ba) h h' := by
  obtain ⟨a, rfl⟩ := hl.row.val
  obtain ⟨av, rfl⟩ := hs.val
  have ht := hl.top
  have hblt := hl.lt
  have hlen : (rowO es).length = es.length := by simp [rowO]
  refine c_enter (fu := Try.f76) (by kernel_rfl) rfl ?_
  refine w_seq ?_
  refine w_region (by kernel_rfl) ?_
  refine o_box gn rfl rfl ?_
  refine o_assign gn rfl rfl ?_
  refine o_assign gn rfl rfl ?_
  refine wl_end ?_
  refine w_seq ?_
  refine w_seq ?_
  refine w_region (by kernel_rfl) ?_
  refine o_move gn rfl rfl ?_
  refine o_nilCheck gn rfl rfl ?_
  refine o_fieldAddr (off := 0) gn rfl rfl (by kernel_rfl) ?_
  refine o_load gn rfl rfl (by kernel_rfl) (((Ext.alloc _ _).get _ hblt).trans ht) rfl ?_
  refine o_len gn rfl rfl (by kernel_rfl) ?_
  refine o_geq gn rfl rfl rfl ?_
  refine wl_end ?_
  refine w_cond rfl (fun hb => ?_) fun hb => ?_
  · skip
    refine w_seq ?_
    refine w_region (by kernel_rfl) ?_
    refine o_assign gn rfl rfl ?_
    refine o_assign gn rfl rfl ?_
    refine wl_end ?_
    refine w_ret ?_
    refine ⟨.inl rfl, _, rfl, ?_⟩
    have hge : ¬ (rowO es).length < 1024 := by simp at hb; omega
    refine ⟨by rw [layN, layE, if_neg hge, if_neg hge]; rfl, es, _, Ba, hl.ext (Ext.alloc _ _), by rw [layO, if_neg hge], fun i hi => .inl hi, (Ext.alloc _ _).b _⟩
  · skip
    have hlt : es.length < 1024 := by simp at hb; omega
    refine w_skip ?_
    refine w_seq ?_
    refine w_region (by kernel_rfl) ?_
    refine o_fieldAddr (off := 5) gn rfl rfl (by kernel_rfl) ?_
    refine o_store gn rfl rfl rfl (by kernel_rfl) (Hp.get_alloc_self _ _) (by decide) (show 5 < 6 by decide) ag0 ?_
    refine wl_at (fun h1 => h1.get h.n = some (.cells (Ob.cells { o with nth := 0 } (.slice av (isV o.vals).length (isV o.vals).length)) 46 0) ∧ Ext h h1 ∧ h.n < h1.n) ⟨Hp.get_put_self _ _ _, (Ext.alloc _ _).of (ExtB.put _ _ _) (by simp), by rw [Hp.n_put, Hp.n_alloc]; omega⟩ fun h1 ⟨g1, x1, n1⟩ => ?_
    refine wl_end ?_
    refine w_seq ?_
    refine w_seq ?_
    refine w_region (by kernel_rfl) ?_
    refine o_assign gn rfl rfl ?_
    refine wl_end ?_
    refine w_block ?_
    refine w_weak [(0, ptrV b), (3, ptrV h.n), (6, iV 0)] (by repeat (first | exact trivial | refine ⟨rfl, ?_⟩)) ?_
    refine w_loop (fun k l hh => ∃ i : Int, 0 ≤ i ∧ i ≤ es.length ∧ k = (es.length - i).toNat ∧ hh.get h.n = some (.cells (Ob.cells { o with nth := cnt o.maker ((rowO es).take i.toNat) } (.slice av (isV o.vals).length (isV o.vals).length)) 46 0) ∧ Ext h hh ∧ h.n < hh.n ∧ l = [(0, ptrV b), (3, ptrV h.n), (6, iV i)]) (n := (es.length - (0 : Int)).toNat) ?_ fun k l hh hI => ?_
    · exact ⟨0, by omega, by omega, rfl, g1, x1, n1, rfl⟩
    · obtain ⟨i, hi0, hi1, rfl, g2, x2, n2, rfl⟩ := hI
      have ht2 := (x2.get b hblt).trans ht
      refine w_seq ?_
      refine w_seq ?_
      refine w_region (by kernel_rfl) ?_
      refine o_move gn rfl rfl ?_
      refine o_move gn rfl rfl ?_
      refine o_nilCheck gn rfl rfl ?_
      refine o_fieldAddr (off := 0) gn rfl rfl (by kernel_rfl) ?_
      refine o_load gn rfl rfl (by kernel_rfl) (by assumption) rfl ?_
      refine o_len gn rfl rfl (by kernel_rfl) ?_
      refine o_lss gn rfl rfl rfl ?_
      refine wl_end ?_
      refine w_cond rfl (fun hb => ?_) fun hb => ?_
      · skip
        have hi : i < es.length := by simpa using hb
        obtain ⟨bb, m, ea, hbb, hm, hbblt, hB, hcs, hcl⟩ := hl.cell (show i.toNat < es.length by omega)
        simp only [Value.slice.injEq, and_true] at ea
        subst ea
        have hbb2 := (x2.get bb hbblt).trans hbb
        have hv : (rowC es)[0 + i.toNat * 6 + 4]? = some (iV (es[i.toNat]'(by omega)).o.maker) := (hcs 4 (by omega)).trans rfl
        have hct := cnt_take o.maker (rowO es) i.toNat (by omega)
        have hmk : (rowO es)[i.toNat]'(by omega) = (es[i.toNat]'(by omega)).o := by simp [rowO]
        have hcb := cnt_le o.maker ((rowO es).take i.toNat)
        have hct2 : ((rowO es).take i.toNat).length ≤ 1024 := by simp; omega
        refine w_skip ?_
        refine w_seq ?_
        refine w_block ?_
        refine w_seq ?_
        refine w_draw [(0, []), (1, []), (2, []), (3, []), (4, []), (5, []), (6, []), (7, []), (8, []), (9, []), (10, [])] (by kernel_rfl) (by kernel_rfl) (by kernel_rfl) (by kernel_rfl) ?_
        refine o_move gn rfl rfl ?_
        refine o_nilCheck gn rfl rfl ?_
        refine o_fieldAddr (off := 0) gn rfl rfl (by kernel_rfl) ?_
        refine o_load gn rfl rfl (by kernel_rfl) (by assumption) rfl ?_
        refine o_move gn rfl rfl ?_
        refine o_indexAddr (zz := 6) gn rfl rfl rfl (by kernel_rfl) (by omega) (by omega) ?_
        refine o_fieldAddr (off := 4) gn rfl rfl (by kernel_rfl) ?_
        refine o_load gn rfl rfl (by kernel_rfl) hbb2 hv ?_
        refine o_fieldAddr (off := 4) gn rfl rfl (by kernel_rfl) ?_
        refine o_load gn rfl rfl (by kernel_rfl) (by assumption) rfl ?_
        refine o_eqi gn rfl rfl rfl ?_
        refine wl_end ?_
        refine w_cond rfl (fun hb => ?_) fun hb => ?_
        · skip
          refine w_region (by kernel_rfl) ?_
          refine o_fieldAddr (off := 5) gn rfl rfl (by kernel_rfl) ?_
          refine o_load gn rfl rfl (by kernel_rfl) (by assumption) rfl ?_
          refine o_add gn rfl rfl rfl (by dsimp only; omega) (by dsimp only; omega) ?_
          refine o_fieldAddr (off := 5) gn rfl rfl (by kernel_rfl) ?_
          refine o_store gn rfl rfl rfl (by kernel_rfl) g2 (by decide) (by simp [Ob.cells]) ag0 ?_
          refine wl_end ?_
          refine w_region (by kernel_rfl) ?_
          refine o_move gn rfl rfl ?_
          refine o_add gn rfl rfl rfl (by omega) (by omega) ?_
          refine o_assign gn rfl rfl ?_
          refine wl_end ?_
          exact ⟨(es.length - (i + 1)).toNat, by omega, _, (by repeat (first | exact trivial | refine ⟨rfl, ?_⟩)), ⟨i + 1, by omega, by omega, rfl, by rw [Hp.get_put_self, show (i + 1).toNat = i.toNat + 1 from by omega, hct, hmk, if_pos (by simpa using hb)]; rfl, x2.of (ExtB.put _ _ _) (by simp), by rw [Hp.n_put]; exact n2, rfl⟩⟩
        · skip
          refine w_skip ?_
          refine w_region (by kernel_rfl) ?_
          refine o_move gn rfl rfl ?_
          refine o_add gn rfl rfl rfl (by omega) (by omega) ?_
          refine o_assign gn rfl rfl ?_
          refine wl_end ?_
          exact ⟨(es.length - (i + 1)).toNat, by omega, _, (by repeat (first | exact trivial | refine ⟨rfl, ?_⟩)), ⟨i + 1, by omega, by omega, rfl, by rw [show (i + 1).toNat = i.toNat + 1 from by omega, hct, hmk, if_neg (by simpa using hb), Int.add_zero]; exact g2, x2, n2, rfl⟩⟩
      · skip
        refine w_exit ?_
        refine thn_exit ?_
        refine rnd_exit ?_
        refine blk_eq ?_
        have hge : ¬ i < es.length := by simpa using hb
        rw [List.take_of_length_le (by omega)] at g2
        refine w_seq ?_
        refine w_draw [(0, []), (1, []), (2, []), (3, []), (4, []), (5, []), (6, []), (7, []), (8, []), (9, []), (10, [])] (by kernel_rfl) (by kernel_rfl) (by kernel_rfl) (by kernel_rfl) ?_
        refine o_move gn rfl rfl ?_
        refine o_move gn rfl rfl ?_
        refine o_nilCheck gn rfl rfl ?_
        refine o_fieldAddr (off := 0) gn rfl rfl (by kernel_rfl) ?_
        refine o_load gn rfl rfl (by kernel_rfl) (by assumption) rfl ?_
        refine o_loadA (n := 6) gn rfl rfl (by kernel_rfl) (by kernel_rfl) g2 (Nat.le_refl 6) ?_
        refine o_buildSlice (e := 46) (z := 5) (zv := .agg #[.int .i64 0, .int .i64 0, .slice none 0 0, .int .i64 0, .int .i64 0, .int .i64 0]) (cs := (Ob.cells { o with nth := cnt o.maker (rowO es) } (.slice av (isV o.vals).length (isV o.vals).length)).toArray) [(0, .agg (Ob.cells { o with nth := cnt o.maker (rowO es) } (.slice av (isV o.vals).length (isV o.vals).length)).toArray)] gn rfl (by kernel_rfl) (by kernel_rfl) (by kernel_rfl) (by kernel_rfl) rfl (by kernel_rfl) ?_
        have x3 := Ext.alloc hh (.cells (Ob.cells { o with nth := cnt o.maker (rowO es) } (.slice av (isV o.vals).length (isV o.vals).length)) 46 0)
        obtain ⟨v', h4, a1, a2, a3⟩ := appendN el46 ((hl.row.ext x2).ext x3) (Hp.get_alloc_self hh _) rfl rfl (by omega)
        obtain ⟨a9, rfl⟩ := a2.val
        have hnd := hl.nodup
        have hbB : b ∉ Ba := fun hx => by simp [hx] at hnd
        have f7 := (a3.get b (by rw [Hp.n_alloc]; have := x2.n; omega) hbB).trans ((x3.get b (by have := x2.n; omega)).trans ht2)
        refine o_append gn rfl rfl rfl a1 ag0 ?_
        refine o_nilCheck gn rfl rfl ?_
        refine o_fieldAddr (off := 0) gn rfl rfl (by kernel_rfl) ?_
        refine o_store gn rfl rfl rfl (by kernel_rfl) f7 (by decide) (by simp) ag0 ?_
        refine wl_end ?_
        refine w_seq ?_
        refine w_region (by kernel_rfl) ?_
        refine o_move gn rfl rfl ?_
        refine o_nilCheck gn rfl rfl ?_
        refine o_fieldAddr (off := 0) gn rfl rfl (by kernel_rfl) ?_
        refine o_load gn rfl rfl (by kernel_rfl) (Hp.get_put_self _ _ _) rfl ?_
        refine o_len gn rfl rfl (by kernel_rfl) ?_
        refine o_assign gn rfl rfl ?_
        refine o_assign gn rfl rfl ?_
        refine wl_end ?_
        refine w_ret ?_
        refine ⟨.inl rfl, _, rfl, ?_⟩
        have hlt' : (rowO es).length < 1024 := by omega
        have e5 := ExtB.put h4 b
        have gg : ExtB (b :: Ba) h _ := (((x2.trans x3).b (b :: Ba)).trans (a3.mono fun i hi _ => by simp [hi])).trans ((e5 (.cells [.slice a9 (es.length + 1) (es.length + 1)] 66 0)).mono (by simp))
        refine ⟨by rw [layN, layE, if_pos hlt', if_pos hlt', hlen]; simp [oneOf], _, _, _, DocR.push hl (o := { o with nth := cnt o.maker (rowO es) }) hs hbs gg (Hp.get_put_self _ _ _) (a2.keep (e5 _) fun j hj hx => ?_) (fun j hj => ?_), by rw [layO, if_pos hlt']; simp [rowO], fun j hj => ?_, gg⟩
        · simp at hj hx; have := x2.n; rw [Hp.n_alloc] at hj; omega
        · simp at hj; have := x2.n; rw [Hp.n_alloc] at hj; omega
        · rw [show rowB (es ++ [⟨{ o with nth := cnt o.maker (rowO es) }, .slice av (isV o.vals).length (isV o.vals).length, bs⟩]) = rowB es ++ bs from by simp [rowB]] at hj
          have := x2.n
          simp only [List.mem_cons, List.mem_append, List.not_mem_nil, or_false] at hj ⊢
          rw [Hp.n_alloc] at hj
          rcases hj with h1 | h1 | h1 | h1
          · simp [h1]
          · right; right; omega
          · simp [h1]
          · simp [h1]

end

end Go.Proofs.Ytkmbfjdmbdpflaa


namespace Go.Proofs.Ytkmbfjdmbdpflaa
open Go.X

/-- The document's heap, and the blocks that are its own. -/
def DAt (h : Hp) (b : Nat) (obs : List Ob) (own : List Nat) : Prop := ∃ es sa Ba, DocR h b es sa Ba ∧ rowO es = obs ∧ own = b :: (Ba ++ rowB es)

theorem DAt.keep {h h' : Hp} {b : Nat} {obs : List Ob} {own cs : List Nat} (x : DAt h b obs own) (g : ExtB cs h h') (hd : ∀ i, i ∈ own → i ∉ cs) : DAt h' b obs own := by
  obtain ⟨es, sa, Ba, x, e, rfl⟩ := x
  exact ⟨es, sa, Ba, x.keep g hd, e, rfl⟩
theorem DAt.ext {h h' : Hp} {b : Nat} {obs : List Ob} {own : List Nat} (x : DAt h b obs own) (g : Ext h h') : DAt h' b obs own := x.keep (g.b []) (by simp)
theorem DAt.lt {h : Hp} {b : Nat} {obs : List Ob} {own : List Nat} (x : DAt h b obs own) : ∀ i, i ∈ own → i < h.n := by
  obtain ⟨es, sa, Ba, x, e, rfl⟩ := x
  exact x.own

theorem c76' {h h0 : Hp} {b : Nat} {obs : List Ob} {own : List Nat} {o : Ob} {sv : Value} {bs : List Nat} (hl : DAt h0 b obs own) (x : Ext h0 h) (hn : obs.length ≤ 1024) (hs : Sl 2 h sv (isV o.vals) bs) (hbs : ∀ i, i ∈ bs → h0.n ≤ i) :
    C heapE 76 [ptrV b, .agg (o.cells sv).toArray] h fun v h' => v = .tuple #[iV (layN obs), iV (layE obs)] ∧ ∃ own', DAt h' b (layO obs o) own' ∧ (∀ i, i ∈ own' → i ∈ own ∨ h0.n ≤ i) ∧ ExtB own h0 h' := by
  have hlt := hl.lt
  obtain ⟨es, sa, Ba, hl, rfl, rfl⟩ := hl
  have n0 := x.n
  refine C.mono (c76 (hl.ext x) (by simp [rowO] at hn; omega) hs (fun i hi hj => by have := hbs i hi; have := hlt _ hj; omega)) ?_
  rintro v h' ⟨rfl, es', sa', Ba', k1, k2, k3, k4⟩
  refine ⟨rfl, _, ⟨es', sa', Ba', k1, k2, rfl⟩, fun i hi => ?_, ?_⟩
  · rcases k3 i hi with h1 | h1 | h1
    · exact .inl h1
    · exact .inr (hbs i h1)
    · exact .inr (by omega)
  · refine ⟨Nat.le_trans x.n k4.n, fun i hi hn => (k4.get i (Nat.lt_of_lt_of_le hi x.n) fun hm => hn ?_).trans (x.get i hi)⟩
    simp only [List.mem_cons, List.mem_append] at hm ⊢
    rcases hm with h1 | h1 <;> simp [h1]

def clOb (of : Int) (cells : List Int) (site by' : Int) : Ob := ⟨4, of, cells, site, by', 0⟩
def clO (obs : List Ob) (of : Int) (cells : List Int) (site by' : Int) : List Ob := if 256 < cells.length then obs else layO obs (clOb of cells site by')
def clN (obs : List Ob) (cells : List Int) : Int := if 256 < cells.length then 0 else layN obs
def clE (obs : List Ob) (cells : List Int) : Int := if 256 < cells.length then 2 else layE obs

section
variable {h : Hp} {b : Nat} {obs : List Ob} {own : List Nat}

/-- Make, of the document -/
theorem c61 {kind of size site by' : Int} (hl : DAt h b obs own) (hn : obs.length ≤ 1024) :
    C heapE 61 [ptrV b, iV kind, iV of, iV size, iV site, iV by'] h fun v h' => v = .tuple #[iV (mkN obs kind size), iV (mkE obs kind size)] ∧ ∃ own', DAt h' b (mkO obs kind of size site by') own' ∧ (∀ i, i ∈ own' → i ∈ own ∨ h.n ≤ i) ∧ ExtB own h h' := by
  refine c_enter (fu := Try.f61) (by kernel_rfl) rfl ?_
  refine w_seq ?_
  refine w_region (by kernel_rfl) ?_
  refine o_assign gn rfl rfl ?_
  refine o_assign gn rfl rfl ?_
  refine wl_end ?_
  refine w_seq ?_
  refine w_seq ?_
  refine w_region (by kernel_rfl) ?_
  refine o_move gn rfl rfl ?_
  refine o_nei gn rfl rfl rfl ?_
  refine o_move gn rfl rfl ?_
  refine o_and (n := 2) rfl rfl rfl gn rfl (fun hb => by
      refine o_move (gy rfl rfl rfl hb) rfl rfl ?_
      refine o_nei (gy rfl rfl rfl hb) rfl rfl rfl ?_
      exact wl_end ⟨rfl, rfl, 2, rfl, rfl⟩) ?_
  refine o_move gn rfl rfl ?_
  refine o_and (n := 2) rfl rfl rfl gn rfl (fun hb => by
      refine o_move (gy rfl rfl rfl hb) rfl rfl ?_
      refine o_nei (gy rfl rfl rfl hb) rfl rfl rfl ?_
      exact wl_end ⟨rfl, rfl, 2, rfl, rfl⟩) ?_
  refine o_move gn rfl rfl ?_
  refine o_or (n := 2) rfl rfl rfl gn rfl (fun hb => by
      refine o_move (gy rfl rfl rfl hb) rfl rfl ?_
      refine o_lss (gy rfl rfl rfl hb) rfl rfl rfl ?_
      exact wl_end ⟨rfl, rfl, 2, rfl, rfl⟩) ?_
  refine o_move gn rfl rfl ?_
  refine o_or (n := 2) rfl rfl rfl gn rfl (fun hb => by
      refine o_move (gy rfl rfl rfl hb) rfl rfl ?_
      refine o_gtr (gy rfl rfl rfl hb) rfl rfl rfl ?_
      exact wl_end ⟨rfl, rfl, 2, rfl, rfl⟩) ?_
  refine o_move gn rfl rfl ?_
  refine o_or (n := 6) rfl rfl rfl gn rfl (fun hb => by
      refine o_move (gy rfl rfl rfl hb) rfl rfl ?_
      refine o_eqi (gy rfl rfl rfl hb) rfl rfl rfl ?_
      refine o_move (gy rfl rfl rfl hb) rfl rfl ?_
      refine o_and (n := 2) rfl rfl rfl (gy rfl rfl rfl hb) rfl (fun hb => by
          refine o_move (gy rfl rfl rfl hb) rfl rfl ?_
          refine o_nei (gy rfl rfl rfl hb) rfl rfl rfl ?_
          exact wl_end ⟨rfl, rfl, 2, rfl, rfl⟩) ?_
      exact wl_end ⟨rfl, rfl, 4, rfl, rfl⟩) ?_
  refine wl_end ?_
  refine w_cond rfl (fun hb => ?_) fun hb => ?_
  · skip
    refine w_seq ?_
    refine w_region (by kernel_rfl) ?_
    refine o_assign gn rfl rfl ?_
    refine o_assign gn rfl rfl ?_
    refine wl_end ?_
    refine w_ret ?_
    refine ⟨.inl rfl, _, rfl, ?_⟩
    have hbad : mkBad kind size := by unfold mkBad; simp at hb; omega
    exact ⟨by rw [mkN, mkE, if_pos hbad, if_pos hbad]; rfl, own, by rw [mkO, if_pos hbad]; exact hl, fun i hi => .inl hi, .refl _ _⟩
  · skip
    have hbad : ¬ mkBad kind size := by unfold mkBad; simp at hb; omega
    have hbad' := hbad
    unfold mkBad at hbad'
    refine w_skip ?_
    refine w_seq ?_
    refine w_region (by kernel_rfl) ?_
    refine o_move gn rfl rfl ?_
    refine o_move gn rfl rfl ?_
    refine o_move gn rfl rfl ?_
    refine o_move gn rfl rfl ?_
    refine o_makeSlice (e := 2) (z := 0) (zv := .int .i64 0) (by' := 8) gn rfl rfl rfl (by kernel_rfl) (by kernel_rfl) (by kernel_rfl) (by kernel_rfl) (by decide) (by omega) (by omega) (by omega) (by omega) ?_
    refine wl_at (fun h2 => Sl 2 h2 (.slice (some ⟨h.n, 0, none⟩) size.toNat size.toNat) (isV (List.replicate size.toNat 0)) [h.n] ∧ Ext h h2) ⟨?_, Ext.alloc _ _⟩ fun h2 ⟨f2, x2⟩ => ?_
    · have := Sl.new (h := h) (e := 2) (vs := isV (List.replicate size.toNat 0)) (m := 0) (.inl rfl)
      show Sl 2 (h.alloc (.cells (repeatCells [.int .i64 0] size.toNat) 2 0)) _ _ _
      rw [rep_isV]
      simpa using this
    refine o_move gn rfl rfl ?_
    refine o_move gn rfl rfl ?_
    refine o_build (zv := .agg #[.int .i64 0, .int .i64 0, .slice none 0 0, .int .i64 0, .int .i64 0, .int .i64 0]) (pl := [(0, 1), (1, 1), (2, 1), (3, 1), (4, 1), (5, 1)]) [(0, _), (1, _), (2, _), (3, _), (4, _)] gn rfl (by kernel_rfl) (by kernel_rfl) rfl rfl ?_
    refine o_call [_, _] gn rfl rfl (by kernel_rfl) rfl (C.mono (c76' (o := mkOb kind of size site by') hl x2 hn f2 (by simp)) ?_)
    rintro v h' ⟨rfl, own', q1, q2, q3⟩
    refine ⟨ag0, ?_⟩
    refine o_extract gn rfl rfl rfl ?_
    refine o_extract gn rfl rfl rfl ?_
    refine o_assign gn rfl rfl ?_
    refine o_assign gn rfl rfl ?_
    refine wl_end ?_
    refine w_ret ?_
    refine ⟨.inl rfl, _, rfl, ?_⟩
    exact ⟨by rw [mkN, mkE, if_neg hbad, if_neg hbad]; rfl, own', by rw [mkO, if_neg hbad]; exact q1, q2, q3⟩

/-- Closure, of the document -/
theorem c62 {of site by' : Int} {a : Option Addr} {n c : Nat} {cells : List Int} (hl : DAt h b obs own) (hn : obs.length ≤ 1024) (hs : Src h (.slice a n c) (isV cells)) :
    C heapE 62 [ptrV b, iV of, .slice a n c, iV site, iV by'] h fun v h' => v = .tuple #[iV (clN obs cells), iV (clE obs cells)] ∧ ∃ own', DAt h' b (clO obs of cells site by') own' ∧ (∀ i, i ∈ own' → i ∈ own ∨ h.n ≤ i) ∧ ExtB own h h' := by
  have en := hs.len'
  simp only [isV, List.length_map] at en
  subst en
  refine c_enter (fu := Try.f62) (by kernel_rfl) rfl ?_
  refine w_seq ?_
  refine w_region (by kernel_rfl) ?_
  refine o_assign gn rfl rfl ?_
  refine o_assign gn rfl rfl ?_
  refine wl_end ?_
  refine w_seq ?_
  refine w_seq ?_
  refine w_region (by kernel_rfl) ?_
  refine o_move gn rfl rfl ?_
  refine o_len gn rfl rfl (by kernel_rfl) ?_
  refine o_gtr gn rfl rfl rfl ?_
  refine wl_end ?_
  refine w_cond rfl (fun hb => ?_) fun hb => ?_
  · skip
    refine w_seq ?_
    refine w_region (by kernel_rfl) ?_
    refine o_assign gn rfl rfl ?_
    refine o_assign gn rfl rfl ?_
    refine wl_end ?_
    refine w_ret ?_
    refine ⟨.inl rfl, _, rfl, ?_⟩
    have hbad : 256 < cells.length := by simp at hb; omega
    exact ⟨by rw [clN, clE, if_pos hbad, if_pos hbad]; rfl, own, by rw [clO, if_pos hbad]; exact hl, fun i hi => .inl hi, .refl _ _⟩
  · skip
    have hbad : ¬ 256 < cells.length := by simp at hb; omega
    obtain ⟨v', h', bs', a1, a2, a3, a4⟩ := append_nil (E := heapE) el2 hs (by simp; omega)
    obtain ⟨a9, rfl⟩ := a2.val
    refine w_skip ?_
    refine w_seq ?_
    refine w_region (by kernel_rfl) ?_
    refine o_move gn rfl rfl ?_
    refine o_move gn rfl rfl ?_
    refine o_move gn rfl rfl ?_
    refine o_append gn rfl rfl rfl a1 ag0 ?_
    refine o_move gn rfl rfl ?_
    refine o_move gn rfl rfl ?_
    refine o_build (zv := .agg #[.int .i64 0, .int .i64 0, .slice none 0 0, .int .i64 0, .int .i64 0, .int .i64 0]) (pl := [(0, 1), (1, 1), (2, 1), (3, 1), (4, 1), (5, 1)]) [(0, _), (1, _), (2, _), (3, _), (4, _)] gn rfl (by kernel_rfl) (by kernel_rfl) rfl rfl ?_
    refine o_call [_, _] gn rfl rfl (by kernel_rfl) rfl (C.mono (c76' (o := clOb of cells site by') hl a3 hn a2 a4) ?_)
    rintro v h' ⟨rfl, own', q1, q2, q3⟩
    refine ⟨ag0, ?_⟩
    refine o_extract gn rfl rfl rfl ?_
    refine o_extract gn rfl rfl rfl ?_
    refine o_assign gn rfl rfl ?_
    refine o_assign gn rfl rfl ?_
    refine wl_end ?_
    refine w_ret ?_
    refine ⟨.inl rfl, _, rfl, ?_⟩
    exact ⟨by rw [clN, clE, if_neg hbad, if_neg hbad]; rfl, own', by rw [clO, if_neg hbad]; exact q1, q2, q3⟩

/-- Closure, of the program -/
theorem c39 {of site by' : Int} {a : Option Addr} {n c : Nat} {cells : List Int} (hl : HAt h b obs own) (hs : Src h (.slice a n c) (isV cells)) :
    C heapE 39 [ptrV b, iV of, .slice a n c, iV site, iV by'] h fun v h' => v = .tuple #[iV (clN obs cells), iV (clE obs cells)] ∧ ∃ own', HAt h' b (clO obs of cells site by') own' ∧ (∀ i, i ∈ own' → i ∈ own ∨ h.n ≤ i) ∧ ExtB own h h' := by
  have en := hs.len'
  simp only [isV, List.length_map] at en
  subst en
  refine c_enter (fu := Try.f39) (by kernel_rfl) rfl ?_
  refine w_seq ?_
  refine w_region (by kernel_rfl) ?_
  refine o_assign gn rfl rfl ?_
  refine o_assign gn rfl rfl ?_
  refine wl_end ?_
  refine w_seq ?_
  refine w_block ?_
  refine w_seq ?_
  refine w_region (by kernel_rfl) ?_
  refine o_move gn rfl rfl ?_
  refine o_eqp gn rfl rfl rfl (by kernel_rfl) ?_
  refine o_assign gn rfl rfl ?_
  refine wl_end ?_
  refine w_cond rfl (fun hb => ?_) fun hb => ?_
  · skip
    refine w_seq ?_
    refine w_region (by kernel_rfl) ?_
    refine o_assign gn rfl rfl ?_
    refine o_assign gn rfl rfl ?_
    refine wl_end ?_
    refine w_ret ?_
    refine ⟨.inl rfl, _, rfl, ?_⟩
    cases hb
  · skip
    refine w_seq ?_
    refine w_region (by kernel_rfl) ?_
    refine o_move gn rfl rfl ?_
    refine o_len gn rfl rfl (by kernel_rfl) ?_
    refine o_gtr gn rfl rfl rfl ?_
    refine o_assign gn rfl rfl ?_
    refine wl_end ?_
    refine w_cond rfl (fun hb => ?_) fun hb => ?_
    · skip
      refine w_seq ?_
      refine w_region (by kernel_rfl) ?_
      refine o_assign gn rfl rfl ?_
      refine o_assign gn rfl rfl ?_
      refine wl_end ?_
      refine w_ret ?_
      refine ⟨.inl rfl, _, rfl, ?_⟩
      have hbad : 256 < cells.length := by simp at hb; omega
      exact ⟨by rw [clN, clE, if_pos hbad, if_pos hbad]; rfl, own, by rw [clO, if_pos hbad]; exact hl, fun i hi => .inl hi, .refl _ _⟩
    · skip
      have hbad : ¬ 256 < cells.length := by simp at hb; omega
      refine w_skip ?_
      refine w_seq ?_
      refine w_region (by kernel_rfl) ?_
      refine o_move gn rfl rfl ?_
      refine o_move gn rfl rfl ?_
      refine o_move gn rfl rfl ?_
      refine o_call [_] gn rfl rfl (by kernel_rfl) rfl (C.mono (c73 hs (by simp; omega)) ?_)
      rintro sv h1 ⟨bs, s1, x1, f1⟩
      obtain ⟨a9, rfl⟩ := s1.val
      refine ⟨ag0, ?_⟩
      refine o_move gn rfl rfl ?_
      refine o_move gn rfl rfl ?_
      refine o_build (zv := .agg #[.int .i64 0, .int .i64 0, .slice none 0 0, .int .i64 0, .int .i64 0, .int .i64 0]) (pl := [(0, 1), (1, 1), (2, 1), (3, 1), (4, 1), (5, 1)]) [(0, _), (1, _), (2, _), (3, _), (4, _)] gn rfl (by kernel_rfl) (by kernel_rfl) rfl rfl ?_
      refine o_box gn rfl rfl ?_
      refine wl_at (fun h2 => h2.get h1.n = some (.cells ((clOb of cells site by').cells (.slice a9 (isV cells).length (isV cells).length)) 46 0) ∧ Ext h1 h2 ∧ h2.n = h1.n + 1) ⟨Hp.get_alloc_self _ _, Ext.alloc _ _, Hp.n_alloc _ _⟩ fun h2 ⟨g2, x2, n2⟩ => ?_
      refine o_call [_, _] gn rfl rfl (by kernel_rfl) rfl (C.mono (c54' (o := clOb of cells site by') hl (x1.trans x2) g2 (s1.ext x2) (by omega) x1.n f1 (fun hi => by have := s1.lt _ hi; omega)) ?_)
      rintro v h' ⟨rfl, own', q1, q2, q3⟩
      refine ⟨ag0, ?_⟩
      refine o_extract gn rfl rfl rfl ?_
      refine o_extract gn rfl rfl rfl ?_
      refine o_assign gn rfl rfl ?_
      refine o_assign gn rfl rfl ?_
      refine wl_end ?_
      refine w_ret ?_
      refine ⟨.inl rfl, _, rfl, ?_⟩
      exact ⟨by rw [clN, clE, if_neg hbad, if_neg hbad]; rfl, own', by rw [clO, if_neg hbad]; exact q1, q2, q3⟩

end

end Go.Proofs.Ytkmbfjdmbdpflaa


namespace Go.Proofs.Ytkmbfjdmbdpflaa
open Go.X

section
variable {h h' : Hp} {b : Nat} {obs : List Ob} {ps : List Nat} {vb : List (List Nat)} {sa : Value} {Ba : List Nat} {r : Nat} {M : Ms} {cl : Nat}

theorem HeapR.at2 (hl : HeapR h b obs ps vb sa Ba r M cl) (id : Int) : ∃ ao, atV ps id = .pointer ao ∧ ao.isNone = (obAt obs id).isNone ∧ ∀ o, obAt obs id = some o →
    ∃ (hi : (id - 1).toNat < obs.length) (h1 : (id - 1).toNat < ps.length) (h2 : (id - 1).toNat < vb.length), 1 ≤ id ∧ id ≤ obs.length ∧ obs[(id - 1).toNat] = o ∧ ao = some ⟨ps[(id - 1).toNat], 0, none⟩ ∧ ObAt h ps[(id - 1).toNat] o vb[(id - 1).toNat] := by
  have e1 := hl.lps; have e2 := hl.lvb
  unfold obAt atV
  by_cases hr : 1 ≤ id ∧ id ≤ ps.length
  · have hlt : (id - 1).toNat < obs.length := by omega
    refine ⟨some ⟨ps[(id - 1).toNat], 0, none⟩, ?_, ?_, fun o ho => ?_⟩
    · rw [if_pos hr, List.getElem?_eq_getElem (show (id - 1).toNat < ps.length by omega)]; rfl
    · rw [if_pos hr.1, List.getElem?_eq_getElem hlt]; rfl
    · rw [if_pos hr.1, List.getElem?_eq_getElem hlt] at ho
      cases ho
      exact ⟨hlt, by omega, by omega, hr.1, by omega, rfl, rfl, hl.each _ hlt⟩
  · have hn : (if 1 ≤ id then obs[(id - 1).toNat]? else none) = none := by
      split
      · exact List.getElem?_eq_none (by omega)
      · rfl
    exact ⟨none, by rw [if_neg hr], by rw [hn]; rfl, fun o ho => by rw [hn] at ho; cases ho⟩

/-- Is -/
theorem c42 {id k : Int} (hl : HeapR h b obs ps vb sa Ba r M cl) (hn : obs.length ≤ 1024) : CP heapE 42 [ptrV b, iV id, iV k] h (.bool ((obAt obs id).isSome && decide (kindOb (obAt obs id) = k))) := by
  have e1 := hl.lps
  obtain ⟨ao, ha, hiso, hob⟩ := hl.at2 id
  have hiS : ao.isSome = (obAt obs id).isSome := by rw [← Option.not_isNone, ← Option.not_isNone, hiso]
  refine c_enter (fu := Try.f42) (by kernel_rfl) rfl ?_
  refine w_seq ?_
  refine w_region (by kernel_rfl) ?_
  refine o_assign gn rfl rfl ?_
  refine wl_end ?_
  refine w_seq ?_
  refine w_region (by kernel_rfl) ?_
  refine o_move gn rfl rfl ?_
  refine o_move gn rfl rfl ?_
  refine o_call [_, _] gn rfl rfl (by kernel_rfl) rfl (c_pure (c55 hl (by omega)) ⟨ag0, ?_⟩)
  rw [ha]
  refine o_assign gn rfl rfl ?_
  refine wl_end ?_
  refine w_seq ?_
  refine w_region (by kernel_rfl) ?_
  refine o_move gn rfl rfl ?_
  refine o_nep gn rfl rfl rfl (by kernel_rfl) ?_
  refine o_move gn rfl rfl ?_
  refine o_and (n := 6) rfl rfl rfl gn rfl (fun hb => by
      obtain ⟨o, ho⟩ : ∃ o, obAt obs id = some o := by
        rw [hiS] at hb
        cases hx : obAt obs id with
        | none => rw [hx] at hb; cases hb
        | some o => exact ⟨o, rfl⟩
      obtain ⟨hi, h1, h2, hid1, hid2, heo, hao, hat⟩ := hob o ho
      obtain ⟨sv, hp, hs⟩ := hat.at'
      have hv : (o.cells sv)[0 + 0]? = some (iV (kindOb (obAt obs id))) := by rw [ho]; rfl
      refine o_move (gy rfl rfl rfl hb) rfl rfl ?_
      refine o_nilCheck (gy rfl rfl rfl hb) rfl (congrArg (fun z => some (Value.pointer z)) hao) ?_
      refine o_fieldAddr (off := 0) (gy rfl rfl rfl hb) rfl rfl (by kernel_rfl) ?_
      refine o_load (gy rfl rfl rfl hb) rfl rfl (by kernel_rfl) hp hv ?_
      refine o_move (gy rfl rfl rfl hb) rfl rfl ?_
      refine o_eqi (gy rfl rfl rfl hb) rfl rfl rfl ?_
      exact wl_end ⟨rfl, rfl, 6, rfl, rfl⟩) ?_
  refine o_assign gn rfl rfl ?_
  refine wl_end ?_
  refine w_ret ?_
  refine ⟨.inl rfl, _, rfl, ?_⟩
  exact ⟨by rw [hiS]; rfl, rfl⟩

/-- Len -/
theorem c43 {id : Int} (hl : HeapR h b obs ps vb sa Ba r M cl) (hn : obs.length ≤ 1024) : CP heapE 43 [ptrV b, iV id] h (iV (lenOb (obAt obs id))) := by
  have e1 := hl.lps
  obtain ⟨ao, ha, hiso, hob⟩ := hl.at2 id
  have hiS : ao.isSome = (obAt obs id).isSome := by rw [← Option.not_isNone, ← Option.not_isNone, hiso]
  refine c_enter (fu := Try.f43) (by kernel_rfl) rfl ?_
  refine w_seq ?_
  refine w_region (by kernel_rfl) ?_
  refine o_assign gn rfl rfl ?_
  refine wl_end ?_
  refine w_seq ?_
  refine w_seq ?_
  refine w_region (by kernel_rfl) ?_
  refine o_move gn rfl rfl ?_
  refine o_move gn rfl rfl ?_
  refine o_call [_, _] gn rfl rfl (by kernel_rfl) rfl (c_pure (c55 hl (by omega)) ⟨ag0, ?_⟩)
  rw [ha]
  refine o_assign gn rfl rfl ?_
  refine wl_end ?_
  refine w_seq ?_
  refine w_region (by kernel_rfl) ?_
  refine o_move gn rfl rfl ?_
  refine o_nep gn rfl rfl rfl (by kernel_rfl) ?_
  refine wl_end ?_
  refine w_cond rfl (fun hb => ?_) fun hb => ?_
  · skip
    obtain ⟨o, ho⟩ : ∃ o, obAt obs id = some o := by
      rw [hiS] at hb
      cases hx : obAt obs id with
      | none => rw [hx] at hb; cases hb
      | some o => exact ⟨o, rfl⟩
    obtain ⟨hi, h1, h2, hid1, hid2, heo, rfl, hat⟩ := hob o ho
    obtain ⟨sv, hp, hs⟩ := hat.at'
    obtain ⟨av, rfl⟩ := hs.val
    refine w_seq ?_
    refine w_region (by kernel_rfl) ?_
    refine o_move gn rfl rfl ?_
    refine o_nilCheck gn rfl rfl ?_
    refine o_fieldAddr (off := 2) gn rfl rfl (by kernel_rfl) ?_
    refine o_load gn rfl rfl (by kernel_rfl) (by assumption) rfl ?_
    refine o_len gn rfl rfl (by kernel_rfl) ?_
    refine o_assign gn rfl rfl ?_
    refine wl_end ?_
    refine w_ret ?_
    refine ⟨.inl rfl, _, rfl, ?_⟩
    exact ⟨by rw [ho]; simp [oneOf, lenOb], rfl⟩
  · skip
    refine w_skip ?_
    refine w_seq ?_
    refine w_region (by kernel_rfl) ?_
    refine o_assign gn rfl rfl ?_
    refine wl_end ?_
    refine w_ret ?_
    refine ⟨.inl rfl, _, rfl, ?_⟩
    have hnone : obAt obs id = none := by
      rw [hiS] at hb
      cases hx : obAt obs id with
      | none => rfl
      | some o => rw [hx] at hb; cases hb
    exact ⟨by rw [hnone]; rfl, rfl⟩

/-- Get -/
theorem c40 {id i : Int} (hl : HeapR h b obs ps vb sa Ba r M cl) (hn : obs.length ≤ 1024) : CP heapE 40 [ptrV b, iV id, iV i] h (.tuple #[iV (getV (obAt obs id) i), iV (getE (obAt obs id) i)]) := by
  have e1 := hl.lps
  obtain ⟨ao, ha, hiso, hob⟩ := hl.at2 id
  have hiS : ao.isSome = (obAt obs id).isSome := by rw [← Option.not_isNone, ← Option.not_isNone, hiso]
  refine c_enter (fu := Try.f40) (by kernel_rfl) rfl ?_
  refine w_seq ?_
  refine w_region (by kernel_rfl) ?_
  refine o_assign gn rfl rfl ?_
  refine o_assign gn rfl rfl ?_
  refine wl_end ?_
  refine w_seq ?_
  refine w_region (by kernel_rfl) ?_
  refine o_move gn rfl rfl ?_
  refine o_move gn rfl rfl ?_
  refine o_call [_, _] gn rfl rfl (by kernel_rfl) rfl (c_pure (c55 hl (by omega)) ⟨ag0, ?_⟩)
  rw [ha]
  refine o_assign gn rfl rfl ?_
  refine wl_end ?_
  refine w_block ?_
  refine w_seq ?_
  refine w_region (by kernel_rfl) ?_
  refine o_move gn rfl rfl ?_
  refine o_eqp gn rfl rfl rfl (by kernel_rfl) ?_
  refine o_assign gn rfl rfl ?_
  refine wl_end ?_
  refine w_cond rfl (fun hb => ?_) fun hb => ?_
  · skip
    refine w_seq ?_
    refine w_region (by kernel_rfl) ?_
    refine o_assign gn rfl rfl ?_
    refine o_assign gn rfl rfl ?_
    refine wl_end ?_
    refine w_ret ?_
    refine ⟨.inl rfl, _, rfl, ?_⟩
    cases hb
  · skip
    refine w_seq ?_
    refine w_region (by kernel_rfl) ?_
    refine o_move gn rfl rfl ?_
    refine o_eqp gn rfl rfl rfl (by kernel_rfl) ?_
    refine o_move gn rfl rfl ?_
    refine o_or (n := 2) rfl rfl rfl gn rfl (fun hb => by
        refine o_move (gy rfl rfl rfl hb) rfl rfl ?_
        refine o_lss (gy rfl rfl rfl hb) rfl rfl rfl ?_
        exact wl_end ⟨rfl, rfl, 2, rfl, rfl⟩) ?_
    refine o_move gn rfl rfl ?_
    refine o_or (n := 7) rfl rfl rfl gn rfl (fun hb => by
        refine o_move (gy rfl rfl rfl hb) rfl rfl ?_
        obtain ⟨o, ho⟩ : ∃ o, obAt obs id = some o := by
          cases hx : obAt obs id with
          | none => rw [hiso, hx] at hb; cases hb
          | some o => exact ⟨o, rfl⟩
        obtain ⟨hi, h1, h2, hid1, hid2, heo, hao, hat⟩ := hob o ho
        obtain ⟨sv, hp, hs⟩ := hat.at'
        obtain ⟨av, rfl⟩ := hs.val
        have hlo : lenOb (obAt obs id) = ((isV o.vals).length : Nat) := by rw [ho]; simp [lenOb]
        refine o_move (gy rfl rfl rfl hb) rfl rfl ?_
        refine o_nilCheck (gy rfl rfl rfl hb) rfl (congrArg (fun z => some (Value.pointer z)) hao) ?_
        refine o_fieldAddr (off := 2) (gy rfl rfl rfl hb) rfl rfl (by kernel_rfl) ?_
        refine o_load (gy rfl rfl rfl hb) rfl rfl (by kernel_rfl) hp rfl ?_
        refine o_len (gy rfl rfl rfl hb) rfl rfl (by kernel_rfl) ?_
        rw [← hlo]
        refine o_geq (gy rfl rfl rfl hb) rfl rfl rfl ?_
        exact wl_end ⟨rfl, rfl, 7, rfl, rfl⟩) ?_
    refine o_assign gn rfl rfl ?_
    refine wl_end ?_
    refine w_cond rfl (fun hb => ?_) fun hb => ?_
    · skip
      refine w_seq ?_
      refine w_region (by kernel_rfl) ?_
      refine o_assign gn rfl rfl ?_
      refine o_assign gn rfl rfl ?_
      refine wl_end ?_
      refine w_ret ?_
      refine ⟨.inl rfl, _, rfl, ?_⟩
      have hf : ¬ getOk (obAt obs id) i := by
        intro hg
        obtain ⟨o, ho, h0, h1⟩ := getOk_some hg
        rw [hiso, ho] at hb
        simp [lenOb] at hb
        rcases hb with hb | hb
        · omega
        · exact absurd (of_decide_eq_true hb) (by omega)
      exact ⟨by rw [getV, getE, if_neg hf, if_neg hf]; rfl, rfl⟩
    · skip
      have hf : getOk (obAt obs id) i := by unfold getOk; simp at hb; omega
      obtain ⟨o, ho, h0, h1⟩ := getOk_some hf
      obtain ⟨hi, h2, h3, hid1, hid2, heo, rfl, hat⟩ := hob o ho
      obtain ⟨sv, hp, hs⟩ := hat.at'
      obtain ⟨bv, mv, rfl, hbv, _, _, _⟩ := hs.at (by simp; omega)
      refine w_seq ?_
      refine w_region (by kernel_rfl) ?_
      refine o_move gn rfl rfl ?_
      refine o_nilCheck gn rfl rfl ?_
      refine o_fieldAddr (off := 2) gn rfl rfl (by kernel_rfl) ?_
      refine o_load gn rfl rfl (by kernel_rfl) (by assumption) rfl ?_
      refine o_move gn rfl rfl ?_
      refine o_indexAddr (zz := 1) gn rfl rfl rfl (by kernel_rfl) (by omega) (by simp; omega) ?_
      refine o_load gn rfl rfl (by kernel_rfl) hbv (at_int i.toNat (by omega) (by omega)) ?_
      refine o_assign gn rfl rfl ?_
      refine o_assign gn rfl rfl ?_
      refine wl_end ?_
      refine w_ret ?_
      refine ⟨.inl rfl, _, rfl, ?_⟩
      exact ⟨by rw [getV, getE, if_pos hf, if_pos hf, ho]; rfl, rfl⟩
end

end Go.Proofs.Ytkmbfjdmbdpflaa


namespace Go.Proofs.Ytkmbfjdmbdpflaa
open Go.X

theorem cnt_put (k : Int) (obs : List Ob) (j i : Nat) (n : Int) : cnt k (obs.modify j fun o => o.put i n) = cnt k obs := by
  unfold cnt
  congr 1
  induction obs generalizing j with
  | nil => simp
  | cons o t ih =>
    cases j with
    | zero =>
      rw [List.modify_zero_cons, List.filter_cons, List.filter_cons, show (o.put i n).maker = o.maker from rfl]
      split <;> simp
    | succ j =>
      rw [List.modify_succ_cons, List.filter_cons, List.filter_cons]
      split <;> simp [ih]

section
variable {h h' : Hp} {b : Nat} {obs : List Ob} {ps : List Nat} {vb : List (List Nat)} {sa : Value} {Ba : List Nat} {r : Nat} {M : Ms} {cl : Nat}

theorem vb_apart {vb : List (List Nat)} (hd : vb.flatten.Nodup) {i k x : Nat} (hi : i < vb.length) (hk : k < vb.length) (hne : i ≠ k) (h1 : x ∈ vb[i]) : x ∉ vb[k] := by
  rw [List.Nodup, List.pairwise_flatten] at hd
  have := List.pairwise_iff_getElem.1 hd.2
  intro h2
  rcases Nat.lt_or_gt_of_ne hne with h | h
  · exact this i k hi hk h x h1 x h2 rfl
  · exact this k i hk hi h x h2 x h1 rfl

theorem HeapR.setV (hl : HeapR h b obs ps vb sa Ba r M cl) {k bb m : Nat} (hk : k < obs.length) (hkv : k < vb.length) (hkp : k < ps.length) {o : Ob} (ho : obs[k] = o) (hB : vb[k] = [bb])
    (hp : h.get ps[k] = some (.cells (o.cells (.slice (some ⟨bb, 0, none⟩) o.vals.length o.vals.length)) 46 0)) (hm : m = 0 ∨ m = 3) (i : Nat) (n : Int) :
    HeapR (h.put bb (.cells (isV (o.vals.set i n)) 2 m)) b (obs.modify k fun o => o.put i n) ps vb sa Ba r M cl ∧ ExtB (HeapR.own b r Ba ps vb) h (h.put bb (.cells (isV (o.vals.set i n)) 2 m)) := by
  have g := ExtB.put h bb (.cells (isV (o.vals.set i n)) 2 m)
  have hin : bb ∈ vb.flatten := List.mem_flatten.2 ⟨_, List.getElem_mem hkv, by rw [hB]; simp⟩
  have hnd := hl.nodup
  have hown : bb ∈ b :: r :: (Ba ++ ps ++ vb.flatten) := by simp only [List.mem_cons, List.mem_append]; exact .inr (.inr (.inr hin))
  have hbb : bb < h.n := hl.lt bb hown
  have hF : vb.flatten.Nodup ∧ b ≠ bb ∧ r ≠ bb ∧ bb ∉ Ba ∧ bb ∉ ps := by
    generalize vb.flatten = F at *
    simp only [List.nodup_cons, List.nodup_append, List.mem_append, List.mem_cons, List.not_mem_nil, or_false] at hnd
    grind
  obtain ⟨n3, d1, d2, d3, d4⟩ := hF
  refine ⟨⟨?_, ?_, ?_, fun k' => by rw [cnt_put]; exact hl.count k', by rw [List.length_modify]; exact hl.lps, by rw [List.length_modify]; exact hl.lvb, fun j hj => ?_, hl.nodup, fun j hj => by rw [Hp.n_put]; exact hl.lt j hj⟩, g.mono fun j hj _ => by
    simp at hj; subst hj; exact hown⟩
  · rw [Hp.get_put, if_neg (fun e => d1 e.symm)]; exact hl.top
  · exact hl.all.keep g fun j hj hx => by simp at hx; subst hx; exact d3 hj
  · rw [Hp.get_put, if_neg (fun e => d2 e.symm)]; exact hl.made
  · rw [List.length_modify] at hj
    have hjp : j < ps.length := by rw [hl.lps]; exact hj
    have hjv : j < vb.length := by rw [hl.lvb]; exact hj
    have hpj : ps[j] ≠ bb := fun e => d4 (e ▸ List.getElem_mem hjp)
    simp only [List.getElem_modify]
    split
    · rename_i hjk
      subst hjk
      rw [ho]
      exact ⟨⟨_, by rw [Hp.get_put, if_neg (fun e => hpj e.symm)]; exact hp, by rw [hB]; exact Sl.put (by simp [Ob.put]) hm hbb⟩, by rw [Hp.n_put]; exact hl.lt _ (by
        simp only [List.mem_cons, List.mem_append]; exact .inr (.inr (.inl (.inr (List.getElem_mem hjp))))), by rw [hB]; simp; exact hpj⟩
    · rename_i hjk
      refine (hl.each j hj).keep g (fun hx => hpj (by simpa using hx)) fun x hx hy => ?_
      simp at hy; subst hy
      exact vb_apart n3 hjv hkv (fun e => hjk e.symm) hx (by rw [hB]; simp)

/-- Set -/
theorem c41 {id i n : Int} (hl : HeapR h b obs ps vb sa Ba r M cl) (hn : obs.length ≤ 1024) : C heapE 41 [ptrV b, iV id, iV i, iV n] h fun v h' => v = iV (setE (obAt obs id) i) ∧ HeapR h' b (setO obs id i n) ps vb sa Ba r M cl ∧ ExtB (HeapR.own b r Ba ps vb) h h' := by
  have e1 := hl.lps
  obtain ⟨ao, ha, hiso, hob⟩ := hl.at2 id
  refine c_enter (fu := Try.f41) (by kernel_rfl) rfl ?_
  refine w_seq ?_
  refine w_region (by kernel_rfl) ?_
  refine o_assign gn rfl rfl ?_
  refine wl_end ?_
  refine w_seq ?_
  refine w_region (by kernel_rfl) ?_
  refine o_move gn rfl rfl ?_
  refine o_move gn rfl rfl ?_
  refine o_call [_, _] gn rfl rfl (by kernel_rfl) rfl (c_pure (c55 hl (by omega)) ⟨ag0, ?_⟩)
  rw [ha]
  refine o_assign gn rfl rfl ?_
  refine wl_end ?_
  refine w_block ?_
  refine w_seq ?_
  refine w_region (by kernel_rfl) ?_
  refine o_move gn rfl rfl ?_
  refine o_eqp gn rfl rfl rfl (by kernel_rfl) ?_
  refine o_assign gn rfl rfl ?_
  refine wl_end ?_
  refine w_cond rfl (fun hb => ?_) fun hb => ?_
  · skip
    refine w_seq ?_
    refine w_region (by kernel_rfl) ?_
    refine o_assign gn rfl rfl ?_
    refine wl_end ?_
    refine w_ret ?_
    refine ⟨.inl rfl, _, rfl, ?_⟩
    cases hb
  · skip
    refine w_seq ?_
    refine w_region (by kernel_rfl) ?_
    refine o_move gn rfl rfl ?_
    refine o_eqp gn rfl rfl rfl (by kernel_rfl) ?_
    refine o_move gn rfl rfl ?_
    refine o_or (n := 5) rfl rfl rfl gn rfl (fun hb => by
        obtain ⟨o, ho⟩ : ∃ o, obAt obs id = some o := by
          cases hx : obAt obs id with
          | none => rw [hiso, hx] at hb; cases hb
          | some o => exact ⟨o, rfl⟩
        obtain ⟨hi, h1, h2, hid1, hid2, heo, hao, hat⟩ := hob o ho
        obtain ⟨sv, hp, hs⟩ := hat.at'
        have hv : (o.cells sv)[0 + 0]? = some (iV (kindOb (obAt obs id))) := by rw [ho]; rfl
        refine o_move (gy rfl rfl rfl hb) rfl rfl ?_
        refine o_nilCheck (gy rfl rfl rfl hb) rfl (congrArg (fun z => some (Value.pointer z)) hao) ?_
        refine o_fieldAddr (off := 0) (gy rfl rfl rfl hb) rfl rfl (by kernel_rfl) ?_
        refine o_load (gy rfl rfl rfl hb) rfl rfl (by kernel_rfl) hp hv ?_
        refine o_eqi (gy rfl rfl rfl hb) rfl rfl rfl ?_
        exact wl_end ⟨rfl, rfl, 5, rfl, rfl⟩) ?_
    refine o_move gn rfl rfl ?_
    refine o_or (n := 2) rfl rfl rfl gn rfl (fun hb => by
        refine o_move (gy rfl rfl rfl hb) rfl rfl ?_
        refine o_lss (gy rfl rfl rfl hb) rfl rfl rfl ?_
        exact wl_end ⟨rfl, rfl, 2, rfl, rfl⟩) ?_
    refine o_move gn rfl rfl ?_
    refine o_or (n := 7) rfl rfl rfl gn rfl (fun hb => by
        obtain ⟨o, ho⟩ : ∃ o, obAt obs id = some o := by
          cases hx : obAt obs id with
          | none => rw [hiso, hx] at hb; cases hb
          | some o => exact ⟨o, rfl⟩
        obtain ⟨hi, h1, h2, hid1, hid2, heo, hao, hat⟩ := hob o ho
        obtain ⟨sv, hp, hs⟩ := hat.at'
        obtain ⟨av, rfl⟩ := hs.val
        have hlo : lenOb (obAt obs id) = ((isV o.vals).length : Nat) := by rw [ho]; simp [lenOb]
        refine o_move (gy rfl rfl rfl hb) rfl rfl ?_
        refine o_move (gy rfl rfl rfl hb) rfl rfl ?_
        refine o_nilCheck (gy rfl rfl rfl hb) rfl (congrArg (fun z => some (Value.pointer z)) hao) ?_
        refine o_fieldAddr (off := 2) (gy rfl rfl rfl hb) rfl rfl (by kernel_rfl) ?_
        refine o_load (gy rfl rfl rfl hb) rfl rfl (by kernel_rfl) hp rfl ?_
        refine o_len (gy rfl rfl rfl hb) rfl rfl (by kernel_rfl) ?_
        rw [← hlo]
        refine o_geq (gy rfl rfl rfl hb) rfl rfl rfl ?_
        exact wl_end ⟨rfl, rfl, 7, rfl, rfl⟩) ?_
    refine o_assign gn rfl rfl ?_
    refine wl_end ?_
    refine w_cond rfl (fun hb => ?_) fun hb => ?_
    · skip
      refine w_seq ?_
      refine w_region (by kernel_rfl) ?_
      refine o_assign gn rfl rfl ?_
      refine wl_end ?_
      refine w_ret ?_
      refine ⟨.inl rfl, _, rfl, ?_⟩
      have hf : ¬ setOk (obAt obs id) i := by
        intro ⟨hg, hk⟩
        obtain ⟨o, ho, h0, h1⟩ := getOk_some hg
        rw [hiso, ho] at hb
        rw [ho] at hk
        simp only [kindOb] at hk
        simp [lenOb, kindOb, hk] at hb
        rcases hb with hb | hb
        · omega
        · exact absurd (of_decide_eq_true hb) (by omega)
      exact ⟨by rw [setE, if_neg hf]; rfl, by rw [setO, if_neg hf]; exact hl, .refl _ _⟩
    · skip
      have hg : getOk (obAt obs id) i := by unfold getOk; simp at hb; omega
      have hf : setOk (obAt obs id) i := ⟨hg, by simp at hb; omega⟩
      obtain ⟨o, ho, h0, h1⟩ := getOk_some hg
      obtain ⟨hi, h2, h3, hid1, hid2, heo, rfl, hat⟩ := hob o ho
      obtain ⟨sv, hp, hs⟩ := hat.at'
      obtain ⟨bv, mv, rfl, hbv, hmv, _, hBv⟩ := hs.at (by simp; omega)
      refine w_seq ?_
      refine w_region (by kernel_rfl) ?_
      refine o_move gn rfl rfl ?_
      refine o_nilCheck gn rfl rfl ?_
      refine o_fieldAddr (off := 2) gn rfl rfl (by kernel_rfl) ?_
      refine o_load gn rfl rfl (by kernel_rfl) (by assumption) rfl ?_
      refine o_move gn rfl rfl ?_
      refine o_move gn rfl rfl ?_
      refine o_indexAddr (zz := 1) gn rfl rfl rfl (by kernel_rfl) (by omega) (by simp; omega) ?_
      refine o_store gn rfl rfl rfl (by kernel_rfl) hbv (by omega) (by simp; omega) ag0 ?_
      refine wl_end ?_
      refine w_seq ?_
      refine w_region (by kernel_rfl) ?_
      refine o_assign gn rfl rfl ?_
      refine wl_end ?_
      refine w_ret ?_
      refine ⟨.inl rfl, _, rfl, ?_⟩
      have hset : (isV o.vals).set (0 + i.toNat * 1) (iV n) = isV (o.vals.set i.toNat n) := by simp [isV, List.map_set]
      rw [hset]
      obtain ⟨r1, r2⟩ := hl.setV hi h3 h2 heo hBv (by simpa using hp) hmv i.toNat n
      exact ⟨by rw [setE, if_pos hf]; rfl, by rw [setO, if_pos hf]; exact r1, r2⟩

end

end Go.Proofs.Ytkmbfjdmbdpflaa


namespace Go.Proofs.Ytkmbfjdmbdpflaa
open Go.X

/-- An act. -/
structure HAct where
  kind : Int
  what : Int
  of : Int
  size : Int
  site : Int
  maker : Int
  id : Int
  at' : Int
  n : Int
  sv : Value
  vals : List Int

def HAct.cells (a : HAct) : List Value := [iV a.kind, iV a.what, iV a.of, iV a.size, iV a.site, iV a.maker, iV a.id, iV a.at', iV a.n, a.sv]

/-- Acts in a row, as an argument has them. -/
structure ActsH (h : Hp) (a : Option Addr) (acts : List HAct) : Prop where
  row : acts = [] ∨ ∃ bb oo cs e m, a = some ⟨bb, oo, none⟩ ∧ h.get bb = some (.cells cs e m) ∧ bb < h.n ∧ ∀ i (hi : i < acts.length), (cs.drop (oo + i * 10)).take 10 = (acts[i]).cells
  each : ∀ x, x ∈ acts → Src h x.sv (isV x.vals) ∧ ∃ a n c, x.sv = .slice a n c

theorem row10 {cs xs : List Value} {o : Nat} (h : (cs.drop o).take 10 = xs) (hx : xs.length = 10) {j : Nat} (hj : j < 10) : cs[o + j]? = xs[j]? := by
  subst h
  rw [List.getElem?_take_of_lt hj, List.getElem?_drop]

theorem row10_le {cs xs : List Value} {o : Nat} (h : (cs.drop o).take 10 = xs) (hx : xs.length = 10) : o + 10 ≤ cs.length := by
  subst h
  rw [List.length_take, List.length_drop] at hx
  omega

theorem ActsH.at {h : Hp} {a : Option Addr} {acts : List HAct} (x : ActsH h a acts) {i : Nat} (hi : i < acts.length) : ∃ bb oo cs e m, a = some ⟨bb, oo, none⟩ ∧ h.get bb = some (.cells cs e m) ∧ bb < h.n ∧ oo + i * 10 + 10 ≤ cs.length ∧
    (cs.drop (oo + i * 10)).take 10 = (acts[i]).cells ∧ ∀ j, j < 10 → cs[oo + i * 10 + j]? = (acts[i]).cells[j]? := by
  rcases x.row with rfl | ⟨bb, oo, cs, e, m, h1, h2, h3, h4⟩
  · simp at hi
  · exact ⟨bb, oo, cs, e, m, h1, h2, h3, row10_le (h4 i hi) rfl, h4 i hi, fun j hj => row10 (h4 i hi) rfl hj⟩

theorem ActsH.ext {h h' : Hp} {a : Option Addr} {acts : List HAct} (x : ActsH h a acts) (g : Ext h h') : ActsH h' a acts := by
  refine ⟨?_, fun y hy => ⟨(x.each y hy).1.ext g, (x.each y hy).2⟩⟩
  rcases x.row with h1 | ⟨bb, oo, cs, e, m, h1, h2, h3, h4⟩
  · exact .inl h1
  · exact .inr ⟨bb, oo, cs, e, m, h1, by rw [g.get bb h3]; exact h2, Nat.lt_of_lt_of_le h3 g.n, h4⟩

/-- few -/
def Few (acts : List HAct) (most : Int) : Prop := acts.length ≤ most ∧ ∀ x, x ∈ acts → x.vals.length ≤ 300

theorem c32 {h : Hp} {a : Option Addr} {c : Nat} {acts : List HAct} {most : Int} (hs : ActsH h a acts) (hm : 0 ≤ most ∧ most ≤ 1000) :
    C heapE 32 [.slice a acts.length c, iV most] h fun v h' => h' = h ∧ ∃ t, v = .bool t ∧ (t = true → Few acts most) := by
  refine c_enter (fu := Try.f32) (by kernel_rfl) rfl ?_
  refine w_seq ?_
  refine w_region (by kernel_rfl) ?_
  refine o_assign gn rfl rfl ?_
  refine wl_end ?_
  refine w_seq ?_
  refine w_seq ?_
  refine w_region (by kernel_rfl) ?_
  refine o_assign gn rfl rfl ?_
  refine wl_end ?_
  refine w_block ?_
  refine w_weak [(0, .slice a acts.length c), (1, iV most), (5, iV 0)] (by repeat (first | exact trivial | refine ⟨rfl, ?_⟩)) ?_
  refine w_loop (fun k l hh => ∃ i : Int, 0 ≤ i ∧ i ≤ acts.length ∧ i ≤ most + 1 ∧ k = (acts.length - i).toNat ∧ (∀ (j : Nat) (hj : j < acts.length), j < i.toNat → (acts[j]).vals.length ≤ 300) ∧ hh = h ∧ l = [(0, .slice a acts.length c), (1, iV most), (5, iV i)]) (n := (acts.length - (0 : Int)).toNat) ?_ fun k l hh hI => ?_
  · exact ⟨0, by omega, by omega, by omega, rfl, fun j _ hj => by omega, rfl, rfl⟩
  · obtain ⟨i, hi0, hi1, hi2, rfl, hall, rfl, rfl⟩ := hI
    refine w_seq ?_
    refine w_seq ?_
    refine w_region (by kernel_rfl) ?_
    refine o_move gn rfl rfl ?_
    refine o_move gn rfl rfl ?_
    refine o_len gn rfl rfl (by kernel_rfl) ?_
    refine o_lss gn rfl rfl rfl ?_
    refine o_move gn rfl rfl ?_
    refine o_and (n := 3) rfl rfl rfl gn rfl (fun hb => by
        refine o_move (gy rfl rfl rfl hb) rfl rfl ?_
        refine o_move (gy rfl rfl rfl hb) rfl rfl ?_
        refine o_leq (gy rfl rfl rfl hb) rfl rfl rfl ?_
        exact wl_end ⟨rfl, rfl, 3, rfl, rfl⟩) ?_
    refine wl_end ?_
    refine w_cond rfl (fun hb => ?_) fun hb => ?_
    · skip
      have hlt : i < acts.length ∧ i ≤ most := by simpa using hb
      have hi : i.toNat < acts.length := by omega
      obtain ⟨bb, oo, cs, e, m, rfl, hg, hbb, hle, hrow, hcs⟩ := hs.at hi
      obtain ⟨hsrc, av, nv, cv, hsv⟩ := hs.each _ (List.getElem_mem hi)
      have hnv : nv = (acts[i.toNat]).vals.length := by rw [hsv] at hsrc; have := hsrc.len'; simpa using this
      have hv : cs[oo + i.toNat * 10 + 9]? = some (.slice av nv cv) := by rw [hcs 9 (by omega), ← hsv]; rfl
      refine w_skip ?_
      refine w_seq ?_
      refine w_block ?_
      refine w_seq ?_
      refine w_region (by kernel_rfl) ?_
      refine o_move gn rfl rfl ?_
      refine o_move gn rfl rfl ?_
      refine o_indexAddr (zz := 10) gn rfl rfl rfl (by kernel_rfl) (by omega) (by omega) ?_
      refine o_fieldAddr (off := 9) gn rfl rfl (by kernel_rfl) ?_
      refine o_load gn rfl rfl (by kernel_rfl) hg hv ?_
      refine o_len gn rfl rfl (by kernel_rfl) ?_
      refine o_gtr gn rfl rfl rfl ?_
      refine wl_end ?_
      refine w_cond rfl (fun hb => ?_) fun hb => ?_
      · skip
        refine w_seq ?_
        refine w_region (by kernel_rfl) ?_
        refine o_assign gn rfl rfl ?_
        refine wl_end ?_
        refine w_ret ?_
        refine ⟨.inl rfl, _, rfl, ?_⟩
        exact ⟨rfl, false, rfl, by simp⟩
      · skip
        refine w_skip ?_
        refine w_region (by kernel_rfl) ?_
        refine o_move gn rfl rfl ?_
        refine o_add gn rfl rfl rfl (by omega) (by omega) ?_
        refine o_assign gn rfl rfl ?_
        refine wl_end ?_
        exact ⟨(acts.length - (i + 1)).toNat, by omega, _, (by repeat (first | exact trivial | refine ⟨rfl, ?_⟩)), ⟨i + 1, by omega, by omega, by omega, rfl, fun j hj hji => by
          by_cases hj2 : j < i.toNat
          · exact hall j hj hj2
          · have : j = i.toNat := by omega
            subst this
            simp at hb; omega, rfl, rfl⟩⟩
    · skip
      refine w_exit ?_
      refine thn_exit ?_
      refine rnd_exit ?_
      refine blk_eq ?_
      refine w_seq ?_
      refine w_region (by kernel_rfl) ?_
      refine o_move gn rfl rfl ?_
      refine o_len gn rfl rfl (by kernel_rfl) ?_
      refine o_move gn rfl rfl ?_
      refine o_leq gn rfl rfl rfl ?_
      refine o_assign gn rfl rfl ?_
      refine wl_end ?_
      refine w_ret ?_
      refine ⟨.inl rfl, _, rfl, ?_⟩
      refine ⟨rfl, _, rfl, fun ht => ?_⟩
      have hle : (acts.length : Int) ≤ most := by simpa using ht
      have hge : ¬ i < acts.length := fun hx => by simp at hb; omega
      exact ⟨hle, fun x hx => by
        obtain ⟨j, hj, rfl⟩ := List.mem_iff_getElem.1 hx
        exact hall j hj (by omega)⟩

end Go.Proofs.Ytkmbfjdmbdpflaa


namespace Go.Proofs.Ytkmbfjdmbdpflaa
open Go.X

def ObsOk (obs : List Ob) : Prop := obs.length ≤ 1024 ∧ ∀ o, o ∈ obs → o.vals.length ≤ 256

theorem layO_ok {obs : List Ob} {o : Ob} (h : ObsOk obs) (hv : o.vals.length ≤ 256) : ObsOk (layO obs o) := by
  unfold layO
  split
  · refine ⟨by simp; omega, fun x hx => ?_⟩
    rcases List.mem_append.1 hx with h1 | h1
    · exact h.2 x h1
    · simp only [List.mem_cons, List.not_mem_nil, or_false] at h1; subst h1; exact hv
  · exact h
theorem mkO_ok {obs : List Ob} {kind of size site by' : Int} (h : ObsOk obs) : ObsOk (mkO obs kind of size site by') := by
  unfold mkO
  split
  · exact h
  · rename_i hb
    unfold mkBad at hb
    exact layO_ok h (by simp [mkOb]; omega)
theorem clO_ok {obs : List Ob} {of site by' : Int} {cells : List Int} (h : ObsOk obs) : ObsOk (clO obs of cells site by') := by
  unfold clO
  split
  · exact h
  · exact layO_ok h (by simp [clOb]; omega)
theorem setO_ok {obs : List Ob} {id i n : Int} (h : ObsOk obs) : ObsOk (setO obs id i n) := by
  unfold setO
  split
  · refine ⟨by rw [List.length_modify]; exact h.1, fun x hx => ?_⟩
    obtain ⟨j, hj, rfl⟩ := List.mem_iff_getElem.1 hx
    rw [List.length_modify] at hj
    rw [List.getElem_modify]
    split
    · simp [Ob.put]; exact h.2 _ (List.getElem_mem hj)
    · exact h.2 _ (List.getElem_mem hj)
  · exact h

/-- Both heaps, of the same objects, apart. -/
structure Two8 (h : Hp) (b d : Nat) (obs : List Ob) (o1 o2 : List Nat) : Prop where
  l : HAt h b obs o1
  r : DAt h d obs o2
  s : ∀ i, i ∈ o1 → i ∉ o2
  ok : ObsOk obs

theorem Two8.keep {h h' : Hp} {b d : Nat} {obs : List Ob} {o1 o2 cs : List Nat} (t : Two8 h b d obs o1 o2) (g : ExtB cs h h') (h1 : ∀ i, i ∈ o1 → i ∉ cs) (h2 : ∀ i, i ∈ o2 → i ∉ cs) : Two8 h' b d obs o1 o2 :=
  ⟨t.l.keep g h1, t.r.keep g h2, t.s, t.ok⟩
theorem Two8.ext {h h' : Hp} {b d : Nat} {obs : List Ob} {o1 o2 : List Nat} (t : Two8 h b d obs o1 o2) (g : Ext h h') : Two8 h' b d obs o1 o2 := t.keep (g.b []) (by simp) (by simp)

theorem Two8.both {h h1 h2 : Hp} {b d : Nat} {obs obs' : List Ob} {o1 o2 o1' o2' : List Nat} (t : Two8 h b d obs o1 o2) (l1 : HAt h1 b obs' o1') (s1 : ∀ i, i ∈ o1' → i ∈ o1 ∨ h.n ≤ i) (x1 : ExtB o1 h h1)
    (r2 : DAt h2 d obs' o2') (s2 : ∀ i, i ∈ o2' → i ∈ o2 ∨ h1.n ≤ i) (x2 : ExtB o2 h1 h2) (ok : ObsOk obs') : Two8 h2 b d obs' o1' o2' ∧ (∀ i, i ∈ o1' ∨ i ∈ o2' → i ∈ o1 ∨ i ∈ o2 ∨ h.n ≤ i) ∧ ExtB (o1 ++ o2) h h2 := by
  have n1 := x1.n
  refine ⟨⟨l1.keep x2 fun i hi hj => ?_, r2, fun i hi hj => ?_, ok⟩, fun i hi => ?_, (x1.mono (by simp; grind)).trans (x2.mono (by simp; grind))⟩
  · rcases s1 i hi with h3 | h3
    · exact t.s i h3 hj
    · have := t.r.lt i hj; omega
  · rcases s2 i hj with h4 | h4
    · rcases s1 i hi with h3 | h3
      · exact t.s i h3 h4
      · have := t.r.lt i h4; omega
    · have := l1.lt i hi; omega
  · rcases hi with hi | hi
    · rcases s1 i hi with h3 | h3
      · exact .inl h3
      · exact .inr (.inr h3)
    · rcases s2 i hi with h3 | h3
      · exact .inr (.inl h3)
      · exact .inr (.inr (by omega))

section
variable {h : Hp} {b : Nat} {obs : List Ob} {own : List Nat}

theorem c40' {id i : Int} (hl : HAt h b obs own) (hn : ObsOk obs) : CP heapE 40 [ptrV b, iV id, iV i] h (.tuple #[iV (getV (obAt obs id) i), iV (getE (obAt obs id) i)]) := by
  obtain ⟨_, _, _, _, _, _, _, hl, _⟩ := hl
  exact c40 hl hn.1
theorem c42' {id k : Int} (hl : HAt h b obs own) (hn : ObsOk obs) : CP heapE 42 [ptrV b, iV id, iV k] h (.bool ((obAt obs id).isSome && decide (kindOb (obAt obs id) = k))) := by
  obtain ⟨_, _, _, _, _, _, _, hl, _⟩ := hl
  exact c42 hl hn.1
theorem c43' {id : Int} (hl : HAt h b obs own) (hn : ObsOk obs) : CP heapE 43 [ptrV b, iV id] h (iV (lenOb (obAt obs id))) := by
  obtain ⟨_, _, _, _, _, _, _, hl, _⟩ := hl
  exact c43 hl hn.1
theorem c41' {id i n : Int} (hl : HAt h b obs own) (hn : ObsOk obs) : C heapE 41 [ptrV b, iV id, iV i, iV n] h fun v h' => v = iV (setE (obAt obs id) i) ∧ HAt h' b (setO obs id i n) own ∧ ExtB own h h' := by
  obtain ⟨_, _, _, _, _, _, _, hl, rfl⟩ := hl
  exact (c41 hl hn.1).mono fun v h' ⟨e, x, g⟩ => ⟨e, ⟨_, _, _, _, _, _, _, x, rfl⟩, g⟩
theorem c21' {id : Int} (hl : HAt h b obs own) (hn : ObsOk obs) : C heapE 21 [ptrV b, iV id] h fun v h' => Ext h h' ∧ match obAt obs id with
      | some o => ∃ sv bs, v = .tuple #[.agg (o.cells sv).toArray, iV 0] ∧ Sl 2 h' sv (isV o.vals) bs ∧ ∀ i, i ∈ bs → h.n ≤ i
      | none => v = .tuple #[.agg obZ.toArray, iV 13] := c21 hl hn.1 fun o ho => by have := hn.2 o ho; omega

theorem rowO_len {es : List En} {obs : List Ob} (e : rowO es = obs) : es.length = obs.length := by subst e; simp [rowO]

theorem isId_some (es : List En) (id : Int) : isId es id = (obAt (rowO es) id).isSome := by
  cases hf : isId es id with
  | false => rw [obAt_not es id hf]; rfl
  | true => obtain ⟨_, _, h2⟩ := (obAt_isId es id).1 hf; rw [h2]; rfl

theorem c63' {id i : Int} (hl : DAt h b obs own) (hn : ObsOk obs) : CP heapE 63 [ptrV b, iV id, iV i] h (.tuple #[iV (getV (obAt obs id) i), iV (getE (obAt obs id) i)]) := by
  obtain ⟨es, _, _, hl, e, _⟩ := hl
  have := rowO_len e
  rw [← e]
  exact c63 hl (by have := hn.1; omega)
theorem c65' {id k : Int} (hl : DAt h b obs own) (hn : ObsOk obs) : CP heapE 65 [ptrV b, iV id, iV k] h (.bool ((obAt obs id).isSome && decide (kindOb (obAt obs id) = k))) := by
  obtain ⟨es, _, _, hl, e, _⟩ := hl
  have := rowO_len e
  rw [← e, ← isId_some]
  exact c65 hl (by have := hn.1; omega)
theorem c66' {id : Int} (hl : DAt h b obs own) (hn : ObsOk obs) : CP heapE 66 [ptrV b, iV id] h (iV (lenOb (obAt obs id))) := by
  obtain ⟨es, _, _, hl, e, _⟩ := hl
  have := rowO_len e
  rw [← e]
  exact c66 hl (by have := hn.1; omega)
theorem c67' {id : Int} (hl : DAt h b obs own) : CP heapE 67 [ptrV b, iV id] h (.bool (obAt obs id).isSome) := by
  obtain ⟨es, _, _, hl, e, _⟩ := hl
  rw [← e, ← isId_some]
  exact c67 hl
theorem c64' {id i n : Int} (hl : DAt h b obs own) (hn : ObsOk obs) : C heapE 64 [ptrV b, iV id, iV i, iV n] h fun v h' => v = iV (setE (obAt obs id) i) ∧ DAt h' b (setO obs id i n) own ∧ ExtB own h h' := by
  obtain ⟨es, sa, Ba, hl, e, rfl⟩ := hl
  have := rowO_len e
  subst e
  exact (c64 hl (by have := hn.1; omega)).mono fun v h' ⟨e, es', x, y, z, g⟩ => ⟨e, ⟨es', sa, Ba, x, y, by rw [z]⟩, g.mono (by simp; grind)⟩

end

def ob0 : Ob := ⟨0, 0, [], 0, 0, 0⟩

theorem c21'' {h : Hp} {b : Nat} {obs : List Ob} {own : List Nat} {id : Int} (hl : HAt h b obs own) (hn : ObsOk obs) : C heapE 21 [ptrV b, iV id] h fun v h' => Ext h h' ∧ ∃ o' sv bs e, v = .tuple #[.agg (Ob.cells o' sv).toArray, iV e] ∧ Sl 2 h' sv (isV o'.vals) bs ∧ (∀ i, i ∈ bs → h.n ≤ i) ∧
    ((obAt obs id = some o' ∧ e = 0) ∨ (obAt obs id = none ∧ o' = ob0 ∧ e = 13)) := by
  refine (c21' (id := id) hl hn).mono ?_
  rintro v h' ⟨x, q⟩
  refine ⟨x, ?_⟩
  cases ho : obAt obs id with
  | some o =>
    rw [ho] at q
    obtain ⟨sv, bs, e1, e2, e3⟩ := q
    exact ⟨o, sv, bs, 0, e1, e2, e3, .inl ⟨rfl, rfl⟩⟩
  | none =>
    rw [ho] at q
    exact ⟨ob0, .slice none 0 0, [], 13, q, .inl ⟨rfl, rfl, rfl⟩, by simp, .inr ⟨rfl, rfl, rfl⟩⟩

theorem rowC_row {es : List En} {i : Nat} (hi : i < es.length) : ((rowC es).drop (0 + i * 6)).take 6 = (es[i]).cells := List.ext_getElem? fun j => by
  by_cases hj : j < 6
  · rw [List.getElem?_take_of_lt hj, List.getElem?_drop, Nat.zero_add, rowC_at hi hj]
  · rw [List.getElem?_eq_none (by rw [List.length_take]; omega), List.getElem?_eq_none (by rw [En.len]; omega)]

end Go.Proofs.Ytkmbfjdmbdpflaa

namespace Go.Proofs.Ytkmbfjdmbdpflaa
open Go.X

/-- What an act leaves. -/
def DoQ (h : Hp) (b d : Nat) (o1 o2 : List Nat) (h' : Hp) : Prop := ∃ obs' o1' o2', Two8 h' b d obs' o1' o2' ∧ (∀ i, i ∈ o1' ∨ i ∈ o2' → i ∈ o1 ∨ i ∈ o2 ∨ h.n ≤ i) ∧ ExtB (o1 ++ o2) h h'

theorem DoQ.of {h h1 h' : Hp} {b d : Nat} {obs' : List Ob} {o1 o2 o1' o2' : List Nat} (x : Ext h h1) (q : Two8 h' b d obs' o1' o2' ∧ (∀ i, i ∈ o1' ∨ i ∈ o2' → i ∈ o1 ∨ i ∈ o2 ∨ h1.n ≤ i) ∧ ExtB (o1 ++ o2) h1 h') : DoQ h b d o1 o2 h' :=
  ⟨obs', o1', o2', q.1, fun i hi => by have := x.n; rcases q.2.1 i hi with h1 | h1 | h1; exact .inl h1; exact .inr (.inl h1); exact .inr (.inr (by omega)), (x.b _).trans q.2.2⟩

/-- do -/
theorem c33 {h : Hp} {b d : Nat} {obs : List Ob} {o1 o2 : List Nat} {act : HAct} (t : Two8 h b d obs o1 o2) (hs : Src h act.sv (isV act.vals)) (hsv : ∃ a n c, act.sv = .slice a n c) (hf : act.vals.length ≤ 300)
    (hap : ∀ a n c, act.sv = .slice (some a) n c → a.block ∉ o1 ∧ a.block ∉ o2) : C heapE 33 [ptrV b, ptrV d, .agg act.cells.toArray] h fun v h' => v = .bool true ∧ DoQ h b d o1 o2 h' := by
  obtain ⟨kd, wh, of, sz, st, mk, id, at', n, sv, vals⟩ := act
  simp only at hs hsv hf hap
  obtain ⟨av, nv, cv, rfl⟩ := hsv
  have hbl := t.l.lt
  have hdl := t.r.lt
  refine c_enter (fu := Try.f33) (by kernel_rfl) rfl ?_
  refine w_seq ?_
  refine w_region (by kernel_rfl) ?_
  refine o_box gn rfl rfl ?_
  refine wl_at (fun h1 => h1.get h.n = some (.cells [iV kd, iV wh, iV of, iV sz, iV st, iV mk, iV id, iV at', iV n, .slice av nv cv] 69 0) ∧ Ext h h1 ∧ h1.n = h.n + 1) ⟨Hp.get_alloc_self _ _, Ext.alloc _ _, Hp.n_alloc _ _⟩ fun h1 ⟨hq, x1, n1⟩ => ?_
  have t1 := t.ext x1
  refine o_assign gn rfl rfl ?_
  refine wl_end ?_
  refine w_seq ?_
  refine w_seq ?_
  refine w_region (by kernel_rfl) ?_
  refine o_fieldAddr (off := 0) gn rfl rfl (by kernel_rfl) ?_
  refine o_load gn rfl rfl (by kernel_rfl) (by assumption) rfl ?_
  refine wl_end ?_
  refine w_block ?_
  refine w_seq ?_
  refine w_region (by kernel_rfl) ?_
  refine o_eqi gn rfl rfl rfl ?_
  refine o_assign gn rfl rfl ?_
  refine wl_end ?_
  refine w_cond rfl (fun hb => ?_) fun hb => ?_
  · skip
    refine w_seq ?_
    refine w_region (by kernel_rfl) ?_
    refine o_move gn rfl rfl ?_
    refine o_fieldAddr (off := 1) gn rfl rfl (by kernel_rfl) ?_
    refine o_load gn rfl rfl (by kernel_rfl) (by assumption) rfl ?_
    refine o_fieldAddr (off := 2) gn rfl rfl (by kernel_rfl) ?_
    refine o_load gn rfl rfl (by kernel_rfl) (by assumption) rfl ?_
    refine o_fieldAddr (off := 3) gn rfl rfl (by kernel_rfl) ?_
    refine o_load gn rfl rfl (by kernel_rfl) (by assumption) rfl ?_
    refine o_fieldAddr (off := 4) gn rfl rfl (by kernel_rfl) ?_
    refine o_load gn rfl rfl (by kernel_rfl) (by assumption) rfl ?_
    refine o_fieldAddr (off := 5) gn rfl rfl (by kernel_rfl) ?_
    refine o_load gn rfl rfl (by kernel_rfl) (by assumption) rfl ?_
    refine o_call [_, _, _, _, _, _] gn rfl rfl (by kernel_rfl) rfl (C.mono (c20 t1.l) ?_)
    rintro v1 h2 ⟨rfl, o1', l1, s1, x2⟩
    have hq2 := (x2.get h.n (by omega) (fun hm => by have := hbl _ hm; omega)).trans hq
    have r1 := t1.r.keep x2 (fun i hi hj => t1.s i hj hi)
    refine ⟨ag0, ?_⟩
    refine o_move gn rfl rfl ?_
    refine o_extract gn rfl rfl rfl ?_
    refine o_extract gn rfl rfl rfl ?_
    refine o_assign gn rfl rfl ?_
    refine o_assign gn rfl rfl ?_
    refine wl_end ?_
    refine w_seq ?_
    refine w_region (by kernel_rfl) ?_
    refine o_move gn rfl rfl ?_
    refine o_fieldAddr (off := 1) gn rfl rfl (by kernel_rfl) ?_
    refine o_load gn rfl rfl (by kernel_rfl) (by assumption) rfl ?_
    refine o_fieldAddr (off := 2) gn rfl rfl (by kernel_rfl) ?_
    refine o_load gn rfl rfl (by kernel_rfl) (by assumption) rfl ?_
    refine o_fieldAddr (off := 3) gn rfl rfl (by kernel_rfl) ?_
    refine o_load gn rfl rfl (by kernel_rfl) (by assumption) rfl ?_
    refine o_fieldAddr (off := 4) gn rfl rfl (by kernel_rfl) ?_
    refine o_load gn rfl rfl (by kernel_rfl) (by assumption) rfl ?_
    refine o_fieldAddr (off := 5) gn rfl rfl (by kernel_rfl) ?_
    refine o_load gn rfl rfl (by kernel_rfl) (by assumption) rfl ?_
    refine o_call [_, _, _, _, _, _] gn rfl rfl (by kernel_rfl) rfl (C.mono (c61 r1 t1.ok.1) ?_)
    rintro v2 h3 ⟨rfl, o2', r2, s2, x3⟩
    refine ⟨ag0, ?_⟩
    refine o_move gn rfl rfl ?_
    refine o_extract gn rfl rfl rfl ?_
    refine o_extract gn rfl rfl rfl ?_
    refine o_assign gn rfl rfl ?_
    refine o_assign gn rfl rfl ?_
    refine wl_end ?_
    refine w_seq ?_
    refine w_region (by kernel_rfl) ?_
    refine o_move gn rfl rfl ?_
    refine o_move gn rfl rfl ?_
    refine o_eqi gn rfl rfl rfl ?_
    refine o_move gn rfl rfl ?_
    refine o_and (n := 3) rfl rfl rfl gn rfl (fun hb => by
        refine o_move (gy rfl rfl rfl hb) rfl rfl ?_
        refine o_move (gy rfl rfl rfl hb) rfl rfl ?_
        refine o_eqi (gy rfl rfl rfl hb) rfl rfl rfl ?_
        exact wl_end ⟨rfl, rfl, 3, rfl, rfl⟩) ?_
    refine o_assign gn rfl rfl ?_
    refine wl_end ?_
    refine w_ret ?_
    refine ⟨.inl rfl, _, rfl, ?_⟩
    exact ⟨by simp [oneOf], DoQ.of x1 (t1.both l1 s1 x2 r2 s2 x3 (mkO_ok t.ok))⟩
  · skip
    refine w_seq ?_
    refine w_region (by kernel_rfl) ?_
    refine o_eqi gn rfl rfl rfl ?_
    refine o_assign gn rfl rfl ?_
    refine wl_end ?_
    refine w_cond rfl (fun hb => ?_) fun hb => ?_
    · skip
      refine w_seq ?_
      refine w_region (by kernel_rfl) ?_
      refine o_fieldAddr (off := 9) gn rfl rfl (by kernel_rfl) ?_
      refine o_load gn rfl rfl (by kernel_rfl) (by assumption) rfl ?_
      obtain ⟨v', h2, bs', a1, a2, a3, a4⟩ := append_nil (E := heapE) el2 (hs.ext x1) (by simp; omega)
      obtain ⟨a9, rfl⟩ := a2.val
      have t2 := t1.ext a3
      have a2n := a3.n
      have hq2 := (a3.get h.n (by omega)).trans hq
      refine o_append gn rfl rfl rfl a1 ag0 ?_
      refine o_assign gn rfl rfl ?_
      refine wl_end ?_
      refine w_seq ?_
      refine w_region (by kernel_rfl) ?_
      refine o_move gn rfl rfl ?_
      refine o_fieldAddr (off := 2) gn rfl rfl (by kernel_rfl) ?_
      refine o_load gn rfl rfl (by kernel_rfl) (by assumption) rfl ?_
      refine o_move gn rfl rfl ?_
      refine o_fieldAddr (off := 4) gn rfl rfl (by kernel_rfl) ?_
      refine o_load gn rfl rfl (by kernel_rfl) (by assumption) rfl ?_
      refine o_fieldAddr (off := 5) gn rfl rfl (by kernel_rfl) ?_
      refine o_load gn rfl rfl (by kernel_rfl) (by assumption) rfl ?_
      refine o_call [_, _, _, _, _] gn rfl rfl (by kernel_rfl) rfl (C.mono (c39 t2.l (a2.src (all_int _))) ?_)
      rintro v1 h3 ⟨rfl, o1', l1, s1, x2⟩
      have hq3 := (x2.get h.n (by omega) (fun hm => by have := hbl _ hm; omega)).trans hq2
      have r1 := t2.r.keep x2 (fun i hi hj => t2.s i hj hi)
      have hs3 := ((hs.ext x1).ext a3).keep x2 (fun a n c e => (hap a n c e).1)
      refine ⟨ag0, ?_⟩
      refine o_move gn rfl rfl ?_
      refine o_extract gn rfl rfl rfl ?_
      refine o_extract gn rfl rfl rfl ?_
      refine o_assign gn rfl rfl ?_
      refine o_assign gn rfl rfl ?_
      refine wl_end ?_
      refine w_seq ?_
      refine w_region (by kernel_rfl) ?_
      refine o_move gn rfl rfl ?_
      refine o_fieldAddr (off := 2) gn rfl rfl (by kernel_rfl) ?_
      refine o_load gn rfl rfl (by kernel_rfl) (by assumption) rfl ?_
      refine o_fieldAddr (off := 9) gn rfl rfl (by kernel_rfl) ?_
      refine o_load gn rfl rfl (by kernel_rfl) (by assumption) rfl ?_
      refine o_fieldAddr (off := 4) gn rfl rfl (by kernel_rfl) ?_
      refine o_load gn rfl rfl (by kernel_rfl) (by assumption) rfl ?_
      refine o_fieldAddr (off := 5) gn rfl rfl (by kernel_rfl) ?_
      refine o_load gn rfl rfl (by kernel_rfl) (by assumption) rfl ?_
      refine o_call [_, _, _, _, _] gn rfl rfl (by kernel_rfl) rfl (C.mono (c62 r1 t2.ok.1 hs3) ?_)
      rintro v2 h4 ⟨rfl, o2', r2, s2, x3⟩
      obtain ⟨q1, q2, q3⟩ := t2.both l1 s1 x2 r2 s2 x3 (clO_ok t.ok)
      have x2n := x2.n
      have x3n := x3.n
      have hbsl := a2.lt
      have hap1 : ∀ i, i ∈ o1' → i ∉ bs' := fun i hi hj => by
        have := a4 i hj
        have := hbsl i hj
        rcases s1 i hi with h5 | h5
        · have := hbl i h5; omega
        · omega
      have hap2 : ∀ i, i ∈ o2' → i ∉ bs' := fun i hi hj => by
        have := a4 i hj
        have := hbsl i hj
        rcases s2 i hi with h5 | h5
        · have := hdl i h5; omega
        · omega
      have hb2 := (a2.keep x2 (fun i hi hj => by have := a4 i hi; have := hbl i hj; omega)).keep x3 (fun i hi hj => by have := a4 i hi; have := hdl i hj; omega)
      refine ⟨ag0, ?_⟩
      refine o_move gn rfl rfl ?_
      refine o_extract gn rfl rfl rfl ?_
      refine o_extract gn rfl rfl rfl ?_
      refine o_assign gn rfl rfl ?_
      refine o_assign gn rfl rfl ?_
      refine wl_end ?_
      refine w_seq ?_
      refine w_seq ?_
      refine w_region (by kernel_rfl) ?_
      refine o_assign gn rfl rfl ?_
      refine wl_end ?_
      refine w_block ?_
      refine w_weak [(11, .slice a9 (isV vals).length (isV vals).length), (12, iV (clN obs vals)), (13, iV (clE obs vals)), (14, iV (clN obs vals)), (15, iV (clE obs vals)), (16, iV 0)] (by repeat (first | exact trivial | refine ⟨rfl, ?_⟩)) ?_
      refine w_loop (fun k l hh => ∃ (i : Int) (xs : List Int), 0 ≤ i ∧ i ≤ vals.length ∧ k = (vals.length - i).toNat ∧ xs.length = vals.length ∧ Sl 2 hh (.slice a9 (isV vals).length (isV vals).length) (isV xs) bs' ∧ ExtB bs' h4 hh ∧ l = [(11, .slice a9 (isV vals).length (isV vals).length), (12, iV (clN obs vals)), (13, iV (clE obs vals)), (14, iV (clN obs vals)), (15, iV (clE obs vals)), (16, iV i)]) (n := (vals.length - (0 : Int)).toNat) ?_ fun k l hh hI => ?_
      · exact ⟨0, vals, by omega, by omega, rfl, rfl, hb2, .refl _ _, rfl⟩
      · obtain ⟨i, xs, hi0, hi1, rfl, hxl, hsl, hxb, rfl⟩ := hI
        refine w_seq ?_
        refine w_seq ?_
        refine w_region (by kernel_rfl) ?_
        refine o_move gn rfl rfl ?_
        refine o_move gn rfl rfl ?_
        refine o_len gn rfl rfl (by kernel_rfl) ?_
        refine o_lss gn rfl rfl rfl ?_
        refine wl_end ?_
        refine w_cond rfl (fun hb => ?_) fun hb => ?_
        · skip
          have hlt : i < vals.length := by simpa using hb
          obtain ⟨bo, mo, eo, hbo, hmo, hblt, hBo⟩ := hsl.at (by simp; omega)
          simp only [Value.slice.injEq] at eo
          obtain ⟨rfl, _, _⟩ := eo
          refine w_skip ?_
          refine w_seq ?_
          refine w_block ?_
          refine w_region (by kernel_rfl) ?_
          refine o_move gn rfl rfl ?_
          refine o_move gn rfl rfl ?_
          refine o_indexAddr (zz := 1) gn rfl rfl rfl (by kernel_rfl) (by omega) (by simp; omega) ?_
          refine o_load gn rfl rfl (by kernel_rfl) hbo (at_int (k := .i64) i.toNat (by omega) (by omega)) ?_
          refine o_addw gn rfl rfl rfl ?_
          refine o_indexAddr (zz := 1) gn rfl rfl rfl (by kernel_rfl) (by omega) (by simp; omega) ?_
          refine o_store gn rfl rfl rfl (by kernel_rfl) hbo (by omega) (by simp; omega) ag0 ?_
          refine wl_end ?_
          refine w_region (by kernel_rfl) ?_
          refine o_move gn rfl rfl ?_
          refine o_add gn rfl rfl rfl (by omega) (by omega) ?_
          refine o_assign gn rfl rfl ?_
          refine wl_end ?_
          exact ⟨(vals.length - (i + 1)).toNat, by omega, _, (by repeat (first | exact trivial | refine ⟨rfl, ?_⟩)), ⟨i + 1, xs.set i.toNat (IntKind.i64.wrap ((xs[i.toNat]?).getD 0 + 1)), by omega, by omega, rfl, by simp [hxl], by
            have hset : (isV xs).set (0 + i.toNat * 1) (iV (IntKind.i64.wrap ((xs[i.toNat]?).getD 0 + 1))) = isV (xs.set i.toNat (IntKind.i64.wrap ((xs[i.toNat]?).getD 0 + 1))) := by simp [isV, List.map_set]
            rw [hset, hBo]
            exact Sl.put (by simp [hxl]) hmo hblt, hxb.trans ((ExtB.put _ _ _).mono (by simp [hBo])), rfl⟩⟩
        · skip
          refine w_exit ?_
          refine thn_exit ?_
          refine rnd_exit ?_
          refine blk_eq ?_
          refine w_seq ?_
          refine w_region (by kernel_rfl) ?_
          refine o_move gn rfl rfl ?_
          refine o_move gn rfl rfl ?_
          refine o_eqi gn rfl rfl rfl ?_
          refine o_move gn rfl rfl ?_
          refine o_and (n := 3) rfl rfl rfl gn rfl (fun hb => by
              refine o_move (gy rfl rfl rfl hb) rfl rfl ?_
              refine o_move (gy rfl rfl rfl hb) rfl rfl ?_
              refine o_eqi (gy rfl rfl rfl hb) rfl rfl rfl ?_
              exact wl_end ⟨rfl, rfl, 3, rfl, rfl⟩) ?_
          refine o_assign gn rfl rfl ?_
          refine wl_end ?_
          refine w_ret ?_
          refine ⟨.inl rfl, _, rfl, ?_⟩
          exact ⟨by simp [oneOf], _, o1', o2', q1.keep hxb hap1 hap2, fun i hi => by
            rcases q2 i hi with h1 | h1 | h1
            · exact .inl h1
            · exact .inr (.inl h1)
            · exact .inr (.inr (by omega)), (((x1.trans a3).b _).trans q3).more hxb (fun j hj => by have := a4 j hj; omega)⟩
    · skip
      refine w_seq ?_
      refine w_region (by kernel_rfl) ?_
      refine o_eqi gn rfl rfl rfl ?_
      refine o_assign gn rfl rfl ?_
      refine wl_end ?_
      refine w_cond rfl (fun hb => ?_) fun hb => ?_
      · skip
        refine w_seq ?_
        refine w_region (by kernel_rfl) ?_
        refine o_move gn rfl rfl ?_
        refine o_fieldAddr (off := 6) gn rfl rfl (by kernel_rfl) ?_
        refine o_load gn rfl rfl (by kernel_rfl) (by assumption) rfl ?_
        refine o_fieldAddr (off := 7) gn rfl rfl (by kernel_rfl) ?_
        refine o_load gn rfl rfl (by kernel_rfl) (by assumption) rfl ?_
        refine o_call [_, _, _] gn rfl rfl (by kernel_rfl) rfl (c_pure (c40' t1.l t1.ok) ⟨ag0, ?_⟩)
        refine o_move gn rfl rfl ?_
        refine o_extract gn rfl rfl rfl ?_
        refine o_extract gn rfl rfl rfl ?_
        refine o_assign gn rfl rfl ?_
        refine o_assign gn rfl rfl ?_
        refine wl_end ?_
        refine w_seq ?_
        refine w_region (by kernel_rfl) ?_
        refine o_move gn rfl rfl ?_
        refine o_fieldAddr (off := 6) gn rfl rfl (by kernel_rfl) ?_
        refine o_load gn rfl rfl (by kernel_rfl) (by assumption) rfl ?_
        refine o_fieldAddr (off := 7) gn rfl rfl (by kernel_rfl) ?_
        refine o_load gn rfl rfl (by kernel_rfl) (by assumption) rfl ?_
        refine o_call [_, _, _] gn rfl rfl (by kernel_rfl) rfl (c_pure (c63' t1.r t1.ok) ⟨ag0, ?_⟩)
        refine o_move gn rfl rfl ?_
        refine o_extract gn rfl rfl rfl ?_
        refine o_extract gn rfl rfl rfl ?_
        refine o_assign gn rfl rfl ?_
        refine o_assign gn rfl rfl ?_
        refine wl_end ?_
        refine w_seq ?_
        refine w_region (by kernel_rfl) ?_
        refine o_move gn rfl rfl ?_
        refine o_move gn rfl rfl ?_
        refine o_eqi gn rfl rfl rfl ?_
        refine o_move gn rfl rfl ?_
        refine o_and (n := 3) rfl rfl rfl gn rfl (fun hb => by
            refine o_move (gy rfl rfl rfl hb) rfl rfl ?_
            refine o_move (gy rfl rfl rfl hb) rfl rfl ?_
            refine o_eqi (gy rfl rfl rfl hb) rfl rfl rfl ?_
            exact wl_end ⟨rfl, rfl, 3, rfl, rfl⟩) ?_
        refine o_assign gn rfl rfl ?_
        refine wl_end ?_
        refine w_ret ?_
        refine ⟨.inl rfl, _, rfl, ?_⟩
        exact ⟨by simp [oneOf], DoQ.of x1 ⟨t1, fun i hi => by rcases hi with h1 | h1; exact .inl h1; exact .inr (.inl h1), .refl _ _⟩⟩
      · skip
        refine w_seq ?_
        refine w_region (by kernel_rfl) ?_
        refine o_eqi gn rfl rfl rfl ?_
        refine o_assign gn rfl rfl ?_
        refine wl_end ?_
        refine w_cond rfl (fun hb => ?_) fun hb => ?_
        · skip
          refine w_seq ?_
          refine w_draw [(0, []), (1, []), (2, []), (3, []), (4, []), (5, []), (6, []), (8, []), (9, []), (10, []), (11, []), (12, []), (13, []), (14, []), (7, [10, 12, 14]), (15, []), (16, []), (17, [])] (by kernel_rfl) (by kernel_rfl) (by kernel_rfl) (by kernel_rfl) ?_
          refine o_move gn rfl rfl ?_
          refine o_fieldAddr (off := 6) gn rfl rfl (by kernel_rfl) ?_
          refine o_load gn rfl rfl (by kernel_rfl) (by assumption) rfl ?_
          refine o_fieldAddr (off := 7) gn rfl rfl (by kernel_rfl) ?_
          refine o_load gn rfl rfl (by kernel_rfl) (by assumption) rfl ?_
          refine o_fieldAddr (off := 8) gn rfl rfl (by kernel_rfl) ?_
          refine o_load gn rfl rfl (by kernel_rfl) (by assumption) rfl ?_
          refine o_move gn rfl rfl ?_
          refine o_fieldAddr (off := 6) gn rfl rfl (by kernel_rfl) ?_
          refine o_load gn rfl rfl (by kernel_rfl) (by assumption) rfl ?_
          refine o_fieldAddr (off := 7) gn rfl rfl (by kernel_rfl) ?_
          refine o_load gn rfl rfl (by kernel_rfl) (by assumption) rfl ?_
          refine o_fieldAddr (off := 8) gn rfl rfl (by kernel_rfl) ?_
          refine o_load gn rfl rfl (by kernel_rfl) (by assumption) rfl ?_
          refine o_call [_, _, _, _] gn rfl rfl (by kernel_rfl) rfl (C.mono (c41' t1.l t1.ok) ?_)
          rintro v1 h2 ⟨rfl, l1, x2⟩
          have hq2 := (x2.get h.n (by omega) (fun hm => by have := hbl _ hm; omega)).trans hq
          have r1 := t1.r.keep x2 (fun i hi hj => t1.s i hj hi)
          refine ⟨(ag1 (ag_load gn rfl (by kernel_rfl) (by assumption) rfl rfl same_int) (ag1 (ag_load gn rfl (by kernel_rfl) (by assumption) rfl rfl same_int) (ag1 (ag_load gn rfl (by kernel_rfl) (by assumption) rfl rfl same_int) ag0))), ?_⟩
          refine o_call [_, _, _, _] gn rfl rfl (by kernel_rfl) rfl (C.mono (c64' r1 t1.ok) ?_)
          rintro v2 h3 ⟨rfl, r2, x3⟩
          refine ⟨ag0, ?_⟩
          refine o_eqi gn rfl rfl rfl ?_
          refine o_assign gn rfl rfl ?_
          refine wl_end ?_
          refine w_ret ?_
          refine ⟨.inl rfl, _, rfl, ?_⟩
          exact ⟨by simp [oneOf], DoQ.of x1 (t1.both l1 (fun i hi => .inl hi) x2 r2 (fun i hi => .inl hi) x3 (setO_ok t.ok))⟩
        · skip
          refine w_seq ?_
          refine w_region (by kernel_rfl) ?_
          refine o_eqi gn rfl rfl rfl ?_
          refine o_assign gn rfl rfl ?_
          refine wl_end ?_
          refine w_cond rfl (fun hb => ?_) fun hb => ?_
          · skip
            refine w_seq ?_
            refine w_draw [(0, []), (1, []), (2, []), (3, []), (4, []), (6, []), (7, []), (8, []), (9, []), (10, []), (5, [8, 10]), (11, []), (12, []), (13, []), (14, []), (15, []), (16, []), (18, []), (19, []), (20, []), (17, [20]), (21, []), (22, []), (23, []), (24, [])] (by kernel_rfl) (by kernel_rfl) (by kernel_rfl) (by kernel_rfl) ?_
            refine o_move gn rfl rfl ?_
            refine o_fieldAddr (off := 6) gn rfl rfl (by kernel_rfl) ?_
            refine o_load gn rfl rfl (by kernel_rfl) (by assumption) rfl ?_
            refine o_fieldAddr (off := 1) gn rfl rfl (by kernel_rfl) ?_
            refine o_load gn rfl rfl (by kernel_rfl) (by assumption) rfl ?_
            refine o_move gn rfl rfl ?_
            refine o_fieldAddr (off := 6) gn rfl rfl (by kernel_rfl) ?_
            refine o_load gn rfl rfl (by kernel_rfl) (by assumption) rfl ?_
            refine o_fieldAddr (off := 1) gn rfl rfl (by kernel_rfl) ?_
            refine o_load gn rfl rfl (by kernel_rfl) (by assumption) rfl ?_
            refine o_call [_, _, _] gn rfl rfl (by kernel_rfl) rfl (c_pure (c42' t1.l t1.ok) ⟨(ag1 (ag_load gn rfl (by kernel_rfl) (by assumption) rfl rfl same_int) (ag1 (ag_load gn rfl (by kernel_rfl) (by assumption) rfl rfl same_int) ag0)), ?_⟩)
            refine o_call [_, _, _] gn rfl rfl (by kernel_rfl) rfl (c_pure (c65' t1.r t1.ok) ⟨ag0, ?_⟩)
            refine o_eqb gn rfl rfl rfl (by kernel_rfl) ?_
            refine o_move gn rfl rfl ?_
            refine o_and (n := 9) rfl rfl rfl gn rfl (fun hb => by
                refine o_move (gy rfl rfl rfl hb) rfl rfl ?_
                refine o_fieldAddr (off := 6) (gy rfl rfl rfl hb) rfl rfl (by kernel_rfl) ?_
                refine o_load (gy rfl rfl rfl hb) rfl rfl (by kernel_rfl) (by assumption) rfl ?_
                refine o_move (gy rfl rfl rfl hb) rfl rfl ?_
                refine o_fieldAddr (off := 6) (gy rfl rfl rfl hb) rfl rfl (by kernel_rfl) ?_
                refine o_load (gy rfl rfl rfl hb) rfl rfl (by kernel_rfl) (by assumption) rfl ?_
                refine o_call [_, _] (gy rfl rfl rfl hb) rfl rfl (by kernel_rfl) rfl (c_pure (c43' t1.l t1.ok) ⟨(ag1 (ag_load (gy rfl rfl rfl hb) rfl (by kernel_rfl) (by assumption) rfl rfl same_int) ag0), ?_⟩)
                refine o_call [_, _] (gy rfl rfl rfl hb) rfl rfl (by kernel_rfl) rfl (c_pure (c66' t1.r t1.ok) ⟨ag0, ?_⟩)
                refine o_eqi (gy rfl rfl rfl hb) rfl rfl rfl ?_
                exact wl_end ⟨rfl, rfl, 9, rfl, rfl⟩) ?_
            refine o_assign gn rfl rfl ?_
            refine wl_end ?_
            refine w_ret ?_
            refine ⟨.inl rfl, _, rfl, ?_⟩
            exact ⟨by simp [oneOf], DoQ.of x1 ⟨t1, fun i hi => by rcases hi with h1 | h1; exact .inl h1; exact .inr (.inl h1), .refl _ _⟩⟩
          · skip
            refine w_seq ?_
            refine w_region (by kernel_rfl) ?_
            refine o_eqi gn rfl rfl rfl ?_
            refine o_assign gn rfl rfl ?_
            refine wl_end ?_
            refine w_cond rfl (fun hb => ?_) fun hb => ?_
            · skip
              refine w_seq ?_
              refine w_region (by kernel_rfl) ?_
              refine o_move gn rfl rfl ?_
              refine o_fieldAddr (off := 6) gn rfl rfl (by kernel_rfl) ?_
              refine o_load gn rfl rfl (by kernel_rfl) (by assumption) rfl ?_
              refine o_call [_, _] gn rfl rfl (by kernel_rfl) rfl (C.mono (c21'' t1.l t1.ok) ?_)
              rintro v1 h2 ⟨x2, o', sv, bs', e, rfl, s2, f2, hcase⟩
              obtain ⟨a9, rfl⟩ := s2.val
              have hq2 := (x2.get h.n (by omega)).trans hq
              have x2n := x2.n
              have hbsl := s2.lt
              refine ⟨ag0, ?_⟩
              refine o_move gn rfl rfl ?_
              refine o_extract gn rfl rfl rfl ?_
              refine o_extract gn rfl rfl rfl ?_
              refine o_alloc (zv := .agg #[.int .i64 0, .int .i64 0, .slice none 0 0, .int .i64 0, .int .i64 0, .int .i64 0]) gn rfl (by kernel_rfl) ?_
              refine o_storeA (n := 6) gn rfl rfl rfl (by kernel_rfl) rfl (Hp.get_alloc_self _ _) (by decide) rfl ag0 ?_
              refine wl_at (fun h3 => h3.get h2.n = some (.cells (o'.cells (.slice a9 (isV o'.vals).length (isV o'.vals).length)) 46 0) ∧ Ext h2 h3 ∧ h3.n = h2.n + 1) ⟨Hp.get_put_self _ _ _, (Ext.alloc h2 _).of (ExtB.put _ _ _) (by simp), by rw [Hp.n_put, Hp.n_alloc]⟩ fun h3 ⟨g3, x3, n3⟩ => ?_
              have hq3 := (x3.get h.n (by omega)).trans hq2
              have t3 := t1.ext (x2.trans x3)
              have s3 := s2.ext x3
              refine o_assign gn rfl rfl ?_
              refine wl_end ?_
              refine w_seq ?_
              refine w_seq ?_
              refine w_region (by kernel_rfl) ?_
              refine o_move gn rfl rfl ?_
              refine o_fieldAddr (off := 6) gn rfl rfl (by kernel_rfl) ?_
              refine o_load gn rfl rfl (by kernel_rfl) (by assumption) rfl ?_
              refine o_call [_, _] gn rfl rfl (by kernel_rfl) rfl (c_pure (c67' t3.r) ⟨ag0, ?_⟩)
              refine o_not gn rfl rfl ?_
              refine wl_end ?_
              refine w_cond rfl (fun hb => ?_) fun hb => ?_
              · skip
                refine w_seq ?_
                refine w_region (by kernel_rfl) ?_
                refine o_move gn rfl rfl ?_
                refine o_eqi gn rfl rfl rfl ?_
                refine o_move gn rfl rfl ?_
                have hnone : obAt obs id = none := by
                  cases hx : obAt obs id with
                  | none => rfl
                  | some o => rw [hx] at hb; cases hb
                obtain ⟨rfl, rfl⟩ : o' = ob0 ∧ e = 13 := by
                  rcases hcase with ⟨h5, _⟩ | ⟨_, h5, h6⟩
                  · rw [hnone] at h5; cases h5
                  · exact ⟨h5, h6⟩
                refine wl_split (dc := 206) rfl (fun hb206 => ?_) fun hb206 => ?_
                · skip
                  refine o_loadA (n := 6) (gy rfl rfl rfl hb206) rfl rfl (by kernel_rfl) (by kernel_rfl) g3 (Nat.le_refl 6) ?_
                  refine o_build (zv := .agg #[.int .i64 0, .int .i64 0, .slice none 0 0, .int .i64 0, .int .i64 0, .int .i64 0]) (pl := [(0, 1), (1, 1), (2, 1), (3, 1), (4, 1), (5, 1)]) [] (gy rfl rfl rfl hb206) rfl (by kernel_rfl) (by kernel_rfl) rfl rfl ?_
                  refine o_call [_, _] (gy rfl rfl rfl hb206) rfl rfl (by kernel_rfl) rfl (C.mono (c68 (o := ob0) (o' := ob0) s3 (.inl ⟨rfl, rfl, rfl⟩ : Sl 2 h3 (.slice none 0 0) (isV ob0.vals) []) (by decide)) ?_)
                  rintro v2 h4 ⟨rfl, x4⟩
                  refine ⟨ag0, ?_⟩
                  refine o_pickt gn rfl rfl hb206 rfl ?_
                  refine o_assign gn rfl rfl ?_
                  refine wl_end ?_
                  refine w_ret ?_
                  refine ⟨.inl rfl, _, rfl, ?_⟩
                  exact ⟨by rw [(sameOb_iff ob0 ob0).2 rfl]; rfl, DoQ.of (x1.trans (x2.trans (x3.trans x4))) ⟨t3.ext x4, fun i hi => by rcases hi with h1 | h1; exact .inl h1; exact .inr (.inl h1), .refl _ _⟩⟩
                · skip
                  refine wl_skips (n := 3) (dc := 206) (w := true) rfl hb206 rfl ?_
                  refine o_pickf gn rfl rfl hb206 rfl ?_
                  refine o_assign gn rfl rfl ?_
                  refine wl_end ?_
                  refine w_ret ?_
                  refine ⟨.inl rfl, _, rfl, ?_⟩
                  exact absurd hb206 (by simp)
              · skip
                refine w_skip ?_
                refine w_seq ?_
                refine w_draw [(0, []), (1, []), (2, []), (3, []), (4, []), (5, []), (6, []), (7, []), (8, []), (9, []), (10, []), (11, []), (12, []), (13, []), (14, []), (15, [])] (by kernel_rfl) (by kernel_rfl) (by kernel_rfl) (by kernel_rfl) ?_
                refine o_move gn rfl rfl ?_
                refine o_eqi gn rfl rfl rfl ?_
                refine o_move gn rfl rfl ?_
                obtain ⟨ho, rfl⟩ : obAt obs id = some o' ∧ e = 0 := by
                  rcases hcase with h5 | ⟨h5, _⟩
                  · exact h5
                  · rw [h5] at hb; cases hb
                have hov := t.ok.2 o' (by unfold obAt at ho; split at ho; exact List.mem_of_getElem? ho; cases ho)
                refine wl_split (dc := 213) rfl (fun hb213 => ?_) fun hb213 => ?_
                · skip
                  obtain ⟨es, sad, Bad, hd3, rfl, hod⟩ := t3.r
                  have htd := hd3.top
                  obtain ⟨hi, hid1, hid2, heo⟩ := isId_obAt ho
                  have hes : es.length ≤ 1024 := by have := t.ok.1; simpa [rowO] using this
                  obtain ⟨bb, m, rfl, hbb, hm, hbblt, hB, hcs, hcl⟩ := hd3.cell hi
                  have hrow := rowC_row hi
                  have hes3 := hd3.each _ (List.getElem_mem hi)
                  rw [heo] at hes3
                  refine o_loadA (n := 6) (gy rfl rfl rfl hb213) rfl rfl (by kernel_rfl) (by kernel_rfl) g3 (Nat.le_refl 6) ?_
                  refine o_move (gy rfl rfl rfl hb213) rfl rfl ?_
                  refine o_nilCheck (gy rfl rfl rfl hb213) rfl rfl ?_
                  refine o_fieldAddr (off := 0) (gy rfl rfl rfl hb213) rfl rfl (by kernel_rfl) ?_
                  refine o_load (gy rfl rfl rfl hb213) rfl rfl (by kernel_rfl) (by assumption) rfl ?_
                  refine o_fieldAddr (off := 6) (gy rfl rfl rfl hb213) rfl rfl (by kernel_rfl) ?_
                  refine o_load (gy rfl rfl rfl hb213) rfl rfl (by kernel_rfl) (by assumption) rfl ?_
                  refine o_sub (gy rfl rfl rfl hb213) rfl rfl rfl (by omega) (by omega) ?_
                  refine o_indexAddr (zz := 6) (gy rfl rfl rfl hb213) rfl rfl rfl (by kernel_rfl) (by omega) (by omega) ?_
                  refine o_loadA (n := 6) (gy rfl rfl rfl hb213) rfl rfl (by kernel_rfl) (by kernel_rfl) hbb (by omega) ?_
                  rw [hrow, show (es[(id - 1).toNat]).cells = o'.cells (es[(id - 1).toNat]).sv from by rw [En.cells, heo]]
                  refine o_call [_, _] (gy rfl rfl rfl hb213) rfl rfl (by kernel_rfl) rfl (C.mono (c68 (o := o') (o' := o') s3 hes3 (by omega)) ?_)
                  rintro v2 h4 ⟨rfl, x4⟩
                  rw [(sameOb_iff o' o').2 rfl]
                  have s4 := s3.ext x4
                  have g4 := (x4.get h2.n (by omega)).trans g3
                  have t4 := t3.ext x4
                  have x4n := x4.n
                  refine ⟨ag0, ?_⟩
                  refine o_pickt gn rfl rfl hb213 rfl ?_
                  refine o_assign gn rfl rfl ?_
                  refine wl_end ?_
                  refine w_seq ?_
                  refine w_seq ?_
                  refine w_region (by kernel_rfl) ?_
                  refine o_assign gn rfl rfl ?_
                  refine wl_end ?_
                  refine w_block ?_
                  refine w_weak [(21, ptrV h2.n), (23, .bool true), (24, iV 0)] (by repeat (first | exact trivial | refine ⟨rfl, ?_⟩)) ?_
                  refine w_loop (fun k l hh => ∃ (i : Int) (xs : List Int), 0 ≤ i ∧ i ≤ o'.vals.length ∧ k = (o'.vals.length - i).toNat ∧ xs.length = o'.vals.length ∧ hh.get h2.n = some (.cells (o'.cells (.slice a9 (isV o'.vals).length (isV o'.vals).length)) 46 0) ∧ Sl 2 hh (.slice a9 (isV o'.vals).length (isV o'.vals).length) (isV xs) bs' ∧ ExtB bs' h4 hh ∧ l = [(21, ptrV h2.n), (23, .bool true), (24, iV i)]) (n := (o'.vals.length - (0 : Int)).toNat) ?_ fun k l hh hI => ?_
                  · exact ⟨0, o'.vals, by omega, by omega, rfl, rfl, g4, s4, .refl _ _, rfl⟩
                  · obtain ⟨i, xs, hi0, hi1, rfl, hxl, hgo, hsl, hxb, rfl⟩ := hI
                    refine w_seq ?_
                    refine w_seq ?_
                    refine w_region (by kernel_rfl) ?_
                    refine o_move gn rfl rfl ?_
                    refine o_fieldAddr (off := 2) gn rfl rfl (by kernel_rfl) ?_
                    refine o_load gn rfl rfl (by kernel_rfl) (by assumption) rfl ?_
                    refine o_len gn rfl rfl (by kernel_rfl) ?_
                    refine o_lss gn rfl rfl rfl ?_
                    refine wl_end ?_
                    refine w_cond rfl (fun hb => ?_) fun hb => ?_
                    · skip
                      have hlt : i < o'.vals.length := by simpa using hb
                      obtain ⟨bo, mo, eo, hbo, hmo, hblt, hBo⟩ := hsl.at (by simp; omega)
                      simp only [Value.slice.injEq] at eo
                      obtain ⟨rfl, _, _⟩ := eo
                      have hne : bo ≠ h2.n := fun e => by have := hbsl bo (by simp [hBo]); omega
                      refine w_skip ?_
                      refine w_seq ?_
                      refine w_block ?_
                      refine w_region (by kernel_rfl) ?_
                      refine o_fieldAddr (off := 2) gn rfl rfl (by kernel_rfl) ?_
                      refine o_load gn rfl rfl (by kernel_rfl) (by assumption) rfl ?_
                      refine o_move gn rfl rfl ?_
                      refine o_indexAddr (zz := 1) gn rfl rfl rfl (by kernel_rfl) (by omega) (by simp; omega) ?_
                      refine o_load gn rfl rfl (by kernel_rfl) hbo (at_int (k := .i64) i.toNat (by omega) (by omega)) ?_
                      refine o_addw gn rfl rfl rfl ?_
                      refine o_indexAddr (zz := 1) gn rfl rfl rfl (by kernel_rfl) (by omega) (by simp; omega) ?_
                      refine o_store gn rfl rfl rfl (by kernel_rfl) hbo (by omega) (by simp; omega) ag0 ?_
                      refine wl_end ?_
                      refine w_region (by kernel_rfl) ?_
                      refine o_move gn rfl rfl ?_
                      refine o_add gn rfl rfl rfl (by omega) (by omega) ?_
                      refine o_assign gn rfl rfl ?_
                      refine wl_end ?_
                      exact ⟨(o'.vals.length - (i + 1)).toNat, by omega, _, (by repeat (first | exact trivial | refine ⟨rfl, ?_⟩)), ⟨i + 1, xs.set i.toNat (IntKind.i64.wrap ((xs[i.toNat]?).getD 0 + 1)), by omega, by omega, rfl, by simp [hxl], by
                        rw [Hp.get_put, if_neg hne]; exact hgo, by
                        have hset : (isV xs).set (0 + i.toNat * 1) (iV (IntKind.i64.wrap ((xs[i.toNat]?).getD 0 + 1))) = isV (xs.set i.toNat (IntKind.i64.wrap ((xs[i.toNat]?).getD 0 + 1))) := by simp [isV, List.map_set]
                        rw [hset, hBo]
                        exact Sl.put (by simp [hxl]) hmo hblt, hxb.trans ((ExtB.put _ _ _).mono (by simp [hBo])), rfl⟩⟩
                    · skip
                      refine w_exit ?_
                      refine thn_exit ?_
                      refine rnd_exit ?_
                      refine blk_eq ?_
                      refine w_seq ?_
                      refine w_region (by kernel_rfl) ?_
                      refine o_move gn rfl rfl ?_
                      refine o_assign gn rfl rfl ?_
                      refine wl_end ?_
                      refine w_ret ?_
                      refine ⟨.inl rfl, _, rfl, ?_⟩
                      exact ⟨rfl, _, o1, o2, t4.keep hxb (fun j hj hb' => by have := f2 j hb'; have := hbl j hj; omega) (fun j hj hb' => by have := f2 j hb'; have := hdl j hj; omega), fun i hi => by rcases hi with h1 | h1; exact .inl h1; exact .inr (.inl h1), (((x1.trans (x2.trans (x3.trans x4))).b _)).more hxb (fun j hj => by have := f2 j hj; omega)⟩
                · skip
                  exact absurd hb213 (by simp)
            · skip
              refine w_skip ?_
              refine w_seq ?_
              refine w_region (by kernel_rfl) ?_
              refine o_assign gn rfl rfl ?_
              refine wl_end ?_
              refine w_ret ?_
              refine ⟨.inl rfl, _, rfl, ?_⟩
              exact ⟨rfl, DoQ.of x1 ⟨t1, fun i hi => by rcases hi with h1 | h1; exact .inl h1; exact .inr (.inl h1), .refl _ _⟩⟩

end Go.Proofs.Ytkmbfjdmbdpflaa

