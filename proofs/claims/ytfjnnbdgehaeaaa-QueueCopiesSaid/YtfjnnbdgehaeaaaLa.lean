/- Chapter 7: the machine over the chapter's program, every function gone through; entries. Conditions: none. Chapter 7: the library's contract (slices.SortFunc), laid at this program by the kit's tool. Conditions: none. Chapter 7: which entry comes ahead. Conditions: none. Chapter 7: before, and the closure that sorts. Conditions: none. Chapter 7: slices.SortFunc by its contract; the sorted list of entries. Conditions: none. Chapter 7, plainly: rows of entries as cells; an entry moved up or down in a heap. Conditions: none. Chapter 7: which entry comes ahead. Conditions: none. Chapter 7: before, and the closure that sorts. Conditions: none. Chapter 7: an entry moves up. Conditions: none. Chapter 7: an entry moves down. Conditions: none. Chapter 7, the program's queue: New, Len, of, out. Conditions: none. Chapter 7, the program's queue: Put. Conditions: none. Chapter 7, the program's queue: Due, Take, Drop. Conditions: none. Chapter 7, the program's queue: Copy, All and what it yields. Conditions: none. Chapter 7, the program's queue: what All yields. Conditions: none. Chapter 7, the law's list of a queue's items. Conditions: none. Chapter 7, the program's queue: Next. Conditions: none. Chapter 7, the program's queue: slices.Collect over All. Conditions: none. Chapter 7: lists of items compared; Same. Conditions: none. -/
import Derived.Test.YtfjnnbdgehaeaaaRows
import Derived.Test.YtfjnnbdgehaeaaaXd
import Derived.Shelf.SlLaysF0
import Derived.Ground.SlsfProg
import Derived.Test.YtfjnnbdgehaeaaaProg
import Derived.Shelf.SlSortCmp.NoneTotal
import Derived.Test.YtfjnnbdgehaeaaaXc
namespace Go.Proofs.Ytfjnnbdgehaeaaa
open Go.X

theorem que_mixed : Try.prog.follows .mixedOrders = true := by kernel_rfl
noncomputable def queE0 : Env := envOf Try.prog

abbrev iV (k : Int) : Value := .int .i64 k
abbrev isV (l : List Int) : List Value := l.map fun n => .int .i64 n
abbrev ptrV (i : Nat) : Value := .pointer (some ⟨i, 0, none⟩)

/-- An entry: task, is it a front one, the time it is due, when it was put. -/
structure Ent where
  t : Int
  f : Bool
  d : Int
  q : Int
def encE (x : Ent) : List Value := [iV x.t, .bool x.f, iV x.d, iV x.q]
abbrev aggE (x : Ent) : Value := .agg #[iV x.t, .bool x.f, iV x.d, iV x.q]

/-- Does an entry come ahead of another one? -/
def bef (x y : Ent) : Bool :=
  if x.f != y.f then x.f else if x.f then decide (y.q < x.q) else decide (x.d < y.d ∨ x.d = y.d ∧ x.q < y.q)

/-- cmp.Compare at integers -/
def cmpI (a b : Int) : Int := if a < b then -1 else if b < a then 1 else 0
/-- cmp.Or of two -/
def orI (a b : Int) : Int := if a ≠ 0 then a else b

end Go.Proofs.Ytfjnnbdgehaeaaa

namespace Go.Proofs
open Go.Shelf
def Try.sortFn_ren : Go.Shelf.Ren := ⟨fun | 6 => 41 | 15 => 50 | 14 => 49 | 28 => 61 | 29 => 62 | 20 => 53 | 21 => 54 | 22 => 55 | 23 => 56 | 24 => 57 | 25 => 58 | 26 => 59 | 27 => 60 | 46 => 63 | 47 => 64 | 48 => 65 | 49 => 66 | 50 => 67 | 57 => 68 | n => n, fun | 22 => 56 | 24 => 61 | 25 => 73 | 3 => 3 | 39 => 81 | 0 => 0 | 53 => 92 | 55 => 94 | 4 => 4 | 46 => 85 | 45 => 84 | 50 => 89 | 5 => 5 | 9 => 9 | 66 => 95 | 70 => 99 | 76 => 101 | 77 => 102 | n => n, fun | n => n⟩
theorem Try.sortFn : Go.Proofs.SlLaysF0.n6 Try.prog Try.sortFn_ren := {
  mixed := by kernel_rfl
  f6 := ⟨Try.f41.name, by decide, Try.func41.trans (congrArg some (by kernel_rfl))⟩
  f14 := ⟨Try.f49.name, by decide, Try.func49.trans (congrArg some (by kernel_rfl))⟩
  f15 := Try.func50.trans (congrArg some (by kernel_rfl))
  f20 := ⟨Try.f53.name, by decide, Try.func53.trans (congrArg some (by kernel_rfl))⟩
  f21 := ⟨Try.f54.name, by decide, Try.func54.trans (congrArg some (by kernel_rfl))⟩
  f22 := ⟨Try.f55.name, by decide, Try.func55.trans (congrArg some (by kernel_rfl))⟩
  f23 := ⟨Try.f56.name, by decide, Try.func56.trans (congrArg some (by kernel_rfl))⟩
  f24 := ⟨Try.f57.name, by decide, Try.func57.trans (congrArg some (by kernel_rfl))⟩
  f25 := ⟨Try.f58.name, by decide, Try.func58.trans (congrArg some (by kernel_rfl))⟩
  f26 := ⟨Try.f59.name, by decide, Try.func59.trans (congrArg some (by kernel_rfl))⟩
  f27 := ⟨Try.f60.name, by decide, Try.func60.trans (congrArg some (by kernel_rfl))⟩
  f28 := Try.func61.trans (congrArg some (by kernel_rfl))
  f29 := Try.func62.trans (congrArg some (by kernel_rfl))
  f46 := ⟨Try.f63.name, by decide, Try.func63.trans (congrArg some (by kernel_rfl))⟩
  f47 := Try.func64.trans (congrArg some (by kernel_rfl))
  f48 := Try.func65.trans (congrArg some (by kernel_rfl))
  f49 := ⟨Try.f66.name, by decide, Try.func66.trans (congrArg some (by kernel_rfl))⟩
  f50 := ⟨Try.f67.name, by decide, Try.func67.trans (congrArg some (by kernel_rfl))⟩
  f57 := ⟨Try.f68.name, by decide, Try.func68.trans (congrArg some (by kernel_rfl))⟩
  t0 := Try.underlying0
  a0 := Try.isAgg0
  z0 := Try.sizeOf0
  v0 := Try.zeroValue0
  t3 := Try.underlying3
  a3 := Try.isAgg3
  z3 := Try.sizeOf3
  v3 := Try.zeroValue3
  t4 := Try.underlying4
  a4 := Try.isAgg4
  z4 := Try.sizeOf4
  v4 := Try.zeroValue4
  t5 := Try.underlying5
  a5 := Try.isAgg5
  z5 := Try.sizeOf5
  v5 := Try.zeroValue5
  t9 := Try.underlying9
  a9 := Try.isAgg9
  z9 := Try.sizeOf9
  v9 := Try.zeroValue9
  t22 := Try.underlying56
  a22 := Try.isAgg56
  z22 := Try.sizeOf56
  v22 := Try.zeroValue56
  t25 := Try.underlying73
  a25 := Try.isAgg73
  z25 := Try.sizeOf73
  v25 := Try.zeroValue73
  t39 := Try.underlying81
  a39 := Try.isAgg81
  z39 := Try.sizeOf81
  v39 := Try.zeroValue81
  t45 := Try.underlying84
  a45 := Try.isAgg84
  z45 := Try.sizeOf84
  v45 := Try.zeroValue84
  t46 := Try.underlying85
  a46 := Try.isAgg85
  z46 := Try.sizeOf85
  v46 := Try.zeroValue85
  t50 := Try.underlying89
  a50 := Try.isAgg89
  z50 := Try.sizeOf89
  v50 := Try.zeroValue89
  t53 := Try.underlying92
  a53 := Try.isAgg92
  z53 := Try.sizeOf92
  v53 := Try.zeroValue92
  t55 := Try.underlying94
  a55 := Try.isAgg94
  z55 := Try.sizeOf94
  v55 := Try.zeroValue94
  t66 := Try.underlying95
  a66 := Try.isAgg95
  z66 := Try.sizeOf95
  v66 := Try.zeroValue95
  t70 := Try.underlying99
  a70 := Try.isAgg99
  z70 := Try.sizeOf99
  v70 := Try.zeroValue99
  t76 := Try.underlying101
  a76 := Try.isAgg101
  z76 := Try.sizeOf101
  v76 := Try.zeroValue101
  t77 := Try.underlying102
  a77 := Try.isAgg102
  z77 := Try.sizeOf102
  v77 := Try.zeroValue102 }
end Go.Proofs

namespace Go.Proofs.Ytfjnnbdgehaeaaa.N0
open Go.X

section
variable {h : Hp} {a b : Int} {x y : Ent}

theorem c51 : CP queE0 51 [iV a] h (.bool false) := by
  refine c_enter (fu := Try.f51) (by kernel_rfl) rfl ?_
  refine w_seq ?_
  refine w_region (by kernel_rfl) ?_
  refine o_assign gn rfl rfl ?_
  refine wl_end ?_
  refine w_seq ?_
  refine w_region (by kernel_rfl) ?_
  refine o_move gn rfl rfl ?_
  refine o_move gn rfl rfl ?_
  refine o_nei gn rfl rfl rfl ?_
  refine o_assign gn rfl rfl ?_
  refine wl_end ?_
  refine w_ret ?_
  refine ⟨.inl rfl, _, rfl, ?_⟩
  exact ⟨by simp [oneOf], rfl⟩
theorem c52 : CP queE0 52 [iV a] h (.bool false) := by
  refine c_enter (fu := Try.f52) (by kernel_rfl) rfl ?_
  refine w_seq ?_
  refine w_region (by kernel_rfl) ?_
  refine o_assign gn rfl rfl ?_
  refine wl_end ?_
  refine w_seq ?_
  refine w_region (by kernel_rfl) ?_
  refine o_move gn rfl rfl ?_
  refine o_move gn rfl rfl ?_
  refine o_nei gn rfl rfl rfl ?_
  refine o_assign gn rfl rfl ?_
  refine wl_end ?_
  refine w_ret ?_
  refine ⟨.inl rfl, _, rfl, ?_⟩
  exact ⟨by simp [oneOf], rfl⟩

/-- cmp.Compare at int64 -/
theorem c47 : CP queE0 47 [iV a, iV b] h (iV (cmpI a b)) := by
  refine c_enter (fu := Try.f47) (by kernel_rfl) rfl ?_
  refine w_seq ?_
  refine w_region (by kernel_rfl) ?_
  refine o_assign gn rfl rfl ?_
  refine wl_end ?_
  refine w_seq ?_
  refine w_region (by kernel_rfl) ?_
  refine o_move gn rfl rfl ?_
  refine o_call [_] gn rfl rfl (by kernel_rfl) rfl (c_pure (c51) ⟨ag0, ?_⟩)
  refine o_assign gn rfl rfl ?_
  refine wl_end ?_
  refine w_seq ?_
  refine w_region (by kernel_rfl) ?_
  refine o_move gn rfl rfl ?_
  refine o_call [_] gn rfl rfl (by kernel_rfl) rfl (c_pure (c51) ⟨ag0, ?_⟩)
  refine o_assign gn rfl rfl ?_
  refine wl_end ?_
  refine w_seq ?_
  refine w_seq ?_
  refine w_region (by kernel_rfl) ?_
  refine o_move gn rfl rfl ?_
  refine wl_end ?_
  refine w_cond rfl (fun hb => ?_) fun hb => ?_
  · skip
    cases hb
  · skip
    refine w_skip ?_
    refine w_seq ?_
    refine w_seq ?_
    refine w_region (by kernel_rfl) ?_
    refine o_move gn rfl rfl ?_
    refine wl_end ?_
    refine w_cond rfl (fun hb => ?_) fun hb => ?_
    · skip
      cases hb
    · skip
      refine w_skip ?_
      refine w_seq ?_
      refine w_seq ?_
      refine w_region (by kernel_rfl) ?_
      refine o_move gn rfl rfl ?_
      refine o_move gn rfl rfl ?_
      refine o_lss gn rfl rfl rfl ?_
      refine wl_end ?_
      refine w_cond rfl (fun hb => ?_) fun hb => ?_
      · skip
        refine w_seq ?_
        refine w_region (by kernel_rfl) ?_
        refine o_assign gn rfl rfl ?_
        refine wl_end ?_
        refine w_ret ?_
        refine ⟨.inl rfl, _, rfl, ?_⟩
        simp at hb
        exact ⟨by rw [cmpI, if_pos hb]; rfl, rfl⟩
      · skip
        refine w_skip ?_
        refine w_seq ?_
        refine w_seq ?_
        refine w_region (by kernel_rfl) ?_
        refine o_move gn rfl rfl ?_
        refine o_move gn rfl rfl ?_
        refine o_gtr gn rfl rfl rfl ?_
        refine wl_end ?_
        refine w_cond rfl (fun hb => ?_) fun hb => ?_
        · skip
          refine w_seq ?_
          refine w_region (by kernel_rfl) ?_
          refine o_assign gn rfl rfl ?_
          refine wl_end ?_
          refine w_ret ?_
          refine ⟨.inl rfl, _, rfl, ?_⟩
          simp at hb
          rename_i hb0
          simp at hb0
          exact ⟨by rw [cmpI, if_neg (by omega), if_pos hb]; rfl, rfl⟩
        · skip
          refine w_skip ?_
          refine w_seq ?_
          refine w_region (by kernel_rfl) ?_
          refine o_assign gn rfl rfl ?_
          refine wl_end ?_
          refine w_ret ?_
          refine ⟨.inl rfl, _, rfl, ?_⟩
          simp at hb
          rename_i hb0
          simp at hb0
          exact ⟨by rw [cmpI, if_neg (by omega), if_neg (by omega)]; rfl, rfl⟩
/-- cmp.Compare at int -/
theorem c48 : CP queE0 48 [iV a, iV b] h (iV (cmpI a b)) := by
  refine c_enter (fu := Try.f48) (by kernel_rfl) rfl ?_
  refine w_seq ?_
  refine w_region (by kernel_rfl) ?_
  refine o_assign gn rfl rfl ?_
  refine wl_end ?_
  refine w_seq ?_
  refine w_region (by kernel_rfl) ?_
  refine o_move gn rfl rfl ?_
  refine o_call [_] gn rfl rfl (by kernel_rfl) rfl (c_pure (c52) ⟨ag0, ?_⟩)
  refine o_assign gn rfl rfl ?_
  refine wl_end ?_
  refine w_seq ?_
  refine w_region (by kernel_rfl) ?_
  refine o_move gn rfl rfl ?_
  refine o_call [_] gn rfl rfl (by kernel_rfl) rfl (c_pure (c52) ⟨ag0, ?_⟩)
  refine o_assign gn rfl rfl ?_
  refine wl_end ?_
  refine w_seq ?_
  refine w_seq ?_
  refine w_region (by kernel_rfl) ?_
  refine o_move gn rfl rfl ?_
  refine wl_end ?_
  refine w_cond rfl (fun hb => ?_) fun hb => ?_
  · skip
    cases hb
  · skip
    refine w_skip ?_
    refine w_seq ?_
    refine w_seq ?_
    refine w_region (by kernel_rfl) ?_
    refine o_move gn rfl rfl ?_
    refine wl_end ?_
    refine w_cond rfl (fun hb => ?_) fun hb => ?_
    · skip
      cases hb
    · skip
      refine w_skip ?_
      refine w_seq ?_
      refine w_seq ?_
      refine w_region (by kernel_rfl) ?_
      refine o_move gn rfl rfl ?_
      refine o_move gn rfl rfl ?_
      refine o_lss gn rfl rfl rfl ?_
      refine wl_end ?_
      refine w_cond rfl (fun hb => ?_) fun hb => ?_
      · skip
        refine w_seq ?_
        refine w_region (by kernel_rfl) ?_
        refine o_assign gn rfl rfl ?_
        refine wl_end ?_
        refine w_ret ?_
        refine ⟨.inl rfl, _, rfl, ?_⟩
        simp at hb
        exact ⟨by rw [cmpI, if_pos hb]; rfl, rfl⟩
      · skip
        refine w_skip ?_
        refine w_seq ?_
        refine w_seq ?_
        refine w_region (by kernel_rfl) ?_
        refine o_move gn rfl rfl ?_
        refine o_move gn rfl rfl ?_
        refine o_gtr gn rfl rfl rfl ?_
        refine wl_end ?_
        refine w_cond rfl (fun hb => ?_) fun hb => ?_
        · skip
          refine w_seq ?_
          refine w_region (by kernel_rfl) ?_
          refine o_assign gn rfl rfl ?_
          refine wl_end ?_
          refine w_ret ?_
          refine ⟨.inl rfl, _, rfl, ?_⟩
          simp at hb
          rename_i hb0
          simp at hb0
          exact ⟨by rw [cmpI, if_neg (by omega), if_pos hb]; rfl, rfl⟩
        · skip
          refine w_skip ?_
          refine w_seq ?_
          refine w_region (by kernel_rfl) ?_
          refine o_assign gn rfl rfl ?_
          refine wl_end ?_
          refine w_ret ?_
          refine ⟨.inl rfl, _, rfl, ?_⟩
          simp at hb
          rename_i hb0
          simp at hb0
          exact ⟨by rw [cmpI, if_neg (by omega), if_neg (by omega)]; rfl, rfl⟩

/-- cmp.Or of two -/
theorem c46 {p m : Nat} {e : TypeId} (hg : h.get p = some (.cells [iV a, iV b] e m)) : CP queE0 46 [.slice (some ⟨p, 0, none⟩) 2 2] h (iV (orI a b)) := by
  refine c_enter (fu := Try.f46) (by kernel_rfl) rfl ?_
  refine w_seq ?_
  refine w_region (by kernel_rfl) ?_
  refine o_assign gn rfl rfl ?_
  refine wl_end ?_
  refine w_seq ?_
  refine w_region (by kernel_rfl) ?_
  refine o_assign gn rfl rfl ?_
  refine wl_end ?_
  refine w_seq ?_
  refine w_seq ?_
  refine w_region (by kernel_rfl) ?_
  refine o_move gn rfl rfl ?_
  refine o_len gn rfl rfl (by kernel_rfl) ?_
  refine o_move gn rfl rfl ?_
  refine wl_end ?_
  refine w_block ?_
  refine w_weak [(3, iV 0), (6, .slice (some ⟨p, 0, none⟩) 2 2), (7, iV 2), (8, iV 0)] (by repeat (first | exact trivial | refine ⟨rfl, ?_⟩)) ?_
  refine w_loop (fun k l hh => ∃ i : Nat, i ≤ 2 ∧ k = 2 - i ∧ hh = h ∧ (1 ≤ i → a = 0) ∧ (2 ≤ i → b = 0) ∧ l = [(3, iV 0), (6, .slice (some ⟨p, 0, none⟩) 2 2), (7, iV 2), (8, iV (i : Nat))]) (n := 2) ?_ fun k l hh hI => ?_
  · exact ⟨0, by omega, by omega, rfl, by omega, by omega, rfl⟩
  · obtain ⟨i, hi, rfl, rfl, ha, hb2, rfl⟩ := hI
    refine w_seq ?_
    refine w_region (by kernel_rfl) ?_
    refine o_lss gn rfl rfl rfl ?_
    refine wl_end ?_
    refine w_seq ?_
    refine w_cond rfl (fun hb => ?_) fun hb => ?_
    · skip
      refine w_skip ?_
      refine w_seq ?_
      refine w_block ?_
      refine w_seq ?_
      refine w_region (by kernel_rfl) ?_
      have hi2 : i < 2 := by simp at hb; omega
      have hcell : [iV a, iV b][i * 1]? = some (iV (if i = 0 then a else b)) := by
        rcases i with _ | _ | i
        · rfl
        · rfl
        · omega
      refine o_indexAddr (zz := 1) gn rfl rfl rfl (by kernel_rfl) (by omega) (by omega) ?_
      refine o_load gn rfl rfl (by kernel_rfl) hg (by simpa using hcell) ?_
      refine o_assign gn rfl rfl ?_
      refine wl_end ?_
      refine w_seq ?_
      refine w_region (by kernel_rfl) ?_
      refine o_move gn rfl rfl ?_
      refine o_move gn rfl rfl ?_
      refine o_nei gn rfl rfl rfl ?_
      refine wl_end ?_
      refine w_cond rfl (fun hb => ?_) fun hb => ?_
      · skip
        refine w_seq ?_
        refine w_region (by kernel_rfl) ?_
        refine o_move gn rfl rfl ?_
        refine o_assign gn rfl rfl ?_
        refine wl_end ?_
        refine w_ret ?_
        refine ⟨.inl rfl, _, rfl, ?_⟩
        simp at hb
        have : orI a b = if i = 0 then a else b := by
          unfold orI
          by_cases e : i = 0
          · rw [if_pos e] at hb ⊢
            rw [if_pos hb]
          · rw [if_neg e] at hb ⊢
            rw [if_neg (by simp [ha (by omega)])]
        exact ⟨by rw [this]; rfl, rfl⟩
      · skip
        refine w_skip ?_
        refine w_region (by kernel_rfl) ?_
        refine o_add gn rfl rfl rfl (by omega) (by omega) ?_
        refine o_move gn rfl rfl ?_
        refine wl_end ?_
        exact ⟨2 - (i + 1), by omega, _, (by repeat (first | exact trivial | refine ⟨rfl, ?_⟩)), ⟨i + 1, by omega, rfl, rfl, fun _ => by
          by_cases e : i = 0
          · simpa [e] using hb
          · exact ha (by omega), fun hq => by
          have e : i ≠ 0 := by omega
          simpa [e] using hb, rfl⟩⟩
    · skip
      refine w_exit ?_
      refine thn_exit ?_
      refine rnd_exit ?_
      refine blk_eq ?_
      refine w_seq ?_
      refine w_region (by kernel_rfl) ?_
      refine o_move gn rfl rfl ?_
      refine o_assign gn rfl rfl ?_
      refine wl_end ?_
      refine w_ret ?_
      refine ⟨.inl rfl, _, rfl, ?_⟩
      have hi2 : i = 2 := by simp at hb; omega
      have e1 := ha (by omega)
      have e2 := hb2 (by omega)
      exact ⟨by rw [e1, e2]; rfl, rfl⟩
end

end Go.Proofs.Ytfjnnbdgehaeaaa.N0


namespace Go.Proofs.Ytfjnnbdgehaeaaa.N0
open Go.X

section
variable {h : Hp} {a b : Int} {x y : Ent}

theorem boxes {c1 c2 : List Value} {e : TypeId} : ((h.alloc (.cells c1 e 0)).alloc (.cells c2 e 0)).get h.n = some (.cells c1 e 0) ∧ ((h.alloc (.cells c1 e 0)).alloc (.cells c2 e 0)).get (h.n + 1) = some (.cells c2 e 0) ∧
    Ext h ((h.alloc (.cells c1 e 0)).alloc (.cells c2 e 0)) :=
  ⟨by rw [Hp.get_alloc, if_neg (by rw [Hp.n_alloc]; omega)]; exact Hp.get_alloc_self _ _, by rw [Hp.get_alloc, if_pos (Hp.n_alloc _ _)], (Ext.alloc _ _).trans (Ext.alloc _ _)⟩

theorem bef_eq : bef x y = if x.f != y.f then x.f else if x.f then decide (y.q < x.q) else decide (orI (cmpI x.d y.d) (cmpI x.q y.q) < 0) := by
  unfold bef
  split
  · rfl
  · split
    · rfl
    · unfold orI cmpI
      rw [decide_eq_decide]
      by_cases h1 : x.d < y.d
      · simp [h1]
      · by_cases h2 : y.d < x.d
        · simp [h1, h2]
          omega
        · have : x.d = y.d := by omega
          simp only [this, Int.lt_irrefl, if_false, false_or, true_and, ne_eq, not_true_eq_false]
          by_cases h3 : x.q < y.q
          · simp [h3]
          · by_cases h4 : y.q < x.q
            · simp [h3, h4]
            · simp [h3, h4]

/-- before -/
theorem c39 : C queE0 39 [aggE x, aggE y] h fun v h' => v = .bool (bef x y) ∧ Ext h h' := by
  refine c_enter (fu := Try.f39) (by kernel_rfl) rfl ?_
  refine w_seq ?_
  refine w_region (by kernel_rfl) ?_
  refine o_box gn rfl rfl ?_
  refine o_box gn rfl rfl ?_
  refine wl_at (fun h2 => h2.get h.n = some (.cells (encE x) 61 0) ∧ h2.get (h.n + 1) = some (.cells (encE y) 61 0) ∧ Ext h h2) boxes fun h2 ⟨gx, gy, x2⟩ => ?_
  rw [Hp.n_alloc]
  refine o_assign gn rfl rfl ?_
  refine wl_end ?_
  refine w_seq ?_
  refine w_block ?_
  refine w_seq ?_
  refine w_region (by kernel_rfl) ?_
  refine o_fieldAddr (off := 0) gn rfl rfl (by kernel_rfl) ?_
  refine o_fieldAddr (off := 1) gn rfl rfl (by kernel_rfl) ?_
  refine o_load gn rfl rfl (by kernel_rfl) (by assumption) rfl ?_
  refine o_fieldAddr (off := 0) gn rfl rfl (by kernel_rfl) ?_
  refine o_fieldAddr (off := 1) gn rfl rfl (by kernel_rfl) ?_
  refine o_load gn rfl rfl (by kernel_rfl) (by assumption) rfl ?_
  refine o_neb gn rfl rfl rfl (by kernel_rfl) ?_
  refine o_assign gn rfl rfl ?_
  refine wl_end ?_
  refine w_cond rfl (fun hb => ?_) fun hb => ?_
  · skip
    refine w_seq ?_
    refine w_region (by kernel_rfl) ?_
    refine o_fieldAddr (off := 0) gn rfl rfl (by kernel_rfl) ?_
    refine o_fieldAddr (off := 1) gn rfl rfl (by kernel_rfl) ?_
    refine o_load gn rfl rfl (by kernel_rfl) (by assumption) rfl ?_
    refine o_assign gn rfl rfl ?_
    refine wl_end ?_
    refine w_ret ?_
    refine ⟨.inl rfl, _, rfl, ?_⟩
    exact ⟨by rw [bef, if_pos (show (x.f != y.f) = true from hb)]; rfl, x2⟩
  · skip
    refine w_seq ?_
    refine w_region (by kernel_rfl) ?_
    refine o_fieldAddr (off := 0) gn rfl rfl (by kernel_rfl) ?_
    refine o_fieldAddr (off := 1) gn rfl rfl (by kernel_rfl) ?_
    refine o_load gn rfl rfl (by kernel_rfl) (by assumption) rfl ?_
    refine o_assign gn rfl rfl ?_
    refine wl_end ?_
    refine w_cond rfl (fun hb => ?_) fun hb => ?_
    · skip
      refine w_seq ?_
      refine w_region (by kernel_rfl) ?_
      refine o_fieldAddr (off := 3) gn rfl rfl (by kernel_rfl) ?_
      refine o_load gn rfl rfl (by kernel_rfl) (by assumption) rfl ?_
      refine o_fieldAddr (off := 3) gn rfl rfl (by kernel_rfl) ?_
      refine o_load gn rfl rfl (by kernel_rfl) (by assumption) rfl ?_
      refine o_gtr gn rfl rfl rfl ?_
      refine o_assign gn rfl rfl ?_
      refine wl_end ?_
      refine w_ret ?_
      refine ⟨.inl rfl, _, rfl, ?_⟩
      rename_i hb0
      exact ⟨by rw [bef, if_neg (fun e => by rw [show (x.f != y.f) = false from hb0] at e; cases e), if_pos hb]; rfl, x2⟩
    · skip
      refine w_skip ?_
      refine w_seq ?_
      refine w_draw [(0, []), (1, []), (2, []), (3, []), (4, []), (5, []), (7, []), (8, []), (9, []), (10, []), (6, [8, 10]), (11, []), (12, []), (13, []), (14, []), (15, [])] (by kernel_rfl) (by kernel_rfl) (by kernel_rfl) (by kernel_rfl) ?_
      refine o_fieldAddr (off := 0) gn rfl rfl (by kernel_rfl) ?_
      refine o_fieldAddr (off := 2) gn rfl rfl (by kernel_rfl) ?_
      refine o_load gn rfl rfl (by kernel_rfl) (by assumption) rfl ?_
      refine o_fieldAddr (off := 0) gn rfl rfl (by kernel_rfl) ?_
      refine o_fieldAddr (off := 2) gn rfl rfl (by kernel_rfl) ?_
      refine o_load gn rfl rfl (by kernel_rfl) (by assumption) rfl ?_
      refine o_fieldAddr (off := 3) gn rfl rfl (by kernel_rfl) ?_
      refine o_load gn rfl rfl (by kernel_rfl) (by assumption) rfl ?_
      refine o_fieldAddr (off := 3) gn rfl rfl (by kernel_rfl) ?_
      refine o_load gn rfl rfl (by kernel_rfl) (by assumption) rfl ?_
      refine o_call [_, _] gn rfl rfl (by kernel_rfl) rfl (c_pure (c47) ⟨(ag1 (ag_load gn rfl (by kernel_rfl) (by assumption) rfl rfl same_int) (ag1 (ag_load gn rfl (by kernel_rfl) (by assumption) rfl rfl same_int) ag0)), ?_⟩)
      refine o_call [_, _] gn rfl rfl (by kernel_rfl) rfl (c_pure (c48) ⟨ag0, ?_⟩)
      refine o_buildSlice (e := 3) (z := 0) (zv := .int .i64 0) [(0, _), (1, _)] gn rfl (by kernel_rfl) (by kernel_rfl) (by kernel_rfl) (by kernel_rfl) rfl rfl ?_
      refine o_call [_] gn rfl rfl (by kernel_rfl) rfl (c_pure (c46 (Hp.get_alloc_self _ _)) ⟨ag0, ?_⟩)
      refine o_lss gn rfl rfl rfl ?_
      refine o_assign gn rfl rfl ?_
      refine wl_end ?_
      refine w_ret ?_
      refine ⟨.inl rfl, _, rfl, ?_⟩
      rename_i hb0
      refine ⟨?_, x2.trans (Ext.alloc _ _)⟩
      rw [bef_eq, if_neg (fun e => by rw [show (x.f != y.f) = false from hb0] at e; cases e), if_neg (by simp [hb])]; rfl

/-- The closure of All. -/
theorem c42 : C queE0 42 [aggE x, aggE y] h fun v _ => v = iV (if bef x y then -1 else 1) := by
  refine c_enter (fu := Try.f42) (by kernel_rfl) rfl ?_
  refine w_seq ?_
  refine w_region (by kernel_rfl) ?_
  refine o_box gn rfl rfl ?_
  refine o_box gn rfl rfl ?_
  refine wl_at (fun h2 => h2.get h.n = some (.cells (encE x) 61 0) ∧ h2.get (h.n + 1) = some (.cells (encE y) 61 0) ∧ Ext h h2) boxes fun h2 ⟨gx, gy, x2⟩ => ?_
  rw [Hp.n_alloc]
  refine o_assign gn rfl rfl ?_
  refine wl_end ?_
  refine w_seq ?_
  refine w_seq ?_
  refine w_region (by kernel_rfl) ?_
  refine o_loadA (n := 4) gn rfl rfl (by kernel_rfl) (by kernel_rfl) (by assumption) (by simp [encE]) ?_
  refine o_loadA (n := 4) gn rfl rfl (by kernel_rfl) (by kernel_rfl) (by assumption) (by simp [encE]) ?_
  refine o_call [_, _] gn rfl rfl (by kernel_rfl) rfl (C.mono (c39 (x := x) (y := y)) ?_)
  rintro v h' ⟨rfl, x3⟩
  refine ⟨ag0, ?_⟩
  refine wl_end ?_
  refine w_cond rfl (fun hb => ?_) fun hb => ?_
  · skip
    refine w_seq ?_
    refine w_region (by kernel_rfl) ?_
    refine o_assign gn rfl rfl ?_
    refine wl_end ?_
    refine w_ret ?_
    refine ⟨.inl rfl, _, rfl, ?_⟩
    exact by rw [if_pos hb]; rfl
  · skip
    refine w_skip ?_
    refine w_seq ?_
    refine w_region (by kernel_rfl) ?_
    refine o_assign gn rfl rfl ?_
    refine wl_end ?_
    refine w_ret ?_
    refine ⟨.inl rfl, _, rfl, ?_⟩
    exact by rw [if_neg (by simp [hb])]; rfl
end

end Go.Proofs.Ytfjnnbdgehaeaaa.N0


namespace Go.Proofs.Ytfjnnbdgehaeaaa
open Go.X Go.RowKit Go.Sort Go.Shelf

instance : Inhabited Ent := ⟨⟨0, false, 0, 0⟩⟩

/-! The order -/

theorem bef_iff (x y : Ent) : bef x y = true ↔ (x.f = true ∧ y.f = false) ∨ (x.f = true ∧ y.f = true ∧ y.q < x.q) ∨ (x.f = false ∧ y.f = false ∧ (x.d < y.d ∨ x.d = y.d ∧ x.q < y.q)) := by
  unfold bef
  rcases x with ⟨_, f, _, _⟩
  rcases y with ⟨_, g, _, _⟩
  cases f <;> cases g <;> simp
theorem bef_no (x y : Ent) : bef x y = false ↔ ¬ ((x.f = true ∧ y.f = false) ∨ (x.f = true ∧ y.f = true ∧ y.q < x.q) ∨ (x.f = false ∧ y.f = false ∧ (x.d < y.d ∨ x.d = y.d ∧ x.q < y.q))) := by
  rw [← bef_iff]; simp
theorem bef_irr (x : Ent) : bef x x = false := by rw [bef_no]; rcases x with ⟨_, f, _, _⟩; cases f <;> simp
theorem bef_trans {x y z : Ent} (h1 : bef x y = true) (h2 : bef y z = true) : bef x z = true := by
  rw [bef_iff] at *
  rcases x with ⟨_, f, _, _⟩
  rcases y with ⟨_, g, _, _⟩
  rcases z with ⟨_, k, _, _⟩
  cases f <;> cases g <;> cases k <;> simp at * <;> omega
theorem bef_ntrans {x y z : Ent} (h1 : bef x y = false) (h2 : bef y z = false) : bef x z = false := by
  rw [bef_no] at *
  rcases x with ⟨_, f, _, _⟩
  rcases y with ⟨_, g, _, _⟩
  rcases z with ⟨_, k, _, _⟩
  cases f <;> cases g <;> cases k <;> simp at * <;> omega
theorem bef_asym {x y : Ent} (h : bef x y = true) : bef y x = false := by
  cases e : bef y x with
  | false => rfl
  | true => rw [← bef_irr x, bef_trans h e]
theorem bef_tri {x y : Ent} (h : x.q ≠ y.q) : bef x y = true ∨ bef y x = true := by
  rw [bef_iff, bef_iff]
  rcases x with ⟨_, f, _, _⟩
  rcases y with ⟨_, g, _, _⟩
  cases f <;> cases g <;> simp at * <;> omega

def cfE (x y : Ent) : Int := if bef x y then -1 else 1
theorem ltOf_cfE : ltOf cfE = bef := by
  funext x y
  unfold ltOf cfE
  cases bef x y <;> simp

theorem cmp_lays (blk off size : Nat) (w : World) : CmpLays Try.prog 42 #[] encE 4 cfE blk off size w := fun m os dk _ x y => by
  refine open_drawn queE0 que_mixed rfl (f := 42) (args := [aggE x, aggE y]) (v0 := iV (cfE x y)) rfl ?_ (N0.c42 (x := x) (y := y))
  exact ⟨rfl, fun i v u h1 h2 => by
    match i with
    | 0 => cases h1; cases h2; exact plain_rel _ 20 _ rfl
    | 1 => cases h1; cases h2; exact plain_rel _ 20 _ rfl⟩

theorem que_sort : SortFn Try.prog 41 42 encE 4 bef where
  yes := fun blk off cap d w hH hb hsz => by
    have := AnyQ.slices_SortFunc Try.sortFn 4 Try.isAgg61 Try.sizeOf61 encE (fun _ => rfl) (fun x v hv => by simp [encE] at hv; rcases hv with rfl | rfl | rfl | rfl <;> rfl) cfE
      ⟨fun x => by rw [ltOf_cfE]; exact bef_irr x, fun x y z => by rw [ltOf_cfE]; exact bef_trans, fun x y z => by rw [ltOf_cfE]; exact bef_ntrans⟩ 42 #[] blk off cap d w (enters_of Try.func42 (by kernel_rfl) rfl) (cmp_lays blk off d.size w) hH hb hsz
    rw [ltOf_cfE] at this
    exact this
  no := fun p cap w => AnyF.slices_SortFunc_none { Try.sortFn with } p cap _ w

/-! The sorted list -/

def insB (x : Ent) : List Ent → List Ent
  | [] => [x]
  | y :: r => if bef y x then y :: insB x r else x :: y :: r
def sortB : List Ent → List Ent
  | [] => []
  | x :: r => insB x (sortB r)
theorem insB_perm (x : Ent) : ∀ l : List Ent, (insB x l).Perm (x :: l)
  | [] => .refl _
  | y :: r => by
    unfold insB
    split
    · exact ((insB_perm x r).cons y).trans (.swap x y r)
    · exact .refl _
theorem sortB_perm : ∀ l : List Ent, (sortB l).Perm l
  | [] => .refl _
  | x :: r => (insB_perm x (sortB r)).trans ((sortB_perm r).cons x)
abbrev qs (L : List Ent) : List Int := L.map (·.q)
theorem insB_up (x : Ent) : ∀ l : List Ent, (∀ y, y ∈ l → x.q ≠ y.q) → l.Pairwise (fun x y => bef x y = true) → (insB x l).Pairwise fun x y => bef x y = true
  | [], _, _ => by simp [insB]
  | y :: r, hd, h => by
    unfold insB
    split
    · rename_i hb
      refine .cons (fun z hz => ?_) (insB_up x r (fun z hz => hd z (by simp [hz])) h.of_cons)
      rcases List.mem_cons.1 ((insB_perm x r).mem_iff.1 hz) with rfl | hz
      · exact hb
      · exact List.rel_of_pairwise_cons h hz
    · rename_i hb
      have hxy : bef x y = true := (bef_tri (hd y (by simp))).resolve_right hb
      refine .cons (fun z hz => ?_) h
      rcases List.mem_cons.1 hz with rfl | hz
      · exact hxy
      · exact bef_trans hxy (List.rel_of_pairwise_cons h hz)
theorem sortB_up : ∀ l : List Ent, (qs l).Nodup → (sortB l).Pairwise fun x y => bef x y = true
  | [], _ => .nil
  | x :: r, h => by
    simp only [qs, List.map_cons, List.nodup_cons] at h
    refine insB_up x _ (fun y hy e => h.1 ?_) (sortB_up r h.2)
    rw [e]
    exact List.mem_map.2 ⟨y, (sortB_perm r).mem_iff.1 hy, rfl⟩
theorem up_uniq {l l' : List Ent} (p : l.Perm l') (h : l.Pairwise fun x y => bef x y = true) (h' : l'.Pairwise fun x y => bef x y = true) : l = l' :=
  p.eq_of_pairwise (le := fun a b => bef a b = true) (fun a b _ _ h1 h2 => by rw [bef_asym h1] at h2; cases h2) h h'
theorem up_of {l : List Ent} (hn : (qs l).Nodup) (h : l.Pairwise fun x y => bef y x = false) : l.Pairwise fun x y => bef x y = true := by
  have hn2 : l.Pairwise fun x y => x.q ≠ y.q := by
    rw [List.Nodup, qs, List.pairwise_map] at hn; exact hn
  exact (h.and hn2).imp fun ⟨h1, h2⟩ => (bef_tri h2).resolve_right (by rw [h1]; simp)
theorem sortB_perm_eq {l l' : List Ent} (p : l.Perm l') (hn : (qs l).Nodup) : sortB l = sortB l' := by
  have hn' : (qs l').Nodup := (p.map _).nodup_iff.1 hn
  exact up_uniq ((sortB_perm l).trans (p.trans (sortB_perm l').symm)) (sortB_up l hn) (sortB_up l' hn')

def decE : List Value → Option (List Ent)
  | [] => some []
  | .int .i64 t :: .bool f :: .int .i64 d :: .int .i64 q :: r => (match decE r with
    | some L => some (⟨t, f, d, q⟩ :: L)
    | none => none)
  | _ => none
theorem decE_enc : ∀ L : List Ent, decE (L.flatMap encE) = some L
  | [] => rfl
  | x :: r => by simp only [List.flatMap_cons, encE, List.cons_append, List.nil_append, decE]; rw [decE_enc r]
theorem decE_some : ∀ (cs : List Value) (L : List Ent), decE cs = some L → cs = L.flatMap encE
  | cs, L, h => by
    unfold decE at h
    split at h
    · cases h; rfl
    · rename_i t f d q r
      split at h
      · rename_i L' hL
        cases h
        rw [decE_some r L' hL]
        rfl
      · cases h
    · cases h

def srtE (n : Nat) (cs : List Value) : Option (List Value) := match decE cs with
  | some L => cond (Nat.beq L.length n && Nat.blt n 4611686018427387904 && freshI (qs L)) (some ((sortB L).flatMap encE)) none
  | none => none

theorem sort_law : SmLaw Try.prog 41 (sortFX 42 4 srtE) :=
  sortF_law (enc := encE) (lt := bef) (fun _ => rfl) (fun x v hv => by simp [encE] at hv; rcases hv with rfl | rfl | rfl | rfl <;> exact ⟨rfl, rfl⟩) (fun n cs cs' h => by
    unfold srtE at h
    split at h
    · rename_i L hL
      obtain ⟨hc, h⟩ := cond_some h
      simp only [Bool.and_eq_true, beq_iff, blt_iff, freshI_iff] at hc
      cases h
      refine ⟨L, hc.1.1, hc.1.2, decE_some cs L hL, fun L' p hp => ?_⟩
      have hn : (qs L').Nodup := (p.map _).nodup_iff.2 hc.2
      rw [up_uniq ((sortB_perm L).trans p.symm) (sortB_up L hc.2) (up_of hn hp)]
    · cases h) que_sort

theorem srtE_eq {L : List Ent} (hn : (qs L).Nodup) (hl : L.length < 4611686018427387904) : srtE L.length (L.flatMap encE) = some ((sortB L).flatMap encE) := by
  unfold srtE
  rw [decE_enc]
  have e1 : Nat.blt L.length 4611686018427387904 = true := (blt_iff _ _).2 hl
  have e2 : freshI (qs L) = true := (freshI_iff _).2 hn
  simp only [Nat.beq_refl, e1, e2, Bool.and_true, cond_true]

noncomputable def queE1 : Env := envSm queE0 41 (sortFX 42 4 srtE) sort_law
theorem que_known : truthX queE0 8 60000 = true := by kernel_rfl
noncomputable def queE : Env := envKnown queE1 8 (truth_below queE0 que_mixed que_known)

end Go.Proofs.Ytfjnnbdgehaeaaa

namespace Go.Proofs.Ytfjnnbdgehaeaaa
open Go.X

abbrev enE (L : List Ent) : List Value := L.flatMap encE
theorem enE_len (L : List Ent) : (enE L).length = L.length * 4 := flat_len (enc := encE) (k := 4) (fun _ => rfl) L
theorem enE_all (L : List Ent) : (enE L).all cellV = true := by simp [enE, encE, List.all_eq_true, cellV]
theorem enE_app (L K : List Ent) : enE (L ++ K) = enE L ++ enE K := by simp [enE]
theorem enE_take : ∀ (L : List Ent) (k : Nat), (enE L).take (k * 4) = enE (L.take k)
  | [], k => by simp
  | x :: r, 0 => by simp
  | x :: r, k + 1 => by
    have e : enE (x :: r) = encE x ++ enE r := rfl
    rw [e, show (k + 1) * 4 = (encE x).length + k * 4 by simp [encE]; omega, List.take_length_add_append, enE_take r k]; rfl
theorem enE_drop : ∀ (L : List Ent) (k : Nat), (enE L).drop (k * 4) = enE (L.drop k)
  | [], k => by simp
  | x :: r, 0 => by simp
  | x :: r, k + 1 => by
    have e : enE (x :: r) = encE x ++ enE r := rfl
    rw [e, show (k + 1) * 4 = (encE x).length + k * 4 by simp [encE]; omega, List.drop_length_add_append, enE_drop r k]; rfl
theorem enE_cut {L : List Ent} {i : Nat} (h : i < L.length) (rest : List Value) : ((enE L ++ rest).drop (i * 4)).take 4 = encE L[i]! := by
  have hl := enE_len L
  rw [List.drop_append_of_le_length (by omega), enE_drop, List.drop_eq_getElem_cons h]
  have : L[i]! = L[i] := by simp [h]
  rw [this]; rfl
theorem enE_set {L : List Ent} {i : Nat} (h : i < L.length) (rest : List Value) (y : Ent) : (enE L ++ rest).take (i * 4) ++ encE y ++ (enE L ++ rest).drop (i * 4 + 4) = enE (L.set i y) ++ rest := by
  have hl := enE_len L
  rw [List.take_append_of_le_length (by omega), List.drop_append_of_le_length (by omega), enE_take, show i * 4 + 4 = (i + 1) * 4 by omega, enE_drop, List.set_eq_take_append_cons_drop, if_pos h, enE_app, List.append_assoc, List.append_assoc]
  simp [enE]
theorem enE_cell {L : List Ent} {i : Nat} (h : i < L.length) (rest : List Value) : (enE L ++ rest)[i * 4]? = some (iV L[i]!.t) ∧ (enE L ++ rest)[i * 4 + 1]? = some (.bool L[i]!.f) ∧ (enE L ++ rest)[i * 4 + 2]? = some (iV L[i]!.d) ∧ (enE L ++ rest)[i * 4 + 3]? = some (iV L[i]!.q) := by
  have e := enE_cut h rest
  have g : ∀ j, j < 4 → (enE L ++ rest)[i * 4 + j]? = (encE L[i]!)[j]? := fun j hj => by
    rw [← e, List.getElem?_take, if_pos hj, List.getElem?_drop]
  exact ⟨g 0 (by omega), g 1 (by omega), g 2 (by omega), g 3 (by omega)⟩

/-- Two places change their entries. -/
def swapL (H : List Ent) (i j : Nat) : List Ent := (H.set i H[j]!).set j H[i]!
@[simp] theorem swapL_len (H : List Ent) (i j : Nat) : (swapL H i j).length = H.length := by simp [swapL]
theorem swapL_get {H : List Ent} {i j : Nat} (hi : i < H.length) (hj : j < H.length) (k : Nat) : (swapL H i j)[k]! = if k = j then H[i]! else if k = i then H[j]! else H[k]! := by
  unfold swapL
  by_cases h1 : k = j
  · subst h1; simp [hj]
  · rw [if_neg h1]
    by_cases h2 : k = i
    · subst h2
      rw [if_pos rfl, getElem!_def, List.getElem?_set_ne (fun e => h1 e.symm), List.getElem?_set_self hi]
    · rw [if_neg h2, getElem!_def, List.getElem?_set_ne (fun e => h1 e.symm), List.getElem?_set_ne (fun e => h2 e.symm), ← getElem!_def]
theorem swapL_perm {H : List Ent} {i j : Nat} (hi : i < H.length) (hj : j < H.length) : (swapL H i j).Perm H := by
  unfold swapL
  have e1 : H[j]! = H[j] := by simp [hj]
  have e2 : H[i]! = H[i] := by simp [hi]
  rw [e1, e2]
  exact List.set_set_perm hi hj

/-- An entry moves up. -/
def upF (H : List Ent) (i : Nat) : List Ent :=
  if 0 < i ∧ bef H[i]! H[(i - 1) / 2]! = true then upF (swapL H i ((i - 1) / 2)) ((i - 1) / 2) else H
termination_by i
decreasing_by omega

/-- Which of an entry and both behind it comes first. -/
def childA (H : List Ent) (i : Nat) : Nat := if 2 * i + 1 < H.length ∧ bef H[2 * i + 1]! H[i]! = true then 2 * i + 1 else i
def childF (H : List Ent) (i : Nat) : Nat := if 2 * i + 2 < H.length ∧ bef H[2 * i + 2]! H[childA H i]! = true then 2 * i + 2 else childA H i
theorem childF_cases (H : List Ent) (i : Nat) : childF H i = i ∨ (i < childF H i ∧ childF H i < H.length) := by
  unfold childF
  split
  · right; omega
  · unfold childA
    split
    · right; omega
    · left; rfl

/-- An entry moves down. -/
def downF (H : List Ent) (i : Nat) : List Ent :=
  if _h : childF H i = i then H else downF (swapL H i (childF H i)) (childF H i)
termination_by H.length - i
decreasing_by
  have := childF_cases H i
  rw [swapL_len]
  omega

end Go.Proofs.Ytfjnnbdgehaeaaa

namespace Go.Proofs.Ytfjnnbdgehaeaaa
open Go.X

section
variable {h : Hp} {a b : Int} {x y : Ent}

theorem c51 : CP queE 51 [iV a] h (.bool false) := by
  refine c_enter (fu := Try.f51) (by kernel_rfl) rfl ?_
  refine w_seq ?_
  refine w_region (by kernel_rfl) ?_
  refine o_assign gn rfl rfl ?_
  refine wl_end ?_
  refine w_seq ?_
  refine w_region (by kernel_rfl) ?_
  refine o_move gn rfl rfl ?_
  refine o_move gn rfl rfl ?_
  refine o_nei gn rfl rfl rfl ?_
  refine o_assign gn rfl rfl ?_
  refine wl_end ?_
  refine w_ret ?_
  refine ⟨.inl rfl, _, rfl, ?_⟩
  exact ⟨by simp [oneOf], rfl⟩
theorem c52 : CP queE 52 [iV a] h (.bool false) := by
  refine c_enter (fu := Try.f52) (by kernel_rfl) rfl ?_
  refine w_seq ?_
  refine w_region (by kernel_rfl) ?_
  refine o_assign gn rfl rfl ?_
  refine wl_end ?_
  refine w_seq ?_
  refine w_region (by kernel_rfl) ?_
  refine o_move gn rfl rfl ?_
  refine o_move gn rfl rfl ?_
  refine o_nei gn rfl rfl rfl ?_
  refine o_assign gn rfl rfl ?_
  refine wl_end ?_
  refine w_ret ?_
  refine ⟨.inl rfl, _, rfl, ?_⟩
  exact ⟨by simp [oneOf], rfl⟩

/-- cmp.Compare at int64 -/
theorem c47 : CP queE 47 [iV a, iV b] h (iV (cmpI a b)) := by
  refine c_enter (fu := Try.f47) (by kernel_rfl) rfl ?_
  refine w_seq ?_
  refine w_region (by kernel_rfl) ?_
  refine o_assign gn rfl rfl ?_
  refine wl_end ?_
  refine w_seq ?_
  refine w_region (by kernel_rfl) ?_
  refine o_move gn rfl rfl ?_
  refine o_call [_] gn rfl rfl (by kernel_rfl) rfl (c_pure (c51) ⟨ag0, ?_⟩)
  refine o_assign gn rfl rfl ?_
  refine wl_end ?_
  refine w_seq ?_
  refine w_region (by kernel_rfl) ?_
  refine o_move gn rfl rfl ?_
  refine o_call [_] gn rfl rfl (by kernel_rfl) rfl (c_pure (c51) ⟨ag0, ?_⟩)
  refine o_assign gn rfl rfl ?_
  refine wl_end ?_
  refine w_seq ?_
  refine w_seq ?_
  refine w_region (by kernel_rfl) ?_
  refine o_move gn rfl rfl ?_
  refine wl_end ?_
  refine w_cond rfl (fun hb => ?_) fun hb => ?_
  · skip
    cases hb
  · skip
    refine w_skip ?_
    refine w_seq ?_
    refine w_seq ?_
    refine w_region (by kernel_rfl) ?_
    refine o_move gn rfl rfl ?_
    refine wl_end ?_
    refine w_cond rfl (fun hb => ?_) fun hb => ?_
    · skip
      cases hb
    · skip
      refine w_skip ?_
      refine w_seq ?_
      refine w_seq ?_
      refine w_region (by kernel_rfl) ?_
      refine o_move gn rfl rfl ?_
      refine o_move gn rfl rfl ?_
      refine o_lss gn rfl rfl rfl ?_
      refine wl_end ?_
      refine w_cond rfl (fun hb => ?_) fun hb => ?_
      · skip
        refine w_seq ?_
        refine w_region (by kernel_rfl) ?_
        refine o_assign gn rfl rfl ?_
        refine wl_end ?_
        refine w_ret ?_
        refine ⟨.inl rfl, _, rfl, ?_⟩
        simp at hb
        exact ⟨by rw [cmpI, if_pos hb]; rfl, rfl⟩
      · skip
        refine w_skip ?_
        refine w_seq ?_
        refine w_seq ?_
        refine w_region (by kernel_rfl) ?_
        refine o_move gn rfl rfl ?_
        refine o_move gn rfl rfl ?_
        refine o_gtr gn rfl rfl rfl ?_
        refine wl_end ?_
        refine w_cond rfl (fun hb => ?_) fun hb => ?_
        · skip
          refine w_seq ?_
          refine w_region (by kernel_rfl) ?_
          refine o_assign gn rfl rfl ?_
          refine wl_end ?_
          refine w_ret ?_
          refine ⟨.inl rfl, _, rfl, ?_⟩
          simp at hb
          rename_i hb0
          simp at hb0
          exact ⟨by rw [cmpI, if_neg (by omega), if_pos hb]; rfl, rfl⟩
        · skip
          refine w_skip ?_
          refine w_seq ?_
          refine w_region (by kernel_rfl) ?_
          refine o_assign gn rfl rfl ?_
          refine wl_end ?_
          refine w_ret ?_
          refine ⟨.inl rfl, _, rfl, ?_⟩
          simp at hb
          rename_i hb0
          simp at hb0
          exact ⟨by rw [cmpI, if_neg (by omega), if_neg (by omega)]; rfl, rfl⟩
/-- cmp.Compare at int -/
theorem c48 : CP queE 48 [iV a, iV b] h (iV (cmpI a b)) := by
  refine c_enter (fu := Try.f48) (by kernel_rfl) rfl ?_
  refine w_seq ?_
  refine w_region (by kernel_rfl) ?_
  refine o_assign gn rfl rfl ?_
  refine wl_end ?_
  refine w_seq ?_
  refine w_region (by kernel_rfl) ?_
  refine o_move gn rfl rfl ?_
  refine o_call [_] gn rfl rfl (by kernel_rfl) rfl (c_pure (c52) ⟨ag0, ?_⟩)
  refine o_assign gn rfl rfl ?_
  refine wl_end ?_
  refine w_seq ?_
  refine w_region (by kernel_rfl) ?_
  refine o_move gn rfl rfl ?_
  refine o_call [_] gn rfl rfl (by kernel_rfl) rfl (c_pure (c52) ⟨ag0, ?_⟩)
  refine o_assign gn rfl rfl ?_
  refine wl_end ?_
  refine w_seq ?_
  refine w_seq ?_
  refine w_region (by kernel_rfl) ?_
  refine o_move gn rfl rfl ?_
  refine wl_end ?_
  refine w_cond rfl (fun hb => ?_) fun hb => ?_
  · skip
    cases hb
  · skip
    refine w_skip ?_
    refine w_seq ?_
    refine w_seq ?_
    refine w_region (by kernel_rfl) ?_
    refine o_move gn rfl rfl ?_
    refine wl_end ?_
    refine w_cond rfl (fun hb => ?_) fun hb => ?_
    · skip
      cases hb
    · skip
      refine w_skip ?_
      refine w_seq ?_
      refine w_seq ?_
      refine w_region (by kernel_rfl) ?_
      refine o_move gn rfl rfl ?_
      refine o_move gn rfl rfl ?_
      refine o_lss gn rfl rfl rfl ?_
      refine wl_end ?_
      refine w_cond rfl (fun hb => ?_) fun hb => ?_
      · skip
        refine w_seq ?_
        refine w_region (by kernel_rfl) ?_
        refine o_assign gn rfl rfl ?_
        refine wl_end ?_
        refine w_ret ?_
        refine ⟨.inl rfl, _, rfl, ?_⟩
        simp at hb
        exact ⟨by rw [cmpI, if_pos hb]; rfl, rfl⟩
      · skip
        refine w_skip ?_
        refine w_seq ?_
        refine w_seq ?_
        refine w_region (by kernel_rfl) ?_
        refine o_move gn rfl rfl ?_
        refine o_move gn rfl rfl ?_
        refine o_gtr gn rfl rfl rfl ?_
        refine wl_end ?_
        refine w_cond rfl (fun hb => ?_) fun hb => ?_
        · skip
          refine w_seq ?_
          refine w_region (by kernel_rfl) ?_
          refine o_assign gn rfl rfl ?_
          refine wl_end ?_
          refine w_ret ?_
          refine ⟨.inl rfl, _, rfl, ?_⟩
          simp at hb
          rename_i hb0
          simp at hb0
          exact ⟨by rw [cmpI, if_neg (by omega), if_pos hb]; rfl, rfl⟩
        · skip
          refine w_skip ?_
          refine w_seq ?_
          refine w_region (by kernel_rfl) ?_
          refine o_assign gn rfl rfl ?_
          refine wl_end ?_
          refine w_ret ?_
          refine ⟨.inl rfl, _, rfl, ?_⟩
          simp at hb
          rename_i hb0
          simp at hb0
          exact ⟨by rw [cmpI, if_neg (by omega), if_neg (by omega)]; rfl, rfl⟩

/-- cmp.Or of two -/
theorem c46 {p m : Nat} {e : TypeId} (hg : h.get p = some (.cells [iV a, iV b] e m)) : CP queE 46 [.slice (some ⟨p, 0, none⟩) 2 2] h (iV (orI a b)) := by
  refine c_enter (fu := Try.f46) (by kernel_rfl) rfl ?_
  refine w_seq ?_
  refine w_region (by kernel_rfl) ?_
  refine o_assign gn rfl rfl ?_
  refine wl_end ?_
  refine w_seq ?_
  refine w_region (by kernel_rfl) ?_
  refine o_assign gn rfl rfl ?_
  refine wl_end ?_
  refine w_seq ?_
  refine w_seq ?_
  refine w_region (by kernel_rfl) ?_
  refine o_move gn rfl rfl ?_
  refine o_len gn rfl rfl (by kernel_rfl) ?_
  refine o_move gn rfl rfl ?_
  refine wl_end ?_
  refine w_block ?_
  refine w_weak [(3, iV 0), (6, .slice (some ⟨p, 0, none⟩) 2 2), (7, iV 2), (8, iV 0)] (by repeat (first | exact trivial | refine ⟨rfl, ?_⟩)) ?_
  refine w_loop (fun k l hh => ∃ i : Nat, i ≤ 2 ∧ k = 2 - i ∧ hh = h ∧ (1 ≤ i → a = 0) ∧ (2 ≤ i → b = 0) ∧ l = [(3, iV 0), (6, .slice (some ⟨p, 0, none⟩) 2 2), (7, iV 2), (8, iV (i : Nat))]) (n := 2) ?_ fun k l hh hI => ?_
  · exact ⟨0, by omega, by omega, rfl, by omega, by omega, rfl⟩
  · obtain ⟨i, hi, rfl, rfl, ha, hb2, rfl⟩ := hI
    refine w_seq ?_
    refine w_region (by kernel_rfl) ?_
    refine o_lss gn rfl rfl rfl ?_
    refine wl_end ?_
    refine w_seq ?_
    refine w_cond rfl (fun hb => ?_) fun hb => ?_
    · skip
      refine w_skip ?_
      refine w_seq ?_
      refine w_block ?_
      refine w_seq ?_
      refine w_region (by kernel_rfl) ?_
      have hi2 : i < 2 := by simp at hb; omega
      have hcell : [iV a, iV b][i * 1]? = some (iV (if i = 0 then a else b)) := by
        rcases i with _ | _ | i
        · rfl
        · rfl
        · omega
      refine o_indexAddr (zz := 1) gn rfl rfl rfl (by kernel_rfl) (by omega) (by omega) ?_
      refine o_load gn rfl rfl (by kernel_rfl) hg (by simpa using hcell) ?_
      refine o_assign gn rfl rfl ?_
      refine wl_end ?_
      refine w_seq ?_
      refine w_region (by kernel_rfl) ?_
      refine o_move gn rfl rfl ?_
      refine o_move gn rfl rfl ?_
      refine o_nei gn rfl rfl rfl ?_
      refine wl_end ?_
      refine w_cond rfl (fun hb => ?_) fun hb => ?_
      · skip
        refine w_seq ?_
        refine w_region (by kernel_rfl) ?_
        refine o_move gn rfl rfl ?_
        refine o_assign gn rfl rfl ?_
        refine wl_end ?_
        refine w_ret ?_
        refine ⟨.inl rfl, _, rfl, ?_⟩
        simp at hb
        have : orI a b = if i = 0 then a else b := by
          unfold orI
          by_cases e : i = 0
          · rw [if_pos e] at hb ⊢
            rw [if_pos hb]
          · rw [if_neg e] at hb ⊢
            rw [if_neg (by simp [ha (by omega)])]
        exact ⟨by rw [this]; rfl, rfl⟩
      · skip
        refine w_skip ?_
        refine w_region (by kernel_rfl) ?_
        refine o_add gn rfl rfl rfl (by omega) (by omega) ?_
        refine o_move gn rfl rfl ?_
        refine wl_end ?_
        exact ⟨2 - (i + 1), by omega, _, (by repeat (first | exact trivial | refine ⟨rfl, ?_⟩)), ⟨i + 1, by omega, rfl, rfl, fun _ => by
          by_cases e : i = 0
          · simpa [e] using hb
          · exact ha (by omega), fun hq => by
          have e : i ≠ 0 := by omega
          simpa [e] using hb, rfl⟩⟩
    · skip
      refine w_exit ?_
      refine thn_exit ?_
      refine rnd_exit ?_
      refine blk_eq ?_
      refine w_seq ?_
      refine w_region (by kernel_rfl) ?_
      refine o_move gn rfl rfl ?_
      refine o_assign gn rfl rfl ?_
      refine wl_end ?_
      refine w_ret ?_
      refine ⟨.inl rfl, _, rfl, ?_⟩
      have hi2 : i = 2 := by simp at hb; omega
      have e1 := ha (by omega)
      have e2 := hb2 (by omega)
      exact ⟨by rw [e1, e2]; rfl, rfl⟩
end

end Go.Proofs.Ytfjnnbdgehaeaaa


namespace Go.Proofs.Ytfjnnbdgehaeaaa
open Go.X

section
variable {h : Hp} {a b : Int} {x y : Ent}

theorem boxes {c1 c2 : List Value} {e : TypeId} : ((h.alloc (.cells c1 e 0)).alloc (.cells c2 e 0)).get h.n = some (.cells c1 e 0) ∧ ((h.alloc (.cells c1 e 0)).alloc (.cells c2 e 0)).get (h.n + 1) = some (.cells c2 e 0) ∧
    Ext h ((h.alloc (.cells c1 e 0)).alloc (.cells c2 e 0)) :=
  ⟨by rw [Hp.get_alloc, if_neg (by rw [Hp.n_alloc]; omega)]; exact Hp.get_alloc_self _ _, by rw [Hp.get_alloc, if_pos (Hp.n_alloc _ _)], (Ext.alloc _ _).trans (Ext.alloc _ _)⟩

theorem bef_eq : bef x y = if x.f != y.f then x.f else if x.f then decide (y.q < x.q) else decide (orI (cmpI x.d y.d) (cmpI x.q y.q) < 0) := by
  unfold bef
  split
  · rfl
  · split
    · rfl
    · unfold orI cmpI
      rw [decide_eq_decide]
      by_cases h1 : x.d < y.d
      · simp [h1]
      · by_cases h2 : y.d < x.d
        · simp [h1, h2]
          omega
        · have : x.d = y.d := by omega
          simp only [this, Int.lt_irrefl, if_false, false_or, true_and, ne_eq, not_true_eq_false]
          by_cases h3 : x.q < y.q
          · simp [h3]
          · by_cases h4 : y.q < x.q
            · simp [h3, h4]
            · simp [h3, h4]

/-- before -/
theorem c39 : C queE 39 [aggE x, aggE y] h fun v h' => v = .bool (bef x y) ∧ Ext h h' := by
  refine c_enter (fu := Try.f39) (by kernel_rfl) rfl ?_
  refine w_seq ?_
  refine w_region (by kernel_rfl) ?_
  refine o_box gn rfl rfl ?_
  refine o_box gn rfl rfl ?_
  refine wl_at (fun h2 => h2.get h.n = some (.cells (encE x) 61 0) ∧ h2.get (h.n + 1) = some (.cells (encE y) 61 0) ∧ Ext h h2) boxes fun h2 ⟨gx, gy, x2⟩ => ?_
  rw [Hp.n_alloc]
  refine o_assign gn rfl rfl ?_
  refine wl_end ?_
  refine w_seq ?_
  refine w_block ?_
  refine w_seq ?_
  refine w_region (by kernel_rfl) ?_
  refine o_fieldAddr (off := 0) gn rfl rfl (by kernel_rfl) ?_
  refine o_fieldAddr (off := 1) gn rfl rfl (by kernel_rfl) ?_
  refine o_load gn rfl rfl (by kernel_rfl) (by assumption) rfl ?_
  refine o_fieldAddr (off := 0) gn rfl rfl (by kernel_rfl) ?_
  refine o_fieldAddr (off := 1) gn rfl rfl (by kernel_rfl) ?_
  refine o_load gn rfl rfl (by kernel_rfl) (by assumption) rfl ?_
  refine o_neb gn rfl rfl rfl (by kernel_rfl) ?_
  refine o_assign gn rfl rfl ?_
  refine wl_end ?_
  refine w_cond rfl (fun hb => ?_) fun hb => ?_
  · skip
    refine w_seq ?_
    refine w_region (by kernel_rfl) ?_
    refine o_fieldAddr (off := 0) gn rfl rfl (by kernel_rfl) ?_
    refine o_fieldAddr (off := 1) gn rfl rfl (by kernel_rfl) ?_
    refine o_load gn rfl rfl (by kernel_rfl) (by assumption) rfl ?_
    refine o_assign gn rfl rfl ?_
    refine wl_end ?_
    refine w_ret ?_
    refine ⟨.inl rfl, _, rfl, ?_⟩
    exact ⟨by rw [bef, if_pos (show (x.f != y.f) = true from hb)]; rfl, x2⟩
  · skip
    refine w_seq ?_
    refine w_region (by kernel_rfl) ?_
    refine o_fieldAddr (off := 0) gn rfl rfl (by kernel_rfl) ?_
    refine o_fieldAddr (off := 1) gn rfl rfl (by kernel_rfl) ?_
    refine o_load gn rfl rfl (by kernel_rfl) (by assumption) rfl ?_
    refine o_assign gn rfl rfl ?_
    refine wl_end ?_
    refine w_cond rfl (fun hb => ?_) fun hb => ?_
    · skip
      refine w_seq ?_
      refine w_region (by kernel_rfl) ?_
      refine o_fieldAddr (off := 3) gn rfl rfl (by kernel_rfl) ?_
      refine o_load gn rfl rfl (by kernel_rfl) (by assumption) rfl ?_
      refine o_fieldAddr (off := 3) gn rfl rfl (by kernel_rfl) ?_
      refine o_load gn rfl rfl (by kernel_rfl) (by assumption) rfl ?_
      refine o_gtr gn rfl rfl rfl ?_
      refine o_assign gn rfl rfl ?_
      refine wl_end ?_
      refine w_ret ?_
      refine ⟨.inl rfl, _, rfl, ?_⟩
      rename_i hb0
      exact ⟨by rw [bef, if_neg (fun e => by rw [show (x.f != y.f) = false from hb0] at e; cases e), if_pos hb]; rfl, x2⟩
    · skip
      refine w_skip ?_
      refine w_seq ?_
      refine w_draw [(0, []), (1, []), (2, []), (3, []), (4, []), (5, []), (7, []), (8, []), (9, []), (10, []), (6, [8, 10]), (11, []), (12, []), (13, []), (14, []), (15, [])] (by kernel_rfl) (by kernel_rfl) (by kernel_rfl) (by kernel_rfl) ?_
      refine o_fieldAddr (off := 0) gn rfl rfl (by kernel_rfl) ?_
      refine o_fieldAddr (off := 2) gn rfl rfl (by kernel_rfl) ?_
      refine o_load gn rfl rfl (by kernel_rfl) (by assumption) rfl ?_
      refine o_fieldAddr (off := 0) gn rfl rfl (by kernel_rfl) ?_
      refine o_fieldAddr (off := 2) gn rfl rfl (by kernel_rfl) ?_
      refine o_load gn rfl rfl (by kernel_rfl) (by assumption) rfl ?_
      refine o_fieldAddr (off := 3) gn rfl rfl (by kernel_rfl) ?_
      refine o_load gn rfl rfl (by kernel_rfl) (by assumption) rfl ?_
      refine o_fieldAddr (off := 3) gn rfl rfl (by kernel_rfl) ?_
      refine o_load gn rfl rfl (by kernel_rfl) (by assumption) rfl ?_
      refine o_call [_, _] gn rfl rfl (by kernel_rfl) rfl (c_pure (c47) ⟨(ag1 (ag_load gn rfl (by kernel_rfl) (by assumption) rfl rfl same_int) (ag1 (ag_load gn rfl (by kernel_rfl) (by assumption) rfl rfl same_int) ag0)), ?_⟩)
      refine o_call [_, _] gn rfl rfl (by kernel_rfl) rfl (c_pure (c48) ⟨ag0, ?_⟩)
      refine o_buildSlice (e := 3) (z := 0) (zv := .int .i64 0) [(0, _), (1, _)] gn rfl (by kernel_rfl) (by kernel_rfl) (by kernel_rfl) (by kernel_rfl) rfl rfl ?_
      refine o_call [_] gn rfl rfl (by kernel_rfl) rfl (c_pure (c46 (Hp.get_alloc_self _ _)) ⟨ag0, ?_⟩)
      refine o_lss gn rfl rfl rfl ?_
      refine o_assign gn rfl rfl ?_
      refine wl_end ?_
      refine w_ret ?_
      refine ⟨.inl rfl, _, rfl, ?_⟩
      rename_i hb0
      refine ⟨?_, x2.trans (Ext.alloc _ _)⟩
      rw [bef_eq, if_neg (fun e => by rw [show (x.f != y.f) = false from hb0] at e; cases e), if_neg (by simp [hb])]; rfl

/-- The closure of All. -/
theorem c42 : C queE 42 [aggE x, aggE y] h fun v _ => v = iV (if bef x y then -1 else 1) := by
  refine c_enter (fu := Try.f42) (by kernel_rfl) rfl ?_
  refine w_seq ?_
  refine w_region (by kernel_rfl) ?_
  refine o_box gn rfl rfl ?_
  refine o_box gn rfl rfl ?_
  refine wl_at (fun h2 => h2.get h.n = some (.cells (encE x) 61 0) ∧ h2.get (h.n + 1) = some (.cells (encE y) 61 0) ∧ Ext h h2) boxes fun h2 ⟨gx, gy, x2⟩ => ?_
  rw [Hp.n_alloc]
  refine o_assign gn rfl rfl ?_
  refine wl_end ?_
  refine w_seq ?_
  refine w_seq ?_
  refine w_region (by kernel_rfl) ?_
  refine o_loadA (n := 4) gn rfl rfl (by kernel_rfl) (by kernel_rfl) (by assumption) (by simp [encE]) ?_
  refine o_loadA (n := 4) gn rfl rfl (by kernel_rfl) (by kernel_rfl) (by assumption) (by simp [encE]) ?_
  refine o_call [_, _] gn rfl rfl (by kernel_rfl) rfl (C.mono (c39 (x := x) (y := y)) ?_)
  rintro v h' ⟨rfl, x3⟩
  refine ⟨ag0, ?_⟩
  refine wl_end ?_
  refine w_cond rfl (fun hb => ?_) fun hb => ?_
  · skip
    refine w_seq ?_
    refine w_region (by kernel_rfl) ?_
    refine o_assign gn rfl rfl ?_
    refine wl_end ?_
    refine w_ret ?_
    refine ⟨.inl rfl, _, rfl, ?_⟩
    exact by rw [if_pos hb]; rfl
  · skip
    refine w_skip ?_
    refine w_seq ?_
    refine w_region (by kernel_rfl) ?_
    refine o_assign gn rfl rfl ?_
    refine wl_end ?_
    refine w_ret ?_
    refine ⟨.inl rfl, _, rfl, ?_⟩
    exact by rw [if_neg (by simp [hb])]; rfl
end

end Go.Proofs.Ytfjnnbdgehaeaaa


namespace Go.Proofs.Ytfjnnbdgehaeaaa
open Go.X

theorem el61 : ElN queE 56 61 3 31 := ⟨by kernel_rfl, by kernel_rfl, by kernel_rfl, .agg #[.int .i64 0, .bool false, .int .i64 0, .int .i64 0], by kernel_rfl, rfl⟩

abbrev sV (q n c : Nat) : Value := .slice (some ⟨q, 0, none⟩) n c
abbrev fnV (f : Nat) : Value := .func (.func f) #[] #[]

/-- A queue whose row lies in a block. -/
structure QQ (h : Hp) (b q c : Nat) (H : List Ent) (n : Int) : Prop where
  top : h.get b = some (.cells [sV q H.length c, iV n] 58 0)
  row : ∃ m rest, h.get q = some (.cells (enE H ++ rest) 61 m) ∧ (m = 0 ∨ m = 6) ∧ H.length ≤ c ∧ rest.length = (c - H.length) * 4
  lt : b < h.n
  ltq : q < h.n
  ne : b ≠ q

section
variable {h h' : Hp} {b q c : Nat} {H K : List Ent} {n : Int} {ds : List Nat} {i : Nat} {x y : Ent}

theorem QQ.keep (x : QQ h b q c H n) (g : ExtB ds h h') (h1 : b ∉ ds) (h2 : q ∉ ds) : QQ h' b q c H n := by
  obtain ⟨m, rest, r1, r2⟩ := x.row
  exact ⟨by rw [g.get b x.lt h1]; exact x.top, ⟨m, rest, by rw [g.get q x.ltq h2]; exact r1, r2⟩, Nat.lt_of_lt_of_le x.lt g.n, Nat.lt_of_lt_of_le x.ltq g.n, x.ne⟩
theorem QQ.ext (x : QQ h b q c H n) (g : Ext h h') : QQ h' b q c H n := x.keep (g.b []) (by simp) (by simp)

theorem setLen {j p : Nat} {rest : List Value} {y : Ent} (hj : j < K.length) (hp : p < K.length) : p * 4 + 4 ≤ ((enE K ++ rest).take (j * 4) ++ encE y ++ (enE K ++ rest).drop (j * 4 + 4)).length := by
  rw [enE_set hj, List.length_append, enE_len, List.length_set]; omega

/-- Two places change their entries. -/
theorem QQ.swap (x : QQ h b q c K n) {j p m : Nat} {rest A : List Value} (_hq : h.get q = some (.cells (enE K ++ rest) 61 m)) (hm : m = 0 ∨ m = 6) (hc : K.length ≤ c) (hr : rest.length = (c - K.length) * 4) (hj : j < K.length) (hp : p < K.length)
    (hA : A = (enE K ++ rest).take (j * 4) ++ encE K[p]! ++ (enE K ++ rest).drop (j * 4 + 4)) :
    QQ ((h.put q (.cells A 61 m)).put q (.cells (A.take (p * 4) ++ encE K[j]! ++ A.drop (p * 4 + 4)) 61 m)) b q c (swapL K j p) n := by
  subst hA
  rw [enE_set hj, enE_set (by simpa using hp)]
  refine ⟨?_, ⟨m, rest, Hp.get_put_self _ _ _, hm, by rw [swapL_len]; exact hc, by rw [swapL_len]; exact hr⟩, ?_, ?_, x.ne⟩
  · rw [Hp.get_put, if_neg (fun e => x.ne e.symm), Hp.get_put, if_neg (fun e => x.ne e.symm), swapL_len]; exact x.top
  · rw [Hp.n_put, Hp.n_put]; exact x.lt
  · rw [Hp.n_put, Hp.n_put]; exact x.ltq

/-- An entry moves up. -/
theorem c25 (x : QQ h b q c H n) (hi : i < H.length) (hl : H.length ≤ 100000) : C queE 25 [ptrV b, iV i] h fun v h' => v = .tuple #[] ∧ QQ h' b q c (upF H i) n ∧ (upF H i).length = H.length ∧ ExtB [q] h h' := by
  refine c_enter (fu := Try.f25) (by kernel_rfl) rfl ?_
  refine w_seq ?_
  refine w_region (by kernel_rfl) ?_
  refine o_assign gn rfl rfl ?_
  refine wl_end ?_
  refine w_block ?_
  refine w_weak [(0, ptrV b), (1, iV i), (4, fnV 39)] (by repeat (first | exact trivial | refine ⟨rfl, ?_⟩)) ?_
  refine w_loop (fun k l hh => ∃ (j : Nat) (K : List Ent), j = k ∧ j < K.length ∧ K.length = H.length ∧ upF K j = upF H i ∧ QQ hh b q c K n ∧ ExtB [q] h hh ∧ l = [(0, ptrV b), (1, iV (j : Nat)), (4, fnV 39)]) (n := i) ?_ fun k l hh hI => ?_
  · exact ⟨i, H, rfl, hi, rfl, rfl, x, .refl _ _, rfl⟩
  · obtain ⟨j, K, rfl, hj, hKl, hup, xK, x1, rfl⟩ := hI
    have hb1 := xK.top
    obtain ⟨m, rest, hq1, hm, hc, hr⟩ := xK.row
    have hel := enE_len K
    refine w_seq ?_
    refine w_seq ?_
    refine w_draw [(0, []), (1, []), (2, []), (3, []), (4, []), (5, []), (6, []), (7, []), (8, []), (9, []), (10, []), (11, []), (12, []), (13, []), (14, []), (15, []), (16, []), (17, []), (18, []), (19, []), (20, []), (21, [])] (by kernel_rfl) (by kernel_rfl) (by kernel_rfl) (by kernel_rfl) ?_
    refine o_move gn rfl rfl ?_
    refine o_gtr gn rfl rfl rfl ?_
    refine o_move gn rfl rfl ?_
    refine wl_split (dc := 7) rfl (fun hb7 => ?_) fun hb7 => ?_
    · skip
      have hj0 : 0 < j := by simp at hb7; omega
      have hpe : (((j : Int) - 1) / 2).toNat = (j - 1) / 2 := by omega
      have hpl : (j - 1) / 2 < K.length := by omega
      have hpi : ((j : Int) - 1) / 2 = (((j - 1) / 2 : Nat) : Int) := by omega
      have hcj := enE_cut hj rest
      have hcp := enE_cut hpl rest
      refine o_move (gy rfl rfl rfl hb7) rfl rfl ?_
      refine o_move (gy rfl rfl rfl hb7) rfl rfl ?_
      refine o_nilCheck (gy rfl rfl rfl hb7) rfl rfl ?_
      refine o_fieldAddr (off := 0) (gy rfl rfl rfl hb7) rfl rfl (by kernel_rfl) ?_
      refine o_load (gy rfl rfl rfl hb7) rfl rfl (by kernel_rfl) (by assumption) rfl ?_
      refine o_move (gy rfl rfl rfl hb7) rfl rfl ?_
      refine o_indexAddr (zz := 4) (gy rfl rfl rfl hb7) rfl rfl rfl (by kernel_rfl) (by omega) (by omega) ?_
      rw [Int.toNat_natCast, Nat.zero_add]
      refine o_loadA (n := 4) (gy rfl rfl rfl hb7) rfl rfl (by kernel_rfl) (by kernel_rfl) hq1 (by rw [List.length_append]; omega) ?_
      rw [hcj]
      refine o_move (gy rfl rfl rfl hb7) rfl rfl ?_
      refine o_nilCheck (gy rfl rfl rfl hb7) rfl rfl ?_
      refine o_fieldAddr (off := 0) (gy rfl rfl rfl hb7) rfl rfl (by kernel_rfl) ?_
      refine o_load (gy rfl rfl rfl hb7) rfl rfl (by kernel_rfl) (by assumption) rfl ?_
      refine o_move (gy rfl rfl rfl hb7) rfl rfl ?_
      refine o_sub (gy rfl rfl rfl hb7) rfl rfl rfl (by omega) (by omega) ?_
      refine o_quoN (gy rfl rfl rfl hb7) rfl rfl rfl (by omega) (by omega) (by omega) ?_
      refine o_indexAddr (zz := 4) (gy rfl rfl rfl hb7) rfl rfl rfl (by kernel_rfl) (by omega) (by omega) ?_
      rw [hpe, Nat.zero_add]
      refine o_loadA (n := 4) (gy rfl rfl rfl hb7) rfl rfl (by kernel_rfl) (by kernel_rfl) hq1 (by rw [List.length_append]; omega) ?_
      rw [hcp]
      refine o_call [_, _] (gy rfl rfl rfl hb7) rfl rfl (by kernel_rfl) rfl (C.mono (c39 (x := K[j]!) (y := K[(j - 1) / 2]!)) ?_)
      rintro v h1 ⟨rfl, xe⟩
      refine ⟨ag0, ?_⟩
      refine o_pickt gn rfl rfl hb7 rfl ?_
      refine wl_end ?_
      refine w_cond rfl (fun hb => ?_) fun hb => ?_
      · skip
        refine w_skip ?_
        refine w_block ?_
        refine w_seq ?_
        refine w_draw [(0, []), (1, []), (2, []), (3, []), (4, []), (5, []), (6, []), (7, []), (8, []), (9, []), (10, []), (11, []), (12, []), (13, []), (14, []), (15, []), (16, []), (17, []), (18, []), (19, []), (20, []), (21, []), (22, []), (23, []), (24, []), (25, []), (26, []), (27, []), (28, []), (29, [10, 11]), (30, []), (31, [])] (by kernel_rfl) (by kernel_rfl) (by kernel_rfl) (by kernel_rfl) ?_
        have xK1 := xK.ext xe
        have hb2 := xK1.top
        have hq2 := (xe.get q xK.ltq).trans hq1
        refine o_move gn rfl rfl ?_
        refine o_nilCheck gn rfl rfl ?_
        refine o_fieldAddr (off := 0) gn rfl rfl (by kernel_rfl) ?_
        refine o_load gn rfl rfl (by kernel_rfl) (by assumption) rfl ?_
        refine o_move gn rfl rfl ?_
        refine o_move gn rfl rfl ?_
        refine o_nilCheck gn rfl rfl ?_
        refine o_fieldAddr (off := 0) gn rfl rfl (by kernel_rfl) ?_
        refine o_load gn rfl rfl (by kernel_rfl) (by assumption) rfl ?_
        refine o_move gn rfl rfl ?_
        refine o_sub gn rfl rfl rfl (by omega) (by omega) ?_
        refine o_quoN gn rfl rfl rfl (by omega) (by omega) (by omega) ?_
        refine o_move gn rfl rfl ?_
        refine o_nilCheck gn rfl rfl ?_
        refine o_fieldAddr (off := 0) gn rfl rfl (by kernel_rfl) ?_
        refine o_load gn rfl rfl (by kernel_rfl) (by assumption) rfl ?_
        refine o_move gn rfl rfl ?_
        refine o_sub gn rfl rfl rfl (by omega) (by omega) ?_
        refine o_quoN gn rfl rfl rfl (by omega) (by omega) (by omega) ?_
        refine o_indexAddr (zz := 4) gn rfl rfl rfl (by kernel_rfl) (by omega) (by omega) ?_
        rw [hpe, Nat.zero_add]
        refine o_loadA (n := 4) gn rfl rfl (by kernel_rfl) (by kernel_rfl) hq2 (by rw [List.length_append]; omega) ?_
        rw [hcp]
        refine o_move gn rfl rfl ?_
        refine o_nilCheck gn rfl rfl ?_
        refine o_fieldAddr (off := 0) gn rfl rfl (by kernel_rfl) ?_
        refine o_load gn rfl rfl (by kernel_rfl) (by assumption) rfl ?_
        refine o_move gn rfl rfl ?_
        refine o_indexAddr (zz := 4) gn rfl rfl rfl (by kernel_rfl) (by omega) (by omega) ?_
        rw [Int.toNat_natCast, Nat.zero_add]
        refine o_loadA (n := 4) gn rfl rfl (by kernel_rfl) (by kernel_rfl) hq2 (by rw [List.length_append]; omega) ?_
        rw [hcj]
        refine o_indexAddr (zz := 4) gn rfl rfl rfl (by kernel_rfl) (by omega) (by omega) ?_
        rw [Int.toNat_natCast, Nat.zero_add]
        refine o_storeR (n := 4) gn rfl rfl rfl (by kernel_rfl) rfl hq2 (by omega) (by rw [List.length_append]; omega) (ag1 (ag_sub gn rfl rfl (by omega) (by omega) rfl) (ag1 (ag_quo gn rfl rfl (by omega) (by omega) (by omega) rfl) ag0)) ?_
        refine o_indexAddr (zz := 4) gn rfl rfl rfl (by kernel_rfl) (by omega) (by omega) ?_
        rw [hpe, Nat.zero_add]
        refine o_storeR (n := 4) gn rfl rfl rfl (by kernel_rfl) rfl (Hp.get_put_self _ _ _) (by omega) (setLen hj hpl) ag0 ?_
        refine wl_end ?_
        refine w_region (by kernel_rfl) ?_
        refine o_move gn rfl rfl ?_
        refine o_sub gn rfl rfl rfl (by omega) (by omega) ?_
        refine o_quoN gn rfl rfl rfl (by omega) (by omega) (by omega) ?_
        rw [hpi]
        refine o_assign gn rfl rfl ?_
        refine wl_end ?_
        exact ⟨(j - 1) / 2, by omega, _, (by repeat (first | exact trivial | refine ⟨rfl, ?_⟩)), ⟨(j - 1) / 2, swapL K j ((j - 1) / 2), rfl, by rw [swapL_len]; exact hpl, by rw [swapL_len]; exact hKl, by
          rw [← hup]; conv => rhs; rw [upF, if_pos ⟨hj0, hb⟩], xK1.swap hq2 hm hc hr hj hpl rfl, (x1.trans (xe.b _)).trans ((ExtB.put _ _ _).trans (ExtB.put _ _ _)), rfl⟩⟩
      · skip
        refine w_exit ?_
        refine thn_exit ?_
        refine rnd_exit ?_
        refine blk_eq ?_
        refine ⟨.inr rfl, _, rfl, ?_⟩
        have e : upF H i = K := by rw [← hup, upF, if_neg (fun e => by rw [show bef K[j]! K[(j - 1) / 2]! = false from hb] at e; exact absurd e.2 (by simp))]
        exact ⟨rfl, by rw [e]; exact xK.ext xe, by rw [e]; exact hKl, x1.trans (xe.b _)⟩
    · skip
      refine wl_skips (n := 18) (dc := 7) (w := true) rfl hb7 rfl ?_
      refine o_pickf gn rfl rfl hb7 rfl ?_
      refine wl_end ?_
      refine w_cond rfl (fun hb => ?_) fun hb => ?_
      · skip
        cases hb
      · skip
        refine w_exit ?_
        refine thn_exit ?_
        refine rnd_exit ?_
        refine blk_eq ?_
        refine ⟨.inr rfl, _, rfl, ?_⟩
        have hj0 : j = 0 := by simp at hb7; omega
        have e : upF H i = K := by rw [← hup, upF, if_neg (fun e => by omega)]
        exact ⟨rfl, by rw [e]; exact xK, by rw [e]; exact hKl, x1⟩
end

end Go.Proofs.Ytfjnnbdgehaeaaa


namespace Go.Proofs.Ytfjnnbdgehaeaaa
open Go.X

/-- How far the choice among an entry and both behind it has come. -/
def Stage (K : List Ent) (j a f : Nat) : Prop :=
  (a = 2 * j + 1 ∧ f = j) ∨ (a = 2 * j + 2 ∧ 2 * j + 1 < K.length ∧ f = childA K j) ∨ (a = 2 * j + 3 ∧ 2 * j + 2 < K.length ∧ f = childF K j)
theorem Stage.lt {K : List Ent} {j a f : Nat} (s : Stage K j a f) (hj : j < K.length) : f < K.length := by
  rcases s with ⟨_, rfl⟩ | ⟨_, h1, rfl⟩ | ⟨_, _, rfl⟩
  · exact hj
  · unfold childA; split <;> omega
  · rcases childF_cases K j with e | e <;> omega
theorem Stage.done {K : List Ent} {j a f : Nat} (s : Stage K j a f) (h : ¬ (a ≤ 2 * j + 2 ∧ a < K.length)) : f = childF K j := by
  unfold Stage at s
  rcases s with ⟨h0, rfl⟩ | ⟨h0, h1, rfl⟩ | ⟨_, _, rfl⟩
  · rw [childF, if_neg (by omega), childA, if_neg (by omega)]
  · rw [childF, if_neg (by omega)]
  · rfl
theorem Stage.next {K : List Ent} {j a f : Nat} (s : Stage K j a f) (h1 : a ≤ 2 * j + 2) (h2 : a < K.length) : Stage K j (a + 1) (if bef K[a]! K[f]! = true then a else f) := by
  rcases s with ⟨rfl, rfl⟩ | ⟨rfl, h3, rfl⟩ | ⟨h3, _⟩
  · refine .inr (.inl ⟨rfl, h2, ?_⟩)
    unfold childA
    by_cases e : bef K[2 * f + 1]! K[f]! = true
    · rw [if_pos e, if_pos ⟨h2, e⟩]
    · rw [if_neg e, if_neg (fun q => e q.2)]
  · refine .inr (.inr ⟨rfl, h2, ?_⟩)
    unfold childF
    by_cases e : bef K[2 * j + 2]! K[childA K j]! = true
    · rw [if_pos e, if_pos ⟨h2, e⟩]
    · rw [if_neg e, if_neg (fun q => e q.2)]
  · omega

section
variable {h h' : Hp} {b q c : Nat} {H K : List Ent} {n : Int} {ds : List Nat} {i : Nat} {x y : Ent}

/-- An entry moves down. -/
theorem c40 (x : QQ h b q c H n) (hi : i < H.length) (hl : H.length ≤ 100000) : C queE 40 [ptrV b, iV i] h fun v h' => v = .tuple #[] ∧ QQ h' b q c (downF H i) n ∧ (downF H i).length = H.length ∧ ExtB [q] h h' := by
  refine c_enter (fu := Try.f40) (by kernel_rfl) rfl ?_
  refine w_seq ?_
  refine w_region (by kernel_rfl) ?_
  refine o_assign gn rfl rfl ?_
  refine wl_end ?_
  refine w_block ?_
  refine w_weak [(0, ptrV b), (1, iV i), (4, fnV 39)] (by repeat (first | exact trivial | refine ⟨rfl, ?_⟩)) ?_
  refine w_loop (fun k l hh => ∃ (j : Nat) (K : List Ent), H.length - j = k ∧ j < K.length ∧ K.length = H.length ∧ downF K j = downF H i ∧ QQ hh b q c K n ∧ ExtB [q] h hh ∧ l = [(0, ptrV b), (1, iV (j : Nat)), (4, fnV 39)]) (n := H.length - i) ?_ fun k l hh hI => ?_
  · exact ⟨i, H, rfl, hi, rfl, rfl, x, .refl _ _, rfl⟩
  · obtain ⟨j, K, rfl, hj, hKl, hdn, xK, x1, rfl⟩ := hI
    refine w_block ?_
    refine w_seq ?_
    refine w_region (by kernel_rfl) ?_
    refine o_move gn rfl rfl ?_
    refine o_assign gn rfl rfl ?_
    refine wl_end ?_
    refine w_seq ?_
    refine w_seq ?_
    refine w_region (by kernel_rfl) ?_
    refine o_move gn rfl rfl ?_
    refine o_mul gn rfl rfl rfl (by omega) (by omega) ?_
    refine o_add gn rfl rfl rfl (by omega) (by omega) ?_
    refine o_assign gn rfl rfl ?_
    refine wl_end ?_
    refine w_block ?_
    refine w_weak [(0, ptrV b), (1, iV (j : Nat)), (4, fnV 39), (5, iV (j : Nat)), (6, iV (2 * (j : Int) + 1))] (by repeat (first | exact trivial | refine ⟨rfl, ?_⟩)) ?_
    refine w_loop (fun k l hh => ∃ (a f : Nat), 2 * j + 3 - a = k ∧ Stage K j a f ∧ QQ hh b q c K n ∧ ExtB [q] h hh ∧ l = [(0, ptrV b), (1, iV (j : Nat)), (4, fnV 39), (5, iV (f : Nat)), (6, iV (a : Nat))]) (n := 2) ?_ fun k l hh hI => ?_
    · exact ⟨2 * j + 1, j, by omega, .inl ⟨rfl, rfl⟩, xK, x1, by rw [show ((2 * j + 1 : Nat) : Int) = 2 * (j : Int) + 1 by omega]⟩
    · obtain ⟨a, f, rfl, hst, xK, x1, rfl⟩ := hI
      have hb1 := xK.top
      obtain ⟨m, rest, hq1, hm, hc, hr⟩ := xK.row
      have hel := enE_len K
      have hf := hst.lt hj
      have hcj := enE_cut hj rest
      have hcf := enE_cut hf rest
      have ha3 : a ≤ 2 * j + 3 := by unfold Stage at hst; omega
      refine w_seq ?_
      refine w_seq ?_
      refine w_region (by kernel_rfl) ?_
      refine o_move gn rfl rfl ?_
      refine o_move gn rfl rfl ?_
      refine o_mul gn rfl rfl rfl (by omega) (by omega) ?_
      refine o_add gn rfl rfl rfl (by omega) (by omega) ?_
      refine o_leq gn rfl rfl rfl ?_
      refine o_move gn rfl rfl ?_
      refine o_and (n := 7) rfl rfl rfl gn rfl (fun hb => by
          refine o_move (gy rfl rfl rfl hb) rfl rfl ?_
          refine o_move (gy rfl rfl rfl hb) rfl rfl ?_
          refine o_nilCheck (gy rfl rfl rfl hb) rfl rfl ?_
          refine o_fieldAddr (off := 0) (gy rfl rfl rfl hb) rfl rfl (by kernel_rfl) ?_
          refine o_load (gy rfl rfl rfl hb) rfl rfl (by kernel_rfl) (by assumption) rfl ?_
          refine o_len (gy rfl rfl rfl hb) rfl rfl (by kernel_rfl) ?_
          refine o_lss (gy rfl rfl rfl hb) rfl rfl rfl ?_
          exact wl_end ⟨rfl, rfl, 7, rfl, rfl⟩) ?_
      refine wl_end ?_
      refine w_cond rfl (fun hb => ?_) fun hb => ?_
      · skip
        have hab : a ≤ 2 * j + 2 ∧ a < K.length := by simp at hb; omega
        have hca := enE_cut hab.2 rest
        refine w_skip ?_
        refine w_seq ?_
        refine w_block ?_
        refine w_seq ?_
        refine w_draw [(0, []), (1, []), (2, []), (3, []), (4, []), (5, []), (6, []), (7, []), (8, []), (9, []), (10, []), (11, []), (12, []), (13, []), (14, []), (15, [])] (by kernel_rfl) (by kernel_rfl) (by kernel_rfl) (by kernel_rfl) ?_
        refine o_move gn rfl rfl ?_
        refine o_move gn rfl rfl ?_
        refine o_nilCheck gn rfl rfl ?_
        refine o_fieldAddr (off := 0) gn rfl rfl (by kernel_rfl) ?_
        refine o_load gn rfl rfl (by kernel_rfl) (by assumption) rfl ?_
        refine o_move gn rfl rfl ?_
        refine o_indexAddr (zz := 4) gn rfl rfl rfl (by kernel_rfl) (by omega) (by omega) ?_
        rw [Int.toNat_natCast, Nat.zero_add]
        refine o_loadA (n := 4) gn rfl rfl (by kernel_rfl) (by kernel_rfl) hq1 (by rw [List.length_append]; omega) ?_
        rw [hca]
        refine o_move gn rfl rfl ?_
        refine o_nilCheck gn rfl rfl ?_
        refine o_fieldAddr (off := 0) gn rfl rfl (by kernel_rfl) ?_
        refine o_load gn rfl rfl (by kernel_rfl) (by assumption) rfl ?_
        refine o_move gn rfl rfl ?_
        refine o_indexAddr (zz := 4) gn rfl rfl rfl (by kernel_rfl) (by omega) (by omega) ?_
        rw [Int.toNat_natCast, Nat.zero_add]
        refine o_loadA (n := 4) gn rfl rfl (by kernel_rfl) (by kernel_rfl) hq1 (by rw [List.length_append]; omega) ?_
        rw [hcf]
        refine o_call [_, _] gn rfl rfl (by kernel_rfl) rfl (C.mono (c39 (x := K[a]!) (y := K[f]!)) ?_)
        rintro v h1 ⟨rfl, xe⟩
        refine ⟨ag0, ?_⟩
        refine wl_end ?_
        refine w_cond rfl (fun hb => ?_) fun hb => ?_
        · skip
          refine w_region (by kernel_rfl) ?_
          refine o_move gn rfl rfl ?_
          refine o_assign gn rfl rfl ?_
          refine wl_end ?_
          refine w_region (by kernel_rfl) ?_
          refine o_move gn rfl rfl ?_
          refine o_add gn rfl rfl rfl (by omega) (by omega) ?_
          refine o_assign gn rfl rfl ?_
          refine wl_end ?_
          exact ⟨2 * j + 3 - (a + 1), by omega, _, (by repeat (first | exact trivial | refine ⟨rfl, ?_⟩)), ⟨a + 1, a, rfl, by have := hst.next hab.1 hab.2; rwa [if_pos hb] at this, xK.ext xe, x1.trans (xe.b _), rfl⟩⟩
        · skip
          refine w_skip ?_
          refine w_region (by kernel_rfl) ?_
          refine o_move gn rfl rfl ?_
          refine o_add gn rfl rfl rfl (by omega) (by omega) ?_
          refine o_assign gn rfl rfl ?_
          refine wl_end ?_
          exact ⟨2 * j + 3 - (a + 1), by omega, _, (by repeat (first | exact trivial | refine ⟨rfl, ?_⟩)), ⟨a + 1, f, rfl, by have := hst.next hab.1 hab.2; rwa [if_neg (fun e => by rw [show bef K[a]! K[f]! = false from hb] at e; cases e)] at this, xK.ext xe, x1.trans (xe.b _), rfl⟩⟩
      · skip
        refine w_exit ?_
        refine thn_exit ?_
        refine rnd_exit ?_
        refine blk_eq ?_
        have hfin : f = childF K j := hst.done (fun e => by
          have h1 : (a : Int) ≤ 2 * (j : Int) + 2 := by omega
          have h2 : (a : Int) < (K.length : Int) := by omega
          simp [h1, h2] at hb)
        refine w_seq ?_
        refine w_seq ?_
        refine w_region (by kernel_rfl) ?_
        refine o_move gn rfl rfl ?_
        refine o_move gn rfl rfl ?_
        refine o_eqi gn rfl rfl rfl ?_
        refine wl_end ?_
        refine w_cond rfl (fun hb => ?_) fun hb => ?_
        · skip
          refine w_ret ?_
          refine ⟨.inl rfl, _, rfl, ?_⟩
          have hfj : f = j := by simp at hb; omega
          have e : downF H i = K := by rw [← hdn, downF, dif_pos (by omega)]
          exact ⟨rfl, by rw [e]; exact xK, by rw [e]; exact hKl, x1⟩
        · skip
          refine w_skip ?_
          refine w_seq ?_
          refine w_draw [(0, []), (1, []), (2, []), (3, []), (4, []), (5, []), (6, []), (7, []), (8, []), (9, []), (10, []), (11, []), (12, []), (13, []), (14, []), (15, []), (16, []), (17, []), (18, []), (19, []), (20, []), (21, []), (22, []), (23, []), (24, []), (25, []), (26, []), (27, [])] (by kernel_rfl) (by kernel_rfl) (by kernel_rfl) (by kernel_rfl) ?_
          have hne : childF K j ≠ j := fun e => by
            rw [hfin, e] at hb; simp at hb
          have hgt : j < childF K j := by rcases childF_cases K j with e | e <;> omega
          refine o_move gn rfl rfl ?_
          refine o_nilCheck gn rfl rfl ?_
          refine o_fieldAddr (off := 0) gn rfl rfl (by kernel_rfl) ?_
          refine o_load gn rfl rfl (by kernel_rfl) (by assumption) rfl ?_
          refine o_move gn rfl rfl ?_
          refine o_move gn rfl rfl ?_
          refine o_nilCheck gn rfl rfl ?_
          refine o_fieldAddr (off := 0) gn rfl rfl (by kernel_rfl) ?_
          refine o_load gn rfl rfl (by kernel_rfl) (by assumption) rfl ?_
          refine o_move gn rfl rfl ?_
          refine o_move gn rfl rfl ?_
          refine o_nilCheck gn rfl rfl ?_
          refine o_fieldAddr (off := 0) gn rfl rfl (by kernel_rfl) ?_
          refine o_load gn rfl rfl (by kernel_rfl) (by assumption) rfl ?_
          refine o_move gn rfl rfl ?_
          refine o_indexAddr (zz := 4) gn rfl rfl rfl (by kernel_rfl) (by omega) (by omega) ?_
          rw [Int.toNat_natCast, Nat.zero_add]
          refine o_loadA (n := 4) gn rfl rfl (by kernel_rfl) (by kernel_rfl) hq1 (by rw [List.length_append]; omega) ?_
          rw [hcf]
          refine o_move gn rfl rfl ?_
          refine o_nilCheck gn rfl rfl ?_
          refine o_fieldAddr (off := 0) gn rfl rfl (by kernel_rfl) ?_
          refine o_load gn rfl rfl (by kernel_rfl) (by assumption) rfl ?_
          refine o_move gn rfl rfl ?_
          refine o_indexAddr (zz := 4) gn rfl rfl rfl (by kernel_rfl) (by omega) (by omega) ?_
          rw [Int.toNat_natCast, Nat.zero_add]
          refine o_loadA (n := 4) gn rfl rfl (by kernel_rfl) (by kernel_rfl) hq1 (by rw [List.length_append]; omega) ?_
          rw [hcj]
          refine o_indexAddr (zz := 4) gn rfl rfl rfl (by kernel_rfl) (by omega) (by omega) ?_
          rw [Int.toNat_natCast, Nat.zero_add]
          refine o_storeR (n := 4) gn rfl rfl rfl (by kernel_rfl) rfl hq1 (by omega) (by rw [List.length_append]; omega) ag0 ?_
          refine o_indexAddr (zz := 4) gn rfl rfl rfl (by kernel_rfl) (by omega) (by omega) ?_
          rw [Int.toNat_natCast, Nat.zero_add]
          refine o_storeR (n := 4) gn rfl rfl rfl (by kernel_rfl) rfl (Hp.get_put_self _ _ _) (by omega) (setLen hj hf) ag0 ?_
          refine wl_end ?_
          refine w_region (by kernel_rfl) ?_
          refine o_move gn rfl rfl ?_
          refine o_assign gn rfl rfl ?_
          refine wl_end ?_
          exact ⟨H.length - f, by omega, _, (by repeat (first | exact trivial | refine ⟨rfl, ?_⟩)), ⟨f, swapL K j f, rfl, by rw [swapL_len]; exact hf, by rw [swapL_len]; exact hKl, by
            rw [← hdn]; conv => rhs; rw [downF, dif_neg hne]
            rw [hfin], xK.swap hq1 hm hc hr hj hf rfl, x1.trans ((ExtB.put _ _ _).trans (ExtB.put _ _ _)), rfl⟩⟩
end

end Go.Proofs.Ytfjnnbdgehaeaaa


namespace Go.Proofs.Ytfjnnbdgehaeaaa
open Go.X

/-- A queue: its entries as they lie, how many were put. -/
def QA (h : Hp) (b : Nat) (H : List Ent) (n : Int) (own : List Nat) : Prop :=
  ∃ s B, h.get b = some (.cells [s, iV n] 58 0) ∧ SlC 61 3 h s (enE H) H.length B ∧ b < h.n ∧ b ∉ B ∧ own = b :: B

/-- Where a task's entry stands. -/
def posT (H : List Ent) (t : Int) : Int := if H.findIdx (fun x => decide (x.t = t)) < H.length then (H.findIdx (fun x => decide (x.t = t)) : Nat) else -1
theorem posT_some {H : List Ent} {t : Int} {i : Nat} (hi : i < H.length) (h1 : H[i]!.t = t) (h2 : ∀ j, j < i → H[j]!.t ≠ t) : posT H t = i := by
  have e : H.findIdx (fun x => decide (x.t = t)) = i := by
    rw [List.findIdx_eq hi]
    refine ⟨by have : H[i]! = H[i] := by simp [hi]
               rw [this] at h1; simp [h1], fun j hj => ?_⟩
    have := h2 j hj
    have e2 : H[j]! = H[j]'(by omega) := by simp [show j < H.length by omega]
    rw [e2] at this
    simpa using this
  rw [posT, e, if_pos hi]
theorem posT_none {H : List Ent} {t : Int} (h2 : ∀ j, j < H.length → H[j]!.t ≠ t) : posT H t = -1 := by
  have : ¬ H.findIdx (fun x => decide (x.t = t)) < H.length := by
    rw [List.findIdx_lt_length]
    rintro ⟨x, hx, ht⟩
    obtain ⟨j, hj, rfl⟩ := List.getElem_of_mem hx
    have := h2 j hj
    rw [show H[j]! = H[j] by simp [hj]] at this
    simp at ht
    exact this ht
  rw [posT, if_neg this]

/-- Take an entry out. -/
def outF (H : List Ent) (i : Nat) : List Ent :=
  let L := (H.set i H[H.length - 1]!).take (H.length - 1)
  if i < H.length - 1 then downF (upF L i) i else L

section
variable {h h' : Hp} {b q c p : Nat} {H K : List Ent} {n t : Int} {ds B own : List Nat} {s : Value} {i : Nat} {x y : Ent}

theorem QA.keep (x : QA h b H n own) (g : ExtB ds h h') (hd : ∀ i, i ∈ own → i ∉ ds) : QA h' b H n own := by
  obtain ⟨s, B, x1, x2, x3, x4, rfl⟩ := x
  exact ⟨s, B, by rw [g.get b x3 (hd b (by simp))]; exact x1, x2.keep g fun i hi => hd i (by simp [hi]), Nat.lt_of_lt_of_le x3 g.n, x4, rfl⟩
theorem QA.ext (x : QA h b H n own) (g : Ext h h') : QA h' b H n own := x.keep (g.b []) (by simp)
theorem QA.lt (x : QA h b H n own) : ∀ i, i ∈ own → i < h.n := by
  obtain ⟨s, B, x1, x2, x3, x4, rfl⟩ := x
  intro i hi
  rcases List.mem_cons.1 hi with rfl | hi
  · exact x3
  · exact x2.lt i hi
theorem QA.qq (x : QA h b H n own) (hn : 0 < H.length) : ∃ q c, QQ h b q c H n ∧ own = [b, q] := by
  obtain ⟨s, B, x1, x2, x3, x4, rfl⟩ := x
  obtain ⟨q, m, c, rest, rfl, hq, hm, hlt, rfl, hl, hc, hr⟩ := x2.at hn
  exact ⟨q, c, ⟨x1, ⟨m, rest, hq, hm, hc, hr⟩, x3, hlt, fun e => x4 (by simp [e])⟩, rfl⟩
theorem QQ.qa (x : QQ h b q c H n) : QA h b H n [b, q] := by
  obtain ⟨m, rest, hq, hm, hc, hr⟩ := x.row
  exact ⟨_, [q], x.top, .inr ⟨q, m, c, rest, rfl, hq, hm, x.ltq, rfl, enE_len H, hc, hr⟩, x.lt, by simp [x.ne], rfl⟩

/-- New -/
theorem c9 : C queE 9 [] h fun v h' => v = ptrV h.n ∧ QA h' h.n [] 0 [h.n] ∧ Ext h h' ∧ h'.n = h.n + 1 := by
  refine c_enter (fu := Try.f9) (by kernel_rfl) rfl ?_
  refine w_seq ?_
  refine w_region (by kernel_rfl) ?_
  refine o_assign gn rfl rfl ?_
  refine wl_end ?_
  refine w_seq ?_
  refine w_region (by kernel_rfl) ?_
  refine o_build (zv := .agg #[.slice none 0 0, .int .i64 0]) (pl := [(0, 1), (1, 1)]) [] gn rfl (by kernel_rfl) (by kernel_rfl) rfl rfl ?_
  refine o_box gn rfl rfl ?_
  refine o_assign gn rfl rfl ?_
  refine wl_end ?_
  refine w_ret ?_
  refine ⟨.inl rfl, _, rfl, ?_⟩
  exact ⟨rfl, ⟨_, [], Hp.get_alloc_self _ _, .inl ⟨rfl, rfl, rfl, rfl⟩, by rw [Hp.n_alloc]; omega, by simp, rfl⟩, Ext.alloc _ _, Hp.n_alloc _ _⟩

/-- Len -/
theorem c14 (x : QA h b H n own) : CP queE 14 [ptrV b] h (iV H.length) := by
  obtain ⟨s, B, x1, x2, x3, x4, rfl⟩ := x
  obtain ⟨a, c, rfl⟩ := x2.val
  refine c_enter (fu := Try.f14) (by kernel_rfl) rfl ?_
  refine w_seq ?_
  refine w_region (by kernel_rfl) ?_
  refine o_assign gn rfl rfl ?_
  refine wl_end ?_
  refine w_seq ?_
  refine w_seq ?_
  refine w_region (by kernel_rfl) ?_
  refine o_move gn rfl rfl ?_
  refine o_eqp gn rfl rfl rfl (by kernel_rfl) ?_
  refine wl_end ?_
  refine w_cond rfl (fun hb => ?_) fun hb => ?_
  · skip
    refine w_seq ?_
    refine w_region (by kernel_rfl) ?_
    refine o_assign gn rfl rfl ?_
    refine wl_end ?_
    refine w_ret ?_
    refine ⟨.inl rfl, _, rfl, ?_⟩
    simp at hb
  · skip
    refine w_skip ?_
    refine w_seq ?_
    refine w_region (by kernel_rfl) ?_
    refine o_move gn rfl rfl ?_
    refine o_nilCheck gn rfl rfl ?_
    refine o_fieldAddr (off := 0) gn rfl rfl (by kernel_rfl) ?_
    refine o_load gn rfl rfl (by kernel_rfl) (by assumption) rfl ?_
    refine o_len gn rfl rfl (by kernel_rfl) ?_
    refine o_assign gn rfl rfl ?_
    refine wl_end ?_
    refine w_ret ?_
    refine ⟨.inl rfl, _, rfl, ?_⟩
    exact ⟨rfl, rfl⟩

/-- of's closure -/
theorem c38 (hp : h.get p = some (.cells [iV t] 3 0)) (hpn : p < h.n) : C queE 38 [aggE x, ptrV p] h fun v h' => v = .bool (decide (x.t = t)) ∧ Ext h h' := by
  refine c_enter (fu := Try.f38) (by kernel_rfl) rfl ?_
  refine w_seq ?_
  refine w_region (by kernel_rfl) ?_
  refine o_box gn rfl rfl ?_
  refine wl_at (fun h2 => h2.get h.n = some (.cells (encE x) 61 0) ∧ h2.get p = some (.cells [iV t] 3 0) ∧ Ext h h2) ⟨Hp.get_alloc_self _ _, ((Ext.alloc h _).get p hpn).trans hp, Ext.alloc _ _⟩ fun h2 ⟨g1, g2, x2⟩ => ?_
  refine o_assign gn rfl rfl ?_
  refine wl_end ?_
  refine w_seq ?_
  refine w_region (by kernel_rfl) ?_
  refine o_fieldAddr (off := 0) gn rfl rfl (by kernel_rfl) ?_
  refine o_fieldAddr (off := 0) gn rfl rfl (by kernel_rfl) ?_
  refine o_load gn rfl rfl (by kernel_rfl) (by assumption) rfl ?_
  refine o_load gn rfl rfl (by kernel_rfl) (by assumption) rfl ?_
  refine o_eqi gn rfl rfl rfl ?_
  refine o_assign gn rfl rfl ?_
  refine wl_end ?_
  refine w_ret ?_
  refine ⟨.inl rfl, _, rfl, ?_⟩
  exact ⟨rfl, x2⟩

/-- slices.IndexFunc with it -/
theorem c37 (hs : SlC 61 3 h s (enE H) H.length B) (hp : h.get p = some (.cells [iV t] 3 0)) (hpn : p < h.n) (hl : H.length ≤ 100000) : C queE 37 [s, .func (.func 38) #[] #[ptrV p]] h fun v h' => v = iV (posT H t) ∧ Ext h h' := by
  obtain ⟨a, c, rfl⟩ := hs.val
  refine c_enter (fu := Try.f37) (by kernel_rfl) rfl ?_
  refine w_seq ?_
  refine w_region (by kernel_rfl) ?_
  refine o_assign gn rfl rfl ?_
  refine wl_end ?_
  refine w_seq ?_
  refine w_seq ?_
  refine w_region (by kernel_rfl) ?_
  refine o_move gn rfl rfl ?_
  refine o_len gn rfl rfl (by kernel_rfl) ?_
  refine o_move gn rfl rfl ?_
  refine wl_end ?_
  refine w_block ?_
  refine w_weak [(0, .slice a H.length c), (1, .func (.func 38) #[] #[ptrV p]), (7, iV H.length), (8, iV 0)] (by repeat (first | exact trivial | refine ⟨rfl, ?_⟩)) ?_
  refine w_loop (fun k l hh => ∃ i : Nat, i ≤ H.length ∧ k = H.length - i ∧ Ext h hh ∧ (∀ j, j < i → H[j]!.t ≠ t) ∧ l = [(0, .slice a H.length c), (1, .func (.func 38) #[] #[ptrV p]), (7, iV H.length), (8, iV (i : Nat))]) (n := H.length) ?_ fun k l hh hI => ?_
  · exact ⟨0, by omega, by omega, .refl _, by omega, rfl⟩
  · obtain ⟨i, hi, rfl, x1, hno, rfl⟩ := hI
    refine w_seq ?_
    refine w_region (by kernel_rfl) ?_
    refine o_lss gn rfl rfl rfl ?_
    refine wl_end ?_
    refine w_seq ?_
    refine w_cond rfl (fun hb => ?_) fun hb => ?_
    · skip
      have hilt : i < H.length := by simp at hb; omega
      have hs1 := hs.ext x1
      obtain ⟨q, m, c', rest, ea, hq, hm, hlt, _, _, hc, hr⟩ := hs1.at (by omega)
      cases ea
      have hel := enE_len H
      have hci := enE_cut hilt rest
      refine w_skip ?_
      refine w_seq ?_
      refine w_block ?_
      refine w_seq ?_
      refine w_region (by kernel_rfl) ?_
      refine o_move gn rfl rfl ?_
      refine o_assign gn rfl rfl ?_
      refine wl_end ?_
      refine w_seq ?_
      refine w_region (by kernel_rfl) ?_
      refine o_move gn rfl rfl ?_
      refine o_move gn rfl rfl ?_
      refine o_move gn rfl rfl ?_
      refine o_indexAddr (zz := 4) gn rfl rfl rfl (by kernel_rfl) (by omega) (by omega) ?_
      rw [Int.toNat_natCast, Nat.zero_add]
      refine o_loadA (n := 4) gn rfl rfl (by kernel_rfl) (by kernel_rfl) hq (by rw [List.length_append]; omega) ?_
      rw [hci]
      refine o_call [_] gn rfl rfl (by kernel_rfl) rfl (C.mono (c38 (x := H[i]!) ((x1.get p hpn).trans hp) (Nat.lt_of_lt_of_le hpn x1.n)) ?_)
      rintro v h1 ⟨rfl, xe⟩
      refine ⟨ag0, ?_⟩
      refine wl_end ?_
      refine w_cond rfl (fun hb => ?_) fun hb => ?_
      · skip
        refine w_seq ?_
        refine w_region (by kernel_rfl) ?_
        refine o_move gn rfl rfl ?_
        refine o_assign gn rfl rfl ?_
        refine wl_end ?_
        refine w_ret ?_
        refine ⟨.inl rfl, _, rfl, ?_⟩
        have hb' : H[i]!.t = t := by simpa using hb
        exact ⟨by rw [posT_some hilt hb' hno]; rfl, x1.trans xe⟩
      · skip
        refine w_skip ?_
        refine w_region (by kernel_rfl) ?_
        refine o_add gn rfl rfl rfl (by omega) (by omega) ?_
        refine o_move gn rfl rfl ?_
        refine wl_end ?_
        exact ⟨H.length - (i + 1), by omega, _, (by repeat (first | exact trivial | refine ⟨rfl, ?_⟩)), ⟨i + 1, by omega, rfl, x1.trans xe, fun j hj => by
          by_cases e : j = i
          · subst e; simpa using hb
          · exact hno j (by omega), rfl⟩⟩
    · skip
      refine w_exit ?_
      refine thn_exit ?_
      refine rnd_exit ?_
      refine blk_eq ?_
      refine w_seq ?_
      refine w_region (by kernel_rfl) ?_
      refine o_assign gn rfl rfl ?_
      refine wl_end ?_
      refine w_ret ?_
      refine ⟨.inl rfl, _, rfl, ?_⟩
      have hi2 : i = H.length := by simp at hb; omega
      exact ⟨by rw [posT_none (fun j hj => hno j (by omega))]; rfl, x1⟩

/-- of -/
theorem c24 (x : QA h b H n own) (hl : H.length ≤ 100000) : C queE 24 [ptrV b, iV t] h fun v h' => v = iV (posT H t) ∧ Ext h h' := by
  obtain ⟨s, B, x1, x2, x3, x4, rfl⟩ := x
  refine c_enter (fu := Try.f24) (by kernel_rfl) rfl ?_
  refine w_seq ?_
  refine w_region (by kernel_rfl) ?_
  refine o_box gn rfl rfl ?_
  refine wl_at (fun h2 => h2.get b = some (.cells [s, iV n] 58 0) ∧ h2.get h.n = some (.cells [iV t] 3 0) ∧ SlC 61 3 h2 s (enE H) H.length B ∧ Ext h h2 ∧ h.n < h2.n) ⟨((Ext.alloc h _).get b x3).trans x1, Hp.get_alloc_self _ _, x2.ext (Ext.alloc _ _), Ext.alloc _ _, by rw [Hp.n_alloc]; omega⟩ fun h2 ⟨g1, g2, g3, x5, n2⟩ => ?_
  refine o_assign gn rfl rfl ?_
  refine wl_end ?_
  refine w_seq ?_
  refine w_seq ?_
  refine w_region (by kernel_rfl) ?_
  refine o_move gn rfl rfl ?_
  refine o_eqp gn rfl rfl rfl (by kernel_rfl) ?_
  refine wl_end ?_
  refine w_cond rfl (fun hb => ?_) fun hb => ?_
  · skip
    refine w_seq ?_
    refine w_region (by kernel_rfl) ?_
    refine o_assign gn rfl rfl ?_
    refine wl_end ?_
    refine w_ret ?_
    refine ⟨.inl rfl, _, rfl, ?_⟩
    simp at hb
  · skip
    refine w_skip ?_
    refine w_seq ?_
    refine w_region (by kernel_rfl) ?_
    refine o_move gn rfl rfl ?_
    refine o_nilCheck gn rfl rfl ?_
    refine o_fieldAddr (off := 0) gn rfl rfl (by kernel_rfl) ?_
    refine o_load gn rfl rfl (by kernel_rfl) (by assumption) rfl ?_
    refine o_makeFunc1 gn rfl rfl ?_
    refine o_call [_, _] gn rfl rfl (by kernel_rfl) rfl (C.mono (c37 g3 g2 n2 hl) ?_)
    rintro v h' ⟨rfl, x6⟩
    refine ⟨ag0, ?_⟩
    refine o_assign gn rfl rfl ?_
    refine wl_end ?_
    refine w_ret ?_
    refine ⟨.inl rfl, _, rfl, ?_⟩
    exact ⟨rfl, x5.trans x6⟩

/-- out -/
theorem c26 (x : QQ h b q c H n) (hi : i < H.length) (hl : H.length ≤ 100000) : C queE 26 [ptrV b, iV i] h fun v h' => v = .tuple #[] ∧ QQ h' b q c (outF H i) n ∧ ExtB [b, q] h h' := by
  have hb1 := x.top
  obtain ⟨m, rest, hq, hm, hc, hr⟩ := x.row
  have hel := enE_len H
  have hcl := enE_cut (show H.length - 1 < H.length by omega) rest
  have hli : ((H.length : Int) - 1) = ((H.length - 1 : Nat) : Int) := by omega
  refine c_enter (fu := Try.f26) (by kernel_rfl) rfl ?_
  refine w_seq ?_
  refine w_region (by kernel_rfl) ?_
  refine o_move gn rfl rfl ?_
  refine o_nilCheck gn rfl rfl ?_
  refine o_fieldAddr (off := 0) gn rfl rfl (by kernel_rfl) ?_
  refine o_load gn rfl rfl (by kernel_rfl) (by assumption) rfl ?_
  refine o_len gn rfl rfl (by kernel_rfl) ?_
  refine o_sub gn rfl rfl rfl (by omega) (by omega) ?_
  rw [hli]
  refine o_assign gn rfl rfl ?_
  refine wl_end ?_
  refine w_seq ?_
  refine w_draw [(0, []), (1, []), (2, []), (3, []), (4, []), (5, []), (6, []), (7, []), (8, []), (9, []), (10, []), (11, []), (12, []), (13, [])] (by kernel_rfl) (by kernel_rfl) (by kernel_rfl) (by kernel_rfl) ?_
  refine o_move gn rfl rfl ?_
  refine o_nilCheck gn rfl rfl ?_
  refine o_fieldAddr (off := 0) gn rfl rfl (by kernel_rfl) ?_
  refine o_load gn rfl rfl (by kernel_rfl) (by assumption) rfl ?_
  refine o_move gn rfl rfl ?_
  refine o_move gn rfl rfl ?_
  refine o_nilCheck gn rfl rfl ?_
  refine o_fieldAddr (off := 0) gn rfl rfl (by kernel_rfl) ?_
  refine o_load gn rfl rfl (by kernel_rfl) (by assumption) rfl ?_
  refine o_move gn rfl rfl ?_
  refine o_indexAddr (zz := 4) gn rfl rfl rfl (by kernel_rfl) (by omega) (by omega) ?_
  rw [Int.toNat_natCast, Nat.zero_add]
  refine o_loadA (n := 4) gn rfl rfl (by kernel_rfl) (by kernel_rfl) hq (by rw [List.length_append]; omega) ?_
  rw [hcl]
  refine o_indexAddr (zz := 4) gn rfl rfl rfl (by kernel_rfl) (by omega) (by omega) ?_
  rw [Int.toNat_natCast, Nat.zero_add]
  refine o_storeR (n := 4) gn rfl rfl rfl (by kernel_rfl) rfl hq (by omega) (by rw [List.length_append]; omega) ag0 ?_
  refine wl_at (fun h2 => h2.get b = some (.cells [sV q H.length c, iV n] 58 0) ∧ h2.get q = some (.cells (enE (H.set i H[H.length - 1]!) ++ rest) 61 m) ∧ ExtB [b, q] h h2 ∧ h2.n = h.n) ⟨by rw [Hp.get_put, if_neg (fun e => x.ne e.symm)]; exact hb1, by
    rw [Hp.get_put_self]; exact congrArg (fun z => some (AObj.cells z 61 m)) (enE_set hi rest _), (ExtB.put _ _ _).mono (by simp), Hp.n_put _ _ _⟩ fun h2 ⟨g1, g2, x2, n2⟩ => ?_
  refine wl_end ?_
  refine w_seq ?_
  refine w_region (by kernel_rfl) ?_
  refine o_move gn rfl rfl ?_
  refine o_move gn rfl rfl ?_
  refine o_nilCheck gn rfl rfl ?_
  refine o_fieldAddr (off := 0) gn rfl rfl (by kernel_rfl) ?_
  refine o_load gn rfl rfl (by kernel_rfl) (by assumption) rfl ?_
  refine o_move gn rfl rfl ?_
  refine o_sliceToN el61 gn rfl rfl rfl g2 (by omega) (by omega) (by omega) ?_
  rw [Int.toNat_natCast]
  refine o_nilCheck gn rfl rfl ?_
  refine o_fieldAddr (off := 0) gn rfl rfl (by kernel_rfl) ?_
  refine o_store gn rfl rfl rfl (by kernel_rfl) (by assumption) (by decide) (by simp) ag0 ?_
  refine wl_at (fun h3 => QQ h3 b q c ((H.set i H[H.length - 1]!).take (H.length - 1)) n ∧ ExtB [b, q] h h3) ⟨?_, x2.trans ((ExtB.put _ _ _).mono (by simp))⟩ fun h3 ⟨x3, e3⟩ => ?_
  · refine ⟨?_, ⟨m, enE ((H.set i H[H.length - 1]!).drop (H.length - 1)) ++ rest, ?_, hm, by simp; omega, ?_⟩, by rw [Hp.n_put, n2]; exact x.lt, by rw [Hp.n_put, n2]; exact x.ltq, x.ne⟩
    · rw [Hp.get_put_self]; simp
    · rw [Hp.get_put, if_neg x.ne, g2, ← List.append_assoc, ← enE_app, List.take_append_drop]
    · rw [List.length_append, enE_len, hr]; simp; omega
  refine wl_end ?_
  refine w_seq ?_
  refine w_region (by kernel_rfl) ?_
  refine o_move gn rfl rfl ?_
  refine o_move gn rfl rfl ?_
  refine o_lss gn rfl rfl rfl ?_
  refine wl_end ?_
  refine w_cond rfl (fun hb => ?_) fun hb => ?_
  · skip
    refine w_seq ?_
    refine w_region (by kernel_rfl) ?_
    refine o_move gn rfl rfl ?_
    refine o_move gn rfl rfl ?_
    have hlt : i < H.length - 1 := by simp at hb; omega
    refine o_call [_, _] gn rfl rfl (by kernel_rfl) rfl (C.mono (c25 x3 (by simp; omega) (by simp; omega)) ?_)
    rintro v h' ⟨rfl, x4, l4, e4⟩
    refine ⟨ag0, ?_⟩
    refine wl_end ?_
    refine w_region (by kernel_rfl) ?_
    refine o_move gn rfl rfl ?_
    refine o_move gn rfl rfl ?_
    refine o_call [_, _] gn rfl rfl (by kernel_rfl) rfl (C.mono (c40 x4 (by rw [l4]; simp; omega) (by rw [l4]; simp; omega)) ?_)
    rintro v h' ⟨rfl, x5, l5, e5⟩
    refine ⟨ag0, ?_⟩
    refine wl_end ?_
    refine ⟨.inr rfl, _, rfl, ?_⟩
    exact ⟨rfl, by rw [outF, if_pos hlt]; exact x5, e3.trans ((e4.mono (by simp)).trans (e5.mono (by simp)))⟩
  · skip
    refine w_skip ?_
    refine ⟨.inr rfl, _, rfl, ?_⟩
    have hlt : ¬ i < H.length - 1 := by simp at hb; omega
    exact ⟨rfl, by rw [outF, if_neg hlt]; exact x3, e3⟩
end

end Go.Proofs.Ytfjnnbdgehaeaaa


namespace Go.Proofs.Ytfjnnbdgehaeaaa
open Go.X

/-- An item: task, is it a front one, the time it is due. -/
structure Itm where
  t : Int
  f : Bool
  d : Int
  deriving DecidableEq
abbrev itV (y : Itm) : Value := .agg #[iV y.t, .bool y.f, iV y.d]
def itZ : Itm := ⟨0, false, 0⟩
def Ent.it (x : Ent) : Itm := ⟨x.t, x.f, x.d⟩
def Itm.en (y : Itm) (n : Int) : Ent := ⟨y.t, y.f, y.d, n⟩

/-- What Put answers; what is there behind it. -/
def putE (H : List Ent) (y : Itm) : Int := if y.t < 0 ∨ y.d < 0 then 2 else if 0 ≤ posT H y.t then 7 else 0
def putF (H : List Ent) (n : Int) (y : Itm) : List Ent := if putE H y = 0 then upF (H ++ [y.en (n + 1)]) H.length else H
def putN (H : List Ent) (n : Int) (y : Itm) : Int := if putE H y = 0 then n + 1 else n

section
variable {h h' : Hp} {b q c p : Nat} {H K : List Ent} {n t : Int} {ds B own : List Nat} {s : Value} {i : Nat} {x : Ent} {y : Itm}

/-- Put -/
theorem c10 (x : QA h b H n own) (hl : H.length ≤ 99999) (hn : 0 ≤ n ∧ n ≤ 1000000) : C queE 10 [ptrV b, itV y] h fun v h' => v = iV (putE H y) ∧
    ∃ own', QA h' b (putF H n y) (putN H n y) own' ∧ ExtB own h h' ∧ ∀ i, i ∈ own' → i ∈ own ∨ h.n ≤ i := by
  refine c_enter (fu := Try.f10) (by kernel_rfl) rfl ?_
  refine w_seq ?_
  refine w_region (by kernel_rfl) ?_
  refine o_box gn rfl rfl ?_
  refine wl_at (fun h2 => h2.get h.n = some (.cells [iV y.t, .bool y.f, iV y.d] 30 0) ∧ QA h2 b H n own ∧ Ext h h2 ∧ h.n < h2.n) ⟨Hp.get_alloc_self _ _, x.ext (Ext.alloc _ _), Ext.alloc _ _, by rw [Hp.n_alloc]; omega⟩ fun h2 ⟨g1, xA, x2, n2⟩ => ?_
  refine o_assign gn rfl rfl ?_
  refine wl_end ?_
  refine w_seq ?_
  refine w_block ?_
  refine w_seq ?_
  refine w_region (by kernel_rfl) ?_
  refine o_move gn rfl rfl ?_
  refine o_eqp gn rfl rfl rfl (by kernel_rfl) ?_
  refine o_assign gn rfl rfl ?_
  refine wl_end ?_
  refine w_cond rfl (fun hb => ?_) fun hb => ?_
  · skip
    refine w_seq ?_
    refine w_region (by kernel_rfl) ?_
    refine o_assign gn rfl rfl ?_
    refine wl_end ?_
    refine w_ret ?_
    refine ⟨.inl rfl, _, rfl, ?_⟩
    cases hb
  · skip
    refine w_seq ?_
    refine w_region (by kernel_rfl) ?_
    refine o_fieldAddr (off := 0) gn rfl rfl (by kernel_rfl) ?_
    refine o_load gn rfl rfl (by kernel_rfl) (by assumption) rfl ?_
    refine o_lss gn rfl rfl rfl ?_
    refine o_move gn rfl rfl ?_
    refine o_or (n := 3) rfl rfl rfl gn rfl (fun hb => by
        refine o_fieldAddr (off := 2) (gy rfl rfl rfl hb) rfl rfl (by kernel_rfl) ?_
        refine o_load (gy rfl rfl rfl hb) rfl rfl (by kernel_rfl) (by assumption) rfl ?_
        refine o_lss (gy rfl rfl rfl hb) rfl rfl rfl ?_
        exact wl_end ⟨rfl, rfl, 3, rfl, rfl⟩) ?_
    refine o_assign gn rfl rfl ?_
    refine wl_end ?_
    refine w_cond rfl (fun hb => ?_) fun hb => ?_
    · skip
      refine w_seq ?_
      refine w_region (by kernel_rfl) ?_
      refine o_assign gn rfl rfl ?_
      refine wl_end ?_
      refine w_ret ?_
      refine ⟨.inl rfl, _, rfl, ?_⟩
      have hbad : y.t < 0 ∨ y.d < 0 := by simpa using hb
      have e : putE H y = 2 := by rw [putE, if_pos hbad]
      have e0 : ¬ putE H y = 0 := by rw [e]; decide
      exact ⟨by rw [e]; rfl, own, by rw [putF, putN, if_neg e0, if_neg e0]; exact xA, x2.b _, fun i hi => .inl hi⟩
    · skip
      refine w_seq ?_
      have hok : ¬ (y.t < 0 ∨ y.d < 0) := by simp at hb; omega
      refine w_region (by kernel_rfl) ?_
      refine o_move gn rfl rfl ?_
      refine o_fieldAddr (off := 0) gn rfl rfl (by kernel_rfl) ?_
      refine o_load gn rfl rfl (by kernel_rfl) (by assumption) rfl ?_
      refine o_call [_, _] gn rfl rfl (by kernel_rfl) rfl (C.mono (c24 xA (by omega)) ?_)
      rintro v h' ⟨rfl, x3⟩
      refine ⟨ag0, ?_⟩
      refine o_geq gn rfl rfl rfl ?_
      refine o_assign gn rfl rfl ?_
      refine wl_end ?_
      refine w_cond rfl (fun hb => ?_) fun hb => ?_
      · skip
        refine w_seq ?_
        refine w_region (by kernel_rfl) ?_
        refine o_assign gn rfl rfl ?_
        refine wl_end ?_
        refine w_ret ?_
        refine ⟨.inl rfl, _, rfl, ?_⟩
        have e : putE H y = 7 := by rw [putE, if_neg hok, if_pos (by simpa using hb)]
        have e0 : ¬ putE H y = 0 := by rw [e]; decide
        exact ⟨by rw [e]; rfl, own, by rw [putF, putN, if_neg e0, if_neg e0]; exact xA.ext x3, (x2.trans x3).b _, fun i hi => .inl hi⟩
      · skip
        have e : putE H y = 0 := by rw [putE, if_neg hok, if_neg (by simpa using hb)]
        have xB := xA.ext x3
        have g2 := (x3.get h.n n2).trans g1
        obtain ⟨s, B, t1, t2, t3, t4, rfl⟩ := xB
        have hnb : h.n ≠ b := fun e => by have := x.lt b (by simp); omega
        have hnB : h.n ∉ B := fun e => by have := x.lt h.n (by simp [e]); omega
        refine w_skip ?_
        refine w_seq ?_
        refine w_region (by kernel_rfl) ?_
        refine o_move gn rfl rfl ?_
        refine o_nilCheck gn rfl rfl ?_
        refine o_fieldAddr (off := 1) gn rfl rfl (by kernel_rfl) ?_
        refine o_load gn rfl rfl (by kernel_rfl) (by assumption) rfl ?_
        refine o_add gn rfl rfl rfl (by omega) (by omega) ?_
        refine o_nilCheck gn rfl rfl ?_
        refine o_fieldAddr (off := 1) gn rfl rfl (by kernel_rfl) ?_
        refine o_store gn rfl rfl rfl (by kernel_rfl) (by assumption) (by decide) (by simp) ag0 ?_
        refine wl_at (fun h4 => h4.get b = some (.cells [s, iV (n + 1)] 58 0) ∧ h4.get h.n = some (.cells [iV y.t, .bool y.f, iV y.d] 30 0) ∧ SlC 61 3 h4 s (enE H) H.length B ∧ ExtB (b :: B) h h4 ∧ b < h4.n) ⟨Hp.get_put_self _ _ _, by rw [Hp.get_put, if_neg (fun e => hnb e.symm)]; exact g2, t2.keep (ExtB.put _ _ _) (fun i hi e => t4 (by simp at e; exact e ▸ hi)), ((x2.trans x3).b _).trans ((ExtB.put _ _ _).mono (by simp)), by rw [Hp.n_put]; exact t3⟩ fun h4 ⟨k1, k2, k3, x4, n4⟩ => ?_
        refine wl_end ?_
        refine w_seq ?_
        refine w_draw [(0, []), (1, []), (2, []), (3, []), (4, []), (5, []), (6, []), (7, []), (8, []), (9, []), (10, []), (11, []), (12, []), (13, []), (14, []), (15, [])] (by kernel_rfl) (by kernel_rfl) (by kernel_rfl) (by kernel_rfl) ?_
        refine o_move gn rfl rfl ?_
        refine o_move gn rfl rfl ?_
        refine o_nilCheck gn rfl rfl ?_
        refine o_fieldAddr (off := 0) gn rfl rfl (by kernel_rfl) ?_
        refine o_load gn rfl rfl (by kernel_rfl) (by assumption) rfl ?_
        refine o_loadA (n := 3) gn rfl rfl (by kernel_rfl) (by kernel_rfl) k2 (by simp) ?_
        rw [show (([iV y.t, Value.bool y.f, iV y.d].drop 0).take 3).toArray = #[iV y.t, .bool y.f, iV y.d] from rfl]
        refine o_move gn rfl rfl ?_
        refine o_nilCheck gn rfl rfl ?_
        refine o_fieldAddr (off := 1) gn rfl rfl (by kernel_rfl) ?_
        refine o_load gn rfl rfl (by kernel_rfl) (by assumption) rfl ?_
        refine o_build (zv := .agg #[.int .i64 0, .bool false, .int .i64 0, .int .i64 0]) (cs := #[iV y.t, .bool y.f, iV y.d, iV (n + 1)]) (pl := [(0, 3), (3, 1)]) [(0, _), (1, _)] gn rfl (by kernel_rfl) (by kernel_rfl) rfl rfl ?_
        refine o_buildSlice (cs := #[iV y.t, .bool y.f, iV y.d, iV (n + 1)]) (e := 61) (z := 3) (zv := .agg #[.int .i64 0, .bool false, .int .i64 0, .int .i64 0]) [(0, _)] gn rfl (by kernel_rfl) (by kernel_rfl) (by kernel_rfl) (by kernel_rfl) rfl rfl ?_
        refine wl_at (fun h5 => h5.get b = some (.cells [s, iV (n + 1)] 58 0) ∧ h5.get h4.n = some (.cells (encE (y.en (n + 1))) 61 0) ∧ SlC 61 3 h5 s (enE H) H.length B ∧ Ext h4 h5) ⟨((Ext.alloc h4 _).get b n4).trans k1, Hp.get_alloc_self _ _, k3.ext (Ext.alloc _ _), Ext.alloc _ _⟩ fun h5 ⟨l1, l2, l3, x5⟩ => ?_
        obtain ⟨v6, h6, B6, ea, s6, x6, hB6⟩ := appendC (E := queE) (t := 56) el61 l3 l2 rfl rfl (by omega)
        obtain ⟨a6, c6, rfl⟩ := s6.val
        have hbl6 : b ∉ B6 := fun e => by
          rcases hB6 b e with e | e
          · exact t4 e
          · have := x5.n; omega
        have m1 := (x6.get b (Nat.lt_of_lt_of_le n4 x5.n) t4).trans l1
        refine o_append gn rfl rfl rfl ea ag0 ?_
        refine o_nilCheck gn rfl rfl ?_
        refine o_fieldAddr (off := 0) gn rfl rfl (by kernel_rfl) ?_
        refine o_store gn rfl rfl rfl (by kernel_rfl) m1 (by decide) (by simp) ag0 ?_
        refine wl_at (fun h7 => QA h7 b (H ++ [y.en (n + 1)]) (n + 1) (b :: B6) ∧ ExtB (b :: B) h h7) ⟨⟨.slice a6 (H.length + 1) c6, B6, Hp.get_put_self _ _ _, ?_, by rw [Hp.n_put]; exact Nat.lt_of_lt_of_le n4 (Nat.le_trans x5.n x6.n), hbl6, rfl⟩, ((x4.trans (x5.b _)).trans (x6.mono fun i hi _ => List.mem_cons_of_mem _ hi)).trans ((ExtB.put _ _ _).mono (by simp))⟩ fun h7 ⟨xC, x7⟩ => ?_
        · have := s6.keep (ExtB.put h6 b (.cells [.slice a6 (H.length + 1) c6, iV (n + 1)] 58 0)) (fun i hi e => hbl6 (by simp at e; exact e ▸ hi))
          rw [enE_app, List.length_append]
          exact this
        obtain ⟨q, c, xQ, eo⟩ := xC.qq (by simp)
        have o1 := xQ.top
        have hlen : (((H ++ [y.en (n + 1)]).length : Nat) : Int) - 1 = (H.length : Nat) := by simp
        refine wl_end ?_
        refine w_seq ?_
        refine w_region (by kernel_rfl) ?_
        refine o_move gn rfl rfl ?_
        refine o_move gn rfl rfl ?_
        refine o_nilCheck gn rfl rfl ?_
        refine o_fieldAddr (off := 0) gn rfl rfl (by kernel_rfl) ?_
        refine o_load gn rfl rfl (by kernel_rfl) (by assumption) rfl ?_
        refine o_len gn rfl rfl (by kernel_rfl) ?_
        refine o_sub gn rfl rfl rfl (by omega) (by omega) ?_
        rw [hlen]
        refine o_call [_, _] gn rfl rfl (by kernel_rfl) rfl (C.mono (c25 xQ (by simp) (by simp; omega)) ?_)
        rintro v h' ⟨rfl, x8, l8, e8⟩
        refine ⟨ag0, ?_⟩
        refine wl_end ?_
        refine w_seq ?_
        refine w_region (by kernel_rfl) ?_
        refine o_assign gn rfl rfl ?_
        refine wl_end ?_
        refine w_ret ?_
        refine ⟨.inl rfl, _, rfl, ?_⟩
        have hq : q ∈ B6 := by simp at eo; simp [eo]
        have hq6 : q = b ∨ q ∈ B ∨ h.n ≤ q := by
          rcases hB6 q hq with e | e
          · exact .inr (.inl e)
          · exact .inr (.inr (Nat.le_trans x4.n (Nat.le_trans x5.n e)))
        exact ⟨by rw [e]; rfl, [b, q], by rw [putF, putN, if_pos e, if_pos e]; exact x8.qa, x7.join e8 (fun i hi => by simp at hi; subst hi; simpa [or_assoc] using hq6), fun i hi => by
          simp at hi
          rcases hi with rfl | rfl
          · simp
          · simpa [or_assoc] using hq6⟩
end

end Go.Proofs.Ytfjnnbdgehaeaaa


namespace Go.Proofs.Ytfjnnbdgehaeaaa
open Go.X

/-- Is the first one due? -/
def dueB (H : List Ent) (now : Int) : Bool := if H.length = 0 then false else !(!H[0]!.f && decide (now < H[0]!.d))
def dueI (H : List Ent) (now : Int) : Itm := if dueB H now then H[0]!.it else itZ
def takF (H : List Ent) (now : Int) : List Ent := if dueB H now then outF H 0 else H
def drpB (H : List Ent) (t : Int) : Bool := decide (0 ≤ posT H t)
def drpF (H : List Ent) (t : Int) : List Ent := if drpB H t then outF H (posT H t).toNat else H
theorem posT_lt {H : List Ent} {t : Int} (h : 0 ≤ posT H t) : (posT H t).toNat < H.length := by
  unfold posT at *
  split at h
  · rename_i h1
    rw [if_pos h1]; simpa using h1
  · omega

section
variable {h h' : Hp} {b q c p : Nat} {H K : List Ent} {n t now : Int} {ds B own : List Nat} {s : Value} {i : Nat} {x : Ent} {y : Itm}

/-- Due -/
theorem c23 (x : QA h b H n own) (hl : H.length ≤ 100000) : C queE 23 [ptrV b, iV now] h fun v h' => v = .tuple #[itV (dueI H now), .bool (dueB H now)] ∧ Ext h h' := by
  have hn0 : h.n ∉ own := fun e => by have := x.lt _ e; omega
  refine c_enterH (fu := Try.f23) (by kernel_rfl) rfl ?_
  refine w_seq ?_
  refine w_region (by kernel_rfl) ?_
  refine o_alloc (zv := .agg #[.int .i64 0, .bool false, .int .i64 0]) gn rfl (by kernel_rfl) ?_
  refine wl_at (fun h2 => h2.get h.n = some (.cells [iV 0, .bool false, iV 0] 30 0) ∧ QA h2 b H n own ∧ Ext h h2) ⟨Hp.get_alloc_self _ _, x.ext (Ext.alloc _ _), Ext.alloc _ _⟩ fun h2 ⟨g1, xA, x2⟩ => ?_
  refine o_assign gn rfl rfl ?_
  refine wl_end ?_
  refine w_seq ?_
  refine w_seq ?_
  refine w_region (by kernel_rfl) ?_
  refine o_move gn rfl rfl ?_
  refine o_call [_] gn rfl rfl (by kernel_rfl) rfl (c_pure (c14 xA) ⟨ag0, ?_⟩)
  refine o_eqi gn rfl rfl rfl ?_
  refine o_move gn rfl rfl ?_
  refine o_or (B := !H[0]!.f && decide (now < H[0]!.d)) (n := 21) rfl rfl rfl gn rfl (fun hb => by
      have hpos : 0 < H.length := by simp at hb; exact List.length_pos_iff.2 hb
      obtain ⟨q, c, xQ, _⟩ := xA.qq hpos
      have g0 := xQ.top
      obtain ⟨m, rest, hq, hm, hc, hr⟩ := xQ.row
      obtain ⟨_, e1, e2, _⟩ := enE_cell hpos rest
      refine o_move (gy rfl rfl rfl hb) rfl rfl ?_
      refine o_nilCheck (gy rfl rfl rfl hb) rfl rfl ?_
      refine o_fieldAddr (off := 0) (gy rfl rfl rfl hb) rfl rfl (by kernel_rfl) ?_
      refine o_load (gy rfl rfl rfl hb) rfl rfl (by kernel_rfl) (by assumption) rfl ?_
      refine o_indexAddr (zz := 4) (gy rfl rfl rfl hb) rfl rfl rfl (by kernel_rfl) (by omega) (by omega) ?_
      refine o_fieldAddr (off := 0) (gy rfl rfl rfl hb) rfl rfl (by kernel_rfl) ?_
      refine o_fieldAddr (off := 1) (gy rfl rfl rfl hb) rfl rfl (by kernel_rfl) ?_
      refine o_load (gy rfl rfl rfl hb) rfl rfl (by kernel_rfl) hq e1 ?_
      refine o_not (gy rfl rfl rfl hb) rfl rfl ?_
      refine o_move (gy rfl rfl rfl hb) rfl rfl ?_
      refine o_and (n := 10) rfl rfl rfl (gy rfl rfl rfl hb) rfl (fun hb => by
          refine o_move (gy rfl rfl rfl hb) rfl rfl ?_
          refine o_nilCheck (gy rfl rfl rfl hb) rfl rfl ?_
          refine o_fieldAddr (off := 0) (gy rfl rfl rfl hb) rfl rfl (by kernel_rfl) ?_
          skip
          refine o_load (gy rfl rfl rfl hb) rfl rfl (by kernel_rfl) (by assumption) rfl ?_
          refine o_indexAddr (zz := 4) (gy rfl rfl rfl hb) rfl rfl rfl (by kernel_rfl) (by omega) (by omega) ?_
          refine o_fieldAddr (off := 0) (gy rfl rfl rfl hb) rfl rfl (by kernel_rfl) ?_
          refine o_fieldAddr (off := 2) (gy rfl rfl rfl hb) rfl rfl (by kernel_rfl) ?_
          refine o_load (gy rfl rfl rfl hb) rfl rfl (by kernel_rfl) hq e2 ?_
          refine o_move (gy rfl rfl rfl hb) rfl rfl ?_
          refine o_gtr (gy rfl rfl rfl hb) rfl rfl rfl ?_
          exact wl_end ⟨rfl, rfl, 10, rfl, rfl⟩) ?_
      exact wl_end ⟨rfl, rfl, 11, rfl, rfl⟩) ?_
  refine wl_end ?_
  refine w_cond rfl (fun hb => ?_) fun hb => ?_
  · skip
    refine w_seq ?_
    refine w_region (by kernel_rfl) ?_
    refine o_build (zv := .agg #[.int .i64 0, .bool false, .int .i64 0]) (pl := [(0, 1), (1, 1), (2, 1)]) [] gn rfl (by kernel_rfl) (by kernel_rfl) rfl rfl ?_
    refine o_storeA (n := 3) gn rfl rfl rfl (by kernel_rfl) rfl g1 (by decide) rfl ag0 ?_
    refine o_assign gn rfl rfl ?_
    refine wl_end ?_
    refine w_ret ?_
    refine ⟨.inl rfl, _, (resH_agg rfl (by kernel_rfl) (by kernel_rfl) (Hp.get_put_self _ _ _) rfl (resH_tmp rfl rfl)), ?_⟩
    have e : dueB H now = false := by
      unfold dueB
      split
      · rfl
      · rename_i h0
        have : (decide ((H.length : Int) = 0)) = false := by simp; exact fun e => h0 (by simp [e])
        rw [this] at hb
        simp only [Bool.false_or] at hb
        rw [hb]; rfl
    exact ⟨by rw [dueI, e]; rfl, x2.of (ExtB.put _ _ _) (by simp)⟩
  · skip
    have hpos : 0 < H.length := by
      rcases Nat.eq_zero_or_pos H.length with e | e
      · rw [e] at hb; simp at hb
      · exact e
    have hdue : dueB H now = true := by
      unfold dueB
      rw [if_neg (by omega)]
      simp only [Bool.or_eq_false_iff] at hb
      rw [hb.2]; rfl
    obtain ⟨q, c, xQ, eo⟩ := xA.qq hpos
    have g0 := xQ.top
    obtain ⟨m, rest, hq, hm, hc, hr⟩ := xQ.row
    have hel := enE_len H
    have hcut := enE_cut hpos rest
    have h3 : ((enE H ++ rest).drop 0).take 3 = [iV H[0]!.t, .bool H[0]!.f, iV H[0]!.d] := by
      have : ((enE H ++ rest).drop 0).take 3 = (((enE H ++ rest).drop (0 * 4)).take 4).take 3 := by rw [List.take_take]; rfl
      rw [this, hcut]; rfl
    refine w_skip ?_
    refine w_seq ?_
    refine w_region (by kernel_rfl) ?_
    refine o_move gn rfl rfl ?_
    refine o_nilCheck gn rfl rfl ?_
    refine o_fieldAddr (off := 0) gn rfl rfl (by kernel_rfl) ?_
    refine o_load gn rfl rfl (by kernel_rfl) (by assumption) rfl ?_
    refine o_indexAddr (zz := 4) gn rfl rfl rfl (by kernel_rfl) (by omega) (by omega) ?_
    refine o_fieldAddr (off := 0) gn rfl rfl (by kernel_rfl) ?_
    refine o_loadA (n := 3) gn rfl rfl (by kernel_rfl) (by kernel_rfl) hq (by rw [List.length_append, hel]; show 0 + 3 ≤ _; omega) ?_
    rw [show ((enE H ++ rest).drop (0 + Int.toNat 0 * 4 + 0)).take 3 = [iV H[0]!.t, .bool H[0]!.f, iV H[0]!.d] from h3]
    refine o_storeA (n := 3) gn rfl rfl rfl (by kernel_rfl) rfl g1 (by decide) rfl ag0 ?_
    refine o_assign gn rfl rfl ?_
    refine wl_end ?_
    refine w_ret ?_
    refine ⟨.inl rfl, _, (resH_agg rfl (by kernel_rfl) (by kernel_rfl) (Hp.get_put_self _ _ _) rfl (resH_tmp rfl rfl)), ?_⟩
    exact ⟨by rw [dueI, hdue]; rfl, x2.of (ExtB.put _ _ _) (by simp)⟩

/-- Take -/
theorem c13 (x : QA h b H n own) (hl : H.length ≤ 100000) : C queE 13 [ptrV b, iV now] h fun v h' => v = .tuple #[itV (dueI H now), .bool (dueB H now)] ∧ QA h' b (takF H now) n own ∧ ExtB own h h' := by
  have hn0 : h.n ∉ own := fun e => by have := x.lt _ e; omega
  refine c_enterH (fu := Try.f13) (by kernel_rfl) rfl ?_
  refine w_seq ?_
  refine w_region (by kernel_rfl) ?_
  refine o_alloc (zv := .agg #[.int .i64 0, .bool false, .int .i64 0]) gn rfl (by kernel_rfl) ?_
  refine wl_at (fun h2 => h2.get h.n = some (.cells [iV 0, .bool false, iV 0] 30 0) ∧ QA h2 b H n own ∧ Ext h h2 ∧ h.n < h2.n) ⟨Hp.get_alloc_self _ _, x.ext (Ext.alloc _ _), Ext.alloc _ _, by rw [Hp.n_alloc]; omega⟩ fun h2 ⟨g1, xA, x2, n2⟩ => ?_
  refine o_assign gn rfl rfl ?_
  refine wl_end ?_
  refine w_seq ?_
  refine w_region (by kernel_rfl) ?_
  refine o_move gn rfl rfl ?_
  refine o_move gn rfl rfl ?_
  refine o_call [_, _] gn rfl rfl (by kernel_rfl) rfl (C.mono (c23 xA hl) ?_)
  rintro v h3 ⟨rfl, x3⟩
  refine ⟨ag0, ?_⟩
  refine o_move gn rfl rfl ?_
  refine o_extract gn rfl rfl rfl ?_
  refine o_extract gn rfl rfl rfl ?_
  refine o_alloc (zv := .agg #[.int .i64 0, .bool false, .int .i64 0]) gn rfl (by kernel_rfl) ?_
  refine o_storeA (n := 3) gn rfl rfl rfl (by kernel_rfl) rfl (Hp.get_alloc_self _ _) (by decide) rfl ag0 ?_
  refine wl_at (fun h4 => h4.get h.n = some (.cells [iV 0, .bool false, iV 0] 30 0) ∧ h4.get h3.n = some (.cells [iV (dueI H now).t, .bool (dueI H now).f, iV (dueI H now).d] 30 0) ∧ QA h4 b H n own ∧ Ext h h4 ∧ h.n < h4.n ∧ h3.n < h4.n ∧ h.n < h3.n) ⟨?_, Hp.get_put_self _ _ _, (xA.ext (x3.trans ((Ext.alloc _ _).of (ExtB.put _ _ _) (by simp)))), x2.trans (x3.trans ((Ext.alloc _ _).of (ExtB.put _ _ _) (by simp))), ?_, ?_, Nat.lt_of_lt_of_le n2 x3.n⟩ fun h4 ⟨k1, k2, xB, x4, n4, m4, hne⟩ => ?_
  · exact ((x3.trans ((Ext.alloc _ _).of (ExtB.put _ _ _) (by simp))).get h.n n2).trans g1
  · rw [Hp.n_put, Hp.n_alloc]; have := x3.n; omega
  · rw [Hp.n_put, Hp.n_alloc]; omega
  refine o_assign gn rfl rfl ?_
  refine wl_end ?_
  refine w_seq ?_
  refine w_seq ?_
  refine w_region (by kernel_rfl) ?_
  refine o_move gn rfl rfl ?_
  refine wl_end ?_
  refine w_cond rfl (fun hb => ?_) fun hb => ?_
  · skip
    have hpos : 0 < H.length := by
      rcases Nat.eq_zero_or_pos H.length with e | e
      · rw [dueB, if_pos e] at hb; cases hb
      · exact e
    obtain ⟨q, c, xQ, rfl⟩ := xB.qq hpos
    refine w_region (by kernel_rfl) ?_
    refine o_move gn rfl rfl ?_
    refine o_call [_, _] gn rfl rfl (by kernel_rfl) rfl (C.mono (c26 (i := 0) xQ hpos hl) ?_)
    rintro v h5 ⟨rfl, x5, e5⟩
    refine ⟨ag0, ?_⟩
    refine wl_end ?_
    refine w_seq ?_
    refine w_region (by kernel_rfl) ?_
    have hn5 : h3.n ∉ [b, q] := fun e => by have := x.lt _ e; omega
    have p1 := (e5.get h.n n4 hn0).trans k1
    have p2 := (e5.get h3.n m4 hn5).trans k2
    refine o_loadA (n := 3) gn rfl rfl (by kernel_rfl) (by kernel_rfl) p2 (by simp) ?_
    refine o_move gn rfl rfl ?_
    refine o_storeA (n := 3) gn rfl rfl rfl (by kernel_rfl) rfl p1 (by decide) rfl ag0 ?_
    refine o_assign gn rfl rfl ?_
    refine wl_end ?_
    refine w_ret ?_
    refine ⟨.inl rfl, _, (resH_agg rfl (by kernel_rfl) (by kernel_rfl) (Hp.get_put_self _ _ _) rfl (resH_tmp rfl rfl)), ?_⟩
    refine ⟨rfl, ?_, ((x4.b _).trans e5).join (ExtB.put _ _ _) (fun i hi => .inr (by simp at hi; omega))⟩
    rw [takF, if_pos hb]
    exact x5.qa.keep (ExtB.put _ _ _) (fun i hi e => hn0 (by simp at e; exact e ▸ hi))
  · skip
    refine w_skip ?_
    refine w_seq ?_
    refine w_region (by kernel_rfl) ?_
    refine o_loadA (n := 3) gn rfl rfl (by kernel_rfl) (by kernel_rfl) k2 (by simp) ?_
    refine o_move gn rfl rfl ?_
    refine o_storeA (n := 3) gn rfl rfl rfl (by kernel_rfl) rfl k1 (by decide) rfl ag0 ?_
    refine o_assign gn rfl rfl ?_
    refine wl_end ?_
    refine w_ret ?_
    refine ⟨.inl rfl, _, (resH_agg rfl (by kernel_rfl) (by kernel_rfl) (Hp.get_put_self _ _ _) rfl (resH_tmp rfl rfl)), ?_⟩
    refine ⟨rfl, ?_, (x4.b own).join (ExtB.put _ _ _) (fun i hi => .inr (by simp at hi; omega))⟩
    rw [takF, if_neg (by simp [hb])]
    exact xB.keep (ExtB.put _ _ _) (fun i hi e => hn0 (by simp at e; exact e ▸ hi))

/-- Drop -/
theorem c11 (x : QA h b H n own) (hl : H.length ≤ 100000) : C queE 11 [ptrV b, iV t] h fun v h' => v = .bool (drpB H t) ∧ QA h' b (drpF H t) n own ∧ ExtB own h h' := by
  refine c_enter (fu := Try.f11) (by kernel_rfl) rfl ?_
  refine w_seq ?_
  refine w_region (by kernel_rfl) ?_
  refine o_assign gn rfl rfl ?_
  refine wl_end ?_
  refine w_seq ?_
  refine w_region (by kernel_rfl) ?_
  refine o_move gn rfl rfl ?_
  refine o_move gn rfl rfl ?_
  refine o_call [_, _] gn rfl rfl (by kernel_rfl) rfl (C.mono (c24 x hl) ?_)
  rintro v h3 ⟨rfl, x3⟩
  refine ⟨ag0, ?_⟩
  refine o_assign gn rfl rfl ?_
  refine wl_end ?_
  refine w_seq ?_
  refine w_seq ?_
  refine w_region (by kernel_rfl) ?_
  refine o_move gn rfl rfl ?_
  refine o_lss gn rfl rfl rfl ?_
  refine wl_end ?_
  refine w_cond rfl (fun hb => ?_) fun hb => ?_
  · skip
    refine w_seq ?_
    refine w_region (by kernel_rfl) ?_
    refine o_assign gn rfl rfl ?_
    refine wl_end ?_
    refine w_ret ?_
    refine ⟨.inl rfl, _, rfl, ?_⟩
    have e : drpB H t = false := by simp at hb; simp [drpB]; omega
    exact ⟨by rw [e]; rfl, by rw [drpF, e]; exact x.ext x3, x3.b _⟩
  · skip
    have h0 : 0 ≤ posT H t := by simpa using hb
    have e : drpB H t = true := by simp [drpB]; omega
    have hlt := posT_lt h0
    obtain ⟨q, c, xQ, rfl⟩ := (x.ext x3).qq (by omega)
    refine w_skip ?_
    refine w_seq ?_
    refine w_region (by kernel_rfl) ?_
    refine o_move gn rfl rfl ?_
    refine o_move gn rfl rfl ?_
    rw [show posT H t = ((posT H t).toNat : Int) by omega]
    refine o_call [_, _] gn rfl rfl (by kernel_rfl) rfl (C.mono (c26 (i := (posT H t).toNat) xQ hlt hl) ?_)
    rintro v h5 ⟨rfl, x5, e5⟩
    refine ⟨ag0, ?_⟩
    refine wl_end ?_
    refine w_seq ?_
    refine w_region (by kernel_rfl) ?_
    refine o_assign gn rfl rfl ?_
    refine wl_end ?_
    refine w_ret ?_
    refine ⟨.inl rfl, _, rfl, ?_⟩
    exact ⟨by rw [e]; rfl, by rw [drpF, if_pos e]; exact x5.qa, (x3.b _).trans e5⟩
end

end Go.Proofs.Ytfjnnbdgehaeaaa


namespace Go.Proofs.Ytfjnnbdgehaeaaa
open Go.X

theorem que_sm : queE.sm 41 = some (sortFX 42 4 srtE) := by kernel_rfl

/-- slices.SortFunc on a row of one's own. -/
theorem sort_row {h : Hp} {s : Value} {H : List Ent} {B : List Nat} (hs : SlN 61 3 h s (enE H) H.length B) (hn : (qs H).Nodup) (hl : H.length ≤ 100000) :
    ∃ h', sortFX 42 4 srtE [s, fnV 42] h = some (.tuple #[], h') ∧ SlN 61 3 h' s (enE (sortB H)) H.length B ∧ ExtB B h h' ∧ KD h h' ∧ h'.n = h.n := by
  have e0 : isFn0 42 (fnV 42) = true := rfl
  rcases hs with ⟨rfl, h1, h2, rfl⟩ | ⟨b, m, rfl, hb, hm, hlt, rfl, hlen⟩
  · have : H = [] := List.eq_nil_of_length_eq_zero h2
    subst this
    exact ⟨h, by simp only [sortFX, e0, cond_true, sortRowX], .inl ⟨rfl, rfl, rfl, rfl⟩, .refl _ _, .refl _, rfl⟩
  · cases hH : H.length with
    | zero =>
      have : H = [] := List.eq_nil_of_length_eq_zero hH
      subst this
      exact ⟨h, by simp only [sortFX, e0, cond_true, sortRowX], .inr ⟨b, m, rfl, hb, hm, hlt, rfl, hlen⟩, .refl _ _, .refl _, rfl⟩
    | succ k =>
      have hel := enE_len H
      have hels := enE_len (sortB H)
      have hsl : (sortB H).length = H.length := (sortB_perm H).length_eq
      have e1 : Nat.ble (0 + (k + 1) * 4) (enE H).length = true := (ble_iff _ _).2 (by omega)
      have e2 : rowOf h ⟨b, 0, none⟩ ((k + 1) * 4) = some (enE H) := by
        simp only [rowOf, hb, e1, cond_true, List.drop_zero]
        rw [List.take_of_length_le (by omega)]
      have e3 : srtE (k + 1) (enE H) = some (enE (sortB H)) := by rw [← hH]; exact srtE_eq hn (by omega)
      have e4 : storeRow h ⟨b, 0, none⟩ (enE (sortB H)) = some (h.put b (.cells (enE (sortB H)) 61 m)) := by
        have e5 : Nat.beq m 1 = false := (beq_false _ _).2 (by omega)
        have e6 : Nat.ble (0 + (enE (sortB H)).length) (enE H).length = true := (ble_iff _ _).2 (by omega)
        simp only [storeRow, hb, e5, e6, Bool.not_false, Bool.and_true, cond_true, List.take_zero, List.nil_append]
        rw [List.drop_eq_nil_of_le (by omega), List.append_nil]
      refine ⟨h.put b (.cells (enE (sortB H)) 61 m), ?_, .inr ⟨b, m, rfl, Hp.get_put_self _ _ _, hm, by rw [Hp.n_put]; exact hlt, rfl, by omega⟩, ExtB.put _ _ _, KD.put _ (fun d => by rw [hb]; simp), Hp.n_put _ _ _⟩
      simp only [sortFX, e0, cond_true, sortRowX, e2, e3, e4]

/-- A closure of All's: a cell that holds a slice. -/
structure AllAt (h : Hp) (c : Nat) (S : List Ent) (B : List Nat) : Prop where
  ex : ∃ s, h.get c = some (.cells [s] 56 0) ∧ SlN 61 3 h s (enE S) S.length B
  lt : c < h.n

section
variable {h h' : Hp} {b q c p : Nat} {H K S : List Ent} {n t now : Int} {ds B own : List Nat} {s : Value} {cs : List Value} {i k : Nat} {x : Ent} {y : Itm}

theorem AllAt.keep (x : AllAt h c S B) (g : ExtB ds h h') (hd : ∀ i, i ∈ c :: B → i ∉ ds) : AllAt h' c S B := by
  obtain ⟨⟨s, x1, x2⟩, x3⟩ := x
  exact ⟨⟨s, by rw [g.get c x3 (hd c (by simp))]; exact x1, x2.keep g fun i hi => hd i (by simp [hi])⟩, Nat.lt_of_lt_of_le x3 g.n⟩
theorem AllAt.ext (x : AllAt h c S B) (g : Ext h h') : AllAt h' c S B := x.keep (g.b []) (by simp)
theorem AllAt.lts (x : AllAt h c S B) : ∀ i, i ∈ c :: B → i < h.n := by
  obtain ⟨⟨s, x1, x2⟩, x3⟩ := x
  intro i hi
  rcases List.mem_cons.1 hi with rfl | hi
  · exact x3
  · exact x2.lt i hi

theorem c33n : C queE 33 [.slice none 0 0] h fun v h' => v = .slice none 0 0 ∧ h' = h := by
  refine c_enter (fu := Try.f33) (by kernel_rfl) rfl ?_
  refine w_seq ?_
  refine w_region (by kernel_rfl) ?_
  refine o_assign gn rfl rfl ?_
  refine wl_end ?_
  refine w_seq ?_
  refine w_seq ?_
  refine w_region (by kernel_rfl) ?_
  refine o_move gn rfl rfl ?_
  refine o_eqs gn rfl rfl rfl (by kernel_rfl) ?_
  refine wl_end ?_
  refine w_cond rfl (fun hb => ?_) fun hb => ?_
  · skip
    refine w_seq ?_
    refine w_region (by kernel_rfl) ?_
    refine o_assign gn rfl rfl ?_
    refine wl_end ?_
    refine w_ret ?_
    refine ⟨.inl rfl, _, rfl, ?_⟩
    exact ⟨rfl, rfl⟩
  · skip
    cases hb
theorem c33s {r : Nat} {v2 : Value} {h2 : Hp} (ea : appendX queE (h.alloc (.cells [] 61 0)) 56 56 (.slice (some ⟨h.n, 0, none⟩) 0 0) (.slice (some ⟨b, 0, none⟩) k r) = some (v2, h2)) :
    C queE 33 [.slice (some ⟨b, 0, none⟩) k r] h fun v h' => v = v2 ∧ h' = h2 := by
  refine c_enter (fu := Try.f33) (by kernel_rfl) rfl ?_
  refine w_seq ?_
  refine w_region (by kernel_rfl) ?_
  refine o_assign gn rfl rfl ?_
  refine wl_end ?_
  refine w_seq ?_
  refine w_seq ?_
  refine w_region (by kernel_rfl) ?_
  refine o_move gn rfl rfl ?_
  refine o_eqs gn rfl rfl rfl (by kernel_rfl) ?_
  refine wl_end ?_
  refine w_cond rfl (fun hb => ?_) fun hb => ?_
  · skip
    refine w_seq ?_
    refine w_region (by kernel_rfl) ?_
    refine o_assign gn rfl rfl ?_
    refine wl_end ?_
    refine w_ret ?_
    refine ⟨.inl rfl, _, rfl, ?_⟩
    cases hb
  · skip
    refine w_skip ?_
    refine w_seq ?_
    refine w_region (by kernel_rfl) ?_
    refine o_buildSlice (e := 61) (z := 3) (zv := .agg #[.int .i64 0, .bool false, .int .i64 0, .int .i64 0]) [] gn rfl (by kernel_rfl) (by kernel_rfl) (by kernel_rfl) (by kernel_rfl) rfl rfl ?_
    refine o_move gn rfl rfl ?_
    refine o_append gn rfl rfl rfl ea ag0 ?_
    refine o_assign gn rfl rfl ?_
    refine wl_end ?_
    refine w_ret ?_
    refine ⟨.inl rfl, _, rfl, ?_⟩
    exact ⟨rfl, rfl⟩
/-- slices.Clone -/
theorem c33 (hs : SlC 61 3 h s cs k B) (hc : cs.all cellV = true) (hk : k ≤ 100000) : C queE 33 [s] h fun v h' => ∃ B', SlN 61 3 h' v cs k B' ∧ (∀ i, i ∈ B' → h.n ≤ i) ∧ Ext h h' := by
  obtain ⟨v2, h2, B2, ea, s2, x2, f2⟩ := cloneC (E := queE) (t := 56) el61 hs hc (by omega)
  rcases hs with ⟨rfl, rfl, rfl, rfl⟩ | ⟨b, m, c, rest, rfl, hs⟩
  · exact c33n.mono fun v h' ⟨e1, e2⟩ => by subst e1; subst e2; exact ⟨[], .inl ⟨rfl, rfl, rfl, rfl⟩, by simp, .refl _⟩
  · exact (c33s ea).mono fun v h' ⟨e1, e2⟩ => by subst e1; subst e2; exact ⟨B2, s2, f2, x2⟩

/-- Copy -/
theorem c18 (x : QA h b H n own) (hl : H.length ≤ 100000) : C queE 18 [ptrV b] h fun v h' => ∃ b' own', v = ptrV b' ∧ QA h' b' H n own' ∧ (∀ i, i ∈ own' → h.n ≤ i) ∧ Ext h h' := by
  obtain ⟨s, B, x1, x2, x3, x4, rfl⟩ := x
  refine c_enter (fu := Try.f18) (by kernel_rfl) rfl ?_
  refine w_seq ?_
  refine w_region (by kernel_rfl) ?_
  refine o_assign gn rfl rfl ?_
  refine wl_end ?_
  refine w_seq ?_
  refine w_seq ?_
  refine w_region (by kernel_rfl) ?_
  refine o_move gn rfl rfl ?_
  refine o_eqp gn rfl rfl rfl (by kernel_rfl) ?_
  refine wl_end ?_
  refine w_cond rfl (fun hb => ?_) fun hb => ?_
  · skip
    refine w_seq ?_
    refine w_region (by kernel_rfl) ?_
    refine o_assign gn rfl rfl ?_
    refine wl_end ?_
    refine w_ret ?_
    refine ⟨.inl rfl, _, rfl, ?_⟩
    cases hb
  · skip
    refine w_skip ?_
    refine w_seq ?_
    refine w_draw [(0, []), (1, []), (2, []), (3, []), (5, []), (6, []), (7, []), (8, []), (4, [8]), (9, []), (10, []), (11, [])] (by kernel_rfl) (by kernel_rfl) (by kernel_rfl) (by kernel_rfl) ?_
    refine o_move gn rfl rfl ?_
    refine o_nilCheck gn rfl rfl ?_
    refine o_fieldAddr (off := 0) gn rfl rfl (by kernel_rfl) ?_
    refine o_load gn rfl rfl (by kernel_rfl) (by assumption) rfl ?_
    refine o_move gn rfl rfl ?_
    refine o_nilCheck gn rfl rfl ?_
    refine o_fieldAddr (off := 1) gn rfl rfl (by kernel_rfl) ?_
    refine o_load gn rfl rfl (by kernel_rfl) (by assumption) rfl ?_
    refine o_call [_] gn rfl rfl (by kernel_rfl) rfl (C.mono (c33 x2 (enE_all H) hl) ?_)
    rintro v2 h2 ⟨B2, s2, f2, x5⟩
    obtain ⟨a2, rfl⟩ := s2.val
    have x1' := (x5.get b x3).trans x1
    refine ⟨(ag1 (ag_load gn rfl (by kernel_rfl) (by assumption) rfl rfl same_int) ag0), ?_⟩
    refine o_build (zv := .agg #[.slice none 0 0, .int .i64 0]) (cs := #[.slice a2 H.length H.length, iV n]) (pl := [(0, 1), (1, 1)]) [(0, _), (1, _)] gn rfl (by kernel_rfl) (by kernel_rfl) rfl rfl ?_
    refine o_box gn rfl rfl ?_
    refine o_assign gn rfl rfl ?_
    refine wl_end ?_
    refine w_ret ?_
    refine ⟨.inl rfl, _, rfl, ?_⟩
    have h2n : h2.n ∉ B2 := fun e => by have := s2.lt _ e; omega
    exact ⟨h2.n, h2.n :: B2, rfl, ⟨_, B2, Hp.get_alloc_self _ _, s2.toC.ext (Ext.alloc _ _), by rw [Hp.n_alloc]; omega, h2n, rfl⟩, fun i hi => by
      rcases List.mem_cons.1 hi with rfl | hi
      · exact x5.n
      · exact f2 i hi, x5.trans (Ext.alloc _ _)⟩

/-- All -/
theorem c27 (x : QA h b H n own) (hn : (qs H).Nodup) (hl : H.length ≤ 100000) : C queE 27 [ptrV b] h fun v h' => ∃ c B, v = .func (.func 43) #[] #[ptrV c] ∧ AllAt h' c (sortB H) B ∧ (∀ i, i ∈ c :: B → h.n ≤ i) ∧ Ext h h' := by
  obtain ⟨s, B, x1, x2, x3, x4, rfl⟩ := x
  have hsl : (sortB H).length = H.length := (sortB_perm H).length_eq
  refine c_enter (fu := Try.f27) (by kernel_rfl) rfl ?_
  refine w_seq ?_
  refine w_region (by kernel_rfl) ?_
  refine o_assign gn rfl rfl ?_
  refine wl_end ?_
  refine w_seq ?_
  refine w_region (by kernel_rfl) ?_
  refine o_alloc (zv := .slice none 0 0) gn rfl (by kernel_rfl) ?_
  refine wl_at (fun h1 => h1.get h.n = some (.cells [.slice none 0 0] 56 0) ∧ h1.get b = some (.cells [s, iV n] 58 0) ∧ SlC 61 3 h1 s (enE H) H.length B ∧ Ext h h1 ∧ h1.n = h.n + 1) ⟨Hp.get_alloc_self _ _, ((Ext.alloc h _).get b x3).trans x1, x2.ext (Ext.alloc _ _), Ext.alloc _ _, Hp.n_alloc _ _⟩ fun h1 ⟨g1, g2, g3, e1, n1⟩ => ?_
  refine wl_end ?_
  refine w_seq ?_
  refine w_seq ?_
  refine w_region (by kernel_rfl) ?_
  refine o_move gn rfl rfl ?_
  refine o_nep gn rfl rfl rfl (by kernel_rfl) ?_
  refine wl_end ?_
  refine w_cond rfl (fun hb => ?_) fun hb => ?_
  · skip
    refine w_region (by kernel_rfl) ?_
    refine o_move gn rfl rfl ?_
    refine o_nilCheck gn rfl rfl ?_
    refine o_fieldAddr (off := 0) gn rfl rfl (by kernel_rfl) ?_
    refine o_load gn rfl rfl (by kernel_rfl) (by assumption) rfl ?_
    refine o_call [_] gn rfl rfl (by kernel_rfl) rfl (C.mono (c33 g3 (enE_all H) hl) ?_)
    rintro v2 h2 ⟨B2, s2, f2, x5⟩
    have hB2 : h.n ∉ B2 := fun e => by have := f2 _ e; omega
    obtain ⟨a2, rfl⟩ := s2.val
    have g4 := (x5.get h.n (by omega)).trans g1
    refine ⟨ag0, ?_⟩
    refine o_store gn rfl rfl rfl (by kernel_rfl) g4 (by decide) (by simp) ag0 ?_
    refine wl_at (fun h3 => h3.get h.n = some (.cells [.slice a2 H.length H.length] 56 0) ∧ SlN 61 3 h3 (.slice a2 H.length H.length) (enE H) H.length B2 ∧ Ext h h3 ∧ h.n < h3.n) ⟨Hp.get_put_self _ _ _, s2.keep (ExtB.put _ _ _) (fun i hi e => hB2 (by simp at e; exact e ▸ hi)), (e1.trans x5).of (ExtB.put _ _ _) (by simp), by rw [Hp.n_put]; have := x5.n; omega⟩ fun h3 ⟨k1, k2, x6, n3⟩ => ?_
    obtain ⟨h4, q1, q2, q3, q4, q5⟩ := sort_row k2 hn hl
    have k4 := (q3.get h.n n3 hB2).trans k1
    refine wl_end ?_
    refine w_seq ?_
    refine w_region (by kernel_rfl) ?_
    refine o_load gn rfl rfl (by kernel_rfl) (by assumption) rfl ?_
    refine o_sm [_, _] gn rfl rfl (by kernel_rfl) (by kernel_rfl) que_sm rfl q1 q4 ag0 ?_
    refine wl_end ?_
    refine w_seq ?_
    refine w_region (by kernel_rfl) ?_
    refine o_makeFunc1 gn rfl rfl ?_
    refine o_assign gn rfl rfl ?_
    refine wl_end ?_
    refine w_ret ?_
    refine ⟨.inl rfl, _, rfl, ?_⟩
    refine ⟨h.n, B2, rfl, ⟨⟨_, k4, by rw [hsl]; exact q2⟩, by rw [q5]; exact n3⟩, fun i hi => ?_, x6.of q3 (fun i hi => by have := f2 i hi; omega)⟩
    rcases List.mem_cons.1 hi with rfl | hi
    · exact Nat.le_refl _
    · have := f2 i hi; omega
  · skip
    cases hb
end

end Go.Proofs.Ytfjnnbdgehaeaaa


namespace Go.Proofs.Ytfjnnbdgehaeaaa
open Go.X

section
variable {h h' : Hp} {b q c p : Nat} {H K S : List Ent} {n t now : Int} {ds B own : List Nat} {s : Value} {cs : List Value} {i k : Nat} {y : Itm}

/-- What All yields -/
theorem c43 {x : Nat} (ha : AllAt h c S B) (hl : S.length ≤ 100000) (P : Nat → Hp → Prop) (R : Hp → Prop) (start : P 0 h) (mono : ∀ k h1 h2, P k h1 → Ext h1 h2 → P k h2)
    (round : ∀ k (_ : k < S.length) h1, P k h1 → AllAt h1 c S B → Y queE x [itV S[k]!.it] h1 fun v h2 => (∃ cs, ExtB cs h1 h2 ∧ ∀ i, i ∈ cs → i ∉ c :: B) ∧ ((v = .bool true ∧ P (k + 1) h2) ∨ (v = .bool false ∧ R h2))) :
    C queE 43 [.func (.yield x) #[] #[], ptrV c] h fun _ h' => P S.length h' ∨ R h' := by
  have ha0 := ha
  obtain ⟨⟨s, hc, hs⟩, hlc⟩ := ha
  obtain ⟨a, rfl⟩ := hs.val
  refine c_enter (fu := Try.f43) (by kernel_rfl) rfl ?_
  refine w_seq ?_
  refine w_region (by kernel_rfl) ?_
  refine o_load gn rfl rfl (by kernel_rfl) hc rfl ?_
  refine o_len gn rfl rfl (by kernel_rfl) ?_
  refine o_move gn rfl rfl ?_
  refine wl_end ?_
  refine w_block ?_
  refine w_weak [(0, .func (.yield x) #[] #[]), (1, ptrV c), (5, .slice a S.length S.length), (6, iV (S.length : Nat)), (7, iV (0 : Nat))] (by repeat (first | exact trivial | refine ⟨rfl, ?_⟩)) ?_
  refine w_loop (fun k l hh => ∃ (i : Nat), i ≤ S.length ∧ k = S.length - i ∧ P i hh ∧ AllAt hh c S B ∧ SlN 61 3 hh (.slice a S.length S.length) (enE S) S.length B ∧ l = [(0, .func (.yield x) #[] #[]), (1, ptrV c), (5, .slice a S.length S.length), (6, iV (S.length : Nat)), (7, iV (i : Nat))]) (n := S.length) ?_ fun k l hh hI => ?_
  · exact ⟨0, by omega, by omega, start, ha0, hs, rfl⟩
  · obtain ⟨i, hi, rfl, hP, hA, hS, rfl⟩ := hI
    refine w_seq ?_
    refine w_region (by kernel_rfl) ?_
    refine o_lss gn rfl rfl rfl ?_
    refine wl_end ?_
    refine w_seq ?_
    refine w_cond rfl (fun hb => ?_) fun hb => ?_
    · skip
      have hlt : i < S.length := by simpa using hb
      obtain ⟨bw, m, ea, hg, hm, hbw, hB, _⟩ := hS.at (by omega)
      simp only [Value.slice.injEq, and_true] at ea
      subst ea
      have hel := enE_len S
      have hcut := enE_cut hlt []
      rw [List.append_nil] at hcut
      refine w_skip ?_
      refine w_seq ?_
      refine w_block ?_
      refine w_seq ?_
      refine w_region (by kernel_rfl) ?_
      refine o_indexAddr (zz := 4) gn rfl rfl rfl (by kernel_rfl) (by omega) (by omega) ?_
      rw [Int.toNat_natCast, Nat.zero_add]
      refine o_loadA (n := 4) gn rfl rfl (by kernel_rfl) (by kernel_rfl) hg (by omega) ?_
      rw [hcut]
      refine o_alloc (zv := .agg #[.int .i64 0, .bool false, .int .i64 0, .int .i64 0]) gn rfl (by kernel_rfl) ?_
      refine o_storeA (n := 4) gn rfl rfl rfl (by kernel_rfl) rfl (Hp.get_alloc_self _ _) (by decide) rfl ag0 ?_
      refine wl_at (fun h3 => h3.get hh.n = some (.cells (encE S[i]!) 61 0) ∧ Ext hh h3) ⟨Hp.get_put_self _ _ _, (Ext.alloc _ _).of (ExtB.put _ _ _) (by simp)⟩ fun h3 ⟨g3, x3⟩ => ?_
      refine wl_end ?_
      refine w_seq ?_
      refine w_region (by kernel_rfl) ?_
      refine o_move gn rfl rfl ?_
      refine o_fieldAddr (off := 0) gn rfl rfl (by kernel_rfl) ?_
      refine o_loadA (n := 3) gn rfl rfl (by kernel_rfl) (by kernel_rfl) g3 (by simp [encE]) ?_
      have hY := round i hlt _ (mono _ _ _ hP x3) (hA.ext x3)
      refine o_yield [_] gn rfl rfl rfl (Y.mono hY ?_)
      rintro v2 h4 ⟨⟨cs, gx, hcs⟩, hv2⟩
      have hA2 : AllAt h4 c S B := (hA.ext x3).keep gx (fun i hi hj => hcs i hj hi)
      have hS2 := (hS.ext x3).keep gx fun i hi hj => hcs i hj (by simp [hi])
      obtain ⟨t, rfl, hv4⟩ : ∃ t, v2 = .bool t ∧ ((t = true ∧ P (i + 1) h4) ∨ (t = false ∧ R h4)) := by
        rcases hv2 with ⟨rfl, hh⟩ | ⟨rfl, hh⟩
        · exact ⟨true, rfl, .inl ⟨rfl, hh⟩⟩
        · exact ⟨false, rfl, .inr ⟨rfl, hh⟩⟩
      refine ⟨ag0, ?_⟩
      refine o_not gn rfl rfl ?_
      refine wl_end ?_
      refine w_cond rfl (fun hb => ?_) fun hb => ?_
      · skip
        refine w_ret ?_
        refine ⟨.inl rfl, _, rfl, ?_⟩
        rcases hv4 with ⟨rfl, _⟩ | ⟨_, hv4⟩
        · cases hb
        · exact .inr hv4
      · skip
        rcases hv4 with ⟨_, hv3⟩ | ⟨rfl, _⟩
        case inr => cases hb
        refine w_skip ?_
        refine w_region (by kernel_rfl) ?_
        refine o_add gn rfl rfl rfl (by omega) (by omega) ?_
        refine o_move gn rfl rfl ?_
        refine wl_end ?_
        exact ⟨S.length - (i + 1), by omega, _, (by repeat (first | exact trivial | refine ⟨rfl, ?_⟩)), ⟨i + 1, by omega, rfl, hv3, hA2, hS2, rfl⟩⟩
    · skip
      refine w_exit ?_
      refine thn_exit ?_
      refine rnd_exit ?_
      refine blk_eq ?_
      refine ⟨.inr rfl, _, rfl, ?_⟩
      have hge : i = S.length := by simp at hb; omega
      subst hge
      exact .inl hP
end

end Go.Proofs.Ytfjnnbdgehaeaaa


namespace Go.Proofs.Ytfjnnbdgehaeaaa
open Go.X

theorem elI : ElN queE 22 30 2 23 := ⟨by kernel_rfl, by kernel_rfl, by kernel_rfl, .agg #[.int .i64 0, .bool false, .int .i64 0], by kernel_rfl, rfl⟩
def itC (y : Itm) : List Value := [iV y.t, .bool y.f, iV y.d]
abbrev enI (L : List Itm) : List Value := L.flatMap itC
theorem enI_len (L : List Itm) : (enI L).length = L.length * 3 := flat_len (enc := itC) (k := 3) (fun _ => rfl) L
theorem enI_all (L : List Itm) : (enI L).all cellV = true := by simp [enI, itC, List.all_eq_true, cellV]
theorem enI_app (L K : List Itm) : enI (L ++ K) = enI L ++ enI K := by simp [enI]
instance : Inhabited Itm := ⟨itZ⟩
def takeM (l : List Itm) (most : Int) : List Itm := if 1 ≤ most then l.take most.toNat else l

/-- A cell that holds a list of items. -/
def LAt (h : Hp) (o : Nat) (L : List Itm) (B : List Nat) : Prop := ∃ sv, h.get o = some (.cells [sv] 22 0) ∧ SlN 30 2 h sv (enI L) L.length B

section
variable {h h' : Hp} {b q c p o : Nat} {H K S : List Ent} {L : List Itm} {n t most : Int} {ds B own : List Nat} {s sv : Value} {cs : List Value} {i k : Nat} {y : Itm}

theorem LAt.keep (x : LAt h o L B) (g : ExtB ds h h') (ho : o < h.n) (h1 : o ∉ ds) (hd : ∀ i, i ∈ B → i ∉ ds) : LAt h' o L B := by
  obtain ⟨sv, x1, x2⟩ := x
  exact ⟨sv, by rw [g.get o ho h1]; exact x1, x2.keep g hd⟩

theorem push_it (hs : SlN 30 2 h sv (enI L) L.length B) (hn : L.length ≤ 100000) :
    ∃ a h' B', appendX queE (h.alloc (.cells (itC y) 30 0)) 22 22 sv (.slice (some ⟨h.n, 0, none⟩) 1 1) = some (.slice a (L.length + 1) (L.length + 1), h') ∧ SlN 30 2 h' (.slice a (L.length + 1) (L.length + 1)) (enI (L ++ [y])) (L ++ [y]).length B' ∧ ExtB B h h' ∧ ∀ i, i ∈ B' → i ∈ B ∨ h.n ≤ i := by
  have x5 : Ext h (h.alloc (.cells (itC y) 30 0)) := Ext.alloc _ _
  obtain ⟨v', h6, a1, a2, a3⟩ := appendN (E := queE) (t := 22) elI (hs.ext x5) (Hp.get_alloc_self _ _) rfl rfl (by omega)
  obtain ⟨a, rfl⟩ := a2.val
  refine ⟨a, h6, [(h.alloc (.cells (itC y) 30 0)).n], a1, ?_, (x5.b B).trans a3, fun i hi => .inr (by rw [Hp.n_alloc] at hi; simp at hi; omega)⟩
  rw [enI_app, List.length_append]
  exact a2

/-- list -/
theorem c12 (x : QA h b H n own) (hn : (qs H).Nodup) (hl : H.length ≤ 100000) :
    C queE 12 [ptrV b, iV most] h fun v h' => ∃ sv B', v = .tuple #[sv, .bool true] ∧ SlN 30 2 h' sv (enI (takeM ((sortB H).map Ent.it) most)) (takeM ((sortB H).map Ent.it) most).length B' ∧ (∀ i, i ∈ B' → h.n ≤ i) ∧ Ext h h' := by
  have hsl : (sortB H).length = H.length := (sortB_perm H).length_eq
  have hAll := fun (h1 : Hp) (g : Ext h h1) => c27 (x.ext g) hn hl
  generalize sortB H = S at hAll hsl ⊢
  refine c_enterR (fu := Try.f12) (by kernel_rfl) rfl ?_
  refine w_seq ?_
  refine w_region (by kernel_rfl) ?_
  refine o_box gn rfl rfl ?_
  refine o_assign gn rfl rfl ?_
  refine o_assign gn rfl rfl ?_
  refine wl_end ?_
  refine w_seq ?_
  refine w_region (by kernel_rfl) ?_
  refine o_alloc (zv := .slice none 0 0) gn rfl (by kernel_rfl) ?_
  rw [Hp.n_alloc]
  refine wl_at (fun h1 => h1.get h.n = some (.cells [iV most] 3 0) ∧ h1.get (h.n + 1) = some (.cells [.slice none 0 0] 22 0) ∧ Ext h h1 ∧ h1.n = h.n + 2) ⟨?_, ?_, (Ext.alloc _ _).trans (Ext.alloc _ _), by simp only [Hp.n_alloc]⟩ fun h1 ⟨g1, g2, x1, n1⟩ => ?_
  · rw [Hp.get_alloc, if_neg (by rw [Hp.n_alloc]; omega)]; exact Hp.get_alloc_self _ _
  · rw [Hp.get_alloc, if_pos (Hp.n_alloc _ _)]; rfl
  refine wl_end ?_
  refine w_seq ?_
  refine w_region (by kernel_rfl) ?_
  refine o_move gn rfl rfl ?_
  refine o_call [_] gn rfl rfl (by kernel_rfl) rfl (C.mono (hAll h1 x1) ?_)
  rintro v2 h2 ⟨c, Bc, rfl, ha2, fa2, x2⟩
  have x2n := x2.n
  have hal := ha2.lts
  refine ⟨ag0, ?_⟩
  refine o_assign gn rfl rfl ?_
  refine wl_end ?_
  refine w_seq ?_
  refine w_seq ?_
  refine w_region (by kernel_rfl) ?_
  refine o_move gn rfl rfl ?_
  refine o_eqf gn rfl rfl rfl (by kernel_rfl) ?_
  refine wl_end ?_
  refine w_cond rfl (fun hb => ?_) fun hb => ?_
  · skip
    cases hb
  · skip
    refine w_skip ?_
    refine w_seq ?_
    refine w_seq ?_
    refine w_region (by kernel_rfl) ?_
    refine o_move gn rfl rfl ?_
    refine wl_end ?_
    refine w_block ?_
    refine w_weak [(3, ptrV h.n), (6, ptrV (h.n + 1)), (13, .func (.func 43) #[] #[ptrV c])] (by repeat (first | exact trivial | refine ⟨rfl, ?_⟩)) ?_
    refine w_rangeA rfl rfl (by kernel_rfl) (by kernel_rfl) (by kernel_rfl) (by kernel_rfl) fun rc hR h0 hx0 hn0 hrc => ?_
    have k1 := ((x2.trans hx0).get h.n (by omega)).trans g1
    have k2 := ((x2.trans hx0).get (h.n + 1) (by omega)).trans g2
    have x10 := x1.trans (x2.trans hx0)
    have hal0 : ∀ i, i ∈ c :: Bc → h.n + 2 ≤ i ∧ i < h2.n := fun i hi => ⟨by have := fa2 i hi; omega, hal i hi⟩
    have hround : ∀ k (hk : k < S.length) (m1 : Hp), (m1.get (h2.n + 1) = some (rc .ready none) ∧ ExtB [h.n + 1, h2.n + 1] h0 m1 ∧ ¬ (1 ≤ most ∧ most ≤ (k : Int)) ∧ ∃ B, LAt m1 (h.n + 1) ((S.map Ent.it).take k) B ∧ ∀ i, i ∈ B → h0.n ≤ i) → AllAt m1 c S Bc → Y queE (h2.n + 1) [itV S[k]!.it] m1 fun v m2 => (∃ cs, ExtB cs m1 m2 ∧ ∀ i, i ∈ cs → i ∉ c :: Bc) ∧
      ((v = .bool true ∧ (m2.get (h2.n + 1) = some (rc .ready none) ∧ ExtB [h.n + 1, h2.n + 1] h0 m2 ∧ ¬ (1 ≤ most ∧ most ≤ ((k + 1 : Nat) : Int)) ∧ ∃ B, LAt m2 (h.n + 1) ((S.map Ent.it).take (k + 1)) B ∧ ∀ i, i ∈ B → h0.n ≤ i)) ∨
        (v = .bool false ∧ (m2.get (h2.n + 1) = some (rc .done (some (.exit 0))) ∧ ExtB [h.n + 1, h2.n + 1] h0 m2 ∧ 1 ≤ most ∧ ∃ B, LAt m2 (h.n + 1) ((S.map Ent.it).take most.toNat) B ∧ ∀ i, i ∈ B → h0.n ≤ i))) := fun k hk m1 ⟨p1, p2, p3, B, ⟨sv, p4, p5⟩, p6⟩ hA => by
        refine hR.round p1 rfl ?_
        refine w_region (by kernel_rfl) ?_
        refine o_alloc (zv := .agg #[.int .i64 0, .bool false, .int .i64 0]) gn rfl (by kernel_rfl) ?_
        refine o_storeA (n := 3) gn rfl rfl rfl (by kernel_rfl) rfl (Hp.get_alloc_self _ _) (by decide) rfl ag0 ?_
        have p2n := p2.n
        refine wl_at (fun m2 => m2.get m1.n = some (.cells [iV S[k]!.t, .bool S[k]!.f, iV S[k]!.d] 30 0) ∧ Ext m1 m2 ∧ m1.n < m2.n) ⟨Hp.get_put_self _ _ _, (Ext.alloc _ _).of (ExtB.put _ _ _) (by simp), by rw [Hp.n_put, Hp.n_alloc]; omega⟩ fun m2 ⟨f1, f2, f3⟩ => ?_
        refine wl_end ?_
        refine ⟨_, ((f2.get _ (by omega)).trans p1), ?_⟩
        refine w_at (fun m3 => m3.get (h2.n + 1) = some (rc .busy none) ∧ m3.get (h.n + 1) = some (.cells [sv] 22 0) ∧ m3.get m1.n = some (.cells [iV S[k]!.t, .bool S[k]!.f, iV S[k]!.d] 30 0) ∧ ExtB [h2.n + 1] m1 m3 ∧ m1.n < m3.n) ⟨Hp.get_put_self _ _ _, by rw [Hp.get_put, if_neg (by omega)]; exact (f2.get _ (by omega)).trans p4, by rw [Hp.get_put, if_neg (by omega)]; exact f1, (f2.b _).trans (ExtB.put _ _ _), by rw [Hp.n_put]; exact f3⟩ fun m3 ⟨q1, q2, q3, q4, q5⟩ => ?_
        have hs3 := p5.keep q4 (fun i hi hj => by have := p6 i hi; simp at hj; omega)
        obtain ⟨asv, rfl⟩ := hs3.val
        have hbl := hs3.lt
        have htl : ((S.map Ent.it).take k).length = k := by rw [List.length_take, List.length_map]; omega
        have htk : (S.map Ent.it).take (k + 1) = (S.map Ent.it).take k ++ [S[k]!.it] := by
          rw [List.take_add_one, List.getElem?_map, List.getElem?_eq_getElem hk]
          have : S[k]! = S[k] := by simp [hk]
          rw [this]; rfl
        rw [htl] at hs3 q2
        refine w_block ?_
        refine w_seq ?_
        refine w_region (by kernel_rfl) ?_
        refine o_load gn rfl rfl (by kernel_rfl) q2 rfl ?_
        refine o_loadA (n := 3) gn rfl rfl (by kernel_rfl) (by kernel_rfl) q3 (by simp) ?_
        rw [show (([iV S[k]!.t, Value.bool S[k]!.f, iV S[k]!.d].drop 0).take 3).toArray = #[iV S[k]!.t, .bool S[k]!.f, iV S[k]!.d] from rfl]
        refine o_buildSlice (cs := #[iV S[k]!.t, .bool S[k]!.f, iV S[k]!.d]) (e := 30) (z := 2) (zv := .agg #[.int .i64 0, .bool false, .int .i64 0]) [(0, _)] gn rfl (by kernel_rfl) (by kernel_rfl) (by kernel_rfl) (by kernel_rfl) rfl rfl ?_
        obtain ⟨a7, h7, B7, b1, b2, b3, b4⟩ := push_it (y := S[k]!.it) (L := (S.map Ent.it).take k) (by rw [htl]; exact hs3) (by omega)
        rw [← htk] at b2
        rw [htl] at b1 b2
        have n7 := b3.n
        have hnB : ∀ j, j < h0.n → j ∉ B := fun j hj hm => by have := p6 j hm; omega
        have f7 := (b3.get (h.n + 1) (by omega) (hnB _ (by omega))).trans q2
        have f8 := (b3.get (h2.n + 1) (by omega) (hnB _ (by omega))).trans q1
        refine o_append gn rfl rfl rfl b1 ag0 ?_
        refine o_store gn rfl rfl rfl (by kernel_rfl) f7 (by decide) (by simp) ag0 ?_
        refine wl_end ?_
        have hB7 : ∀ i, i ∈ B7 → h0.n ≤ i := fun i hi => by
          rcases b4 i hi with h9 | h9
          · exact p6 i h9
          · omega
        have gx : ExtB ((h2.n + 1) :: (h.n + 1) :: B) m1 (h7.put (h.n + 1) (.cells [.slice a7 (k + 1) (k + 1)] 22 0)) := (q4.mono (by simp)).trans ((b3.mono (fun j hj _ => by simp [hj])).trans ((ExtB.put _ _ _).mono (by simp)))
        have gh : ExtB [h.n + 1, h2.n + 1] h0 (h7.put (h.n + 1) (.cells [.slice a7 (k + 1) (k + 1)] 22 0)) := ⟨Nat.le_trans p2n gx.n, fun i hi hn => (gx.get i (by omega) (fun hj => by
          simp only [List.mem_cons] at hj
          rcases hj with hj | hj | hj
          · exact hn (by simp [hj])
          · exact hn (by simp [hj])
          · exact hnB i hi hj)).trans (p2.get i hi hn)⟩
        refine w_at (fun m6 => m6.get (h.n + 1) = some (.cells [.slice a7 (k + 1) (k + 1)] 22 0) ∧ m6.get (h2.n + 1) = some (rc .busy none) ∧ SlN 30 2 m6 (.slice a7 (k + 1) (k + 1)) (enI ((S.map Ent.it).take (k + 1))) ((S.map Ent.it).take (k + 1)).length B7 ∧ ExtB ((h2.n + 1) :: (h.n + 1) :: B) m1 m6 ∧ ExtB [h.n + 1, h2.n + 1] h0 m6) ⟨Hp.get_put_self _ _ _, by rw [Hp.get_put, if_neg (by omega)]; exact f8, b2.keep (ExtB.put _ _ _) (fun i hi hj => by have := hB7 i hi; simp at hj; omega), gx, gh⟩ fun m6 ⟨r1, r2, r3, r4, r5⟩ => ?_
        have r6 := (r5.get h.n (by omega) (by simp; omega)).trans k1
        have r5n := r5.n
        have hx6 : ∀ o, ExtB [h2.n + 1] m6 (m6.put (h2.n + 1) o) := fun o => ExtB.put _ _ _
        have hL6 : ∀ o, LAt (m6.put (h2.n + 1) o) (h.n + 1) ((S.map Ent.it).take (k + 1)) B7 := fun o => (LAt.keep ⟨_, r1, r3⟩ (hx6 o) (by omega) (by simp; omega) (fun i hi hj => by have := hB7 i hi; simp at hj; omega))
        have hcs : ∀ i, i ∈ (h.n + 1) :: (h2.n + 1) :: B → i ∉ c :: Bc := fun i hi hj => by
          have := hal0 i hj
          simp only [List.mem_cons] at hi
          rcases hi with hi | hi | hi
          · omega
          · omega
          · have := p6 i hi; omega
        have hgx : ∀ o, ExtB ((h.n + 1) :: (h2.n + 1) :: B) m1 (m6.put (h2.n + 1) o) := fun o => (r4.mono (by simp; grind)).trans ((hx6 o).mono (by simp))
        refine w_seq ?_
        refine w_region (by kernel_rfl) ?_
        refine o_load gn rfl rfl (by kernel_rfl) (by assumption) rfl ?_
        refine o_len gn rfl rfl (by kernel_rfl) ?_
        refine o_load gn rfl rfl (by kernel_rfl) (by assumption) rfl ?_
        refine o_eqi gn rfl rfl rfl ?_
        refine wl_end ?_
        refine w_cond rfl (fun hb => ?_) fun hb => ?_
        · skip
          refine w_exit ?_
          refine blk_ne (by decide) ?_
          exact ⟨_, _, r2, ⟨⟨_, hgx _, hcs⟩, .inr ⟨rfl, Hp.get_put_self _ _ _, r5.trans ((hx6 _).mono (by simp)), by simp at hb; omega, B7, by
            have : most.toNat = k + 1 := by simp at hb; omega
            rw [this]; exact hL6 _, hB7⟩⟩⟩
        · skip
          refine w_skip ?_
          exact ⟨_, _, r2, ⟨⟨_, hgx _, hcs⟩, .inl ⟨rfl, Hp.get_put_self _ _ _, r5.trans ((hx6 _).mono (by simp)), by simp at hb; omega, B7, hL6 _, hB7⟩⟩⟩
    refine C.mono (c43 (ha2.ext hx0) (by omega) (fun k m1 => m1.get (h2.n + 1) = some (rc .ready none) ∧ ExtB [h.n + 1, h2.n + 1] h0 m1 ∧ ¬ (1 ≤ most ∧ most ≤ (k : Int)) ∧ ∃ B, LAt m1 (h.n + 1) ((S.map Ent.it).take k) B ∧ ∀ i, i ∈ B → h0.n ≤ i) (fun m2 => m2.get (h2.n + 1) = some (rc .done (some (.exit 0))) ∧ ExtB [h.n + 1, h2.n + 1] h0 m2 ∧ 1 ≤ most ∧ ∃ B, LAt m2 (h.n + 1) ((S.map Ent.it).take most.toNat) B ∧ ∀ i, i ∈ B → h0.n ≤ i) ⟨hrc, .refl _ _, by omega, [], ⟨.slice none 0 0, k2, .inl ⟨rfl, rfl, rfl, rfl⟩⟩, by simp⟩
      (fun k m1 m2 ⟨u1, u2, u3, B, u4, u5⟩ g => ⟨(g.get _ (by have := u2.n; omega)).trans u1, u2.trans (g.b _), u3, B, u4.keep (g.b []) (by have := u2.n; omega) (by simp) (by simp), u5⟩) hround) ?_
    rintro v h' hPR
    obtain ⟨st, p, hrec, hst, hp, hxx, B, ⟨sv, hcell, hsv⟩, hB⟩ : ∃ st p, h'.get (h2.n + 1) = some (rc st p) ∧ st ≠ .busy ∧ (p = none ∨ p = some (.exit 0)) ∧ ExtB [h.n + 1, h2.n + 1] h0 h' ∧ ∃ B, LAt h' (h.n + 1) (takeM (S.map Ent.it) most) B ∧ ∀ i, i ∈ B → h0.n ≤ i := by
      rcases hPR with ⟨e1, e2, e3, B, e5, e6⟩ | ⟨e1, e2, e3, B, e5, e6⟩
      · refine ⟨_, _, e1, by simp, .inl rfl, e2, B, ?_, e6⟩
        rw [List.take_of_length_le (by simp)] at e5
        unfold takeM
        split
        · rw [List.take_of_length_le (by simp; omega)]; exact e5
        · exact e5
      · exact ⟨_, _, e1, by simp, .inr rfl, e2, B, by rw [takeM, if_pos e3]; exact e5, e6⟩
    refine ⟨_, _, hrec, hst, fun m9 hx2 hn2 => ?_⟩
    refine aft_blk hp ?_
    have hxxn := hxx.n
    have c9 := (hx2.get (h.n + 1) (by omega) (by simp; omega)).trans hcell
    have s9 := hsv.keep hx2 (fun i hi hj => by have := hB i hi; simp at hj; omega)
    refine w_seq ?_
    refine w_region (by kernel_rfl) ?_
    refine o_load gn rfl rfl (by kernel_rfl) c9 rfl ?_
    refine o_assign gn rfl rfl ?_
    refine o_assign gn rfl rfl ?_
    refine wl_end ?_
    refine w_ret ?_
    refine ⟨.inl rfl, _, (resH_tmp rfl (resH_tmp rfl rfl)), fun h2 hco => ?_⟩
    refine ⟨sv, B, rfl, ?_, fun i hi => by have := hB i hi; have := x10.n; omega, hco.ext ((x10.of hxx (by simp; omega)).of hx2 (by simp; omega))⟩
    rcases s9 with s9 | ⟨bb, m, e1, e2, e3, e4, e5⟩
    · exact .inl s9
    · exact .inr ⟨bb, m, e1, hco.cells e2, e3, by rw [hco.1]; exact e4, e5⟩
end

end Go.Proofs.Ytfjnnbdgehaeaaa


namespace Go.Proofs.Ytfjnnbdgehaeaaa
open Go.X

/-- The first entry that is no front one: when it is due, and is there one? -/
def nxF (S : List Ent) : Int × Bool := match S.find? fun x => !x.f with
  | some x => (x.d, true)
  | none => (0, false)
theorem nxF_next {S : List Ent} {k : Nat} (hk : k < S.length) : nxF (S.take (k + 1)) = if (!S[k]!.f && !(nxF (S.take k)).2) = true then (S[k]!.d, true) else nxF (S.take k) := by
  have e : S.take (k + 1) = S.take k ++ [S[k]!] := by
    rw [List.take_add_one, List.getElem?_eq_getElem hk]
    have : S[k]! = S[k] := by simp [hk]
    rw [this]; rfl
  rw [e]
  unfold nxF
  rw [List.find?_append]
  cases h1 : (S.take k).find? (fun x => !x.f) with
  | some x => simp
  | none =>
    cases h2 : S[k]!.f with
    | true => rw [List.find?_cons, List.find?_nil, h2]; rfl
    | false => rw [List.find?_cons, h2]; rfl

section
variable {h h' : Hp} {b q c p o : Nat} {H K S : List Ent} {L : List Itm} {n t most : Int} {ds B own : List Nat} {s sv : Value} {cs : List Value} {i k : Nat} {y : Itm}

/-- Next -/
theorem c15 (x : QA h b H n own) (hn : (qs H).Nodup) (hl : H.length ≤ 100000) :
    C queE 15 [ptrV b] h fun v h' => v = .tuple #[iV (nxF (sortB H)).1, .bool (nxF (sortB H)).2] ∧ Ext h h' := by
  have hsl : (sortB H).length = H.length := (sortB_perm H).length_eq
  have hAll := fun (h1 : Hp) (g : Ext h h1) => c27 (x.ext g) hn hl
  generalize sortB H = S at hAll hsl ⊢
  refine c_enterR (fu := Try.f15) (by kernel_rfl) rfl ?_
  refine w_seq ?_
  refine w_region (by kernel_rfl) ?_
  refine o_assign gn rfl rfl ?_
  refine o_assign gn rfl rfl ?_
  refine wl_end ?_
  refine w_seq ?_
  refine w_region (by kernel_rfl) ?_
  refine o_alloc (zv := .int .i64 0) gn rfl (by kernel_rfl) ?_
  refine o_alloc (zv := .bool false) gn rfl (by kernel_rfl) ?_
  rw [Hp.n_alloc]
  refine wl_at (fun h1 => h1.get h.n = some (.cells [iV 0] 2 0) ∧ h1.get (h.n + 1) = some (.cells [.bool false] 4 0) ∧ Ext h h1 ∧ h1.n = h.n + 2) ⟨?_, ?_, (Ext.alloc _ _).trans (Ext.alloc _ _), by simp only [Hp.n_alloc]⟩ fun h1 ⟨g1, g2, x1, n1⟩ => ?_
  · rw [Hp.get_alloc, if_neg (by rw [Hp.n_alloc]; omega)]; exact Hp.get_alloc_self _ _
  · rw [Hp.get_alloc, if_pos (Hp.n_alloc _ _)]; rfl
  refine o_store gn rfl rfl rfl (by kernel_rfl) g1 (by decide) (by simp) ag0 ?_
  refine o_store gn rfl rfl rfl (by kernel_rfl) (show _ = some (AObj.cells [.bool false] 4 0) by rw [Hp.get_put, if_neg (by omega)]; exact g2) (by decide) (by simp) ag0 ?_
  refine wl_at (fun h1 => h1.get h.n = some (.cells [iV 0] 2 0) ∧ h1.get (h.n + 1) = some (.cells [.bool false] 4 0) ∧ Ext h h1 ∧ h1.n = h.n + 2) ⟨by rw [Hp.get_put, if_neg (by omega)]; exact Hp.get_put_self _ _ _, Hp.get_put_self _ _ _, x1.of (ExtB.put2 _ _ _ _ _) (by simp), by simp only [Hp.n_put, n1]⟩ fun h1 ⟨g1, g2, x1, n1⟩ => ?_
  refine wl_end ?_
  refine w_seq ?_
  refine w_seq ?_
  refine w_region (by kernel_rfl) ?_
  refine o_move gn rfl rfl ?_
  refine o_call [_] gn rfl rfl (by kernel_rfl) rfl (C.mono (hAll h1 x1) ?_)
  rintro v2 h2 ⟨c, Bc, rfl, ha2, fa2, x2⟩
  have x2n := x2.n
  have hal := ha2.lts
  refine ⟨ag0, ?_⟩
  refine wl_end ?_
  refine w_block ?_
  refine w_weak [(4, ptrV h.n), (5, ptrV (h.n + 1)), (8, .func (.func 43) #[] #[ptrV c])] (by repeat (first | exact trivial | refine ⟨rfl, ?_⟩)) ?_
  refine w_rangeA rfl rfl (by kernel_rfl) (by kernel_rfl) (by kernel_rfl) (by kernel_rfl) fun rc hR h0 hx0 hn0 hrc => ?_
  have k1 := ((x2.trans hx0).get h.n (by omega)).trans g1
  have k2 := ((x2.trans hx0).get (h.n + 1) (by omega)).trans g2
  have x10 := x1.trans (x2.trans hx0)
  have hal0 : ∀ i, i ∈ c :: Bc → h.n + 2 ≤ i ∧ i < h2.n := fun i hi => ⟨by have := fa2 i hi; omega, hal i hi⟩
  have hround : ∀ k (hk : k < S.length) (m1 : Hp), (m1.get (h2.n + 1) = some (rc .ready none) ∧ ExtB [h.n, h.n + 1, h2.n + 1] h0 m1 ∧ m1.get h.n = some (.cells [iV (nxF (S.take k)).1] 2 0) ∧ m1.get (h.n + 1) = some (.cells [.bool (nxF (S.take k)).2] 4 0)) → AllAt m1 c S Bc → Y queE (h2.n + 1) [itV S[k]!.it] m1 fun v m2 => (∃ cs, ExtB cs m1 m2 ∧ ∀ i, i ∈ cs → i ∉ c :: Bc) ∧
    ((v = .bool true ∧ (m2.get (h2.n + 1) = some (rc .ready none) ∧ ExtB [h.n, h.n + 1, h2.n + 1] h0 m2 ∧ m2.get h.n = some (.cells [iV (nxF (S.take (k + 1))).1] 2 0) ∧ m2.get (h.n + 1) = some (.cells [.bool (nxF (S.take (k + 1))).2] 4 0))) ∨ (v = .bool false ∧ False)) := fun k hk m1 ⟨p1, p2, p3, p4⟩ hA => by
      refine hR.round p1 rfl ?_
      refine w_region (by kernel_rfl) ?_
      refine o_alloc (zv := .agg #[.int .i64 0, .bool false, .int .i64 0]) gn rfl (by kernel_rfl) ?_
      refine o_storeA (n := 3) gn rfl rfl rfl (by kernel_rfl) rfl (Hp.get_alloc_self _ _) (by decide) rfl ag0 ?_
      have p2n := p2.n
      refine wl_at (fun m2 => m2.get m1.n = some (.cells [iV S[k]!.t, .bool S[k]!.f, iV S[k]!.d] 30 0) ∧ Ext m1 m2 ∧ m1.n < m2.n) ⟨Hp.get_put_self _ _ _, (Ext.alloc _ _).of (ExtB.put _ _ _) (by simp), by rw [Hp.n_put, Hp.n_alloc]; omega⟩ fun m2 ⟨f1, f2, f3⟩ => ?_
      refine wl_end ?_
      refine ⟨_, ((f2.get _ (by omega)).trans p1), ?_⟩
      refine w_at (fun m3 => m3.get (h2.n + 1) = some (rc .busy none) ∧ m3.get h.n = some (.cells [iV (nxF (S.take k)).1] 2 0) ∧ m3.get (h.n + 1) = some (.cells [.bool (nxF (S.take k)).2] 4 0) ∧ m3.get m1.n = some (.cells [iV S[k]!.t, .bool S[k]!.f, iV S[k]!.d] 30 0) ∧ ExtB [h2.n + 1] m1 m3 ∧ m1.n < m3.n) ⟨Hp.get_put_self _ _ _, by rw [Hp.get_put, if_neg (by omega)]; exact (f2.get _ (by omega)).trans p3, by rw [Hp.get_put, if_neg (by omega)]; exact (f2.get _ (by omega)).trans p4, by rw [Hp.get_put, if_neg (by omega)]; exact f1, (f2.b _).trans (ExtB.put _ _ _), by rw [Hp.n_put]; exact f3⟩ fun m3 ⟨q1, q2, q3, q4, q5, q6⟩ => ?_
      have hnx := nxF_next hk
      have q5n := q5.n
      refine w_block ?_
      refine w_seq ?_
      refine w_region (by kernel_rfl) ?_
      refine o_fieldAddr (off := 1) gn rfl rfl (by kernel_rfl) ?_
      refine o_load gn rfl rfl (by kernel_rfl) q4 rfl ?_
      refine o_not gn rfl rfl ?_
      refine o_move gn rfl rfl ?_
      refine o_and (n := 2) rfl rfl rfl gn rfl (fun hb => by
          refine o_load (gy rfl rfl rfl hb) rfl rfl (by kernel_rfl) q3 rfl ?_
          refine o_not (gy rfl rfl rfl hb) rfl rfl ?_
          exact wl_end ⟨rfl, rfl, 2, rfl, rfl⟩) ?_
      refine wl_end ?_
      refine w_cond rfl (fun hb => ?_) fun hb => ?_
      · skip
        refine w_region (by kernel_rfl) ?_
        refine o_fieldAddr (off := 2) gn rfl rfl (by kernel_rfl) ?_
        refine o_load gn rfl rfl (by kernel_rfl) q4 rfl ?_
        refine o_store gn rfl rfl rfl (by kernel_rfl) q2 (by decide) (by simp) ag0 ?_
        refine o_store gn rfl rfl rfl (by kernel_rfl) (show _ = some (AObj.cells [.bool (nxF (S.take k)).2] 4 0) by rw [Hp.get_put, if_neg (by omega)]; exact q3) (by decide) (by simp) ag0 ?_
        rw [if_pos hb] at hnx
        refine wl_at (fun m4 => m4.get (h2.n + 1) = some (rc .busy none) ∧ m4.get h.n = some (.cells [iV (nxF (S.take (k + 1))).1] 2 0) ∧ m4.get (h.n + 1) = some (.cells [.bool (nxF (S.take (k + 1))).2] 4 0) ∧ ExtB [h.n, h.n + 1, h2.n + 1] m1 m4 ∧ m1.n < m4.n) ⟨by rw [Hp.get_put, if_neg (by omega), Hp.get_put, if_neg (by omega)]; exact q1, by rw [Hp.get_put, if_neg (by omega), Hp.get_put_self, hnx]; rfl, by rw [Hp.get_put_self, hnx]; rfl, (q5.mono (by simp)).trans ((ExtB.put2 _ _ _ _ _).mono (by simp)), by simp only [Hp.n_put]; exact q6⟩ fun m4 ⟨r1, r2, r3, r4, r5⟩ => ?_
        refine wl_end ?_
        exact ⟨_, _, r1, ⟨⟨[h.n, h.n + 1, h2.n + 1], r4.trans ((ExtB.put _ _ _).mono (by simp)), fun i hi hj => by have := hal0 i hj; simp at hi; omega⟩, .inl ⟨rfl, Hp.get_put_self _ _ _, (p2.trans r4).trans ((ExtB.put _ _ _).mono (by simp)), by rw [Hp.get_put, if_neg (by omega)]; exact r2, by rw [Hp.get_put, if_neg (by omega)]; exact r3⟩⟩⟩
      · skip
        rw [if_neg (by rw [show (!S[k]!.f && !(nxF (S.take k)).2) = false from hb]; decide)] at hnx
        refine w_skip ?_
        exact ⟨_, _, q1, ⟨⟨[h2.n + 1], q5.trans (ExtB.put _ _ _), fun i hi hj => by have := hal0 i hj; simp at hi; omega⟩, .inl ⟨rfl, Hp.get_put_self _ _ _, (p2.trans (q5.mono (by simp))).trans ((ExtB.put _ _ _).mono (by simp)), by rw [Hp.get_put, if_neg (by omega), hnx]; exact q2, by rw [Hp.get_put, if_neg (by omega), hnx]; exact q3⟩⟩⟩
  refine C.mono (c43 (ha2.ext hx0) (by omega) (fun k m1 => m1.get (h2.n + 1) = some (rc .ready none) ∧ ExtB [h.n, h.n + 1, h2.n + 1] h0 m1 ∧ m1.get h.n = some (.cells [iV (nxF (S.take k)).1] 2 0) ∧ m1.get (h.n + 1) = some (.cells [.bool (nxF (S.take k)).2] 4 0)) (fun _ => False) ⟨hrc, .refl _ _, k1, k2⟩
    (fun k m1 m2 ⟨u1, u2, u3, u4⟩ g => ⟨(g.get _ (by have := u2.n; omega)).trans u1, u2.trans (g.b _), (g.get _ (by have := u2.n; omega)).trans u3, (g.get _ (by have := u2.n; omega)).trans u4⟩) hround) ?_
  rintro v h' hPR
  obtain ⟨hrec, hxx, t1, t2⟩ := hPR.resolve_right id
  rw [List.take_length] at t1 t2
  refine ⟨_, _, hrec, by simp, fun m9 hx2 hn2 => ?_⟩
  refine aft_blk (.inl rfl) ?_
  refine w_seq ?_
  have hxxn := hxx.n
  have c8 := (hx2.get h.n (by omega) (by simp; omega)).trans t1
  have c9 := (hx2.get (h.n + 1) (by omega) (by simp; omega)).trans t2
  refine w_draw [(0, []), (1, []), (2, []), (3, [])] (by kernel_rfl) (by kernel_rfl) (by kernel_rfl) (by kernel_rfl) ?_
  refine o_load gn rfl rfl (by kernel_rfl) c8 rfl ?_
  refine o_load gn rfl rfl (by kernel_rfl) c9 rfl ?_
  refine o_assign gn rfl rfl ?_
  refine o_assign gn rfl rfl ?_
  refine wl_end ?_
  refine w_ret ?_
  refine ⟨.inl rfl, _, (resH_tmp rfl (resH_tmp rfl rfl)), fun h2 hco => ?_⟩
  exact ⟨rfl, hco.ext ((x10.of hxx (by simp; omega)).of hx2 (by simp; omega))⟩
end

end Go.Proofs.Ytfjnnbdgehaeaaa


namespace Go.Proofs.Ytfjnnbdgehaeaaa
open Go.X

section
variable {h h' : Hp} {b q c p o : Nat} {H K S : List Ent} {L : List Itm} {n t most : Int} {ds B Bc own : List Nat} {s sv : Value} {cs : List Value} {i k : Nat} {y : Itm}

/-- slices.AppendSeq -/
theorem c45 (ha2 : AllAt h c S Bc) (hsl : S.length ≤ 100000) :
    C queE 45 [.slice none 0 0, .func (.func 43) #[] #[ptrV c]] h fun v h' => ∃ B', SlN 30 2 h' v (enI (S.map Ent.it)) (S.map Ent.it).length B' ∧ (∀ i, i ∈ B' → h.n ≤ i) ∧ Ext h h' := by
  have hal := ha2.lts
  refine c_enterR (fu := Try.f45) (by kernel_rfl) rfl ?_
  refine w_seq ?_
  refine w_region (by kernel_rfl) ?_
  refine o_box gn rfl rfl ?_
  refine wl_at (fun h2 => h2.get h.n = some (.cells [.slice none 0 0] 22 0) ∧ Ext h h2 ∧ h2.n = h.n + 1 ∧ AllAt h2 c S Bc) ⟨Hp.get_alloc_self _ _, Ext.alloc _ _, Hp.n_alloc _ _, ha2.ext (Ext.alloc _ _)⟩ fun h2 ⟨g2, x2, n2, ha3⟩ => ?_
  refine o_assign gn rfl rfl ?_
  refine wl_end ?_
  refine w_seq ?_
  refine w_seq ?_
  refine w_region (by kernel_rfl) ?_
  refine o_move gn rfl rfl ?_
  refine wl_end ?_
  refine w_block ?_
  refine w_weak [(2, ptrV h.n), (6, .func (.func 43) #[] #[ptrV c])] (by repeat (first | exact trivial | refine ⟨rfl, ?_⟩)) ?_
  refine w_rangeA rfl rfl (by kernel_rfl) (by kernel_rfl) (by kernel_rfl) (by kernel_rfl) fun rc hR h0 hx0 hn0 hrc => ?_
  have k2 := (hx0.get h.n (by omega)).trans g2
  have x10 := x2.trans hx0
  have hround : ∀ k (hk : k < S.length) (m1 : Hp), (m1.get (h2.n + 1) = some (rc .ready none) ∧ ExtB [h.n, h2.n + 1] h0 m1 ∧ ∃ B, LAt m1 h.n ((S.map Ent.it).take k) B ∧ ∀ i, i ∈ B → h0.n ≤ i) → AllAt m1 c S Bc → Y queE (h2.n + 1) [itV S[k]!.it] m1 fun v m2 => (∃ cs, ExtB cs m1 m2 ∧ ∀ i, i ∈ cs → i ∉ c :: Bc) ∧
    ((v = .bool true ∧ (m2.get (h2.n + 1) = some (rc .ready none) ∧ ExtB [h.n, h2.n + 1] h0 m2 ∧ ∃ B, LAt m2 h.n ((S.map Ent.it).take (k + 1)) B ∧ ∀ i, i ∈ B → h0.n ≤ i)) ∨ (v = .bool false ∧ False)) := fun k hk m1 ⟨p1, p2, B, ⟨sv, p4, p5⟩, p6⟩ hA => by
      refine hR.round p1 rfl ?_
      refine w_region (by kernel_rfl) ?_
      refine o_alloc (zv := .agg #[.int .i64 0, .bool false, .int .i64 0]) gn rfl (by kernel_rfl) ?_
      refine o_storeA (n := 3) gn rfl rfl rfl (by kernel_rfl) rfl (Hp.get_alloc_self _ _) (by decide) rfl ag0 ?_
      have p2n := p2.n
      refine wl_at (fun m2 => m2.get m1.n = some (.cells [iV S[k]!.t, .bool S[k]!.f, iV S[k]!.d] 30 0) ∧ Ext m1 m2 ∧ m1.n < m2.n) ⟨Hp.get_put_self _ _ _, (Ext.alloc _ _).of (ExtB.put _ _ _) (by simp), by rw [Hp.n_put, Hp.n_alloc]; omega⟩ fun m2 ⟨f1, f2, f3⟩ => ?_
      refine wl_end ?_
      refine ⟨_, ((f2.get _ (by omega)).trans p1), ?_⟩
      refine w_at (fun m3 => m3.get (h2.n + 1) = some (rc .busy none) ∧ m3.get h.n = some (.cells [sv] 22 0) ∧ m3.get m1.n = some (.cells [iV S[k]!.t, .bool S[k]!.f, iV S[k]!.d] 30 0) ∧ ExtB [h2.n + 1] m1 m3 ∧ m1.n < m3.n) ⟨Hp.get_put_self _ _ _, by rw [Hp.get_put, if_neg (by omega)]; exact (f2.get _ (by omega)).trans p4, by rw [Hp.get_put, if_neg (by omega)]; exact f1, (f2.b _).trans (ExtB.put _ _ _), by rw [Hp.n_put]; exact f3⟩ fun m3 ⟨q1, q2, q3, q4, q5⟩ => ?_
      have hs3 := p5.keep q4 (fun i hi hj => by have := p6 i hi; simp at hj; omega)
      obtain ⟨asv, rfl⟩ := hs3.val
      have hbl := hs3.lt
      have htl : ((S.map Ent.it).take k).length = k := by rw [List.length_take, List.length_map]; omega
      have htk : (S.map Ent.it).take (k + 1) = (S.map Ent.it).take k ++ [S[k]!.it] := by
        rw [List.take_add_one, List.getElem?_map, List.getElem?_eq_getElem hk]
        have : S[k]! = S[k] := by simp [hk]
        rw [this]; rfl
      rw [htl] at hs3 q2
      refine w_block ?_
      refine w_region (by kernel_rfl) ?_
      refine o_load gn rfl rfl (by kernel_rfl) q2 rfl ?_
      refine o_loadA (n := 3) gn rfl rfl (by kernel_rfl) (by kernel_rfl) q3 (by simp) ?_
      rw [show (([iV S[k]!.t, Value.bool S[k]!.f, iV S[k]!.d].drop 0).take 3).toArray = #[iV S[k]!.t, .bool S[k]!.f, iV S[k]!.d] from rfl]
      refine o_buildSlice (cs := #[iV S[k]!.t, .bool S[k]!.f, iV S[k]!.d]) (e := 30) (z := 2) (zv := .agg #[.int .i64 0, .bool false, .int .i64 0]) [(0, _)] gn rfl (by kernel_rfl) (by kernel_rfl) (by kernel_rfl) (by kernel_rfl) rfl rfl ?_
      obtain ⟨a7, h7, B7, b1, b2, b3, b4⟩ := push_it (y := S[k]!.it) (L := (S.map Ent.it).take k) (by rw [htl]; exact hs3) (by omega)
      rw [← htk] at b2
      rw [htl] at b1 b2
      have n7 := b3.n
      have hnB : ∀ j, j < h0.n → j ∉ B := fun j hj hm => by have := p6 j hm; omega
      have f7 := (b3.get h.n (by omega) (hnB _ (by omega))).trans q2
      have f8 := (b3.get (h2.n + 1) (by omega) (hnB _ (by omega))).trans q1
      refine o_append gn rfl rfl rfl b1 ag0 ?_
      refine o_store gn rfl rfl rfl (by kernel_rfl) f7 (by decide) (by simp) ag0 ?_
      have hB7 : ∀ i, i ∈ B7 → h0.n ≤ i := fun i hi => by
        rcases b4 i hi with h9 | h9
        · exact p6 i h9
        · omega
      have gx : ExtB ((h2.n + 1) :: h.n :: B) m1 (h7.put h.n (.cells [.slice a7 (k + 1) (k + 1)] 22 0)) := (q4.mono (by simp)).trans ((b3.mono (fun j hj _ => by simp [hj])).trans ((ExtB.put _ _ _).mono (by simp)))
      have gh : ExtB [h.n, h2.n + 1] h0 (h7.put h.n (.cells [.slice a7 (k + 1) (k + 1)] 22 0)) := ⟨Nat.le_trans p2n gx.n, fun i hi hn => (gx.get i (by omega) (fun hj => by
        simp only [List.mem_cons] at hj
        rcases hj with hj | hj | hj
        · exact hn (by simp [hj])
        · exact hn (by simp [hj])
        · exact hnB i hi hj)).trans (p2.get i hi hn)⟩
      refine wl_at (fun m6 => m6.get h.n = some (.cells [.slice a7 (k + 1) (k + 1)] 22 0) ∧ m6.get (h2.n + 1) = some (rc .busy none) ∧ SlN 30 2 m6 (.slice a7 (k + 1) (k + 1)) (enI ((S.map Ent.it).take (k + 1))) ((S.map Ent.it).take (k + 1)).length B7 ∧ ExtB ((h2.n + 1) :: h.n :: B) m1 m6 ∧ ExtB [h.n, h2.n + 1] h0 m6) ⟨Hp.get_put_self _ _ _, by rw [Hp.get_put, if_neg (by omega)]; exact f8, b2.keep (ExtB.put _ _ _) (fun i hi hj => by have := hB7 i hi; simp at hj; omega), gx, gh⟩ fun m6 ⟨r1, r2, r3, r4, r5⟩ => ?_
      have r5n := r5.n
      have hx6 : ∀ o, ExtB [h2.n + 1] m6 (m6.put (h2.n + 1) o) := fun o => ExtB.put _ _ _
      have hL6 : ∀ o, LAt (m6.put (h2.n + 1) o) h.n ((S.map Ent.it).take (k + 1)) B7 := fun o => (LAt.keep ⟨_, r1, r3⟩ (hx6 o) (by omega) (by simp; omega) (fun i hi hj => by have := hB7 i hi; simp at hj; omega))
      have hcs : ∀ i, i ∈ h.n :: (h2.n + 1) :: B → i ∉ c :: Bc := fun i hi hj => by
        have := hal i hj
        simp only [List.mem_cons] at hi
        rcases hi with hi | hi | hi
        · omega
        · omega
        · have := p6 i hi; omega
      have hgx : ∀ o, ExtB (h.n :: (h2.n + 1) :: B) m1 (m6.put (h2.n + 1) o) := fun o => (r4.mono (by simp; grind)).trans ((hx6 o).mono (by simp))
      refine wl_end ?_
      exact ⟨_, _, r2, ⟨⟨_, hgx _, hcs⟩, .inl ⟨rfl, Hp.get_put_self _ _ _, r5.trans ((hx6 _).mono (by simp)), B7, hL6 _, hB7⟩⟩⟩
  refine C.mono (c43 (ha3.ext hx0) (by omega) (fun k m1 => m1.get (h2.n + 1) = some (rc .ready none) ∧ ExtB [h.n, h2.n + 1] h0 m1 ∧ ∃ B, LAt m1 h.n ((S.map Ent.it).take k) B ∧ ∀ i, i ∈ B → h0.n ≤ i) (fun _ => False) ⟨hrc, .refl _ _, [], ⟨.slice none 0 0, k2, .inl ⟨rfl, rfl, rfl, rfl⟩⟩, by simp⟩
    (fun k m1 m2 ⟨u1, u2, B, u4, u5⟩ g => ⟨(g.get _ (by have := u2.n; omega)).trans u1, u2.trans (g.b _), B, u4.keep (g.b []) (by have := u2.n; omega) (by simp) (by simp), u5⟩) hround) ?_
  rintro v h' hPR
  obtain ⟨hrec, hxx, B, ⟨sv, hcell, hsv⟩, hB⟩ := hPR.resolve_right id
  rw [List.take_of_length_le (by simp)] at hsv
  refine ⟨_, _, hrec, by simp, fun m9 hx2 hn2 => ?_⟩
  refine aft_blk (.inl rfl) ?_
  have hxxn := hxx.n
  have c9 := (hx2.get h.n (by omega) (by simp; omega)).trans hcell
  have s9 := hsv.keep hx2 (fun i hi hj => by have := hB i hi; simp at hj; omega)
  refine w_seq ?_
  refine w_region (by kernel_rfl) ?_
  refine o_load gn rfl rfl (by kernel_rfl) c9 rfl ?_
  refine o_assign gn rfl rfl ?_
  refine wl_end ?_
  refine w_ret ?_
  refine ⟨.inl rfl, _, (resH_tmp rfl rfl), fun h2 hco => ?_⟩
  refine ⟨B, ?_, fun i hi => by have := hB i hi; have := x10.n; omega, hco.ext ((x10.of hxx (by simp; omega)).of hx2 (by simp; omega))⟩
  rcases s9 with s9 | ⟨bb, m, e1, e2, e3, e4, e5⟩
  · exact .inl s9
  · exact .inr ⟨bb, m, e1, hco.cells e2, e3, by rw [hco.1]; exact e4, e5⟩

/-- slices.Collect -/
theorem c35 (ha2 : AllAt h c S Bc) (hsl : S.length ≤ 100000) :
    C queE 35 [.func (.func 43) #[] #[ptrV c]] h fun v h' => ∃ B', SlN 30 2 h' v (enI (S.map Ent.it)) (S.map Ent.it).length B' ∧ (∀ i, i ∈ B' → h.n ≤ i) ∧ Ext h h' := by
  refine c_enter (fu := Try.f35) (by kernel_rfl) rfl ?_
  refine w_seq ?_
  refine w_region (by kernel_rfl) ?_
  refine o_assign gn rfl rfl ?_
  refine wl_end ?_
  refine w_seq ?_
  refine w_region (by kernel_rfl) ?_
  refine o_move gn rfl rfl ?_
  refine o_call [_, _] gn rfl rfl (by kernel_rfl) rfl (C.mono (c45 ha2 hsl) ?_)
  rintro v2 h2 ⟨B2, s2, f2, x2⟩
  refine ⟨ag0, ?_⟩
  refine o_assign gn rfl rfl ?_
  refine wl_end ?_
  refine w_ret ?_
  refine ⟨.inl rfl, _, rfl, ?_⟩
  exact ⟨B2, s2, f2, x2⟩
end

end Go.Proofs.Ytfjnnbdgehaeaaa


namespace Go.Proofs.Ytfjnnbdgehaeaaa
open Go.X

theorem enI_drop : ∀ (L : List Itm) (k : Nat), (enI L).drop (k * 3) = enI (L.drop k)
  | [], k => by simp
  | x :: r, 0 => by simp
  | x :: r, k + 1 => by
    have e : enI (x :: r) = itC x ++ enI r := rfl
    rw [e, show (k + 1) * 3 = (itC x).length + k * 3 by simp [itC]; omega, List.drop_length_add_append, enI_drop r k]; rfl
theorem enI_take : ∀ (L : List Itm) (k : Nat), (enI L).take (k * 3) = enI (L.take k)
  | [], k => by simp
  | x :: r, 0 => by simp
  | x :: r, k + 1 => by
    have e : enI (x :: r) = itC x ++ enI r := rfl
    rw [e, show (k + 1) * 3 = (itC x).length + k * 3 by simp [itC]; omega, List.take_length_add_append, enI_take r k]; rfl
theorem enI_cut {L : List Itm} {i : Nat} (h : i < L.length) (rest : List Value) : ((enI L ++ rest).drop (i * 3)).take 3 = itC L[i]! := by
  have hl := enI_len L
  rw [List.drop_append_of_le_length (by omega), enI_drop, List.drop_eq_getElem_cons h]
  have : L[i]! = L[i] := by simp [h]
  rw [this]; rfl
theorem itm_ext {L K : List Itm} (hl : L.length = K.length) (h : ∀ j, j < L.length → L[j]! = K[j]!) : L = K := by
  apply List.ext_getElem hl
  intro j h1 h2
  have := h j h1
  rw [show L[j]! = L[j] by simp [h1], show K[j]! = K[j] by simp [h2]] at this
  exact this

noncomputable def fs30 : Array Field := match queE.und 30 with | some (.struct fs) => fs | _ => #[]
theorem und30 : queE.und 30 = some (.struct fs30) := by kernel_rfl
theorem len30 : fs30.toList.length = 3 := by kernel_rfl
theorem row30 : fs30.toList = [fs30.toList[0]'(by rw [len30]; omega), fs30.toList[1]'(by rw [len30]; omega), fs30.toList[2]'(by rw [len30]; omega)] := by kernel_rfl
theorem eq30 {hh : Hp} (y z : Itm) : structEq queE hh #[iV y.t, .bool y.f, iV y.d] #[iV z.t, .bool z.f, iV z.d] fs30.toList = some ((y.t == z.t) && ((y.f == z.f) && ((y.d == z.d) && true))) := by
  rw [row30]
  exact structEq_cons (u := iV y.t) (w := iV z.t) (by kernel_rfl) (by kernel_rfl) (by kernel_rfl) (by kernel_rfl) (structEq_cons (u := .bool y.f) (w := .bool z.f) (by kernel_rfl) (by kernel_rfl) (by kernel_rfl) (by kernel_rfl) (structEq_cons (u := iV y.d) (w := iV z.d) (by kernel_rfl) (by kernel_rfl) (by kernel_rfl) (by kernel_rfl) rfl))
theorem itm_eq (y z : Itm) : ((y.t == z.t) && ((y.f == z.f) && ((y.d == z.d) && true))) = decide (y = z) := by
  rcases y with ⟨a, b, c⟩
  rcases z with ⟨a', b', c'⟩
  rw [Bool.eq_iff_iff]
  simp
theorem neq30 {hh : Hp} {x x' : Operand} (y z : Itm) : binX queE hh .neq 30 x x' (itV y) (itV z) = some (.bool (!decide (y = z))) := by
  rw [← itm_eq]
  exact binA_neq und30 (by kernel_rfl) (eq30 y z)
theorem eql30 {hh : Hp} {x x' : Operand} (y z : Itm) : binX queE hh .eql 30 x x' (itV y) (itV z) = some (.bool (decide (y = z))) := by
  rw [← itm_eq]
  exact binA_eql und30 (by kernel_rfl) (eq30 y z)

section
variable {h h' : Hp} {b bo q c p o : Nat} {H O S : List Ent} {L K : List Itm} {n m t : Int} {ds B B2 own oo : List Nat} {s s2 : Value} {i k : Nat} {y : Itm}

/-- slices.Equal -/
theorem c34 (x : SlC 30 2 h s (enI L) L.length B) (y : SlC 30 2 h s2 (enI K) K.length B2) (hl : L.length ≤ 100000) : CP queE 34 [s, s2] h (.bool (decide (L = K))) := by
  obtain ⟨a, ca, rfl⟩ := x.val
  obtain ⟨a2, ca2, rfl⟩ := y.val
  refine c_enter (fu := Try.f34) (by kernel_rfl) rfl ?_
  refine w_seq ?_
  refine w_region (by kernel_rfl) ?_
  refine o_assign gn rfl rfl ?_
  refine wl_end ?_
  refine w_seq ?_
  refine w_seq ?_
  refine w_region (by kernel_rfl) ?_
  refine o_move gn rfl rfl ?_
  refine o_len gn rfl rfl (by kernel_rfl) ?_
  refine o_move gn rfl rfl ?_
  refine o_len gn rfl rfl (by kernel_rfl) ?_
  refine o_nei gn rfl rfl rfl ?_
  refine wl_end ?_
  refine w_cond rfl (fun hb => ?_) fun hb => ?_
  · skip
    refine w_seq ?_
    refine w_region (by kernel_rfl) ?_
    refine o_assign gn rfl rfl ?_
    refine wl_end ?_
    refine w_ret ?_
    refine ⟨.inl rfl, _, rfl, ?_⟩
    have : L ≠ K := fun e => by subst e; simp at hb
    exact ⟨by simp [oneOf, this], rfl⟩
  · skip
    have hlen : L.length = K.length := by simp at hb; omega
    refine w_skip ?_
    refine w_seq ?_
    refine w_seq ?_
    refine w_region (by kernel_rfl) ?_
    refine o_move gn rfl rfl ?_
    refine o_len gn rfl rfl (by kernel_rfl) ?_
    refine o_move gn rfl rfl ?_
    refine wl_end ?_
    refine w_block ?_
    refine w_weak [(0, .slice a L.length ca), (1, .slice a2 K.length ca2), (12, iV L.length), (13, iV (0 : Nat))] (by repeat (first | exact trivial | refine ⟨rfl, ?_⟩)) ?_
    refine w_loop (fun k l hh => ∃ i : Nat, i ≤ L.length ∧ k = L.length - i ∧ (∀ j, j < i → L[j]! = K[j]!) ∧ l = [(0, .slice a L.length ca), (1, .slice a2 K.length ca2), (12, iV L.length), (13, iV (i : Nat))] ∧ hh = h) (n := L.length) ?_ fun k l hh hI => ?_
    · exact ⟨0, by omega, by omega, fun j hj => by omega, rfl, rfl⟩
    · obtain ⟨i, hi, rfl, hall, rfl, rfl⟩ := hI
      refine w_seq ?_
      refine w_region (by kernel_rfl) ?_
      refine o_lss gn rfl rfl rfl ?_
      refine wl_end ?_
      refine w_seq ?_
      refine w_cond rfl (fun hb => ?_) fun hb => ?_
      · skip
        have hlt : i < L.length := by simpa using hb
        have hlk : i < K.length := by omega
        obtain ⟨b1, m1, c1, r1, ea, hg1, _⟩ := x.at (by omega)
        cases ea
        obtain ⟨b2, m2, c2, r2, ea2, hg2, _⟩ := y.at (by omega)
        cases ea2
        have t1 := enI_cut hlt r1
        have t2 := enI_cut hlk r2
        have l1 := enI_len L
        have l2 := enI_len K
        refine w_skip ?_
        refine w_seq ?_
        refine w_block ?_
        refine w_seq ?_
        refine w_region (by kernel_rfl) ?_
        refine o_move gn rfl rfl ?_
        refine o_assign gn rfl rfl ?_
        refine wl_end ?_
        refine w_seq ?_
        refine w_draw [(0, []), (1, []), (2, []), (3, []), (4, []), (5, []), (6, []), (7, []), (8, [])] (by kernel_rfl) (by kernel_rfl) (by kernel_rfl) (by kernel_rfl) ?_
        refine o_move gn rfl rfl ?_
        refine o_move gn rfl rfl ?_
        refine o_indexAddr (zz := 3) gn rfl rfl rfl (by kernel_rfl) (by omega) (by omega) ?_
        rw [Int.toNat_natCast, Nat.zero_add]
        refine o_loadA (n := 3) gn rfl rfl (by kernel_rfl) (by kernel_rfl) hg1 (by rw [List.length_append]; omega) ?_
        rw [t1]
        refine o_move gn rfl rfl ?_
        refine o_move gn rfl rfl ?_
        refine o_indexAddr (zz := 3) gn rfl rfl rfl (by kernel_rfl) (by omega) (by omega) ?_
        rw [Int.toNat_natCast, Nat.zero_add]
        refine o_loadA (n := 3) gn rfl rfl (by kernel_rfl) (by kernel_rfl) hg2 (by rw [List.length_append]; omega) ?_
        rw [t2]
        refine o_bin gn rfl rfl rfl (neq30 L[i]! K[i]!) ?_
        refine wl_end ?_
        refine w_cond rfl (fun hb => ?_) fun hb => ?_
        · skip
          refine w_seq ?_
          refine w_region (by kernel_rfl) ?_
          refine o_assign gn rfl rfl ?_
          refine wl_end ?_
          refine w_ret ?_
          refine ⟨.inl rfl, _, rfl, ?_⟩
          have hne : L[i]! ≠ K[i]! := by simpa using hb
          have : L ≠ K := fun e => hne (by rw [e])
          exact ⟨by simp [oneOf, this], rfl⟩
        · skip
          refine w_skip ?_
          refine w_region (by kernel_rfl) ?_
          refine o_add gn rfl rfl rfl (by omega) (by omega) ?_
          refine o_move gn rfl rfl ?_
          refine wl_end ?_
          have heq : L[i]! = K[i]! := by simpa using hb
          exact ⟨L.length - (i + 1), by omega, [(0, _), (1, _), (12, _), (13, iV ((i + 1 : Nat) : Int))], (by repeat (first | exact trivial | refine ⟨rfl, ?_⟩)), i + 1, by omega, rfl, fun j hji => by
            by_cases e : j = i
            · subst e; exact heq
            · exact hall j (by omega), rfl, rfl⟩
      · skip
        refine w_exit ?_
        refine thn_exit ?_
        refine rnd_exit ?_
        refine blk_eq ?_
        refine w_seq ?_
        refine w_region (by kernel_rfl) ?_
        refine o_assign gn rfl rfl ?_
        refine wl_end ?_
        refine w_ret ?_
        refine ⟨.inl rfl, _, rfl, ?_⟩
        have hge : i = L.length := by simp at hb; omega
        have : L = K := itm_ext hlen (fun j hj => hall j (by omega))
        exact ⟨by simp [oneOf, this], rfl⟩

/-- the document's Same -/
theorem c21 (x : SlC 30 2 h s (enI L) L.length B) (y : SlC 30 2 h s2 (enI K) K.length B2) (hl : L.length ≤ 100000) : CP queE 21 [s, s2] h (.bool (decide (L = K))) := by
  obtain ⟨a, ca, rfl⟩ := x.val
  obtain ⟨a2, ca2, rfl⟩ := y.val
  refine c_enter (fu := Try.f21) (by kernel_rfl) rfl ?_
  refine w_seq ?_
  refine w_region (by kernel_rfl) ?_
  refine o_assign gn rfl rfl ?_
  refine wl_end ?_
  refine w_seq ?_
  refine w_seq ?_
  refine w_region (by kernel_rfl) ?_
  refine o_move gn rfl rfl ?_
  refine o_len gn rfl rfl (by kernel_rfl) ?_
  refine o_move gn rfl rfl ?_
  refine o_len gn rfl rfl (by kernel_rfl) ?_
  refine o_nei gn rfl rfl rfl ?_
  refine wl_end ?_
  refine w_cond rfl (fun hb => ?_) fun hb => ?_
  · skip
    refine w_seq ?_
    refine w_region (by kernel_rfl) ?_
    refine o_assign gn rfl rfl ?_
    refine wl_end ?_
    refine w_ret ?_
    refine ⟨.inl rfl, _, rfl, ?_⟩
    have : L ≠ K := fun e => by subst e; simp at hb
    exact ⟨by simp [oneOf, this], rfl⟩
  · skip
    have hlen : L.length = K.length := by simp at hb; omega
    refine w_skip ?_
    refine w_seq ?_
    refine w_seq ?_
    refine w_region (by kernel_rfl) ?_
    refine o_assign gn rfl rfl ?_
    refine wl_end ?_
    refine w_block ?_
    refine w_weak [(0, .slice a L.length ca), (1, .slice a2 K.length ca2), (5, iV (0 : Nat))] (by repeat (first | exact trivial | refine ⟨rfl, ?_⟩)) ?_
    refine w_loop (fun k l hh => ∃ i : Nat, i ≤ L.length ∧ k = L.length - i ∧ (∀ j, j < i → L[j]! = K[j]!) ∧ l = [(0, .slice a L.length ca), (1, .slice a2 K.length ca2), (5, iV (i : Nat))] ∧ hh = h) (n := L.length) ?_ fun k l hh hI => ?_
    · exact ⟨0, by omega, by omega, fun j hj => by omega, rfl, rfl⟩
    · obtain ⟨i, hi, rfl, hall, rfl, rfl⟩ := hI
      refine w_seq ?_
      refine w_seq ?_
      refine w_region (by kernel_rfl) ?_
      refine o_move gn rfl rfl ?_
      refine o_move gn rfl rfl ?_
      refine o_len gn rfl rfl (by kernel_rfl) ?_
      refine o_lss gn rfl rfl rfl ?_
      refine wl_end ?_
      refine w_cond rfl (fun hb => ?_) fun hb => ?_
      · skip
        have hlt : i < L.length := by simpa using hb
        have hlk : i < K.length := by omega
        obtain ⟨b1, m1, c1, r1, ea, hg1, _⟩ := x.at (by omega)
        cases ea
        obtain ⟨b2, m2, c2, r2, ea2, hg2, _⟩ := y.at (by omega)
        cases ea2
        have t1 := enI_cut hlt r1
        have t2 := enI_cut hlk r2
        have l1 := enI_len L
        have l2 := enI_len K
        refine w_skip ?_
        refine w_seq ?_
        refine w_block ?_
        refine w_seq ?_
        refine w_draw [(0, []), (1, []), (2, []), (3, []), (4, []), (5, []), (6, []), (7, []), (8, [])] (by kernel_rfl) (by kernel_rfl) (by kernel_rfl) (by kernel_rfl) ?_
        refine o_move gn rfl rfl ?_
        refine o_move gn rfl rfl ?_
        refine o_indexAddr (zz := 3) gn rfl rfl rfl (by kernel_rfl) (by omega) (by omega) ?_
        rw [Int.toNat_natCast, Nat.zero_add]
        refine o_loadA (n := 3) gn rfl rfl (by kernel_rfl) (by kernel_rfl) hg1 (by rw [List.length_append]; omega) ?_
        rw [t1]
        refine o_move gn rfl rfl ?_
        refine o_move gn rfl rfl ?_
        refine o_indexAddr (zz := 3) gn rfl rfl rfl (by kernel_rfl) (by omega) (by omega) ?_
        rw [Int.toNat_natCast, Nat.zero_add]
        refine o_loadA (n := 3) gn rfl rfl (by kernel_rfl) (by kernel_rfl) hg2 (by rw [List.length_append]; omega) ?_
        rw [t2]
        refine o_bin gn rfl rfl rfl (neq30 L[i]! K[i]!) ?_
        refine wl_end ?_
        refine w_cond rfl (fun hb => ?_) fun hb => ?_
        · skip
          refine w_seq ?_
          refine w_region (by kernel_rfl) ?_
          refine o_assign gn rfl rfl ?_
          refine wl_end ?_
          refine w_ret ?_
          refine ⟨.inl rfl, _, rfl, ?_⟩
          have hne : L[i]! ≠ K[i]! := by simpa using hb
          have : L ≠ K := fun e => hne (by rw [e])
          exact ⟨by simp [oneOf, this], rfl⟩
        · skip
          refine w_skip ?_
          refine w_region (by kernel_rfl) ?_
          refine o_move gn rfl rfl ?_
          refine o_add gn rfl rfl rfl (by omega) (by omega) ?_
          refine o_assign gn rfl rfl ?_
          refine wl_end ?_
          have heq : L[i]! = K[i]! := by simpa using hb
          exact ⟨L.length - (i + 1), by omega, [(0, _), (1, _), (5, iV ((i + 1 : Nat) : Int))], (by repeat (first | exact trivial | refine ⟨rfl, ?_⟩)), i + 1, by omega, rfl, fun j hji => by
            by_cases e : j = i
            · subst e; exact heq
            · exact hall j (by omega), rfl, rfl⟩
      · skip
        refine w_exit ?_
        refine thn_exit ?_
        refine rnd_exit ?_
        refine blk_eq ?_
        refine w_seq ?_
        refine w_region (by kernel_rfl) ?_
        refine o_assign gn rfl rfl ?_
        refine wl_end ?_
        refine w_ret ?_
        refine ⟨.inl rfl, _, rfl, ?_⟩
        have hge : i = L.length := by simp at hb; omega
        have : L = K := itm_ext hlen (fun j hj => hall j (by omega))
        exact ⟨by simp [oneOf, this], rfl⟩

/-- Same -/
theorem c20 (x : QA h b H n own) (y : QA h bo O m oo) (hn : (qs H).Nodup) (hno : (qs O).Nodup) (hl : H.length ≤ 100000) (hlo : O.length ≤ 100000) :
    C queE 20 [ptrV b, ptrV bo] h fun v h' => v = .bool (decide ((sortB H).map Ent.it = (sortB O).map Ent.it)) ∧ Ext h h' := by
  have hsl : (sortB H).length = H.length := (sortB_perm H).length_eq
  have hsl2 : (sortB O).length = O.length := (sortB_perm O).length_eq
  refine c_enter (fu := Try.f20) (by kernel_rfl) rfl ?_
  refine w_seq ?_
  refine w_region (by kernel_rfl) ?_
  refine o_assign gn rfl rfl ?_
  refine wl_end ?_
  refine w_seq ?_
  refine w_seq ?_
  refine w_region (by kernel_rfl) ?_
  refine o_move gn rfl rfl ?_
  refine o_eqp gn rfl rfl rfl (by kernel_rfl) ?_
  refine o_move gn rfl rfl ?_
  refine o_or (n := 2) rfl rfl rfl gn rfl (fun hb => by
      refine o_move (gy rfl rfl rfl hb) rfl rfl ?_
      refine o_eqp (gy rfl rfl rfl hb) rfl rfl rfl (by kernel_rfl) ?_
      exact wl_end ⟨rfl, rfl, 2, rfl, rfl⟩) ?_
  refine wl_end ?_
  refine w_cond rfl (fun hb => ?_) fun hb => ?_
  · skip
    refine w_seq ?_
    refine w_region (by kernel_rfl) ?_
    refine o_move gn rfl rfl ?_
    refine o_eqp gn rfl rfl rfl (by kernel_rfl) ?_
    refine o_move gn rfl rfl ?_
    refine o_and (n := 2) rfl rfl rfl gn rfl (fun hb => by
        refine o_move (gy rfl rfl rfl hb) rfl rfl ?_
        refine o_eqp (gy rfl rfl rfl hb) rfl rfl rfl (by kernel_rfl) ?_
        exact wl_end ⟨rfl, rfl, 2, rfl, rfl⟩) ?_
    refine o_assign gn rfl rfl ?_
    refine wl_end ?_
    refine w_ret ?_
    refine ⟨.inl rfl, _, rfl, ?_⟩
    cases hb
  · skip
    refine w_skip ?_
    refine w_seq ?_
    refine w_region (by kernel_rfl) ?_
    refine o_move gn rfl rfl ?_
    refine o_call [_] gn rfl rfl (by kernel_rfl) rfl (C.mono (c27 x hn hl) ?_)
    rintro v1 h1 ⟨c1, B1, rfl, a1, f1, x1⟩
    refine ⟨ag0, ?_⟩
    refine o_call [_] gn rfl rfl (by kernel_rfl) rfl (C.mono (c35 a1 (by omega)) ?_)
    rintro v2 h2 ⟨B2, s2, f2, x2⟩
    refine ⟨ag0, ?_⟩
    refine o_move gn rfl rfl ?_
    refine o_call [_] gn rfl rfl (by kernel_rfl) rfl (C.mono (c27 (y.ext (x1.trans x2)) hno hlo) ?_)
    rintro v3 h3 ⟨c3, B3, rfl, a3, f3, x3⟩
    refine ⟨ag0, ?_⟩
    refine o_call [_] gn rfl rfl (by kernel_rfl) rfl (C.mono (c35 a3 (by omega)) ?_)
    rintro v4 h4 ⟨B4, s4, f4, x4⟩
    refine ⟨ag0, ?_⟩
    refine o_call [_, _] gn rfl rfl (by kernel_rfl) rfl (C.mono (c34 ((s2.ext (x3.trans x4)).toC) s4.toC (by simp; omega)) ?_)
    rintro v h' ⟨rfl, rfl⟩
    refine ⟨ag0, ?_⟩
    refine o_assign gn rfl rfl ?_
    refine wl_end ?_
    refine w_ret ?_
    refine ⟨.inl rfl, _, rfl, ?_⟩
    exact ⟨rfl, x1.trans (x2.trans (x3.trans x4))⟩
end

end Go.Proofs.Ytfjnnbdgehaeaaa

