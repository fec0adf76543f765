/- Chapter 14, one task's marks: rows of words, plainly. Conditions: none. Chapter 14: the machine over the chapter's program; known answers true. Conditions: none. Chapter 14: rows' bits. Conditions: none. Chapter 14: one task's run; a mark of it may stand there. Conditions: none. Chapter 14: one task's marks may stand there, its task may be. Conditions: none. Chapter 14: one task is alone on its looper; its run may be. Conditions: none. Chapter 14: one task's run may be. Conditions: none. Chapter 14: the rules 1 to 6, of one task's run. Conditions: none. Chapter 14: rows are closed, of one task's run. Conditions: none. Chapter 14: no pair of one task's marks conflicts. Conditions: none. Chapter 14: one task is not ahead of itself. Conditions: none. Chapter 14: one task's run, closed. Conditions: none. Chapter 14: First, Races; the law that just so many marks are closed. Conditions: none. -/
import Derived.Test.YteinandjhpnceaaXc
import Derived.Test.YteinandjhpnceaaRows
import Derived.Test.YteinandjhpnceaaXd
namespace Go.Model
open Go.X

/-- A row's bit. -/
def bitW (W : Nat → BitVec 64) (i : Nat) : Bool := (W (i / 64)).getLsbD (i % 64)
/-- Rows of 19 words, one behind the other. -/
def rowsC (n : Nat) (W : Nat → Nat → BitVec 64) : List Value := (List.range (n * 19)).map fun k => uV (W (k / 19) (k % 19))
def updW (W : Nat → Nat → BitVec 64) (a w : Nat) (x : BitVec 64) : Nat → Nat → BitVec 64 := fun a' w' => if a' = a ∧ w' = w then x else W a' w'

theorem rowsC_len (n : Nat) (W : Nat → Nat → BitVec 64) : (rowsC n W).length = n * 19 := by simp [rowsC]
theorem rowsC_get {n a w : Nat} (W : Nat → Nat → BitVec 64) (ha : a < n) (hw : w < 19) : (rowsC n W)[a * 19 + w]? = some (uV (W a w)) := by
  have h1 : a * 19 + w < n * 19 := by omega
  have h2 : (a * 19 + w) / 19 = a := by omega
  have h3 : (a * 19 + w) % 19 = w := by omega
  simp [rowsC, List.getElem?_map, List.getElem?_range h1, h2, h3]
theorem rowsC_set {n a w : Nat} (W : Nat → Nat → BitVec 64) (x : BitVec 64) (_ : a < n) (hw : w < 19) : (rowsC n W).set (a * 19 + w) (uV x) = rowsC n (updW W a w x) := by
  apply List.ext_getElem
  · simp [rowsC]
  · intro k h1 h2
    have hk : k < n * 19 := by simpa [rowsC] using h2
    simp only [rowsC, List.getElem_set, List.getElem_map, List.getElem_range, updW]
    by_cases e : a * 19 + w = k
    · subst e
      have h2 : (a * 19 + w) / 19 = a := by omega
      have h3 : (a * 19 + w) % 19 = w := by omega
      simp [h2, h3]
    · rw [if_neg e, if_neg (by omega)]

theorem bit_upd (W : Nat → Nat → BitVec 64) (a w : Nat) (x : BitVec 64) (a' i : Nat) : bitW (updW W a w x a') i = if a' = a ∧ i / 64 = w then x.getLsbD (i % 64) else bitW (W a') i := by
  unfold bitW updW
  split <;> rfl

theorem one_shl (n j : Nat) (hj : j < 64) : (1#64 <<< n).getLsbD j = decide (j = n) := by
  simp only [BitVec.getLsbD_shiftLeft, BitVec.getLsbD_one]
  by_cases e : j = n
  · subst e; simp [hj]
  · by_cases h : j < n
    · simp [h, e]
    · have : j - n ≠ 0 := by omega
      simp [h, e, this]

/-- A bit more. -/
theorem bit_add (W : Nat → Nat → BitVec 64) (a b a' i : Nat) : bitW (updW W a (b / 64) (W a (b / 64) ||| 1#64 <<< (b % 64)) a') i = (bitW (W a') i || (decide (a' = a) && decide (i = b))) := by
  rw [bit_upd]
  by_cases h : a' = a ∧ i / 64 = b / 64
  · obtain ⟨rfl, h2⟩ := h
    rw [if_pos ⟨rfl, h2⟩, BitVec.getLsbD_or, one_shl _ _ (Nat.mod_lt _ (by decide))]
    unfold bitW
    rw [← h2]
    have : (i % 64 = b % 64) ↔ i = b := by omega
    simp [this]
  · rw [if_neg h]
    have : ¬ (a' = a ∧ i = b) := fun ⟨e1, e2⟩ => h ⟨e1, by rw [e2]⟩
    by_cases e1 : a' = a
    · have e2 : i ≠ b := fun e2 => this ⟨e1, e2⟩
      simp [e1, e2]
    · simp [e1]

/-- Is the bit there? -/
theorem has_bit (x : BitVec 64) (k : Nat) : decide ((((x >>> k) &&& 1#64).toNat : Int) = 1) = x.getLsbD k := by
  have h : ((x >>> k) &&& 1#64) = if x.getLsbD k then 1#64 else 0#64 := by
    apply BitVec.eq_of_getLsbD_eq
    intro j hj
    rw [BitVec.getLsbD_and, BitVec.getLsbD_ushiftRight, BitVec.getLsbD_one]
    by_cases e : j = 0
    · subst e
      cases x.getLsbD k <;> simp
    · cases x.getLsbD k <;> simp [e]
  rw [h]
  cases x.getLsbD k <;> simp

/-- A row's first words, and another row's bits beside them. -/
def orTo (W : Nat → Nat → BitVec 64) (a b w : Nat) : Nat → Nat → BitVec 64 := fun a' w' => if a' = a ∧ w' < w then W a w' ||| W b w' else W a' w'
theorem orTo_zero (W : Nat → Nat → BitVec 64) (a b : Nat) : orTo W a b 0 = W := by
  funext a' w'; simp [orTo]
theorem orTo_succ (W : Nat → Nat → BitVec 64) {a b : Nat} (hab : b ≠ a) (w : Nat) : orTo W a b (w + 1) = updW (orTo W a b w) a w (orTo W a b w a w ||| orTo W a b w b w) := by
  funext a' w'
  simp only [orTo, updW]
  by_cases e1 : a' = a
  · subst e1
    by_cases e2 : w' = w
    · subst e2; simp [hab]
    · by_cases e3 : w' < w
      · simp [e2, e3, show w' < w + 1 by omega]
      · simp [e2, e3, show ¬ w' < w + 1 by omega]
  · simp [e1]
theorem bit_orTo (W : Nat → Nat → BitVec 64) (a b a' i : Nat) (hi : i < 1216) : bitW (orTo W a b 19 a') i = if a' = a then bitW (W a) i || bitW (W b) i else bitW (W a') i := by
  have : i / 64 < 19 := by omega
  unfold bitW orTo
  by_cases e : a' = a
  · subst e; simp [this, BitVec.getLsbD_or]
  · simp [e]

/-- What each row has: the next mark alone; all later marks. -/
def nextB (n a i : Nat) : Bool := decide (i = a + 1 ∧ i < n)
def laterB (n a i : Nat) : Bool := decide (a < i ∧ i < n)
/-- Behind the rows from a on. -/
def closedFrom (n a a' i : Nat) : Bool := if a ≤ a' then laterB n a' i else nextB n a' i
/-- Row a, behind the rows up to b. -/
def closedTo (n a b a' i : Nat) : Bool := if a' = a then (if a + 1 < b then laterB n a i else nextB n a i) else closedFrom n (a + 1) a' i

theorem closedTo_begin (n a a' i : Nat) : closedTo n a (a + 1) a' i = closedFrom n (a + 1) a' i := by
  unfold closedTo closedFrom
  by_cases e : a' = a
  · subst e; rw [if_pos rfl, if_neg (by omega), if_neg (by omega)]
  · simp [e]
theorem closedTo_end (n a a' i : Nat) : closedTo n a n a' i = closedFrom n a a' i := by
  unfold closedTo closedFrom nextB laterB
  by_cases e : a' = a
  · subst e
    by_cases h : a' + 1 < n
    · simp [h]
    · simp only [if_neg h, Nat.le_refl, if_true]
      have h1 : ¬ (i = a' + 1 ∧ i < n) := by omega
      have h2 : ¬ (a' < i ∧ i < n) := by omega
      simp [h1, h2]
  · have : a + 1 ≤ a' ↔ a ≤ a' := by omega
    simp [e, this]
/-- Each later row is met, and adds what it has. -/
theorem closedTo_has {n a b : Nat} (h : a < b) (hb : b < n) : closedTo n a b a b = true := by
  unfold closedTo laterB nextB
  by_cases e : a + 1 < b
  · simp [e, h, hb]
  · have : b = a + 1 := by omega
    subst this; simp [hb]
theorem closedTo_step {n a b : Nat} (h : a < b) (hb : b < n) (a' i : Nat) : (if a' = a then closedTo n a b a i || closedTo n a b b i else closedTo n a b a' i) = closedTo n a (b + 1) a' i := by
  by_cases e : a' = a
  · subst e
    have h1 : b ≠ a' := by omega
    have h2 : a' + 1 ≤ b := by omega
    have h3 : a' + 1 < b + 1 := by omega
    simp only [if_true, closedTo, if_neg h1, closedFrom, if_pos h2, if_pos h3, laterB, nextB]
    by_cases e2 : a' + 1 < b
    · simp only [if_pos e2]
      by_cases e3 : a' < i ∧ i < n
      · simp [e3]
      · have : ¬ (b < i ∧ i < n) := by omega
        simp [e3, this]
    · have : b = a' + 1 := by omega
      subst this
      simp only [if_neg e2]
      by_cases e3 : a' < i ∧ i < n
      · rw [decide_eq_true e3]
        by_cases e4 : i = a' + 1
        · simp [e4, hb]
        · have : a' + 1 < i := by omega
          simp [this, e3.2]
      · have h5 : ¬ (i = a' + 1 ∧ i < n) := by omega
        have h6 : ¬ (a' + 1 < i ∧ i < n) := by omega
        simp [e3, h5, h6]
  · simp [e, closedTo]

end Go.Model

namespace Go.Proofs.Yteinandjhpnceaa
open Go.X Go.RowKit

theorem mod_mixed : Try.prog.follows .mixedOrders = true := by kernel_rfl
theorem mod_fast : truthQ (envQ Try.prog) 6 20000 Hp.empty = true := by kernel_rfl
theorem mod_known (w : World) : Calls Try.prog 6 #[] w fun e w' => e = .returned (.bool true) ∧ Below w.heap.size w w' := by
  obtain ⟨m, hm⟩ := truthQ_X mod_fast
  exact truth_below (envQ Try.prog) mod_mixed hm w
abbrev iV (k : Int) : Value := .int .i64 k
abbrev isV (l : List Int) : List Value := l.map fun n => .int .i64 n
abbrev ptrV (i : Nat) : Value := .pointer (some ⟨i, 0, none⟩)
noncomputable def modE : Env := envKnown (envOf Try.prog) 6 mod_known

end Go.Proofs.Yteinandjhpnceaa

namespace Go.Proofs.Yteinandjhpnceaa
open Go.X Go.Model

section
variable {h : Hp} {r n a b k : Nat} {W : Nat → Nat → BitVec 64} {e : TypeId} {m : Nat}

/-- has -/
theorem c45 (hr : h.get r = some (.cells (rowsC n W) e m)) (ha : a < n) (_hn : n ≤ 2000) (hb : b < 1216) : CP modE 45 [.pointer (some ⟨r, a * 19, none⟩), iV b] h (.bool (bitW (W a) b)) := by
  refine c_enter (fu := Try.f45) (by kernel_rfl) rfl ?_
  refine w_seq ?_
  refine w_region (by kernel_rfl) ?_
  refine o_assign gn rfl rfl ?_
  refine wl_end ?_
  refine w_seq ?_
  refine w_region (by kernel_rfl) ?_
  refine o_move gn rfl rfl ?_
  refine o_move gn rfl rfl ?_
  refine o_quoI (b := 64) gn rfl rfl rfl (by omega) (by omega) ?_
  refine o_nilCheck gn rfl rfl ?_
  refine o_indexAddrA (n := 19) (e := 124) (zz := 1) gn rfl rfl rfl (by kernel_rfl) (by omega) (by omega) ?_
  rw [Int.toNat_natCast]
  refine o_load gn rfl rfl (by kernel_rfl) hr (by rw [Nat.mul_one]; exact rowsC_get W ha (by omega)) ?_
  refine o_move gn rfl rfl ?_
  refine o_remI (b := 64) gn rfl rfl rfl (by omega) ?_
  refine o_shrU (W a (b / 64)) (b % 64) gn rfl rfl rfl (by omega) ?_
  refine o_andU (_) (1#64) gn rfl rfl rfl ?_
  refine o_eqi gn rfl rfl rfl ?_
  refine o_assign gn rfl rfl ?_
  refine wl_end ?_
  refine w_ret ?_
  refine ⟨.inl rfl, _, rfl, ?_⟩
  exact ⟨by rw [bitW, ← has_bit]; rfl, rfl⟩

theorem nat_nonneg (x : Nat) : ¬ ((x : Int) < 0) := by omega

/-- add -/
theorem c44 {c : Nat} {x y z u : Value} (hr : h.get r = some (.cells (rowsC n W) 126 m)) (hm : m ≠ 1) (ht : h.get c = some (.cells [x, y, .slice (some ⟨r, 0, none⟩) n k, z, u] 122 0)) (ha : a < n) (hn : n ≤ 2000) (hb0 : b < 1216) :
    C modE 44 [ptrV c, iV a, iV b] h fun v h' => v = .bool (!bitW (W a) b) ∧ ∃ W', h'.get r = some (.cells (rowsC n W') 126 m) ∧ ExtB [r] h h' ∧ ∀ a' i, bitW (W' a') i = (bitW (W a') i || (decide (a' = a) && decide (i = b))) := by
  refine c_enter (fu := Try.f44) (by kernel_rfl) rfl ?_
  refine w_seq ?_
  refine w_region (by kernel_rfl) ?_
  refine o_assign gn rfl rfl ?_
  refine wl_end ?_
  refine w_seq ?_
  refine w_seq ?_
  refine w_region (by kernel_rfl) ?_
  refine o_move gn rfl rfl ?_
  refine o_lss gn rfl rfl rfl ?_
  refine o_move gn rfl rfl ?_
  refine o_or (n := 2) rfl rfl rfl gn rfl (fun hb => by
      refine o_move (gy rfl rfl rfl hb) rfl rfl ?_
      refine o_lss (gy rfl rfl rfl hb) rfl rfl rfl ?_
      exact wl_end ⟨rfl, rfl, 2, rfl, rfl⟩) ?_
  refine o_move gn rfl rfl ?_
  refine o_or (n := 8) rfl rfl rfl gn rfl (fun hb => by
      refine o_move (gy rfl rfl rfl hb) rfl rfl ?_
      refine o_nilCheck (gy rfl rfl rfl hb) rfl rfl ?_
      refine o_fieldAddr (off := 2) (gy rfl rfl rfl hb) rfl rfl (by kernel_rfl) ?_
      refine o_load (gy rfl rfl rfl hb) rfl rfl (by kernel_rfl) (by assumption) rfl ?_
      refine o_move (gy rfl rfl rfl hb) rfl rfl ?_
      refine o_indexAddr (zz := 19) (gy rfl rfl rfl hb) rfl rfl rfl (by kernel_rfl) (by omega) (by omega) ?_
      rw [Int.toNat_natCast, Nat.zero_add]
      refine o_move (gy rfl rfl rfl hb) rfl rfl ?_
      refine o_call [_, _] (gy rfl rfl rfl hb) rfl rfl (by kernel_rfl) rfl (c_pure (c45 hr ha hn hb0) ⟨ag0, ?_⟩)
      exact wl_end ⟨rfl, rfl, 8, rfl, rfl⟩) ?_
  refine wl_end ?_
  refine w_cond rfl (fun hb => ?_) fun hb => ?_
  · skip
    refine w_seq ?_
    refine w_region (by kernel_rfl) ?_
    refine o_assign gn rfl rfl ?_
    refine wl_end ?_
    refine w_ret ?_
    refine ⟨.inl rfl, _, rfl, ?_⟩
    have hbt : bitW (W a) b = true := by simpa [nat_nonneg] using hb
    refine ⟨by rw [hbt]; rfl, W, hr, .refl _ _, fun a' i => ?_⟩
    by_cases e : a' = a ∧ i = b
    · obtain ⟨rfl, rfl⟩ := e; simp [hbt]
    · have : (decide (a' = a) && decide (i = b)) = false := by simpa using e
      rw [this, Bool.or_false]
  · skip
    refine w_skip ?_
    refine w_seq ?_
    refine w_draw [(0, []), (1, []), (2, []), (3, []), (4, []), (5, []), (6, []), (7, []), (8, []), (9, []), (10, []), (11, []), (12, []), (13, []), (14, []), (15, []), (16, [])] (by kernel_rfl) (by kernel_rfl) (by kernel_rfl) (by kernel_rfl) ?_
    refine o_move gn rfl rfl ?_
    refine o_nilCheck gn rfl rfl ?_
    refine o_fieldAddr (off := 2) gn rfl rfl (by kernel_rfl) ?_
    refine o_load gn rfl rfl (by kernel_rfl) (by assumption) rfl ?_
    refine o_move gn rfl rfl ?_
    refine o_move gn rfl rfl ?_
    refine o_quoI (b := 64) gn rfl rfl rfl (by omega) (by omega) ?_
    refine o_indexAddr (zz := 19) gn rfl rfl rfl (by kernel_rfl) (by omega) (by omega) ?_
    rw [Int.toNat_natCast, Nat.zero_add]
    refine o_indexAddrA (n := 19) (e := 124) (zz := 1) gn rfl rfl rfl (by kernel_rfl) (by omega) (by omega) ?_
    rw [Int.toNat_natCast]
    refine o_load gn rfl rfl (by kernel_rfl) hr (by rw [Nat.mul_one]; exact rowsC_get W ha (by omega)) ?_
    refine o_move gn rfl rfl ?_
    refine o_remI (b := 64) gn rfl rfl rfl (by omega) ?_
    refine o_shlU (1#64) (b % 64) gn rfl rfl rfl (by omega) ?_
    refine o_orU (_) (_) gn rfl rfl rfl ?_
    refine o_indexAddr (zz := 19) gn rfl rfl rfl (by kernel_rfl) (by omega) (by omega) ?_
    rw [Int.toNat_natCast, Nat.zero_add]
    refine o_indexAddrA (n := 19) (e := 124) (zz := 1) gn rfl rfl rfl (by kernel_rfl) (by omega) (by omega) ?_
    rw [Int.toNat_natCast]
    refine o_store gn rfl rfl rfl (by kernel_rfl) hr hm (by rw [rowsC_len]; omega) ag0 ?_
    refine wl_end ?_
    refine w_seq ?_
    refine w_region (by kernel_rfl) ?_
    refine o_assign gn rfl rfl ?_
    refine wl_end ?_
    refine w_ret ?_
    refine ⟨.inl rfl, _, rfl, ?_⟩
    have hbf : bitW (W a) b = false := by simpa [nat_nonneg] using hb
    refine ⟨by rw [hbf]; rfl, updW W a (b / 64) (W a (b / 64) ||| 1#64 <<< (b % 64)), ?_, ExtB.put _ _ _, bit_add W a b⟩
    rw [Hp.get_put, if_pos rfl, Nat.mul_one, rowsC_set W _ ha (by omega)]

/-- add, of none -/
theorem c44n {c : Nat} {j : Int} (hj : j < 0) (y : Int) : CP modE 44 [ptrV c, iV j, iV y] h (.bool false) := by
  refine c_enter (fu := Try.f44) (by kernel_rfl) rfl ?_
  refine w_seq ?_
  refine w_region (by kernel_rfl) ?_
  refine o_assign gn rfl rfl ?_
  refine wl_end ?_
  refine w_seq ?_
  refine w_seq ?_
  refine w_region (by kernel_rfl) ?_
  refine o_move gn rfl rfl ?_
  refine o_lss gn rfl rfl rfl ?_
  refine o_move gn rfl rfl ?_
  refine o_or (n := 2) rfl rfl rfl gn rfl (fun hb => by
      refine o_move (gy rfl rfl rfl hb) rfl rfl ?_
      refine o_lss (gy rfl rfl rfl hb) rfl rfl rfl ?_
      exact wl_end ⟨rfl, rfl, 2, rfl, rfl⟩) ?_
  refine o_move gn rfl rfl ?_
  refine o_or (n := 8) (B := false) rfl rfl rfl gn rfl (fun hb => by
      exact absurd hb (by simp [hj])) ?_
  refine wl_end ?_
  refine w_cond rfl (fun hb => ?_) fun hb => ?_
  · skip
    refine w_seq ?_
    refine w_region (by kernel_rfl) ?_
    refine o_assign gn rfl rfl ?_
    refine wl_end ?_
    refine w_ret ?_
    refine ⟨.inl rfl, _, rfl, ?_⟩
    exact ⟨rfl, rfl⟩
  · skip
    exact absurd hb (by simp [hj])

/-- first -/
theorem c20 {c : Nat} {x y z u : Value} (hr : h.get r = some (.cells (rowsC n W) 126 m)) (ht : h.get c = some (.cells [x, y, .slice (some ⟨r, 0, none⟩) n k, z, u] 122 0)) (ha : a < n) (hn : n ≤ 2000) (hb0 : b < 1216) :
    CP modE 20 [ptrV c, iV a, iV b] h (.bool (bitW (W a) b)) := by
  refine c_enter (fu := Try.f20) (by kernel_rfl) rfl ?_
  refine w_seq ?_
  refine w_region (by kernel_rfl) ?_
  refine o_assign gn rfl rfl ?_
  refine wl_end ?_
  refine w_seq ?_
  refine w_region (by kernel_rfl) ?_
  refine o_move gn rfl rfl ?_
  refine o_geq gn rfl rfl rfl ?_
  refine o_move gn rfl rfl ?_
  refine o_and (n := 2) rfl rfl rfl gn rfl (fun hb => by
      refine o_move (gy rfl rfl rfl hb) rfl rfl ?_
      refine o_geq (gy rfl rfl rfl hb) rfl rfl rfl ?_
      exact wl_end ⟨rfl, rfl, 2, rfl, rfl⟩) ?_
  refine o_move gn rfl rfl ?_
  refine o_and (n := 8) rfl rfl rfl gn rfl (fun hb => by
      refine o_move (gy rfl rfl rfl hb) rfl rfl ?_
      refine o_nilCheck (gy rfl rfl rfl hb) rfl rfl ?_
      refine o_fieldAddr (off := 2) (gy rfl rfl rfl hb) rfl rfl (by kernel_rfl) ?_
      refine o_load (gy rfl rfl rfl hb) rfl rfl (by kernel_rfl) (by assumption) rfl ?_
      refine o_move (gy rfl rfl rfl hb) rfl rfl ?_
      refine o_indexAddr (zz := 19) (gy rfl rfl rfl hb) rfl rfl rfl (by kernel_rfl) (by omega) (by omega) ?_
      rw [Int.toNat_natCast, Nat.zero_add]
      refine o_move (gy rfl rfl rfl hb) rfl rfl ?_
      refine o_call [_, _] (gy rfl rfl rfl hb) rfl rfl (by kernel_rfl) rfl (c_pure (c45 hr ha hn hb0) ⟨ag0, ?_⟩)
      exact wl_end ⟨rfl, rfl, 8, rfl, rfl⟩) ?_
  refine o_assign gn rfl rfl ?_
  refine wl_end ?_
  refine w_ret ?_
  refine ⟨.inl rfl, _, rfl, ?_⟩
  exact ⟨by simp [oneOf], rfl⟩

end
end Go.Proofs.Yteinandjhpnceaa


namespace Go.Proofs.Yteinandjhpnceaa
open Go.X Go.Model

abbrev tkC : List Value := [iV 1, iV 0, iV 0, iV 0, iV 0, iV 0, iV 0, .bool false, iV 0, iV 0, iV 0, iV 0, iV 0, iV (-1), iV 0]
/-- A mark's cells: the beginning, then accesses. -/
def mkC : Nat → List Value
  | 0 => [iV 1, iV 1, iV 0, iV 0, iV 0, iV 0, iV 0, .bool false]
  | i + 1 => [iV 3, iV 1, iV 0, iV (i : Nat), iV 7, iV 0, iV 0, .bool true]
theorem mkC_len : ∀ n, (mkC n).length = 8
  | 0 => rfl
  | _ + 1 => rfl
abbrev mkV (i : Nat) : Value := .agg (mkC i).toArray
def marksC (n : Nat) : List Value := (List.range n).flatMap mkC
abbrev tsV (bt : Nat) : Value := .slice (some ⟨bt, 0, none⟩) 1 1
abbrev msV (bm n c : Nat) : Value := .slice (some ⟨bm, 0, none⟩) n c
abbrev runV (bt bm n c : Nat) : Value := .agg #[tsV bt, msV bm n c]

theorem marksC_len (n : Nat) : (marksC n).length = n * 8 := by
  unfold marksC
  induction n with
  | zero => rfl
  | succ n ih => rw [List.range_succ, List.flatMap_append, List.length_append, ih]; simp [mkC_len]; omega
theorem marksC_succ (n : Nat) : marksC (n + 1) = marksC n ++ mkC n := by
  unfold marksC
  rw [List.range_succ, List.flatMap_append]; simp
theorem marksC_cut {n i : Nat} (hi : i < n) (rest : List Value) : ((marksC n ++ rest).drop (i * 8)).take 8 = mkC i := by
  induction n generalizing rest with
  | zero => omega
  | succ n ih =>
    rw [marksC_succ, List.append_assoc]
    by_cases e : i = n
    · subst e
      rw [List.drop_append, marksC_len, Nat.sub_self, List.drop_eq_nil_of_le (by rw [marksC_len]; omega), List.nil_append, List.drop_zero, List.take_append_of_le_length (by rw [mkC_len]; omega), List.take_of_length_le (by rw [mkC_len]; omega)]
    · exact ih (by omega) _

/-- A run of one task. -/
structure RunAt (h : Hp) (bt bm n : Nat) : Prop where
  tsk : ∃ m, h.get bt = some (.cells tkC 27 m)
  mks : ∃ m rest, h.get bm = some (.cells (marksC n ++ rest) 36 m)
  lt : bt < h.n ∧ bm < h.n
theorem RunAt.keep {h h' : Hp} {bt bm n : Nat} {ds : List Nat} (x : RunAt h bt bm n) (g : ExtB ds h h') (h1 : bt ∉ ds) (h2 : bm ∉ ds) : RunAt h' bt bm n := by
  obtain ⟨⟨m, x1⟩, ⟨m2, r, x2⟩, x3⟩ := x
  exact ⟨⟨m, by rw [g.get bt x3.1 h1]; exact x1⟩, ⟨m2, r, by rw [g.get bm x3.2 h2]; exact x2⟩, Nat.lt_of_lt_of_le x3.1 g.n, Nat.lt_of_lt_of_le x3.2 g.n⟩
theorem RunAt.ext {h h' : Hp} {bt bm n : Nat} (x : RunAt h bt bm n) (g : Ext h h') : RunAt h' bt bm n := x.keep (g.b []) (by simp) (by simp)

section
variable {h : Hp} {bt bm n c k bb be i : Nat}

/-- is -/
theorem c83 {t : Int} : C modE 83 [runV bt bm n c, iV t] h fun v h' => v = .bool (decide (1 ≤ t) && decide (t ≤ 1)) ∧ Ext h h' := by
  refine c_enter (fu := Try.f83) (by kernel_rfl) rfl ?_
  refine w_seq ?_
  refine w_region (by kernel_rfl) ?_
  refine o_box gn rfl rfl ?_
  refine wl_at (fun h2 => h2.get h.n = some (.cells [tsV bt, msV bm n c] 39 0) ∧ Ext h h2) ⟨Hp.get_alloc_self _ _, Ext.alloc _ _⟩ fun h2 ⟨g1, x2⟩ => ?_
  refine o_assign gn rfl rfl ?_
  refine wl_end ?_
  refine w_seq ?_
  refine w_region (by kernel_rfl) ?_
  refine o_move gn rfl rfl ?_
  refine o_geq gn rfl rfl rfl ?_
  refine o_move gn rfl rfl ?_
  refine o_and (n := 5) rfl rfl rfl gn rfl (fun hb => by
      refine o_move (gy rfl rfl rfl hb) rfl rfl ?_
      refine o_fieldAddr (off := 0) (gy rfl rfl rfl hb) rfl rfl (by kernel_rfl) ?_
      refine o_load (gy rfl rfl rfl hb) rfl rfl (by kernel_rfl) (by assumption) rfl ?_
      refine o_len (gy rfl rfl rfl hb) rfl rfl (by kernel_rfl) ?_
      refine o_leq (gy rfl rfl rfl hb) rfl rfl rfl ?_
      exact wl_end ⟨rfl, rfl, 5, rfl, rfl⟩) ?_
  refine o_assign gn rfl rfl ?_
  refine wl_end ?_
  refine w_ret ?_
  refine ⟨.inl rfl, _, rfl, ?_⟩
  exact ⟨rfl, x2⟩

/-- A looker, and where the task begins. -/
structure LkAt (h : Hp) (k bt bm n c bb be : Nat) (x : Int) : Prop where
  top : h.get k = some (.cells [tsV bt, msV bm n c, .slice (some ⟨bb, 0, none⟩) 2 2, .slice (some ⟨be, 0, none⟩) 2 2] 155 0)
  beg : h.get bb = some (.cells [iV (-1), iV x] 3 0)
  fin : h.get be = some (.cells [iV (-1), iV (-1)] 3 0)
  lt : k < h.n ∧ bb < h.n ∧ be < h.n
  ne : bb ≠ k ∧ bb ≠ be
theorem LkAt.ext {h h' : Hp} {k bt bm n c bb be : Nat} {x : Int} (y : LkAt h k bt bm n c bb be x) (g : Ext h h') : LkAt h' k bt bm n c bb be x :=
  ⟨(g.get k y.lt.1).trans y.top, (g.get bb y.lt.2.1).trans y.beg, (g.get be y.lt.2.2).trans y.fin, ⟨Nat.lt_of_lt_of_le y.lt.1 g.n, Nat.lt_of_lt_of_le y.lt.2.1 g.n, Nat.lt_of_lt_of_le y.lt.2.2 g.n⟩, y.ne⟩

end
end Go.Proofs.Yteinandjhpnceaa


namespace Go.Proofs.Yteinandjhpnceaa
open Go.X Go.Model

section
variable {h : Hp} {bt bm n c k bb be i : Nat}

/-- mark, the first -/
theorem c66z (y : LkAt h k bt bm n c bb be (-1)) : C modE 66 [ptrV k, iV 0, mkV 0] h fun v h' => v = .bool true ∧ LkAt h' k bt bm n c bb be 0 ∧ ExtB [bb] h h' := by
  refine c_enter (fu := Try.f66) (by kernel_rfl) rfl ?_
  refine w_seq ?_
  refine w_region (by kernel_rfl) ?_
  refine o_box gn rfl rfl ?_
  refine wl_at (fun h2 => h2.get h.n = some (.cells (mkC 0) 36 0) ∧ LkAt h2 k bt bm n c bb be (-1) ∧ Ext h h2 ∧ h.n < h2.n) ⟨Hp.get_alloc_self _ _, y.ext (Ext.alloc _ _), Ext.alloc _ _, by rw [Hp.n_alloc]; omega⟩ fun h2 ⟨g0, y2, x2, n2⟩ => ?_
  have t2 := y2.top
  refine o_assign gn rfl rfl ?_
  refine wl_end ?_
  refine w_seq ?_
  refine w_seq ?_
  refine w_draw [(0, []), (1, []), (2, []), (3, []), (4, []), (5, []), (6, []), (7, []), (8, []), (9, []), (10, []), (11, []), (12, []), (13, []), (14, []), (15, []), (16, []), (17, []), (18, []), (19, []), (20, []), (21, []), (22, []), (23, []), (24, []), (25, []), (26, []), (27, []), (28, []), (29, []), (30, []), (31, []), (32, []), (33, [])] (by kernel_rfl) (by kernel_rfl) (by kernel_rfl) (by kernel_rfl) ?_
  refine o_move gn rfl rfl ?_
  refine o_nilCheck gn rfl rfl ?_
  refine o_fieldAddr (off := 0) gn rfl rfl (by kernel_rfl) ?_
  refine o_loadA (n := 2) gn rfl rfl (by kernel_rfl) (by kernel_rfl) (by assumption) (by simp) ?_
  refine o_fieldAddr (off := 1) gn rfl rfl (by kernel_rfl) ?_
  refine o_load gn rfl rfl (by kernel_rfl) (by assumption) rfl ?_
  refine o_call [_, _] gn rfl rfl (by kernel_rfl) rfl (C.mono (c83) ?_)
  rintro v h3 ⟨rfl, x3⟩
  have y3 := y2.ext x3
  have g3 := (x3.get h.n n2).trans g0
  have t3 := y3.top
  have b3 := y3.beg
  have f3 := y3.fin
  refine ⟨ag0, ?_⟩
  refine o_not gn rfl rfl ?_
  refine o_move gn rfl rfl ?_
  refine o_or (n := 13) rfl rfl rfl gn rfl (fun hb => by
      refine o_fieldAddr (off := 0) (gy rfl rfl rfl hb) rfl rfl (by kernel_rfl) ?_
      refine o_load (gy rfl rfl rfl hb) rfl rfl (by kernel_rfl) (by assumption) rfl ?_
      refine o_eqi (gy rfl rfl rfl hb) rfl rfl rfl ?_
      refine o_move (gy rfl rfl rfl hb) rfl rfl ?_
      refine o_nilCheck (gy rfl rfl rfl hb) rfl rfl ?_
      refine o_fieldAddr (off := 2) (gy rfl rfl rfl hb) rfl rfl (by kernel_rfl) ?_
      refine o_load (gy rfl rfl rfl hb) rfl rfl (by kernel_rfl) (by assumption) rfl ?_
      refine o_fieldAddr (off := 1) (gy rfl rfl rfl hb) rfl rfl (by kernel_rfl) ?_
      refine o_load (gy rfl rfl rfl hb) rfl rfl (by kernel_rfl) (by assumption) rfl ?_
      refine o_indexAddr (zz := 1) (gy rfl rfl rfl hb) rfl rfl rfl (by kernel_rfl) (by omega) (by omega) ?_
      refine o_load (gy rfl rfl rfl hb) rfl rfl (by kernel_rfl) (by assumption) rfl ?_
      refine o_lss (gy rfl rfl rfl hb) rfl rfl rfl ?_
      refine o_neb (gy rfl rfl rfl hb) rfl rfl rfl (by kernel_rfl) ?_
      exact wl_end ⟨rfl, rfl, 13, rfl, rfl⟩) ?_
  refine o_move gn rfl rfl ?_
  refine o_or (n := 9) rfl rfl rfl gn rfl (fun hb => by
      refine o_move (gy rfl rfl rfl hb) rfl rfl ?_
      refine o_nilCheck (gy rfl rfl rfl hb) rfl rfl ?_
      refine o_fieldAddr (off := 3) (gy rfl rfl rfl hb) rfl rfl (by kernel_rfl) ?_
      refine o_load (gy rfl rfl rfl hb) rfl rfl (by kernel_rfl) (by assumption) rfl ?_
      refine o_fieldAddr (off := 1) (gy rfl rfl rfl hb) rfl rfl (by kernel_rfl) ?_
      refine o_load (gy rfl rfl rfl hb) rfl rfl (by kernel_rfl) (by assumption) rfl ?_
      refine o_indexAddr (zz := 1) (gy rfl rfl rfl hb) rfl rfl rfl (by kernel_rfl) (by omega) (by omega) ?_
      refine o_load (gy rfl rfl rfl hb) rfl rfl (by kernel_rfl) (by assumption) rfl ?_
      refine o_geq (gy rfl rfl rfl hb) rfl rfl rfl ?_
      exact wl_end ⟨rfl, rfl, 9, rfl, rfl⟩) ?_
  refine wl_end ?_
  refine w_cond rfl (fun hb => ?_) fun hb => ?_
  · skip
    exact absurd hb (by decide)
  · skip
    refine w_skip ?_
    refine w_seq ?_
    refine w_seq ?_
    refine w_region (by kernel_rfl) ?_
    refine o_fieldAddr (off := 0) gn rfl rfl (by kernel_rfl) ?_
    refine o_load gn rfl rfl (by kernel_rfl) (by assumption) rfl ?_
    refine wl_end ?_
    refine w_block ?_
    refine w_seq ?_
    refine w_region (by kernel_rfl) ?_
    refine o_eqi gn rfl rfl rfl ?_
    refine o_assign gn rfl rfl ?_
    refine wl_end ?_
    refine w_cond rfl (fun hb => ?_) fun hb => ?_
    · skip
      refine w_draw [(0, []), (1, []), (2, []), (3, []), (4, []), (5, []), (6, []), (7, []), (8, [])] (by kernel_rfl) (by kernel_rfl) (by kernel_rfl) (by kernel_rfl) ?_
      refine o_move gn rfl rfl ?_
      refine o_nilCheck gn rfl rfl ?_
      refine o_fieldAddr (off := 2) gn rfl rfl (by kernel_rfl) ?_
      refine o_load gn rfl rfl (by kernel_rfl) (by assumption) rfl ?_
      refine o_fieldAddr (off := 1) gn rfl rfl (by kernel_rfl) ?_
      refine o_load gn rfl rfl (by kernel_rfl) (by assumption) rfl ?_
      refine o_move gn rfl rfl ?_
      refine o_indexAddr (zz := 1) gn rfl rfl rfl (by kernel_rfl) (by omega) (by omega) ?_
      refine o_store gn rfl rfl rfl (by kernel_rfl) (by assumption) (by decide) (by simp) ag0 ?_
      refine wl_end ?_
      refine w_seq ?_
      refine w_region (by kernel_rfl) ?_
      refine o_assign gn rfl rfl ?_
      refine wl_end ?_
      refine w_ret ?_
      refine ⟨.inl rfl, _, rfl, ?_⟩
      refine ⟨rfl, ⟨?_, ?_, ?_, ⟨?_, ?_, ?_⟩, y3.ne⟩, ((x2.trans x3).b _).trans (ExtB.put _ _ _)⟩
      · rw [Hp.get_put, if_neg y3.ne.1]; exact t3
      · rw [Hp.get_put, if_pos rfl]; rfl
      · rw [Hp.get_put, if_neg y3.ne.2]; exact f3
      · rw [Hp.n_put]; exact y3.lt.1
      · rw [Hp.n_put]; exact y3.lt.2.1
      · rw [Hp.n_put]; exact y3.lt.2.2
    · skip
      exact absurd hb (by decide)

/-- mark, the others -/
theorem c66s {j : Int} (y : LkAt h k bt bm n c bb be 0) : C modE 66 [ptrV k, iV j, mkV (i + 1)] h fun v h' => v = .bool true ∧ Ext h h' := by
  refine c_enter (fu := Try.f66) (by kernel_rfl) rfl ?_
  refine w_seq ?_
  refine w_region (by kernel_rfl) ?_
  refine o_box gn rfl rfl ?_
  refine wl_at (fun h2 => h2.get h.n = some (.cells (mkC (i + 1)) 36 0) ∧ LkAt h2 k bt bm n c bb be 0 ∧ Ext h h2 ∧ h.n < h2.n) ⟨Hp.get_alloc_self _ _, y.ext (Ext.alloc _ _), Ext.alloc _ _, by rw [Hp.n_alloc]; omega⟩ fun h2 ⟨g0, y2, x2, n2⟩ => ?_
  have t2 := y2.top
  refine o_assign gn rfl rfl ?_
  refine wl_end ?_
  refine w_seq ?_
  refine w_seq ?_
  refine w_draw [(0, []), (1, []), (2, []), (3, []), (4, []), (5, []), (6, []), (7, []), (8, []), (9, []), (10, []), (11, []), (12, []), (13, []), (14, []), (15, []), (16, []), (17, []), (18, []), (19, []), (20, []), (21, []), (22, []), (23, []), (24, []), (25, []), (26, []), (27, []), (28, []), (29, []), (30, []), (31, []), (32, []), (33, [])] (by kernel_rfl) (by kernel_rfl) (by kernel_rfl) (by kernel_rfl) ?_
  refine o_move gn rfl rfl ?_
  refine o_nilCheck gn rfl rfl ?_
  refine o_fieldAddr (off := 0) gn rfl rfl (by kernel_rfl) ?_
  refine o_loadA (n := 2) gn rfl rfl (by kernel_rfl) (by kernel_rfl) (by assumption) (by simp) ?_
  refine o_fieldAddr (off := 1) gn rfl rfl (by kernel_rfl) ?_
  refine o_load gn rfl rfl (by kernel_rfl) (by assumption) rfl ?_
  refine o_call [_, _] gn rfl rfl (by kernel_rfl) rfl (C.mono (c83) ?_)
  rintro v h3 ⟨rfl, x3⟩
  have y3 := y2.ext x3
  have g3 := (x3.get h.n n2).trans g0
  have t3 := y3.top
  have b3 := y3.beg
  have f3 := y3.fin
  refine ⟨ag0, ?_⟩
  refine o_not gn rfl rfl ?_
  refine o_move gn rfl rfl ?_
  refine o_or (n := 13) rfl rfl rfl gn rfl (fun hb => by
      refine o_fieldAddr (off := 0) (gy rfl rfl rfl hb) rfl rfl (by kernel_rfl) ?_
      refine o_load (gy rfl rfl rfl hb) rfl rfl (by kernel_rfl) (by assumption) rfl ?_
      refine o_eqi (gy rfl rfl rfl hb) rfl rfl rfl ?_
      refine o_move (gy rfl rfl rfl hb) rfl rfl ?_
      refine o_nilCheck (gy rfl rfl rfl hb) rfl rfl ?_
      refine o_fieldAddr (off := 2) (gy rfl rfl rfl hb) rfl rfl (by kernel_rfl) ?_
      refine o_load (gy rfl rfl rfl hb) rfl rfl (by kernel_rfl) (by assumption) rfl ?_
      refine o_fieldAddr (off := 1) (gy rfl rfl rfl hb) rfl rfl (by kernel_rfl) ?_
      refine o_load (gy rfl rfl rfl hb) rfl rfl (by kernel_rfl) (by assumption) rfl ?_
      refine o_indexAddr (zz := 1) (gy rfl rfl rfl hb) rfl rfl rfl (by kernel_rfl) (by omega) (by omega) ?_
      refine o_load (gy rfl rfl rfl hb) rfl rfl (by kernel_rfl) (by assumption) rfl ?_
      refine o_lss (gy rfl rfl rfl hb) rfl rfl rfl ?_
      refine o_neb (gy rfl rfl rfl hb) rfl rfl rfl (by kernel_rfl) ?_
      exact wl_end ⟨rfl, rfl, 13, rfl, rfl⟩) ?_
  refine o_move gn rfl rfl ?_
  refine o_or (n := 9) rfl rfl rfl gn rfl (fun hb => by
      refine o_move (gy rfl rfl rfl hb) rfl rfl ?_
      refine o_nilCheck (gy rfl rfl rfl hb) rfl rfl ?_
      refine o_fieldAddr (off := 3) (gy rfl rfl rfl hb) rfl rfl (by kernel_rfl) ?_
      refine o_load (gy rfl rfl rfl hb) rfl rfl (by kernel_rfl) (by assumption) rfl ?_
      refine o_fieldAddr (off := 1) (gy rfl rfl rfl hb) rfl rfl (by kernel_rfl) ?_
      refine o_load (gy rfl rfl rfl hb) rfl rfl (by kernel_rfl) (by assumption) rfl ?_
      refine o_indexAddr (zz := 1) (gy rfl rfl rfl hb) rfl rfl rfl (by kernel_rfl) (by omega) (by omega) ?_
      refine o_load (gy rfl rfl rfl hb) rfl rfl (by kernel_rfl) (by assumption) rfl ?_
      refine o_geq (gy rfl rfl rfl hb) rfl rfl rfl ?_
      exact wl_end ⟨rfl, rfl, 9, rfl, rfl⟩) ?_
  refine wl_end ?_
  refine w_cond rfl (fun hb => ?_) fun hb => ?_
  · skip
    exact absurd hb (by decide)
  · skip
    refine w_skip ?_
    refine w_seq ?_
    refine w_seq ?_
    refine w_region (by kernel_rfl) ?_
    refine o_fieldAddr (off := 0) gn rfl rfl (by kernel_rfl) ?_
    refine o_load gn rfl rfl (by kernel_rfl) (by assumption) rfl ?_
    refine wl_end ?_
    refine w_block ?_
    refine w_seq ?_
    refine w_region (by kernel_rfl) ?_
    refine o_eqi gn rfl rfl rfl ?_
    refine o_assign gn rfl rfl ?_
    refine wl_end ?_
    refine w_cond rfl (fun hb => ?_) fun hb => ?_
    · skip
      exact absurd hb (by decide)
    · skip
      refine w_seq ?_
      refine w_region (by kernel_rfl) ?_
      refine o_eqi gn rfl rfl rfl ?_
      refine o_assign gn rfl rfl ?_
      refine wl_end ?_
      refine w_cond rfl (fun hb => ?_) fun hb => ?_
      · skip
        exact absurd hb (by decide)
      · skip
        refine w_seq ?_
        refine w_region (by kernel_rfl) ?_
        refine o_eqi gn rfl rfl rfl ?_
        refine o_assign gn rfl rfl ?_
        refine wl_end ?_
        refine w_cond rfl (fun hb => ?_) fun hb => ?_
        · skip
          refine w_skip ?_
          refine w_seq ?_
          refine w_region (by kernel_rfl) ?_
          refine o_assign gn rfl rfl ?_
          refine wl_end ?_
          refine w_ret ?_
          refine ⟨.inl rfl, _, rfl, ?_⟩
          exact ⟨rfl, x2.trans x3⟩
        · skip
          exact absurd hb (by decide)

/-- made -/
theorem c67 : C modE 67 [ptrV k, iV 1, .agg tkC.toArray] h fun v h' => v = .bool true ∧ Ext h h' := by
  refine c_enter (fu := Try.f67) (by kernel_rfl) rfl ?_
  refine w_seq ?_
  refine w_region (by kernel_rfl) ?_
  refine o_box gn rfl rfl ?_
  refine wl_at (fun h2 => h2.get h.n = some (.cells tkC 27 0) ∧ Ext h h2) ⟨Hp.get_alloc_self _ _, Ext.alloc _ _⟩ fun h2 ⟨g0, x2⟩ => ?_
  refine o_assign gn rfl rfl ?_
  refine wl_end ?_
  refine w_seq ?_
  refine w_seq ?_
  refine w_region (by kernel_rfl) ?_
  refine o_fieldAddr (off := 13) gn rfl rfl (by kernel_rfl) ?_
  refine o_load gn rfl rfl (by kernel_rfl) (by assumption) rfl ?_
  refine o_lss gn rfl rfl rfl ?_
  refine wl_end ?_
  refine w_cond rfl (fun hb => ?_) fun hb => ?_
  · skip
    refine w_seq ?_
    refine w_region (by kernel_rfl) ?_
    refine o_fieldAddr (off := 0) gn rfl rfl (by kernel_rfl) ?_
    refine o_load gn rfl rfl (by kernel_rfl) (by assumption) rfl ?_
    refine o_nei gn rfl rfl rfl ?_
    refine o_move gn rfl rfl ?_
    refine o_and (n := 3) rfl rfl rfl gn rfl (fun hb => by
        refine o_fieldAddr (off := 0) (gy rfl rfl rfl hb) rfl rfl (by kernel_rfl) ?_
        refine o_load (gy rfl rfl rfl hb) rfl rfl (by kernel_rfl) (by assumption) rfl ?_
        refine o_nei (gy rfl rfl rfl hb) rfl rfl rfl ?_
        exact wl_end ⟨rfl, rfl, 3, rfl, rfl⟩) ?_
    refine o_assign gn rfl rfl ?_
    refine wl_end ?_
    refine w_ret ?_
    refine ⟨.inl rfl, _, rfl, ?_⟩
    exact ⟨rfl, x2⟩
  · skip
    exact absurd hb (by decide)

/-- followed -/
theorem c68 : C modE 68 [ptrV k, iV 1, .agg tkC.toArray] h fun v h' => v = .bool true ∧ Ext h h' := by
  refine c_enter (fu := Try.f68) (by kernel_rfl) rfl ?_
  refine w_seq ?_
  refine w_region (by kernel_rfl) ?_
  refine o_box gn rfl rfl ?_
  refine wl_at (fun h2 => h2.get h.n = some (.cells tkC 27 0) ∧ Ext h h2) ⟨Hp.get_alloc_self _ _, Ext.alloc _ _⟩ fun h2 ⟨g0, x2⟩ => ?_
  refine o_assign gn rfl rfl ?_
  refine wl_end ?_
  refine w_seq ?_
  refine w_seq ?_
  refine w_region (by kernel_rfl) ?_
  refine o_fieldAddr (off := 14) gn rfl rfl (by kernel_rfl) ?_
  refine o_load gn rfl rfl (by kernel_rfl) (by assumption) rfl ?_
  refine o_eqi gn rfl rfl rfl ?_
  refine wl_end ?_
  refine w_cond rfl (fun hb => ?_) fun hb => ?_
  · skip
    refine w_seq ?_
    refine w_region (by kernel_rfl) ?_
    refine o_assign gn rfl rfl ?_
    refine wl_end ?_
    refine w_ret ?_
    refine ⟨.inl rfl, _, rfl, ?_⟩
    exact ⟨rfl, x2⟩
  · skip
    exact absurd hb (by decide)

end
end Go.Proofs.Yteinandjhpnceaa


namespace Go.Proofs.Yteinandjhpnceaa
open Go.X Go.Model

theorem mkC_form (j : Nat) : ∃ (kd si lo : Int) (wr : Bool), mkC j = [iV kd, iV 1, iV 0, iV si, iV lo, iV 0, iV 0, .bool wr] ∧ kd = (if j = 0 then 1 else 3) := by
  cases j with
  | zero => exact ⟨1, 0, 0, false, rfl, rfl⟩
  | succ j => exact ⟨3, j, 7, true, rfl, by simp⟩
theorem marks_at {n j : Nat} (hj : j < n) (rest : List Value) {kd si lo : Int} {wr : Bool} (e : mkC j = [iV kd, iV 1, iV 0, iV si, iV lo, iV 0, iV 0, .bool wr]) :
    ((marksC n ++ rest).drop (0 + Int.toNat (j : Int) * 8)).take 8 = [iV kd, iV 1, iV 0, iV si, iV lo, iV 0, iV 0, .bool wr] := by
  rw [Nat.zero_add, Int.toNat_natCast, marksC_cut hj, e]
theorem mapT158 : MapT modE 158 3 3 := ⟨by kernel_rfl, by kernel_rfl⟩

section
variable {h : Hp} {bt bm n c k bb be i : Nat}

/-- alone -/
theorem c69 (r : RunAt h bt bm n) (y : LkAt h k bt bm n c bb be 0) (hn : n ≤ 2000) : C modE 69 [ptrV k] h fun v h' => v = .bool true ∧ Ext h h' := by
  obtain ⟨⟨mt, g1⟩, ⟨mm, rest, g2⟩, l1, l2⟩ := r
  obtain ⟨g3, g4, g5, ⟨l3, l4, l5⟩, _⟩ := y
  refine c_enter (fu := Try.f69) (by kernel_rfl) rfl ?_
  have S := SH.start h
  refine w_seq ?_
  refine w_region (by kernel_rfl) ?_
  refine o_assign gn rfl rfl ?_
  refine wl_end ?_
  refine w_seq ?_
  refine w_region (by kernel_rfl) ?_
  refine s_makeMap S gn rfl fun b1 g nb1 S => ?_
  refine o_assign gn rfl rfl ?_
  refine wl_end ?_
  refine w_seq ?_
  refine w_seq ?_
  refine w_region (by kernel_rfl) ?_
  refine o_move gn rfl rfl ?_
  refine o_nilCheck gn rfl rfl ?_
  refine o_fieldAddr (off := 0) gn rfl rfl (by kernel_rfl) ?_
  refine o_fieldAddr (off := 1) gn rfl rfl (by kernel_rfl) ?_
  refine o_load gn rfl rfl (by kernel_rfl) (by first | exact S.cel 0 rfl | exact S.old0 g1 l1  | exact S.old0 g2 l2  | exact S.old0 g3 l3) rfl ?_
  refine o_len gn rfl rfl (by kernel_rfl) ?_
  refine o_move gn rfl rfl ?_
  refine wl_end ?_
  refine w_block ?_
  refine w_loopS [(15, _)] [(0, _), (3, _), (13, _), (14, _)] (by repeat (first | exact trivial | refine ⟨rfl, ?_⟩)) (fun kk lv hh => ∃ (j : Nat) (M : Ms) (cl : Nat), lv = [(15, iV j)] ∧ kk = n - j ∧ j ≤ n ∧ SH h [] [cR b1 (.map (M.map ent) cl)] hh ∧ (j = 0 → M = [])) (n := n) ?_ fun kk lv hh hI => ?_
  · exact ⟨0, [], 0, rfl, by omega, by omega, S, fun _ => rfl⟩
  · obtain ⟨j, M, cl, rfl, hk, hj, S, hM⟩ := hI
    refine w_seq ?_
    refine w_region (by kernel_rfl) ?_
    refine o_lss gn rfl rfl rfl ?_
    refine wl_end ?_
    refine w_seq ?_
    refine w_cond rfl (fun hb => ?_) fun hb => ?_
    · skip
      refine w_skip ?_
      have hj : j < n := by simpa using hb
      obtain ⟨kd, si, lo, wr, em, hkd⟩ := mkC_form j
      refine w_seq ?_
      refine w_block ?_
      refine w_seq ?_
      refine w_region (by kernel_rfl) ?_
      refine o_indexAddr (zz := 8) gn rfl rfl rfl (by kernel_rfl) (by omega) (by omega) ?_
      refine o_loadA (n := 8) gn rfl rfl (by kernel_rfl) (by kernel_rfl) (by first | exact S.cel 0 rfl | exact S.old0 g1 l1  | exact S.old0 g2 l2  | exact S.old0 g3 l3) (by rw [List.length_append, marksC_len]; omega) ?_
      rw [marks_at hj rest em]
      refine s_alloc (zv := .agg #[.int .i64 0, .int .i64 0, .int .i64 0, .int .i64 0, .int .i64 0, .int .i64 0, .int .i64 0, .bool false]) S gn rfl (by kernel_rfl) fun b2 g nb2 S => ?_
      first | refine s_storeA (n := 8) 0 S gn rfl rfl (by kernel_rfl) (by kernel_rfl) rfl rfl (by decide) rfl (fun g S => ag0) fun g S => ?_ | refine s_storeA (n := 8) 1 S gn rfl rfl (by kernel_rfl) (by kernel_rfl) rfl rfl (by decide) rfl (fun g S => ag0) fun g S => ?_
      refine wl_end ?_
      refine w_seq ?_
      refine w_draw [(0, []), (1, []), (2, []), (3, []), (4, []), (5, []), (6, []), (7, []), (8, []), (9, []), (10, []), (11, [])] (by kernel_rfl) (by kernel_rfl) (by kernel_rfl) (by kernel_rfl) ?_
      refine o_move gn rfl rfl ?_
      refine o_nilCheck gn rfl rfl ?_
      refine o_fieldAddr (off := 0) gn rfl rfl (by kernel_rfl) ?_
      refine o_fieldAddr (off := 0) gn rfl rfl (by kernel_rfl) ?_
      refine o_load gn rfl rfl (by kernel_rfl) (by first | exact S.cel 0 rfl | exact S.cel 1 rfl | exact S.old0 g1 l1  | exact S.old0 g2 l2  | exact S.old0 g3 l3) rfl ?_
      refine o_fieldAddr (off := 1) gn rfl rfl (by kernel_rfl) ?_
      refine o_load gn rfl rfl (by kernel_rfl) (by first | exact S.cel 0 rfl | exact S.cel 1 rfl | exact S.old0 g1 l1  | exact S.old0 g2 l2  | exact S.old0 g3 l3) rfl ?_
      refine o_sub gn rfl rfl rfl (by omega) (by omega) ?_
      refine o_indexAddr (zz := 15) gn rfl rfl rfl (by kernel_rfl) (by omega) (by omega) ?_
      refine o_fieldAddr (off := 4) gn rfl rfl (by kernel_rfl) ?_
      refine o_load gn rfl rfl (by kernel_rfl) (by first | exact S.cel 0 rfl | exact S.cel 1 rfl | exact S.old0 g1 l1  | exact S.old0 g2 l2  | exact S.old0 g3 l3) rfl ?_
      refine o_assign gn rfl rfl ?_
      refine wl_end ?_
      refine w_seq ?_
      refine w_seq ?_
      refine w_region (by kernel_rfl) ?_
      refine o_fieldAddr (off := 0) gn rfl rfl (by kernel_rfl) ?_
      refine o_load gn rfl rfl (by kernel_rfl) (by first | exact S.cel 0 rfl | exact S.cel 1 rfl | exact S.old0 g1 l1  | exact S.old0 g2 l2  | exact S.old0 g3 l3) rfl ?_
      refine o_nei gn rfl rfl rfl ?_
      refine o_move gn rfl rfl ?_
      refine o_or (n := 2) rfl rfl rfl gn rfl (fun hb => by
          refine o_move (gy rfl rfl rfl hb) rfl rfl ?_
          refine o_lss (gy rfl rfl rfl hb) rfl rfl rfl ?_
          exact wl_end ⟨rfl, rfl, 2, rfl, rfl⟩) ?_
      refine wl_end ?_
      refine w_cond rfl (fun hb => ?_) fun hb => ?_
      · skip
        refine w_exit ?_
        refine thn_exit ?_
        refine blk_eq ?_
        refine w_region (by kernel_rfl) ?_
        refine o_add gn rfl rfl rfl (by omega) (by omega) ?_
        refine o_move gn rfl rfl ?_
        refine wl_end ?_
        exact rndS (n - (j + 1)) (by omega) [(15, _)] (by repeat (first | exact trivial | refine ⟨rfl, ?_⟩)) ⟨j + 1, M, cl, rfl, rfl, by omega, S.drop, by omega⟩
      · skip
        refine w_skip ?_
        have hj0 : j = 0 := by
          rcases Nat.eq_zero_or_pos j with e | e
          · exact e
          · rw [if_neg (by omega)] at hkd; subst hkd; simp at hb
        subst hj0
        rw [hM rfl] at S
        refine w_seq ?_
        refine w_seq ?_
        refine w_region (by kernel_rfl) ?_
        refine o_move gn rfl rfl ?_
        refine o_move gn rfl rfl ?_
        refine o_lookup (zv := .int .i64 0) mapT158 gn rfl rfl rfl (by first | exact S.cel 0 rfl | exact S.cel 1 rfl | exact S.old0 g1 l1  | exact S.old0 g2 l2  | exact S.old0 g3 l3) (by kernel_rfl) ?_
        refine o_assign gn rfl rfl ?_
        refine wl_end ?_
        refine w_seq ?_
        refine w_draw [(0, []), (1, []), (2, []), (3, []), (4, []), (5, []), (6, []), (7, []), (8, []), (9, []), (10, []), (11, []), (12, []), (13, []), (14, []), (15, []), (16, []), (17, []), (18, []), (19, []), (20, []), (21, []), (22, []), (23, []), (24, []), (25, []), (26, []), (27, []), (28, []), (29, [])] (by kernel_rfl) (by kernel_rfl) (by kernel_rfl) (by kernel_rfl) ?_
        refine o_move gn rfl rfl ?_
        refine o_gtr gn rfl rfl rfl ?_
        refine o_move gn rfl rfl ?_
        refine o_and (n := 26) (B := false) rfl rfl rfl gn rfl (fun hb => by
            exact absurd hb (by decide)) ?_
        refine wl_end ?_
        refine w_cond rfl (fun hb => ?_) fun hb => ?_
        · skip
          refine w_seq ?_
          exact absurd hb (by decide)
        · skip
          refine w_skip ?_
          refine w_region (by kernel_rfl) ?_
          refine o_move gn rfl rfl ?_
          refine o_move gn rfl rfl ?_
          refine o_fieldAddr (off := 1) gn rfl rfl (by kernel_rfl) ?_
          refine o_load gn rfl rfl (by kernel_rfl) (by first | exact S.cel 0 rfl | exact S.cel 1 rfl | exact S.old0 g1 l1  | exact S.old0 g2 l2  | exact S.old0 g3 l3) rfl ?_
          first | refine s_mapUpdate 0 S mapT158 gn rfl rfl rfl rfl (fun g S => ag0) fun g S => ?_ | refine s_mapUpdate 1 S mapT158 gn rfl rfl rfl rfl (fun g S => ag0) fun g S => ?_
          refine wl_end ?_
          refine w_region (by kernel_rfl) ?_
          refine o_add gn rfl rfl rfl (by omega) (by omega) ?_
          refine o_move gn rfl rfl ?_
          refine wl_end ?_
          exact rndS (n - 1) (by omega) [(15, _)] (by repeat (first | exact trivial | refine ⟨rfl, ?_⟩)) ⟨1, _, _, rfl, rfl, by omega, S.drop, by omega⟩
    · skip
      refine w_exit ?_
      refine thn_exit ?_
      refine rnd_exit ?_
      refine blk_eq ?_
      refine w_seq ?_
      refine w_region (by kernel_rfl) ?_
      refine o_assign gn rfl rfl ?_
      refine wl_end ?_
      refine w_ret ?_
      refine ⟨.inl rfl, _, rfl, ?_⟩
      exact ⟨rfl, S.e0⟩

end
end Go.Proofs.Yteinandjhpnceaa


namespace Go.Proofs.Yteinandjhpnceaa
open Go.X Go.Model

abbrev lkC (bt bm n c bb be : Nat) : List Value := [tsV bt, msV bm n c, .slice (some ⟨bb, 0, none⟩) 2 2, .slice (some ⟨be, 0, none⟩) 2 2]
def fl (j : Nat) : List Value := [iV (if 0 < j then -1 else 0), iV (if 1 < j then -1 else 0)]
theorem fl_succ {j : Nat} (hj : j < 2) : fl (j + 1) = (fl j).set (0 + Int.toNat (j : Int) * 1) (iV (-1)) := by
  rcases j with _ | _ | j
  · rfl
  · rfl
  · omega
def bg (j : Nat) : Int := if j = 0 then -1 else 0
theorem lkS {h g : Hp} {ds : List Nat} {L : List Res} {k bt bm n c bb be : Nat} {x : Int} (i : Nat) (S : SH h ds L g) (e1 : L[i]? = some (cR k (.cells (lkC bt bm n c bb be) 155 0))) (e2 : L[i + 1]? = some (cR be (.cells [iV (-1), iV (-1)] 3 0)))
    (e3 : L[i + 2]? = some (cR bb (.cells [iV (-1), iV x] 3 0))) : LkAt g k bt bm n c bb be x :=
  ⟨S.cel _ e1, S.cel _ e3, S.cel _ e2, ⟨S.lt1 _ e1, S.lt1 _ e3, S.lt1 _ e2⟩, S.ne2 _ _ (by omega) e3 e1, S.ne2 _ _ (by omega) e3 e2⟩

section
variable {h : Hp} {bt bm n c k bb be i : Nat}

theorem c66 {j : Nat} {cs : List Value} (e : mkC j = cs) (y : LkAt h k bt bm n c bb be (bg j)) : C modE 66 [ptrV k, iV j, .agg cs.toArray] h fun v h' => v = .bool true ∧ LkAt h' k bt bm n c bb be 0 ∧ ExtB [bb] h h' := by
  subst e
  cases j with
  | zero => exact c66z y
  | succ i => exact (c66s y).mono fun v h' ⟨e, x⟩ => ⟨e, y.ext x, x.b _⟩

/-- May -/
theorem c36 (r : RunAt h bt bm n) (h1 : 1 ≤ n) (hn : n ≤ 2000) : C modE 36 [runV bt bm n c] h fun v h' => v = .bool true ∧ Ext h h' := by
  obtain ⟨mt, g1⟩ := r.tsk
  obtain ⟨mm, rest, g2⟩ := r.mks
  obtain ⟨l1, l2⟩ := r.lt
  refine c_enter (fu := Try.f36) (by kernel_rfl) rfl ?_
  have S := SH.start h
  refine w_seq ?_
  refine w_region (by kernel_rfl) ?_
  refine s_box S gn rfl rfl fun b1 g nb1 S => ?_
  refine o_assign gn rfl rfl ?_
  refine wl_end ?_
  refine w_seq ?_
  refine w_seq ?_
  refine w_region (by kernel_rfl) ?_
  refine o_fieldAddr (off := 0) gn rfl rfl (by kernel_rfl) ?_
  refine o_load gn rfl rfl (by kernel_rfl) (by first | exact S.cel 0 rfl | exact S.cel 1 rfl | exact S.cel 2 rfl | exact S.old0 g1 l1  | exact S.old0 g2 l2) rfl ?_
  refine o_len gn rfl rfl (by kernel_rfl) ?_
  refine o_gtr gn rfl rfl rfl ?_
  refine o_move gn rfl rfl ?_
  refine o_or (n := 4) rfl rfl rfl gn rfl (fun hb => by
      refine o_fieldAddr (off := 1) (gy rfl rfl rfl hb) rfl rfl (by kernel_rfl) ?_
      refine o_load (gy rfl rfl rfl hb) rfl rfl (by kernel_rfl) (by first | exact S.cel 0 rfl | exact S.cel 1 rfl | exact S.cel 2 rfl | exact S.old0 g1 l1  | exact S.old0 g2 l2) rfl ?_
      refine o_len (gy rfl rfl rfl hb) rfl rfl (by kernel_rfl) ?_
      refine o_gtr (gy rfl rfl rfl hb) rfl rfl rfl ?_
      exact wl_end ⟨rfl, rfl, 4, rfl, rfl⟩) ?_
  refine wl_end ?_
  refine w_cond rfl (fun hb => ?_) fun hb => ?_
  · skip
    refine w_seq ?_
    exact absurd hb (by simp; omega)
  · skip
    refine w_skip ?_
    refine w_seq ?_
    refine w_draw [(0, []), (1, []), (2, []), (3, []), (4, []), (5, []), (6, []), (7, []), (8, []), (9, []), (10, []), (11, []), (12, []), (13, [])] (by kernel_rfl) (by kernel_rfl) (by kernel_rfl) (by kernel_rfl) ?_
    refine o_loadA (n := 2) gn rfl rfl (by kernel_rfl) (by kernel_rfl) (by first | exact S.cel 0 rfl | exact S.cel 1 rfl | exact S.cel 2 rfl | exact S.old0 g1 l1  | exact S.old0 g2 l2) (by first | decide | exact Nat.le_refl _ | (simp; done)) ?_
    refine o_fieldAddr (off := 0) gn rfl rfl (by kernel_rfl) ?_
    refine o_load gn rfl rfl (by kernel_rfl) (by first | exact S.cel 0 rfl | exact S.cel 1 rfl | exact S.cel 2 rfl | exact S.old0 g1 l1  | exact S.old0 g2 l2) rfl ?_
    refine o_len gn rfl rfl (by kernel_rfl) ?_
    refine o_add gn rfl rfl rfl (by omega) (by omega) ?_
    refine s_makeSlice (e := 3) (z := 0) (zv := .int .i64 0) (by' := 8) S gn rfl rfl rfl (by kernel_rfl) (by kernel_rfl) (by kernel_rfl) (by kernel_rfl) (by decide) (by omega) (by omega) (by omega) (by omega) fun b2 g nb2 S => ?_
    refine o_fieldAddr (off := 0) gn rfl rfl (by kernel_rfl) ?_
    refine o_load gn rfl rfl (by kernel_rfl) (by first | exact S.cel 0 rfl | exact S.cel 1 rfl | exact S.cel 2 rfl | exact S.cel 3 rfl | exact S.old0 g1 l1  | exact S.old0 g2 l2) rfl ?_
    refine o_len gn rfl rfl (by kernel_rfl) ?_
    refine o_add gn rfl rfl rfl (by omega) (by omega) ?_
    refine s_makeSlice (e := 3) (z := 0) (zv := .int .i64 0) (by' := 8) S gn rfl rfl rfl (by kernel_rfl) (by kernel_rfl) (by kernel_rfl) (by kernel_rfl) (by decide) (by omega) (by omega) (by omega) (by omega) fun b3 g nb3 S => ?_
    refine o_build (zv := .agg #[.slice none 0 0, .slice none 0 0, .slice none 0 0, .slice none 0 0]) (pl := [(0, 2), (2, 1), (3, 1)]) [(0, _), (1, _), (2, _)] gn rfl (by kernel_rfl) (by kernel_rfl) rfl rfl ?_
    refine s_box S gn rfl rfl fun b4 g nb4 S => ?_
    refine o_assign gn rfl rfl ?_
    refine wl_end ?_
    refine w_seq ?_
    refine w_seq ?_
    refine w_region (by kernel_rfl) ?_
    refine o_move gn rfl rfl ?_
    refine o_nilCheck gn rfl rfl ?_
    refine o_fieldAddr (off := 2) gn rfl rfl (by kernel_rfl) ?_
    refine o_load gn rfl rfl (by kernel_rfl) (by first | exact S.cel 0 rfl | exact S.cel 1 rfl | exact S.cel 2 rfl | exact S.cel 3 rfl | exact S.cel 4 rfl | exact S.cel 5 rfl | exact S.old0 g1 l1  | exact S.old0 g2 l2) rfl ?_
    refine o_len gn rfl rfl (by kernel_rfl) ?_
    refine o_move gn rfl rfl ?_
    refine wl_end ?_
    refine w_block ?_
    refine w_loopS [(37, _)] [(1, _), (3, _), (36, _)] (by repeat (first | exact trivial | refine ⟨rfl, ?_⟩)) (fun kk lv hh => ∃ j : Nat, lv = [(37, iV j)] ∧ kk = 2 - j ∧ j ≤ 2 ∧ SH h [] [cR b4 (.cells (lkC bt bm n c b2 b3) 155 0), cR b3 (.cells (fl j) 3 0), cR b2 (.cells (fl j) 3 0), cR b1 (.cells [tsV bt, msV bm n c] 39 0)] hh) (n := 2) ?_ fun kk lv hh hI => ?_
    · exact ⟨0, rfl, rfl, by omega, S⟩
    · obtain ⟨j, rfl, hk, hj, S⟩ := hI
      refine w_seq ?_
      refine w_region (by kernel_rfl) ?_
      refine o_lss gn rfl rfl rfl ?_
      refine wl_end ?_
      refine w_seq ?_
      refine w_cond rfl (fun hb => ?_) fun hb => ?_
      · skip
        refine w_skip ?_
        have hj : j < 2 := by simp at hb; omega
        refine w_seq ?_
        refine w_block ?_
        refine w_seq ?_
        refine w_region (by kernel_rfl) ?_
        refine o_move gn rfl rfl ?_
        refine o_assign gn rfl rfl ?_
        refine wl_end ?_
        refine w_draw [(0, []), (1, []), (2, []), (3, []), (4, []), (5, []), (6, []), (7, []), (8, []), (9, []), (10, []), (11, []), (12, []), (13, [])] (by kernel_rfl) (by kernel_rfl) (by kernel_rfl) (by kernel_rfl) ?_
        refine o_move gn rfl rfl ?_
        refine o_nilCheck gn rfl rfl ?_
        refine o_fieldAddr (off := 2) gn rfl rfl (by kernel_rfl) ?_
        refine o_load gn rfl rfl (by kernel_rfl) (by first | exact S.cel 0 rfl | exact S.cel 1 rfl | exact S.cel 2 rfl | exact S.cel 3 rfl | exact S.cel 4 rfl | exact S.cel 5 rfl | exact S.old0 g1 l1  | exact S.old0 g2 l2) rfl ?_
        refine o_move gn rfl rfl ?_
        refine o_move gn rfl rfl ?_
        refine o_nilCheck gn rfl rfl ?_
        refine o_fieldAddr (off := 3) gn rfl rfl (by kernel_rfl) ?_
        refine o_load gn rfl rfl (by kernel_rfl) (by first | exact S.cel 0 rfl | exact S.cel 1 rfl | exact S.cel 2 rfl | exact S.cel 3 rfl | exact S.cel 4 rfl | exact S.cel 5 rfl | exact S.old0 g1 l1  | exact S.old0 g2 l2) rfl ?_
        refine o_move gn rfl rfl ?_
        refine o_indexAddr (zz := 1) gn rfl rfl rfl (by kernel_rfl) (by omega) (by omega) ?_
        first | refine s_store 0 S gn rfl rfl rfl (by kernel_rfl) rfl (by decide) (by first | decide | (simp; done) | (simp [fl]; omega)) (fun g S => ag0) fun g S => ?_ | refine s_store 1 S gn rfl rfl rfl (by kernel_rfl) rfl (by decide) (by first | decide | (simp; done) | (simp [fl]; omega)) (fun g S => ag0) fun g S => ?_ | refine s_store 2 S gn rfl rfl rfl (by kernel_rfl) rfl (by decide) (by first | decide | (simp; done) | (simp [fl]; omega)) (fun g S => ag0) fun g S => ?_ | refine s_store 3 S gn rfl rfl rfl (by kernel_rfl) rfl (by decide) (by first | decide | (simp; done) | (simp [fl]; omega)) (fun g S => ag0) fun g S => ?_ | refine s_store 4 S gn rfl rfl rfl (by kernel_rfl) rfl (by decide) (by first | decide | (simp; done) | (simp [fl]; omega)) (fun g S => ag0) fun g S => ?_ | refine s_store 5 S gn rfl rfl rfl (by kernel_rfl) rfl (by decide) (by first | decide | (simp; done) | (simp [fl]; omega)) (fun g S => ag0) fun g S => ?_
        refine o_indexAddr (zz := 1) gn rfl rfl rfl (by kernel_rfl) (by omega) (by omega) ?_
        first | refine s_store 0 S gn rfl rfl rfl (by kernel_rfl) rfl (by decide) (by first | decide | (simp; done) | (simp [fl]; omega)) (fun g S => ag0) fun g S => ?_ | refine s_store 1 S gn rfl rfl rfl (by kernel_rfl) rfl (by decide) (by first | decide | (simp; done) | (simp [fl]; omega)) (fun g S => ag0) fun g S => ?_ | refine s_store 2 S gn rfl rfl rfl (by kernel_rfl) rfl (by decide) (by first | decide | (simp; done) | (simp [fl]; omega)) (fun g S => ag0) fun g S => ?_ | refine s_store 3 S gn rfl rfl rfl (by kernel_rfl) rfl (by decide) (by first | decide | (simp; done) | (simp [fl]; omega)) (fun g S => ag0) fun g S => ?_ | refine s_store 4 S gn rfl rfl rfl (by kernel_rfl) rfl (by decide) (by first | decide | (simp; done) | (simp [fl]; omega)) (fun g S => ag0) fun g S => ?_ | refine s_store 5 S gn rfl rfl rfl (by kernel_rfl) rfl (by decide) (by first | decide | (simp; done) | (simp [fl]; omega)) (fun g S => ag0) fun g S => ?_
        refine wl_end ?_
        refine w_region (by kernel_rfl) ?_
        refine o_add gn rfl rfl rfl (by omega) (by omega) ?_
        refine o_move gn rfl rfl ?_
        refine wl_end ?_
        exact rndS (2 - (j + 1)) (by omega) [(37, _)] (by repeat (first | exact trivial | refine ⟨rfl, ?_⟩)) ⟨j + 1, rfl, rfl, by omega, by rw [fl_succ hj]; exact S⟩
      · skip
        refine w_exit ?_
        refine thn_exit ?_
        refine rnd_exit ?_
        refine blk_eq ?_
        refine w_seq ?_
        refine w_seq ?_
        have hj2 : j = 2 := by simp at hb; omega
        subst hj2
        refine w_region (by kernel_rfl) ?_
        refine o_fieldAddr (off := 1) gn rfl rfl (by kernel_rfl) ?_
        refine o_load gn rfl rfl (by kernel_rfl) (by first | exact S.cel 0 rfl | exact S.cel 1 rfl | exact S.cel 2 rfl | exact S.cel 3 rfl | exact S.cel 4 rfl | exact S.cel 5 rfl | exact S.old0 g1 l1  | exact S.old0 g2 l2) rfl ?_
        refine o_len gn rfl rfl (by kernel_rfl) ?_
        refine o_move gn rfl rfl ?_
        refine wl_end ?_
        refine w_block ?_
        refine w_loopS [(56, _)] [(1, _), (3, _), (54, _), (55, _)] (by repeat (first | exact trivial | refine ⟨rfl, ?_⟩)) (fun kk lv hh => ∃ j : Nat, lv = [(56, iV j)] ∧ kk = n - j ∧ j ≤ n ∧ SH h [] [cR b4 (.cells (lkC bt bm n c b2 b3) 155 0), cR b3 (.cells [iV (-1), iV (-1)] 3 0), cR b2 (.cells [iV (-1), iV (bg j)] 3 0), cR b1 (.cells [tsV bt, msV bm n c] 39 0)] hh) (n := n) ?_ fun kk lv hh hI => ?_
        · exact ⟨0, rfl, rfl, by omega, S⟩
        · obtain ⟨j, rfl, hk, hj, S⟩ := hI
          refine w_seq ?_
          refine w_region (by kernel_rfl) ?_
          refine o_lss gn rfl rfl rfl ?_
          refine wl_end ?_
          refine w_seq ?_
          refine w_cond rfl (fun hb => ?_) fun hb => ?_
          · skip
            refine w_skip ?_
            have hj : j < n := by simpa using hb
            obtain ⟨kd, si, lo, wr, em, hkd⟩ := mkC_form j
            refine w_seq ?_
            refine w_block ?_
            refine w_seq ?_
            refine w_region (by kernel_rfl) ?_
            refine o_move gn rfl rfl ?_
            refine o_indexAddr (zz := 8) gn rfl rfl rfl (by kernel_rfl) (by omega) (by omega) ?_
            refine o_loadA (n := 8) gn rfl rfl (by kernel_rfl) (by kernel_rfl) (by first | exact S.cel 0 rfl | exact S.cel 1 rfl | exact S.cel 2 rfl | exact S.cel 3 rfl | exact S.cel 4 rfl | exact S.cel 5 rfl | exact S.old0 g1 l1  | exact S.old0 g2 l2) (by rw [List.length_append, marksC_len]; omega) ?_
            rw [marks_at hj rest em]
            refine s_alloc (zv := .agg #[.int .i64 0, .int .i64 0, .int .i64 0, .int .i64 0, .int .i64 0, .int .i64 0, .int .i64 0, .bool false]) S gn rfl (by kernel_rfl) fun b5 g nb5 S => ?_
            refine o_assign gn rfl rfl ?_
            first | refine s_storeA (n := 8) 0 S gn rfl rfl (by kernel_rfl) (by kernel_rfl) rfl rfl (by decide) rfl (fun g S => ag0) fun g S => ?_ | refine s_storeA (n := 8) 1 S gn rfl rfl (by kernel_rfl) (by kernel_rfl) rfl rfl (by decide) rfl (fun g S => ag0) fun g S => ?_ | refine s_storeA (n := 8) 2 S gn rfl rfl (by kernel_rfl) (by kernel_rfl) rfl rfl (by decide) rfl (fun g S => ag0) fun g S => ?_ | refine s_storeA (n := 8) 3 S gn rfl rfl (by kernel_rfl) (by kernel_rfl) rfl rfl (by decide) rfl (fun g S => ag0) fun g S => ?_ | refine s_storeA (n := 8) 4 S gn rfl rfl (by kernel_rfl) (by kernel_rfl) rfl rfl (by decide) rfl (fun g S => ag0) fun g S => ?_ | refine s_storeA (n := 8) 5 S gn rfl rfl (by kernel_rfl) (by kernel_rfl) rfl rfl (by decide) rfl (fun g S => ag0) fun g S => ?_ | refine s_storeA (n := 8) 6 S gn rfl rfl (by kernel_rfl) (by kernel_rfl) rfl rfl (by decide) rfl (fun g S => ag0) fun g S => ?_
            refine wl_end ?_
            refine w_seq ?_
            refine w_region (by kernel_rfl) ?_
            refine o_move gn rfl rfl ?_
            refine o_move gn rfl rfl ?_
            refine o_loadA (n := 8) gn rfl rfl (by kernel_rfl) (by kernel_rfl) (by first | exact S.cel 0 rfl | exact S.cel 1 rfl | exact S.cel 2 rfl | exact S.cel 3 rfl | exact S.cel 4 rfl | exact S.cel 5 rfl | exact S.cel 6 rfl | exact S.old0 g1 l1  | exact S.old0 g2 l2) (by first | decide | exact Nat.le_refl _ | (simp; done)) ?_
            refine o_call [_, _, _] gn rfl rfl (by kernel_rfl) rfl (C.mono (c66 em (lkS 1 S rfl rfl rfl)) ?_)
            rintro v g ⟨rfl, y2, x⟩
            have S := S.chg 3 rfl x y2.beg
            refine ⟨ag0, ?_⟩
            refine o_not gn rfl rfl ?_
            refine wl_end ?_
            refine w_cond rfl (fun hb => ?_) fun hb => ?_
            · skip
              refine w_seq ?_
              exact absurd hb (by decide)
            · skip
              refine w_skip ?_
              refine w_region (by kernel_rfl) ?_
              refine o_add gn rfl rfl rfl (by omega) (by omega) ?_
              refine o_move gn rfl rfl ?_
              refine wl_end ?_
              exact rndS (n - (j + 1)) (by omega) [(56, _)] (by repeat (first | exact trivial | refine ⟨rfl, ?_⟩)) ⟨j + 1, rfl, rfl, by omega, S.drop⟩
          · skip
            refine w_exit ?_
            refine thn_exit ?_
            refine rnd_exit ?_
            refine blk_eq ?_
            refine w_seq ?_
            refine w_seq ?_
            have hj2 : j = n := by simp at hb; omega
            have hbg : bg j = 0 := by rw [bg, if_neg (by omega)]
            rw [hbg] at S
            refine w_region (by kernel_rfl) ?_
            refine o_fieldAddr (off := 0) gn rfl rfl (by kernel_rfl) ?_
            refine o_load gn rfl rfl (by kernel_rfl) (by first | exact S.cel 0 rfl | exact S.cel 1 rfl | exact S.cel 2 rfl | exact S.cel 3 rfl | exact S.cel 4 rfl | exact S.cel 5 rfl | exact S.old0 g1 l1  | exact S.old0 g2 l2) rfl ?_
            refine o_len gn rfl rfl (by kernel_rfl) ?_
            refine o_move gn rfl rfl ?_
            refine wl_end ?_
            refine w_block ?_
            refine w_loopS [(70, _)] [(3, _), (68, _), (69, _)] (by repeat (first | exact trivial | refine ⟨rfl, ?_⟩)) (fun kk lv hh => ∃ j : Nat, lv = [(70, iV j)] ∧ kk = 1 - j ∧ j ≤ 1 ∧ SH h [] [cR b4 (.cells (lkC bt bm n c b2 b3) 155 0), cR b3 (.cells [iV (-1), iV (-1)] 3 0), cR b2 (.cells [iV (-1), iV 0] 3 0), cR b1 (.cells [tsV bt, msV bm n c] 39 0)] hh) (n := 1) ?_ fun kk lv hh hI => ?_
            · exact ⟨0, rfl, rfl, by omega, S⟩
            · obtain ⟨j, rfl, hk, hj, S⟩ := hI
              refine w_seq ?_
              refine w_region (by kernel_rfl) ?_
              refine o_lss gn rfl rfl rfl ?_
              refine wl_end ?_
              refine w_seq ?_
              refine w_cond rfl (fun hb => ?_) fun hb => ?_
              · skip
                refine w_skip ?_
                have hj : j = 0 := by simp at hb; omega
                subst hj
                refine w_seq ?_
                refine w_block ?_
                refine w_seq ?_
                refine w_region (by kernel_rfl) ?_
                refine o_move gn rfl rfl ?_
                refine o_indexAddr (zz := 15) gn rfl rfl rfl (by kernel_rfl) (by omega) (by omega) ?_
                refine o_loadA (n := 15) gn rfl rfl (by kernel_rfl) (by kernel_rfl) (by first | exact S.cel 0 rfl | exact S.cel 1 rfl | exact S.cel 2 rfl | exact S.cel 3 rfl | exact S.cel 4 rfl | exact S.cel 5 rfl | exact S.old0 g1 l1  | exact S.old0 g2 l2) (by first | decide | exact Nat.le_refl _ | (simp; done)) ?_
                refine s_alloc (zv := .agg #[.int .i64 0, .int .i64 0, .int .i64 0, .int .i64 0, .int .i64 0, .int .i64 0, .int .i64 0, .bool false, .int .i64 0, .int .i64 0, .int .i64 0, .int .i64 0, .int .i64 0, .int .i64 0, .int .i64 0]) S gn rfl (by kernel_rfl) fun b6 g nb6 S => ?_
                refine o_assign gn rfl rfl ?_
                first | refine s_storeA (n := 15) 0 S gn rfl rfl (by kernel_rfl) (by kernel_rfl) rfl rfl (by decide) rfl (fun g S => ag0) fun g S => ?_ | refine s_storeA (n := 15) 1 S gn rfl rfl (by kernel_rfl) (by kernel_rfl) rfl rfl (by decide) rfl (fun g S => ag0) fun g S => ?_ | refine s_storeA (n := 15) 2 S gn rfl rfl (by kernel_rfl) (by kernel_rfl) rfl rfl (by decide) rfl (fun g S => ag0) fun g S => ?_ | refine s_storeA (n := 15) 3 S gn rfl rfl (by kernel_rfl) (by kernel_rfl) rfl rfl (by decide) rfl (fun g S => ag0) fun g S => ?_ | refine s_storeA (n := 15) 4 S gn rfl rfl (by kernel_rfl) (by kernel_rfl) rfl rfl (by decide) rfl (fun g S => ag0) fun g S => ?_ | refine s_storeA (n := 15) 5 S gn rfl rfl (by kernel_rfl) (by kernel_rfl) rfl rfl (by decide) rfl (fun g S => ag0) fun g S => ?_ | refine s_storeA (n := 15) 6 S gn rfl rfl (by kernel_rfl) (by kernel_rfl) rfl rfl (by decide) rfl (fun g S => ag0) fun g S => ?_
                refine wl_end ?_
                refine w_seq ?_
                refine w_region (by kernel_rfl) ?_
                refine o_fieldAddr (off := 0) gn rfl rfl (by kernel_rfl) ?_
                refine o_load gn rfl rfl (by kernel_rfl) (by first | exact S.cel 0 rfl | exact S.cel 1 rfl | exact S.cel 2 rfl | exact S.cel 3 rfl | exact S.cel 4 rfl | exact S.cel 5 rfl | exact S.cel 6 rfl | exact S.old0 g1 l1  | exact S.old0 g2 l2) rfl ?_
                refine o_lss gn rfl rfl rfl ?_
                refine o_move gn rfl rfl ?_
                refine o_or (n := 3) rfl rfl rfl gn rfl (fun hb => by
                    refine o_fieldAddr (off := 0) (gy rfl rfl rfl hb) rfl rfl (by kernel_rfl) ?_
                    refine o_load (gy rfl rfl rfl hb) rfl rfl (by kernel_rfl) (by first | exact S.cel 0 rfl | exact S.cel 1 rfl | exact S.cel 2 rfl | exact S.cel 3 rfl | exact S.cel 4 rfl | exact S.cel 5 rfl | exact S.cel 6 rfl | exact S.old0 g1 l1  | exact S.old0 g2 l2) rfl ?_
                    refine o_gtr (gy rfl rfl rfl hb) rfl rfl rfl ?_
                    exact wl_end ⟨rfl, rfl, 3, rfl, rfl⟩) ?_
                refine o_move gn rfl rfl ?_
                refine o_or (n := 7) rfl rfl rfl gn rfl (fun hb => by
                    refine o_fieldAddr (off := 0) (gy rfl rfl rfl hb) rfl rfl (by kernel_rfl) ?_
                    refine o_load (gy rfl rfl rfl hb) rfl rfl (by kernel_rfl) (by first | exact S.cel 0 rfl | exact S.cel 1 rfl | exact S.cel 2 rfl | exact S.cel 3 rfl | exact S.cel 4 rfl | exact S.cel 5 rfl | exact S.cel 6 rfl | exact S.old0 g1 l1  | exact S.old0 g2 l2) rfl ?_
                    refine o_eqi (gy rfl rfl rfl hb) rfl rfl rfl ?_
                    refine o_fieldAddr (off := 4) (gy rfl rfl rfl hb) rfl rfl (by kernel_rfl) ?_
                    refine o_load (gy rfl rfl rfl hb) rfl rfl (by kernel_rfl) (by first | exact S.cel 0 rfl | exact S.cel 1 rfl | exact S.cel 2 rfl | exact S.cel 3 rfl | exact S.cel 4 rfl | exact S.cel 5 rfl | exact S.cel 6 rfl | exact S.old0 g1 l1  | exact S.old0 g2 l2) rfl ?_
                    refine o_lss (gy rfl rfl rfl hb) rfl rfl rfl ?_
                    refine o_neb (gy rfl rfl rfl hb) rfl rfl rfl (by kernel_rfl) ?_
                    exact wl_end ⟨rfl, rfl, 7, rfl, rfl⟩) ?_
                refine o_move gn rfl rfl ?_
                refine wl_split (dc := 92) rfl (fun hb92 => ?_) fun hb92 => ?_
                · skip
                  exact absurd hb92 (by decide)
                · skip
                  refine o_move (gy rfl rfl rfl hb92) rfl rfl ?_
                  refine o_move (gy rfl rfl rfl hb92) rfl rfl ?_
                  refine o_add (gy rfl rfl rfl hb92) rfl rfl rfl (by omega) (by omega) ?_
                  refine o_loadA (n := 15) (gy rfl rfl rfl hb92) rfl rfl (by kernel_rfl) (by kernel_rfl) (by first | exact S.cel 0 rfl | exact S.cel 1 rfl | exact S.cel 2 rfl | exact S.cel 3 rfl | exact S.cel 4 rfl | exact S.cel 5 rfl | exact S.cel 6 rfl | exact S.old0 g1 l1  | exact S.old0 g2 l2) (by first | decide | exact Nat.le_refl _ | (simp; done)) ?_
                  refine o_call [_, _, _] (gy rfl rfl rfl hb92) rfl rfl (by kernel_rfl) rfl (C.mono (c67) ?_)
                  rintro v g ⟨rfl, x⟩
                  have S := S.grow x
                  refine ⟨ag0, ?_⟩
                  refine o_not (gy rfl rfl rfl hb92) rfl rfl ?_
                  refine o_pickf gn rfl rfl hb92 rfl ?_
                  refine o_move gn rfl rfl ?_
                  refine wl_split (dc := 100) rfl (fun hb100 => ?_) fun hb100 => ?_
                  · skip
                    exact absurd hb100 (by decide)
                  · skip
                    refine o_move (gy rfl rfl rfl hb100) rfl rfl ?_
                    refine o_move (gy rfl rfl rfl hb100) rfl rfl ?_
                    refine o_add (gy rfl rfl rfl hb100) rfl rfl rfl (by omega) (by omega) ?_
                    refine o_loadA (n := 15) (gy rfl rfl rfl hb100) rfl rfl (by kernel_rfl) (by kernel_rfl) (by first | exact S.cel 0 rfl | exact S.cel 1 rfl | exact S.cel 2 rfl | exact S.cel 3 rfl | exact S.cel 4 rfl | exact S.cel 5 rfl | exact S.cel 6 rfl | exact S.old0 g1 l1  | exact S.old0 g2 l2) (by first | decide | exact Nat.le_refl _ | (simp; done)) ?_
                    refine o_call [_, _, _] (gy rfl rfl rfl hb100) rfl rfl (by kernel_rfl) rfl (C.mono (c68) ?_)
                    rintro v g ⟨rfl, x⟩
                    have S := S.grow x
                    refine ⟨ag0, ?_⟩
                    refine o_not (gy rfl rfl rfl hb100) rfl rfl ?_
                    refine o_pickf gn rfl rfl hb100 rfl ?_
                    refine wl_end ?_
                    refine w_cond rfl (fun hb => ?_) fun hb => ?_
                    · skip
                      refine w_seq ?_
                      exact absurd hb (by decide)
                    · skip
                      refine w_skip ?_
                      refine w_region (by kernel_rfl) ?_
                      refine o_add gn rfl rfl rfl (by omega) (by omega) ?_
                      refine o_move gn rfl rfl ?_
                      refine wl_end ?_
                      exact rndS 0 (by omega) [(70, _)] (by repeat (first | exact trivial | refine ⟨rfl, ?_⟩)) ⟨1, rfl, rfl, by omega, S.drop⟩
              · skip
                refine w_exit ?_
                refine thn_exit ?_
                refine rnd_exit ?_
                refine blk_eq ?_
                refine w_seq ?_
                refine w_region (by kernel_rfl) ?_
                refine o_move gn rfl rfl ?_
                refine o_call [_] gn rfl rfl (by kernel_rfl) rfl (C.mono (c69 (r.ext S.e0) (lkS 0 S rfl rfl rfl) hn) ?_)
                rintro v g ⟨rfl, x⟩
                have S := S.grow x
                refine ⟨ag0, ?_⟩
                refine o_assign gn rfl rfl ?_
                refine wl_end ?_
                refine w_ret ?_
                refine ⟨.inl rfl, _, rfl, ?_⟩
                exact ⟨rfl, S.e0⟩

/-- may -/
theorem c18 (r : RunAt h bt bm n) (h1 : 1 ≤ n) (hn : n ≤ 2000) : C modE 18 [runV bt bm n c] h fun v h' => v = iV (if n ≤ 1200 then 0 else 9) ∧ Ext h h' := by
  refine c_enter (fu := Try.f18) (by kernel_rfl) rfl ?_
  have S := SH.start h
  refine w_seq ?_
  refine w_region (by kernel_rfl) ?_
  refine s_box S gn rfl rfl fun b1 g nb1 S => ?_
  refine o_assign gn rfl rfl ?_
  refine wl_end ?_
  refine w_seq ?_
  refine w_block ?_
  refine w_seq ?_
  refine w_region (by kernel_rfl) ?_
  refine o_loadA (n := 2) gn rfl rfl (by kernel_rfl) (by kernel_rfl) (by first | exact S.cel 0 rfl | exact S.cel 1 rfl | exact S.cel 2 rfl) (by first | decide | exact Nat.le_refl _ | (simp; done)) ?_
  refine o_call [_] gn rfl rfl (by kernel_rfl) rfl (C.mono (c36 (r.ext S.e0) h1 hn) ?_)
  rintro v g ⟨rfl, x⟩
  have S := S.grow x
  refine ⟨ag0, ?_⟩
  refine o_not gn rfl rfl ?_
  refine o_assign gn rfl rfl ?_
  refine wl_end ?_
  refine w_cond rfl (fun hb => ?_) fun hb => ?_
  · skip
    refine w_seq ?_
    exact absurd hb (by decide)
  · skip
    refine w_seq ?_
    refine w_region (by kernel_rfl) ?_
    refine o_fieldAddr (off := 1) gn rfl rfl (by kernel_rfl) ?_
    refine o_load gn rfl rfl (by kernel_rfl) (by first | exact S.cel 0 rfl | exact S.cel 1 rfl | exact S.cel 2 rfl) rfl ?_
    refine o_len gn rfl rfl (by kernel_rfl) ?_
    refine o_gtr gn rfl rfl rfl ?_
    refine o_assign gn rfl rfl ?_
    refine wl_end ?_
    refine w_cond rfl (fun hb => ?_) fun hb => ?_
    · skip
      refine w_seq ?_
      refine w_region (by kernel_rfl) ?_
      refine o_assign gn rfl rfl ?_
      refine wl_end ?_
      refine w_ret ?_
      refine ⟨.inl rfl, _, rfl, ?_⟩
      exact ⟨by rw [if_neg (by simp at hb; omega)]; rfl, S.e0⟩
    · skip
      refine w_skip ?_
      refine w_seq ?_
      refine w_region (by kernel_rfl) ?_
      refine o_assign gn rfl rfl ?_
      refine wl_end ?_
      refine w_ret ?_
      refine ⟨.inl rfl, _, rfl, ?_⟩
      exact ⟨by rw [if_pos (by simp at hb; omega)]; rfl, S.e0⟩

end
end Go.Proofs.Yteinandjhpnceaa


namespace Go.Proofs.Yteinandjhpnceaa
open Go.X Go.Model

theorem nextB_succ {j a i : Nat} (hj : 0 < j) : (nextB j a i || (decide (a = j - 1) && decide (i = j))) = nextB (j + 1) a i := by
  unfold nextB
  rw [Bool.eq_iff_iff]
  simp
  omega
theorem getI_nil (k : Int) : getI [] k = none := rfl

section
variable {h : Hp} {bt bm n c r ca cc bb be m k i : Nat} {W : Nat → Nat → BitVec 64}

abbrev clC (bt bm n c r ca bb be : Nat) : List Value := [tsV bt, msV bm n c, .slice (some ⟨r, 0, none⟩) n ca, .slice (some ⟨bb, 0, none⟩) 2 2, .slice (some ⟨be, 0, none⟩) 2 2]

/-- base -/
theorem c37 (R : RunAt h bt bm n) (ht : h.get k = some (.cells (clC bt bm n c r ca bb be) 122 0)) (hr : h.get r = some (.cells (rowsC n W) 126 m)) (hm : m ≠ 1) (g5 : h.get bb = some (.cells [iV (-1), iV 0] 3 0)) (l4 : r < h.n) (l5 : bb < h.n) (l6 : k < h.n)
    (ne : k ≠ r ∧ bb ≠ r ∧ bt ≠ r ∧ bm ≠ r) (hn : n ≤ 1200) (hW : ∀ a i, bitW (W a) i = false) :
    C modE 37 [ptrV k] h fun _ h' => ∃ W', h'.get r = some (.cells (rowsC n W') 126 m) ∧ ExtB [r] h h' ∧ ∀ a i, bitW (W' a) i = nextB n a i := by
  obtain ⟨mt, g1⟩ := R.tsk
  obtain ⟨mm, rest, g2⟩ := R.mks
  obtain ⟨l1, l2⟩ := R.lt
  refine c_enter (fu := Try.f37) (by kernel_rfl) rfl ?_
  have S := SH.one (r := cR r (.cells (rowsC n W) 126 m)) hr (by simp [cR]; exact l4) (by simp [cR])
  refine w_seq ?_
  refine w_region (by kernel_rfl) ?_
  refine s_makeMap S gn rfl fun b1 g nb1 S => ?_
  refine o_assign gn rfl rfl ?_
  refine wl_end ?_
  refine w_seq ?_
  refine w_seq ?_
  refine w_region (by kernel_rfl) ?_
  refine o_move gn rfl rfl ?_
  refine o_nilCheck gn rfl rfl ?_
  refine o_fieldAddr (off := 0) gn rfl rfl (by kernel_rfl) ?_
  refine o_fieldAddr (off := 1) gn rfl rfl (by kernel_rfl) ?_
  refine o_load gn rfl rfl (by kernel_rfl) (by first | exact S.cel 0 rfl | exact S.cel 1 rfl | exact S.cel 2 rfl | exact S.cel 3 rfl | exact S.old g1 l1 (not1 ne.2.2.1)  | exact S.old g2 l2 (not1 ne.2.2.2)  | exact S.old ht l6 (not1 ne.1)  | exact S.old g5 l5 (not1 ne.2.1)) rfl ?_
  refine o_len gn rfl rfl (by kernel_rfl) ?_
  refine o_move gn rfl rfl ?_
  refine wl_end ?_
  refine w_block ?_
  refine w_loopS [(16, _)] [(0, _), (2, _), (14, _), (15, _)] (by repeat (first | exact trivial | refine ⟨rfl, ?_⟩)) (fun kk lv hh => ∃ (j : Nat) (M : Ms) (cl : Nat) (V : Nat → Nat → BitVec 64), lv = [(16, iV j)] ∧ kk = n - j ∧ j ≤ n ∧ SH h [r] [cR b1 (.map (M.map ent) cl), cR r (.cells (rowsC n V) 126 m)] hh ∧ (getI M 1 = if j = 0 then none else some (iV (j - 1 : Nat))) ∧ ∀ a i, bitW (V a) i = nextB j a i) (n := n) ?_ fun kk lv hh hI => ?_
  · exact ⟨0, [], 0, W, rfl, rfl, by omega, S, rfl, fun a i => by rw [hW]; simp [nextB]⟩
  · obtain ⟨j, M, cl, V, rfl, hk, hj, S, hM, hV⟩ := hI
    refine w_seq ?_
    refine w_region (by kernel_rfl) ?_
    refine o_lss gn rfl rfl rfl ?_
    refine wl_end ?_
    refine w_seq ?_
    refine w_cond rfl (fun hb => ?_) fun hb => ?_
    · skip
      refine w_skip ?_
      have hj : j < n := by simp at hb; omega
      obtain ⟨kd, si, lo, wr, em, hkd⟩ := mkC_form j
      refine w_seq ?_
      refine w_block ?_
      refine w_seq ?_
      refine w_region (by kernel_rfl) ?_
      refine o_move gn rfl rfl ?_
      refine o_indexAddr (zz := 8) gn rfl rfl rfl (by kernel_rfl) (by omega) (by omega) ?_
      refine o_loadA (n := 8) gn rfl rfl (by kernel_rfl) (by kernel_rfl) (by first | exact S.cel 0 rfl | exact S.cel 1 rfl | exact S.cel 2 rfl | exact S.cel 3 rfl | exact S.old g1 l1 (not1 ne.2.2.1)  | exact S.old g2 l2 (not1 ne.2.2.2)  | exact S.old ht l6 (not1 ne.1)  | exact S.old g5 l5 (not1 ne.2.1)) (by rw [List.length_append, marksC_len]; omega) ?_
      rw [marks_at hj rest em]
      refine s_alloc (zv := .agg #[.int .i64 0, .int .i64 0, .int .i64 0, .int .i64 0, .int .i64 0, .int .i64 0, .int .i64 0, .bool false]) S gn rfl (by kernel_rfl) fun b2 g nb2 S => ?_
      refine o_assign gn rfl rfl ?_
      first | refine s_storeA (n := 8) 0 S gn rfl rfl (by kernel_rfl) (by kernel_rfl) rfl rfl (by decide) rfl (fun g S => ag0) fun g S => ?_ | refine s_storeA (n := 8) 1 S gn rfl rfl (by kernel_rfl) (by kernel_rfl) rfl rfl (by decide) rfl (fun g S => ag0) fun g S => ?_ | refine s_storeA (n := 8) 2 S gn rfl rfl (by kernel_rfl) (by kernel_rfl) rfl rfl (by decide) rfl (fun g S => ag0) fun g S => ?_ | refine s_storeA (n := 8) 3 S gn rfl rfl (by kernel_rfl) (by kernel_rfl) rfl rfl (by decide) rfl (fun g S => ag0) fun g S => ?_ | refine s_storeA (n := 8) 4 S gn rfl rfl (by kernel_rfl) (by kernel_rfl) rfl rfl (by decide) rfl (fun g S => ag0) fun g S => ?_
      refine wl_end ?_
      refine w_seq ?_
      refine w_seq ?_
      refine w_region (by kernel_rfl) ?_
      refine o_move gn rfl rfl ?_
      refine o_fieldAddr (off := 1) gn rfl rfl (by kernel_rfl) ?_
      refine o_load gn rfl rfl (by kernel_rfl) (by first | exact S.cel 0 rfl | exact S.cel 1 rfl | exact S.cel 2 rfl | exact S.cel 3 rfl | exact S.cel 4 rfl | exact S.old g1 l1 (not1 ne.2.2.1)  | exact S.old g2 l2 (not1 ne.2.2.2)  | exact S.old ht l6 (not1 ne.1)  | exact S.old g5 l5 (not1 ne.2.1)) rfl ?_
      refine o_lookupOk (zv := .int .i64 0) mapT158 gn rfl rfl rfl (by first | exact S.cel 0 rfl | exact S.cel 1 rfl | exact S.cel 2 rfl | exact S.cel 3 rfl | exact S.cel 4 rfl | exact S.old g1 l1 (not1 ne.2.2.1)  | exact S.old g2 l2 (not1 ne.2.2.2)  | exact S.old ht l6 (not1 ne.1)  | exact S.old g5 l5 (not1 ne.2.1)) (by kernel_rfl) ?_
      rw [hM]
      refine o_move gn rfl rfl ?_
      refine o_extract gn rfl rfl rfl ?_
      refine o_extract gn rfl rfl rfl ?_
      refine o_assign gn rfl rfl ?_
      refine o_assign gn rfl rfl ?_
      refine wl_end ?_
      refine w_seq ?_
      refine w_region (by kernel_rfl) ?_
      refine o_move gn rfl rfl ?_
      refine wl_end ?_
      refine w_cond rfl (fun hb => ?_) fun hb => ?_
      · skip
        have hj0 : 0 < j := by
          rcases Nat.eq_zero_or_pos j with e | e
          · subst e; simp at hb
          · exact e
        rw [if_neg (Nat.ne_of_gt hj0)]
        refine w_region (by kernel_rfl) ?_
        refine o_move gn rfl rfl ?_
        refine o_move gn rfl rfl ?_
        refine o_move gn rfl rfl ?_
        refine o_call [_, _, _] gn rfl rfl (by kernel_rfl) rfl (C.mono (c44 (a := j - 1) (b := j) (S.cel 2 rfl) hm (S.old ht l6 (by simp; exact ne.1)) (by omega) (by omega) (by omega)) ?_)
        rintro v g ⟨rfl, V2, hg2, x, hV2⟩
        have S := S.chg 2 rfl x hg2
        refine ⟨ag0, ?_⟩
        refine wl_end ?_
        refine w_seq ?_
        refine w_region (by kernel_rfl) ?_
        refine o_move gn rfl rfl ?_
        refine o_fieldAddr (off := 1) gn rfl rfl (by kernel_rfl) ?_
        refine o_load gn rfl rfl (by kernel_rfl) (by first | exact S.cel 0 rfl | exact S.cel 1 rfl | exact S.cel 2 rfl | exact S.cel 3 rfl | exact S.cel 4 rfl | exact S.old g1 l1 (not1 ne.2.2.1)  | exact S.old g2 l2 (not1 ne.2.2.2)  | exact S.old ht l6 (not1 ne.1)  | exact S.old g5 l5 (not1 ne.2.1)) rfl ?_
        refine o_move gn rfl rfl ?_
        first | refine s_mapUpdate 0 S mapT158 gn rfl rfl rfl rfl (fun g S => ag0) fun g S => ?_ | refine s_mapUpdate 1 S mapT158 gn rfl rfl rfl rfl (fun g S => ag0) fun g S => ?_ | refine s_mapUpdate 2 S mapT158 gn rfl rfl rfl rfl (fun g S => ag0) fun g S => ?_ | refine s_mapUpdate 3 S mapT158 gn rfl rfl rfl rfl (fun g S => ag0) fun g S => ?_ | refine s_mapUpdate 4 S mapT158 gn rfl rfl rfl rfl (fun g S => ag0) fun g S => ?_
        refine wl_end ?_
        refine w_seq ?_
        refine w_region (by kernel_rfl) ?_
        refine o_fieldAddr (off := 0) gn rfl rfl (by kernel_rfl) ?_
        refine o_load gn rfl rfl (by kernel_rfl) (by first | exact S.cel 0 rfl | exact S.cel 1 rfl | exact S.cel 2 rfl | exact S.cel 3 rfl | exact S.cel 4 rfl | exact S.old g1 l1 (not1 ne.2.2.1)  | exact S.old g2 l2 (not1 ne.2.2.2)  | exact S.old ht l6 (not1 ne.1)  | exact S.old g5 l5 (not1 ne.2.1)) rfl ?_
        refine o_eqi gn rfl rfl rfl ?_
        refine wl_end ?_
        refine w_cond rfl (fun hb => ?_) fun hb => ?_
        · skip
          exact absurd hb (by rw [hkd, if_neg (Nat.ne_of_gt hj0)]; decide)
        · skip
          refine w_skip ?_
          refine w_region (by kernel_rfl) ?_
          refine o_add gn rfl rfl rfl (by omega) (by omega) ?_
          refine o_move gn rfl rfl ?_
          refine wl_end ?_
          exact rndS (n - (j + 1)) (by omega) [(16, _)] (by repeat (first | exact trivial | refine ⟨rfl, ?_⟩)) ⟨j + 1, _, _, V2, rfl, rfl, by omega, S.drop, by rw [get_put, if_pos rfl, if_neg (by omega)]; rfl, fun a i => by rw [hV2, hV, nextB_succ hj0]⟩
      · skip
        refine w_skip ?_
        have hj0 : j = 0 := by
          rcases Nat.eq_zero_or_pos j with e | e
          · exact e
          · rw [if_neg (Nat.ne_of_gt e)] at hb; simp at hb
        subst hj0
        refine w_seq ?_
        refine w_region (by kernel_rfl) ?_
        refine o_move gn rfl rfl ?_
        refine o_fieldAddr (off := 1) gn rfl rfl (by kernel_rfl) ?_
        refine o_load gn rfl rfl (by kernel_rfl) (by first | exact S.cel 0 rfl | exact S.cel 1 rfl | exact S.cel 2 rfl | exact S.cel 3 rfl | exact S.cel 4 rfl | exact S.old g1 l1 (not1 ne.2.2.1)  | exact S.old g2 l2 (not1 ne.2.2.2)  | exact S.old ht l6 (not1 ne.1)  | exact S.old g5 l5 (not1 ne.2.1)) rfl ?_
        refine o_move gn rfl rfl ?_
        first | refine s_mapUpdate 0 S mapT158 gn rfl rfl rfl rfl (fun g S => ag0) fun g S => ?_ | refine s_mapUpdate 1 S mapT158 gn rfl rfl rfl rfl (fun g S => ag0) fun g S => ?_ | refine s_mapUpdate 2 S mapT158 gn rfl rfl rfl rfl (fun g S => ag0) fun g S => ?_ | refine s_mapUpdate 3 S mapT158 gn rfl rfl rfl rfl (fun g S => ag0) fun g S => ?_ | refine s_mapUpdate 4 S mapT158 gn rfl rfl rfl rfl (fun g S => ag0) fun g S => ?_
        refine wl_end ?_
        refine w_seq ?_
        refine w_region (by kernel_rfl) ?_
        refine o_fieldAddr (off := 0) gn rfl rfl (by kernel_rfl) ?_
        refine o_load gn rfl rfl (by kernel_rfl) (by first | exact S.cel 0 rfl | exact S.cel 1 rfl | exact S.cel 2 rfl | exact S.cel 3 rfl | exact S.cel 4 rfl | exact S.old g1 l1 (not1 ne.2.2.1)  | exact S.old g2 l2 (not1 ne.2.2.2)  | exact S.old ht l6 (not1 ne.1)  | exact S.old g5 l5 (not1 ne.2.1)) rfl ?_
        refine o_eqi gn rfl rfl rfl ?_
        refine wl_end ?_
        refine w_cond rfl (fun hb => ?_) fun hb => ?_
        · skip
          exact absurd hb (by rw [hkd]; decide)
        · skip
          refine w_skip ?_
          refine w_region (by kernel_rfl) ?_
          refine o_add gn rfl rfl rfl (by omega) (by omega) ?_
          refine o_move gn rfl rfl ?_
          refine wl_end ?_
          exact rndS (n - 1) (by omega) [(16, _)] (by repeat (first | exact trivial | refine ⟨rfl, ?_⟩)) ⟨1, _, _, V, rfl, rfl, by omega, S.drop, by rw [get_put, if_pos rfl, if_neg (by omega)], fun a i => by rw [hV]; simp [nextB]; omega⟩
    · skip
      refine w_exit ?_
      refine thn_exit ?_
      refine rnd_exit ?_
      refine blk_eq ?_
      refine w_seq ?_
      have hj2 : j = n := by simp at hb; omega
      subst hj2
      refine w_region (by kernel_rfl) ?_
      refine o_move gn rfl rfl ?_
      refine o_nilCheck gn rfl rfl ?_
      refine o_fieldAddr (off := 0) gn rfl rfl (by kernel_rfl) ?_
      refine o_fieldAddr (off := 0) gn rfl rfl (by kernel_rfl) ?_
      refine o_load gn rfl rfl (by kernel_rfl) (by first | exact S.cel 0 rfl | exact S.cel 1 rfl | exact S.cel 2 rfl | exact S.cel 3 rfl | exact S.old g1 l1 (not1 ne.2.2.1)  | exact S.old g2 l2 (not1 ne.2.2.2)  | exact S.old ht l6 (not1 ne.1)  | exact S.old g5 l5 (not1 ne.2.1)) rfl ?_
      refine o_len gn rfl rfl (by kernel_rfl) ?_
      refine o_move gn rfl rfl ?_
      refine wl_end ?_
      refine w_block ?_
      refine w_loopS [(58, _)] [(0, _), (56, _), (57, _)] (by repeat (first | exact trivial | refine ⟨rfl, ?_⟩)) (fun kk lv hh => ∃ i : Nat, lv = [(58, iV i)] ∧ kk = 1 - i ∧ i ≤ 1 ∧ SH h [r] [cR b1 (.map (M.map ent) cl), cR r (.cells (rowsC j V) 126 m)] hh) (n := 1) ?_ fun kk lv hh hI => ?_
      · exact ⟨0, rfl, rfl, by omega, S⟩
      · obtain ⟨i, rfl, hk, hi, S⟩ := hI
        refine w_seq ?_
        refine w_region (by kernel_rfl) ?_
        refine o_lss gn rfl rfl rfl ?_
        refine wl_end ?_
        refine w_seq ?_
        refine w_cond rfl (fun hb => ?_) fun hb => ?_
        · skip
          refine w_skip ?_
          have hi : i = 0 := by simp at hb; omega
          subst hi
          refine w_seq ?_
          refine w_block ?_
          refine w_seq ?_
          refine w_region (by kernel_rfl) ?_
          refine o_move gn rfl rfl ?_
          refine o_indexAddr (zz := 15) gn rfl rfl rfl (by kernel_rfl) (by omega) (by omega) ?_
          refine o_loadA (n := 15) gn rfl rfl (by kernel_rfl) (by kernel_rfl) (by first | exact S.cel 0 rfl | exact S.cel 1 rfl | exact S.cel 2 rfl | exact S.cel 3 rfl | exact S.old g1 l1 (not1 ne.2.2.1)  | exact S.old g2 l2 (not1 ne.2.2.2)  | exact S.old ht l6 (not1 ne.1)  | exact S.old g5 l5 (not1 ne.2.1)) (by first | decide | exact Nat.le_refl _ | (simp; done)) ?_
          refine s_alloc (zv := .agg #[.int .i64 0, .int .i64 0, .int .i64 0, .int .i64 0, .int .i64 0, .int .i64 0, .int .i64 0, .bool false, .int .i64 0, .int .i64 0, .int .i64 0, .int .i64 0, .int .i64 0, .int .i64 0, .int .i64 0]) S gn rfl (by kernel_rfl) fun b3 g nb3 S => ?_
          refine o_assign gn rfl rfl ?_
          first | refine s_storeA (n := 15) 0 S gn rfl rfl (by kernel_rfl) (by kernel_rfl) rfl rfl (by decide) rfl (fun g S => ag0) fun g S => ?_ | refine s_storeA (n := 15) 1 S gn rfl rfl (by kernel_rfl) (by kernel_rfl) rfl rfl (by decide) rfl (fun g S => ag0) fun g S => ?_ | refine s_storeA (n := 15) 2 S gn rfl rfl (by kernel_rfl) (by kernel_rfl) rfl rfl (by decide) rfl (fun g S => ag0) fun g S => ?_ | refine s_storeA (n := 15) 3 S gn rfl rfl (by kernel_rfl) (by kernel_rfl) rfl rfl (by decide) rfl (fun g S => ag0) fun g S => ?_ | refine s_storeA (n := 15) 4 S gn rfl rfl (by kernel_rfl) (by kernel_rfl) rfl rfl (by decide) rfl (fun g S => ag0) fun g S => ?_
          refine wl_end ?_
          refine w_seq ?_
          refine w_draw [(0, []), (1, []), (2, []), (3, []), (4, []), (5, []), (6, []), (7, []), (8, []), (9, []), (10, []), (11, [])] (by kernel_rfl) (by kernel_rfl) (by kernel_rfl) (by kernel_rfl) ?_
          refine o_move gn rfl rfl ?_
          refine o_fieldAddr (off := 13) gn rfl rfl (by kernel_rfl) ?_
          refine o_load gn rfl rfl (by kernel_rfl) (by first | exact S.cel 0 rfl | exact S.cel 1 rfl | exact S.cel 2 rfl | exact S.cel 3 rfl | exact S.cel 4 rfl | exact S.old g1 l1 (not1 ne.2.2.1)  | exact S.old g2 l2 (not1 ne.2.2.2)  | exact S.old ht l6 (not1 ne.1)  | exact S.old g5 l5 (not1 ne.2.1)) rfl ?_
          refine o_move gn rfl rfl ?_
          refine o_nilCheck gn rfl rfl ?_
          refine o_fieldAddr (off := 3) gn rfl rfl (by kernel_rfl) ?_
          refine o_load gn rfl rfl (by kernel_rfl) (by first | exact S.cel 0 rfl | exact S.cel 1 rfl | exact S.cel 2 rfl | exact S.cel 3 rfl | exact S.cel 4 rfl | exact S.old g1 l1 (not1 ne.2.2.1)  | exact S.old g2 l2 (not1 ne.2.2.2)  | exact S.old ht l6 (not1 ne.1)  | exact S.old g5 l5 (not1 ne.2.1)) rfl ?_
          refine o_move gn rfl rfl ?_
          refine o_add gn rfl rfl rfl (by omega) (by omega) ?_
          refine o_indexAddr (zz := 1) gn rfl rfl rfl (by kernel_rfl) (by omega) (by omega) ?_
          refine o_load gn rfl rfl (by kernel_rfl) (by first | exact S.cel 0 rfl | exact S.cel 1 rfl | exact S.cel 2 rfl | exact S.cel 3 rfl | exact S.cel 4 rfl | exact S.old g1 l1 (not1 ne.2.2.1)  | exact S.old g2 l2 (not1 ne.2.2.2)  | exact S.old ht l6 (not1 ne.1)  | exact S.old g5 l5 (not1 ne.2.1)) rfl ?_
          refine o_call [_, _, _] gn rfl rfl (by kernel_rfl) rfl (c_pure (c44n (j := -1) (by decide) 0) ⟨ag0, ?_⟩)
          skip
          skip
          skip
          refine wl_end ?_
          refine w_seq ?_
          refine w_region (by kernel_rfl) ?_
          refine o_fieldAddr (off := 14) gn rfl rfl (by kernel_rfl) ?_
          refine o_load gn rfl rfl (by kernel_rfl) (by first | exact S.cel 0 rfl | exact S.cel 1 rfl | exact S.cel 2 rfl | exact S.cel 3 rfl | exact S.cel 4 rfl | exact S.old g1 l1 (not1 ne.2.2.1)  | exact S.old g2 l2 (not1 ne.2.2.2)  | exact S.old ht l6 (not1 ne.1)  | exact S.old g5 l5 (not1 ne.2.1)) rfl ?_
          refine o_gtr gn rfl rfl rfl ?_
          refine wl_end ?_
          refine w_cond rfl (fun hb => ?_) fun hb => ?_
          · skip
            exact absurd hb (by decide)
          · skip
            refine w_skip ?_
            refine w_region (by kernel_rfl) ?_
            refine o_add gn rfl rfl rfl (by omega) (by omega) ?_
            refine o_move gn rfl rfl ?_
            refine wl_end ?_
            exact rndS 0 (by omega) [(58, _)] (by repeat (first | exact trivial | refine ⟨rfl, ?_⟩)) ⟨1, rfl, rfl, by omega, S.drop⟩
        · skip
          refine w_exit ?_
          refine thn_exit ?_
          refine rnd_exit ?_
          refine blk_eq ?_
          refine ⟨.inr rfl, _, rfl, ?_⟩
          exact ⟨V, S.cel 1 rfl, S.ext, hV⟩

end
end Go.Proofs.Yteinandjhpnceaa


namespace Go.Proofs.Yteinandjhpnceaa
open Go.X Go.Model

theorem closedFrom_begin (n b i : Nat) : nextB n b i = closedFrom n n b i := by
  unfold closedFrom
  split
  · unfold nextB laterB; rw [Bool.eq_iff_iff]; simp; omega
  · rfl

section
variable {h : Hp} {n c r ca m k i : Nat} {W : Nat → Nat → BitVec 64} {x y z u : Value}

/-- close -/
theorem c38 (ht : h.get k = some (.cells [x, y, .slice (some ⟨r, 0, none⟩) n ca, z, u] 122 0)) (hr : h.get r = some (.cells (rowsC n W) 126 m)) (hm : m ≠ 1) (l4 : r < h.n) (l6 : k < h.n) (ne : k ≠ r) (hn : n ≤ 1200)
    (hW : ∀ a i, i < 1216 → bitW (W a) i = nextB n a i) :
    C modE 38 [ptrV k] h fun _ h' => ∃ W', h'.get r = some (.cells (rowsC n W') 126 m) ∧ ExtB [r] h h' ∧ ∀ a i, i < 1216 → bitW (W' a) i = laterB n a i := by
  refine c_enter (fu := Try.f38) (by kernel_rfl) rfl ?_
  have S := SH.one (r := cR r (.cells (rowsC n W) 126 m)) hr (by simp [cR]; exact l4) (by simp [cR])
  refine w_seq ?_
  refine w_region (by kernel_rfl) ?_
  refine o_move gn rfl rfl ?_
  refine o_nilCheck gn rfl rfl ?_
  refine o_fieldAddr (off := 2) gn rfl rfl (by kernel_rfl) ?_
  refine o_load gn rfl rfl (by kernel_rfl) (by first | exact S.cel 0 rfl | exact S.cel 1 rfl | exact S.cel 2 rfl | exact S.old ht l6 (not1 ne)) rfl ?_
  refine o_len gn rfl rfl (by kernel_rfl) ?_
  refine o_sub gn rfl rfl rfl (by omega) (by omega) ?_
  refine o_assign gn rfl rfl ?_
  refine wl_end ?_
  refine w_block ?_
  refine w_loopS [(2, _)] [(0, _)] (by repeat (first | exact trivial | refine ⟨rfl, ?_⟩)) (fun kk lv hh => ∃ (a : Nat) (p : Int) (V : Nat → Nat → BitVec 64), lv = [(2, iV p)] ∧ p = a - 1 ∧ kk = a ∧ a ≤ n ∧ SH h [r] [cR r (.cells (rowsC n V) 126 m)] hh ∧ ∀ b i, i < 1216 → bitW (V b) i = closedFrom n a b i) (n := n) ?_ fun kk lv hh hI => ?_
  · exact ⟨n, _, W, rfl, rfl, rfl, by omega, S, fun b i hi => by rw [hW b i hi, closedFrom_begin]⟩
  · obtain ⟨a, p, V, rfl, hp, hk, ha, S, hV⟩ := hI
    refine w_seq ?_
    refine w_seq ?_
    refine w_region (by kernel_rfl) ?_
    refine o_move gn rfl rfl ?_
    refine o_geq gn rfl rfl rfl ?_
    refine wl_end ?_
    refine w_cond rfl (fun hb => ?_) fun hb => ?_
    · skip
      refine w_skip ?_
      have ha0 : 0 ≤ p := by simpa using hb
      obtain ⟨q, rfl⟩ := Int.eq_ofNat_of_zero_le ha0
      have hq : q < n := by omega
      have hqa : a = q + 1 := by omega
      subst hqa
      refine w_seq ?_
      refine w_block ?_
      refine w_seq ?_
      refine w_region (by kernel_rfl) ?_
      refine o_move gn rfl rfl ?_
      refine o_add gn rfl rfl rfl (by omega) (by omega) ?_
      refine o_assign gn rfl rfl ?_
      refine wl_end ?_
      refine w_block ?_
      refine w_loopS [(3, _)] [(0, _), (2, _)] (by repeat (first | exact trivial | refine ⟨rfl, ?_⟩)) (fun kk lv hh => ∃ (b : Nat) (V : Nat → Nat → BitVec 64), lv = [(3, iV b)] ∧ kk = n - b ∧ q < b ∧ b ≤ n ∧ SH h [r] [cR r (.cells (rowsC n V) 126 m)] hh ∧ ∀ b' i, i < 1216 → bitW (V b') i = closedTo n q b b' i) (n := (n - (q + 1))) ?_ fun kk lv hh hI => ?_
      · exact ⟨q + 1, V, rfl, rfl, by omega, by omega, S, fun b' i hi => by rw [hV b' i hi, closedTo_begin]⟩
      · obtain ⟨b, V, rfl, hk, hqb, hbn, S, hV⟩ := hI
        refine w_seq ?_
        refine w_seq ?_
        refine w_region (by kernel_rfl) ?_
        refine o_move gn rfl rfl ?_
        refine o_move gn rfl rfl ?_
        refine o_nilCheck gn rfl rfl ?_
        refine o_fieldAddr (off := 2) gn rfl rfl (by kernel_rfl) ?_
        refine o_load gn rfl rfl (by kernel_rfl) (by first | exact S.cel 0 rfl | exact S.cel 1 rfl | exact S.cel 2 rfl | exact S.old ht l6 (not1 ne)) rfl ?_
        refine o_len gn rfl rfl (by kernel_rfl) ?_
        refine o_lss gn rfl rfl rfl ?_
        refine wl_end ?_
        refine w_cond rfl (fun hb => ?_) fun hb => ?_
        · skip
          refine w_skip ?_
          have hbn : b < n := by simpa using hb
          refine w_seq ?_
          refine w_block ?_
          refine w_seq ?_
          refine w_seq ?_
          refine w_region (by kernel_rfl) ?_
          refine o_move gn rfl rfl ?_
          refine o_nilCheck gn rfl rfl ?_
          refine o_fieldAddr (off := 2) gn rfl rfl (by kernel_rfl) ?_
          refine o_load gn rfl rfl (by kernel_rfl) (by first | exact S.cel 0 rfl | exact S.cel 1 rfl | exact S.cel 2 rfl | exact S.old ht l6 (not1 ne)) rfl ?_
          refine o_move gn rfl rfl ?_
          refine o_indexAddr (zz := 19) gn rfl rfl rfl (by kernel_rfl) (by omega) (by omega) ?_
          rw [Int.toNat_natCast, Nat.zero_add]
          refine o_move gn rfl rfl ?_
          refine o_call [_, _] gn rfl rfl (by kernel_rfl) rfl (c_pure (c45 (S.cel 0 rfl) hq (by omega) (by omega)) ⟨ag0, ?_⟩)
          refine o_not gn rfl rfl ?_
          refine wl_end ?_
          refine w_cond rfl (fun hb => ?_) fun hb => ?_
          · skip
            exact absurd hb (by rw [hV q b (by omega), closedTo_has hqb hbn]; decide)
          · skip
            refine w_skip ?_
            refine w_seq ?_
            refine w_region (by kernel_rfl) ?_
            refine o_move gn rfl rfl ?_
            refine wl_end ?_
            refine w_block ?_
            refine w_loopS [(35, _)] [(0, _), (2, _), (3, _)] (by repeat (first | exact trivial | refine ⟨rfl, ?_⟩)) (fun kk lv hh => ∃ w : Nat, lv = [(35, iV w)] ∧ kk = 19 - w ∧ w ≤ 19 ∧ SH h [r] [cR r (.cells (rowsC n (orTo V q b w)) 126 m)] hh) (n := 19) ?_ fun kk lv hh hI => ?_
            · exact ⟨0, rfl, rfl, by omega, by rw [orTo_zero]; exact S⟩
            · obtain ⟨w, rfl, hk, hw, S⟩ := hI
              refine w_seq ?_
              refine w_region (by kernel_rfl) ?_
              refine o_lss gn rfl rfl rfl ?_
              refine wl_end ?_
              refine w_seq ?_
              refine w_cond rfl (fun hb => ?_) fun hb => ?_
              · skip
                refine w_skip ?_
                have hw : w < 19 := by simp at hb; omega
                refine w_seq ?_
                refine w_block ?_
                refine w_seq ?_
                refine w_region (by kernel_rfl) ?_
                refine o_move gn rfl rfl ?_
                refine o_assign gn rfl rfl ?_
                refine wl_end ?_
                refine w_draw [(0, []), (1, []), (2, []), (3, []), (4, []), (5, []), (6, []), (7, []), (8, []), (9, []), (10, []), (11, []), (12, []), (13, []), (14, []), (15, []), (16, []), (17, []), (18, []), (19, []), (20, []), (21, [])] (by kernel_rfl) (by kernel_rfl) (by kernel_rfl) (by kernel_rfl) ?_
                refine o_move gn rfl rfl ?_
                refine o_nilCheck gn rfl rfl ?_
                refine o_fieldAddr (off := 2) gn rfl rfl (by kernel_rfl) ?_
                refine o_load gn rfl rfl (by kernel_rfl) (by first | exact S.cel 0 rfl | exact S.cel 1 rfl | exact S.cel 2 rfl | exact S.old ht l6 (not1 ne)) rfl ?_
                refine o_move gn rfl rfl ?_
                refine o_move gn rfl rfl ?_
                refine o_indexAddr (zz := 19) gn rfl rfl rfl (by kernel_rfl) (by omega) (by omega) ?_
                rw [Int.toNat_natCast, Nat.zero_add]
                refine o_indexAddrA (n := 19) (e := 124) (zz := 1) gn rfl rfl rfl (by kernel_rfl) (by omega) (by omega) ?_
                rw [Int.toNat_natCast]
                refine o_load gn rfl rfl (by kernel_rfl) (S.cel 0 rfl) (by rw [Nat.mul_one]; exact rowsC_get _ hq hw) ?_
                refine o_move gn rfl rfl ?_
                refine o_nilCheck gn rfl rfl ?_
                refine o_fieldAddr (off := 2) gn rfl rfl (by kernel_rfl) ?_
                refine o_load gn rfl rfl (by kernel_rfl) (by first | exact S.cel 0 rfl | exact S.cel 1 rfl | exact S.cel 2 rfl | exact S.old ht l6 (not1 ne)) rfl ?_
                refine o_move gn rfl rfl ?_
                refine o_move gn rfl rfl ?_
                refine o_indexAddr (zz := 19) gn rfl rfl rfl (by kernel_rfl) (by omega) (by omega) ?_
                rw [Int.toNat_natCast, Nat.zero_add]
                refine o_indexAddrA (n := 19) (e := 124) (zz := 1) gn rfl rfl rfl (by kernel_rfl) (by omega) (by omega) ?_
                rw [Int.toNat_natCast]
                refine o_load gn rfl rfl (by kernel_rfl) (S.cel 0 rfl) (by rw [Nat.mul_one]; exact rowsC_get _ hbn hw) ?_
                refine o_orU (_) (_) gn rfl rfl rfl ?_
                refine o_indexAddr (zz := 19) gn rfl rfl rfl (by kernel_rfl) (by omega) (by omega) ?_
                rw [Int.toNat_natCast, Nat.zero_add]
                refine o_indexAddrA (n := 19) (e := 124) (zz := 1) gn rfl rfl rfl (by kernel_rfl) (by omega) (by omega) ?_
                rw [Int.toNat_natCast]
                first | refine s_store 0 S gn rfl rfl rfl (by kernel_rfl) rfl hm (by rw [rowsC_len]; omega) (fun g S => ag0) fun g S => ?_ | refine s_store 1 S gn rfl rfl rfl (by kernel_rfl) rfl hm (by rw [rowsC_len]; omega) (fun g S => ag0) fun g S => ?_ | refine s_store 2 S gn rfl rfl rfl (by kernel_rfl) rfl hm (by rw [rowsC_len]; omega) (fun g S => ag0) fun g S => ?_
                refine wl_end ?_
                refine w_region (by kernel_rfl) ?_
                refine o_add gn rfl rfl rfl (by omega) (by omega) ?_
                refine o_move gn rfl rfl ?_
                refine wl_end ?_
                exact rndS (19 - (w + 1)) (by omega) [(35, _)] (by repeat (first | exact trivial | refine ⟨rfl, ?_⟩)) ⟨w + 1, rfl, rfl, by omega, by rw [orTo_succ V (by omega), ← rowsC_set _ _ hq hw]; rw [Nat.mul_one] at S; exact S⟩
              · skip
                have hw2 : w = 19 := by simp at hb; omega
                subst hw2
                refine w_exit ?_
                refine thn_exit ?_
                refine rnd_exit ?_
                refine blk_eq ?_
                refine w_region (by kernel_rfl) ?_
                refine o_move gn rfl rfl ?_
                refine o_add gn rfl rfl rfl (by omega) (by omega) ?_
                refine o_assign gn rfl rfl ?_
                refine wl_end ?_
                exact rndS (n - (b + 1)) (by omega) [(3, _)] (by repeat (first | exact trivial | refine ⟨rfl, ?_⟩)) ⟨b + 1, orTo V q b 19, rfl, rfl, by omega, by omega, S, fun b' i hi => by rw [bit_orTo V q b b' i hi, hV q i hi, hV b i hi, hV b' i hi]; exact closedTo_step hqb hbn b' i⟩
        · skip
          have hb2 : b = n := by simp at hb; omega
          subst hb2
          refine w_exit ?_
          refine thn_exit ?_
          refine rnd_exit ?_
          refine blk_eq ?_
          refine w_region (by kernel_rfl) ?_
          refine o_move gn rfl rfl ?_
          refine o_sub gn rfl rfl rfl (by omega) (by omega) ?_
          refine o_assign gn rfl rfl ?_
          refine wl_end ?_
          exact rndS q (by omega) [(2, _)] (by repeat (first | exact trivial | refine ⟨rfl, ?_⟩)) ⟨q, _, V, rfl, rfl, rfl, by omega, S, fun b' i hi => by rw [hV b' i hi, closedTo_end]⟩
    · skip
      refine w_exit ?_
      refine thn_exit ?_
      refine rnd_exit ?_
      refine blk_eq ?_
      refine ⟨.inr rfl, _, rfl, ?_⟩
      exact ⟨V, S.cel 0 rfl, S.ext, fun b i hi => by
        have ha0 : a = 0 := by simp at hb; omega
        subst ha0
        rw [hV b i hi]; rfl⟩

end
end Go.Proofs.Yteinandjhpnceaa


namespace Go.Proofs.Yteinandjhpnceaa
open Go.X Go.Model

abbrev Loc3 := Int × Int × Int
def locV (x : Loc3) : Value := .agg #[iV x.1, iV x.2.1, iV x.2.2]
noncomputable def fs32 : Array Field := match modE.und 32 with | some (.struct fs) => fs | _ => #[]
theorem und32 : modE.und 32 = some (.struct fs32) := by kernel_rfl
theorem len32 : fs32.toList.length = 3 := by kernel_rfl
theorem row32 : fs32.toList = [fs32.toList[0]'(by rw [len32]; omega), fs32.toList[1]'(by rw [len32]; omega), fs32.toList[2]'(by rw [len32]; omega)] := by kernel_rfl
theorem eq32 (h : Hp) (a b : Loc3) : structEq modE h #[iV a.1, iV a.2.1, iV a.2.2] #[iV b.1, iV b.2.1, iV b.2.2] fs32.toList = some (decide (a.1 = b.1) && (decide (a.2.1 = b.2.1) && (decide (a.2.2 = b.2.2) && true))) := by
  rw [row32]
  exact structEq_cons (u := iV a.1) (w := iV b.1) (by kernel_rfl) (by kernel_rfl) (by kernel_rfl) (by kernel_rfl) (structEq_cons (u := iV a.2.1) (w := iV b.2.1) (by kernel_rfl) (by kernel_rfl) (by kernel_rfl) (by kernel_rfl) (structEq_cons (u := iV a.2.2) (w := iV b.2.2) (by kernel_rfl) (by kernel_rfl) (by kernel_rfl) (by kernel_rfl) rfl))
theorem keyT127 : KeyT modE 127 32 63 locV := by
  refine ⟨by kernel_rfl, fun h a b => ?_, fun a => by kernel_rfl⟩
  have hs : modE.P.stoodInHeld 32 = false := by kernel_rfl
  simp only [keyEqX, und32, locV, hs, cond_false, eq32]
  obtain ⟨a1, a2, a3⟩ := a
  obtain ⟨b1, b2, b3⟩ := b
  by_cases e1 : a1 = b1
  · by_cases e2 : a2 = b2
    · by_cases e3 : a3 = b3
      · subst e1; subst e2; subst e3
        simp [sameV, sameV.sameL, kindEq_refl]
      · simp [e3]
    · simp [e2]
  · simp [e1]
theorem el63 : ElN modE 63 3 0 7 := ⟨by kernel_rfl, by kernel_rfl, by kernel_rfl, .int .i64 0, by kernel_rfl, rfl⟩

abbrev lk7 : Loc3 := (7, 0, 0)
theorem mkC_lo {j : Nat} {kd si lo : Int} {wr : Bool} (e : mkC j = [iV kd, iV 1, iV 0, iV si, iV lo, iV 0, iV 0, .bool wr]) (hj : 0 < j) : lo = 7 := by
  cases j with
  | zero => omega
  | succ j => simp [mkC] at e; exact e.2.2.1.symm

section
variable {h : Hp} {bt bm n c k bb be i : Nat}

/-- Conflicts -/
theorem c21 (R : RunAt h bt bm n) (hn : n ≤ 1200) : C modE 21 [runV bt bm n c] h fun v h' => v = .slice none 0 0 ∧ Ext h h' := by
  obtain ⟨mt, g1⟩ := R.tsk
  obtain ⟨mm, rest, g2⟩ := R.mks
  obtain ⟨l1, l2⟩ := R.lt
  refine c_enter (fu := Try.f21) (by kernel_rfl) rfl ?_
  have S := SH.start h
  refine w_seq ?_
  refine w_region (by kernel_rfl) ?_
  refine s_box S gn rfl rfl fun b1 g nb1 S => ?_
  refine o_assign gn rfl rfl ?_
  refine wl_end ?_
  refine w_seq ?_
  refine w_region (by kernel_rfl) ?_
  refine o_assign gn rfl rfl ?_
  refine wl_end ?_
  refine w_seq ?_
  refine w_region (by kernel_rfl) ?_
  refine s_makeMap S gn rfl fun b2 g nb2 S => ?_
  refine o_assign gn rfl rfl ?_
  refine wl_end ?_
  refine w_seq ?_
  refine w_seq ?_
  refine w_region (by kernel_rfl) ?_
  refine o_fieldAddr (off := 1) gn rfl rfl (by kernel_rfl) ?_
  refine o_load gn rfl rfl (by kernel_rfl) (by first | exact S.cel 0 rfl | exact S.cel 1 rfl | exact S.cel 2 rfl | exact S.cel 3 rfl | exact S.old0 g2 l2) rfl ?_
  refine o_len gn rfl rfl (by kernel_rfl) ?_
  refine o_move gn rfl rfl ?_
  refine wl_end ?_
  refine w_block ?_
  refine w_loopS [(3, _), (14, _)] [(1, _), (4, _), (12, _), (13, _)] (by repeat (first | exact trivial | refine ⟨rfl, ?_⟩)) (fun kk lv hh => ∃ (j : Nat) (M : MsK Loc3) (cl : Nat) (s : Value) (cs : List Value) (bs : List Nat), lv = [(3, .slice none 0 0), (14, iV j)] ∧ kk = n - j ∧ j ≤ n ∧ SH h [] [slR 3 0 s cs (j - 1) bs, cR b2 (.map (M.map (entK locV)) cl), cR b1 (.cells [tsV bt, msV bm n c] 39 0)] hh ∧ OkK M cl ∧ (getK M lk7).getD (.slice none 0 0) = s ∧ ∀ i, i < j - 1 → cs[i]? = some (iV ((i + 1 : Nat)))) (n := n) ?_ fun kk lv hh hI => ?_
  · exact ⟨0, [], 0, _, [], [], rfl, rfl, by omega, S.nilSl 3 0, OkK.nil 0, rfl, fun i hi => by omega⟩
  · obtain ⟨j, M, cl, s, cs, bs, rfl, hk, hj, S, ok, hs, hcs⟩ := hI
    refine w_seq ?_
    refine w_region (by kernel_rfl) ?_
    refine o_lss gn rfl rfl rfl ?_
    refine wl_end ?_
    refine w_seq ?_
    refine w_cond rfl (fun hb => ?_) fun hb => ?_
    · skip
      refine w_skip ?_
      have hj : j < n := by simp at hb; omega
      obtain ⟨kd, si, lo, wr, em, hkd⟩ := mkC_form j
      refine w_seq ?_
      refine w_block ?_
      refine w_seq ?_
      refine w_region (by kernel_rfl) ?_
      refine o_move gn rfl rfl ?_
      refine o_indexAddr (zz := 8) gn rfl rfl rfl (by kernel_rfl) (by omega) (by omega) ?_
      refine o_loadA (n := 8) gn rfl rfl (by kernel_rfl) (by kernel_rfl) (by first | exact S.cel 0 rfl | exact S.cel 1 rfl | exact S.cel 2 rfl | exact S.cel 3 rfl | exact S.old0 g2 l2) (by rw [List.length_append, marksC_len]; omega) ?_
      rw [marks_at hj rest em]
      refine s_alloc (zv := .agg #[.int .i64 0, .int .i64 0, .int .i64 0, .int .i64 0, .int .i64 0, .int .i64 0, .int .i64 0, .bool false]) S gn rfl (by kernel_rfl) fun b3 g nb3 S => ?_
      refine o_assign gn rfl rfl ?_
      first | refine s_storeA (n := 8) 0 S gn rfl rfl (by kernel_rfl) (by kernel_rfl) rfl rfl (by decide) rfl (fun g S => ag0) fun g S => ?_ | refine s_storeA (n := 8) 1 S gn rfl rfl (by kernel_rfl) (by kernel_rfl) rfl rfl (by decide) rfl (fun g S => ag0) fun g S => ?_ | refine s_storeA (n := 8) 2 S gn rfl rfl (by kernel_rfl) (by kernel_rfl) rfl rfl (by decide) rfl (fun g S => ag0) fun g S => ?_ | refine s_storeA (n := 8) 3 S gn rfl rfl (by kernel_rfl) (by kernel_rfl) rfl rfl (by decide) rfl (fun g S => ag0) fun g S => ?_ | refine s_storeA (n := 8) 4 S gn rfl rfl (by kernel_rfl) (by kernel_rfl) rfl rfl (by decide) rfl (fun g S => ag0) fun g S => ?_
      refine wl_end ?_
      refine w_seq ?_
      refine w_seq ?_
      refine w_region (by kernel_rfl) ?_
      refine o_fieldAddr (off := 0) gn rfl rfl (by kernel_rfl) ?_
      refine o_load gn rfl rfl (by kernel_rfl) (by first | exact S.cel 0 rfl | exact S.cel 1 rfl | exact S.cel 2 rfl | exact S.cel 3 rfl | exact S.cel 4 rfl | exact S.old0 g2 l2) rfl ?_
      refine o_nei gn rfl rfl rfl ?_
      refine wl_end ?_
      refine w_cond rfl (fun hb => ?_) fun hb => ?_
      · skip
        refine w_exit ?_
        refine thn_exit ?_
        refine blk_eq ?_
        refine w_region (by kernel_rfl) ?_
        refine o_add gn rfl rfl rfl (by omega) (by omega) ?_
        refine o_move gn rfl rfl ?_
        refine wl_end ?_
        exact rndS (n - (j + 1)) (by omega) [(3, _), (14, _)] (by repeat (first | exact trivial | refine ⟨rfl, ?_⟩)) ⟨j + 1, M, cl, s, cs, bs, rfl, rfl, by omega, by
          have hj0 : j = 0 := by
            rcases Nat.eq_zero_or_pos j with e | e
            · exact e
            · rw [if_neg (by omega)] at hkd; subst hkd; simp at hb
          subst hj0
          exact S.drop, ok, hs, fun i hi => hcs i (by
          have hj0 : j = 0 := by
            rcases Nat.eq_zero_or_pos j with e | e
            · exact e
            · rw [if_neg (by omega)] at hkd; subst hkd; simp at hb
          omega)⟩
      · skip
        refine w_skip ?_
        have hj0 : 0 < j := by
          rcases Nat.eq_zero_or_pos j with e | e
          · rw [if_pos e] at hkd; subst hkd; simp at hb
          · exact e
        have hlo := mkC_lo em hj0
        subst hlo
        obtain ⟨a, c', hse⟩ := (S.sl 1 rfl).val
        subst hse
        have hlen := (S.sl 1 rfl).len
        refine w_seq ?_
        refine w_seq ?_
        refine w_region (by kernel_rfl) ?_
        refine o_move gn rfl rfl ?_
        refine o_fieldAddr (off := 3) gn rfl rfl (by kernel_rfl) ?_
        refine o_fieldAddr (off := 1) gn rfl rfl (by kernel_rfl) ?_
        refine o_loadA (n := 3) gn rfl rfl (by kernel_rfl) (by kernel_rfl) (by first | exact S.cel 0 rfl | exact S.cel 1 rfl | exact S.cel 2 rfl | exact S.cel 3 rfl | exact S.cel 4 rfl | exact S.old0 g2 l2) (by first | decide | exact Nat.le_refl _ | (simp; done)) ?_
        refine o_lookupK (k := lk7) (zv := .slice none 0 0) keyT127 gn rfl rfl rfl (by first | exact S.cel 0 rfl | exact S.cel 1 rfl | exact S.cel 2 rfl | exact S.cel 3 rfl | exact S.cel 4 rfl | exact S.old0 g2 l2) (by kernel_rfl) ?_
        rw [hs]
        refine o_len gn rfl rfl (by kernel_rfl) ?_
        refine o_move gn rfl rfl ?_
        refine wl_end ?_
        refine w_block ?_
        refine w_loopS [(3, _), (28, _)] [(1, _), (4, _), (5, _), (6, _), (12, _), (13, _), (14, _), (26, _), (27, _)] (by repeat (first | exact trivial | refine ⟨rfl, ?_⟩)) (fun kk lv hh => ∃ i : Nat, lv = [(3, .slice none 0 0), (28, iV i)] ∧ kk = (j - 1) - i ∧ i ≤ j - 1 ∧ SH h [] [cR b3 (.cells [iV kd, iV 1, iV 0, iV si, iV 7, iV 0, iV 0, .bool wr] 36 0), slR 3 0 (.slice a (j - 1) c') cs (j - 1) bs, cR b2 (.map (M.map (entK locV)) cl), cR b1 (.cells [tsV bt, msV bm n c] 39 0)] hh) (n := (j - 1)) ?_ fun kk lv hh hI => ?_
        · exact ⟨0, rfl, rfl, by omega, S⟩
        · obtain ⟨i, rfl, hk, hi, S⟩ := hI
          refine w_seq ?_
          refine w_region (by kernel_rfl) ?_
          refine o_lss gn rfl rfl rfl ?_
          refine wl_end ?_
          refine w_seq ?_
          refine w_cond rfl (fun hb => ?_) fun hb => ?_
          · skip
            refine w_skip ?_
            have hi : i < j - 1 := by simp at hb; omega
            obtain ⟨q, qm, qc, qrest, hse, hqg, _⟩ := (S.sl 1 rfl).at (by omega)
            cases hse
            obtain ⟨kd2, si2, lo2, wr2, em2, hkd2⟩ := mkC_form (i + 1)
            refine w_seq ?_
            refine w_block ?_
            refine w_seq ?_
            refine w_region (by kernel_rfl) ?_
            refine o_indexAddr (zz := 1) gn rfl rfl rfl (by kernel_rfl) (by omega) (by omega) ?_
            refine o_load gn rfl rfl (by kernel_rfl) hqg (by rw [Int.toNat_natCast, Nat.mul_one, Nat.zero_add, List.getElem?_append_left (by rw [hlen]; omega)]; exact hcs i hi) ?_
            refine o_assign gn rfl rfl ?_
            refine wl_end ?_
            refine w_seq ?_
            refine w_region (by kernel_rfl) ?_
            refine o_fieldAddr (off := 1) gn rfl rfl (by kernel_rfl) ?_
            refine o_load gn rfl rfl (by kernel_rfl) (by first | exact S.cel 0 rfl | exact S.cel 1 rfl | exact S.cel 2 rfl | exact S.cel 3 rfl | exact S.cel 4 rfl | exact S.old0 g2 l2) rfl ?_
            refine o_move gn rfl rfl ?_
            refine o_indexAddr (zz := 8) gn rfl rfl rfl (by kernel_rfl) (by omega) (by omega) ?_
            refine o_loadA (n := 8) gn rfl rfl (by kernel_rfl) (by kernel_rfl) (by first | exact S.cel 0 rfl | exact S.cel 1 rfl | exact S.cel 2 rfl | exact S.cel 3 rfl | exact S.cel 4 rfl | exact S.old0 g2 l2) (by rw [List.length_append, marksC_len]; omega) ?_
            rw [marks_at (show i + 1 < n by omega) rest em2]
            refine s_alloc (zv := .agg #[.int .i64 0, .int .i64 0, .int .i64 0, .int .i64 0, .int .i64 0, .int .i64 0, .int .i64 0, .bool false]) S gn rfl (by kernel_rfl) fun b4 g nb4 S => ?_
            first | refine s_storeA (n := 8) 0 S gn rfl rfl (by kernel_rfl) (by kernel_rfl) rfl rfl (by decide) rfl (fun g S => ag0) fun g S => ?_ | refine s_storeA (n := 8) 1 S gn rfl rfl (by kernel_rfl) (by kernel_rfl) rfl rfl (by decide) rfl (fun g S => ag0) fun g S => ?_ | refine s_storeA (n := 8) 2 S gn rfl rfl (by kernel_rfl) (by kernel_rfl) rfl rfl (by decide) rfl (fun g S => ag0) fun g S => ?_ | refine s_storeA (n := 8) 3 S gn rfl rfl (by kernel_rfl) (by kernel_rfl) rfl rfl (by decide) rfl (fun g S => ag0) fun g S => ?_ | refine s_storeA (n := 8) 4 S gn rfl rfl (by kernel_rfl) (by kernel_rfl) rfl rfl (by decide) rfl (fun g S => ag0) fun g S => ?_ | refine s_storeA (n := 8) 5 S gn rfl rfl (by kernel_rfl) (by kernel_rfl) rfl rfl (by decide) rfl (fun g S => ag0) fun g S => ?_
            refine wl_end ?_
            refine w_seq ?_
            refine w_region (by kernel_rfl) ?_
            refine o_fieldAddr (off := 1) gn rfl rfl (by kernel_rfl) ?_
            refine o_load gn rfl rfl (by kernel_rfl) (by first | exact S.cel 0 rfl | exact S.cel 1 rfl | exact S.cel 2 rfl | exact S.cel 3 rfl | exact S.cel 4 rfl | exact S.cel 5 rfl | exact S.old0 g2 l2) rfl ?_
            refine o_fieldAddr (off := 1) gn rfl rfl (by kernel_rfl) ?_
            refine o_load gn rfl rfl (by kernel_rfl) (by first | exact S.cel 0 rfl | exact S.cel 1 rfl | exact S.cel 2 rfl | exact S.cel 3 rfl | exact S.cel 4 rfl | exact S.cel 5 rfl | exact S.old0 g2 l2) rfl ?_
            refine o_nei gn rfl rfl rfl ?_
            refine o_move gn rfl rfl ?_
            refine o_and (n := 8) (B := false) rfl rfl rfl gn rfl (fun hb => by
                exact absurd hb (by decide)) ?_
            refine wl_end ?_
            refine w_cond rfl (fun hb => ?_) fun hb => ?_
            · skip
              exact absurd hb (by decide)
            · skip
              refine w_skip ?_
              refine w_region (by kernel_rfl) ?_
              refine o_add gn rfl rfl rfl (by omega) (by omega) ?_
              refine o_move gn rfl rfl ?_
              refine wl_end ?_
              exact rndS (j - 1 - (i + 1)) (by omega) [(3, _), (28, _)] (by repeat (first | exact trivial | refine ⟨rfl, ?_⟩)) ⟨i + 1, rfl, rfl, by omega, S.drop⟩
          · skip
            refine w_exit ?_
            refine thn_exit ?_
            refine rnd_exit ?_
            refine blk_eq ?_
            refine w_region (by kernel_rfl) ?_
            refine o_move gn rfl rfl ?_
            refine o_fieldAddr (off := 3) gn rfl rfl (by kernel_rfl) ?_
            refine o_fieldAddr (off := 1) gn rfl rfl (by kernel_rfl) ?_
            refine o_loadA (n := 3) gn rfl rfl (by kernel_rfl) (by kernel_rfl) (by first | exact S.cel 0 rfl | exact S.cel 1 rfl | exact S.cel 2 rfl | exact S.cel 3 rfl | exact S.cel 4 rfl | exact S.old0 g2 l2) (by first | decide | exact Nat.le_refl _ | (simp; done)) ?_
            refine o_move gn rfl rfl ?_
            refine s_buildSlice (e := 3) (z := 0) (zv := .int .i64 0) [(0, _)] S gn rfl (by kernel_rfl) (by kernel_rfl) (by kernel_rfl) (by kernel_rfl) rfl rfl fun b6 g nb6 S => ?_
            refine s_mapEntryK (k := lk7) (zv := .slice none 0 0) 3 S keyT127 gn rfl rfl rfl (by kernel_rfl) rfl (fun g S => ag0) fun g S => ?_
            refine o_extract gn rfl rfl rfl ?_
            rw [touch_val, hs]
            refine s_append (e := 3) (z := 0) (by' := 7) 2 0 S el63 gn rfl rfl rfl rfl rfl rfl (by rfl) (by omega) (fun s' bs' g S => ag0) fun s' bs' g S => ?_
            refine o_extract gn rfl rfl rfl ?_
            refine s_entryStoreK (k := lk7) (zv := .slice none 0 0) 3 S ok gn rfl rfl rfl rfl (fun g S => ag0) fun g S => ?_
            refine wl_end ?_
            refine w_region (by kernel_rfl) ?_
            refine o_add gn rfl rfl rfl (by omega) (by omega) ?_
            refine o_move gn rfl rfl ?_
            refine wl_end ?_
            exact rndS (n - (j + 1)) (by omega) [(3, _), (14, _)] (by repeat (first | exact trivial | refine ⟨rfl, ?_⟩)) ⟨j + 1, _, _, s', cs ++ [iV j], bs', rfl, rfl, by omega, by
              have e : j - 1 + 1 = j + 1 - 1 := by omega
              rw [e] at S; exact S.drop.drop, ok.put _ _, by rw [get_putK, if_pos rfl]; rfl, fun i hi => by
              by_cases hi2 : i < j - 1
              · rw [List.getElem?_append_left (by rw [hlen]; omega)]; exact hcs i hi2
              · have : i = j - 1 := by omega
                subst this
                rw [List.getElem?_append_right (by rw [hlen]; omega), hlen, Nat.mul_one, Nat.sub_self, show j - 1 + 1 = j by omega]; rfl⟩
    · skip
      refine w_exit ?_
      refine thn_exit ?_
      refine rnd_exit ?_
      refine blk_eq ?_
      refine w_seq ?_
      refine w_region (by kernel_rfl) ?_
      refine o_move gn rfl rfl ?_
      refine o_assign gn rfl rfl ?_
      refine wl_end ?_
      refine w_ret ?_
      refine ⟨.inl rfl, _, rfl, ?_⟩
      exact ⟨rfl, S.e0⟩

end
end Go.Proofs.Yteinandjhpnceaa


namespace Go.Proofs.Yteinandjhpnceaa
open Go.X Go.Model

section
variable {h : Hp} {bt bm n c r ca bb be k i q : Nat}

/-- ahead -/
theorem c40 (R : RunAt h bt bm n) (ht : h.get k = some (.cells (clC bt bm n c r ca bb be) 122 0)) (l6 : k < h.n) : C modE 40 [ptrV k, iV 1, iV 1] h fun v h' => v = .bool false ∧ Ext h h' := by
  obtain ⟨mt, g1⟩ := R.tsk
  obtain ⟨l1, l2⟩ := R.lt
  refine c_enter (fu := Try.f40) (by kernel_rfl) rfl ?_
  have S := SH.start h
  refine w_seq ?_
  refine w_region (by kernel_rfl) ?_
  refine o_assign gn rfl rfl ?_
  refine wl_end ?_
  refine w_seq ?_
  refine w_draw [(0, []), (1, []), (2, []), (3, []), (4, []), (5, []), (6, []), (7, []), (8, []), (9, []), (10, []), (11, []), (12, []), (13, []), (14, []), (15, []), (16, []), (17, []), (18, []), (19, []), (20, [13, 15, 17]), (21, [])] (by kernel_rfl) (by kernel_rfl) (by kernel_rfl) (by kernel_rfl) ?_
  refine o_move gn rfl rfl ?_
  refine o_nilCheck gn rfl rfl ?_
  refine o_fieldAddr (off := 0) gn rfl rfl (by kernel_rfl) ?_
  refine o_fieldAddr (off := 0) gn rfl rfl (by kernel_rfl) ?_
  refine o_load gn rfl rfl (by kernel_rfl) (by first | exact S.cel 0 rfl | exact S.cel 1 rfl | exact S.old0 g1 l1  | exact S.old0 ht l6) rfl ?_
  refine o_move gn rfl rfl ?_
  refine o_sub gn rfl rfl rfl (by omega) (by omega) ?_
  refine o_indexAddr (zz := 15) gn rfl rfl rfl (by kernel_rfl) (by omega) (by omega) ?_
  refine o_loadA (n := 15) gn rfl rfl (by kernel_rfl) (by kernel_rfl) (by first | exact S.cel 0 rfl | exact S.cel 1 rfl | exact S.old0 g1 l1  | exact S.old0 ht l6) (by first | decide | exact Nat.le_refl _ | (simp; done)) ?_
  refine o_move gn rfl rfl ?_
  refine o_nilCheck gn rfl rfl ?_
  refine o_fieldAddr (off := 0) gn rfl rfl (by kernel_rfl) ?_
  refine o_fieldAddr (off := 0) gn rfl rfl (by kernel_rfl) ?_
  refine o_load gn rfl rfl (by kernel_rfl) (by first | exact S.cel 0 rfl | exact S.cel 1 rfl | exact S.old0 g1 l1  | exact S.old0 ht l6) rfl ?_
  refine o_move gn rfl rfl ?_
  refine o_sub gn rfl rfl rfl (by omega) (by omega) ?_
  refine o_indexAddr (zz := 15) gn rfl rfl rfl (by kernel_rfl) (by omega) (by omega) ?_
  refine o_loadA (n := 15) gn rfl rfl (by kernel_rfl) (by kernel_rfl) (by first | exact S.cel 0 rfl | exact S.cel 1 rfl | exact S.old0 g1 l1  | exact S.old0 ht l6) (by first | decide | exact Nat.le_refl _ | (simp; done)) ?_
  refine s_alloc (zv := .agg #[.int .i64 0, .int .i64 0, .int .i64 0, .int .i64 0, .int .i64 0, .int .i64 0, .int .i64 0, .bool false, .int .i64 0, .int .i64 0, .int .i64 0, .int .i64 0, .int .i64 0, .int .i64 0, .int .i64 0]) S gn rfl (by kernel_rfl) fun b1 g nb1 S => ?_
  refine s_alloc (zv := .agg #[.int .i64 0, .int .i64 0, .int .i64 0, .int .i64 0, .int .i64 0, .int .i64 0, .int .i64 0, .bool false, .int .i64 0, .int .i64 0, .int .i64 0, .int .i64 0, .int .i64 0, .int .i64 0, .int .i64 0]) S gn rfl (by kernel_rfl) fun b2 g nb2 S => ?_
  first | refine s_storeA (n := 15) 0 S gn rfl rfl (by kernel_rfl) (by kernel_rfl) rfl rfl (by decide) rfl (fun g S => (ag1 (ag_load gn rfl (by kernel_rfl) (by first | exact S.cel 0 rfl | exact S.cel 1 rfl | exact S.cel 2 rfl | exact S.cel 3 rfl | exact S.old0 g1 l1  | exact S.old0 ht l6) rfl rfl same_slice) (ag1 (ag_sub gn rfl rfl (by omega) (by omega) rfl) (ag1 (ag_loadA (n := 15) gn rfl (by kernel_rfl) (by kernel_rfl) (by first | exact S.cel 0 rfl | exact S.cel 1 rfl | exact S.cel 2 rfl | exact S.cel 3 rfl | exact S.old0 g1 l1  | exact S.old0 ht l6) (by first | decide | exact Nat.le_refl _ | (simp; done)) rfl (by rfl)) ag0)))) fun g S => ?_ | refine s_storeA (n := 15) 1 S gn rfl rfl (by kernel_rfl) (by kernel_rfl) rfl rfl (by decide) rfl (fun g S => (ag1 (ag_load gn rfl (by kernel_rfl) (by first | exact S.cel 0 rfl | exact S.cel 1 rfl | exact S.cel 2 rfl | exact S.cel 3 rfl | exact S.old0 g1 l1  | exact S.old0 ht l6) rfl rfl same_slice) (ag1 (ag_sub gn rfl rfl (by omega) (by omega) rfl) (ag1 (ag_loadA (n := 15) gn rfl (by kernel_rfl) (by kernel_rfl) (by first | exact S.cel 0 rfl | exact S.cel 1 rfl | exact S.cel 2 rfl | exact S.cel 3 rfl | exact S.old0 g1 l1  | exact S.old0 ht l6) (by first | decide | exact Nat.le_refl _ | (simp; done)) rfl (by rfl)) ag0)))) fun g S => ?_ | refine s_storeA (n := 15) 2 S gn rfl rfl (by kernel_rfl) (by kernel_rfl) rfl rfl (by decide) rfl (fun g S => (ag1 (ag_load gn rfl (by kernel_rfl) (by first | exact S.cel 0 rfl | exact S.cel 1 rfl | exact S.cel 2 rfl | exact S.cel 3 rfl | exact S.old0 g1 l1  | exact S.old0 ht l6) rfl rfl same_slice) (ag1 (ag_sub gn rfl rfl (by omega) (by omega) rfl) (ag1 (ag_loadA (n := 15) gn rfl (by kernel_rfl) (by kernel_rfl) (by first | exact S.cel 0 rfl | exact S.cel 1 rfl | exact S.cel 2 rfl | exact S.cel 3 rfl | exact S.old0 g1 l1  | exact S.old0 ht l6) (by first | decide | exact Nat.le_refl _ | (simp; done)) rfl (by rfl)) ag0)))) fun g S => ?_ | refine s_storeA (n := 15) 3 S gn rfl rfl (by kernel_rfl) (by kernel_rfl) rfl rfl (by decide) rfl (fun g S => (ag1 (ag_load gn rfl (by kernel_rfl) (by first | exact S.cel 0 rfl | exact S.cel 1 rfl | exact S.cel 2 rfl | exact S.cel 3 rfl | exact S.old0 g1 l1  | exact S.old0 ht l6) rfl rfl same_slice) (ag1 (ag_sub gn rfl rfl (by omega) (by omega) rfl) (ag1 (ag_loadA (n := 15) gn rfl (by kernel_rfl) (by kernel_rfl) (by first | exact S.cel 0 rfl | exact S.cel 1 rfl | exact S.cel 2 rfl | exact S.cel 3 rfl | exact S.old0 g1 l1  | exact S.old0 ht l6) (by first | decide | exact Nat.le_refl _ | (simp; done)) rfl (by rfl)) ag0)))) fun g S => ?_
  first | refine s_storeA (n := 15) 0 S gn rfl rfl (by kernel_rfl) (by kernel_rfl) rfl rfl (by decide) rfl (fun g S => ag0) fun g S => ?_ | refine s_storeA (n := 15) 1 S gn rfl rfl (by kernel_rfl) (by kernel_rfl) rfl rfl (by decide) rfl (fun g S => ag0) fun g S => ?_ | refine s_storeA (n := 15) 2 S gn rfl rfl (by kernel_rfl) (by kernel_rfl) rfl rfl (by decide) rfl (fun g S => ag0) fun g S => ?_ | refine s_storeA (n := 15) 3 S gn rfl rfl (by kernel_rfl) (by kernel_rfl) rfl rfl (by decide) rfl (fun g S => ag0) fun g S => ?_
  refine wl_end ?_
  refine w_seq ?_
  refine w_draw [(0, []), (1, []), (2, []), (3, []), (4, []), (5, []), (6, []), (7, []), (8, []), (9, []), (10, []), (11, []), (12, []), (13, []), (14, []), (15, []), (16, []), (17, []), (18, []), (19, []), (20, []), (21, []), (22, []), (23, []), (24, []), (25, []), (26, []), (27, []), (28, []), (29, []), (30, []), (31, []), (32, []), (33, []), (34, []), (35, []), (36, []), (37, []), (38, []), (39, []), (40, []), (41, []), (42, [])] (by kernel_rfl) (by kernel_rfl) (by kernel_rfl) (by kernel_rfl) ?_
  refine o_move gn rfl rfl ?_
  refine o_move gn rfl rfl ?_
  refine o_nei gn rfl rfl rfl ?_
  refine o_move gn rfl rfl ?_
  refine o_and (B := false) (n := 3) rfl rfl rfl gn rfl (fun hb => by
      exact absurd hb (by decide)) ?_
  refine o_move gn rfl rfl ?_
  refine o_and (B := false) (n := 5) rfl rfl rfl gn rfl (fun hb => by
      exact absurd hb (by decide)) ?_
  refine o_move gn rfl rfl ?_
  refine o_and (B := false) (n := 8) rfl rfl rfl gn rfl (fun hb => by
      exact absurd hb (by decide)) ?_
  refine o_move gn rfl rfl ?_
  refine o_and (B := false) (n := 15) rfl rfl rfl gn rfl (fun hb => by
      exact absurd hb (by decide)) ?_
  refine o_assign gn rfl rfl ?_
  refine wl_end ?_
  refine w_ret ?_
  refine ⟨.inl rfl, _, rfl, ?_⟩
  exact ⟨rfl, S.e0⟩

/-- closed$1 -/
theorem c39 (R : RunAt h bt bm n) (ht : h.get k = some (.cells (clC bt bm n c r ca bb be) 122 0)) (l6 : k < h.n) (hq : h.get q = some (.cells [ptrV k] 84 0)) : C modE 39 [iV 1, iV 1, ptrV q] h fun v h' => v = .bool false ∧ Ext h h' := by
  refine c_enter (fu := Try.f39) (by kernel_rfl) rfl ?_
  have S := SH.start h
  refine w_seq ?_
  refine w_region (by kernel_rfl) ?_
  refine o_assign gn rfl rfl ?_
  refine wl_end ?_
  refine w_seq ?_
  refine w_region (by kernel_rfl) ?_
  refine o_load gn rfl rfl (by kernel_rfl) (by first | exact S.cel 0 rfl | exact S.cel 1 rfl | exact hq) rfl ?_
  refine o_move gn rfl rfl ?_
  refine o_move gn rfl rfl ?_
  refine o_call [_, _, _] gn rfl rfl (by kernel_rfl) rfl (C.mono (c40 R ht l6) ?_)
  rintro v g ⟨rfl, x⟩
  have S := S.grow x
  refine ⟨ag0, ?_⟩
  refine o_move gn rfl rfl ?_
  refine wl_split (dc := 10) rfl (fun hb10 => ?_) fun hb10 => ?_
  · skip
    exact absurd hb10 (by decide)
  · skip
    refine wl_skips (n := 4) (dc := 10) (w := true) rfl hb10 rfl ?_
    refine o_pickf gn rfl rfl hb10 rfl ?_
    refine o_assign gn rfl rfl ?_
    refine wl_end ?_
    refine w_ret ?_
    refine ⟨.inl rfl, _, rfl, ?_⟩
    exact ⟨rfl, S.e0⟩
/-- closed$2 -/
theorem c42 (R : RunAt h bt bm n) (ht : h.get k = some (.cells (clC bt bm n c r ca bb be) 122 0)) (l6 : k < h.n) (hq : h.get q = some (.cells [ptrV k] 84 0)) : C modE 42 [iV 1, iV 1, ptrV q] h fun v h' => v = .bool false ∧ Ext h h' := by
  refine c_enter (fu := Try.f42) (by kernel_rfl) rfl ?_
  have S := SH.start h
  refine w_seq ?_
  refine w_region (by kernel_rfl) ?_
  refine o_assign gn rfl rfl ?_
  refine wl_end ?_
  refine w_seq ?_
  refine w_region (by kernel_rfl) ?_
  refine o_load gn rfl rfl (by kernel_rfl) (by first | exact S.cel 0 rfl | exact S.cel 1 rfl | exact hq) rfl ?_
  refine o_move gn rfl rfl ?_
  refine o_move gn rfl rfl ?_
  refine o_call [_, _, _] gn rfl rfl (by kernel_rfl) rfl (C.mono (c40 R ht l6) ?_)
  rintro v g ⟨rfl, x⟩
  have S := S.grow x
  refine ⟨ag0, ?_⟩
  refine o_move gn rfl rfl ?_
  refine wl_split (dc := 10) rfl (fun hb10 => ?_) fun hb10 => ?_
  · skip
    exact absurd hb10 (by decide)
  · skip
    refine wl_skips (n := 4) (dc := 10) (w := true) rfl hb10 rfl ?_
    refine o_pickf gn rfl rfl hb10 rfl ?_
    refine o_assign gn rfl rfl ?_
    refine wl_end ?_
    refine w_ret ?_
    refine ⟨.inl rfl, _, rfl, ?_⟩
    exact ⟨rfl, S.e0⟩

end
end Go.Proofs.Yteinandjhpnceaa


namespace Go.Proofs.Yteinandjhpnceaa
open Go.X Go.Model

theorem repeat_rows : ∀ n, repeatCells [uV 0#64, uV 0#64, uV 0#64, uV 0#64, uV 0#64, uV 0#64, uV 0#64, uV 0#64, uV 0#64, uV 0#64, uV 0#64, uV 0#64, uV 0#64, uV 0#64, uV 0#64, uV 0#64, uV 0#64, uV 0#64, uV 0#64] n = rowsC n (fun _ _ => 0#64) := by
  have key : ∀ n, repeatCells (List.replicate 19 (uV 0#64)) n = List.replicate (n * 19) (uV 0#64) := fun n => by
    induction n with
    | zero => rfl
    | succ n ih => rw [repeatCells, ih, List.replicate_append_replicate]; congr 1; omega
  intro n
  have e : rowsC n (fun _ _ => 0#64) = List.replicate (n * 19) (uV 0#64) := by
    simp only [rowsC]
    rw [List.map_const', List.length_range]
  rw [e, ← key]; rfl
theorem bit_zero (a i : Nat) : bitW ((fun _ _ => 0#64 : Nat → Nat → BitVec 64) a) i = false := by simp [bitW]
abbrev clP (bt bm n c b1 b2 b3 b4 b5 b6 : Nat) (V : Nat → Nat → BitVec 64) : List Res := [cR b6 (.cells [ptrV b5] 84 0), cR b5 (.cells (clC bt bm n c b2 n b3 b4) 122 0), cR b4 (.cells [iV (-1), iV (-1)] 3 0), cR b3 (.cells [iV (-1), iV 0] 3 0), cR b2 (.cells (rowsC n V) 126 0), cR b1 (.cells [tsV bt, msV bm n c] 39 0)]
abbrev fnC (b6 : Nat) : List Value := [.func (.func 39) #[] #[ptrV b6], .func (.func 42) #[] #[ptrV b6]]

section
variable {h : Hp} {bt bm n c r ca bb be k i q : Nat}

/-- A closed run. -/
def ClAt (h : Hp) (k bt bm n c : Nat) : Prop := ∃ r ca bb be m W, h.get k = some (.cells (clC bt bm n c r ca bb be) 122 0) ∧ h.get r = some (.cells (rowsC n W) 126 m) ∧ k < h.n ∧ r < h.n ∧ ∀ a i, i < 1216 → bitW (W a) i = laterB n a i
theorem ClAt.ext {h' : Hp} (x : ClAt h k bt bm n c) (g : Ext h h') : ClAt h' k bt bm n c := by
  obtain ⟨r, ca, bb, be, m, W, x1, x2, x3, x4, x5⟩ := x
  exact ⟨r, ca, bb, be, m, W, (g.get k x3).trans x1, (g.get r x4).trans x2, Nat.lt_of_lt_of_le x3 g.n, Nat.lt_of_lt_of_le x4 g.n, x5⟩

/-- closed -/
theorem c19 (R : RunAt h bt bm n) (h1 : 1 ≤ n) (hn : n ≤ 1200) : C modE 19 [runV bt bm n c] h fun v h' => ∃ k, v = ptrV k ∧ ClAt h' k bt bm n c ∧ Ext h h' := by
  obtain ⟨mt, g1⟩ := R.tsk
  obtain ⟨mm, rest, g2⟩ := R.mks
  obtain ⟨l1, l2⟩ := R.lt
  refine c_enter (fu := Try.f19) (by kernel_rfl) rfl ?_
  have S := SH.start h
  refine w_seq ?_
  refine w_region (by kernel_rfl) ?_
  refine s_box S gn rfl rfl fun b1 g nb1 S => ?_
  refine o_assign gn rfl rfl ?_
  refine wl_end ?_
  refine w_scope ?_
  refine w_seq ?_
  refine w_draw [(0, []), (1, []), (2, []), (3, []), (4, []), (5, []), (6, []), (7, []), (8, []), (9, []), (10, []), (11, []), (12, []), (13, []), (14, []), (15, []), (16, []), (17, []), (18, [])] (by kernel_rfl) (by kernel_rfl) (by kernel_rfl) (by kernel_rfl) ?_
  refine o_loadA (n := 2) gn rfl rfl (by kernel_rfl) (by kernel_rfl) (by first | exact S.cel 0 rfl | exact S.cel 1 rfl | exact S.cel 2 rfl | exact S.old0 g1 l1  | exact S.old0 g2 l2) (by first | decide | exact Nat.le_refl _ | (simp; done)) ?_
  refine o_fieldAddr (off := 1) gn rfl rfl (by kernel_rfl) ?_
  refine o_load gn rfl rfl (by kernel_rfl) (by first | exact S.cel 0 rfl | exact S.cel 1 rfl | exact S.cel 2 rfl | exact S.old0 g1 l1  | exact S.old0 g2 l2) rfl ?_
  refine o_len gn rfl rfl (by kernel_rfl) ?_
  refine s_makeSlice (e := 126) (z := 18) (zv := .agg #[.int .u64 0, .int .u64 0, .int .u64 0, .int .u64 0, .int .u64 0, .int .u64 0, .int .u64 0, .int .u64 0, .int .u64 0, .int .u64 0, .int .u64 0, .int .u64 0, .int .u64 0, .int .u64 0, .int .u64 0, .int .u64 0, .int .u64 0, .int .u64 0, .int .u64 0]) (by' := 152) S gn rfl rfl rfl (by kernel_rfl) (by kernel_rfl) (by kernel_rfl) (by kernel_rfl) (by decide) (by omega) (by omega) (by omega) (by omega) fun b2 g nb2 S => ?_
  have S : SH h [] [cR b2 (.cells (rowsC n (fun _ _ => 0#64)) 126 0), cR b1 (.cells [tsV bt, msV bm n c] 39 0)] g := by rw [← repeat_rows n]; exact S
  refine o_fieldAddr (off := 0) gn rfl rfl (by kernel_rfl) ?_
  refine o_load gn rfl rfl (by kernel_rfl) (by first | exact S.cel 0 rfl | exact S.cel 1 rfl | exact S.cel 2 rfl | exact S.cel 3 rfl | exact S.old0 g1 l1  | exact S.old0 g2 l2) rfl ?_
  refine o_len gn rfl rfl (by kernel_rfl) ?_
  refine o_add gn rfl rfl rfl (by omega) (by omega) ?_
  refine s_makeSlice (e := 3) (z := 0) (zv := .int .i64 0) (by' := 8) S gn rfl rfl rfl (by kernel_rfl) (by kernel_rfl) (by kernel_rfl) (by kernel_rfl) (by decide) (by omega) (by omega) (by omega) (by omega) fun b3 g nb3 S => ?_
  refine o_fieldAddr (off := 0) gn rfl rfl (by kernel_rfl) ?_
  refine o_load gn rfl rfl (by kernel_rfl) (by first | exact S.cel 0 rfl | exact S.cel 1 rfl | exact S.cel 2 rfl | exact S.cel 3 rfl | exact S.cel 4 rfl | exact S.old0 g1 l1  | exact S.old0 g2 l2) rfl ?_
  refine o_len gn rfl rfl (by kernel_rfl) ?_
  refine o_add gn rfl rfl rfl (by omega) (by omega) ?_
  refine s_makeSlice (e := 3) (z := 0) (zv := .int .i64 0) (by' := 8) S gn rfl rfl rfl (by kernel_rfl) (by kernel_rfl) (by kernel_rfl) (by kernel_rfl) (by decide) (by omega) (by omega) (by omega) (by omega) fun b4 g nb4 S => ?_
  refine o_build (cs := (clC bt bm n c b2 n b3 b4).toArray) (zv := .agg #[.slice none 0 0, .slice none 0 0, .slice none 0 0, .slice none 0 0, .slice none 0 0]) (pl := [(0, 2), (2, 1), (3, 1), (4, 1)]) [(0, _), (1, _), (2, _), (3, _)] gn rfl (by kernel_rfl) (by kernel_rfl) rfl (by first | kernel_rfl | rfl) ?_
  refine s_box S gn rfl rfl fun b5 g nb5 S => ?_
  refine s_alloc (zv := .pointer none) S gn rfl (by kernel_rfl) fun b6 g nb6 S => ?_
  first | refine s_store 0 S gn rfl rfl rfl (by kernel_rfl) rfl (by decide) (by first | decide | (simp; done) | (simp [fl]; omega)) (fun g S => ag0) fun g S => ?_ | refine s_store 1 S gn rfl rfl rfl (by kernel_rfl) rfl (by decide) (by first | decide | (simp; done) | (simp [fl]; omega)) (fun g S => ag0) fun g S => ?_ | refine s_store 2 S gn rfl rfl rfl (by kernel_rfl) rfl (by decide) (by first | decide | (simp; done) | (simp [fl]; omega)) (fun g S => ag0) fun g S => ?_ | refine s_store 3 S gn rfl rfl rfl (by kernel_rfl) rfl (by decide) (by first | decide | (simp; done) | (simp [fl]; omega)) (fun g S => ag0) fun g S => ?_ | refine s_store 4 S gn rfl rfl rfl (by kernel_rfl) rfl (by decide) (by first | decide | (simp; done) | (simp [fl]; omega)) (fun g S => ag0) fun g S => ?_ | refine s_store 5 S gn rfl rfl rfl (by kernel_rfl) rfl (by decide) (by first | decide | (simp; done) | (simp [fl]; omega)) (fun g S => ag0) fun g S => ?_ | refine s_store 6 S gn rfl rfl rfl (by kernel_rfl) rfl (by decide) (by first | decide | (simp; done) | (simp [fl]; omega)) (fun g S => ag0) fun g S => ?_ | refine s_store 7 S gn rfl rfl rfl (by kernel_rfl) rfl (by decide) (by first | decide | (simp; done) | (simp [fl]; omega)) (fun g S => ag0) fun g S => ?_
  refine wl_end ?_
  refine w_seq ?_
  refine w_seq ?_
  refine w_region (by kernel_rfl) ?_
  refine o_load gn rfl rfl (by kernel_rfl) (by first | exact S.cel 0 rfl | exact S.cel 1 rfl | exact S.cel 2 rfl | exact S.cel 3 rfl | exact S.cel 4 rfl | exact S.cel 5 rfl | exact S.cel 6 rfl | exact S.cel 7 rfl | exact S.old0 g1 l1  | exact S.old0 g2 l2) rfl ?_
  refine o_nilCheck gn rfl rfl ?_
  refine o_fieldAddr (off := 3) gn rfl rfl (by kernel_rfl) ?_
  refine o_load gn rfl rfl (by kernel_rfl) (by first | exact S.cel 0 rfl | exact S.cel 1 rfl | exact S.cel 2 rfl | exact S.cel 3 rfl | exact S.cel 4 rfl | exact S.cel 5 rfl | exact S.cel 6 rfl | exact S.cel 7 rfl | exact S.old0 g1 l1  | exact S.old0 g2 l2) rfl ?_
  refine o_len gn rfl rfl (by kernel_rfl) ?_
  refine o_move gn rfl rfl ?_
  refine wl_end ?_
  refine w_block ?_
  refine w_loopS [(35, _)] [(1, _), (3, _), (34, _)] (by repeat (first | exact trivial | refine ⟨rfl, ?_⟩)) (fun kk lv hh => ∃ j : Nat, lv = [(35, iV j)] ∧ kk = 2 - j ∧ j ≤ 2 ∧ SH h [] [cR b6 (.cells [ptrV b5] 84 0), cR b5 (.cells (clC bt bm n c b2 n b3 b4) 122 0), cR b4 (.cells (fl j) 3 0), cR b3 (.cells (fl j) 3 0), cR b2 (.cells (rowsC n (fun _ _ => 0#64)) 126 0), cR b1 (.cells [tsV bt, msV bm n c] 39 0)] hh) (n := 2) ?_ fun kk lv hh hI => ?_
  · exact ⟨0, rfl, rfl, by omega, S⟩
  · obtain ⟨j, rfl, hk, hj, S⟩ := hI
    refine w_seq ?_
    refine w_region (by kernel_rfl) ?_
    refine o_lss gn rfl rfl rfl ?_
    refine wl_end ?_
    refine w_seq ?_
    refine w_cond rfl (fun hb => ?_) fun hb => ?_
    · skip
      refine w_skip ?_
      have hj : j < 2 := by simp at hb; omega
      refine w_seq ?_
      refine w_block ?_
      refine w_seq ?_
      refine w_region (by kernel_rfl) ?_
      refine o_move gn rfl rfl ?_
      refine o_assign gn rfl rfl ?_
      refine wl_end ?_
      refine w_draw [(0, []), (1, []), (2, []), (3, []), (4, []), (5, []), (6, []), (7, []), (8, []), (9, []), (10, []), (11, []), (12, []), (13, [])] (by kernel_rfl) (by kernel_rfl) (by kernel_rfl) (by kernel_rfl) ?_
      refine o_load gn rfl rfl (by kernel_rfl) (by first | exact S.cel 0 rfl | exact S.cel 1 rfl | exact S.cel 2 rfl | exact S.cel 3 rfl | exact S.cel 4 rfl | exact S.cel 5 rfl | exact S.cel 6 rfl | exact S.cel 7 rfl | exact S.old0 g1 l1  | exact S.old0 g2 l2) rfl ?_
      refine o_nilCheck gn rfl rfl ?_
      refine o_fieldAddr (off := 3) gn rfl rfl (by kernel_rfl) ?_
      refine o_load gn rfl rfl (by kernel_rfl) (by first | exact S.cel 0 rfl | exact S.cel 1 rfl | exact S.cel 2 rfl | exact S.cel 3 rfl | exact S.cel 4 rfl | exact S.cel 5 rfl | exact S.cel 6 rfl | exact S.cel 7 rfl | exact S.old0 g1 l1  | exact S.old0 g2 l2) rfl ?_
      refine o_move gn rfl rfl ?_
      refine o_load gn rfl rfl (by kernel_rfl) (by first | exact S.cel 0 rfl | exact S.cel 1 rfl | exact S.cel 2 rfl | exact S.cel 3 rfl | exact S.cel 4 rfl | exact S.cel 5 rfl | exact S.cel 6 rfl | exact S.cel 7 rfl | exact S.old0 g1 l1  | exact S.old0 g2 l2) rfl ?_
      refine o_nilCheck gn rfl rfl ?_
      refine o_fieldAddr (off := 4) gn rfl rfl (by kernel_rfl) ?_
      refine o_load gn rfl rfl (by kernel_rfl) (by first | exact S.cel 0 rfl | exact S.cel 1 rfl | exact S.cel 2 rfl | exact S.cel 3 rfl | exact S.cel 4 rfl | exact S.cel 5 rfl | exact S.cel 6 rfl | exact S.cel 7 rfl | exact S.old0 g1 l1  | exact S.old0 g2 l2) rfl ?_
      refine o_move gn rfl rfl ?_
      refine o_indexAddr (zz := 1) gn rfl rfl rfl (by kernel_rfl) (by omega) (by omega) ?_
      first | refine s_store 0 S gn rfl rfl rfl (by kernel_rfl) rfl (by decide) (by first | decide | (simp; done) | (simp [fl]; omega)) (fun g S => ag0) fun g S => ?_ | refine s_store 1 S gn rfl rfl rfl (by kernel_rfl) rfl (by decide) (by first | decide | (simp; done) | (simp [fl]; omega)) (fun g S => ag0) fun g S => ?_ | refine s_store 2 S gn rfl rfl rfl (by kernel_rfl) rfl (by decide) (by first | decide | (simp; done) | (simp [fl]; omega)) (fun g S => ag0) fun g S => ?_ | refine s_store 3 S gn rfl rfl rfl (by kernel_rfl) rfl (by decide) (by first | decide | (simp; done) | (simp [fl]; omega)) (fun g S => ag0) fun g S => ?_ | refine s_store 4 S gn rfl rfl rfl (by kernel_rfl) rfl (by decide) (by first | decide | (simp; done) | (simp [fl]; omega)) (fun g S => ag0) fun g S => ?_ | refine s_store 5 S gn rfl rfl rfl (by kernel_rfl) rfl (by decide) (by first | decide | (simp; done) | (simp [fl]; omega)) (fun g S => ag0) fun g S => ?_ | refine s_store 6 S gn rfl rfl rfl (by kernel_rfl) rfl (by decide) (by first | decide | (simp; done) | (simp [fl]; omega)) (fun g S => ag0) fun g S => ?_ | refine s_store 7 S gn rfl rfl rfl (by kernel_rfl) rfl (by decide) (by first | decide | (simp; done) | (simp [fl]; omega)) (fun g S => ag0) fun g S => ?_
      refine o_indexAddr (zz := 1) gn rfl rfl rfl (by kernel_rfl) (by omega) (by omega) ?_
      first | refine s_store 0 S gn rfl rfl rfl (by kernel_rfl) rfl (by decide) (by first | decide | (simp; done) | (simp [fl]; omega)) (fun g S => ag0) fun g S => ?_ | refine s_store 1 S gn rfl rfl rfl (by kernel_rfl) rfl (by decide) (by first | decide | (simp; done) | (simp [fl]; omega)) (fun g S => ag0) fun g S => ?_ | refine s_store 2 S gn rfl rfl rfl (by kernel_rfl) rfl (by decide) (by first | decide | (simp; done) | (simp [fl]; omega)) (fun g S => ag0) fun g S => ?_ | refine s_store 3 S gn rfl rfl rfl (by kernel_rfl) rfl (by decide) (by first | decide | (simp; done) | (simp [fl]; omega)) (fun g S => ag0) fun g S => ?_ | refine s_store 4 S gn rfl rfl rfl (by kernel_rfl) rfl (by decide) (by first | decide | (simp; done) | (simp [fl]; omega)) (fun g S => ag0) fun g S => ?_ | refine s_store 5 S gn rfl rfl rfl (by kernel_rfl) rfl (by decide) (by first | decide | (simp; done) | (simp [fl]; omega)) (fun g S => ag0) fun g S => ?_ | refine s_store 6 S gn rfl rfl rfl (by kernel_rfl) rfl (by decide) (by first | decide | (simp; done) | (simp [fl]; omega)) (fun g S => ag0) fun g S => ?_ | refine s_store 7 S gn rfl rfl rfl (by kernel_rfl) rfl (by decide) (by first | decide | (simp; done) | (simp [fl]; omega)) (fun g S => ag0) fun g S => ?_
      refine wl_end ?_
      refine w_region (by kernel_rfl) ?_
      refine o_add gn rfl rfl rfl (by omega) (by omega) ?_
      refine o_move gn rfl rfl ?_
      refine wl_end ?_
      exact rndS (2 - (j + 1)) (by omega) [(35, _)] (by repeat (first | exact trivial | refine ⟨rfl, ?_⟩)) ⟨j + 1, rfl, rfl, by omega, by rw [fl_succ hj]; exact S⟩
    · skip
      refine w_exit ?_
      refine thn_exit ?_
      refine rnd_exit ?_
      refine blk_eq ?_
      refine w_seq ?_
      refine w_seq ?_
      have hj2 : j = 2 := by simp at hb; omega
      subst hj2
      refine w_region (by kernel_rfl) ?_
      refine o_fieldAddr (off := 1) gn rfl rfl (by kernel_rfl) ?_
      refine o_load gn rfl rfl (by kernel_rfl) (by first | exact S.cel 0 rfl | exact S.cel 1 rfl | exact S.cel 2 rfl | exact S.cel 3 rfl | exact S.cel 4 rfl | exact S.cel 5 rfl | exact S.cel 6 rfl | exact S.cel 7 rfl | exact S.old0 g1 l1  | exact S.old0 g2 l2) rfl ?_
      refine o_len gn rfl rfl (by kernel_rfl) ?_
      refine o_move gn rfl rfl ?_
      refine wl_end ?_
      refine w_block ?_
      refine w_loopS [(54, _)] [(1, _), (3, _), (52, _), (53, _)] (by repeat (first | exact trivial | refine ⟨rfl, ?_⟩)) (fun kk lv hh => ∃ j : Nat, lv = [(54, iV j)] ∧ kk = n - j ∧ j ≤ n ∧ SH h [] [cR b6 (.cells [ptrV b5] 84 0), cR b5 (.cells (clC bt bm n c b2 n b3 b4) 122 0), cR b4 (.cells [iV (-1), iV (-1)] 3 0), cR b3 (.cells [iV (-1), iV (bg j)] 3 0), cR b2 (.cells (rowsC n (fun _ _ => 0#64)) 126 0), cR b1 (.cells [tsV bt, msV bm n c] 39 0)] hh) (n := n) ?_ fun kk lv hh hI => ?_
      · exact ⟨0, rfl, rfl, by omega, S⟩
      · obtain ⟨j, rfl, hk, hj, S⟩ := hI
        refine w_seq ?_
        refine w_region (by kernel_rfl) ?_
        refine o_lss gn rfl rfl rfl ?_
        refine wl_end ?_
        refine w_seq ?_
        refine w_cond rfl (fun hb => ?_) fun hb => ?_
        · skip
          refine w_skip ?_
          have hj : j < n := by simpa using hb
          obtain ⟨kd, si, lo, wr, em, hkd⟩ := mkC_form j
          refine w_seq ?_
          refine w_block ?_
          refine w_seq ?_
          refine w_region (by kernel_rfl) ?_
          refine o_move gn rfl rfl ?_
          refine o_indexAddr (zz := 8) gn rfl rfl rfl (by kernel_rfl) (by omega) (by omega) ?_
          refine o_loadA (n := 8) gn rfl rfl (by kernel_rfl) (by kernel_rfl) (by first | exact S.cel 0 rfl | exact S.cel 1 rfl | exact S.cel 2 rfl | exact S.cel 3 rfl | exact S.cel 4 rfl | exact S.cel 5 rfl | exact S.cel 6 rfl | exact S.cel 7 rfl | exact S.old0 g1 l1  | exact S.old0 g2 l2) (by rw [List.length_append, marksC_len]; omega) ?_
          rw [marks_at hj rest em]
          refine s_alloc (zv := .agg #[.int .i64 0, .int .i64 0, .int .i64 0, .int .i64 0, .int .i64 0, .int .i64 0, .int .i64 0, .bool false]) S gn rfl (by kernel_rfl) fun b7 g nb7 S => ?_
          refine o_assign gn rfl rfl ?_
          first | refine s_storeA (n := 8) 0 S gn rfl rfl (by kernel_rfl) (by kernel_rfl) rfl rfl (by decide) rfl (fun g S => ag0) fun g S => ?_ | refine s_storeA (n := 8) 1 S gn rfl rfl (by kernel_rfl) (by kernel_rfl) rfl rfl (by decide) rfl (fun g S => ag0) fun g S => ?_ | refine s_storeA (n := 8) 2 S gn rfl rfl (by kernel_rfl) (by kernel_rfl) rfl rfl (by decide) rfl (fun g S => ag0) fun g S => ?_ | refine s_storeA (n := 8) 3 S gn rfl rfl (by kernel_rfl) (by kernel_rfl) rfl rfl (by decide) rfl (fun g S => ag0) fun g S => ?_ | refine s_storeA (n := 8) 4 S gn rfl rfl (by kernel_rfl) (by kernel_rfl) rfl rfl (by decide) rfl (fun g S => ag0) fun g S => ?_ | refine s_storeA (n := 8) 5 S gn rfl rfl (by kernel_rfl) (by kernel_rfl) rfl rfl (by decide) rfl (fun g S => ag0) fun g S => ?_ | refine s_storeA (n := 8) 6 S gn rfl rfl (by kernel_rfl) (by kernel_rfl) rfl rfl (by decide) rfl (fun g S => ag0) fun g S => ?_ | refine s_storeA (n := 8) 7 S gn rfl rfl (by kernel_rfl) (by kernel_rfl) rfl rfl (by decide) rfl (fun g S => ag0) fun g S => ?_ | refine s_storeA (n := 8) 8 S gn rfl rfl (by kernel_rfl) (by kernel_rfl) rfl rfl (by decide) rfl (fun g S => ag0) fun g S => ?_
          refine wl_end ?_
          refine w_seq ?_
          refine w_region (by kernel_rfl) ?_
          refine o_fieldAddr (off := 0) gn rfl rfl (by kernel_rfl) ?_
          refine o_load gn rfl rfl (by kernel_rfl) (by first | exact S.cel 0 rfl | exact S.cel 1 rfl | exact S.cel 2 rfl | exact S.cel 3 rfl | exact S.cel 4 rfl | exact S.cel 5 rfl | exact S.cel 6 rfl | exact S.cel 7 rfl | exact S.cel 8 rfl | exact S.old0 g1 l1  | exact S.old0 g2 l2) rfl ?_
          refine wl_end ?_
          refine w_block ?_
          refine w_seq ?_
          refine w_region (by kernel_rfl) ?_
          refine o_eqi gn rfl rfl rfl ?_
          refine o_assign gn rfl rfl ?_
          refine wl_end ?_
          refine w_cond rfl (fun hb => ?_) fun hb => ?_
          · skip
            have hj0 : j = 0 := by
              rcases Nat.eq_zero_or_pos j with e | e
              · exact e
              · rw [if_neg (by omega)] at hkd; subst hkd; simp at hb
            subst hj0
            refine w_draw [(0, []), (1, []), (2, []), (3, []), (4, []), (5, []), (6, []), (7, []), (8, [])] (by kernel_rfl) (by kernel_rfl) (by kernel_rfl) (by kernel_rfl) ?_
            refine o_load gn rfl rfl (by kernel_rfl) (by first | exact S.cel 0 rfl | exact S.cel 1 rfl | exact S.cel 2 rfl | exact S.cel 3 rfl | exact S.cel 4 rfl | exact S.cel 5 rfl | exact S.cel 6 rfl | exact S.cel 7 rfl | exact S.cel 8 rfl | exact S.old0 g1 l1  | exact S.old0 g2 l2) rfl ?_
            refine o_nilCheck gn rfl rfl ?_
            refine o_fieldAddr (off := 3) gn rfl rfl (by kernel_rfl) ?_
            refine o_load gn rfl rfl (by kernel_rfl) (by first | exact S.cel 0 rfl | exact S.cel 1 rfl | exact S.cel 2 rfl | exact S.cel 3 rfl | exact S.cel 4 rfl | exact S.cel 5 rfl | exact S.cel 6 rfl | exact S.cel 7 rfl | exact S.cel 8 rfl | exact S.old0 g1 l1  | exact S.old0 g2 l2) rfl ?_
            refine o_fieldAddr (off := 1) gn rfl rfl (by kernel_rfl) ?_
            refine o_load gn rfl rfl (by kernel_rfl) (by first | exact S.cel 0 rfl | exact S.cel 1 rfl | exact S.cel 2 rfl | exact S.cel 3 rfl | exact S.cel 4 rfl | exact S.cel 5 rfl | exact S.cel 6 rfl | exact S.cel 7 rfl | exact S.cel 8 rfl | exact S.old0 g1 l1  | exact S.old0 g2 l2) rfl ?_
            refine o_move gn rfl rfl ?_
            refine o_indexAddr (zz := 1) gn rfl rfl rfl (by kernel_rfl) (by omega) (by omega) ?_
            first | refine s_store 0 S gn rfl rfl rfl (by kernel_rfl) rfl (by decide) (by first | decide | (simp; done) | (simp [fl]; omega)) (fun g S => ag0) fun g S => ?_ | refine s_store 1 S gn rfl rfl rfl (by kernel_rfl) rfl (by decide) (by first | decide | (simp; done) | (simp [fl]; omega)) (fun g S => ag0) fun g S => ?_ | refine s_store 2 S gn rfl rfl rfl (by kernel_rfl) rfl (by decide) (by first | decide | (simp; done) | (simp [fl]; omega)) (fun g S => ag0) fun g S => ?_ | refine s_store 3 S gn rfl rfl rfl (by kernel_rfl) rfl (by decide) (by first | decide | (simp; done) | (simp [fl]; omega)) (fun g S => ag0) fun g S => ?_ | refine s_store 4 S gn rfl rfl rfl (by kernel_rfl) rfl (by decide) (by first | decide | (simp; done) | (simp [fl]; omega)) (fun g S => ag0) fun g S => ?_ | refine s_store 5 S gn rfl rfl rfl (by kernel_rfl) rfl (by decide) (by first | decide | (simp; done) | (simp [fl]; omega)) (fun g S => ag0) fun g S => ?_ | refine s_store 6 S gn rfl rfl rfl (by kernel_rfl) rfl (by decide) (by first | decide | (simp; done) | (simp [fl]; omega)) (fun g S => ag0) fun g S => ?_ | refine s_store 7 S gn rfl rfl rfl (by kernel_rfl) rfl (by decide) (by first | decide | (simp; done) | (simp [fl]; omega)) (fun g S => ag0) fun g S => ?_ | refine s_store 8 S gn rfl rfl rfl (by kernel_rfl) rfl (by decide) (by first | decide | (simp; done) | (simp [fl]; omega)) (fun g S => ag0) fun g S => ?_
            refine wl_end ?_
            refine w_region (by kernel_rfl) ?_
            refine o_add gn rfl rfl rfl (by omega) (by omega) ?_
            refine o_move gn rfl rfl ?_
            refine wl_end ?_
            exact rndS (n - (0 + 1)) (by omega) [(54, _)] (by repeat (first | exact trivial | refine ⟨rfl, ?_⟩)) ⟨1, rfl, rfl, by omega, S.drop⟩
          · skip
            refine w_seq ?_
            have hj0 : 0 < j := by
              rcases Nat.eq_zero_or_pos j with e | e
              · subst e; simp at hkd; subst hkd; exact absurd hb (by decide)
              · exact e
            refine w_region (by kernel_rfl) ?_
            refine o_eqi gn rfl rfl rfl ?_
            refine o_assign gn rfl rfl ?_
            refine wl_end ?_
            refine w_cond rfl (fun hb => ?_) fun hb => ?_
            · skip
              exact absurd hb (by rw [hkd]; split <;> decide)
            · skip
              refine w_skip ?_
              refine w_region (by kernel_rfl) ?_
              refine o_add gn rfl rfl rfl (by omega) (by omega) ?_
              refine o_move gn rfl rfl ?_
              refine wl_end ?_
              exact rndS (n - (j + 1)) (by omega) [(54, _)] (by repeat (first | exact trivial | refine ⟨rfl, ?_⟩)) ⟨j + 1, rfl, rfl, by omega, by rw [show bg (j + 1) = bg j from by simp [bg]; omega]; exact S.drop⟩
        · skip
          refine w_exit ?_
          refine thn_exit ?_
          refine rnd_exit ?_
          refine blk_eq ?_
          refine w_seq ?_
          have hbg : bg j = 0 := by rw [bg, if_neg (by simp at hb; omega)]
          rw [hbg] at S
          refine w_region (by kernel_rfl) ?_
          refine o_load gn rfl rfl (by kernel_rfl) (by first | exact S.cel 0 rfl | exact S.cel 1 rfl | exact S.cel 2 rfl | exact S.cel 3 rfl | exact S.cel 4 rfl | exact S.cel 5 rfl | exact S.cel 6 rfl | exact S.cel 7 rfl | exact S.old0 g1 l1  | exact S.old0 g2 l2) rfl ?_
          refine o_call [_] gn rfl rfl (by kernel_rfl) rfl (C.mono (c37 (R.ext S.e0) (S.cel 1 rfl) (S.cel 4 rfl) (by decide) (S.cel 3 rfl) (S.lt1 4 rfl) (S.lt1 3 rfl) (S.lt1 1 rfl) ⟨S.ne2 1 4 (by decide) rfl rfl, S.ne2 3 4 (by decide) rfl rfl, by omega, by omega⟩ hn bit_zero) ?_)
          rintro v g ⟨V, hg, x, hV⟩
          have S := S.chg 4 rfl x hg
          refine ⟨ag0, ?_⟩
          refine wl_end ?_
          refine w_seq ?_
          refine w_region (by kernel_rfl) ?_
          refine o_load gn rfl rfl (by kernel_rfl) (by first | exact S.cel 0 rfl | exact S.cel 1 rfl | exact S.cel 2 rfl | exact S.cel 3 rfl | exact S.cel 4 rfl | exact S.cel 5 rfl | exact S.cel 6 rfl | exact S.cel 7 rfl | exact S.old0 g1 l1  | exact S.old0 g2 l2) rfl ?_
          refine o_call [_] gn rfl rfl (by kernel_rfl) rfl (C.mono (c38 (S.cel 1 rfl) (S.cel 4 rfl) (by decide) (S.lt1 4 rfl) (S.lt1 1 rfl) (S.ne2 1 4 (by decide) rfl rfl) hn (fun a i _ => hV a i)) ?_)
          rintro v g ⟨V2, hg2, x, hV2⟩
          have S := S.chg 4 rfl x hg2
          refine ⟨ag0, ?_⟩
          refine wl_end ?_
          refine w_seq ?_
          refine w_region (by kernel_rfl) ?_
          refine o_makeFunc1 gn rfl rfl ?_
          refine o_makeFunc1 gn rfl rfl ?_
          refine s_buildSlice (e := 86) (z := 0) (zv := .nilFunc) [(0, _), (1, _)] S gn rfl (by kernel_rfl) (by kernel_rfl) (by kernel_rfl) (by kernel_rfl) rfl rfl fun b8 g nb8 S => ?_
          refine o_assign gn rfl rfl ?_
          refine wl_end ?_
          refine w_seq ?_
          refine w_label ?_
          refine w_seq ?_
          refine w_block ?_
          refine w_loopS [] [(1, _), (3, _), (7, _)] (by repeat (first | exact trivial | refine ⟨rfl, ?_⟩)) (fun kk lv hh => lv = [] ∧ SH h [] (cR b8 (.cells (fnC b6) 86 0) :: clP bt bm n c b1 b2 b3 b4 b5 b6 V2) hh) (n := 0) ?_ fun kk lv hh hI => ?_
          · exact ⟨rfl, S⟩
          · obtain ⟨rfl, S⟩ := hI
            refine w_block ?_
            refine w_seq ?_
            refine w_region (by kernel_rfl) ?_
            refine o_assign gn rfl rfl ?_
            refine wl_end ?_
            refine w_seq ?_
            refine w_seq ?_
            refine w_region (by kernel_rfl) ?_
            refine o_assign gn rfl rfl ?_
            refine wl_end ?_
            refine w_block ?_
            refine w_loopS [(8, _), (9, _)] [(1, _), (3, _), (7, _)] (by repeat (first | exact trivial | refine ⟨rfl, ?_⟩)) (fun kk lv hh => ∃ a : Nat, lv = [(8, .bool false), (9, iV a)] ∧ kk = 2 - a ∧ 1 ≤ a ∧ a ≤ 2 ∧ SH h [] (cR b8 (.cells (fnC b6) 86 0) :: clP bt bm n c b1 b2 b3 b4 b5 b6 V2) hh) (n := 1) ?_ fun kk lv hh hI => ?_
            · exact ⟨1, rfl, rfl, by omega, by omega, S⟩
            · obtain ⟨a, rfl, hk, ha, ha2, S⟩ := hI
              refine w_seq ?_
              refine w_seq ?_
              refine w_region (by kernel_rfl) ?_
              refine o_move gn rfl rfl ?_
              refine o_fieldAddr (off := 0) gn rfl rfl (by kernel_rfl) ?_
              refine o_load gn rfl rfl (by kernel_rfl) (by first | exact S.cel 0 rfl | exact S.cel 1 rfl | exact S.cel 2 rfl | exact S.cel 3 rfl | exact S.cel 4 rfl | exact S.cel 5 rfl | exact S.cel 6 rfl | exact S.cel 7 rfl | exact S.cel 8 rfl | exact S.old0 g1 l1  | exact S.old0 g2 l2) rfl ?_
              refine o_len gn rfl rfl (by kernel_rfl) ?_
              refine o_leq gn rfl rfl rfl ?_
              refine wl_end ?_
              refine w_cond rfl (fun hb => ?_) fun hb => ?_
              · skip
                refine w_skip ?_
                have ha1 : a = 1 := by simp at hb; omega
                subst ha1
                refine w_seq ?_
                refine w_block ?_
                refine w_seq ?_
                refine w_region (by kernel_rfl) ?_
                refine o_assign gn rfl rfl ?_
                refine wl_end ?_
                refine w_block ?_
                refine w_loopS [(8, _), (10, _)] [(1, _), (3, _), (7, _), (9, _)] (by repeat (first | exact trivial | refine ⟨rfl, ?_⟩)) (fun kk lv hh => ∃ b : Nat, lv = [(8, .bool false), (10, iV b)] ∧ kk = 2 - b ∧ 1 ≤ b ∧ b ≤ 2 ∧ SH h [] (cR b8 (.cells (fnC b6) 86 0) :: clP bt bm n c b1 b2 b3 b4 b5 b6 V2) hh) (n := 1) ?_ fun kk lv hh hI => ?_
                · exact ⟨1, rfl, rfl, by omega, by omega, S⟩
                · obtain ⟨b, rfl, hk, hbb, hb2, S⟩ := hI
                  refine w_seq ?_
                  refine w_seq ?_
                  refine w_region (by kernel_rfl) ?_
                  refine o_move gn rfl rfl ?_
                  refine o_fieldAddr (off := 0) gn rfl rfl (by kernel_rfl) ?_
                  refine o_load gn rfl rfl (by kernel_rfl) (by first | exact S.cel 0 rfl | exact S.cel 1 rfl | exact S.cel 2 rfl | exact S.cel 3 rfl | exact S.cel 4 rfl | exact S.cel 5 rfl | exact S.cel 6 rfl | exact S.cel 7 rfl | exact S.cel 8 rfl | exact S.old0 g1 l1  | exact S.old0 g2 l2) rfl ?_
                  refine o_len gn rfl rfl (by kernel_rfl) ?_
                  refine o_leq gn rfl rfl rfl ?_
                  refine wl_end ?_
                  refine w_cond rfl (fun hb => ?_) fun hb => ?_
                  · skip
                    refine w_skip ?_
                    have hb1 : b = 1 := by simp at hb; omega
                    subst hb1
                    refine w_seq ?_
                    refine w_block ?_
                    refine w_seq ?_
                    refine w_region (by kernel_rfl) ?_
                    refine o_move gn rfl rfl ?_
                    refine o_len gn rfl rfl (by kernel_rfl) ?_
                    refine o_move gn rfl rfl ?_
                    refine wl_end ?_
                    refine w_block ?_
                    refine w_loopS [(8, _), (105, _)] [(1, _), (3, _), (7, _), (9, _), (10, _), (103, _), (104, _)] (by repeat (first | exact trivial | refine ⟨rfl, ?_⟩)) (fun kk lv hh => ∃ i : Nat, lv = [(8, .bool false), (105, iV i)] ∧ kk = 2 - i ∧ i ≤ 2 ∧ SH h [] (cR b8 (.cells (fnC b6) 86 0) :: clP bt bm n c b1 b2 b3 b4 b5 b6 V2) hh) (n := 2) ?_ fun kk lv hh hI => ?_
                    · exact ⟨0, rfl, rfl, by omega, S⟩
                    · obtain ⟨i, rfl, hk, hi, S⟩ := hI
                      refine w_seq ?_
                      refine w_region (by kernel_rfl) ?_
                      refine o_lss gn rfl rfl rfl ?_
                      refine wl_end ?_
                      refine w_seq ?_
                      refine w_cond rfl (fun hb => ?_) fun hb => ?_
                      · skip
                        refine w_skip ?_
                        have hi : i < 2 := by simp at hb; omega
                        obtain ⟨f, hf1, hf2, hfc⟩ : ∃ f, (fnC b6)[i]? = some (.func (.func f) #[] #[ptrV b6]) ∧ callOk modE f = true ∧ ∀ g, SH h [] (cR b8 (.cells (fnC b6) 86 0) :: clP bt bm n c b1 b2 b3 b4 b5 b6 V2) g → C modE f [iV 1, iV 1, ptrV b6] g fun v g' => v = .bool false ∧ Ext g g' := by
                          rcases i with _ | _ | i
                          · exact ⟨39, rfl, by kernel_rfl, fun g S => c39 (R.ext S.e0) (S.cel 2 rfl) (S.lt1 2 rfl) (S.cel 1 rfl)⟩
                          · exact ⟨42, rfl, by kernel_rfl, fun g S => c42 (R.ext S.e0) (S.cel 2 rfl) (S.lt1 2 rfl) (S.cel 1 rfl)⟩
                          · omega
                        refine w_seq ?_
                        refine w_block ?_
                        refine w_seq ?_
                        refine w_region (by kernel_rfl) ?_
                        refine o_indexAddr (zz := 1) gn rfl rfl rfl (by kernel_rfl) (by omega) (by omega) ?_
                        refine o_load gn rfl rfl (by kernel_rfl) (S.cel 0 rfl) (by rw [Int.toNat_natCast, Nat.mul_one, Nat.zero_add]; exact hf1) ?_
                        refine o_assign gn rfl rfl ?_
                        refine wl_end ?_
                        refine w_seq ?_
                        refine w_draw [(0, []), (1, []), (2, []), (3, []), (4, []), (5, []), (6, []), (7, []), (8, []), (9, []), (10, []), (11, []), (12, []), (13, []), (14, []), (15, []), (16, []), (17, []), (18, []), (19, []), (20, []), (21, [])] (by kernel_rfl) (by kernel_rfl) (by kernel_rfl) (by kernel_rfl) ?_
                        refine o_move gn rfl rfl ?_
                        refine o_move gn rfl rfl ?_
                        refine o_move gn rfl rfl ?_
                        refine o_call [_, _] gn rfl rfl hf2 rfl (C.mono (hfc _ S) ?_)
                        rintro v g ⟨rfl, x⟩
                        have S := S.grow x
                        refine ⟨ag0, ?_⟩
                        refine o_move gn rfl rfl ?_
                        refine wl_split (dc := 113) rfl (fun hb113 => ?_) fun hb113 => ?_
                        · skip
                          exact absurd hb113 (by decide)
                        · skip
                          refine wl_skips (n := 16) (dc := 113) (w := true) rfl hb113 rfl ?_
                          refine o_pickf gn rfl rfl hb113 rfl ?_
                          refine wl_end ?_
                          refine w_cond rfl (fun hb => ?_) fun hb => ?_
                          · skip
                            exact absurd hb (by decide)
                          · skip
                            refine w_skip ?_
                            refine w_region (by kernel_rfl) ?_
                            refine o_add gn rfl rfl rfl (by omega) (by omega) ?_
                            refine o_move gn rfl rfl ?_
                            refine wl_end ?_
                            exact rndS (2 - (i + 1)) (by omega) [(8, _), (105, _)] (by repeat (first | exact trivial | refine ⟨rfl, ?_⟩)) ⟨i + 1, rfl, rfl, by omega, S⟩
                      · skip
                        refine w_exit ?_
                        refine thn_exit ?_
                        refine rnd_exit ?_
                        refine blk_eq ?_
                        refine w_region (by kernel_rfl) ?_
                        refine o_move gn rfl rfl ?_
                        refine o_add gn rfl rfl rfl (by omega) (by omega) ?_
                        refine o_assign gn rfl rfl ?_
                        refine wl_end ?_
                        exact rndS 0 (by omega) [(8, _), (10, _)] (by repeat (first | exact trivial | refine ⟨rfl, ?_⟩)) ⟨2, rfl, rfl, by omega, by omega, S⟩
                  · skip
                    refine w_exit ?_
                    refine thn_exit ?_
                    refine rnd_exit ?_
                    refine blk_eq ?_
                    refine w_region (by kernel_rfl) ?_
                    refine o_move gn rfl rfl ?_
                    refine o_add gn rfl rfl rfl (by omega) (by omega) ?_
                    refine o_assign gn rfl rfl ?_
                    refine wl_end ?_
                    exact rndS 0 (by omega) [(8, _), (9, _)] (by repeat (first | exact trivial | refine ⟨rfl, ?_⟩)) ⟨2, rfl, rfl, by omega, by omega, S⟩
              · skip
                refine w_exit ?_
                refine thn_exit ?_
                refine rnd_exit ?_
                refine blk_eq ?_
                refine w_seq ?_
                refine w_seq ?_
                refine w_region (by kernel_rfl) ?_
                refine o_move gn rfl rfl ?_
                refine o_not gn rfl rfl ?_
                refine wl_end ?_
                refine w_cond rfl (fun hb => ?_) fun hb => ?_
                · skip
                  refine w_exit ?_
                  refine thn_exit ?_
                  refine blk_ne (by decide) ?_
                  refine rnd_exit ?_
                  refine blk_eq ?_
                  refine w_seq ?_
                  refine w_region (by kernel_rfl) ?_
                  refine o_load gn rfl rfl (by kernel_rfl) (by first | exact S.cel 0 rfl | exact S.cel 1 rfl | exact S.cel 2 rfl | exact S.cel 3 rfl | exact S.cel 4 rfl | exact S.cel 5 rfl | exact S.cel 6 rfl | exact S.cel 7 rfl | exact S.cel 8 rfl | exact S.old0 g1 l1  | exact S.old0 g2 l2) rfl ?_
                  refine o_assign gn rfl rfl ?_
                  refine wl_end ?_
                  refine w_ret ?_
                  refine ⟨.inl rfl, _, rfl, ?_⟩
                  exact ⟨b5, rfl, ⟨b2, n, b3, b4, 0, V2, S.cel 2 rfl, S.cel 5 rfl, S.lt1 2 rfl, S.lt1 5 rfl, hV2⟩, S.e0⟩
                · skip
                  refine w_skip ?_
                  exact absurd hb (by decide)

end
end Go.Proofs.Yteinandjhpnceaa


namespace Go.Proofs.Yteinandjhpnceaa
open Go.X Go.Model

theorem el37 : ElN modE 37 36 7 63 := ⟨by kernel_rfl, by kernel_rfl, by kernel_rfl, .agg #[.int .i64 0, .int .i64 0, .int .i64 0, .int .i64 0, .int .i64 0, .int .i64 0, .int .i64 0, .bool false], by kernel_rfl, rfl⟩
theorem mkC_cell (j : Nat) : (mkC j).all cellV = true := by cases j <;> rfl

section
variable {h : Hp} {bt bm n c k q : Nat}

/-- First -/
theorem c7 (R : RunAt h bt bm (q + 1)) (hn : q + 1 ≤ 2000) : C modE 7 [runV bt bm (q + 1) c, iV 0, iV q] h fun v h' => v = .tuple #[.bool (if q + 1 ≤ 1200 then decide (0 < q) else false), iV (if q + 1 ≤ 1200 then 0 else 9)] ∧ Ext h h' := by
  refine c_enter (fu := Try.f7) (by kernel_rfl) rfl ?_
  have S := SH.start h
  refine w_seq ?_
  refine w_region (by kernel_rfl) ?_
  refine s_box S gn rfl rfl fun b1 g nb1 S => ?_
  refine o_assign gn rfl rfl ?_
  refine o_assign gn rfl rfl ?_
  refine wl_end ?_
  refine w_seq ?_
  refine w_seq ?_
  refine w_region (by kernel_rfl) ?_
  refine o_loadA (n := 2) gn rfl rfl (by kernel_rfl) (by kernel_rfl) (by first | exact S.cel 0 rfl | exact S.cel 1 rfl | exact S.cel 2 rfl) (by first | decide | exact Nat.le_refl _ | (simp; done)) ?_
  refine o_call [_] gn rfl rfl (by kernel_rfl) rfl (C.mono (c18 (R.ext S.e0) (by omega) hn) ?_)
  rintro v g ⟨rfl, x⟩
  have S := S.grow x
  refine ⟨ag0, ?_⟩
  refine o_assign gn rfl rfl ?_
  refine wl_end ?_
  refine w_block ?_
  refine w_seq ?_
  refine w_region (by kernel_rfl) ?_
  refine o_move gn rfl rfl ?_
  refine o_eqi gn rfl rfl rfl ?_
  refine o_move gn rfl rfl ?_
  refine o_or (n := 2) rfl rfl rfl gn rfl (fun hb => by
      refine o_move (gy rfl rfl rfl hb) rfl rfl ?_
      refine o_lss (gy rfl rfl rfl hb) rfl rfl rfl ?_
      exact wl_end ⟨rfl, rfl, 2, rfl, rfl⟩) ?_
  refine o_move gn rfl rfl ?_
  refine o_or (n := 2) rfl rfl rfl gn rfl (fun hb => by
      refine o_move (gy rfl rfl rfl hb) rfl rfl ?_
      refine o_lss (gy rfl rfl rfl hb) rfl rfl rfl ?_
      exact wl_end ⟨rfl, rfl, 2, rfl, rfl⟩) ?_
  refine o_move gn rfl rfl ?_
  refine o_or (n := 5) rfl rfl rfl gn rfl (fun hb => by
      refine o_move (gy rfl rfl rfl hb) rfl rfl ?_
      refine o_fieldAddr (off := 1) (gy rfl rfl rfl hb) rfl rfl (by kernel_rfl) ?_
      refine o_load (gy rfl rfl rfl hb) rfl rfl (by kernel_rfl) (by first | exact S.cel 0 rfl | exact S.cel 1 rfl | exact S.cel 2 rfl) rfl ?_
      refine o_len (gy rfl rfl rfl hb) rfl rfl (by kernel_rfl) ?_
      refine o_geq (gy rfl rfl rfl hb) rfl rfl rfl ?_
      exact wl_end ⟨rfl, rfl, 5, rfl, rfl⟩) ?_
  refine o_move gn rfl rfl ?_
  refine o_or (n := 5) rfl rfl rfl gn rfl (fun hb => by
      refine o_move (gy rfl rfl rfl hb) rfl rfl ?_
      refine o_fieldAddr (off := 1) (gy rfl rfl rfl hb) rfl rfl (by kernel_rfl) ?_
      refine o_load (gy rfl rfl rfl hb) rfl rfl (by kernel_rfl) (by first | exact S.cel 0 rfl | exact S.cel 1 rfl | exact S.cel 2 rfl) rfl ?_
      refine o_len (gy rfl rfl rfl hb) rfl rfl (by kernel_rfl) ?_
      refine o_geq (gy rfl rfl rfl hb) rfl rfl rfl ?_
      exact wl_end ⟨rfl, rfl, 5, rfl, rfl⟩) ?_
  refine o_assign gn rfl rfl ?_
  refine wl_end ?_
  refine w_cond rfl (fun hb => ?_) fun hb => ?_
  · skip
    refine w_seq ?_
    exact absurd hb (by simp; split <;> simp <;> omega)
  · skip
    refine w_seq ?_
    refine w_region (by kernel_rfl) ?_
    refine o_move gn rfl rfl ?_
    refine o_nei gn rfl rfl rfl ?_
    refine o_assign gn rfl rfl ?_
    refine wl_end ?_
    refine w_cond rfl (fun hb => ?_) fun hb => ?_
    · skip
      refine w_seq ?_
      have hle : ¬ q + 1 ≤ 1200 := fun e => by simp [e] at hb
      rw [if_neg hle]
      refine w_region (by kernel_rfl) ?_
      refine o_move gn rfl rfl ?_
      refine o_assign gn rfl rfl ?_
      refine o_assign gn rfl rfl ?_
      refine wl_end ?_
      refine w_ret ?_
      refine ⟨.inl rfl, _, rfl, ?_⟩
      exact ⟨by rw [if_neg hle]; rfl, S.e0⟩
    · skip
      refine w_skip ?_
      have hle : q + 1 ≤ 1200 := by
        rcases Nat.lt_or_ge 1200 (q + 1) with e | e
        · rw [if_neg (by omega)] at hb; simp at hb
        · exact e
      refine w_seq ?_
      refine w_region (by kernel_rfl) ?_
      refine o_loadA (n := 2) gn rfl rfl (by kernel_rfl) (by kernel_rfl) (by first | exact S.cel 0 rfl | exact S.cel 1 rfl | exact S.cel 2 rfl) (by first | decide | exact Nat.le_refl _ | (simp; done)) ?_
      refine o_call [_] gn rfl rfl (by kernel_rfl) rfl (C.mono (c19 (R.ext S.e0) (by omega) hle) ?_)
      rintro v g ⟨k, rfl, xc, x⟩
      obtain ⟨r, ca, bb, be, m, W, x1, x2, x3, x4, x5⟩ := xc
      have S := S.grow x
      refine ⟨ag0, ?_⟩
      refine o_move gn rfl rfl ?_
      refine o_move gn rfl rfl ?_
      refine o_call [_, _, _] gn rfl rfl (by kernel_rfl) rfl (c_pure (c20 (a := 0) x2 x1 (by omega) (by omega) (by omega)) ⟨ag0, ?_⟩)
      refine o_assign gn rfl rfl ?_
      refine o_assign gn rfl rfl ?_
      refine wl_end ?_
      refine w_ret ?_
      refine ⟨.inl rfl, _, rfl, ?_⟩
      exact ⟨by rw [if_pos hle, if_pos hle, x5 0 q (by omega)]; simp [oneOf, laterB], S.e0⟩

/-- Races -/
theorem c8 (R : RunAt h bt bm n) (h1 : 1 ≤ n) (hn : n ≤ 2000) : C modE 8 [runV bt bm n c] h fun v h' => v = .tuple #[.slice none 0 0, iV (if n ≤ 1200 then 0 else 9)] ∧ Ext h h' := by
  refine c_enter (fu := Try.f8) (by kernel_rfl) rfl ?_
  have S := SH.start h
  refine w_seq ?_
  refine w_region (by kernel_rfl) ?_
  refine s_box S gn rfl rfl fun b1 g nb1 S => ?_
  refine o_assign gn rfl rfl ?_
  refine o_assign gn rfl rfl ?_
  refine wl_end ?_
  refine w_seq ?_
  refine w_seq ?_
  refine w_region (by kernel_rfl) ?_
  refine o_loadA (n := 2) gn rfl rfl (by kernel_rfl) (by kernel_rfl) (by first | exact S.cel 0 rfl | exact S.cel 1 rfl | exact S.cel 2 rfl) (by first | decide | exact Nat.le_refl _ | (simp; done)) ?_
  refine o_call [_] gn rfl rfl (by kernel_rfl) rfl (C.mono (c18 (R.ext S.e0) h1 hn) ?_)
  rintro v g ⟨rfl, x⟩
  have S := S.grow x
  refine ⟨ag0, ?_⟩
  refine o_assign gn rfl rfl ?_
  refine wl_end ?_
  refine w_seq ?_
  refine w_region (by kernel_rfl) ?_
  refine o_move gn rfl rfl ?_
  refine o_nei gn rfl rfl rfl ?_
  refine wl_end ?_
  refine w_cond rfl (fun hb => ?_) fun hb => ?_
  · skip
    refine w_seq ?_
    have hle : ¬ n ≤ 1200 := fun e => by simp [e] at hb
    rw [if_neg hle]
    refine w_region (by kernel_rfl) ?_
    refine o_move gn rfl rfl ?_
    refine o_assign gn rfl rfl ?_
    refine o_assign gn rfl rfl ?_
    refine wl_end ?_
    refine w_ret ?_
    refine ⟨.inl rfl, _, rfl, ?_⟩
    exact ⟨rfl, S.e0⟩
  · skip
    refine w_skip ?_
    have hle : n ≤ 1200 := by
      rcases Nat.lt_or_ge 1200 n with e | e
      · rw [if_neg (by omega)] at hb; simp at hb
      · exact e
    refine w_seq ?_
    refine w_region (by kernel_rfl) ?_
    refine o_loadA (n := 2) gn rfl rfl (by kernel_rfl) (by kernel_rfl) (by first | exact S.cel 0 rfl | exact S.cel 1 rfl | exact S.cel 2 rfl) (by first | decide | exact Nat.le_refl _ | (simp; done)) ?_
    refine o_call [_] gn rfl rfl (by kernel_rfl) rfl (C.mono (c19 (R.ext S.e0) h1 hle) ?_)
    rintro v g ⟨k, rfl, xc, x⟩
    have S := S.grow x
    refine ⟨ag0, ?_⟩
    refine o_assign gn rfl rfl ?_
    refine wl_end ?_
    refine w_seq ?_
    refine w_region (by kernel_rfl) ?_
    refine o_assign gn rfl rfl ?_
    refine wl_end ?_
    refine w_seq ?_
    refine w_seq ?_
    refine w_region (by kernel_rfl) ?_
    refine o_loadA (n := 2) gn rfl rfl (by kernel_rfl) (by kernel_rfl) (by first | exact S.cel 0 rfl | exact S.cel 1 rfl | exact S.cel 2 rfl) (by first | decide | exact Nat.le_refl _ | (simp; done)) ?_
    refine o_call [_] gn rfl rfl (by kernel_rfl) rfl (C.mono (c21 (R.ext S.e0) hle) ?_)
    rintro v g ⟨rfl, x⟩
    have S := S.grow x
    refine ⟨ag0, ?_⟩
    refine o_len gn rfl rfl (by kernel_rfl) ?_
    refine o_move gn rfl rfl ?_
    refine wl_end ?_
    refine w_block ?_
    refine w_loopS [(6, _), (19, _)] [(5, _), (17, _), (18, _)] (by repeat (first | exact trivial | refine ⟨rfl, ?_⟩)) (fun kk lv hh => lv = [(6, .slice none 0 0), (19, iV 0)] ∧ SH h [] [cR b1 (.cells [tsV bt, msV bm n c] 39 0)] hh) (n := 0) ?_ fun kk lv hh hI => ?_
    · exact ⟨rfl, S⟩
    · obtain ⟨rfl, S⟩ := hI
      refine w_seq ?_
      refine w_region (by kernel_rfl) ?_
      refine o_lss gn rfl rfl rfl ?_
      refine wl_end ?_
      refine w_seq ?_
      refine w_cond rfl (fun hb => ?_) fun hb => ?_
      · skip
        exact absurd hb (by decide)
      · skip
        refine w_exit ?_
        refine thn_exit ?_
        refine rnd_exit ?_
        refine blk_eq ?_
        refine w_seq ?_
        refine w_region (by kernel_rfl) ?_
        refine o_move gn rfl rfl ?_
        refine o_assign gn rfl rfl ?_
        refine o_assign gn rfl rfl ?_
        refine wl_end ?_
        refine w_ret ?_
        refine ⟨.inl rfl, _, rfl, ?_⟩
        exact ⟨by rw [if_pos hle]; rfl, S.e0⟩

/-- ModelMany -/
theorem c3 {many : Int} : C modE 3 [iV many] h fun v _ => v = .bool true := by
  refine c_enter (fu := Try.f3) (by kernel_rfl) rfl ?_
  have S := SH.start h
  refine w_seq ?_
  refine w_region (by kernel_rfl) ?_
  refine o_assign gn rfl rfl ?_
  refine wl_end ?_
  refine w_seq ?_
  refine w_seq ?_
  refine w_region (by kernel_rfl) ?_
  refine o_move gn rfl rfl ?_
  refine o_lss gn rfl rfl rfl ?_
  refine o_move gn rfl rfl ?_
  refine o_or (n := 2) rfl rfl rfl gn rfl (fun hb => by
      refine o_move (gy rfl rfl rfl hb) rfl rfl ?_
      refine o_gtr (gy rfl rfl rfl hb) rfl rfl rfl ?_
      exact wl_end ⟨rfl, rfl, 2, rfl, rfl⟩) ?_
  refine wl_end ?_
  refine w_cond rfl (fun hb => ?_) fun hb => ?_
  · skip
    refine w_seq ?_
    refine w_region (by kernel_rfl) ?_
    refine o_orc (f := 6) (v := .bool true) gn rfl (by kernel_rfl) (by kernel_rfl) ag0 ?_
    refine o_assign gn rfl rfl ?_
    refine wl_end ?_
    refine w_ret ?_
    refine ⟨.inl rfl, _, rfl, ?_⟩
    rfl
  · skip
    refine w_skip ?_
    refine w_seq ?_
    refine w_region (by kernel_rfl) ?_
    refine o_build (cs := tkC.toArray) (zv := .agg #[.int .i64 0, .int .i64 0, .int .i64 0, .int .i64 0, .int .i64 0, .int .i64 0, .int .i64 0, .bool false, .int .i64 0, .int .i64 0, .int .i64 0, .int .i64 0, .int .i64 0, .int .i64 0, .int .i64 0]) (pl := [(0, 1), (1, 1), (2, 1), (3, 1), (4, 1), (5, 1), (6, 1), (7, 1), (8, 1), (9, 1), (10, 1), (11, 1), (12, 1), (13, 1), (14, 1)]) [(0, _), (13, _)] gn rfl (by kernel_rfl) (by kernel_rfl) rfl (by kernel_rfl) ?_
    refine s_buildSlice (e := 27) (z := 14) (zv := .agg #[.int .i64 0, .int .i64 0, .int .i64 0, .int .i64 0, .int .i64 0, .int .i64 0, .int .i64 0, .bool false, .int .i64 0, .int .i64 0, .int .i64 0, .int .i64 0, .int .i64 0, .int .i64 0, .int .i64 0]) [(0, _)] S gn rfl (by kernel_rfl) (by kernel_rfl) (by kernel_rfl) (by kernel_rfl) rfl (by rfl) fun b1 g nb1 S => ?_
    refine o_build (cs := (mkC 0).toArray) (zv := .agg #[.int .i64 0, .int .i64 0, .int .i64 0, .int .i64 0, .int .i64 0, .int .i64 0, .int .i64 0, .bool false]) (pl := [(0, 1), (1, 1), (2, 1), (3, 5)]) [(0, _), (1, _)] gn rfl (by kernel_rfl) (by kernel_rfl) rfl (by kernel_rfl) ?_
    refine s_buildSlice (e := 36) (z := 7) (zv := .agg #[.int .i64 0, .int .i64 0, .int .i64 0, .int .i64 0, .int .i64 0, .int .i64 0, .int .i64 0, .bool false]) [(0, _)] S gn rfl (by kernel_rfl) (by kernel_rfl) (by kernel_rfl) (by kernel_rfl) rfl (by rfl) fun b2 g nb2 S => ?_
    refine o_build (cs := #[tsV b1, msV b2 1 1]) (zv := .agg #[.slice none 0 0, .slice none 0 0]) (pl := [(0, 1), (1, 1)]) [(0, _), (1, _)] gn rfl (by kernel_rfl) (by kernel_rfl) rfl (by kernel_rfl) ?_
    refine s_alloc (zv := .agg #[.slice none 0 0, .slice none 0 0]) S gn rfl (by kernel_rfl) fun b3 g nb3 S => ?_
    first | refine s_storeA (n := 2) 0 S gn rfl rfl (by kernel_rfl) (by kernel_rfl) rfl rfl (by decide) rfl (fun g S => ag0) fun g S => ?_ | refine s_storeA (n := 2) 1 S gn rfl rfl (by kernel_rfl) (by kernel_rfl) rfl rfl (by decide) rfl (fun g S => ag0) fun g S => ?_ | refine s_storeA (n := 2) 2 S gn rfl rfl (by kernel_rfl) (by kernel_rfl) rfl rfl (by decide) rfl (fun g S => ag0) fun g S => ?_ | refine s_storeA (n := 2) 3 S gn rfl rfl (by kernel_rfl) (by kernel_rfl) rfl rfl (by decide) rfl (fun g S => ag0) fun g S => ?_ | refine s_storeA (n := 2) 4 S gn rfl rfl (by kernel_rfl) (by kernel_rfl) rfl rfl (by decide) rfl (fun g S => ag0) fun g S => ?_
    refine wl_end ?_
    refine w_seq ?_
    refine w_seq ?_
    refine w_region (by kernel_rfl) ?_
    refine o_assign gn rfl rfl ?_
    refine wl_end ?_
    have hr : 0 ≤ many ∧ many ≤ 1205 := by simp at hb; omega
    refine w_block ?_
    refine w_loopS [(4, _)] [(0, _), (3, _)] (by repeat (first | exact trivial | refine ⟨rfl, ?_⟩)) (fun kk lv hh => ∃ (i : Nat) (s : Value) (bs : List Nat), lv = [(4, iV i)] ∧ kk = (many - (i : Nat)).toNat ∧ (i : Int) ≤ many ∧ SH h [] [cR b3 (.cells [tsV b1, s] 39 0), slR 36 7 s (marksC (i + 1)) (i + 1) bs, cR b1 (.cells tkC 27 0)] hh) (n := (many - (0 : Nat)).toNat) ?_ fun kk lv hh hI => ?_
    · exact ⟨0, msV b2 1 1, [b2], rfl, rfl, by omega, S.toSl 1 rfl (.inl rfl) rfl⟩
    · obtain ⟨i, s, bs, rfl, hk, hi, S⟩ := hI
      refine w_seq ?_
      refine w_seq ?_
      refine w_region (by kernel_rfl) ?_
      refine o_move gn rfl rfl ?_
      refine o_move gn rfl rfl ?_
      refine o_lss gn rfl rfl rfl ?_
      refine wl_end ?_
      refine w_cond rfl (fun hb => ?_) fun hb => ?_
      · skip
        refine w_skip ?_
        have hi : (i : Int) < many := by simpa using hb
        refine w_seq ?_
        refine w_block ?_
        refine w_region (by kernel_rfl) ?_
        refine o_fieldAddr (off := 1) gn rfl rfl (by kernel_rfl) ?_
        refine o_load gn rfl rfl (by kernel_rfl) (by first | exact S.cel 0 rfl | exact S.cel 1 rfl | exact S.cel 2 rfl | exact S.cel 3 rfl | exact S.cel 4 rfl) rfl ?_
        refine o_move gn rfl rfl ?_
        refine o_build (cs := #[iV 7, iV 0, iV 0]) (zv := .agg #[.int .i64 0, .int .i64 0, .int .i64 0]) (pl := [(0, 1), (1, 1), (2, 1)]) [(0, _)] gn rfl (by kernel_rfl) (by kernel_rfl) rfl (by kernel_rfl) ?_
        refine o_build (cs := #[iV i, iV 7, iV 0, iV 0, .bool true]) (zv := .agg #[.int .i64 0, .int .i64 0, .int .i64 0, .int .i64 0, .bool false]) (pl := [(0, 1), (1, 3), (4, 1)]) [(0, _), (1, _), (2, _)] gn rfl (by kernel_rfl) (by kernel_rfl) rfl (by kernel_rfl) ?_
        refine o_build (cs := (mkC (i + 1)).toArray) (zv := .agg #[.int .i64 0, .int .i64 0, .int .i64 0, .int .i64 0, .int .i64 0, .int .i64 0, .int .i64 0, .bool false]) (pl := [(0, 1), (1, 1), (2, 1), (3, 5)]) [(0, _), (1, _), (3, _)] gn rfl (by kernel_rfl) (by kernel_rfl) rfl (by kernel_rfl) ?_
        refine s_buildSlice (cs := (mkC (i + 1)).toArray) (e := 36) (z := 7) (zv := .agg #[.int .i64 0, .int .i64 0, .int .i64 0, .int .i64 0, .int .i64 0, .int .i64 0, .int .i64 0, .bool false]) [(0, _)] S gn rfl (by kernel_rfl) (by kernel_rfl) (by kernel_rfl) (by kernel_rfl) rfl (by kernel_rfl) fun b4 g nb4 S => ?_
        refine s_append (e := 36) (z := 7) (by' := 63) 2 0 S el37 gn rfl rfl rfl rfl rfl rfl (by rfl) (by omega) (fun s' bs' g S => ag0) fun s' bs' g S => ?_
        refine o_fieldAddr (off := 1) gn rfl rfl (by kernel_rfl) ?_
        refine s_store 1 S gn rfl rfl (S.sl 2 rfl).cellV (by kernel_rfl) rfl (by decide) (Nat.le_refl 2) (fun g S => ag0) fun g S => ?_
        refine wl_end ?_
        refine w_region (by kernel_rfl) ?_
        refine o_move gn rfl rfl ?_
        refine o_add gn rfl rfl rfl (by omega) (by omega) ?_
        refine o_assign gn rfl rfl ?_
        refine wl_end ?_
        exact rndS ((many - ((i + 1 : Nat) : Int)).toNat) (by omega) [(4, _)] (by repeat (first | exact trivial | refine ⟨rfl, ?_⟩)) ⟨i + 1, s', bs', rfl, rfl, by omega, by rw [marksC_succ (i + 1)]; exact S.drop⟩
      · skip
        refine w_exit ?_
        refine thn_exit ?_
        refine rnd_exit ?_
        refine blk_eq ?_
        refine w_seq ?_
        have hm : many = (i : Int) := by simp at hb; omega
        subst hm
        obtain ⟨q, qm, qc, qrest, hse, hqg, _, hql, _, _, _⟩ := (S.sl 1 rfl).at (by omega)
        subst hse
        have R : RunAt hh b1 q (i + 1) := ⟨⟨0, S.cel 2 rfl⟩, ⟨qm, qrest, hqg⟩, S.lt1 2 rfl, hql⟩
        refine w_region (by kernel_rfl) ?_
        refine o_loadA (n := 2) gn rfl rfl (by kernel_rfl) (by kernel_rfl) (by first | exact S.cel 0 rfl | exact S.cel 1 rfl | exact S.cel 2 rfl | exact S.cel 3 rfl | exact S.cel 4 rfl) (by first | decide | exact Nat.le_refl _ | (simp; done)) ?_
        refine o_move gn rfl rfl ?_
        refine o_call [_, _, _] gn rfl rfl (by kernel_rfl) rfl (C.mono (c7 R (by omega)) ?_)
        rintro v g ⟨rfl, x⟩
        have S := S.grow x
        have R := R.ext x
        refine ⟨ag0, ?_⟩
        refine o_move gn rfl rfl ?_
        refine o_extract gn rfl rfl rfl ?_
        refine o_extract gn rfl rfl rfl ?_
        refine o_assign gn rfl rfl ?_
        refine o_assign gn rfl rfl ?_
        refine wl_end ?_
        refine w_seq ?_
        refine w_region (by kernel_rfl) ?_
        refine o_loadA (n := 2) gn rfl rfl (by kernel_rfl) (by kernel_rfl) (by first | exact S.cel 0 rfl | exact S.cel 1 rfl | exact S.cel 2 rfl | exact S.cel 3 rfl | exact S.cel 4 rfl) (by first | decide | exact Nat.le_refl _ | (simp; done)) ?_
        refine o_call [_] gn rfl rfl (by kernel_rfl) rfl (C.mono (c8 R (by omega) (by omega)) ?_)
        rintro v g ⟨rfl, x⟩
        have S := S.grow x
        refine ⟨ag0, ?_⟩
        refine o_move gn rfl rfl ?_
        refine o_extract gn rfl rfl rfl ?_
        refine o_extract gn rfl rfl rfl ?_
        refine o_assign gn rfl rfl ?_
        refine o_assign gn rfl rfl ?_
        refine wl_end ?_
        refine w_seq ?_
        refine w_seq ?_
        refine w_region (by kernel_rfl) ?_
        refine o_move gn rfl rfl ?_
        refine o_add gn rfl rfl rfl (by omega) (by omega) ?_
        refine o_gtr gn rfl rfl rfl ?_
        refine wl_end ?_
        refine w_cond rfl (fun hb => ?_) fun hb => ?_
        · skip
          refine w_seq ?_
          refine w_region (by kernel_rfl) ?_
          have hle : ¬ i + 1 ≤ 1200 := by simp at hb; omega
          refine o_move gn rfl rfl ?_
          refine o_eqi gn rfl rfl rfl ?_
          refine o_move gn rfl rfl ?_
          refine o_and (n := 2) rfl rfl rfl gn rfl (fun hb => by
              refine o_move (gy rfl rfl rfl hb) rfl rfl ?_
              refine o_eqi (gy rfl rfl rfl hb) rfl rfl rfl ?_
              exact wl_end ⟨rfl, rfl, 2, rfl, rfl⟩) ?_
          refine o_move gn rfl rfl ?_
          refine o_and (n := 2) rfl rfl rfl gn rfl (fun hb => by
              refine o_move (gy rfl rfl rfl hb) rfl rfl ?_
              refine o_not (gy rfl rfl rfl hb) rfl rfl ?_
              exact wl_end ⟨rfl, rfl, 2, rfl, rfl⟩) ?_
          refine o_move gn rfl rfl ?_
          refine o_and (n := 3) rfl rfl rfl gn rfl (fun hb => by
              refine o_move (gy rfl rfl rfl hb) rfl rfl ?_
              refine o_len (gy rfl rfl rfl hb) rfl rfl (by kernel_rfl) ?_
              refine o_eqi (gy rfl rfl rfl hb) rfl rfl rfl ?_
              exact wl_end ⟨rfl, rfl, 3, rfl, rfl⟩) ?_
          refine o_move gn rfl rfl ?_
          refine o_and (n := 1) rfl rfl rfl gn rfl (fun hb => by
              refine o_orc (f := 6) (v := .bool true) (gy rfl rfl rfl hb) rfl (by kernel_rfl) (by kernel_rfl) ag0 ?_
              exact wl_end ⟨rfl, rfl, 1, rfl, rfl⟩) ?_
          refine o_assign gn rfl rfl ?_
          refine wl_end ?_
          refine w_ret ?_
          refine ⟨.inl rfl, _, rfl, ?_⟩
          simp [oneOf, hle]
        · skip
          refine w_skip ?_
          refine w_seq ?_
          refine w_region (by kernel_rfl) ?_
          have hle : i + 1 ≤ 1200 := by simp at hb; omega
          refine o_move gn rfl rfl ?_
          refine o_eqi gn rfl rfl rfl ?_
          refine o_move gn rfl rfl ?_
          refine o_and (n := 2) rfl rfl rfl gn rfl (fun hb => by
              refine o_move (gy rfl rfl rfl hb) rfl rfl ?_
              refine o_eqi (gy rfl rfl rfl hb) rfl rfl rfl ?_
              exact wl_end ⟨rfl, rfl, 2, rfl, rfl⟩) ?_
          refine o_move gn rfl rfl ?_
          refine o_and (n := 4) rfl rfl rfl gn rfl (fun hb => by
              refine o_move (gy rfl rfl rfl hb) rfl rfl ?_
              refine o_move (gy rfl rfl rfl hb) rfl rfl ?_
              refine o_gtr (gy rfl rfl rfl hb) rfl rfl rfl ?_
              refine o_eqb (gy rfl rfl rfl hb) rfl rfl rfl (by kernel_rfl) ?_
              exact wl_end ⟨rfl, rfl, 4, rfl, rfl⟩) ?_
          refine o_move gn rfl rfl ?_
          refine o_and (n := 3) rfl rfl rfl gn rfl (fun hb => by
              refine o_move (gy rfl rfl rfl hb) rfl rfl ?_
              refine o_len (gy rfl rfl rfl hb) rfl rfl (by kernel_rfl) ?_
              refine o_eqi (gy rfl rfl rfl hb) rfl rfl rfl ?_
              exact wl_end ⟨rfl, rfl, 3, rfl, rfl⟩) ?_
          refine o_move gn rfl rfl ?_
          refine o_and (n := 1) rfl rfl rfl gn rfl (fun hb => by
              refine o_orc (f := 6) (v := .bool true) (gy rfl rfl rfl hb) rfl (by kernel_rfl) (by kernel_rfl) ag0 ?_
              exact wl_end ⟨rfl, rfl, 1, rfl, rfl⟩) ?_
          refine o_assign gn rfl rfl ?_
          refine wl_end ?_
          refine w_ret ?_
          refine ⟨.inl rfl, _, rfl, ?_⟩
          simp [oneOf, hle]

end
end Go.Proofs.Yteinandjhpnceaa

