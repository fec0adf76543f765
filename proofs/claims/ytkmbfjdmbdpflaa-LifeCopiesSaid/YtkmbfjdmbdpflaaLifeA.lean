/- Chapter 9, the program's side: what each function of the package life comes to. Conditions: none. -/
import Derived.Test.YtkmbfjdmbdpflaaLifeE
namespace Go.Proofs.Ytkmbfjdmbdpflaa
open Go.X

def stV (st : List Int) : List Value := st.map fun n => .int .i64 n
def onV (on : List Bool) : List Value := on.map fun b => .bool b

/-- Lives as they lie in memory: states, events; which blocks are theirs. -/
structure LivesR (h : Hp) (b : Nat) (st : List Int) (on : List Bool) (sc so : Value) (B1 B2 : List Nat) : Prop where
  top : h.get b = some (.cells [sc, so] 57 0)
  lt : b < h.n
  comps : Sl 92 h sc (stV st) B1
  evs : Sl 4 h so (onV on) B2
  d1 : b ∉ B1
  d2 : b ∉ B2
  d3 : ∀ i, i ∈ B1 → i ∉ B2

theorem el92 : El lifeE 55 92 7 := ⟨by kernel_rfl, by kernel_rfl, by kernel_rfl, .int .i64 0, by kernel_rfl, rfl⟩
theorem el4 : El lifeE 30 4 0 := ⟨by kernel_rfl, by kernel_rfl, by kernel_rfl, .bool false, by kernel_rfl, rfl⟩
theorem el3 : El lifeE 22 3 7 := ⟨by kernel_rfl, by kernel_rfl, by kernel_rfl, .int .i64 0, by kernel_rfl, rfl⟩

/-- there -/
theorem c46 {h : Hp} {b : Nat} {st : List Int} {on : List Bool} {sc so : Value} {B1 B2 : List Nat} {c : Int} (hl : LivesR h b st on sc so B1 B2) :
    CP lifeE 46 [.pointer (some ⟨b, 0, none⟩), .int .i64 c] h (.bool (decide (0 ≤ c) && decide (c < st.length))) := by
  obtain ⟨a, rfl⟩ := hl.comps.val
  have ht := hl.top
  refine c_enter (fu := Try.f46) (by kernel_rfl) rfl ?_
  refine w_seq ?_
  refine w_region (by kernel_rfl) ?_
  refine o_assign gn rfl rfl ?_
  refine wl_end ?_
  refine w_seq ?_
  refine w_region (by kernel_rfl) ?_
  refine o_move gn rfl rfl ?_
  refine o_nep gn rfl rfl rfl (by kernel_rfl) ?_
  refine o_move gn rfl rfl ?_
  refine o_and (n := 2) rfl rfl rfl gn rfl (fun hb => by
      refine o_move (gy rfl rfl rfl hb) rfl rfl ?_
      refine o_geq (gy rfl rfl rfl hb) rfl rfl rfl ?_
      exact wl_end ⟨rfl, rfl, 2, rfl, rfl⟩) ?_
  refine o_move gn rfl rfl ?_
  refine o_and (n := 7) rfl rfl rfl gn rfl (fun hb => by
      refine o_move (gy rfl rfl rfl hb) rfl rfl ?_
      refine o_move (gy rfl rfl rfl hb) rfl rfl ?_
      refine o_nilCheck (gy rfl rfl rfl hb) rfl rfl ?_
      refine o_fieldAddr (off := 0) (gy rfl rfl rfl hb) rfl rfl (by kernel_rfl) ?_
      refine o_load (gy rfl rfl rfl hb) rfl rfl (by kernel_rfl) (by assumption) rfl ?_
      refine o_len (gy rfl rfl rfl hb) rfl rfl (by kernel_rfl) ?_
      refine o_lss (gy rfl rfl rfl hb) rfl rfl rfl ?_
      exact wl_end ⟨rfl, rfl, 7, rfl, rfl⟩) ?_
  refine o_assign gn rfl rfl ?_
  refine wl_end ?_
  refine w_ret ?_
  refine ⟨.inl rfl, _, rfl, ?_⟩
  exact ⟨by simp [stV, oneOf], rfl⟩

/-- event -/
theorem c60 {h : Hp} {b : Nat} {st : List Int} {on : List Bool} {sc so : Value} {B1 B2 : List Nat} {c : Int} (hl : LivesR h b st on sc so B1 B2) :
    CP lifeE 60 [.pointer (some ⟨b, 0, none⟩), .int .i64 c] h (.bool (decide (0 ≤ c) && decide (c < on.length))) := by
  obtain ⟨a, rfl⟩ := hl.evs.val
  have ht := hl.top
  refine c_enter (fu := Try.f60) (by kernel_rfl) rfl ?_
  refine w_seq ?_
  refine w_region (by kernel_rfl) ?_
  refine o_assign gn rfl rfl ?_
  refine wl_end ?_
  refine w_seq ?_
  refine w_region (by kernel_rfl) ?_
  refine o_move gn rfl rfl ?_
  refine o_nep gn rfl rfl rfl (by kernel_rfl) ?_
  refine o_move gn rfl rfl ?_
  refine o_and (n := 2) rfl rfl rfl gn rfl (fun hb => by
      refine o_move (gy rfl rfl rfl hb) rfl rfl ?_
      refine o_geq (gy rfl rfl rfl hb) rfl rfl rfl ?_
      exact wl_end ⟨rfl, rfl, 2, rfl, rfl⟩) ?_
  refine o_move gn rfl rfl ?_
  refine o_and (n := 7) rfl rfl rfl gn rfl (fun hb => by
      refine o_move (gy rfl rfl rfl hb) rfl rfl ?_
      refine o_move (gy rfl rfl rfl hb) rfl rfl ?_
      refine o_nilCheck (gy rfl rfl rfl hb) rfl rfl ?_
      refine o_fieldAddr (off := 1) (gy rfl rfl rfl hb) rfl rfl (by kernel_rfl) ?_
      refine o_load (gy rfl rfl rfl hb) rfl rfl (by kernel_rfl) (by assumption) rfl ?_
      refine o_len (gy rfl rfl rfl hb) rfl rfl (by kernel_rfl) ?_
      refine o_lss (gy rfl rfl rfl hb) rfl rfl rfl ?_
      exact wl_end ⟨rfl, rfl, 7, rfl, rfl⟩) ?_
  refine o_assign gn rfl rfl ?_
  refine wl_end ?_
  refine w_ret ?_
  refine ⟨.inl rfl, _, rfl, ?_⟩
  exact ⟨by simp [onV, oneOf], rfl⟩

/-- Comps -/
theorem c30 {h : Hp} {b : Nat} {st : List Int} {on : List Bool} {sc so : Value} {B1 B2 : List Nat} (hl : LivesR h b st on sc so B1 B2) :
    CP lifeE 30 [.pointer (some ⟨b, 0, none⟩)] h (.int .i64 st.length) := by
  obtain ⟨a, rfl⟩ := hl.comps.val
  have ht := hl.top
  refine c_enter (fu := Try.f30) (by kernel_rfl) rfl ?_
  refine w_seq ?_
  refine w_region (by kernel_rfl) ?_
  refine o_assign gn rfl rfl ?_
  refine wl_end ?_
  refine w_seq ?_
  refine w_seq ?_
  refine w_region (by kernel_rfl) ?_
  refine o_move gn rfl rfl ?_
  refine o_eqp gn rfl rfl rfl (by kernel_rfl) ?_
  refine wl_end ?_
  refine w_cond rfl (fun hb => ?_) fun hb => ?_
  · skip
    refine w_seq ?_
    refine w_region (by kernel_rfl) ?_
    refine o_assign gn rfl rfl ?_
    refine wl_end ?_
    refine w_ret ?_
    refine ⟨.inl rfl, _, rfl, ?_⟩
    cases hb
  · skip
    refine w_skip ?_
    refine w_seq ?_
    refine w_region (by kernel_rfl) ?_
    refine o_move gn rfl rfl ?_
    refine o_nilCheck gn rfl rfl ?_
    refine o_fieldAddr (off := 0) gn rfl rfl (by kernel_rfl) ?_
    refine o_load gn rfl rfl (by kernel_rfl) (by assumption) rfl ?_
    refine o_len gn rfl rfl (by kernel_rfl) ?_
    refine o_assign gn rfl rfl ?_
    refine wl_end ?_
    refine w_ret ?_
    refine ⟨.inl rfl, _, rfl, ?_⟩
    exact ⟨by simp [stV, oneOf], rfl⟩

/-- Events -/
theorem c31 {h : Hp} {b : Nat} {st : List Int} {on : List Bool} {sc so : Value} {B1 B2 : List Nat} (hl : LivesR h b st on sc so B1 B2) :
    CP lifeE 31 [.pointer (some ⟨b, 0, none⟩)] h (.int .i64 on.length) := by
  obtain ⟨a, rfl⟩ := hl.evs.val
  have ht := hl.top
  refine c_enter (fu := Try.f31) (by kernel_rfl) rfl ?_
  refine w_seq ?_
  refine w_region (by kernel_rfl) ?_
  refine o_assign gn rfl rfl ?_
  refine wl_end ?_
  refine w_seq ?_
  refine w_seq ?_
  refine w_region (by kernel_rfl) ?_
  refine o_move gn rfl rfl ?_
  refine o_eqp gn rfl rfl rfl (by kernel_rfl) ?_
  refine wl_end ?_
  refine w_cond rfl (fun hb => ?_) fun hb => ?_
  · skip
    refine w_seq ?_
    refine w_region (by kernel_rfl) ?_
    refine o_assign gn rfl rfl ?_
    refine wl_end ?_
    refine w_ret ?_
    refine ⟨.inl rfl, _, rfl, ?_⟩
    cases hb
  · skip
    refine w_skip ?_
    refine w_seq ?_
    refine w_region (by kernel_rfl) ?_
    refine o_move gn rfl rfl ?_
    refine o_nilCheck gn rfl rfl ?_
    refine o_fieldAddr (off := 1) gn rfl rfl (by kernel_rfl) ?_
    refine o_load gn rfl rfl (by kernel_rfl) (by assumption) rfl ?_
    refine o_len gn rfl rfl (by kernel_rfl) ?_
    refine o_assign gn rfl rfl ?_
    refine wl_end ?_
    refine w_ret ?_
    refine ⟨.inl rfl, _, rfl, ?_⟩
    exact ⟨by simp [onV, oneOf], rfl⟩

/-- slices.Clone of states -/
theorem c57 {h : Hp} {a : Option Addr} {n c : Nat} {xs : List Value} (hs : Src h (.slice a n c) xs) (hn : xs.length ≤ 100000) :
    C lifeE 57 [.slice a n c] h fun v h' => ∃ bs, Sl 92 h' v xs bs ∧ Ext h h' ∧ ∀ i, i ∈ bs → h.n ≤ i := by
  obtain ⟨v', h', bs', h1, h2, h3, h4⟩ := append_new (E := lifeE) el92 hs (by omega)
  refine c_enter (fu := Try.f57) (by kernel_rfl) rfl ?_
  refine w_seq ?_
  refine w_region (by kernel_rfl) ?_
  refine o_assign gn rfl rfl ?_
  refine wl_end ?_
  refine w_seq ?_
  refine w_seq ?_
  refine w_region (by kernel_rfl) ?_
  refine o_move gn rfl rfl ?_
  refine o_eqs gn rfl rfl rfl (by kernel_rfl) ?_
  refine wl_end ?_
  refine w_cond rfl (fun hb => ?_) fun hb => ?_
  · skip
    refine w_seq ?_
    refine w_region (by kernel_rfl) ?_
    refine o_assign gn rfl rfl ?_
    refine wl_end ?_
    refine w_ret ?_
    refine ⟨.inl rfl, _, rfl, ?_⟩
    simp only [Option.isNone_iff_eq_none] at hb; subst hb; exact ⟨[], .inl ⟨rfl, hs.nil, rfl⟩, .refl _, by simp⟩
  · skip
    refine w_skip ?_
    refine w_seq ?_
    refine w_region (by kernel_rfl) ?_
    refine o_buildSlice (e := 92) (z := 0) (zv := .int .i64 0) [] gn rfl (by kernel_rfl) (by kernel_rfl) (by kernel_rfl) (by kernel_rfl) rfl rfl ?_
    refine o_move gn rfl rfl ?_
    refine o_append gn rfl rfl rfl h1 ag0 ?_
    refine o_assign gn rfl rfl ?_
    refine wl_end ?_
    refine w_ret ?_
    refine ⟨.inl rfl, _, rfl, ?_⟩
    exact ⟨bs', h2, h3, h4⟩

/-- slices.Clone of bools -/
theorem c45 {h : Hp} {a : Option Addr} {n c : Nat} {xs : List Value} (hs : Src h (.slice a n c) xs) (hn : xs.length ≤ 100000) :
    C lifeE 45 [.slice a n c] h fun v h' => ∃ bs, Sl 4 h' v xs bs ∧ Ext h h' ∧ ∀ i, i ∈ bs → h.n ≤ i := by
  obtain ⟨v', h', bs', h1, h2, h3, h4⟩ := append_new (E := lifeE) el4 hs (by omega)
  refine c_enter (fu := Try.f45) (by kernel_rfl) rfl ?_
  refine w_seq ?_
  refine w_region (by kernel_rfl) ?_
  refine o_assign gn rfl rfl ?_
  refine wl_end ?_
  refine w_seq ?_
  refine w_seq ?_
  refine w_region (by kernel_rfl) ?_
  refine o_move gn rfl rfl ?_
  refine o_eqs gn rfl rfl rfl (by kernel_rfl) ?_
  refine wl_end ?_
  refine w_cond rfl (fun hb => ?_) fun hb => ?_
  · skip
    refine w_seq ?_
    refine w_region (by kernel_rfl) ?_
    refine o_assign gn rfl rfl ?_
    refine wl_end ?_
    refine w_ret ?_
    refine ⟨.inl rfl, _, rfl, ?_⟩
    simp only [Option.isNone_iff_eq_none] at hb; subst hb; exact ⟨[], .inl ⟨rfl, hs.nil, rfl⟩, .refl _, by simp⟩
  · skip
    refine w_skip ?_
    refine w_seq ?_
    refine w_region (by kernel_rfl) ?_
    refine o_buildSlice (e := 4) (z := 0) (zv := .bool false) [] gn rfl (by kernel_rfl) (by kernel_rfl) (by kernel_rfl) (by kernel_rfl) rfl rfl ?_
    refine o_move gn rfl rfl ?_
    refine o_append gn rfl rfl rfl h1 ag0 ?_
    refine o_assign gn rfl rfl ?_
    refine wl_end ?_
    refine w_ret ?_
    refine ⟨.inl rfl, _, rfl, ?_⟩
    exact ⟨bs', h2, h3, h4⟩

/-- State -/
theorem c27 {h : Hp} {b : Nat} {st : List Int} {on : List Bool} {sc so : Value} {B1 B2 : List Nat} {c : Int} (hl : LivesR h b st on sc so B1 B2) (hst : ∀ s, s ∈ st → 0 ≤ s ∧ s ≤ 4) :
    CP lifeE 27 [.pointer (some ⟨b, 0, none⟩), .int .i64 c] h (.int .i64 (if 0 ≤ c ∧ c < st.length then (st[c.toNat]?).getD 0 - 1 else -1)) := by
  have ht := hl.top
  refine c_enter (fu := Try.f27) (by kernel_rfl) rfl ?_
  refine w_seq ?_
  refine w_region (by kernel_rfl) ?_
  refine o_assign gn rfl rfl ?_
  refine wl_end ?_
  refine w_seq ?_
  refine w_seq ?_
  refine w_region (by kernel_rfl) ?_
  refine o_move gn rfl rfl ?_
  refine o_move gn rfl rfl ?_
  refine o_call [_, _] gn rfl rfl (by kernel_rfl) rfl (c_pure (c46 hl) ⟨ag0, ?_⟩)
  refine o_not gn rfl rfl ?_
  refine wl_end ?_
  simp only [oneOf] at *
  refine w_cond rfl (fun hb => ?_) fun hb => ?_
  · skip
    refine w_seq ?_
    refine w_region (by kernel_rfl) ?_
    refine o_assign gn rfl rfl ?_
    refine wl_end ?_
    refine w_ret ?_
    refine ⟨.inl rfl, _, rfl, ?_⟩
    have hb' : ¬ (0 ≤ c ∧ c < st.length) := by simp at hb; omega
    exact ⟨by rw [if_neg hb'], rfl⟩
  · skip
    have hb' : 0 ≤ c ∧ c < st.length := by simp at hb; omega
    obtain ⟨bb, m, rfl, hbb, hm, _, _⟩ := hl.comps.at (by simp [stV]; omega)
    have hin := hst _ (getD_mem (d := 0) (show c.toNat < st.length by omega))
    refine w_skip ?_
    refine w_seq ?_
    refine w_region (by kernel_rfl) ?_
    refine o_move gn rfl rfl ?_
    refine o_nilCheck gn rfl rfl ?_
    refine o_fieldAddr (off := 0) gn rfl rfl (by kernel_rfl) ?_
    refine o_load gn rfl rfl (by kernel_rfl) (by assumption) rfl ?_
    refine o_move gn rfl rfl ?_
    refine o_indexAddr (zz := 1) gn rfl rfl rfl (by kernel_rfl) (by omega) (by simp [stV]; omega) ?_
    refine o_load gn rfl rfl (by kernel_rfl) (by assumption) (at_int c.toNat (by omega) (by omega)) ?_
    refine o_sub gn rfl rfl rfl (by omega) (by omega) ?_
    refine o_assign gn rfl rfl ?_
    refine wl_end ?_
    refine w_ret ?_
    refine ⟨.inl rfl, _, rfl, ?_⟩
    exact ⟨by rw [if_pos hb'], rfl⟩

/-- On -/
theorem c28 {h : Hp} {b : Nat} {st : List Int} {on : List Bool} {sc so : Value} {B1 B2 : List Nat} {c : Int} (hl : LivesR h b st on sc so B1 B2) :
    CP lifeE 28 [.pointer (some ⟨b, 0, none⟩), .int .i64 c] h (.bool (decide (0 ≤ c) && (on[c.toNat]?).getD false)) := by
  have ht := hl.top
  refine c_enter (fu := Try.f28) (by kernel_rfl) rfl ?_
  refine w_seq ?_
  refine w_region (by kernel_rfl) ?_
  refine o_assign gn rfl rfl ?_
  refine wl_end ?_
  refine w_seq ?_
  refine w_region (by kernel_rfl) ?_
  refine o_move gn rfl rfl ?_
  refine o_move gn rfl rfl ?_
  refine o_call [_, _] gn rfl rfl (by kernel_rfl) rfl (c_pure (c60 hl) ⟨ag0, ?_⟩)
  refine o_move gn rfl rfl ?_
  refine o_and (n := 7) rfl rfl rfl gn rfl (fun hb => by
      have hb' : 0 ≤ c ∧ c < on.length := by simp at hb; omega
      obtain ⟨bb, m, rfl, hbb, hm, _, _⟩ := hl.evs.at (by simp [onV]; omega)
      refine o_move (gy rfl rfl rfl hb) rfl rfl ?_
      refine o_nilCheck (gy rfl rfl rfl hb) rfl rfl ?_
      refine o_fieldAddr (off := 1) (gy rfl rfl rfl hb) rfl rfl (by kernel_rfl) ?_
      refine o_load (gy rfl rfl rfl hb) rfl rfl (by kernel_rfl) (by assumption) rfl ?_
      refine o_move (gy rfl rfl rfl hb) rfl rfl ?_
      refine o_indexAddr (zz := 1) (gy rfl rfl rfl hb) rfl rfl rfl (by kernel_rfl) (by omega) (by simp [onV]; omega) ?_
      refine o_load (gy rfl rfl rfl hb) rfl rfl (by kernel_rfl) (by assumption) (at_bool c.toNat (by omega) (by omega)) ?_
      exact wl_end ⟨rfl, rfl, 7, rfl, rfl⟩) ?_
  refine o_assign gn rfl rfl ?_
  refine wl_end ?_
  refine w_ret ?_
  refine ⟨.inl rfl, _, rfl, ?_⟩
  exact ⟨by
    simp only [oneOf]
    by_cases h1 : c < on.length
    · simp [h1]
    · by_cases h0 : 0 ≤ c
      · simp [h1, List.getElem?_eq_none (show on.length ≤ c.toNat by omega)]
      · simp [h0], rfl⟩

end Go.Proofs.Ytkmbfjdmbdpflaa

