/- Chapter 9, the program's side: slices.Equal, and Same. Conditions: none. -/
import Derived.Test.YtkmbfjdmbdpflaaLifeA
namespace Go.Proofs.Ytkmbfjdmbdpflaa
open Go.X

/-- slices.Equal of states -/
theorem c58 {h : Hp} {a a' : Option Addr} {n n' c c' : Nat} {st st' : List Int} (hs : Src h (.slice a n c) (stV st)) (hs' : Src h (.slice a' n' c') (stV st')) (hn : st.length ≤ 100000) :
    CP lifeE 58 [.slice a n c, .slice a' n' c'] h (.bool (decide (st = st'))) := by
  have e1 := hs.len'; have e2 := hs'.len'
  simp only [stV, List.length_map] at e1 e2
  subst e1; subst e2
  refine c_enter (fu := Try.f58) (by kernel_rfl) rfl ?_
  refine w_seq ?_
  refine w_region (by kernel_rfl) ?_
  refine o_assign gn rfl rfl ?_
  refine wl_end ?_
  refine w_seq ?_
  refine w_seq ?_
  refine w_region (by kernel_rfl) ?_
  refine o_move gn rfl rfl ?_
  refine o_len gn rfl rfl (by kernel_rfl) ?_
  refine o_move gn rfl rfl ?_
  refine o_len gn rfl rfl (by kernel_rfl) ?_
  refine o_nei gn rfl rfl rfl ?_
  refine wl_end ?_
  refine w_cond rfl (fun hb => ?_) fun hb => ?_
  · skip
    refine w_seq ?_
    refine w_region (by kernel_rfl) ?_
    refine o_assign gn rfl rfl ?_
    refine wl_end ?_
    refine w_ret ?_
    refine ⟨.inl rfl, _, rfl, ?_⟩
    have hne : st ≠ st' := fun e => by simp [e] at hb
    exact ⟨by simp [oneOf, hne], rfl⟩
  · skip
    refine w_skip ?_
    refine w_seq ?_
    refine w_seq ?_
    refine w_region (by kernel_rfl) ?_
    refine o_move gn rfl rfl ?_
    refine o_len gn rfl rfl (by kernel_rfl) ?_
    refine o_move gn rfl rfl ?_
    refine wl_end ?_
    have hlen : st.length = st'.length := by simp at hb; omega
    refine w_block ?_
    refine w_weak [(0, .slice a st.length c), (1, .slice a' st'.length c'), (12, .int .i64 (st.length : Nat)), (13, .int .i64 0)] (by repeat (first | exact trivial | refine ⟨rfl, ?_⟩)) ?_
    refine w_loop (fun k l hh => ∃ i : Int, 0 ≤ i ∧ i ≤ st.length ∧ k = st.length - i.toNat ∧ (∀ j : Nat, j < i.toNat → st[j]? = st'[j]?) ∧ l = [(0, .slice a st.length c), (1, .slice a' st'.length c'), (12, .int .i64 (st.length : Nat)), (13, .int .i64 i)] ∧ hh = h) (n := st.length) ?_ fun k l hh hI => ?_
    · exact ⟨0, by omega, by omega, by omega, fun j hj => by omega, rfl, rfl⟩
    · obtain ⟨i, hi0, hi1, rfl, hall, rfl, rfl⟩ := hI
      refine w_seq ?_
      refine w_region (by kernel_rfl) ?_
      refine o_lss gn rfl rfl rfl ?_
      refine wl_end ?_
      refine w_seq ?_
      refine w_cond rfl (fun hb => ?_) fun hb => ?_
      · skip
        refine w_skip ?_
        refine w_seq ?_
        have hlt : i < st.length := by simpa using hb
        obtain ⟨bb, o, cs, e, m, rfl, hg, _, _, hcs⟩ := hs.at (by simp [stV]; omega)
        obtain ⟨bb', o', cs', e', m', rfl, hg', _, _, hcs'⟩ := hs'.at (by simp [stV]; omega)
        have hv := (hcs i.toNat (by simp [stV]; omega)).trans (at_int (k := .i64) i.toNat (by omega) rfl)
        have hv' := (hcs' i.toNat (by simp [stV]; omega)).trans (at_int (k := .i64) i.toNat (by omega) rfl)
        refine w_block ?_
        refine w_seq ?_
        refine w_region (by kernel_rfl) ?_
        refine o_move gn rfl rfl ?_
        refine o_assign gn rfl rfl ?_
        refine wl_end ?_
        refine w_seq ?_
        refine w_draw [(0, []), (1, []), (2, []), (3, []), (4, []), (5, []), (6, []), (7, []), (8, [])] (by kernel_rfl) (by kernel_rfl) (by kernel_rfl) (by kernel_rfl) ?_
        refine o_move gn rfl rfl ?_
        refine o_move gn rfl rfl ?_
        refine o_indexAddr (zz := 1) gn rfl rfl rfl (by kernel_rfl) (by omega) (by omega) ?_
        refine o_load gn rfl rfl (by kernel_rfl) hg (by rw [Nat.mul_one]; exact hv) ?_
        refine o_move gn rfl rfl ?_
        refine o_move gn rfl rfl ?_
        refine o_indexAddr (zz := 1) gn rfl rfl rfl (by kernel_rfl) (by omega) (by omega) ?_
        refine o_load gn rfl rfl (by kernel_rfl) hg' (by rw [Nat.mul_one]; exact hv') ?_
        refine o_nei gn rfl rfl rfl ?_
        refine wl_end ?_
        refine w_cond rfl (fun hb => ?_) fun hb => ?_
        · skip
          refine w_seq ?_
          refine w_region (by kernel_rfl) ?_
          refine o_assign gn rfl rfl ?_
          refine wl_end ?_
          refine w_ret ?_
          refine ⟨.inl rfl, _, rfl, ?_⟩
          have hne : st ≠ st' := fun e => by subst e; simp at hb
          exact ⟨by simp [oneOf, hne], rfl⟩
        · skip
          refine w_skip ?_
          refine w_region (by kernel_rfl) ?_
          refine o_add gn rfl rfl rfl (by omega) (by omega) ?_
          refine o_move gn rfl rfl ?_
          refine wl_end ?_
          exact ⟨(st.length - (i + 1).toNat), by omega, _, (by repeat (first | exact trivial | refine ⟨rfl, ?_⟩)), ⟨i + 1, by omega, by omega, rfl, fun j hj => by
  by_cases hji : j < i.toNat
  · exact hall j hji
  · have : j = i.toNat := by omega
    subst this
    have hb' : (st[i.toNat]?).getD 0 = (st'[i.toNat]?).getD 0 := by simpa using hb
    rw [List.getElem?_eq_getElem (show i.toNat < st.length by omega), List.getElem?_eq_getElem (show i.toNat < st'.length by omega)] at hb' ⊢
    simpa using hb', rfl, rfl⟩⟩
      · skip
        refine w_exit ?_
        refine thn_exit ?_
        refine rnd_exit ?_
        refine blk_eq ?_
        refine w_seq ?_
        refine w_region (by kernel_rfl) ?_
        refine o_assign gn rfl rfl ?_
        refine wl_end ?_
        refine w_ret ?_
        refine ⟨.inl rfl, _, rfl, ?_⟩
        have hge : st.length ≤ i := by simpa using hb
        have heq : st = st' := List.ext_getElem? fun j => by
          by_cases hj : j < st.length
          · exact hall j (by omega)
          · rw [List.getElem?_eq_none (by omega), List.getElem?_eq_none (by omega)]
        exact ⟨by simp [oneOf, heq], rfl⟩

/-- slices.Equal of bools -/
theorem c59 {h : Hp} {a a' : Option Addr} {n n' c c' : Nat} {st st' : List Bool} (hs : Src h (.slice a n c) (onV st)) (hs' : Src h (.slice a' n' c') (onV st')) (hn : st.length ≤ 100000) :
    CP lifeE 59 [.slice a n c, .slice a' n' c'] h (.bool (decide (st = st'))) := by
  have e1 := hs.len'; have e2 := hs'.len'
  simp only [onV, List.length_map] at e1 e2
  subst e1; subst e2
  refine c_enter (fu := Try.f59) (by kernel_rfl) rfl ?_
  refine w_seq ?_
  refine w_region (by kernel_rfl) ?_
  refine o_assign gn rfl rfl ?_
  refine wl_end ?_
  refine w_seq ?_
  refine w_seq ?_
  refine w_region (by kernel_rfl) ?_
  refine o_move gn rfl rfl ?_
  refine o_len gn rfl rfl (by kernel_rfl) ?_
  refine o_move gn rfl rfl ?_
  refine o_len gn rfl rfl (by kernel_rfl) ?_
  refine o_nei gn rfl rfl rfl ?_
  refine wl_end ?_
  refine w_cond rfl (fun hb => ?_) fun hb => ?_
  · skip
    refine w_seq ?_
    refine w_region (by kernel_rfl) ?_
    refine o_assign gn rfl rfl ?_
    refine wl_end ?_
    refine w_ret ?_
    refine ⟨.inl rfl, _, rfl, ?_⟩
    have hne : st ≠ st' := fun e => by simp [e] at hb
    exact ⟨by simp [oneOf, hne], rfl⟩
  · skip
    refine w_skip ?_
    refine w_seq ?_
    refine w_seq ?_
    refine w_region (by kernel_rfl) ?_
    refine o_move gn rfl rfl ?_
    refine o_len gn rfl rfl (by kernel_rfl) ?_
    refine o_move gn rfl rfl ?_
    refine wl_end ?_
    have hlen : st.length = st'.length := by simp at hb; omega
    refine w_block ?_
    refine w_weak [(0, .slice a st.length c), (1, .slice a' st'.length c'), (12, .int .i64 (st.length : Nat)), (13, .int .i64 0)] (by repeat (first | exact trivial | refine ⟨rfl, ?_⟩)) ?_
    refine w_loop (fun k l hh => ∃ i : Int, 0 ≤ i ∧ i ≤ st.length ∧ k = st.length - i.toNat ∧ (∀ j : Nat, j < i.toNat → st[j]? = st'[j]?) ∧ l = [(0, .slice a st.length c), (1, .slice a' st'.length c'), (12, .int .i64 (st.length : Nat)), (13, .int .i64 i)] ∧ hh = h) (n := st.length) ?_ fun k l hh hI => ?_
    · exact ⟨0, by omega, by omega, by omega, fun j hj => by omega, rfl, rfl⟩
    · obtain ⟨i, hi0, hi1, rfl, hall, rfl, rfl⟩ := hI
      refine w_seq ?_
      refine w_region (by kernel_rfl) ?_
      refine o_lss gn rfl rfl rfl ?_
      refine wl_end ?_
      refine w_seq ?_
      refine w_cond rfl (fun hb => ?_) fun hb => ?_
      · skip
        refine w_skip ?_
        refine w_seq ?_
        have hlt : i < st.length := by simpa using hb
        obtain ⟨bb, o, cs, e, m, rfl, hg, _, _, hcs⟩ := hs.at (by simp [onV]; omega)
        obtain ⟨bb', o', cs', e', m', rfl, hg', _, _, hcs'⟩ := hs'.at (by simp [onV]; omega)
        have hv := (hcs i.toNat (by simp [onV]; omega)).trans (at_bool i.toNat (by omega) rfl)
        have hv' := (hcs' i.toNat (by simp [onV]; omega)).trans (at_bool i.toNat (by omega) rfl)
        refine w_block ?_
        refine w_seq ?_
        refine w_region (by kernel_rfl) ?_
        refine o_move gn rfl rfl ?_
        refine o_assign gn rfl rfl ?_
        refine wl_end ?_
        refine w_seq ?_
        refine w_draw [(0, []), (1, []), (2, []), (3, []), (4, []), (5, []), (6, []), (7, []), (8, [])] (by kernel_rfl) (by kernel_rfl) (by kernel_rfl) (by kernel_rfl) ?_
        refine o_move gn rfl rfl ?_
        refine o_move gn rfl rfl ?_
        refine o_indexAddr (zz := 1) gn rfl rfl rfl (by kernel_rfl) (by omega) (by omega) ?_
        refine o_load gn rfl rfl (by kernel_rfl) hg (by rw [Nat.mul_one]; exact hv) ?_
        refine o_move gn rfl rfl ?_
        refine o_move gn rfl rfl ?_
        refine o_indexAddr (zz := 1) gn rfl rfl rfl (by kernel_rfl) (by omega) (by omega) ?_
        refine o_load gn rfl rfl (by kernel_rfl) hg' (by rw [Nat.mul_one]; exact hv') ?_
        refine o_neb gn rfl rfl rfl (by kernel_rfl) ?_
        refine wl_end ?_
        refine w_cond rfl (fun hb => ?_) fun hb => ?_
        · skip
          refine w_seq ?_
          refine w_region (by kernel_rfl) ?_
          refine o_assign gn rfl rfl ?_
          refine wl_end ?_
          refine w_ret ?_
          refine ⟨.inl rfl, _, rfl, ?_⟩
          have hne : st ≠ st' := fun e => by subst e; simp at hb
          exact ⟨by simp [oneOf, hne], rfl⟩
        · skip
          refine w_skip ?_
          refine w_region (by kernel_rfl) ?_
          refine o_add gn rfl rfl rfl (by omega) (by omega) ?_
          refine o_move gn rfl rfl ?_
          refine wl_end ?_
          exact ⟨(st.length - (i + 1).toNat), by omega, _, (by repeat (first | exact trivial | refine ⟨rfl, ?_⟩)), ⟨i + 1, by omega, by omega, rfl, fun j hj => by
  by_cases hji : j < i.toNat
  · exact hall j hji
  · have : j = i.toNat := by omega
    subst this
    have hb' : (st[i.toNat]?).getD false = (st'[i.toNat]?).getD false := by simpa using hb
    rw [List.getElem?_eq_getElem (show i.toNat < st.length by omega), List.getElem?_eq_getElem (show i.toNat < st'.length by omega)] at hb' ⊢
    simpa using hb', rfl, rfl⟩⟩
      · skip
        refine w_exit ?_
        refine thn_exit ?_
        refine rnd_exit ?_
        refine blk_eq ?_
        refine w_seq ?_
        refine w_region (by kernel_rfl) ?_
        refine o_assign gn rfl rfl ?_
        refine wl_end ?_
        refine w_ret ?_
        refine ⟨.inl rfl, _, rfl, ?_⟩
        have hge : st.length ≤ i := by simpa using hb
        have heq : st = st' := List.ext_getElem? fun j => by
          by_cases hj : j < st.length
          · exact hall j (by omega)
          · rw [List.getElem?_eq_none (by omega), List.getElem?_eq_none (by omega)]
        exact ⟨by simp [oneOf, heq], rfl⟩

end Go.Proofs.Ytkmbfjdmbdpflaa

