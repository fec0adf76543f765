/- The document's Same; LifeCopies, in the calculus. Conditions: the slices are as they are read. -/
import Derived.Test.YtkmbfjdmbdpflaaLifeP
namespace Go.Proofs.Ytkmbfjdmbdpflaa
open Go.X

/-- The document's Same -/
theorem c26 {h : Hp} {b b' : Nat} {st st' : List Int} {on on' : List Bool} {sc so sc' so' : Value} {B1 B2 B1' B2' : List Nat} (hl : RefR h b st on sc so B1 B2) (hl' : RefR h b' st' on' sc' so' B1' B2') (h1 : st.length ≤ 100000) (h2 : on.length ≤ 100000) :
    CP lifeE 26 [.pointer (some ⟨b, 0, none⟩), .pointer (some ⟨b', 0, none⟩)] h (.bool (decide (st = st') && decide (on = on'))) := by
  obtain ⟨a1, rfl⟩ := hl.comps.val
  obtain ⟨a2, rfl⟩ := hl.valOn
  obtain ⟨a3, rfl⟩ := hl'.comps.val
  obtain ⟨a4, rfl⟩ := hl'.valOn
  have e1 : (stV st).length = st.length := by simp [stV]
  have e3 : (stV st').length = st'.length := by simp [stV]
  have ht := hl.top
  have ht' := hl'.top
  refine c_enter (fu := Try.f26) (by kernel_rfl) rfl ?_
  refine w_seq ?_
  refine w_region (by kernel_rfl) ?_
  refine o_assign gn rfl rfl ?_
  refine wl_end ?_
  refine w_seq ?_
  refine w_seq ?_
  refine w_draw [(0, []), (1, []), (2, []), (3, []), (4, []), (5, []), (6, []), (7, []), (8, []), (9, []), (10, []), (11, []), (12, []), (13, []), (14, []), (15, []), (16, []), (17, []), (18, []), (19, []), (20, []), (21, []), (22, []), (23, [])] (by kernel_rfl) (by kernel_rfl) (by kernel_rfl) (by kernel_rfl) ?_
  refine o_move gn rfl rfl ?_
  refine o_nilCheck gn rfl rfl ?_
  refine o_fieldAddr (off := 0) gn rfl rfl (by kernel_rfl) ?_
  refine o_load gn rfl rfl (by kernel_rfl) ht rfl ?_
  refine o_len gn rfl rfl (by kernel_rfl) ?_
  refine o_move gn rfl rfl ?_
  refine o_nilCheck gn rfl rfl ?_
  refine o_fieldAddr (off := 0) gn rfl rfl (by kernel_rfl) ?_
  refine o_load gn rfl rfl (by kernel_rfl) ht' rfl ?_
  refine o_len gn rfl rfl (by kernel_rfl) ?_
  refine o_nei gn rfl rfl rfl ?_
  refine o_move gn rfl rfl ?_
  refine o_or (n := 11) rfl rfl rfl gn rfl (fun hb => by
      refine o_move (gy rfl rfl rfl hb) rfl rfl ?_
      refine o_nilCheck (gy rfl rfl rfl hb) rfl rfl ?_
      refine o_fieldAddr (off := 1) (gy rfl rfl rfl hb) rfl rfl (by kernel_rfl) ?_
      refine o_load (gy rfl rfl rfl hb) rfl rfl (by kernel_rfl) ht rfl ?_
      refine o_len (gy rfl rfl rfl hb) rfl rfl (by kernel_rfl) ?_
      refine o_move (gy rfl rfl rfl hb) rfl rfl ?_
      refine o_nilCheck (gy rfl rfl rfl hb) rfl rfl ?_
      refine o_fieldAddr (off := 1) (gy rfl rfl rfl hb) rfl rfl (by kernel_rfl) ?_
      refine o_load (gy rfl rfl rfl hb) rfl rfl (by kernel_rfl) ht' rfl ?_
      refine o_len (gy rfl rfl rfl hb) rfl rfl (by kernel_rfl) ?_
      refine o_nei (gy rfl rfl rfl hb) rfl rfl rfl ?_
      exact wl_end ⟨rfl, rfl, 11, rfl, rfl⟩) ?_
  refine wl_end ?_
  refine w_cond rfl (fun hb => ?_) fun hb => ?_
  · skip
    refine w_seq ?_
    refine w_region (by kernel_rfl) ?_
    refine o_assign gn rfl rfl ?_
    refine wl_end ?_
    refine w_ret ?_
    refine ⟨.inl rfl, _, rfl, ?_⟩
    exact ⟨by
      simp only [oneOf]
      refine bv ?_
      simp [e1, e3] at hb
      simp
      intro q1 q2
      subst q1; subst q2
      simp at hb, rfl⟩
  · skip
    have hlen : st.length = st'.length ∧ on.length = on'.length := by simp [e1, e3] at hb; omega
    refine w_skip ?_
    refine w_seq ?_
    refine w_seq ?_
    refine w_region (by kernel_rfl) ?_
    refine o_assign gn rfl rfl ?_
    refine wl_end ?_
    refine w_block ?_
    refine w_weak [(0, .pointer (some ⟨b, 0, none⟩)), (1, .pointer (some ⟨b', 0, none⟩)), (5, .int .i64 0)] (by repeat (first | exact trivial | refine ⟨rfl, ?_⟩)) ?_
    refine w_loop (fun k l hh => ∃ i : Int, 0 ≤ i ∧ i ≤ st.length ∧ k = st.length - i.toNat ∧ (∀ j : Nat, j < i.toNat → st[j]? = st'[j]?) ∧ l = [(0, .pointer (some ⟨b, 0, none⟩)), (1, .pointer (some ⟨b', 0, none⟩)), (5, .int .i64 i)] ∧ h = hh) (n := st.length) ?_ fun k l hh hI => ?_
    · exact ⟨0, by omega, by omega, by omega, fun j hj => by omega, rfl, rfl⟩
    · obtain ⟨i, hi0, hi1, rfl, hall, rfl, rfl⟩ := hI
      refine w_seq ?_
      refine w_seq ?_
      refine w_region (by kernel_rfl) ?_
      refine o_move gn rfl rfl ?_
      refine o_move gn rfl rfl ?_
      refine o_nilCheck gn rfl rfl ?_
      refine o_fieldAddr (off := 0) gn rfl rfl (by kernel_rfl) ?_
      refine o_load gn rfl rfl (by kernel_rfl) ht rfl ?_
      refine o_len gn rfl rfl (by kernel_rfl) ?_
      refine o_lss gn rfl rfl rfl ?_
      refine wl_end ?_
      refine w_cond rfl (fun hb => ?_) fun hb => ?_
      · skip
        refine w_skip ?_
        refine w_seq ?_
        have hlt : i < st.length := by simp [e1] at hb; omega
        obtain ⟨bb, m, q1, hbb, _, _, _⟩ := hl.comps.at (by omega)
        simp only [Value.slice.injEq, and_true] at q1
        obtain ⟨rfl, _⟩ := q1
        obtain ⟨bb', m', q2, hbb', _, _, _⟩ := hl'.comps.at (by omega)
        simp only [Value.slice.injEq, and_true] at q2
        obtain ⟨rfl, _⟩ := q2
        refine w_block ?_
        refine w_seq ?_
        refine w_draw [(0, []), (1, []), (2, []), (3, []), (4, []), (5, []), (6, []), (7, []), (8, []), (9, []), (10, []), (11, []), (12, []), (13, []), (14, [])] (by kernel_rfl) (by kernel_rfl) (by kernel_rfl) (by kernel_rfl) ?_
        refine o_move gn rfl rfl ?_
        refine o_nilCheck gn rfl rfl ?_
        refine o_fieldAddr (off := 0) gn rfl rfl (by kernel_rfl) ?_
        refine o_load gn rfl rfl (by kernel_rfl) ht rfl ?_
        refine o_move gn rfl rfl ?_
        refine o_indexAddr (zz := 1) gn rfl rfl rfl (by kernel_rfl) (by omega) (by omega) ?_
        refine o_load gn rfl rfl (by kernel_rfl) hbb (at_int i.toNat (by omega) (by omega)) ?_
        refine o_move gn rfl rfl ?_
        refine o_nilCheck gn rfl rfl ?_
        refine o_fieldAddr (off := 0) gn rfl rfl (by kernel_rfl) ?_
        refine o_load gn rfl rfl (by kernel_rfl) ht' rfl ?_
        refine o_move gn rfl rfl ?_
        refine o_indexAddr (zz := 1) gn rfl rfl rfl (by kernel_rfl) (by omega) (by omega) ?_
        refine o_load gn rfl rfl (by kernel_rfl) hbb' (at_int i.toNat (by omega) (by omega)) ?_
        refine o_nei gn rfl rfl rfl ?_
        refine wl_end ?_
        refine w_cond rfl (fun hb => ?_) fun hb => ?_
        · skip
          refine w_seq ?_
          refine w_region (by kernel_rfl) ?_
          refine o_assign gn rfl rfl ?_
          refine wl_end ?_
          refine w_ret ?_
          refine ⟨.inl rfl, _, rfl, ?_⟩
          have hne : st ≠ st' := fun e => by subst e; simp at hb
          exact ⟨by simp [oneOf, hne], rfl⟩
        · skip
          refine w_skip ?_
          refine w_region (by kernel_rfl) ?_
          refine o_move gn rfl rfl ?_
          refine o_add gn rfl rfl rfl (by omega) (by omega) ?_
          refine o_assign gn rfl rfl ?_
          refine wl_end ?_
          exact ⟨(st.length - (i + 1).toNat), by omega, _, (by repeat (first | exact trivial | refine ⟨rfl, ?_⟩)), ⟨i + 1, by omega, by omega, rfl, fun j hj => by
  by_cases hji : j < i.toNat
  · exact hall j hji
  · have : j = i.toNat := by omega
    subst this
    have hb' : (st[i.toNat]?).getD 0 = (st'[i.toNat]?).getD 0 := by simpa using hb
    rw [List.getElem?_eq_getElem (show i.toNat < st.length by omega), List.getElem?_eq_getElem (show i.toNat < st'.length by omega)] at hb' ⊢
    simpa using hb', rfl, rfl⟩⟩
      · skip
        refine w_exit ?_
        refine thn_exit ?_
        refine rnd_exit ?_
        refine blk_eq ?_
        have heq : st = st' := List.ext_getElem? fun j => by
          simp [e1] at hb
          by_cases hj : j < st.length
          · exact hall j (by omega)
          · rw [List.getElem?_eq_none (by omega), List.getElem?_eq_none (by omega)]
        refine w_seq ?_
        refine w_seq ?_
        refine w_region (by kernel_rfl) ?_
        refine o_assign gn rfl rfl ?_
        refine wl_end ?_
        refine w_block ?_
        refine w_weak [(0, .pointer (some ⟨b, 0, none⟩)), (1, .pointer (some ⟨b', 0, none⟩)), (6, .int .i64 0)] (by repeat (first | exact trivial | refine ⟨rfl, ?_⟩)) ?_
        refine w_loop (fun k l hh => ∃ j : Int, 0 ≤ j ∧ j ≤ on.length ∧ k = on.length - j.toNat ∧ (∀ i : Nat, i < j.toNat → on[i]? = on'[i]?) ∧ l = [(0, .pointer (some ⟨b, 0, none⟩)), (1, .pointer (some ⟨b', 0, none⟩)), (6, .int .i64 j)] ∧ h = hh) (n := on.length) ?_ fun k l hh hI => ?_
        · exact ⟨0, by omega, by omega, by omega, fun j hj => by omega, rfl, rfl⟩
        · obtain ⟨j, hj0, hj1, rfl, hall2, rfl, rfl⟩ := hI
          refine w_seq ?_
          refine w_seq ?_
          refine w_region (by kernel_rfl) ?_
          refine o_move gn rfl rfl ?_
          refine o_move gn rfl rfl ?_
          refine o_nilCheck gn rfl rfl ?_
          refine o_fieldAddr (off := 1) gn rfl rfl (by kernel_rfl) ?_
          refine o_load gn rfl rfl (by kernel_rfl) ht rfl ?_
          refine o_len gn rfl rfl (by kernel_rfl) ?_
          refine o_lss gn rfl rfl rfl ?_
          refine wl_end ?_
          refine w_cond rfl (fun hb => ?_) fun hb => ?_
          · skip
            refine w_skip ?_
            refine w_seq ?_
            have hlt : j < on.length := by simp at hb; omega
            obtain ⟨bb, m, rfl, _, hbb, _, _, _⟩ := hl.atO (by omega)
            obtain ⟨bb', m', rfl, _, hbb', _, _, _⟩ := hl'.atO (by omega)
            refine w_block ?_
            refine w_seq ?_
            refine w_draw [(0, []), (1, []), (2, []), (3, []), (4, []), (5, []), (6, []), (7, []), (8, []), (9, []), (10, []), (11, []), (12, []), (13, []), (14, [])] (by kernel_rfl) (by kernel_rfl) (by kernel_rfl) (by kernel_rfl) ?_
            refine o_move gn rfl rfl ?_
            refine o_nilCheck gn rfl rfl ?_
            refine o_fieldAddr (off := 1) gn rfl rfl (by kernel_rfl) ?_
            refine o_load gn rfl rfl (by kernel_rfl) ht rfl ?_
            refine o_move gn rfl rfl ?_
            refine o_indexAddr (zz := 1) gn rfl rfl rfl (by kernel_rfl) (by omega) (by omega) ?_
            refine o_load gn rfl rfl (by kernel_rfl) hbb (at_bool j.toNat (by omega) (by omega)) ?_
            refine o_move gn rfl rfl ?_
            refine o_nilCheck gn rfl rfl ?_
            refine o_fieldAddr (off := 1) gn rfl rfl (by kernel_rfl) ?_
            refine o_load gn rfl rfl (by kernel_rfl) ht' rfl ?_
            refine o_move gn rfl rfl ?_
            refine o_indexAddr (zz := 1) gn rfl rfl rfl (by kernel_rfl) (by omega) (by omega) ?_
            refine o_load gn rfl rfl (by kernel_rfl) hbb' (at_bool j.toNat (by omega) (by omega)) ?_
            refine o_neb gn rfl rfl rfl (by kernel_rfl) ?_
            refine wl_end ?_
            refine w_cond rfl (fun hb => ?_) fun hb => ?_
            · skip
              refine w_seq ?_
              refine w_region (by kernel_rfl) ?_
              refine o_assign gn rfl rfl ?_
              refine wl_end ?_
              refine w_ret ?_
              refine ⟨.inl rfl, _, rfl, ?_⟩
              have hne : on ≠ on' := fun e => by subst e; simp at hb
              exact ⟨by simp [oneOf, hne], rfl⟩
            · skip
              refine w_skip ?_
              refine w_region (by kernel_rfl) ?_
              refine o_move gn rfl rfl ?_
              refine o_add gn rfl rfl rfl (by omega) (by omega) ?_
              refine o_assign gn rfl rfl ?_
              refine wl_end ?_
              exact ⟨(on.length - (j + 1).toNat), by omega, _, (by repeat (first | exact trivial | refine ⟨rfl, ?_⟩)), ⟨j + 1, by omega, by omega, rfl, fun i hj => by
  by_cases hji : i < j.toNat
  · exact hall2 i hji
  · have : i = j.toNat := by omega
    subst this
    have hb' : (on[j.toNat]?).getD false = (on'[j.toNat]?).getD false := by simpa using hb
    rw [List.getElem?_eq_getElem (show j.toNat < on.length by omega), List.getElem?_eq_getElem (show j.toNat < on'.length by omega)] at hb' ⊢
    simpa using hb', rfl, rfl⟩⟩
          · skip
            refine w_exit ?_
            refine thn_exit ?_
            refine rnd_exit ?_
            refine blk_eq ?_
            refine w_seq ?_
            refine w_region (by kernel_rfl) ?_
            refine o_assign gn rfl rfl ?_
            refine wl_end ?_
            refine w_ret ?_
            refine ⟨.inl rfl, _, rfl, ?_⟩
            have heq2 : on = on' := List.ext_getElem? fun i => by
              simp at hb
              by_cases hj : i < on.length
              · exact hall2 i (by omega)
              · rw [List.getElem?_eq_none (by omega), List.getElem?_eq_none (by omega)]
            exact ⟨by simp [oneOf, heq, heq2], rfl⟩

end Go.Proofs.Ytkmbfjdmbdpflaa

