/- Chapter 9, the document's side: State, On, Set, Go, Copy, New, Same. Conditions: none. -/
import Derived.Test.YtkmbfjdmbdpflaaLifeR
namespace Go.Proofs.Ytkmbfjdmbdpflaa
open Go.X

theorem RefR.val {h : Hp} {b : Nat} {st : List Int} {on : List Bool} {sc so : Value} {B1 B2 : List Nat} (hl : RefR h b (rV st) on sc so B1 B2) : ∃ a, sc = .slice a st.length st.length := by
  obtain ⟨a, ea⟩ := hl.comps.val
  simp only [stV, List.length_map, rV_len] at ea
  exact ⟨a, ea⟩
theorem RefR.valOn {h : Hp} {b : Nat} {st : List Int} {on : List Bool} {sc so : Value} {B1 B2 : List Nat} (hl : RefR h b st on sc so B1 B2) : ∃ a, so = .slice a on.length on.length := by
  obtain ⟨a, ea⟩ := hl.evs.val
  simp only [onV, List.length_map] at ea
  exact ⟨a, ea⟩
theorem RefR.atC {h : Hp} {b : Nat} {st : List Int} {on : List Bool} {a : Option Addr} {n : Nat} {so : Value} {B1 B2 : List Nat} (hl : RefR h b (rV st) on (.slice a n n) so B1 B2) (hn : 0 < st.length) :
    ∃ bb m, a = some ⟨bb, 0, none⟩ ∧ n = st.length ∧ h.get bb = some (.cells (stV (rV st)) 3 m) ∧ (m = 0 ∨ m = 3) ∧ bb < h.n ∧ B1 = [bb] := by
  obtain ⟨bb, m, e2, hbb, hm, h1, h2⟩ := hl.comps.at (by simp [stV, rV_len, hn])
  simp only [stV, List.length_map, rV_len, Value.slice.injEq, and_true] at e2
  exact ⟨bb, m, e2.1, e2.2.1, hbb, hm, h1, h2⟩
theorem RefR.atO {h : Hp} {b : Nat} {st : List Int} {on : List Bool} {a : Option Addr} {n : Nat} {sc : Value} {B1 B2 : List Nat} (hl : RefR h b st on sc (.slice a n n) B1 B2) (hn : 0 < on.length) :
    ∃ bb m, a = some ⟨bb, 0, none⟩ ∧ n = on.length ∧ h.get bb = some (.cells (onV on) 4 m) ∧ (m = 0 ∨ m = 3) ∧ bb < h.n ∧ B2 = [bb] := by
  obtain ⟨bb, m, e2, hbb, hm, h1, h2⟩ := hl.evs.at (by simp [onV, hn])
  simp only [onV, List.length_map, Value.slice.injEq, and_true] at e2
  exact ⟨bb, m, e2.1, e2.2.1, hbb, hm, h1, h2⟩

/-- One more item has been appended, and the new slice stored. -/
theorem RefR.push {h h1 h' : Hp} {b : Nat} {st : List Int} {on : List Bool} {sc so v' : Value} {B1 B2 bs' : List Nat} {x : Int} (hl : RefR h b st on sc so B1 B2) (g1 : Ext h h1) (hs : Sl 3 h' v' (stV (st ++ [x])) bs') (he : ExtB B1 h1 h')
    (hb : ∀ j, j ∈ bs' → j ∈ B1 ∨ h.n ≤ j) : RefR (h'.put b (.cells [v', so] 96 0)) b (st ++ [x]) on v' so bs' B2 ∧ h.n ≤ (h'.put b (.cells [v', so] 96 0)).n ∧
    ∀ j, j < h.n → j ≠ b → j ∉ B1 → (h'.put b (.cells [v', so] 96 0)).get j = h.get j := by
  have hlt := hl.lt
  have n1 := g1.n
  have n2 := he.n
  have hE := ExtB.put h' b (.cells [v', so] 96 0)
  have hbn : b ∉ bs' := fun hm => by
    rcases hb b hm with h1 | h1
    · exact hl.d1 h1
    · omega
  refine ⟨⟨Hp.get_put_self _ _ _, by rw [Hp.n_put]; omega, hs.keep hE (fun i hi hj => by simp at hj; subst hj; exact hbn hi), ((hl.evs.ext g1).keep he (fun i hi hj => hl.d3 i hj hi)).keep hE (fun i hi hj => by simp at hj; subst hj; exact hl.d2 hi), hbn, hl.d2, fun i hi hj => ?_⟩, by rw [Hp.n_put]; omega, fun j h3 h4 h5 => ?_⟩
  · rcases hb i hi with h1 | h1
    · exact hl.d3 i h1 hj
    · have := hl.evs.lt i hj; omega
  · rw [Hp.get_put, if_neg (fun e => h4 e.symm), he.get j (by omega) h5, g1.get j h3]

/-- State -/
theorem c49 {h : Hp} {b : Nat} {st : List Int} {on : List Bool} {sc so : Value} {B1 B2 : List Nat} {c : Int} (hl : RefR h b (rV st) on sc so B1 B2) :
    CP lifeE 49 [.pointer (some ⟨b, 0, none⟩), .int .i64 c] h (.int .i64 (if 0 ≤ c ∧ c < st.length then stAt st c - 1 else -1)) := by
  have ht := hl.top
  obtain ⟨a, rfl⟩ := hl.val
  have hlen := rV_len st
  refine c_enter (fu := Try.f49) (by kernel_rfl) rfl ?_
  refine w_seq ?_
  refine w_region (by kernel_rfl) ?_
  refine o_assign gn rfl rfl ?_
  refine wl_end ?_
  refine w_seq ?_
  refine w_seq ?_
  refine w_region (by kernel_rfl) ?_
  refine o_move gn rfl rfl ?_
  refine o_lss gn rfl rfl rfl ?_
  refine o_move gn rfl rfl ?_
  refine o_or (n := 7) rfl rfl rfl gn rfl (fun hb => by
      refine o_move (gy rfl rfl rfl hb) rfl rfl ?_
      refine o_move (gy rfl rfl rfl hb) rfl rfl ?_
      refine o_nilCheck (gy rfl rfl rfl hb) rfl rfl ?_
      refine o_fieldAddr (off := 0) (gy rfl rfl rfl hb) rfl rfl (by kernel_rfl) ?_
      refine o_load (gy rfl rfl rfl hb) rfl rfl (by kernel_rfl) (by assumption) rfl ?_
      refine o_len (gy rfl rfl rfl hb) rfl rfl (by kernel_rfl) ?_
      refine o_geq (gy rfl rfl rfl hb) rfl rfl rfl ?_
      exact wl_end ⟨rfl, rfl, 7, rfl, rfl⟩) ?_
  refine wl_end ?_
  refine w_cond rfl (fun hb => ?_) fun hb => ?_
  · skip
    refine w_seq ?_
    refine w_region (by kernel_rfl) ?_
    refine o_assign gn rfl rfl ?_
    refine wl_end ?_
    refine w_ret ?_
    refine ⟨.inl rfl, _, rfl, ?_⟩
    have hb' : ¬ (0 ≤ c ∧ c < st.length) := by simp at hb; omega
    exact ⟨by rw [if_neg hb']; rfl, rfl⟩
  · skip
    have hb' : 0 ≤ c ∧ c < st.length := by simp at hb; omega
    obtain ⟨bb, m, rfl, _, hbb, hm, _, _⟩ := hl.atC (by omega)
    refine w_skip ?_
    refine w_seq ?_
    refine w_region (by kernel_rfl) ?_
    refine o_move gn rfl rfl ?_
    refine o_nilCheck gn rfl rfl ?_
    refine o_fieldAddr (off := 0) gn rfl rfl (by kernel_rfl) ?_
    refine o_load gn rfl rfl (by kernel_rfl) (by assumption) rfl ?_
    refine o_move gn rfl rfl ?_
    refine o_indexAddr (zz := 1) gn rfl rfl rfl (by kernel_rfl) (by omega) (by omega) ?_
    refine o_load gn rfl rfl (by kernel_rfl) hbb (at_int c.toNat (by omega) (by omega)) ?_
    refine o_assign gn rfl rfl ?_
    refine wl_end ?_
    refine w_ret ?_
    refine ⟨.inl rfl, _, rfl, ?_⟩
    exact ⟨by rw [if_pos hb']; simp only [oneOf]; rw [rV_at (by omega)]; rfl, rfl⟩

/-- On -/
theorem c50 {h : Hp} {b : Nat} {st : List Int} {on : List Bool} {sc so : Value} {B1 B2 : List Nat} {c : Int} (hl : RefR h b st on sc so B1 B2) :
    CP lifeE 50 [.pointer (some ⟨b, 0, none⟩), .int .i64 c] h (.bool (decide (0 ≤ c) && (on[c.toNat]?).getD false)) := by
  have ht := hl.top
  obtain ⟨a, rfl⟩ := hl.valOn
  refine c_enter (fu := Try.f50) (by kernel_rfl) rfl ?_
  refine w_seq ?_
  refine w_region (by kernel_rfl) ?_
  refine o_assign gn rfl rfl ?_
  refine wl_end ?_
  refine w_seq ?_
  refine w_region (by kernel_rfl) ?_
  refine o_move gn rfl rfl ?_
  refine o_geq gn rfl rfl rfl ?_
  refine o_move gn rfl rfl ?_
  refine o_and (n := 7) rfl rfl rfl gn rfl (fun hb => by
      refine o_move (gy rfl rfl rfl hb) rfl rfl ?_
      refine o_move (gy rfl rfl rfl hb) rfl rfl ?_
      refine o_nilCheck (gy rfl rfl rfl hb) rfl rfl ?_
      refine o_fieldAddr (off := 1) (gy rfl rfl rfl hb) rfl rfl (by kernel_rfl) ?_
      refine o_load (gy rfl rfl rfl hb) rfl rfl (by kernel_rfl) (by assumption) rfl ?_
      refine o_len (gy rfl rfl rfl hb) rfl rfl (by kernel_rfl) ?_
      refine o_lss (gy rfl rfl rfl hb) rfl rfl rfl ?_
      exact wl_end ⟨rfl, rfl, 7, rfl, rfl⟩) ?_
  refine o_move gn rfl rfl ?_
  refine o_and (n := 7) rfl rfl rfl gn rfl (fun hb => by
      have hb' : 0 ≤ c ∧ c < on.length := by simp at hb; omega
      obtain ⟨bb, m, rfl, _, hbb, hm, _, _⟩ := hl.atO (by omega)
      refine o_move (gy rfl rfl rfl hb) rfl rfl ?_
      refine o_nilCheck (gy rfl rfl rfl hb) rfl rfl ?_
      refine o_fieldAddr (off := 1) (gy rfl rfl rfl hb) rfl rfl (by kernel_rfl) ?_
      refine o_load (gy rfl rfl rfl hb) rfl rfl (by kernel_rfl) (by assumption) rfl ?_
      refine o_move (gy rfl rfl rfl hb) rfl rfl ?_
      refine o_indexAddr (zz := 1) (gy rfl rfl rfl hb) rfl rfl rfl (by kernel_rfl) (by omega) (by omega) ?_
      refine o_load (gy rfl rfl rfl hb) rfl rfl (by kernel_rfl) hbb (at_bool c.toNat (by omega) (by omega)) ?_
      exact wl_end ⟨rfl, rfl, 7, rfl, rfl⟩) ?_
  refine o_assign gn rfl rfl ?_
  refine wl_end ?_
  refine w_ret ?_
  refine ⟨.inl rfl, _, rfl, ?_⟩
  exact ⟨by
    simp only [oneOf]
    by_cases h1 : c < on.length
    · simp [h1]
    · by_cases h0 : 0 ≤ c
      · simp [h1, List.getElem?_eq_none (show on.length ≤ c.toNat by omega)]
      · simp [h0], rfl⟩

/-- Set -/
theorem c53 {h : Hp} {b : Nat} {st : List Int} {on : List Bool} {sc so : Value} {B1 B2 : List Nat} {e : Int} {x : Bool} (hl : RefR h b st on sc so B1 B2) :
    C lifeE 53 [.pointer (some ⟨b, 0, none⟩), .int .i64 e, .bool x] h fun v h' => v = .bool (setRes on e x) ∧ RefR h' b st (setOn on e x) sc so B1 B2 ∧ ExtB B2 h h' := by
  have ht := hl.top
  obtain ⟨a, rfl⟩ := hl.valOn
  refine c_enter (fu := Try.f53) (by kernel_rfl) rfl ?_
  refine w_seq ?_
  refine w_region (by kernel_rfl) ?_
  refine o_assign gn rfl rfl ?_
  refine wl_end ?_
  refine w_seq ?_
  refine w_seq ?_
  refine w_region (by kernel_rfl) ?_
  refine o_move gn rfl rfl ?_
  refine o_lss gn rfl rfl rfl ?_
  refine o_move gn rfl rfl ?_
  refine o_or (n := 7) rfl rfl rfl gn rfl (fun hb => by
      refine o_move (gy rfl rfl rfl hb) rfl rfl ?_
      refine o_move (gy rfl rfl rfl hb) rfl rfl ?_
      refine o_nilCheck (gy rfl rfl rfl hb) rfl rfl ?_
      refine o_fieldAddr (off := 1) (gy rfl rfl rfl hb) rfl rfl (by kernel_rfl) ?_
      refine o_load (gy rfl rfl rfl hb) rfl rfl (by kernel_rfl) (by assumption) rfl ?_
      refine o_len (gy rfl rfl rfl hb) rfl rfl (by kernel_rfl) ?_
      refine o_geq (gy rfl rfl rfl hb) rfl rfl rfl ?_
      exact wl_end ⟨rfl, rfl, 7, rfl, rfl⟩) ?_
  refine wl_end ?_
  refine w_cond rfl (fun hb => ?_) fun hb => ?_
  · skip
    refine w_seq ?_
    refine w_region (by kernel_rfl) ?_
    refine o_assign gn rfl rfl ?_
    refine wl_end ?_
    refine w_ret ?_
    refine ⟨.inl rfl, _, rfl, ?_⟩
    have hr : ¬ (0 ≤ e ∧ e < on.length) := by simp at hb; omega
    exact ⟨by simp [oneOf, setRes, hr], by rw [setOn, if_neg hr]; exact hl, .refl _ _⟩
  · skip
    have hr : 0 ≤ e ∧ e < on.length := by simp at hb; omega
    obtain ⟨bb, m, rfl, _, hbb, hm, hblt, hB⟩ := hl.atO (by omega)
    refine w_skip ?_
    refine w_seq ?_
    refine w_region (by kernel_rfl) ?_
    refine o_move gn rfl rfl ?_
    refine o_move gn rfl rfl ?_
    refine o_and (n := 8) rfl rfl rfl gn rfl (fun hb => by
        refine o_move (gy rfl rfl rfl hb) rfl rfl ?_
        refine o_nilCheck (gy rfl rfl rfl hb) rfl rfl ?_
        refine o_fieldAddr (off := 1) (gy rfl rfl rfl hb) rfl rfl (by kernel_rfl) ?_
        refine o_load (gy rfl rfl rfl hb) rfl rfl (by kernel_rfl) (by assumption) rfl ?_
        refine o_move (gy rfl rfl rfl hb) rfl rfl ?_
        refine o_indexAddr (zz := 1) (gy rfl rfl rfl hb) rfl rfl rfl (by kernel_rfl) (by omega) (by omega) ?_
        refine o_load (gy rfl rfl rfl hb) rfl rfl (by kernel_rfl) hbb (at_bool e.toNat (by omega) (by omega)) ?_
        refine o_not (gy rfl rfl rfl hb) rfl rfl ?_
        exact wl_end ⟨rfl, rfl, 8, rfl, rfl⟩) ?_
    refine o_assign gn rfl rfl ?_
    refine wl_end ?_
    refine w_seq ?_
    refine w_region (by kernel_rfl) ?_
    refine o_move gn rfl rfl ?_
    refine o_nilCheck gn rfl rfl ?_
    refine o_fieldAddr (off := 1) gn rfl rfl (by kernel_rfl) ?_
    refine o_load gn rfl rfl (by kernel_rfl) (by assumption) rfl ?_
    refine o_move gn rfl rfl ?_
    refine o_move gn rfl rfl ?_
    refine o_indexAddr (zz := 1) gn rfl rfl rfl (by kernel_rfl) (by omega) (by omega) ?_
    refine o_store gn rfl rfl rfl (by kernel_rfl) (by assumption) (by omega) (by simp [onV]; omega) ag0 ?_
    refine wl_end ?_
    refine w_seq ?_
    refine w_region (by kernel_rfl) ?_
    refine o_move gn rfl rfl ?_
    refine o_assign gn rfl rfl ?_
    refine wl_end ?_
    refine w_ret ?_
    refine ⟨.inl rfl, _, rfl, ?_⟩
    have hset : (onV on).set (0 + e.toNat * 1) (.bool x) = onV (on.set e.toNat x) := by simp [onV, List.map_set]
    rw [hset]
    obtain ⟨r1, r2⟩ := hl.setOn hB hm hblt (on.set e.toNat x) (by simp)
    exact ⟨by simp [oneOf, setRes, hr], by rw [setOn, if_pos hr]; exact r1, r2⟩

/-- Go -/
theorem c51 {h : Hp} {b : Nat} {st : List Int} {on : List Bool} {sc so : Value} {B1 B2 : List Nat} {c w : Int} (hl : RefR h b (rV st) on sc so B1 B2) :
    C lifeE 51 [.pointer (some ⟨b, 0, none⟩), .int .i64 c, .int .i64 w] h fun v h' => v = .int .i64 (goErr st c w) ∧ RefR h' b (rV (goSt st c w)) on sc so B1 B2 ∧ ExtB B1 h h' := by
  have ht := hl.top
  obtain ⟨a, rfl⟩ := hl.val
  have hlen := rV_len st
  refine c_enter (fu := Try.f51) (by kernel_rfl) rfl ?_
  refine w_seq ?_
  refine w_region (by kernel_rfl) ?_
  refine o_assign gn rfl rfl ?_
  refine wl_end ?_
  refine w_seq ?_
  refine w_seq ?_
  refine w_region (by kernel_rfl) ?_
  refine o_move gn rfl rfl ?_
  refine o_lss gn rfl rfl rfl ?_
  refine o_move gn rfl rfl ?_
  refine o_or (n := 7) rfl rfl rfl gn rfl (fun hb => by
      refine o_move (gy rfl rfl rfl hb) rfl rfl ?_
      refine o_move (gy rfl rfl rfl hb) rfl rfl ?_
      refine o_nilCheck (gy rfl rfl rfl hb) rfl rfl ?_
      refine o_fieldAddr (off := 0) (gy rfl rfl rfl hb) rfl rfl (by kernel_rfl) ?_
      refine o_load (gy rfl rfl rfl hb) rfl rfl (by kernel_rfl) (by assumption) rfl ?_
      refine o_len (gy rfl rfl rfl hb) rfl rfl (by kernel_rfl) ?_
      refine o_geq (gy rfl rfl rfl hb) rfl rfl rfl ?_
      exact wl_end ⟨rfl, rfl, 7, rfl, rfl⟩) ?_
  refine o_move gn rfl rfl ?_
  refine o_or (n := 2) rfl rfl rfl gn rfl (fun hb => by
      refine o_move (gy rfl rfl rfl hb) rfl rfl ?_
      refine o_lss (gy rfl rfl rfl hb) rfl rfl rfl ?_
      exact wl_end ⟨rfl, rfl, 2, rfl, rfl⟩) ?_
  refine o_move gn rfl rfl ?_
  refine o_or (n := 2) rfl rfl rfl gn rfl (fun hb => by
      refine o_move (gy rfl rfl rfl hb) rfl rfl ?_
      refine o_gtr (gy rfl rfl rfl hb) rfl rfl rfl ?_
      exact wl_end ⟨rfl, rfl, 2, rfl, rfl⟩) ?_
  refine wl_end ?_
  refine w_cond rfl (fun hb => ?_) fun hb => ?_
  · skip
    refine w_seq ?_
    refine w_region (by kernel_rfl) ?_
    refine o_assign gn rfl rfl ?_
    refine wl_end ?_
    refine w_ret ?_
    refine ⟨.inl rfl, _, rfl, ?_⟩
    have he : goErr st c w = 2 := by
      unfold goErr; rw [if_neg]; intro hh; simp at hb; omega
    exact ⟨by rw [he]; rfl, by rw [goSt, he, if_neg (by decide)]; exact hl, .refl _ _⟩
  · skip
    have hr : 0 ≤ c ∧ c < st.length ∧ 0 ≤ w ∧ w ≤ 3 := by simp at hb; omega
    refine w_skip ?_
    refine w_seq ?_
    refine w_seq ?_
    refine w_region (by kernel_rfl) ?_
    refine o_move gn rfl rfl ?_
    refine o_move gn rfl rfl ?_
    refine o_move gn rfl rfl ?_
    refine o_call [_, _, _] gn rfl rfl (by kernel_rfl) rfl (c_pure (c52 hl) ⟨ag0, ?_⟩)
    refine o_not gn rfl rfl ?_
    refine wl_end ?_
    refine w_cond rfl (fun hb => ?_) fun hb => ?_
    · skip
      refine w_seq ?_
      refine w_region (by kernel_rfl) ?_
      refine o_assign gn rfl rfl ?_
      refine wl_end ?_
      refine w_ret ?_
      refine ⟨.inl rfl, _, rfl, ?_⟩
      have hm : mayGo (stAt st c) w = false := by simpa [hr.1, hr.2.1] using hb
      have he : goErr st c w = 10 := by unfold goErr; rw [if_pos hr, hm]; rfl
      exact ⟨by rw [he]; rfl, by rw [goSt, he, if_neg (by decide)]; exact hl, .refl _ _⟩
    · skip
      obtain ⟨bb, m, rfl, _, hbb, hm, hblt, hB⟩ := hl.atC (by omega)
      refine w_skip ?_
      refine w_seq ?_
      refine w_region (by kernel_rfl) ?_
      refine o_move gn rfl rfl ?_
      refine o_nilCheck gn rfl rfl ?_
      refine o_fieldAddr (off := 0) gn rfl rfl (by kernel_rfl) ?_
      refine o_load gn rfl rfl (by kernel_rfl) (by assumption) rfl ?_
      refine o_move gn rfl rfl ?_
      refine o_move gn rfl rfl ?_
      refine o_indexAddr (zz := 1) gn rfl rfl rfl (by kernel_rfl) (by omega) (by omega) ?_
      refine o_store gn rfl rfl rfl (by kernel_rfl) (by assumption) (by omega) (by simp [stV, hlen]; omega) ag0 ?_
      refine wl_end ?_
      refine w_seq ?_
      refine w_region (by kernel_rfl) ?_
      refine o_assign gn rfl rfl ?_
      refine wl_end ?_
      refine w_ret ?_
      refine ⟨.inl rfl, _, rfl, ?_⟩
      have hm' : mayGo (stAt st c) w = true := by simpa [hr.1, hr.2.1] using hb
      have he : goErr st c w = 0 := by unfold goErr; rw [if_pos hr, if_pos hm']
      have hset : (stV (rV st)).set (0 + c.toNat * 1) (.int .i64 w) = stV (rV (st.set c.toNat (w + 1))) := by simp [stV, rV, List.map_set]
      rw [hset]
      obtain ⟨r1, r2⟩ := hl.setSt hB hm hblt (rV (st.set c.toNat (w + 1))) (by simp [rV])
      exact ⟨by rw [he]; rfl, by rw [goSt, he, if_pos rfl]; exact r1, r2⟩

/-- Copy -/
theorem c24 {h : Hp} {b : Nat} {st : List Int} {on : List Bool} {sc so : Value} {B1 B2 : List Nat} (hl : RefR h b st on sc so B1 B2) (h1 : st.length ≤ 100000) (h2 : on.length ≤ 100000) :
    C lifeE 24 [.pointer (some ⟨b, 0, none⟩)] h fun v h' => ∃ b' sc' so' B1' B2', v = .pointer (some ⟨b', 0, none⟩) ∧ RefR h' b' st on sc' so' B1' B2' ∧ Ext h h' ∧ Fresh h b' B1' B2' := by
  have ht := hl.top
  obtain ⟨a, rfl⟩ := hl.comps.val
  obtain ⟨a', rfl⟩ := hl.evs.val
  obtain ⟨v1, hp1, B1', p1, s1, x1, f1⟩ := append_nil (E := lifeE) el3 (hl.comps.src (all_int _)) (by simp [stV]; omega)
  obtain ⟨v2, hp2, B2', p2, s2, x2, f2⟩ := append_nil (E := lifeE) el4 ((hl.evs.src (all_bool _)).ext x1) (by simp [onV]; omega)
  obtain ⟨a5, rfl⟩ := s1.val
  obtain ⟨a6, rfl⟩ := s2.val
  have ht1 : hp1.get b = _ := (x1.get b hl.lt).trans ht
  refine c_enter (fu := Try.f24) (by kernel_rfl) rfl ?_
  refine w_seq ?_
  refine w_region (by kernel_rfl) ?_
  refine o_assign gn rfl rfl ?_
  refine wl_end ?_
  refine w_seq ?_
  refine w_draw [(0, []), (1, []), (2, []), (3, []), (5, []), (6, []), (7, []), (8, []), (4, [8]), (9, []), (10, []), (11, []), (12, [])] (by kernel_rfl) (by kernel_rfl) (by kernel_rfl) (by kernel_rfl) ?_
  refine o_move gn rfl rfl ?_
  refine o_nilCheck gn rfl rfl ?_
  refine o_fieldAddr (off := 0) gn rfl rfl (by kernel_rfl) ?_
  refine o_load gn rfl rfl (by kernel_rfl) ht rfl ?_
  refine o_move gn rfl rfl ?_
  refine o_nilCheck gn rfl rfl ?_
  refine o_fieldAddr (off := 1) gn rfl rfl (by kernel_rfl) ?_
  refine o_load gn rfl rfl (by kernel_rfl) ht rfl ?_
  refine o_append gn rfl rfl rfl p1 (ag1 (ag_load gn rfl (by kernel_rfl) ht1 rfl rfl same_slice) ag0) ?_
  refine o_append gn rfl rfl rfl p2 ag0 ?_
  refine o_build (zv := .agg #[.slice none 0 0, .slice none 0 0]) (pl := [(0, 1), (1, 1)]) [(0, _), (1, _)] gn rfl (by kernel_rfl) (by kernel_rfl) rfl rfl ?_
  refine o_box gn rfl rfl ?_
  refine o_assign gn rfl rfl ?_
  refine wl_end ?_
  refine w_ret ?_
  refine ⟨.inl rfl, _, rfl, ?_⟩
  have l1 := s1.lt
  have n1 := x1.n
  have n2 := x2.n
  obtain ⟨r1, r2⟩ := RefR.new (s1.ext x2) s2 (fun i hi hj => by have := l1 i hi; have := f2 i hj; omega)
  exact ⟨hp2.n, _, _, B1', B2', rfl, r1, (x1.trans x2).trans r2, by omega, f1, fun i hi => by have := f2 i hi; omega⟩

theorem stV_snoc (l : List Int) (x : Int) : stV (l ++ [x]) = stV l ++ [.int .i64 x] := by simp [stV]

/-- New -/
theorem c15 {h : Hp} {a : Option Addr} {n c : Nat} {on : List Bool} {k0 : Int} (hs : Src h (.slice a n c) (onV on)) (h1 : k0 ≤ 100000) (h2 : on.length ≤ 100000) :
    C lifeE 15 [.int .i64 k0, .slice a n c] h fun v h' => ∃ b' sc' so' B1' B2', v = .pointer (some ⟨b', 0, none⟩) ∧ RefR h' b' (List.replicate k0.toNat (-1)) on sc' so' B1' B2' ∧ Ext h h' ∧ Fresh h b' B1' B2' := by
  obtain ⟨v1, hp1, B2', p1, s1, x1, f1⟩ := append_nil (E := lifeE) el4 hs (by simp [onV]; omega)
  obtain ⟨a5, rfl⟩ := s1.val
  have l1 := s1.lt
  have n1 := x1.n
  obtain ⟨r1, r2⟩ := RefR.new (h := hp1) (st := []) (sc := .slice none 0 0) (B1 := []) (.inl ⟨rfl, rfl, rfl⟩) s1 (by simp)
  refine c_enter (fu := Try.f15) (by kernel_rfl) rfl ?_
  refine w_seq ?_
  refine w_region (by kernel_rfl) ?_
  refine o_assign gn rfl rfl ?_
  refine wl_end ?_
  refine w_seq ?_
  refine w_region (by kernel_rfl) ?_
  refine o_move gn rfl rfl ?_
  refine o_append gn rfl rfl rfl p1 ag0 ?_
  refine o_build (zv := .agg #[.slice none 0 0, .slice none 0 0]) (pl := [(0, 1), (1, 1)]) [(1, _)] gn rfl (by kernel_rfl) (by kernel_rfl) rfl rfl ?_
  refine o_box gn rfl rfl ?_
  refine o_assign gn rfl rfl ?_
  refine wl_end ?_
  refine w_seq ?_
  refine w_seq ?_
  refine w_region (by kernel_rfl) ?_
  refine o_assign gn rfl rfl ?_
  refine wl_end ?_
  refine w_block ?_
  clear p1
  refine w_weak [(0, .int .i64 k0), (5, .pointer (some ⟨hp1.n, 0, none⟩)), (6, .int .i64 0)] (by repeat (first | exact trivial | refine ⟨rfl, ?_⟩)) ?_
  refine w_loop (fun k l hh => ∃ (i : Int) (sc : Value) (B1 : List Nat), 0 ≤ i ∧ i ≤ max k0 0 ∧ k = (k0 - i).toNat ∧ RefR hh hp1.n (List.replicate i.toNat (-1)) on sc (.slice a5 (onV on).length (onV on).length) B1 B2' ∧ Ext h hh ∧ (∀ j, j ∈ B1 → h.n ≤ j) ∧ l = [(0, .int .i64 k0), (5, .pointer (some ⟨hp1.n, 0, none⟩)), (6, .int .i64 i)]) (n := k0.toNat) ?_ fun k l hh hI => ?_
  · exact ⟨0, _, [], by omega, by omega, by omega, r1, x1.trans r2, by simp, rfl⟩
  · obtain ⟨i, sc, B1, hi0, hi1, rfl, hr, hx, hf, rfl⟩ := hI
    refine w_seq ?_
    refine w_seq ?_
    refine w_region (by kernel_rfl) ?_
    refine o_move gn rfl rfl ?_
    refine o_move gn rfl rfl ?_
    refine o_lss gn rfl rfl rfl ?_
    refine wl_end ?_
    refine w_cond rfl (fun hb => ?_) fun hb => ?_
    · skip
      refine w_skip ?_
      refine w_seq ?_
      have hlt : i < k0 := by simpa using hb
      obtain ⟨a7, rfl⟩ := hr.comps.val
      have htop := hr.top
      have g1 := Ext.alloc hh (.cells [Value.int .i64 (-1)] 3 0)
      have hsrc : Src (hh.alloc (.cells [Value.int .i64 (-1)] 3 0)) (.slice (some ⟨hh.n, 0, none⟩) 1 1) [Value.int .i64 (-1)] := (Sl.new (e := 3) (vs := [Value.int .i64 (-1)]) (.inl rfl)).src rfl
      obtain ⟨v', h', bs', ha, hs', he, hb'⟩ := append_own (E := lifeE) el3 (hr.comps.ext g1) hsrc (by simp [stV]; omega)
      obtain ⟨a6, rfl⟩ := hs'.val
      obtain ⟨q1, q2, q3⟩ := hr.push (x := -1) g1 (by rw [stV_snoc]; exact hs') he (fun j hj => (hb' j hj).imp id fun e => by rw [e, Hp.n_alloc]; omega)
      have htop' := (he.get _ (Nat.lt_of_lt_of_le hr.lt g1.n) hr.d1).trans ((g1.get _ hr.lt).trans htop)
      refine w_block ?_
      refine w_region (by kernel_rfl) ?_
      refine o_move gn rfl rfl ?_
      refine o_move gn rfl rfl ?_
      refine o_nilCheck gn rfl rfl ?_
      refine o_fieldAddr (off := 0) gn rfl rfl (by kernel_rfl) ?_
      refine o_load gn rfl rfl (by kernel_rfl) htop rfl ?_
      refine o_buildSlice (e := 3) (z := 0) (zv := .int .i64 0) [(0, _)] gn rfl (by kernel_rfl) (by kernel_rfl) (by kernel_rfl) (by kernel_rfl) rfl rfl ?_
      refine o_append gn rfl rfl rfl ha ag0 ?_
      refine o_nilCheck gn rfl rfl ?_
      refine o_fieldAddr (off := 0) gn rfl rfl (by kernel_rfl) ?_
      refine o_store gn rfl rfl rfl (by kernel_rfl) htop' (by decide) (by simp) ag0 ?_
      refine wl_end ?_
      refine w_region (by kernel_rfl) ?_
      refine o_move gn rfl rfl ?_
      refine o_add gn rfl rfl rfl (by omega) (by omega) ?_
      refine o_assign gn rfl rfl ?_
      refine wl_end ?_
      exact ⟨(k0 - (i + 1)).toNat, by omega, _, (by repeat (first | exact trivial | refine ⟨rfl, ?_⟩)), ⟨i + 1, _, bs', by omega, by omega, rfl, by
  rw [show (i + 1).toNat = i.toNat + 1 by omega, List.replicate_succ']
  exact q1, ⟨Nat.le_trans hx.n q2, fun j hj => (q3 j (by have := hx.n; omega) (by omega) (fun hm => by have := hf j hm; omega)).trans (hx.get j hj)⟩, fun j hj => by
  rcases hb' j hj with hm | hm
  · exact hf j hm
  · rw [hm, Hp.n_alloc]; have := hx.n; omega, rfl⟩⟩
    · skip
      refine w_exit ?_
      refine thn_exit ?_
      refine rnd_exit ?_
      refine blk_eq ?_
      refine w_seq ?_
      refine w_region (by kernel_rfl) ?_
      refine o_move gn rfl rfl ?_
      refine o_assign gn rfl rfl ?_
      refine wl_end ?_
      refine w_ret ?_
      refine ⟨.inl rfl, _, rfl, ?_⟩
      have hge : k0 ≤ i := by simpa using hb
      have e0 : i.toNat = k0.toNat := by omega
      rw [e0] at hr
      exact ⟨_, _, _, _, _, rfl, hr, hx, by omega, hf, f1⟩

end Go.Proofs.Ytkmbfjdmbdpflaa

