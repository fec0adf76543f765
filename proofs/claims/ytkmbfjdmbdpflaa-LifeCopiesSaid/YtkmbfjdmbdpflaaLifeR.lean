/- Chapter 9, the document's side. Conditions: none. -/
import Derived.Test.YtkmbfjdmbdpflaaLifeC
namespace Go.Proofs.Ytkmbfjdmbdpflaa
open Go.X

/-- The document's lives, as they lie in memory: states, events; which blocks are theirs. -/
structure RefR (h : Hp) (b : Nat) (st : List Int) (on : List Bool) (sc so : Value) (B1 B2 : List Nat) : Prop where
  top : h.get b = some (.cells [sc, so] 96 0)
  lt : b < h.n
  comps : Sl 3 h sc (stV st) B1
  evs : Sl 4 h so (onV on) B2
  d1 : b ∉ B1
  d2 : b ∉ B2
  d3 : ∀ i, i ∈ B1 → i ∉ B2

/-- The states have been written. -/
theorem RefR.setSt {h : Hp} {b bb m : Nat} {st : List Int} {on : List Bool} {so : Value} {B1 B2 : List Nat} {n : Nat} (hl : RefR h b st on (.slice (some ⟨bb, 0, none⟩) n n) so B1 B2) (hb : B1 = [bb]) (hm : m = 0 ∨ m = 3) (hlt : bb < h.n)
    (st' : List Int) (hn : n = st'.length) : RefR (h.put bb (.cells (stV st') 3 m)) b st' on (.slice (some ⟨bb, 0, none⟩) n n) so B1 B2 ∧ ExtB B1 h (h.put bb (.cells (stV st') 3 m)) := by
  subst hb
  have hne : bb ≠ b := fun e => hl.d1 (by simp [e])
  have hE := ExtB.put h bb (.cells (stV st') 3 m)
  exact ⟨⟨by rw [Hp.get_put, if_neg hne]; exact hl.top, by rw [Hp.n_put]; exact hl.lt, Sl.put (by simp [stV, hn]) hm hlt, hl.evs.keep hE (fun i hi hj => hl.d3 i hj hi), hl.d1, hl.d2, hl.d3⟩, hE⟩

theorem RefR.setOn {h : Hp} {b bb m : Nat} {st : List Int} {on : List Bool} {sc : Value} {B1 B2 : List Nat} {n : Nat} (hl : RefR h b st on sc (.slice (some ⟨bb, 0, none⟩) n n) B1 B2) (hb : B2 = [bb]) (hm : m = 0 ∨ m = 3) (hlt : bb < h.n)
    (on' : List Bool) (hn : n = on'.length) : RefR (h.put bb (.cells (onV on') 4 m)) b st on' sc (.slice (some ⟨bb, 0, none⟩) n n) B1 B2 ∧ ExtB B2 h (h.put bb (.cells (onV on') 4 m)) := by
  subst hb
  have hne : bb ≠ b := fun e => hl.d2 (by simp [e])
  have hE := ExtB.put h bb (.cells (onV on') 4 m)
  exact ⟨⟨by rw [Hp.get_put, if_neg hne]; exact hl.top, by rw [Hp.n_put]; exact hl.lt, hl.comps.keep hE (fun i hi hj => hl.d3 i hi hj), Sl.put (by simp [onV, hn]) hm hlt, hl.d1, hl.d2, hl.d3⟩, hE⟩

/-- Elsewhere something was done. -/
theorem RefR.keep {h h' : Hp} {b : Nat} {st : List Int} {on : List Bool} {sc so : Value} {B1 B2 cs : List Nat} (hl : RefR h b st on sc so B1 B2) (g : ExtB cs h h') (h0 : b ∉ cs) (h1 : ∀ i, i ∈ B1 → i ∉ cs) (h2 : ∀ i, i ∈ B2 → i ∉ cs) :
    RefR h' b st on sc so B1 B2 :=
  ⟨by rw [g.get b hl.lt h0]; exact hl.top, Nat.lt_of_lt_of_le hl.lt g.n, hl.comps.keep g h1, hl.evs.keep g h2, hl.d1, hl.d2, hl.d3⟩

theorem RefR.new {h : Hp} {st : List Int} {on : List Bool} {sc so : Value} {B1 B2 : List Nat} (s1 : Sl 3 h sc (stV st) B1) (s2 : Sl 4 h so (onV on) B2) (hd : ∀ i, i ∈ B1 → i ∉ B2) :
    RefR (h.alloc (.cells [sc, so] 96 0)) h.n st on sc so B1 B2 ∧ Ext h (h.alloc (.cells [sc, so] 96 0)) := by
  have g := Ext.alloc h (.cells [sc, so] 96 0)
  exact ⟨⟨Hp.get_alloc_self _ _, by rw [Hp.n_alloc]; omega, s1.ext g, s2.ext g, fun hi => by have := s1.lt _ hi; omega, fun hi => by have := s2.lt _ hi; omega, hd⟩, g⟩


def rV (st : List Int) : List Int := st.map fun s => s - 1
theorem rV_len (st : List Int) : (rV st).length = st.length := by simp [rV]
theorem rV_at {st : List Int} {i : Nat} (h : i < st.length) : ((rV st)[i]?).getD 0 = (st[i]?).getD 0 - 1 := by
  simp [rV, List.getElem?_eq_getElem h]

/-- leads -/
theorem c75 {h : Hp} {s w : Int} : CP lifeE 75 [.int .i64 s, .int .i64 w] h (.bool (mayGo (s + 1) w)) := by
  refine c_enter (fu := Try.f75) (by kernel_rfl) rfl ?_
  refine w_seq ?_
  refine w_region (by kernel_rfl) ?_
  refine o_assign gn rfl rfl ?_
  refine wl_end ?_
  refine w_seq ?_
  refine w_seq ?_
  refine w_region (by kernel_rfl) ?_
  refine o_move gn rfl rfl ?_
  refine wl_end ?_
  refine w_block ?_
  refine w_seq ?_
  refine w_region (by kernel_rfl) ?_
  refine o_eqi gn rfl rfl rfl ?_
  refine o_assign gn rfl rfl ?_
  refine wl_end ?_
  refine w_cond rfl (fun hb => ?_) fun hb => ?_
  · skip
    refine w_seq ?_
    refine w_region (by kernel_rfl) ?_
    refine o_move gn rfl rfl ?_
    refine o_eqi gn rfl rfl rfl ?_
    refine o_assign gn rfl rfl ?_
    refine wl_end ?_
    refine w_ret ?_
    refine ⟨.inl rfl, _, rfl, ?_⟩
    exact ⟨bv (by simp [mayGo] at *; omega), rfl⟩
  · skip
    refine w_seq ?_
    refine w_region (by kernel_rfl) ?_
    refine o_eqi gn rfl rfl rfl ?_
    refine o_assign gn rfl rfl ?_
    refine wl_end ?_
    refine w_cond rfl (fun hb => ?_) fun hb => ?_
    · skip
      refine w_seq ?_
      refine w_region (by kernel_rfl) ?_
      refine o_move gn rfl rfl ?_
      refine o_eqi gn rfl rfl rfl ?_
      refine o_move gn rfl rfl ?_
      refine o_or (n := 2) rfl rfl rfl gn rfl (fun hb => by
          refine o_move (gy rfl rfl rfl hb) rfl rfl ?_
          refine o_eqi (gy rfl rfl rfl hb) rfl rfl rfl ?_
          exact wl_end ⟨rfl, rfl, 2, rfl, rfl⟩) ?_
      refine o_assign gn rfl rfl ?_
      refine wl_end ?_
      refine w_ret ?_
      refine ⟨.inl rfl, _, rfl, ?_⟩
      exact ⟨bv (by simp [mayGo] at *; omega), rfl⟩
    · skip
      refine w_seq ?_
      refine w_region (by kernel_rfl) ?_
      refine o_eqi gn rfl rfl rfl ?_
      refine o_assign gn rfl rfl ?_
      refine wl_end ?_
      refine w_cond rfl (fun hb => ?_) fun hb => ?_
      · skip
        refine w_seq ?_
        refine w_region (by kernel_rfl) ?_
        refine o_move gn rfl rfl ?_
        refine o_eqi gn rfl rfl rfl ?_
        refine o_assign gn rfl rfl ?_
        refine wl_end ?_
        refine w_ret ?_
        refine ⟨.inl rfl, _, rfl, ?_⟩
        exact ⟨bv (by simp [mayGo] at *; omega), rfl⟩
      · skip
        refine w_seq ?_
        refine w_region (by kernel_rfl) ?_
        refine o_eqi gn rfl rfl rfl ?_
        refine o_assign gn rfl rfl ?_
        refine wl_end ?_
        refine w_cond rfl (fun hb => ?_) fun hb => ?_
        · skip
          refine w_seq ?_
          refine w_region (by kernel_rfl) ?_
          refine o_move gn rfl rfl ?_
          refine o_eqi gn rfl rfl rfl ?_
          refine o_move gn rfl rfl ?_
          refine o_or (n := 2) rfl rfl rfl gn rfl (fun hb => by
              refine o_move (gy rfl rfl rfl hb) rfl rfl ?_
              refine o_eqi (gy rfl rfl rfl hb) rfl rfl rfl ?_
              exact wl_end ⟨rfl, rfl, 2, rfl, rfl⟩) ?_
          refine o_assign gn rfl rfl ?_
          refine wl_end ?_
          refine w_ret ?_
          refine ⟨.inl rfl, _, rfl, ?_⟩
          exact ⟨bv (by simp [mayGo] at *; omega), rfl⟩
        · skip
          refine w_skip ?_
          refine w_seq ?_
          refine w_region (by kernel_rfl) ?_
          refine o_assign gn rfl rfl ?_
          refine wl_end ?_
          refine w_ret ?_
          refine ⟨.inl rfl, _, rfl, ?_⟩
          exact ⟨bv (by simp [mayGo] at *; omega), rfl⟩

/-- May -/
theorem c52 {h : Hp} {b : Nat} {st : List Int} {on : List Bool} {sc so : Value} {B1 B2 : List Nat} {c w : Int} (hl : RefR h b (rV st) on sc so B1 B2) :
    CP lifeE 52 [.pointer (some ⟨b, 0, none⟩), .int .i64 c, .int .i64 w] h (.bool (decide (0 ≤ c) && decide (c < st.length) && mayGo (stAt st c) w)) := by
  have ht := hl.top
  have hlen := rV_len st
  obtain ⟨a, ea⟩ := hl.comps.val
  simp only [stV, List.length_map, hlen] at ea
  subst ea
  refine c_enter (fu := Try.f52) (by kernel_rfl) rfl ?_
  refine w_seq ?_
  refine w_region (by kernel_rfl) ?_
  refine o_assign gn rfl rfl ?_
  refine wl_end ?_
  refine w_seq ?_
  refine w_region (by kernel_rfl) ?_
  refine o_move gn rfl rfl ?_
  refine o_geq gn rfl rfl rfl ?_
  refine o_move gn rfl rfl ?_
  refine o_and (n := 7) rfl rfl rfl gn rfl (fun hb => by
      refine o_move (gy rfl rfl rfl hb) rfl rfl ?_
      refine o_move (gy rfl rfl rfl hb) rfl rfl ?_
      refine o_nilCheck (gy rfl rfl rfl hb) rfl rfl ?_
      refine o_fieldAddr (off := 0) (gy rfl rfl rfl hb) rfl rfl (by kernel_rfl) ?_
      refine o_load (gy rfl rfl rfl hb) rfl rfl (by kernel_rfl) (by assumption) rfl ?_
      refine o_len (gy rfl rfl rfl hb) rfl rfl (by kernel_rfl) ?_
      refine o_lss (gy rfl rfl rfl hb) rfl rfl rfl ?_
      exact wl_end ⟨rfl, rfl, 7, rfl, rfl⟩) ?_
  refine o_move gn rfl rfl ?_
  have hpost : (decide (0 ≤ c) && decide (c < st.length) && mayGo (stAt st c) w) = (decide (0 ≤ c) && decide (c < st.length) && mayGo (stAt st c - 1 + 1) w) := by rw [show stAt st c - 1 + 1 = stAt st c by omega]
  refine o_and (n := 9) rfl rfl rfl gn rfl (fun hb => by
      have hb' : 0 ≤ c ∧ c < st.length := by simp at hb; omega
      obtain ⟨bb, m, e2, hbb, hm, _, _⟩ := hl.comps.at (by simp [stV, hlen]; omega)
      simp only [stV, List.length_map, hlen, Value.slice.injEq, and_true] at e2
      subst e2
      refine o_move (gy rfl rfl rfl hb) rfl rfl ?_
      refine o_nilCheck (gy rfl rfl rfl hb) rfl rfl ?_
      refine o_fieldAddr (off := 0) (gy rfl rfl rfl hb) rfl rfl (by kernel_rfl) ?_
      refine o_load (gy rfl rfl rfl hb) rfl rfl (by kernel_rfl) (by assumption) rfl ?_
      refine o_move (gy rfl rfl rfl hb) rfl rfl ?_
      refine o_indexAddr (zz := 1) (gy rfl rfl rfl hb) rfl rfl rfl (by kernel_rfl) (by omega) (by omega) ?_
      refine o_load (gy rfl rfl rfl hb) rfl rfl (by kernel_rfl) hbb (at_int c.toNat (by omega) (by omega)) ?_
      refine o_move (gy rfl rfl rfl hb) rfl rfl ?_
      refine o_call [_, _] (gy rfl rfl rfl hb) rfl rfl (by kernel_rfl) rfl (c_pure c75 ⟨ag0, ?_⟩)
      exact wl_end ⟨rfl, rfl, 9, rfl, rfl⟩) ?_
  refine o_assign gn rfl rfl ?_
  refine wl_end ?_
  refine w_ret ?_
  refine ⟨.inl rfl, _, rfl, ?_⟩
  refine ⟨?_, rfl⟩
  by_cases hr : 0 ≤ c ∧ c < st.length
  · have := rV_at (st := st) (i := c.toNat) (by omega)
    simp only [oneOf, this]
    exact congrArg _ hpost.symm
  · refine bv ?_
    simp
    omega

end Go.Proofs.Ytkmbfjdmbdpflaa

