/- Chapter 9, the program's side: New, Go, May, Set, Copy, Same. Conditions: none. -/
import Derived.Test.YtkmbfjdmbdpflaaLifeB
namespace Go.Proofs.Ytkmbfjdmbdpflaa
open Go.X

/-- May the callback be, behind a state? -/
def mayGo (s w : Int) : Bool := decide ((w = 0 ∧ s = 0) ∨ (w = 1 ∧ (s = 1 ∨ s = 3)) ∨ (w = 2 ∧ s = 2) ∨ (w = 3 ∧ (s = 1 ∨ s = 3)))
def stAt (st : List Int) (c : Int) : Int := (st[c.toNat]?).getD 0
def goErr (st : List Int) (c w : Int) : Int := if 0 ≤ c ∧ c < st.length ∧ 0 ≤ w ∧ w ≤ 3 then (if mayGo (stAt st c) w = true then 0 else 10) else 2
def goSt (st : List Int) (c w : Int) : List Int := if goErr st c w = 0 then st.set c.toNat (w + 1) else st
def Sts (st : List Int) : Prop := ∀ s, s ∈ st → 0 ≤ s ∧ s ≤ 4

theorem goSt_len (st : List Int) (c w : Int) : (goSt st c w).length = st.length := by unfold goSt; split <;> simp
theorem goSt_sts {st : List Int} {c w : Int} (h : Sts st) : Sts (goSt st c w) := by
  unfold goSt
  split
  · rename_i he
    unfold goErr at he
    split at he
    · rename_i hr
      intro s hs
      rcases List.mem_or_eq_of_mem_set hs with h1 | rfl
      · exact h s h1
      · omega
    · simp at he
  · exact h

def leadsA : Array Value := match leadsV with | .agg cs => cs | _ => #[]
def afterA : Array Value := match afterV with | .agg cs => cs | _ => #[]

theorem after_at {w : Int} (h1 : 0 ≤ w) (h2 : w ≤ 3) : partX lifeE 92 afterA (w.toNat * 1) = some (.int .i64 (w + 1)) := by
  rw [partX_cell (by kernel_rfl)]
  have : w = 0 ∨ w = 1 ∨ w = 2 ∨ w = 3 := by omega
  rcases this with rfl | rfl | rfl | rfl <;> rfl

theorem leads_at {s w : Int} (h1 : 0 ≤ w) (h2 : w ≤ 3) (h3 : 0 ≤ s) (h4 : s ≤ 4) : partX lifeE 4 (leadsA.extract (s.toNat * 5) (s.toNat * 5 + 5)) ((w + 1).toNat * 1) = some (.bool (mayGo s w)) := by
  rw [partX_cell (by kernel_rfl)]
  have e1 : w = 0 ∨ w = 1 ∨ w = 2 ∨ w = 3 := by omega
  have e2 : s = 0 ∨ s = 1 ∨ s = 2 ∨ s = 3 ∨ s = 4 := by omega
  rcases e1 with rfl | rfl | rfl | rfl <;> rcases e2 with rfl | rfl | rfl | rfl | rfl <;> rfl

/-- The states have been written. -/
theorem LivesR.setSt {h : Hp} {b bb m : Nat} {st : List Int} {on : List Bool} {so : Value} {B1 B2 : List Nat} {n : Nat} (hl : LivesR h b st on (.slice (some ⟨bb, 0, none⟩) n n) so B1 B2) (hb : B1 = [bb]) (hm : m = 0 ∨ m = 3) (hlt : bb < h.n)
    (st' : List Int) (hn : n = st'.length) : LivesR (h.put bb (.cells (stV st') 92 m)) b st' on (.slice (some ⟨bb, 0, none⟩) n n) so B1 B2 ∧ ExtB B1 h (h.put bb (.cells (stV st') 92 m)) := by
  subst hb
  have hne : bb ≠ b := fun e => hl.d1 (by simp [e])
  have hE := ExtB.put h bb (.cells (stV st') 92 m)
  exact ⟨⟨by rw [Hp.get_put, if_neg hne]; exact hl.top, by rw [Hp.n_put]; exact hl.lt, Sl.put (by simp [stV, hn]) hm hlt, hl.evs.keep hE (fun i hi hj => hl.d3 i hj hi), hl.d1, hl.d2, hl.d3⟩, hE⟩

theorem LivesR.setOn {h : Hp} {b bb m : Nat} {st : List Int} {on : List Bool} {sc : Value} {B1 B2 : List Nat} {n : Nat} (hl : LivesR h b st on sc (.slice (some ⟨bb, 0, none⟩) n n) B1 B2) (hb : B2 = [bb]) (hm : m = 0 ∨ m = 3) (hlt : bb < h.n)
    (on' : List Bool) (hn : n = on'.length) : LivesR (h.put bb (.cells (onV on') 4 m)) b st on' sc (.slice (some ⟨bb, 0, none⟩) n n) B1 B2 ∧ ExtB B2 h (h.put bb (.cells (onV on') 4 m)) := by
  subst hb
  have hne : bb ≠ b := fun e => hl.d2 (by simp [e])
  have hE := ExtB.put h bb (.cells (onV on') 4 m)
  exact ⟨⟨by rw [Hp.get_put, if_neg hne]; exact hl.top, by rw [Hp.n_put]; exact hl.lt, hl.comps.keep hE (fun i hi hj => hl.d3 i hi hj), Sl.put (by simp [onV, hn]) hm hlt, hl.d1, hl.d2, hl.d3⟩, hE⟩

/-- Elsewhere something was done. -/
theorem LivesR.keep {h h' : Hp} {b : Nat} {st : List Int} {on : List Bool} {sc so : Value} {B1 B2 cs : List Nat} (hl : LivesR h b st on sc so B1 B2) (g : ExtB cs h h') (h0 : b ∉ cs) (h1 : ∀ i, i ∈ B1 → i ∉ cs) (h2 : ∀ i, i ∈ B2 → i ∉ cs) :
    LivesR h' b st on sc so B1 B2 :=
  ⟨by rw [g.get b hl.lt h0]; exact hl.top, Nat.lt_of_lt_of_le hl.lt g.n, hl.comps.keep g h1, hl.evs.keep g h2, hl.d1, hl.d2, hl.d3⟩

theorem LivesR.new {h : Hp} {st : List Int} {on : List Bool} {sc so : Value} {B1 B2 : List Nat} (s1 : Sl 92 h sc (stV st) B1) (s2 : Sl 4 h so (onV on) B2) (hd : ∀ i, i ∈ B1 → i ∉ B2) :
    LivesR (h.alloc (.cells [sc, so] 57 0)) h.n st on sc so B1 B2 ∧ Ext h (h.alloc (.cells [sc, so] 57 0)) := by
  have g := Ext.alloc h (.cells [sc, so] 57 0)
  exact ⟨⟨Hp.get_alloc_self _ _, by rw [Hp.n_alloc]; omega, s1.ext g, s2.ext g, fun hi => by have := s1.lt _ hi; omega, fun hi => by have := s2.lt _ hi; omega, hd⟩, g⟩

/-- Go -/
theorem c14 {h : Hp} {b : Nat} {st : List Int} {on : List Bool} {sc so : Value} {B1 B2 : List Nat} {c w : Int} (hl : LivesR h b st on sc so B1 B2) (hst : Sts st) :
    C lifeE 14 [.pointer (some ⟨b, 0, none⟩), .int .i64 c, .int .i64 w] h fun v h' => v = .int .i64 (goErr st c w) ∧ LivesR h' b (goSt st c w) on sc so B1 B2 ∧ ExtB B1 h h' := by
  have ht := hl.top
  refine c_enter (fu := Try.f14) (by kernel_rfl) rfl ?_
  refine w_seq ?_
  refine w_region (by kernel_rfl) ?_
  refine o_assign gn rfl rfl ?_
  refine wl_end ?_
  refine w_seq ?_
  refine w_block ?_
  refine w_seq ?_
  refine w_region (by kernel_rfl) ?_
  refine o_move gn rfl rfl ?_
  refine o_eqp gn rfl rfl rfl (by kernel_rfl) ?_
  refine o_assign gn rfl rfl ?_
  refine wl_end ?_
  refine w_cond rfl (fun hb => ?_) fun hb => ?_
  · skip
    refine w_seq ?_
    refine w_region (by kernel_rfl) ?_
    refine o_assign gn rfl rfl ?_
    refine wl_end ?_
    refine w_ret ?_
    refine ⟨.inl rfl, _, rfl, ?_⟩
    cases hb
  · skip
    refine w_seq ?_
    refine w_region (by kernel_rfl) ?_
    refine o_move gn rfl rfl ?_
    refine o_move gn rfl rfl ?_
    refine o_call [_, _] gn rfl rfl (by kernel_rfl) rfl (c_pure (c46 hl) ⟨ag0, ?_⟩)
    refine o_not gn rfl rfl ?_
    refine o_move gn rfl rfl ?_
    refine o_or (n := 2) rfl rfl rfl gn rfl (fun hb => by
        refine o_move (gy rfl rfl rfl hb) rfl rfl ?_
        refine o_lss (gy rfl rfl rfl hb) rfl rfl rfl ?_
        exact wl_end ⟨rfl, rfl, 2, rfl, rfl⟩) ?_
    refine o_move gn rfl rfl ?_
    refine o_or (n := 2) rfl rfl rfl gn rfl (fun hb => by
        refine o_move (gy rfl rfl rfl hb) rfl rfl ?_
        refine o_geq (gy rfl rfl rfl hb) rfl rfl rfl ?_
        exact wl_end ⟨rfl, rfl, 2, rfl, rfl⟩) ?_
    refine o_assign gn rfl rfl ?_
    refine wl_end ?_
    refine w_cond rfl (fun hb => ?_) fun hb => ?_
    · skip
      refine w_seq ?_
      refine w_region (by kernel_rfl) ?_
      refine o_assign gn rfl rfl ?_
      refine wl_end ?_
      refine w_ret ?_
      refine ⟨.inl rfl, _, rfl, ?_⟩
      have he : goErr st c w = 2 := by
        unfold goErr; rw [if_neg]; intro hh; simp at hb; omega
      exact ⟨by rw [he]; rfl, by rw [goSt, he, if_neg (by decide)]; exact hl, .refl _ _⟩
    · skip
      have hr : 0 ≤ c ∧ c < st.length ∧ 0 ≤ w ∧ w ≤ 3 := by simp at hb; omega
      obtain ⟨bb, m, rfl, hbb, hm, hblt, hB⟩ := hl.comps.at (by simp [stV]; omega)
      have hin := hst _ (getD_mem (d := 0) (show c.toNat < st.length by omega))
      refine w_seq ?_
      refine w_draw [(1, []), (2, []), (3, []), (4, []), (5, []), (6, []), (7, []), (10, []), (0, [4, 7]), (8, []), (9, [4, 7]), (11, []), (12, []), (13, []), (14, [])] (by kernel_rfl) (by kernel_rfl) (by kernel_rfl) (by kernel_rfl) ?_
      refine o_move gn rfl rfl ?_
      refine o_nilCheck gn rfl rfl ?_
      refine o_fieldAddr (off := 0) gn rfl rfl (by kernel_rfl) ?_
      refine o_load gn rfl rfl (by kernel_rfl) (by assumption) rfl ?_
      refine o_move gn rfl rfl ?_
      refine o_indexAddr (zz := 1) gn rfl rfl rfl (by kernel_rfl) (by omega) (by simp [stV]; omega) ?_
      refine o_load gn rfl rfl (by kernel_rfl) (by assumption) (at_int c.toNat (by omega) (by omega)) ?_
      refine o_move gn rfl rfl ?_
      refine o_orc (f := 47) (v := leadsV) gn rfl (by kernel_rfl) (by kernel_rfl) (ag1 (ag_load gn rfl (by kernel_rfl) (by assumption) rfl rfl same_slice) (ag1 (ag_load gn rfl (by kernel_rfl) hbb (at_int c.toNat (by omega) (by omega)) rfl same_int) ag0)) ?_
      refine o_index (n := 5) (e := 89) (zz := 5) gn rfl rfl rfl (by kernel_rfl) (by omega) (by omega) (partX_agg (n := 5) (by kernel_rfl) (by kernel_rfl)) ?_
      refine o_orc (f := 48) (v := afterV) gn rfl (by kernel_rfl) (by kernel_rfl) (ag1 (ag_load gn rfl (by kernel_rfl) (by assumption) rfl rfl same_slice) (ag1 (ag_load gn rfl (by kernel_rfl) hbb (at_int c.toNat (by omega) (by omega)) rfl same_int) ag0)) ?_
      refine o_index (n := 4) (e := 92) (zz := 1) gn rfl rfl rfl (by kernel_rfl) (by omega) (by omega) (after_at (by omega) (by omega)) ?_
      refine o_index (n := 5) (e := 4) (zz := 1) gn rfl rfl rfl (by kernel_rfl) (by omega) (by omega) (leads_at (by omega) (by omega) (by omega) (by omega)) ?_
      refine o_not gn rfl rfl ?_
      refine o_assign gn rfl rfl ?_
      refine wl_end ?_
      refine w_cond rfl (fun hb => ?_) fun hb => ?_
      · skip
        refine w_seq ?_
        refine w_region (by kernel_rfl) ?_
        refine o_assign gn rfl rfl ?_
        refine wl_end ?_
        refine w_ret ?_
        refine ⟨.inl rfl, _, rfl, ?_⟩
        have hm : mayGo (stAt st c) w = false := by simpa [stAt] using hb
        have he : goErr st c w = 10 := by unfold goErr; rw [if_pos hr, hm]; rfl
        exact ⟨by rw [he]; rfl, by rw [goSt, he, if_neg (by decide)]; exact hl, .refl _ _⟩
      · skip
        refine w_skip ?_
        refine w_seq ?_
        refine w_draw [(0, []), (1, []), (2, []), (3, []), (4, []), (6, []), (5, [3]), (7, []), (8, []), (9, [])] (by kernel_rfl) (by kernel_rfl) (by kernel_rfl) (by kernel_rfl) ?_
        refine o_move gn rfl rfl ?_
        refine o_nilCheck gn rfl rfl ?_
        refine o_fieldAddr (off := 0) gn rfl rfl (by kernel_rfl) ?_
        refine o_load gn rfl rfl (by kernel_rfl) (by assumption) rfl ?_
        refine o_move gn rfl rfl ?_
        refine o_move gn rfl rfl ?_
        refine o_orc (f := 48) (v := afterV) gn rfl (by kernel_rfl) (by kernel_rfl) (ag1 (ag_load gn rfl (by kernel_rfl) (by assumption) rfl rfl same_slice) ag0) ?_
        refine o_index (n := 4) (e := 92) (zz := 1) gn rfl rfl rfl (by kernel_rfl) (by omega) (by omega) (after_at (by omega) (by omega)) ?_
        refine o_indexAddr (zz := 1) gn rfl rfl rfl (by kernel_rfl) (by omega) (by simp [stV]; omega) ?_
        refine o_store gn rfl rfl rfl (by kernel_rfl) (by assumption) (by omega) (by simp [stV]; omega) ag0 ?_
        refine wl_end ?_
        refine w_seq ?_
        refine w_region (by kernel_rfl) ?_
        refine o_assign gn rfl rfl ?_
        refine wl_end ?_
        refine w_ret ?_
        refine ⟨.inl rfl, _, rfl, ?_⟩
        have hm' : mayGo (stAt st c) w = true := by simpa [stAt] using hb
        have he : goErr st c w = 0 := by unfold goErr; rw [if_pos hr, if_pos hm']
        have hset : (stV st).set (0 + c.toNat * 1) (.int .i64 (w + 1)) = stV (st.set c.toNat (w + 1)) := by simp [stV, List.map_set]
        rw [hset]
        obtain ⟨r1, r2⟩ := hl.setSt hB hm hblt (st.set c.toNat (w + 1)) (by simp [stV])
        exact ⟨by rw [he]; rfl, by rw [goSt, he, if_pos rfl]; exact r1, r2⟩

/-- Set: the events behind it, and the answer. -/
def setOn (on : List Bool) (e : Int) (v : Bool) : List Bool := if 0 ≤ e ∧ e < on.length then on.set e.toNat v else on
def setRes (on : List Bool) (e : Int) (v : Bool) : Bool := decide (0 ≤ e ∧ e < on.length) && (v && !(on[e.toNat]?).getD false)

theorem c29 {h : Hp} {b : Nat} {st : List Int} {on : List Bool} {sc so : Value} {B1 B2 : List Nat} {e : Int} {x : Bool} (hl : LivesR h b st on sc so B1 B2) :
    C lifeE 29 [.pointer (some ⟨b, 0, none⟩), .int .i64 e, .bool x] h fun v h' => v = .bool (setRes on e x) ∧ LivesR h' b st (setOn on e x) sc so B1 B2 ∧ ExtB B2 h h' := by
  have ht := hl.top
  refine c_enter (fu := Try.f29) (by kernel_rfl) rfl ?_
  refine w_seq ?_
  refine w_region (by kernel_rfl) ?_
  refine o_assign gn rfl rfl ?_
  refine wl_end ?_
  refine w_seq ?_
  refine w_seq ?_
  refine w_region (by kernel_rfl) ?_
  refine o_move gn rfl rfl ?_
  refine o_move gn rfl rfl ?_
  refine o_call [_, _] gn rfl rfl (by kernel_rfl) rfl (c_pure (c60 hl) ⟨ag0, ?_⟩)
  refine o_not gn rfl rfl ?_
  refine wl_end ?_
  refine w_cond rfl (fun hb => ?_) fun hb => ?_
  · skip
    refine w_seq ?_
    refine w_region (by kernel_rfl) ?_
    refine o_assign gn rfl rfl ?_
    refine wl_end ?_
    refine w_ret ?_
    refine ⟨.inl rfl, _, rfl, ?_⟩
    have hr : ¬ (0 ≤ e ∧ e < on.length) := by simp at hb; omega
    exact ⟨by simp [oneOf, setRes, hr], by rw [setOn, if_neg hr]; exact hl, .refl _ _⟩
  · skip
    have hr : 0 ≤ e ∧ e < on.length := by simp at hb; omega
    obtain ⟨bb, m, rfl, hbb, hm, hblt, hB⟩ := hl.evs.at (by simp [onV]; omega)
    refine w_skip ?_
    refine w_seq ?_
    refine w_region (by kernel_rfl) ?_
    refine o_move gn rfl rfl ?_
    refine o_nilCheck gn rfl rfl ?_
    refine o_fieldAddr (off := 1) gn rfl rfl (by kernel_rfl) ?_
    refine o_load gn rfl rfl (by kernel_rfl) (by assumption) rfl ?_
    refine o_move gn rfl rfl ?_
    refine o_indexAddr (zz := 1) gn rfl rfl rfl (by kernel_rfl) (by omega) (by simp [onV]; omega) ?_
    refine o_load gn rfl rfl (by kernel_rfl) (by assumption) (at_bool e.toNat (by omega) (by omega)) ?_
    refine o_assign gn rfl rfl ?_
    refine wl_end ?_
    refine w_seq ?_
    refine w_region (by kernel_rfl) ?_
    refine o_move gn rfl rfl ?_
    refine o_nilCheck gn rfl rfl ?_
    refine o_fieldAddr (off := 1) gn rfl rfl (by kernel_rfl) ?_
    refine o_load gn rfl rfl (by kernel_rfl) (by assumption) rfl ?_
    refine o_move gn rfl rfl ?_
    refine o_move gn rfl rfl ?_
    refine o_indexAddr (zz := 1) gn rfl rfl rfl (by kernel_rfl) (by omega) (by simp [onV]; omega) ?_
    refine o_store gn rfl rfl rfl (by kernel_rfl) (by assumption) (by omega) (by simp [onV]; omega) ag0 ?_
    refine wl_end ?_
    refine w_seq ?_
    refine w_region (by kernel_rfl) ?_
    refine o_move gn rfl rfl ?_
    refine o_move gn rfl rfl ?_
    refine o_and (n := 2) rfl rfl rfl gn rfl (fun hb => by
        refine o_move (gy rfl rfl rfl hb) rfl rfl ?_
        refine o_not (gy rfl rfl rfl hb) rfl rfl ?_
        exact wl_end ⟨rfl, rfl, 2, rfl, rfl⟩) ?_
    refine o_assign gn rfl rfl ?_
    refine wl_end ?_
    refine w_ret ?_
    refine ⟨.inl rfl, _, rfl, ?_⟩
    have hset : (onV on).set (0 + e.toNat * 1) (.bool x) = onV (on.set e.toNat x) := by simp [onV, List.map_set]
    rw [hset]
    obtain ⟨r1, r2⟩ := hl.setOn hB hm hblt (on.set e.toNat x) (by simp [onV])
    exact ⟨by simp [oneOf, setRes, hr], by rw [setOn, if_pos hr]; exact r1, r2⟩

/-- A new one, apart from all that was. -/
def Fresh (h : Hp) (b : Nat) (B1 B2 : List Nat) : Prop := h.n ≤ b ∧ (∀ i, i ∈ B1 → h.n ≤ i) ∧ (∀ i, i ∈ B2 → h.n ≤ i)

/-- Copy -/
theorem c23 {h : Hp} {b : Nat} {st : List Int} {on : List Bool} {sc so : Value} {B1 B2 : List Nat} (hl : LivesR h b st on sc so B1 B2) (h1 : st.length ≤ 100000) (h2 : on.length ≤ 100000) :
    C lifeE 23 [.pointer (some ⟨b, 0, none⟩)] h fun v h' => ∃ b' sc' so' B1' B2', v = .pointer (some ⟨b', 0, none⟩) ∧ LivesR h' b' st on sc' so' B1' B2' ∧ Ext h h' ∧ Fresh h b' B1' B2' := by
  obtain ⟨a, rfl⟩ := hl.comps.val
  obtain ⟨a', rfl⟩ := hl.evs.val
  have ht := hl.top
  refine c_enter (fu := Try.f23) (by kernel_rfl) rfl ?_
  refine w_seq ?_
  refine w_region (by kernel_rfl) ?_
  refine o_assign gn rfl rfl ?_
  refine wl_end ?_
  refine w_seq ?_
  refine w_seq ?_
  refine w_region (by kernel_rfl) ?_
  refine o_move gn rfl rfl ?_
  refine o_eqp gn rfl rfl rfl (by kernel_rfl) ?_
  refine wl_end ?_
  refine w_cond rfl (fun hb => ?_) fun hb => ?_
  · skip
    refine w_seq ?_
    refine w_region (by kernel_rfl) ?_
    refine o_assign gn rfl rfl ?_
    refine wl_end ?_
    refine w_ret ?_
    refine ⟨.inl rfl, _, rfl, ?_⟩
    cases hb
  · skip
    refine w_skip ?_
    refine w_seq ?_
    refine w_draw [(0, []), (1, []), (2, []), (3, []), (5, []), (6, []), (7, []), (8, []), (4, [8]), (9, []), (10, []), (11, []), (12, [])] (by kernel_rfl) (by kernel_rfl) (by kernel_rfl) (by kernel_rfl) ?_
    refine o_move gn rfl rfl ?_
    refine o_nilCheck gn rfl rfl ?_
    refine o_fieldAddr (off := 0) gn rfl rfl (by kernel_rfl) ?_
    refine o_load gn rfl rfl (by kernel_rfl) (by assumption) rfl ?_
    refine o_move gn rfl rfl ?_
    refine o_nilCheck gn rfl rfl ?_
    refine o_fieldAddr (off := 1) gn rfl rfl (by kernel_rfl) ?_
    refine o_load gn rfl rfl (by kernel_rfl) (by assumption) rfl ?_
    refine o_call [_] gn rfl rfl (by kernel_rfl) rfl (C.mono (c57 (hl.comps.src (all_int _)) (by simpa [stV] using h1)) ?_)
    rintro sc' hp1 ⟨B1', s1, x1, f1⟩
    obtain ⟨a5, rfl⟩ := s1.val
    have ht1 : hp1.get b = _ := (x1.get b hl.lt).trans ht
    refine ⟨(ag1 (ag_load gn rfl (by kernel_rfl) (by assumption) rfl rfl same_slice) ag0), ?_⟩
    refine o_call [_] gn rfl rfl (by kernel_rfl) rfl (C.mono (c45 ((hl.evs.src (all_bool _)).ext x1) (by simpa [onV] using h2)) ?_)
    rintro so' hp2 ⟨B2', s2, x2, f2⟩
    obtain ⟨a6, rfl⟩ := s2.val
    refine ⟨ag0, ?_⟩
    refine o_build (zv := .agg #[.slice none 0 0, .slice none 0 0]) (pl := [(0, 1), (1, 1)]) [(0, _), (1, _)] gn rfl (by kernel_rfl) (by kernel_rfl) rfl rfl ?_
    refine o_box gn rfl rfl ?_
    refine o_assign gn rfl rfl ?_
    refine wl_end ?_
    refine w_ret ?_
    refine ⟨.inl rfl, _, rfl, ?_⟩
    have l1 := s1.lt
    have n1 := x1.n
    have n2 := x2.n
    obtain ⟨r1, r2⟩ := LivesR.new (s1.ext x2) s2 (fun i hi hj => by have := l1 i hi; have := f2 i hj; omega)
    exact ⟨hp2.n, _, _, B1', B2', rfl, r1, (x1.trans x2).trans r2, by omega, f1, fun i hi => by have := f2 i hi; omega⟩

/-- May -/
theorem c13 {h : Hp} {b : Nat} {st : List Int} {on : List Bool} {sc so : Value} {B1 B2 : List Nat} {c w : Int} (hl : LivesR h b st on sc so B1 B2) (hst : Sts st) (h1 : st.length ≤ 100000) (h2 : on.length ≤ 100000) :
    C lifeE 13 [.pointer (some ⟨b, 0, none⟩), .int .i64 c, .int .i64 w] h fun v h' => v = .bool (decide (goErr st c w = 0)) ∧ Ext h h' := by
  refine c_enter (fu := Try.f13) (by kernel_rfl) rfl ?_
  refine w_seq ?_
  refine w_region (by kernel_rfl) ?_
  refine o_assign gn rfl rfl ?_
  refine wl_end ?_
  refine w_seq ?_
  refine w_region (by kernel_rfl) ?_
  refine o_move gn rfl rfl ?_
  refine o_call [_] gn rfl rfl (by kernel_rfl) rfl (C.mono (c23 hl h1 h2) ?_)
  rintro v1 hp1 ⟨b', sc', so', B1', B2', rfl, l', x1, f0, f1, f2⟩
  refine ⟨ag0, ?_⟩
  refine o_move gn rfl rfl ?_
  refine o_move gn rfl rfl ?_
  refine o_call [_, _, _] gn rfl rfl (by kernel_rfl) rfl (C.mono (c14 l' hst) ?_)
  rintro v2 hp2 ⟨rfl, l2, x2⟩
  refine ⟨ag0, ?_⟩
  refine o_eqi gn rfl rfl rfl ?_
  refine o_assign gn rfl rfl ?_
  refine wl_end ?_
  refine w_ret ?_
  refine ⟨.inl rfl, _, rfl, ?_⟩
  exact ⟨rfl, ((x1.b B1').trans x2).mono (bs := []) (fun i hi hlt => by have := f1 i hi; omega) |>.nil⟩

/-- New -/
theorem c12 {h : Hp} {a : Option Addr} {n c : Nat} {on : List Bool} {k : Int} (hs : Src h (.slice a n c) (onV on)) (h1 : k ≤ 100000) (h2 : on.length ≤ 100000) :
    C lifeE 12 [.int .i64 k, .slice a n c] h fun v h' => ∃ b' sc' so' B1' B2', v = .pointer (some ⟨b', 0, none⟩) ∧ LivesR h' b' (List.replicate k.toNat 0) on sc' so' B1' B2' ∧ Ext h h' ∧ Fresh h b' B1' B2' := by
  refine c_enter (fu := Try.f12) (by kernel_rfl) rfl ?_
  refine w_seq ?_
  refine w_region (by kernel_rfl) ?_
  refine o_assign gn rfl rfl ?_
  refine wl_end ?_
  refine w_seq ?_
  refine w_draw [(0, []), (1, []), (2, []), (3, []), (4, [1]), (5, []), (6, []), (7, [])] (by kernel_rfl) (by kernel_rfl) (by kernel_rfl) (by kernel_rfl) ?_
  refine o_move gn rfl rfl ?_
  refine o_max gn rfl rfl rfl ?_
  refine o_makeSlice (e := 92) (z := 0) (zv := .int .i64 0) (by' := 8) gn rfl rfl rfl (by kernel_rfl) (by kernel_rfl) (by kernel_rfl) (by kernel_rfl) (by decide) (by omega) (by omega) (by omega) (by omega) ?_
  refine o_move gn rfl rfl ?_
  refine o_call [_] gn rfl rfl (by kernel_rfl) rfl (C.mono (c45 (hs.ext (Ext.alloc _ _)) (by simpa [onV] using h2)) ?_)
  rintro so' hp2 ⟨B2', s2, x2, f2⟩
  obtain ⟨a6, rfl⟩ := s2.val
  refine ⟨(ag1 (ag_max gn rfl rfl rfl) ag0), ?_⟩
  refine o_build (zv := .agg #[.slice none 0 0, .slice none 0 0]) (pl := [(0, 1), (1, 1)]) [(0, _), (1, _)] gn rfl (by kernel_rfl) (by kernel_rfl) rfl rfl ?_
  refine o_box gn rfl rfl ?_
  refine o_assign gn rfl rfl ?_
  refine wl_end ?_
  refine w_ret ?_
  refine ⟨.inl rfl, _, rfl, ?_⟩
  have e0 : (max k 0).toNat = k.toNat := by omega
  have hrep : ∀ m : Nat, repeatCells [Value.int .i64 0] m = stV (List.replicate m 0) := fun m => by
    induction m with
    | zero => rfl
    | succ m ih => rw [List.replicate_succ]; show _ :: repeatCells _ m = _ :: _; rw [ih]; rfl
  have s1 : Sl 92 (h.alloc (.cells (stV (List.replicate k.toNat 0)) 92 0)) (.slice (some ⟨h.n, 0, none⟩) k.toNat k.toNat) (stV (List.replicate k.toNat 0)) [h.n] := by
    have := Sl.new (h := h) (e := 92) (vs := stV (List.replicate k.toNat 0)) (m := 0) (.inl rfl)
    simpa [stV] using this
  have hz : (Value.int .i64 0).cells.toList = [Value.int .i64 0] := rfl
  rw [hz, hrep, e0] at x2 f2
  rw [e0]
  have n2 := x2.n
  rw [Hp.n_alloc] at n2
  obtain ⟨r1, r2⟩ := LivesR.new (s1.ext x2) s2 (fun i hi hj => by have := f2 i hj; rw [Hp.n_alloc] at this; simp at hi; omega)
  exact ⟨hp2.n, _, _, [h.n], B2', rfl, r1, ((Ext.alloc _ _).trans x2).trans r2, by omega, by simp, fun i hi => by have := f2 i hi; rw [Hp.n_alloc] at this; omega⟩

/-- Same -/
theorem c25 {h : Hp} {b b' : Nat} {st st' : List Int} {on on' : List Bool} {sc so sc' so' : Value} {B1 B2 B1' B2' : List Nat} (hl : LivesR h b st on sc so B1 B2) (hl' : LivesR h b' st' on' sc' so' B1' B2') (h1 : st.length ≤ 100000) (h2 : on.length ≤ 100000) :
    CP lifeE 25 [.pointer (some ⟨b, 0, none⟩), .pointer (some ⟨b', 0, none⟩)] h (.bool (decide (st = st') && decide (on = on'))) := by
  obtain ⟨a1, rfl⟩ := hl.comps.val
  obtain ⟨a2, rfl⟩ := hl.evs.val
  obtain ⟨a3, rfl⟩ := hl'.comps.val
  obtain ⟨a4, rfl⟩ := hl'.evs.val
  have ht := hl.top
  have ht' := hl'.top
  refine c_enter (fu := Try.f25) (by kernel_rfl) rfl ?_
  refine w_seq ?_
  refine w_region (by kernel_rfl) ?_
  refine o_assign gn rfl rfl ?_
  refine wl_end ?_
  refine w_seq ?_
  refine w_seq ?_
  refine w_region (by kernel_rfl) ?_
  refine o_move gn rfl rfl ?_
  refine o_eqp gn rfl rfl rfl (by kernel_rfl) ?_
  refine o_move gn rfl rfl ?_
  refine o_or (n := 2) rfl rfl rfl gn rfl (fun hb => by
      refine o_move (gy rfl rfl rfl hb) rfl rfl ?_
      refine o_eqp (gy rfl rfl rfl hb) rfl rfl rfl (by kernel_rfl) ?_
      exact wl_end ⟨rfl, rfl, 2, rfl, rfl⟩) ?_
  refine wl_end ?_
  refine w_cond rfl (fun hb => ?_) fun hb => ?_
  · skip
    refine w_seq ?_
    refine w_region (by kernel_rfl) ?_
    refine o_move gn rfl rfl ?_
    refine o_eqp gn rfl rfl rfl (by kernel_rfl) ?_
    refine o_move gn rfl rfl ?_
    refine o_and (n := 2) rfl rfl rfl gn rfl (fun hb => by
        refine o_move (gy rfl rfl rfl hb) rfl rfl ?_
        refine o_eqp (gy rfl rfl rfl hb) rfl rfl rfl (by kernel_rfl) ?_
        exact wl_end ⟨rfl, rfl, 2, rfl, rfl⟩) ?_
    refine o_assign gn rfl rfl ?_
    refine wl_end ?_
    refine w_ret ?_
    refine ⟨.inl rfl, _, rfl, ?_⟩
    cases hb
  · skip
    refine w_skip ?_
    refine w_seq ?_
    refine w_draw [(0, []), (1, []), (2, []), (3, []), (4, []), (5, []), (6, []), (7, []), (8, []), (9, []), (10, []), (11, []), (12, []), (13, []), (14, []), (15, []), (16, []), (17, []), (18, []), (19, []), (20, [])] (by kernel_rfl) (by kernel_rfl) (by kernel_rfl) (by kernel_rfl) ?_
    refine o_move gn rfl rfl ?_
    refine o_nilCheck gn rfl rfl ?_
    refine o_fieldAddr (off := 0) gn rfl rfl (by kernel_rfl) ?_
    refine o_load gn rfl rfl (by kernel_rfl) (by assumption) rfl ?_
    refine o_move gn rfl rfl ?_
    refine o_nilCheck gn rfl rfl ?_
    refine o_fieldAddr (off := 0) gn rfl rfl (by kernel_rfl) ?_
    refine o_load gn rfl rfl (by kernel_rfl) (by assumption) rfl ?_
    refine o_call [_, _] gn rfl rfl (by kernel_rfl) rfl (c_pure (c58 (hl.comps.src (all_int _)) (hl'.comps.src (all_int _)) h1) ⟨ag0, ?_⟩)
    refine o_move gn rfl rfl ?_
    refine o_and (n := 9) rfl rfl rfl gn rfl (fun hb => by
        refine o_move (gy rfl rfl rfl hb) rfl rfl ?_
        refine o_nilCheck (gy rfl rfl rfl hb) rfl rfl ?_
        refine o_fieldAddr (off := 1) (gy rfl rfl rfl hb) rfl rfl (by kernel_rfl) ?_
        refine o_load (gy rfl rfl rfl hb) rfl rfl (by kernel_rfl) (by assumption) rfl ?_
        refine o_move (gy rfl rfl rfl hb) rfl rfl ?_
        refine o_nilCheck (gy rfl rfl rfl hb) rfl rfl ?_
        refine o_fieldAddr (off := 1) (gy rfl rfl rfl hb) rfl rfl (by kernel_rfl) ?_
        refine o_load (gy rfl rfl rfl hb) rfl rfl (by kernel_rfl) (by assumption) rfl ?_
        refine o_call [_, _] (gy rfl rfl rfl hb) rfl rfl (by kernel_rfl) rfl (c_pure (c59 (hl.evs.src (all_bool _)) (hl'.evs.src (all_bool _)) h2) ⟨ag0, ?_⟩)
        exact wl_end ⟨rfl, rfl, 9, rfl, rfl⟩) ?_
    refine o_assign gn rfl rfl ?_
    refine wl_end ?_
    refine w_ret ?_
    refine ⟨.inl rfl, _, rfl, ?_⟩
    exact ⟨rfl, rfl⟩

end Go.Proofs.Ytkmbfjdmbdpflaa

