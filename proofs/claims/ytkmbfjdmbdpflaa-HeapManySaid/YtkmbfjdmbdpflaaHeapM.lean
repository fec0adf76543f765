/- HeapMany, in the calculus. Conditions: none. -/
import Derived.Test.YtkmbfjdmbdpflaaHeapC
namespace Go.Proofs.Ytkmbfjdmbdpflaa
open Go.X

theorem c22' {h : Hp} {b : Nat} {obs : List Ob} {own : List Nat} (hl : HAt h b obs own) : CP heapE 22 [ptrV b] h (iV obs.length) := by
  obtain ⟨_, _, _, _, _, _, _, hl, _⟩ := hl
  exact c22 hl

def oneOb (k c : Int) : Ob := ⟨1, 0, [0, 0], 0, k, c⟩
theorem oneOb_maker (k c : Int) : (oneOb k c).maker = k := rfl

/-- HeapMany -/
theorem c5 {h : Hp} {many every : Int} : C heapE 5 [iV many, iV every] h fun v _ => v = .bool true := by
  have hnb : ¬ mkBad 1 2 := by decide
  refine c_enter (fu := Try.f5) (by kernel_rfl) rfl ?_
  refine w_seq ?_
  refine w_region (by kernel_rfl) ?_
  refine o_assign gn rfl rfl ?_
  refine wl_end ?_
  refine w_seq ?_
  refine w_seq ?_
  refine w_region (by kernel_rfl) ?_
  refine o_move gn rfl rfl ?_
  refine o_lss gn rfl rfl rfl ?_
  refine o_move gn rfl rfl ?_
  refine o_or (n := 2) rfl rfl rfl gn rfl (fun hb => by
      refine o_move (gy rfl rfl rfl hb) rfl rfl ?_
      refine o_gtr (gy rfl rfl rfl hb) rfl rfl rfl ?_
      exact wl_end ⟨rfl, rfl, 2, rfl, rfl⟩) ?_
  refine o_move gn rfl rfl ?_
  refine o_or (n := 2) rfl rfl rfl gn rfl (fun hb => by
      refine o_move (gy rfl rfl rfl hb) rfl rfl ?_
      refine o_lss (gy rfl rfl rfl hb) rfl rfl rfl ?_
      exact wl_end ⟨rfl, rfl, 2, rfl, rfl⟩) ?_
  refine wl_end ?_
  refine w_cond rfl (fun hb => ?_) fun hb => ?_
  · skip
    refine w_seq ?_
    refine w_region (by kernel_rfl) ?_
    refine o_orc (f := 18) (v := .bool true) gn rfl (by kernel_rfl) (by kernel_rfl) ag0 ?_
    refine o_assign gn rfl rfl ?_
    refine wl_end ?_
    refine w_ret ?_
    refine ⟨.inl rfl, _, rfl, ?_⟩
    rfl
  · skip
    have hr : 0 ≤ many ∧ many ≤ 1030 ∧ 2 ≤ every := by simp at hb; omega
    refine w_skip ?_
    refine w_seq ?_
    refine w_region (by kernel_rfl) ?_
    refine o_call [] gn rfl rfl (by kernel_rfl) rfl (C.mono c19 ?_)
    rintro v0 hp0 ⟨b, r, rfl, l0, x0, _, _⟩
    refine ⟨ag0, ?_⟩
    refine o_assign gn rfl rfl ?_
    refine wl_end ?_
    refine w_seq ?_
    refine w_region (by kernel_rfl) ?_
    refine o_assign gn rfl rfl ?_
    refine wl_end ?_
    refine w_seq ?_
    refine w_seq ?_
    refine w_region (by kernel_rfl) ?_
    refine o_assign gn rfl rfl ?_
    refine wl_end ?_
    refine w_block ?_
    refine w_weak [(0, iV many), (1, iV every), (5, ptrV b), (6, iV 0), (7, iV 0)] (by repeat (first | exact trivial | refine ⟨rfl, ?_⟩)) ?_
    refine w_loop (fun k l hh => ∃ (i : Int) (obs : List Ob) (own : List Nat), 0 ≤ i ∧ i ≤ many ∧ k = (many - i).toNat ∧ HAt hh b obs own ∧ (obs.length : Int) = min i 1024 ∧ cnt 1 obs + cnt 2 obs = obs.length ∧ (∀ o, o ∈ obs → o.vals.length ≤ 100000) ∧ l = [(0, iV many), (1, iV every), (5, ptrV b), (6, iV (cnt 2 obs)), (7, iV i)]) (n := (many - (0 : Int)).toNat) ?_ fun k l hh hI => ?_
    · exact ⟨0, [], _, by omega, by omega, rfl, ⟨_, _, _, _, _, _, _, l0, rfl⟩, by simp; omega, rfl, by simp, rfl⟩
    · obtain ⟨i, obs, own, hi0, hi1, rfl, hl, hlen, hsum, hvals, rfl⟩ := hI
      refine w_seq ?_
      refine w_seq ?_
      refine w_region (by kernel_rfl) ?_
      refine o_move gn rfl rfl ?_
      refine o_move gn rfl rfl ?_
      refine o_lss gn rfl rfl rfl ?_
      refine wl_end ?_
      refine w_cond rfl (fun hb => ?_) fun hb => ?_
      · skip
        refine w_skip ?_
        refine w_seq ?_
        refine w_block ?_
        refine w_seq ?_
        refine w_region (by kernel_rfl) ?_
        refine o_assign gn rfl rfl ?_
        refine wl_end ?_
        have hlt : i < many := by simpa using hb
        have hc1 := cnt_le 1 obs
        have hc2 := cnt_le 2 obs
        obtain ⟨hq0, hqq⟩ : ∃ x, x = hh := ⟨_, rfl⟩
        subst hqq
        refine w_cut (fun l hh => ∃ by' : Int, (by' = 1 ∨ by' = 2) ∧ hh = hq0 ∧ l = [(0, iV many), (1, iV every), (5, ptrV b), (6, iV (cnt 2 obs)), (7, iV i), (8, iV by')]) ?_ fun l hh hJ => ?_
        · skip
          refine w_seq ?_
          refine w_region (by kernel_rfl) ?_
          refine o_move gn rfl rfl ?_
          refine o_move gn rfl rfl ?_
          refine o_rem gn rfl rfl rfl (by omega) ?_
          refine o_eqi gn rfl rfl rfl ?_
          refine wl_end ?_
          refine w_cond rfl (fun hb => ?_) fun hb => ?_
          · skip
            refine w_region (by kernel_rfl) ?_
            refine o_assign gn rfl rfl ?_
            refine wl_end ?_
            exact ⟨_, (by repeat (first | exact trivial | refine ⟨rfl, ?_⟩)), ⟨2, .inr rfl, rfl, rfl⟩⟩
          · skip
            refine w_skip ?_
            exact ⟨_, (by repeat (first | exact trivial | refine ⟨rfl, ?_⟩)), ⟨1, .inl rfl, rfl, rfl⟩⟩
        · obtain ⟨by', hby, rfl, rfl⟩ := hJ
          refine w_seq ?_
          refine w_region (by kernel_rfl) ?_
          refine o_move gn rfl rfl ?_
          refine o_move gn rfl rfl ?_
          refine o_call [_, _, _, _, _, _] gn rfl rfl (by kernel_rfl) rfl (C.mono (c20 hl) ?_)
          rintro v1 hp1 ⟨rfl, own1, l1, f1, x1⟩
          rw [mkN, if_neg hnb, mkE, if_neg hnb]
          rw [mkO, if_neg hnb] at l1
          refine ⟨ag0, ?_⟩
          refine o_move gn rfl rfl ?_
          refine o_extract gn rfl rfl rfl ?_
          refine o_extract gn rfl rfl rfl ?_
          refine o_assign gn rfl rfl ?_
          refine o_assign gn rfl rfl ?_
          refine wl_end ?_
          refine w_seq ?_
          refine w_seq ?_
          refine w_region (by kernel_rfl) ?_
          refine o_move gn rfl rfl ?_
          refine o_geq gn rfl rfl rfl ?_
          refine wl_end ?_
          refine w_cond rfl (fun hb => ?_) fun hb => ?_
          · skip
            refine w_seq ?_
            refine w_seq ?_
            refine w_region (by kernel_rfl) ?_
            refine o_move gn rfl rfl ?_
            have hge : 1024 ≤ i := by simpa using hb
            have e1 : layN obs = 0 := if_neg (by omega)
            have e2 : layE obs = 11 := if_neg (by omega)
            have e3 : layO obs (mkOb 1 0 2 0 by') = obs := if_neg (by omega)
            refine o_nei gn rfl rfl rfl ?_
            refine o_move gn rfl rfl ?_
            refine o_or (n := 2) rfl rfl rfl gn rfl (fun hb => by
                refine o_move (gy rfl rfl rfl hb) rfl rfl ?_
                refine o_nei (gy rfl rfl rfl hb) rfl rfl rfl ?_
                exact wl_end ⟨rfl, rfl, 2, rfl, rfl⟩) ?_
            refine wl_end ?_
            refine w_cond rfl (fun hb => ?_) fun hb => ?_
            · skip
              refine w_seq ?_
              refine w_region (by kernel_rfl) ?_
              refine o_assign gn rfl rfl ?_
              refine wl_end ?_
              refine w_ret ?_
              refine ⟨.inl rfl, _, rfl, ?_⟩
              exfalso
              simp [e1, e2] at hb
            · skip
              refine w_skip ?_
              refine w_exit ?_
              refine thn_exit ?_
              refine blk_eq ?_
              refine w_region (by kernel_rfl) ?_
              refine o_move gn rfl rfl ?_
              refine o_add gn rfl rfl rfl (by omega) (by omega) ?_
              refine o_assign gn rfl rfl ?_
              refine wl_end ?_
              exact ⟨(many - (i + 1)).toNat, by omega, _, (by repeat (first | exact trivial | refine ⟨rfl, ?_⟩)), ⟨i + 1, obs, own1, by omega, by omega, rfl, by rw [← e3]; exact l1, by omega, hsum, hvals, rfl⟩⟩
          · skip
            have hge : i < 1024 := by simpa using hb
            have e1 : layN obs = i + 1 := by rw [layN, if_pos (by omega)]; omega
            have e2 : layE obs = 0 := if_pos (by omega)
            have e3 : layO obs (mkOb 1 0 2 0 by') = obs ++ [oneOb by' (cnt by' obs)] := if_pos (by omega)
            have e4 : obAt (layO obs (mkOb 1 0 2 0 by')) (layN obs) = some (oneOb by' (cnt by' obs)) := by
              rw [e1, e3, obAt, if_pos (by omega), show (i + 1 - 1).toNat = obs.length from by omega]; simp
            have hv1 : ∀ o, o ∈ layO obs (mkOb 1 0 2 0 by') → o.vals.length ≤ 100000 := by
              rw [e3]; intro o ho
              rcases List.mem_append.1 ho with h1 | h1
              · exact hvals o h1
              · simp at h1; subst h1; simp [oneOb]
            refine w_skip ?_
            refine w_seq ?_
            refine w_region (by kernel_rfl) ?_
            refine o_move gn rfl rfl ?_
            refine o_move gn rfl rfl ?_
            refine o_call [_, _] gn rfl rfl (by kernel_rfl) rfl (C.mono (c21 (id := layN obs) l1 (by rw [e3]; simp; omega) hv1) ?_)
            rintro v2 hp2 ⟨x2, q2⟩
            rw [e4] at q2
            obtain ⟨sv, bs, rfl, s2, f2⟩ := q2
            obtain ⟨asv, rfl⟩ := s2.val
            refine ⟨ag0, ?_⟩
            refine o_move gn rfl rfl ?_
            refine o_extract gn rfl rfl rfl ?_
            refine o_extract gn rfl rfl rfl ?_
            refine o_alloc (zv := .agg #[.int .i64 0, .int .i64 0, .slice none 0 0, .int .i64 0, .int .i64 0, .int .i64 0]) gn rfl (by kernel_rfl) ?_
            refine o_storeA (n := 6) gn rfl rfl rfl (by kernel_rfl) rfl (Hp.get_alloc_self _ _) (by decide) rfl ag0 ?_
            refine wl_at (fun h3 => h3.get hp2.n = some (.cells (Ob.cells (oneOb by' (cnt by' obs)) (.slice asv (isV [0, 0]).length (isV [0, 0]).length)) 46 0) ∧ Ext hp2 h3) ⟨Hp.get_put_self _ _ _, (Ext.alloc hp2 _).of (ExtB.put _ _ _) (by simp)⟩ fun h3 ⟨g3, x3⟩ => ?_
            have l3 := l1.ext (x2.trans x3)
            refine o_assign gn rfl rfl ?_
            refine wl_end ?_
            refine w_seq ?_
            refine w_region (by kernel_rfl) ?_
            refine o_move gn rfl rfl ?_
            refine o_move gn rfl rfl ?_
            refine o_sub gn rfl rfl rfl (by omega) (by omega) ?_
            refine o_assign gn rfl rfl ?_
            refine wl_end ?_
            refine w_cut (fun l hh => ∃ nth others : Int, nth = cnt by' obs ∧ others = cnt 2 (obs ++ [oneOb by' (cnt by' obs)]) ∧ hh = h3 ∧ l = [(0, iV many), (1, iV every), (5, ptrV b), (6, iV others), (7, iV i), (8, iV by'), (9, iV (layN obs)), (10, iV (layE obs)), (11, ptrV hp2.n), (12, iV 0), (13, iV nth)]) ?_ fun l hh hJ => ?_
            · skip
              refine w_seq ?_
              refine w_region (by kernel_rfl) ?_
              refine o_move gn rfl rfl ?_
              refine o_eqi gn rfl rfl rfl ?_
              refine wl_end ?_
              refine w_cond rfl (fun hb => ?_) fun hb => ?_
              · skip
                refine w_seq ?_
                refine w_region (by kernel_rfl) ?_
                refine o_move gn rfl rfl ?_
                refine o_assign gn rfl rfl ?_
                refine wl_end ?_
                refine w_region (by kernel_rfl) ?_
                refine o_move gn rfl rfl ?_
                refine o_add gn rfl rfl rfl (by omega) (by omega) ?_
                refine o_assign gn rfl rfl ?_
                refine wl_end ?_
                exact ⟨_, (by repeat (first | exact trivial | refine ⟨rfl, ?_⟩)), ⟨cnt 2 obs, cnt 2 obs + 1, by rw [show by' = 2 from by simpa using hb], by rw [cnt_append, oneOb_maker, if_pos (show by' = 2 from by simpa using hb)], rfl, rfl⟩⟩
              · skip
                refine w_skip ?_
                exact ⟨_, (by repeat (first | exact trivial | refine ⟨rfl, ?_⟩)), ⟨i - cnt 2 obs, cnt 2 obs, by rw [show by' = 1 from by rcases hby with h1 | h1; exact h1; simp [h1] at hb]; omega, by rw [cnt_append, oneOb_maker, if_neg (show ¬ by' = 2 from by simpa using hb)]; omega, rfl, rfl⟩⟩
            · obtain ⟨nth, others, hnth, rfl, rfl, rfl⟩ := hJ
              refine w_seq ?_
              refine w_region (by kernel_rfl) ?_
              refine o_move gn rfl rfl ?_
              refine o_nei gn rfl rfl rfl ?_
              refine o_move gn rfl rfl ?_
              refine o_or (n := 2) rfl rfl rfl gn rfl (fun hb => by
                  refine o_move (gy rfl rfl rfl hb) rfl rfl ?_
                  refine o_nei (gy rfl rfl rfl hb) rfl rfl rfl ?_
                  exact wl_end ⟨rfl, rfl, 2, rfl, rfl⟩) ?_
              refine o_move gn rfl rfl ?_
              refine o_or (n := 4) rfl rfl rfl gn rfl (fun hb => by
                  refine o_move (gy rfl rfl rfl hb) rfl rfl ?_
                  refine o_move (gy rfl rfl rfl hb) rfl rfl ?_
                  refine o_add (gy rfl rfl rfl hb) rfl rfl rfl (by omega) (by omega) ?_
                  refine o_nei (gy rfl rfl rfl hb) rfl rfl rfl ?_
                  exact wl_end ⟨rfl, rfl, 4, rfl, rfl⟩) ?_
              refine o_move gn rfl rfl ?_
              refine o_or (n := 4) rfl rfl rfl gn rfl (fun hb => by
                  refine o_fieldAddr (off := 4) (gy rfl rfl rfl hb) rfl rfl (by kernel_rfl) ?_
                  refine o_load (gy rfl rfl rfl hb) rfl rfl (by kernel_rfl) (by assumption) rfl ?_
                  refine o_move (gy rfl rfl rfl hb) rfl rfl ?_
                  refine o_nei (gy rfl rfl rfl hb) rfl rfl rfl ?_
                  exact wl_end ⟨rfl, rfl, 4, rfl, rfl⟩) ?_
              refine o_move gn rfl rfl ?_
              refine o_or (n := 4) rfl rfl rfl gn rfl (fun hb => by
                  refine o_fieldAddr (off := 5) (gy rfl rfl rfl hb) rfl rfl (by kernel_rfl) ?_
                  refine o_load (gy rfl rfl rfl hb) rfl rfl (by kernel_rfl) (by assumption) rfl ?_
                  refine o_move (gy rfl rfl rfl hb) rfl rfl ?_
                  refine o_nei (gy rfl rfl rfl hb) rfl rfl rfl ?_
                  exact wl_end ⟨rfl, rfl, 4, rfl, rfl⟩) ?_
              refine wl_end ?_
              refine w_cond rfl (fun hb => ?_) fun hb => ?_
              · skip
                refine w_seq ?_
                refine w_region (by kernel_rfl) ?_
                refine o_assign gn rfl rfl ?_
                refine wl_end ?_
                refine w_ret ?_
                refine ⟨.inl rfl, _, rfl, ?_⟩
                exfalso
                simp [e1, e2, hnth, oneOb] at hb
              · skip
                refine w_skip ?_
                refine w_region (by kernel_rfl) ?_
                refine o_move gn rfl rfl ?_
                refine o_add gn rfl rfl rfl (by omega) (by omega) ?_
                refine o_assign gn rfl rfl ?_
                refine wl_end ?_
                exact ⟨(many - (i + 1)).toNat, by omega, _, (by repeat (first | exact trivial | refine ⟨rfl, ?_⟩)), ⟨i + 1, _, own1, by omega, by omega, rfl, by rw [← e3]; exact l3, by simp; omega, by rw [cnt_append, cnt_append, oneOb_maker]; rcases hby with h1 | h1 <;> simp [h1] <;> omega, by rw [← e3]; exact hv1, rfl⟩⟩
      · skip
        refine w_exit ?_
        refine thn_exit ?_
        refine rnd_exit ?_
        refine blk_eq ?_
        refine w_seq ?_
        refine w_region (by kernel_rfl) ?_
        refine o_move gn rfl rfl ?_
        refine o_call [_] gn rfl rfl (by kernel_rfl) rfl (c_pure (c22' hl) ⟨ag0, ?_⟩)
        refine o_move gn rfl rfl ?_
        refine o_min gn rfl rfl rfl ?_
        refine o_eqi gn rfl rfl rfl ?_
        refine o_move gn rfl rfl ?_
        refine o_and (n := 1) rfl rfl rfl gn rfl (fun hb => by
            refine o_orc (f := 18) (v := .bool true) (gy rfl rfl rfl hb) rfl (by kernel_rfl) (by kernel_rfl) ag0 ?_
            exact wl_end ⟨rfl, rfl, 1, rfl, rfl⟩) ?_
        refine o_assign gn rfl rfl ?_
        refine wl_end ?_
        refine w_ret ?_
        refine ⟨.inl rfl, _, rfl, ?_⟩
        have hge : ¬ i < many := by simpa using hb
        have : (obs.length : Int) = min many 1024 := by omega
        simp [oneOf, this]

end Go.Proofs.Ytkmbfjdmbdpflaa

