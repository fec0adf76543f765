/- LifeTurns, in the calculus. Conditions: the slice is as it is read. -/
import Derived.Test.YtkmbfjdmbdpflaaLifeP
namespace Go.Proofs.Ytkmbfjdmbdpflaa
open Go.X

/-- The state ahead of the callback of some number. -/
def sAt (was : List Int) (i : Nat) : Int := if i = 0 then 0 else (was[i - 1]?).getD 0 + 1
/-- Each callback may be where it is. -/
def Good (was : List Int) : Prop := ∀ i, i < was.length → mayGo (sAt was i) ((was[i]?).getD 0) = true

theorem mayGo_iff (s w : Int) : mayGo s w = true ↔ (w = 0 ∧ s = 0) ∨ (w = 1 ∧ (s = 1 ∨ s = 3)) ∨ (w = 2 ∧ s = 2) ∨ (w = 3 ∧ (s = 1 ∨ s = 3)) := by simp [mayGo]

theorem sAt_append {was : List Int} {w : Int} {i : Nat} (h : i ≤ was.length) : sAt (was ++ [w]) i = sAt was i := by
  unfold sAt
  split
  · rfl
  · rw [List.getElem?_append_left (by omega)]

theorem Good.push {was : List Int} {w : Int} (g : Good was) (h : mayGo (sAt was was.length) w = true) : Good (was ++ [w]) := fun i hi => by
  simp only [List.length_append, List.length_cons, List.length_nil] at hi
  rw [sAt_append (by omega)]
  by_cases e : i = was.length
  · subst e; simpa using h
  · rw [List.getElem?_append_left (by omega)]; exact g i (by omega)

theorem goErr_one {s w : Int} : goErr [s] 0 w = 0 ↔ mayGo s w = true := by
  unfold goErr stAt
  constructor
  · intro h
    split at h
    · split at h
      · rename_i hm; simpa using hm
      · simp at h
    · simp at h
  · intro h
    have := (mayGo_iff s w).1 h
    rw [if_pos ⟨by omega, by simp, by omega, by omega⟩, if_pos (by simpa using h)]

theorem goSt_one {s w : Int} : goSt [s] 0 w = if mayGo s w = true then [w + 1] else [s] := by
  unfold goSt
  by_cases h : mayGo s w = true
  · rw [if_pos (goErr_one.2 h), if_pos h]; rfl
  · rw [if_neg (fun e => h (goErr_one.1 e)), if_neg h]

theorem turn_ok {was : List Int} (g : Good was) {j : Nat} (hj : j < was.length) :
    ((was[j]?).getD 0 = 0 ↔ j = 0) ∧ ((was[j]?).getD 0 = 3 → j + 1 = was.length) ∧ ((was[j]?).getD 0 = 3 → ¬ sAt was j = 2) ∧ ((was[j]?).getD 0 = 1 → ¬ sAt was j = 2) ∧ ((was[j]?).getD 0 = 2 → sAt was j = 2) ∧
    (0 ≤ (was[j]?).getD 0 ∧ (was[j]?).getD 0 ≤ 3) ∧ sAt was (j + 1) = (was[j]?).getD 0 + 1 ∧ ((was[j]?).getD 0 = 0 → ¬ sAt was j = 2) := by
  have h := (mayGo_iff _ _).1 (g j hj)
  have hs1 : sAt was (j + 1) = (was[j]?).getD 0 + 1 := by simp [sAt]
  refine ⟨⟨fun h0 => ?_, fun h0 => ?_⟩, fun h3 => ?_, fun h3 => by omega, fun h3 => by omega, fun h3 => by omega, by omega, hs1, fun h3 => by omega⟩
  · cases j with
    | zero => rfl
    | succ i =>
      have h' := (mayGo_iff _ _).1 (g i (by omega))
      have : sAt was (i + 1) = (was[i]?).getD 0 + 1 := by simp [sAt]
      omega
  · subst h0
    have : sAt was 0 = 0 := rfl
    omega
  · by_cases e : j + 1 < was.length
    · have h' := (mayGo_iff _ _).1 (g (j + 1) e)
      omega
    · omega

/-- LifeTurns -/
theorem c3 {h : Hp} {a : Option Addr} {n c : Nat} {wh : List Int} (hs : Src h (.slice a n c) (stV wh)) : C lifeE 3 [.slice a n c] h fun v _ => v = .bool true := by
  have en := hs.len'
  simp only [stV, List.length_map] at en
  subst en
  refine c_enter (fu := Try.f3) (by kernel_rfl) rfl ?_
  refine w_seq ?_
  refine w_region (by kernel_rfl) ?_
  refine o_assign gn rfl rfl ?_
  refine wl_end ?_
  refine w_seq ?_
  refine w_seq ?_
  refine w_region (by kernel_rfl) ?_
  refine o_move gn rfl rfl ?_
  refine o_len gn rfl rfl (by kernel_rfl) ?_
  refine o_gtr gn rfl rfl rfl ?_
  refine wl_end ?_
  refine w_cond rfl (fun hb => ?_) fun hb => ?_
  · skip
    refine w_seq ?_
    refine w_region (by kernel_rfl) ?_
    refine o_orc (f := 11) (v := .bool true) gn rfl (by kernel_rfl) (by kernel_rfl) ag0 ?_
    refine o_assign gn rfl rfl ?_
    refine wl_end ?_
    refine w_ret ?_
    refine ⟨.inl rfl, _, rfl, ?_⟩
    rfl
  · skip
    have hb' : wh.length ≤ 60 := by simp at hb; omega
    refine w_skip ?_
    refine w_seq ?_
    refine w_region (by kernel_rfl) ?_
    refine o_call [_, _] gn rfl rfl (by kernel_rfl) rfl (C.mono (c12 (on := []) (⟨rfl, rfl, rfl, fun a n c e => by cases e⟩ : Src h (.slice none 0 0) (onV [])) (by omega) (by simp)) ?_)
    rintro v1 hp1 ⟨b, sc, so, B1, B2, rfl, l1, x1, f0, f1, f2⟩
    refine ⟨ag0, ?_⟩
    refine o_assign gn rfl rfl ?_
    refine wl_end ?_
    refine w_seq ?_
    refine w_region (by kernel_rfl) ?_
    refine o_assign gn rfl rfl ?_
    refine wl_end ?_
    refine w_seq ?_
    refine w_seq ?_
    refine w_region (by kernel_rfl) ?_
    refine o_assign gn rfl rfl ?_
    refine wl_end ?_
    refine w_block ?_
    refine w_weak [(0, .slice a wh.length c), (3, .pointer (some ⟨b, 0, none⟩)), (4, .slice none 0 0), (5, .int .i64 0)] (by repeat (first | exact trivial | refine ⟨rfl, ?_⟩)) ?_
    refine w_loop (fun k l hh => ∃ (i : Int) (was : List Int) (sw : Value) (Bw : List Nat), 0 ≤ i ∧ i ≤ wh.length ∧ k = (wh.length - i).toNat ∧ (was.length : Int) ≤ i ∧ Good was ∧ LivesR hh b [sAt was was.length] [] sc so B1 B2 ∧ (0 ≤ sAt was was.length ∧ sAt was was.length ≤ 4) ∧
  Sl 3 hh sw (stV was) Bw ∧ (∀ j, j ∈ Bw → h.n ≤ j ∧ j ≠ b ∧ j ∉ B1 ∧ j ∉ B2) ∧ Ext h hh ∧ l = [(0, .slice a wh.length c), (3, .pointer (some ⟨b, 0, none⟩)), (4, sw), (5, .int .i64 i)]) (n := (wh.length - (0 : Int)).toNat) ?_ fun k l hh hI => ?_
    · exact ⟨0, [], _, [], by omega, by omega, rfl, by simp, fun i hi => by simp at hi, l1, ⟨by decide, by decide⟩, .inl ⟨rfl, rfl, rfl⟩, by simp, x1, rfl⟩
    · obtain ⟨i, was, sw, Bw, hi0, hi1, rfl, hwl, hgood, hl, hsr, hsw, hdw, hx, rfl⟩ := hI
      refine w_seq ?_
      refine w_seq ?_
      refine w_region (by kernel_rfl) ?_
      refine o_move gn rfl rfl ?_
      refine o_move gn rfl rfl ?_
      refine o_len gn rfl rfl (by kernel_rfl) ?_
      refine o_lss gn rfl rfl rfl ?_
      refine wl_end ?_
      refine w_cond rfl (fun hb => ?_) fun hb => ?_
      · skip
        refine w_skip ?_
        refine w_seq ?_
        have hlt : i < wh.length := by simpa using hb
        obtain ⟨bb, o, cs, e, m, rfl, hg, hbl, _, hcs⟩ := hs.at (by simp [stV]; omega)
        have hv := (hcs i.toNat (by simp [stV]; omega)).trans (at_int (k := .i64) i.toNat (by omega) rfl)
        have hst : Sts [sAt was was.length] := fun s hs => by simp at hs; subst hs; exact hsr
        obtain ⟨aw, rfl⟩ := hsw.val
        have hg1 := (hx.get bb hbl).trans hg
        refine w_block ?_
        refine w_seq ?_
        refine w_region (by kernel_rfl) ?_
        refine o_move gn rfl rfl ?_
        refine o_move gn rfl rfl ?_
        refine o_move gn rfl rfl ?_
        refine o_indexAddr (zz := 1) gn rfl rfl rfl (by kernel_rfl) (by omega) (by omega) ?_
        refine o_load gn rfl rfl (by kernel_rfl) hg1 (by rw [Nat.mul_one]; exact hv) ?_
        refine o_call [_, _, _] gn rfl rfl (by kernel_rfl) rfl (C.mono (c13 hl hst (by simp) (by simp)) ?_)
        rintro v2 hp2 ⟨rfl, x2⟩
        have hl2 := hl.keep (x2.b []) (by simp) (by simp) (by simp)
        have hg2 := (x2.get bb (Nat.lt_of_lt_of_le hbl hx.n)).trans hg1
        refine ⟨ag0, ?_⟩
        refine o_assign gn rfl rfl ?_
        refine wl_end ?_
        refine w_seq ?_
        refine w_seq ?_
        refine w_region (by kernel_rfl) ?_
        refine o_move gn rfl rfl ?_
        refine o_move gn rfl rfl ?_
        refine o_move gn rfl rfl ?_
        refine o_indexAddr (zz := 1) gn rfl rfl rfl (by kernel_rfl) (by omega) (by omega) ?_
        refine o_load gn rfl rfl (by kernel_rfl) hg2 (by rw [Nat.mul_one]; exact hv) ?_
        refine o_call [_, _, _] gn rfl rfl (by kernel_rfl) rfl (C.mono (c14 hl2 hst) ?_)
        rintro v3 hp3 ⟨rfl, l3, x3⟩
        refine ⟨ag0, ?_⟩
        refine o_eqi gn rfl rfl rfl ?_
        refine o_move gn rfl rfl ?_
        refine o_neb gn rfl rfl rfl (by kernel_rfl) ?_
        refine wl_end ?_
        refine w_cond rfl (fun hb => ?_) fun hb => ?_
        · skip
          refine w_seq ?_
          refine w_region (by kernel_rfl) ?_
          refine o_assign gn rfl rfl ?_
          refine wl_end ?_
          refine w_ret ?_
          refine ⟨.inl rfl, _, rfl, ?_⟩
          simp at hb
        · skip
          refine w_skip ?_
          refine w_seq ?_
          refine w_region (by kernel_rfl) ?_
          refine o_move gn rfl rfl ?_
          refine wl_end ?_
          have hbn1 : ∀ j, j ∈ B1 → h.n ≤ j := f1
          have x03 : Ext h hp3 := ⟨Nat.le_trans hx.n (Nat.le_trans x2.n x3.n), fun j hj => (x3.get j (Nat.lt_of_lt_of_le hj (Nat.le_trans hx.n x2.n)) (fun hm => by have := f1 j hm; omega)).trans ((x2.get j (Nat.lt_of_lt_of_le hj hx.n)).trans (hx.get j hj))⟩
          have hsw3 := (hsw.ext x2).keep x3 (fun j hj => (hdw j hj).2.2.1)
          have hg3 := (x03.get bb hbl).trans hg
          rw [goSt_one] at l3
          refine w_cond rfl (fun hb => ?_) fun hb => ?_
          · skip
            refine w_region (by kernel_rfl) ?_
            refine o_move gn rfl rfl ?_
            refine o_move gn rfl rfl ?_
            refine o_move gn rfl rfl ?_
            refine o_indexAddr (zz := 1) gn rfl rfl rfl (by kernel_rfl) (by omega) (by omega) ?_
            refine o_load gn rfl rfl (by kernel_rfl) hg3 (by rw [Nat.mul_one]; exact hv) ?_
            have hm : mayGo (sAt was was.length) ((wh[i.toNat]?).getD 0) = true := goErr_one.1 (by simpa using hb)
            rw [if_pos hm] at l3
            have g4 := Ext.alloc hp3 (.cells [Value.int .i64 ((wh[i.toNat]?).getD 0)] 3 0)
            have hsrc : Src (hp3.alloc (.cells [Value.int .i64 ((wh[i.toNat]?).getD 0)] 3 0)) (.slice (some ⟨hp3.n, 0, none⟩) 1 1) [Value.int .i64 ((wh[i.toNat]?).getD 0)] := (Sl.new (e := 3) (vs := [Value.int .i64 ((wh[i.toNat]?).getD 0)]) (.inl rfl)).src rfl
            obtain ⟨v', h', bs', ha, hs', he, hb'⟩ := append_own (E := lifeE) el3 (hsw3.ext g4) hsrc (by simp [stV]; omega)
            refine o_buildSlice (e := 3) (z := 0) (zv := .int .i64 0) [(0, _)] gn rfl (by kernel_rfl) (by kernel_rfl) (by kernel_rfl) (by kernel_rfl) rfl rfl ?_
            refine o_append gn rfl rfl rfl ha ag0 ?_
            refine o_assign gn rfl rfl ?_
            refine wl_end ?_
            refine w_region (by kernel_rfl) ?_
            refine o_move gn rfl rfl ?_
            refine o_add gn rfl rfl rfl (by omega) (by omega) ?_
            refine o_assign gn rfl rfl ?_
            refine wl_end ?_
            exact ⟨(wh.length - (i + 1)).toNat, by omega, _, (by repeat (first | exact trivial | refine ⟨rfl, ?_⟩)), ⟨i + 1, was ++ [(wh[i.toNat]?).getD 0], _, bs', by omega, by omega, rfl, by simp; omega, hgood.push hm, by
  have e1 : sAt (was ++ [(wh[i.toNat]?).getD 0]) (was ++ [(wh[i.toNat]?).getD 0]).length = (wh[i.toNat]?).getD 0 + 1 := by simp [sAt]
  rw [e1]
  exact (l3.keep (g4.b []) (by simp) (by simp) (by simp)).keep he (fun hi => (hdw b hi).2.1 rfl) (fun j hj hi => (hdw j hi).2.2.1 hj) (fun j hj hi => (hdw j hi).2.2.2 hj), by
  have e1 : sAt (was ++ [(wh[i.toNat]?).getD 0]) (was ++ [(wh[i.toNat]?).getD 0]).length = (wh[i.toNat]?).getD 0 + 1 := by simp [sAt]
  rw [e1]
  have := (mayGo_iff _ _).1 hm
  omega, by rw [stV_snoc]; exact hs', fun j hj => by
  rcases hb' j hj with hm | hm
  · exact hdw j hm
  · rw [Hp.n_alloc] at hm
    have q1 := l3.lt
    refine ⟨by have := x03.n; omega, by omega, fun hj => by have := l3.comps.lt j hj; omega, fun hj => by have := l3.evs.lt j hj; omega⟩,
  ⟨Nat.le_trans x03.n (Nat.le_trans g4.n he.n), fun j hj => (he.get j (by have := x03.n; have := g4.n; omega) (fun hm => by have := (hdw j hm).1; omega)).trans ((g4.get j (by have := x03.n; omega)).trans (x03.get j hj))⟩, rfl⟩⟩
          · skip
            have hm : ¬ mayGo (sAt was was.length) ((wh[i.toNat]?).getD 0) = true := fun e => by have := goErr_one.2 e; simp [this] at hb
            rw [if_neg hm] at l3
            refine w_skip ?_
            refine w_region (by kernel_rfl) ?_
            refine o_move gn rfl rfl ?_
            refine o_add gn rfl rfl rfl (by omega) (by omega) ?_
            refine o_assign gn rfl rfl ?_
            refine wl_end ?_
            exact ⟨(wh.length - (i + 1)).toNat, by omega, _, (by repeat (first | exact trivial | refine ⟨rfl, ?_⟩)), ⟨i + 1, was, _, Bw, by omega, by omega, rfl, by omega, hgood, l3, hsr, hsw3, hdw, x03, rfl⟩⟩
      · skip
        refine w_exit ?_
        refine thn_exit ?_
        refine rnd_exit ?_
        refine blk_eq ?_
        obtain ⟨hp0, hhp⟩ : ∃ x, x = hh := ⟨_, rfl⟩
        subst hhp
        obtain ⟨aw, rfl⟩ := hsw.val
        have hwlen : (stV was).length = was.length := by simp [stV]
        refine w_seq ?_
        refine w_region (by kernel_rfl) ?_
        refine o_assign gn rfl rfl ?_
        refine wl_end ?_
        refine w_seq ?_
        refine w_seq ?_
        refine w_region (by kernel_rfl) ?_
        refine o_assign gn rfl rfl ?_
        refine wl_end ?_
        refine w_block ?_
        refine w_weak [(4, .slice aw (stV was).length (stV was).length), (7, .int .i64 2), (8, .int .i64 0)] (by repeat (first | exact trivial | refine ⟨rfl, ?_⟩)) ?_
        refine w_loop (fun k l hh => ∃ (j : Int) (last : Int), 0 ≤ j ∧ j ≤ was.length ∧ k = (was.length - j).toNat ∧ last = (if sAt was j.toNat = 2 then 1 else 2) ∧ hp0 = hh ∧ l = [(4, .slice aw (stV was).length (stV was).length), (7, .int .i64 last), (8, .int .i64 j)]) (n := (was.length - (0 : Int)).toNat) ?_ fun k l hh hI => ?_
        · exact ⟨0, 2, by omega, by omega, rfl, by simp [sAt], rfl, rfl⟩
        · obtain ⟨j, last, hj0, hj1, rfl, hlast, rfl, rfl⟩ := hI
          refine w_seq ?_
          refine w_seq ?_
          refine w_region (by kernel_rfl) ?_
          refine o_move gn rfl rfl ?_
          refine o_move gn rfl rfl ?_
          refine o_len gn rfl rfl (by kernel_rfl) ?_
          refine o_lss gn rfl rfl rfl ?_
          refine wl_end ?_
          refine w_cond rfl (fun hb => ?_) fun hb => ?_
          · skip
            refine w_skip ?_
            refine w_seq ?_
            have hjlt : j < was.length := by simp at hb; omega
            obtain ⟨bw, mw, ew, hbw, _, _, _⟩ := hsw.at (by omega)
            simp only [Value.slice.injEq, and_true] at ew
            obtain ⟨rfl, _⟩ := ew
            obtain ⟨t1, t2, t3, t4, t5, t6, t7, t8⟩ := turn_ok hgood (show j.toNat < was.length by omega)
            refine w_block ?_
            refine w_seq ?_
            refine w_seq ?_
            refine w_region (by kernel_rfl) ?_
            refine o_move gn rfl rfl ?_
            refine o_move gn rfl rfl ?_
            refine o_indexAddr (zz := 1) gn rfl rfl rfl (by kernel_rfl) (by omega) (by omega) ?_
            refine o_load gn rfl rfl (by kernel_rfl) hbw (at_int j.toNat (by omega) (by omega)) ?_
            refine o_eqi gn rfl rfl rfl ?_
            refine o_move gn rfl rfl ?_
            refine o_eqi gn rfl rfl rfl ?_
            refine o_neb gn rfl rfl rfl (by kernel_rfl) ?_
            refine o_move gn rfl rfl ?_
            refine o_or (n := 16) rfl rfl rfl gn rfl (fun hb => by
                refine o_move (gy rfl rfl rfl hb) rfl rfl ?_
                refine o_move (gy rfl rfl rfl hb) rfl rfl ?_
                refine o_indexAddr (zz := 1) (gy rfl rfl rfl hb) rfl rfl rfl (by kernel_rfl) (by omega) (by omega) ?_
                refine o_load (gy rfl rfl rfl hb) rfl rfl (by kernel_rfl) hbw (at_int j.toNat (by omega) (by omega)) ?_
                refine o_eqi (gy rfl rfl rfl hb) rfl rfl rfl ?_
                refine o_move (gy rfl rfl rfl hb) rfl rfl ?_
                refine o_and (n := 9) rfl rfl rfl (gy rfl rfl rfl hb) rfl (fun hb => by
                    refine o_move (gy rfl rfl rfl hb) rfl rfl ?_
                    refine o_move (gy rfl rfl rfl hb) rfl rfl ?_
                    refine o_len (gy rfl rfl rfl hb) rfl rfl (by kernel_rfl) ?_
                    refine o_sub (gy rfl rfl rfl hb) rfl rfl rfl (by omega) (by omega) ?_
                    refine o_nei (gy rfl rfl rfl hb) rfl rfl rfl ?_
                    refine o_move (gy rfl rfl rfl hb) rfl rfl ?_
                    refine o_or (n := 2) rfl rfl rfl (gy rfl rfl rfl hb) rfl (fun hb => by
                        refine o_move (gy rfl rfl rfl hb) rfl rfl ?_
                        refine o_eqi (gy rfl rfl rfl hb) rfl rfl rfl ?_
                        exact wl_end ⟨rfl, rfl, 2, rfl, rfl⟩) ?_
                    exact wl_end ⟨rfl, rfl, 7, rfl, rfl⟩) ?_
                exact wl_end ⟨rfl, rfl, 7, rfl, rfl⟩) ?_
            refine wl_end ?_
            refine w_cond rfl (fun hb => ?_) fun hb => ?_
            · skip
              refine w_seq ?_
              refine w_region (by kernel_rfl) ?_
              refine o_assign gn rfl rfl ?_
              refine wl_end ?_
              refine w_ret ?_
              refine ⟨.inl rfl, _, rfl, ?_⟩
              exfalso
              simp at hb
              rcases hb with hb | ⟨hb, hb2⟩
              · omega
              · have := t2 hb
                have := t3 hb
                rw [if_neg this] at hlast
                omega
            · skip
              refine w_skip ?_
              refine w_seq ?_
              refine w_region (by kernel_rfl) ?_
              refine o_move gn rfl rfl ?_
              refine o_move gn rfl rfl ?_
              refine o_indexAddr (zz := 1) gn rfl rfl rfl (by kernel_rfl) (by omega) (by omega) ?_
              refine o_load gn rfl rfl (by kernel_rfl) hbw (at_int j.toNat (by omega) (by omega)) ?_
              refine o_eqi gn rfl rfl rfl ?_
              refine o_move gn rfl rfl ?_
              refine o_or (n := 5) rfl rfl rfl gn rfl (fun hb => by
                  refine o_move (gy rfl rfl rfl hb) rfl rfl ?_
                  refine o_move (gy rfl rfl rfl hb) rfl rfl ?_
                  refine o_indexAddr (zz := 1) (gy rfl rfl rfl hb) rfl rfl rfl (by kernel_rfl) (by omega) (by omega) ?_
                  refine o_load (gy rfl rfl rfl hb) rfl rfl (by kernel_rfl) hbw (at_int j.toNat (by omega) (by omega)) ?_
                  refine o_eqi (gy rfl rfl rfl hb) rfl rfl rfl ?_
                  exact wl_end ⟨rfl, rfl, 5, rfl, rfl⟩) ?_
              refine wl_end ?_
              refine w_cond rfl (fun hb => ?_) fun hb => ?_
              · skip
                refine w_seq ?_
                refine w_seq ?_
                refine w_region (by kernel_rfl) ?_
                refine o_move gn rfl rfl ?_
                refine o_move gn rfl rfl ?_
                refine o_indexAddr (zz := 1) gn rfl rfl rfl (by kernel_rfl) (by omega) (by omega) ?_
                refine o_load gn rfl rfl (by kernel_rfl) hbw (at_int j.toNat (by omega) (by omega)) ?_
                refine o_move gn rfl rfl ?_
                refine o_eqi gn rfl rfl rfl ?_
                refine wl_end ?_
                refine w_cond rfl (fun hb => ?_) fun hb => ?_
                · skip
                  refine w_seq ?_
                  refine w_region (by kernel_rfl) ?_
                  refine o_assign gn rfl rfl ?_
                  refine wl_end ?_
                  refine w_ret ?_
                  refine ⟨.inl rfl, _, rfl, ?_⟩
                  exfalso
                  simp at hb
                  rename_i hb2
                  simp at hb2
                  rcases hb2 with hb2 | hb2
                  · have := t4 hb2
                    rw [if_neg this] at hlast
                    omega
                  · have := t5 hb2
                    rw [if_pos this] at hlast
                    omega
                · skip
                  refine w_skip ?_
                  refine w_region (by kernel_rfl) ?_
                  refine o_move gn rfl rfl ?_
                  refine o_move gn rfl rfl ?_
                  refine o_indexAddr (zz := 1) gn rfl rfl rfl (by kernel_rfl) (by omega) (by omega) ?_
                  refine o_load gn rfl rfl (by kernel_rfl) hbw (at_int j.toNat (by omega) (by omega)) ?_
                  refine o_assign gn rfl rfl ?_
                  refine wl_end ?_
                  refine w_region (by kernel_rfl) ?_
                  refine o_move gn rfl rfl ?_
                  refine o_add gn rfl rfl rfl (by omega) (by omega) ?_
                  refine o_assign gn rfl rfl ?_
                  refine wl_end ?_
                  exact ⟨(was.length - (j + 1)).toNat, by omega, _, (by repeat (first | exact trivial | refine ⟨rfl, ?_⟩)), ⟨j + 1, _, by omega, by omega, rfl, by
  rename_i hb2
  simp at hb2
  rw [show (j + 1).toNat = j.toNat + 1 by omega, t7]
  split <;> omega, rfl, rfl⟩⟩
              · skip
                refine w_skip ?_
                refine w_region (by kernel_rfl) ?_
                refine o_move gn rfl rfl ?_
                refine o_add gn rfl rfl rfl (by omega) (by omega) ?_
                refine o_assign gn rfl rfl ?_
                refine wl_end ?_
                exact ⟨(was.length - (j + 1)).toNat, by omega, _, (by repeat (first | exact trivial | refine ⟨rfl, ?_⟩)), ⟨j + 1, last, by omega, by omega, rfl, by
  simp at hb
  rw [show (j + 1).toNat = j.toNat + 1 by omega, t7, hlast]
  split <;> split <;> omega, rfl, rfl⟩⟩
          · skip
            refine w_exit ?_
            refine thn_exit ?_
            refine rnd_exit ?_
            refine blk_eq ?_
            refine w_seq ?_
            refine w_region (by kernel_rfl) ?_
            refine o_orc (f := 11) (v := .bool true) gn rfl (by kernel_rfl) (by kernel_rfl) ag0 ?_
            refine o_assign gn rfl rfl ?_
            refine wl_end ?_
            refine w_ret ?_
            refine ⟨.inl rfl, _, rfl, ?_⟩
            rfl

end Go.Proofs.Ytkmbfjdmbdpflaa

