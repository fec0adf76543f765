/- Chapter 17: Parts of a matrix, as the document reckons them. Conditions: none. Chapter 17: BitsCloses, in the calculus. Conditions: math/bits' table lies in the memory. Chapter 17: a row, by steps: n rounds of all rows bring it to the least that is closed (plain). Conditions: none. Chapter 17: BitsSteps, in the calculus. Conditions: math/bits' table lies in the memory. -/
import Derived.Test.YtgcapnlfkomgpaaDoorLb
namespace Go.Proofs.YtgcapnlfkomgpaaDoor
open Go.X

/-- the document's Parts -/
theorem c27 {h : Hp} {s : Value} {n : Nat} {M : Nat → List Bool} {own : List Nat} (x : RAt h s n M own) (hM : ∀ i, i < n → (M i).length = n) (hnn : n ≤ 1000) :
    C bitsE 27 [s] h fun v h' => ∃ A B own', ClM n M A ∧ LLs h' v (partsUp n A n) B own' ∧ (∀ z, z ∈ own' → h.n ≤ z) ∧ Ext h h' := by
  obtain ⟨as0, rfl⟩ := x.val
  refine c_enter (fu := Tryd.f27) (by kernel_rfl) rfl ?_
  refine w_seq ?_
  refine w_region (by kernel_rfl) ?_
  refine o_assign gn rfl rfl ?_
  refine wl_end ?_
  refine w_seq ?_
  refine w_region (by kernel_rfl) ?_
  refine o_move gn rfl rfl ?_
  refine o_call [_] gn rfl rfl (by kernel_rfl) rfl (C.mono (c30 x hM hnn) ?_)
  rintro sc h1 ⟨A, ownc, xr, hcl, fr, x1⟩
  obtain ⟨V, O, Bm, r0, rfl⟩ := xr
  obtain ⟨a, rfl⟩ := r0.row.val
  have hl := rowV_len n V
  have tr : TrM n A := hcl.tr
  have hA : ∀ i, i < n → (A i).length = n := fun i hi => by rw [hcl.len i hi, hM i hi]
  refine ⟨ag0, ?_⟩
  refine o_assign gn rfl rfl ?_
  refine wl_end ?_
  refine w_seq ?_
  refine w_region (by kernel_rfl) ?_
  refine o_move gn rfl rfl ?_
  refine o_len gn rfl rfl (by kernel_rfl) ?_
  refine o_call [_] gn rfl rfl (by kernel_rfl) rfl (C.mono (c37 (by omega)) ?_)
  rintro v2 h2 ⟨Bi, ri, fi, x2⟩
  have hrl : (List.replicate (n : Int).toNat false).length = n := by simp
  have hrf : ∀ t, bget (List.replicate (n : Int).toNat false) t = false := fun t => by rw [bget, List.getElem?_replicate]; split <;> rfl
  generalize List.replicate (n : Int).toNat false = in0 at *
  obtain ⟨ai, rfl⟩ := ri.val
  have hN2 : (bsV in0).length = n := by simp [hrl]
  generalize (bsV in0).length = N2 at *
  have hri := ri.lt
  have x2n := x2.n
  have r2 := r0.ext x2
  have hrB : ∀ z, z ∈ ownR n O Bm → z ∉ Bi := fun z hz hj => by have := r0.own_lt z hz; have := fi z hj; omega
  refine ⟨ag0, ?_⟩
  refine o_assign gn rfl rfl ?_
  refine wl_end ?_
  refine w_seq ?_
  refine w_region (by kernel_rfl) ?_
  refine o_assign gn rfl rfl ?_
  refine wl_end ?_
  refine w_seq ?_
  refine w_seq ?_
  refine w_region (by kernel_rfl) ?_
  refine o_assign gn rfl rfl ?_
  refine wl_end ?_
  refine w_block ?_
  refine w_weak [(3, .slice a (rowV n V).length (rowV n V).length), (4, .slice ai N2 N2), (5, .slice none 0 0), (6, iV (0 : Nat))] (by repeat (first | exact trivial | refine ⟨rfl, ?_⟩)) ?_
  refine w_loop (fun k l hh => ∃ (i : Nat) (s5 : Value) (B own' : List Nat) (inb : List Bool), i ≤ n ∧ k = n - i ∧ LLs hh s5 (partsUp n A i) B own' ∧ (∀ z, z ∈ own' → h2.n ≤ z ∧ z < hh.n) ∧ RefS hh (.slice ai N2 N2) inb Bi ∧ inb.length = n ∧ (∀ t, t < n → (bget inb t = true ↔ inP n A i t)) ∧ ExtB Bi h2 hh ∧ l = [(3, .slice a (rowV n V).length (rowV n V).length), (4, .slice ai N2 N2), (5, s5), (6, iV (i : Nat))]) (n := n) ?_ fun k l hh hI => ?_
  · exact ⟨0, .slice none 0 0, [], [], in0, by omega, by omega, ⟨[], rfl, .inl ⟨rfl, rfl, rfl⟩, by simp, fun i l hl => by simp [partsUp] at hl⟩, by simp, ri, hrl, fun t ht => by rw [hrf]; exact ⟨fun e => (by cases e), fun ⟨r, hr, _⟩ => by omega⟩, .refl _ _, rfl⟩
  · obtain ⟨i, s5, B, own', inb, hi, rfl, hll, hfr, hin, hil, hinP, hx, rfl⟩ := hI
    refine w_seq ?_
    refine w_seq ?_
    refine w_region (by kernel_rfl) ?_
    refine o_move gn rfl rfl ?_
    refine o_move gn rfl rfl ?_
    refine o_len gn rfl rfl (by kernel_rfl) ?_
    refine o_lss gn rfl rfl rfl ?_
    refine wl_end ?_
    refine w_cond rfl (fun hb => ?_) fun hb => ?_
    · skip
      have hlt : i < n := by rw [hl] at hb; simpa using hb
      have hm := r2.keep hx hrB
      obtain ⟨bb, m, ea, hg, hmm, hblt, _⟩ := hm.row.at (by omega)
      simp only [Value.slice.injEq, and_true] at ea
      subst ea
      have hbl : (bsV (A i)).length = n := by rw [List.length_map, hA i hlt]
      have hbn : (bsV inb).length = n := by rw [List.length_map, hil]
      obtain ⟨bi, mi, ei, hgi, _, _, _⟩ := (hm.each i hlt).at (by omega)
      obtain ⟨bn, mn, en, hgn, hmn, hbnlt, hBi⟩ := hin.at (by omega)
      simp only [Value.slice.injEq] at en
      obtain ⟨en, _, _⟩ := en
      subst en
      obtain ⟨hq0, hqq⟩ : ∃ x, x = hh := ⟨_, rfl⟩
      subst hqq
      refine w_skip ?_
      refine w_seq ?_
      refine w_block ?_
      refine w_seq ?_
      refine w_seq ?_
      refine w_region (by kernel_rfl) ?_
      refine o_move gn rfl rfl ?_
      refine o_move gn rfl rfl ?_
      refine o_indexAddr (zz := 1) gn rfl rfl rfl (by kernel_rfl) (by omega) (by omega) ?_
      refine o_load gn rfl rfl (by kernel_rfl) hgn (bs_at i (by omega) (by omega)) ?_
      refine o_move gn rfl rfl ?_
      refine o_or (n := 8) rfl rfl rfl gn rfl (fun hb => by
          refine o_move (gy rfl rfl rfl hb) rfl rfl ?_
          refine o_move (gy rfl rfl rfl hb) rfl rfl ?_
          refine o_indexAddr (zz := 1) (gy rfl rfl rfl hb) rfl rfl rfl (by kernel_rfl) (by omega) (by omega) ?_
          refine o_load (gy rfl rfl rfl hb) rfl rfl (by kernel_rfl) hg ((rowV_at i hlt (by omega)).trans (congrArg some ei)) ?_
          refine o_move (gy rfl rfl rfl hb) rfl rfl ?_
          refine o_indexAddr (zz := 1) (gy rfl rfl rfl hb) rfl rfl rfl (by kernel_rfl) (by omega) (by omega) ?_
          refine o_load (gy rfl rfl rfl hb) rfl rfl (by kernel_rfl) hgi (bs_at i (by rw [hA i hlt]; exact hlt) (by omega)) ?_
          refine o_not (gy rfl rfl rfl hb) rfl rfl ?_
          exact wl_end ⟨rfl, rfl, 8, rfl, rfl⟩) ?_
      refine wl_end ?_
      refine w_cond rfl (fun hb => ?_) fun hb => ?_
      · skip
        refine w_exit ?_
        refine thn_exit ?_
        refine blk_eq ?_
        refine w_region (by kernel_rfl) ?_
        refine o_move gn rfl rfl ?_
        refine o_add gn rfl rfl rfl (by omega) (by omega) ?_
        refine o_assign gn rfl rfl ?_
        refine wl_end ?_
        have hrep : repB n A i = false := (rep_no tr hlt).2 (by
          rcases Bool.or_eq_true_iff.1 hb with e | e
          · exact .inl ((hinP i hlt).1 e)
          · exact .inr (by simpa using e))
        exact ⟨n - (i + 1), by omega, [(3, _), (4, _), (5, s5), (6, iV ((i + 1 : Nat) : Int))], (by repeat (first | exact trivial | refine ⟨rfl, ?_⟩)), i + 1, s5, B, own', inb, by omega, rfl, by rw [partsUp_no hrep]; exact hll, hfr, hin, hil, fun t ht => by rw [inP_no hrep]; exact hinP t ht, hx, rfl⟩
      · skip
        have hrep : repB n A i = true := by
          cases hr : repB n A i with
          | true => rfl
          | false =>
            rcases (rep_no tr hlt).1 hr with e | e
            · rw [(hinP i hlt).2 e] at hb; simp at hb
            · rw [e] at hb; simp at hb
        refine w_skip ?_
        refine w_seq ?_
        refine w_region (by kernel_rfl) ?_
        refine o_assign gn rfl rfl ?_
        refine wl_end ?_
        refine w_seq ?_
        refine w_seq ?_
        refine w_region (by kernel_rfl) ?_
        refine o_move gn rfl rfl ?_
        refine o_assign gn rfl rfl ?_
        refine wl_end ?_
        refine w_block ?_
        refine w_weak [(3, .slice (some ⟨bb, 0, none⟩) (rowV n V).length (rowV n V).length), (4, .slice (some ⟨bn, 0, none⟩) N2 N2), (5, s5), (6, iV (i : Nat)), (7, .slice none 0 0), (8, iV (i : Nat))] (by repeat (first | exact trivial | refine ⟨rfl, ?_⟩)) ?_
        refine w_loop (fun k l hh => ∃ (j : Nat) (s7 : Value) (B7 : List Nat) (inb : List Bool), i ≤ j ∧ j ≤ n ∧ k = n - j ∧ Sl 3 hh s7 (nsV ((List.range j).filter (mineB A i))) B7 ∧ (∀ z, z ∈ B7 → hq0.n ≤ z) ∧ RefS hh (.slice (some ⟨bn, 0, none⟩) N2 N2) inb Bi ∧ inb.length = n ∧ (∀ t, t < n → (bget inb t = true ↔ inP n A i t ∨ (t < j ∧ mineB A i t = true))) ∧ ExtB Bi hq0 hh ∧ l = [(3, .slice (some ⟨bb, 0, none⟩) (rowV n V).length (rowV n V).length), (4, .slice (some ⟨bn, 0, none⟩) N2 N2), (5, s5), (6, iV (i : Nat)), (7, s7), (8, iV (j : Nat))]) (n := (n - i)) ?_ fun k l hh hI => ?_
        · exact ⟨i, .slice none 0 0, [], inb, by omega, by omega, rfl, by rw [mine_none tr hlt hrep]; exact .inl ⟨rfl, rfl, rfl⟩, by simp, hin, hil, (fun t ht => by
          rw [hinP t ht]
          refine ⟨.inl, fun q => ?_⟩
          rcases q with q | ⟨q1, q2⟩
          · exact q
          · rw [((rep_iff tr hlt).1 hrep).2 t q1] at q2; cases q2), .refl _ _, rfl⟩
        · obtain ⟨j, s7, B7, inb2, hij, hj, rfl, hs7, hf7, hin2, hil2, hinP2, hx7, rfl⟩ := hI
          refine w_seq ?_
          refine w_seq ?_
          refine w_region (by kernel_rfl) ?_
          refine o_move gn rfl rfl ?_
          refine o_move gn rfl rfl ?_
          refine o_len gn rfl rfl (by kernel_rfl) ?_
          refine o_lss gn rfl rfl rfl ?_
          refine wl_end ?_
          refine w_cond rfl (fun hb => ?_) fun hb => ?_
          · skip
            have hjn : j < n := by rw [hl] at hb; simpa using hb
            have hx7n := hx7.n
            have hm2 := hm.keep hx7 hrB
            obtain ⟨bb', m', ea', hg', _, _, _⟩ := hm2.row.at (by omega)
            simp only [Value.slice.injEq, Option.some.injEq, Addr.mk.injEq, and_true] at ea'
            subst ea'
            have hbj : (bsV (A j)).length = n := by rw [List.length_map, hA j hjn]
            obtain ⟨bi', mi', ei', hgi', _, _, _⟩ := (hm2.each i hlt).at (by omega)
            obtain ⟨bj, mj, ej, hgj, _, _, _⟩ := (hm2.each j hjn).at (by omega)
            have hbn2 : (bsV inb2).length = n := by rw [List.length_map, hil2]
            obtain ⟨bn', mn', en', hgn', hmn', hbnlt', _⟩ := hin2.at (by omega)
            simp only [Value.slice.injEq, Option.some.injEq, Addr.mk.injEq, and_true] at en'
            obtain ⟨en', _, _⟩ := en'
            subst en'
            have hlen7 := ns_len_le (mineB A i) j
            obtain ⟨a7, rfl⟩ := hs7.val
            refine w_skip ?_
            refine w_seq ?_
            refine w_block ?_
            refine w_seq ?_
            refine w_region (by kernel_rfl) ?_
            refine o_move gn rfl rfl ?_
            refine o_move gn rfl rfl ?_
            refine o_indexAddr (zz := 1) gn rfl rfl rfl (by kernel_rfl) (by omega) (by omega) ?_
            refine o_load gn rfl rfl (by kernel_rfl) hg' ((rowV_at i hlt (by omega)).trans (congrArg some ei')) ?_
            refine o_move gn rfl rfl ?_
            refine o_indexAddr (zz := 1) gn rfl rfl rfl (by kernel_rfl) (by omega) (by omega) ?_
            refine o_load gn rfl rfl (by kernel_rfl) hgi' (bs_at j (by rw [hA i hlt]; exact hjn) (by omega)) ?_
            refine o_move gn rfl rfl ?_
            refine o_and (n := 7) rfl rfl rfl gn rfl (fun hb => by
                refine o_move (gy rfl rfl rfl hb) rfl rfl ?_
                refine o_move (gy rfl rfl rfl hb) rfl rfl ?_
                refine o_indexAddr (zz := 1) (gy rfl rfl rfl hb) rfl rfl rfl (by kernel_rfl) (by omega) (by omega) ?_
                refine o_load (gy rfl rfl rfl hb) rfl rfl (by kernel_rfl) hg' ((rowV_at j hjn (by omega)).trans (congrArg some ej)) ?_
                refine o_move (gy rfl rfl rfl hb) rfl rfl ?_
                refine o_indexAddr (zz := 1) (gy rfl rfl rfl hb) rfl rfl rfl (by kernel_rfl) (by omega) (by omega) ?_
                refine o_load (gy rfl rfl rfl hb) rfl rfl (by kernel_rfl) hgj (bs_at i (by rw [hA j hjn]; exact hlt) (by omega)) ?_
                exact wl_end ⟨rfl, rfl, 7, rfl, rfl⟩) ?_
            refine wl_end ?_
            refine w_cond rfl (fun hb => ?_) fun hb => ?_
            · skip
              refine w_seq ?_
              refine w_region (by kernel_rfl) ?_
              refine o_move gn rfl rfl ?_
              refine o_move gn rfl rfl ?_
              refine o_buildSlice (e := 3) (z := 0) (zv := .int .i64 0) [(0, _)] gn rfl (by kernel_rfl) (by kernel_rfl) (by kernel_rfl) (by kernel_rfl) rfl rfl ?_
              have hmb : mineB A i j = true := hb
              obtain ⟨a8, h8, B8, b1, b2', b3, b4⟩ := push_ns (x := (j : Int)) (k := j) rfl hs7 (by omega)
              have hrf2 : (List.range j).filter (mineB A i) ++ [j] = (List.range (j + 1)).filter (mineB A i) := by rw [range_filter_succ, hmb, if_pos rfl]
              rw [hrf2] at b1 b2'
              have hnB7 : bn ∉ B7 := fun hj => by have := hf7 _ hj; omega
              have hgn8 := (b3.get bn hbnlt' hnB7).trans hgn'
              refine o_append gn rfl rfl rfl b1 ag0 ?_
              refine o_assign gn rfl rfl ?_
              refine wl_end ?_
              refine w_region (by kernel_rfl) ?_
              refine o_move gn rfl rfl ?_
              refine o_move gn rfl rfl ?_
              refine o_indexAddr (zz := 1) gn rfl rfl rfl (by kernel_rfl) (by omega) (by omega) ?_
              refine o_store gn rfl rfl rfl (by kernel_rfl) hgn8 (by omega) (by simp; omega) ag0 ?_
              refine wl_end ?_
              refine w_region (by kernel_rfl) ?_
              refine o_move gn rfl rfl ?_
              refine o_add gn rfl rfl rfl (by omega) (by omega) ?_
              refine o_assign gn rfl rfl ?_
              refine wl_end ?_
              have b3n := b3.n
              have hnB8 : ∀ z, z ∈ B8 → z ≠ bn := fun z hz e => by
                rcases b4 z hz with h9 | h9
                · exact hnB7 (e ▸ h9)
                · omega
              have hxx8 : ∀ o, ExtB Bi hq0 (h8.put bn o) := fun o => ⟨by rw [Hp.n_put]; omega, fun z hz hn => by
                rw [hBi] at hn
                rw [Hp.get_put, if_neg (fun e => hn (by simp [e])), b3.get z (by omega) (fun hw => by have := hf7 z hw; omega)]
                exact hx7.get z hz (by rw [hBi]; exact hn)⟩
              exact ⟨n - (j + 1), by omega, [(3, _), (4, _), (5, s5), (6, iV (i : Nat)), (7, _), (8, iV ((j + 1 : Nat) : Int))], (by repeat (first | exact trivial | refine ⟨rfl, ?_⟩)), j + 1, _, B8, inb2.set j true, by omega, by omega, rfl, b2'.keep (ExtB.put _ _ _) (fun z hz hw => by simp at hw; exact hnB8 z hz hw), fun z hz => by rcases b4 z hz with h9 | h9; exact hf7 z h9; omega, by
                have hset : (bsV inb2).set (0 + (j : Int).toNat * 1) (.bool true) = bsV (inb2.set j true) := by simp [List.map_set]
                rw [hset, hBi]
                exact Sl.put (by simp; omega) hmn' (by omega), by simp [hil2], fun t ht => by
                rw [bget_set (by omega)]
                by_cases q : t = j
                · subst q; simp [hmb]
                · rw [if_neg q, hinP2 t ht]
                  exact or_congr Iff.rfl (and_congr_left fun _ => by omega), hxx8 _, rfl⟩
            · skip
              refine w_skip ?_
              refine w_region (by kernel_rfl) ?_
              refine o_move gn rfl rfl ?_
              refine o_add gn rfl rfl rfl (by omega) (by omega) ?_
              refine o_assign gn rfl rfl ?_
              refine wl_end ?_
              have hmb : mineB A i j = false := hb
              have hrf2 : (List.range j).filter (mineB A i) = (List.range (j + 1)).filter (mineB A i) := by rw [range_filter_succ, hmb, if_neg (by simp), List.append_nil]
              exact ⟨n - (j + 1), by omega, [(3, _), (4, _), (5, s5), (6, iV (i : Nat)), (7, _), (8, iV ((j + 1 : Nat) : Int))], (by repeat (first | exact trivial | refine ⟨rfl, ?_⟩)), j + 1, _, B7, inb2, by omega, by omega, rfl, (by rw [← hrf2]; exact hs7), hf7, hin2, hil2, fun t ht => by
                rw [hinP2 t ht]
                refine or_congr Iff.rfl ⟨fun q => ⟨by omega, q.2⟩, fun q => ⟨?_, q.2⟩⟩
                have : t ≠ j := fun e => by subst e; rw [hmb] at q; cases q.2
                omega, hx7, rfl⟩
          · skip
            refine w_exit ?_
            refine thn_exit ?_
            refine rnd_exit ?_
            refine blk_eq ?_
            refine w_region (by kernel_rfl) ?_
            refine o_move gn rfl rfl ?_
            refine o_move gn rfl rfl ?_
            obtain ⟨a7, rfl⟩ := hs7.val
            refine o_buildSlice (e := 22) (z := 0) (zv := .slice none 0 0) [(0, _)] gn rfl (by kernel_rfl) (by kernel_rfl) (by kernel_rfl) (by kernel_rfl) rfl rfl ?_
            have hge : j = n := by rw [hl] at hb; simp at hb; omega
            subst hge
            obtain ⟨a4, rfl⟩ := hll.val
            have hx7n := hx7.n
            have hBo : ∀ z, z ∈ B → z ∈ own' := by obtain ⟨_, _, _, q, _⟩ := hll; exact q
            obtain ⟨a8, h8, B8, c1, c2, c3', c4⟩ := push_ll (l := mineL j A i) (hll.keep hx7 (fun z hz hw => by have := hfr z hz; have := hri z hw; omega)) hs7 (fun z hz hw => by have := hf7 z hz; have := hfr z (hBo z hw); omega) (fun z hz => by have := (hfr z hz).2; omega) (by have := partsUp_len j A i; omega)
            rw [← partsUp_yes hrep] at c1 c2
            refine o_append gn rfl rfl rfl c1 ag0 ?_
            refine o_assign gn rfl rfl ?_
            refine wl_end ?_
            refine w_region (by kernel_rfl) ?_
            refine o_move gn rfl rfl ?_
            refine o_add gn rfl rfl rfl (by omega) (by omega) ?_
            refine o_assign gn rfl rfl ?_
            refine wl_end ?_
            have h8n := c3'.n
            have hB8 : ∀ z, z ∈ B8 → z < h8.n := by obtain ⟨_, _, q, _⟩ := c2; exact q.lt
            have hown : ∀ z, z ∈ own' ++ B7 ++ B8 → h2.n ≤ z ∧ z < h8.n := fun z hz => by
              have hxn := hx.n
              rcases List.mem_append.1 hz with hz | hz
              · rcases List.mem_append.1 hz with hz | hz
                · have := hfr z hz; omega
                · have := hf7 z hz; have := hs7.lt z hz; omega
              · have h9 := hB8 z hz
                rcases c4 z hz with h10 | h10
                · have := hfr z (hBo z h10); omega
                · omega
            have gg : ExtB Bi h2 h8 := ⟨Nat.le_trans hx.n (Nat.le_trans hx7n h8n), fun z hz hn => (c3'.get z (by have := hx.n; omega) (fun hw => by have := hfr z (hBo z hw); omega)).trans ((hx.trans hx7).get z hz hn)⟩
            exact ⟨j - (i + 1), by omega, [(3, _), (4, _), (5, _), (6, iV ((i + 1 : Nat) : Int))], (by repeat (first | exact trivial | refine ⟨rfl, ?_⟩)), i + 1, _, B8, _, inb2, by omega, rfl, c2, hown, hin2.keep c3' (fun z hz hw => by have := hri z hz; have := hfr z (hBo z hw); omega), hil2, fun t ht => by
              rw [hinP2 t ht, inP_yes hrep]
              exact or_congr Iff.rfl ⟨fun q => q.2, fun q => ⟨ht, q⟩⟩, gg, rfl⟩
    · skip
      refine w_exit ?_
      refine thn_exit ?_
      refine rnd_exit ?_
      refine blk_eq ?_
      refine w_seq ?_
      refine w_region (by kernel_rfl) ?_
      refine o_move gn rfl rfl ?_
      refine o_assign gn rfl rfl ?_
      refine wl_end ?_
      refine w_ret ?_
      refine ⟨.inl rfl, _, rfl, ?_⟩
      have hge : i = n := by rw [hl] at hb; simp at hb; omega
      subst hge
      exact ⟨A, B, own', hcl, hll, fun z hz => by have := (hfr z hz).1; have := x1.n; omega, (x1.trans x2).of hx (fun z hz => by have := fi z hz; have := x1.n; omega)⟩

end Go.Proofs.YtgcapnlfkomgpaaDoor


namespace Go.Proofs.YtgcapnlfkomgpaaDoor
open Go.X

theorem sameMD_self (n : Nat) (M : Nat → List Bool) : sameMD n M M = true := sameMD_yes fun _ _ => sameD_self _
theorem partsUp_congr {n : Nat} {A C : Nat → List Bool} (h : ∀ i, i < n → A i = C i) : partsUp n A n = partsUp n C n := by
  have hm : ∀ i, i < n → mineL n A i = mineL n C i := fun i hi => List.filter_congr fun j hj => by
    rw [mineB, mineB, h i hi, h j (List.mem_range.1 hj)]
  have hr : ∀ i, i < n → repB n A i = repB n C i := fun i hi => by rw [repB, repB, hm i hi]
  rw [partsUp, partsUp, List.filter_congr fun i hi => hr i (List.mem_range.1 hi)]
  exact List.map_congr_left fun i hi => hm i (List.mem_range.1 (List.mem_filter.1 hi).1)
theorem partsUp_mem {n m : Nat} {A : Nat → List Bool} {l : List Nat} (h : l ∈ partsUp n A m) (hn : n ≤ 100000) : l.length ≤ 100000 := by
  obtain ⟨i, _, rfl⟩ := List.mem_map.1 h
  have := ns_len_le (mineB A i) n
  unfold mineL; omega
theorem sameMD_congr {n : Nat} {M A C : Nat → List Bool} (h : ∀ i, i < n → A i = C i) : sameMD n M A = sameMD n M C := by
  rw [Bool.eq_iff_iff]
  simp only [sameMD, decide_eq_true_eq]
  exact ⟨fun q i hi => by rw [← h i hi]; exact q i hi, fun q i hi => by rw [h i hi]; exact q i hi⟩
theorem RAt.congr {h : Hp} {s : Value} {n : Nat} {M M' : Nat → List Bool} {own : List Nat} (x : RAt h s n M own) (e : ∀ i, i < n → M i = M' i) : RAt h s n M' own := by
  obtain ⟨V, O, Bm, x, rfl⟩ := x; exact ⟨V, O, Bm, x.congr e, rfl⟩
theorem LLs.get {h : Hp} {s : Value} {ls : List (List Nat)} {B own : List Nat} (x : LLs h s ls B own) {i : Nat} (hi : i < ls.length) :
    ∃ bb m vals a n c, s = .slice (some ⟨bb, 0, none⟩) ls.length ls.length ∧ h.get bb = some (.cells vals 22 m) ∧ vals[i]? = some (.slice a n c) ∧ Src h (.slice a n c) (nsV ls[i]) := by
  obtain ⟨vals, e, q, _, r⟩ := x
  obtain ⟨bb, m, ea, hg, _⟩ := q.at (by omega)
  obtain ⟨v, Bi, e1, e2, _⟩ := r i ls[i] (List.getElem?_eq_getElem hi)
  obtain ⟨a, rfl⟩ := e2.val
  exact ⟨bb, m, vals, a, _, _, by rw [ea, e], hg, e1, e2.src (all_ns _)⟩
theorem c29' {h : Hp} {b n : Nat} {M : Nat → List Bool} {own : List Nat} (x : MAt h b n M own) (hn : ∀ r, r < n → (M r).length ≤ 100000) (hnn : n ≤ 1000) :
    C bitsE 29 [ptrV b] h fun _ h' => MAt h' b n (warM M n) own ∧ ExtB own h h' := by
  obtain ⟨P, O, sr, Bm, x, rfl⟩ := x
  exact (c29 x hn hnn).mono fun v h' ⟨y, g⟩ => ⟨⟨_, _, _, _, y, rfl⟩, g⟩

/-- BitsCloses -/
theorem c4 {h : Hp} {n : Int} {a3 : Option Addr} {n3 c3 : Nat} (tb : Tab h) (hA : ActsB h a3 n3) : C bitsE 4 [iV n, .slice a3 n3 c3] h fun v _ => v = .bool true := by
  refine c_enter (fu := Tryd.f4) (by kernel_rfl) rfl ?_
  refine w_seq ?_
  refine w_region (by kernel_rfl) ?_
  refine o_assign gn rfl rfl ?_
  refine wl_end ?_
  refine w_seq ?_
  refine w_region (by kernel_rfl) ?_
  refine o_move gn rfl rfl ?_
  refine o_move gn rfl rfl ?_
  refine o_call [_, _] gn rfl rfl (by kernel_rfl) rfl (C.mono (c22 hA) ?_)
  rintro v1 h1 ⟨x1, p1, s, ok, rfl, _, q1⟩
  refine ⟨ag0, ?_⟩
  refine o_move gn rfl rfl ?_
  refine o_extract gn rfl rfl rfl ?_
  refine o_extract gn rfl rfl rfl ?_
  refine o_extract gn rfl rfl rfl ?_
  refine o_assign gn rfl rfl ?_
  refine o_assign gn rfl rfl ?_
  refine o_assign gn rfl rfl ?_
  refine wl_end ?_
  refine w_seq ?_
  refine w_seq ?_
  refine w_region (by kernel_rfl) ?_
  refine o_move gn rfl rfl ?_
  refine o_not gn rfl rfl ?_
  refine wl_end ?_
  refine w_cond rfl (fun hb => ?_) fun hb => ?_
  · skip
    refine w_seq ?_
    refine w_region (by kernel_rfl) ?_
    refine o_orc (f := 8) (v := .bool true) gn rfl (by kernel_rfl) (by kernel_rfl) ag0 ?_
    refine o_assign gn rfl rfl ?_
    refine wl_end ?_
    refine w_ret ?_
    refine ⟨.inl rfl, _, rfl, ?_⟩
    rfl
  · skip
    have hq : ok = true := by simpa using hb
    subst hq
    obtain ⟨hn, b, own, ownr, M, rfl, t, hM⟩ := q1 rfl
    have hN : n.toNat ≤ 90 := by omega
    generalize n.toNat = N at *
    have hM1 : ∀ i, i < N → (M i).length = N := fun i _ => hM i
    have hM2 : ∀ i, i < N → (M i).length ≤ 100000 := fun i _ => by rw [hM]; omega
    have hM3 : ∀ i, i < N → (M i).length ≤ N := fun i _ => by rw [hM]; omega
    refine w_skip ?_
    refine w_seq ?_
    refine w_region (by kernel_rfl) ?_
    refine o_move gn rfl rfl ?_
    refine o_call [_] gn rfl rfl (by kernel_rfl) rfl (C.mono (c23 t.x hM2 (by omega)) ?_)
    rintro v2 h2 ⟨b2, own2, rfl, xc, fc, x2⟩
    refine ⟨ag0, ?_⟩
    refine o_assign gn rfl rfl ?_
    refine wl_end ?_
    refine w_seq ?_
    refine w_seq ?_
    refine w_region (by kernel_rfl) ?_
    refine o_move gn rfl rfl ?_
    refine o_move gn rfl rfl ?_
    refine o_call [_, _] gn rfl rfl (by kernel_rfl) rfl (C.mono (c24 (t.x.ext x2) (t.r.ext x2) (tb.ext (x1.trans x2)) hM3 (by omega)) ?_)
    rintro v3 h3 ⟨rfl, x3⟩
    refine ⟨ag0, ?_⟩
    refine o_not gn rfl rfl ?_
    refine o_move gn rfl rfl ?_
    refine wl_split (dc := 29) rfl (fun hb29 => ?_) fun hb29 => ?_
    · skip
      simp at hb29
    · skip
      refine o_move (gy rfl rfl rfl hb29) rfl rfl ?_
      refine o_move (gy rfl rfl rfl hb29) rfl rfl ?_
      refine o_call [_, _] (gy rfl rfl rfl hb29) rfl rfl (by kernel_rfl) rfl (C.mono (c25 (xc.ext x3) ((t.x.ext x2).ext x3) (tb.ext ((x1.trans x2).trans x3)) hM2 hM2 (by omega)) ?_)
      rintro v4 h4 ⟨rfl, x4⟩
      rw [sameMD_self]
      have t4 := ((t.ext x2).ext x3).ext x4
      have hx4 := ((x1.trans x2).trans x3).trans x4
      have xc4 := (xc.ext x3).ext x4
      refine ⟨ag0, ?_⟩
      refine o_not (gy rfl rfl rfl hb29) rfl rfl ?_
      refine o_pickf gn rfl rfl hb29 rfl ?_
      refine wl_end ?_
      refine w_cond rfl (fun hb => ?_) fun hb => ?_
      · skip
        refine w_seq ?_
        refine w_region (by kernel_rfl) ?_
        refine o_assign gn rfl rfl ?_
        refine wl_end ?_
        refine w_ret ?_
        refine ⟨.inl rfl, _, rfl, ?_⟩
        simp at hb
      · skip
        refine w_skip ?_
        refine w_seq ?_
        refine w_region (by kernel_rfl) ?_
        refine o_move gn rfl rfl ?_
        refine o_call [_] gn rfl rfl (by kernel_rfl) rfl (C.mono (c26 t4.x hM1 (by omega)) ?_)
        rintro v5 h5 ⟨B5, o5, ll5, f5, x5⟩
        have t5 := t4.ext x5
        refine ⟨ag0, ?_⟩
        refine o_move gn rfl rfl ?_
        refine o_call [_] gn rfl rfl (by kernel_rfl) rfl (C.mono (c27 t5.r hM1 (by omega)) ?_)
        rintro v6 h6 ⟨A, B6, o6, hcl, ll6, f6, x6⟩
        rw [partsUp_congr (hcl.eq hM3 (war_cl hM1))] at ll6
        have ll56 := ll5.ext x6
        have hpl := partsUp_len N (warM M N) N
        have hpm := fun l (hl : l ∈ partsUp N (warM M N) N) => partsUp_mem hl (by omega)
        generalize partsUp N (warM M N) N = pl at *
        obtain ⟨a5, rfl⟩ := ll56.val
        obtain ⟨a6, rfl⟩ := ll6.val
        have t6 := t5.ext x6
        have hx6 := (hx4.trans x5).trans x6
        have xc6 := (xc4.ext x5).ext x6
        refine ⟨ag0, ?_⟩
        refine o_assign gn rfl rfl ?_
        refine o_assign gn rfl rfl ?_
        refine wl_end ?_
        refine w_seq ?_
        refine w_seq ?_
        refine w_region (by kernel_rfl) ?_
        refine o_move gn rfl rfl ?_
        refine o_len gn rfl rfl (by kernel_rfl) ?_
        refine o_move gn rfl rfl ?_
        refine o_len gn rfl rfl (by kernel_rfl) ?_
        refine o_nei gn rfl rfl rfl ?_
        refine o_move gn rfl rfl ?_
        refine wl_split (dc := 44) rfl (fun hb44 => ?_) fun hb44 => ?_
        · skip
          simp at hb44
        · skip
          refine o_move (gy rfl rfl rfl hb44) rfl rfl ?_
          refine o_move (gy rfl rfl rfl hb44) rfl rfl ?_
          refine o_call [_, _] (gy rfl rfl rfl hb44) rfl rfl (by kernel_rfl) rfl (C.mono (c24 t6.x t6.r (tb.ext hx6) hM3 (by omega)) ?_)
          rintro v7 h7 ⟨rfl, x7⟩
          have t7 := t6.ext x7
          have hx7 := hx6.trans x7
          have xc7 := xc6.ext x7
          have l5 := ll56.ext x7
          have l6 := ll6.ext x7
          refine ⟨ag0, ?_⟩
          refine o_not (gy rfl rfl rfl hb44) rfl rfl ?_
          refine o_pickf gn rfl rfl hb44 rfl ?_
          refine wl_end ?_
          refine w_cond rfl (fun hb => ?_) fun hb => ?_
          · skip
            refine w_seq ?_
            refine w_region (by kernel_rfl) ?_
            refine o_assign gn rfl rfl ?_
            refine wl_end ?_
            refine w_ret ?_
            refine ⟨.inl rfl, _, rfl, ?_⟩
            simp at hb
          · skip
            refine w_skip ?_
            refine w_seq ?_
            refine w_seq ?_
            refine w_region (by kernel_rfl) ?_
            refine o_assign gn rfl rfl ?_
            refine wl_end ?_
            refine w_block ?_
            refine w_weak [(5, ptrV b), (6, s), (8, ptrV b2), (9, .slice a5 pl.length pl.length), (10, .slice a6 pl.length pl.length), (11, iV (0 : Nat))] (by repeat (first | exact trivial | refine ⟨rfl, ?_⟩)) ?_
            refine w_loop (fun k l hh => ∃ i : Nat, i ≤ pl.length ∧ k = pl.length - i ∧ hh = h7 ∧ l = [(5, ptrV b), (6, s), (8, ptrV b2), (9, .slice a5 pl.length pl.length), (10, .slice a6 pl.length pl.length), (11, iV (i : Nat))]) (n := pl.length) ?_ fun k l hh hI => ?_
            · exact ⟨0, by omega, by omega, rfl, rfl⟩
            · obtain ⟨i, hi, rfl, rfl, rfl⟩ := hI
              refine w_seq ?_
              refine w_seq ?_
              refine w_region (by kernel_rfl) ?_
              refine o_move gn rfl rfl ?_
              refine o_move gn rfl rfl ?_
              refine o_len gn rfl rfl (by kernel_rfl) ?_
              refine o_lss gn rfl rfl rfl ?_
              refine wl_end ?_
              refine w_cond rfl (fun hb => ?_) fun hb => ?_
              · skip
                have hlt : i < pl.length := by simpa using hb
                obtain ⟨bb5, m5, vs5, a5', n5', c5', e5, g5, w5, q5⟩ := l5.get hlt
                simp only [Value.slice.injEq, and_true] at e5
                subst e5
                obtain ⟨bb6, m6, vs6, a6', n6', c6', e6, g6, w6, q6⟩ := l6.get hlt
                simp only [Value.slice.injEq, and_true] at e6
                subst e6
                have ei : 0 + ((i : Nat) : Int).toNat * 1 = i := by omega
                refine w_skip ?_
                refine w_seq ?_
                refine w_block ?_
                refine w_seq ?_
                refine w_draw [(0, []), (1, []), (2, []), (3, []), (4, []), (5, []), (6, []), (7, []), (8, []), (9, [])] (by kernel_rfl) (by kernel_rfl) (by kernel_rfl) (by kernel_rfl) ?_
                refine o_move gn rfl rfl ?_
                refine o_move gn rfl rfl ?_
                refine o_indexAddr (zz := 1) gn rfl rfl rfl (by kernel_rfl) (by omega) (by omega) ?_
                refine o_load gn rfl rfl (by kernel_rfl) g5 (by rw [ei]; exact w5) ?_
                refine o_move gn rfl rfl ?_
                refine o_move gn rfl rfl ?_
                refine o_indexAddr (zz := 1) gn rfl rfl rfl (by kernel_rfl) (by omega) (by omega) ?_
                refine o_load gn rfl rfl (by kernel_rfl) g6 (by rw [ei]; exact w6) ?_
                refine o_call [_, _] gn rfl rfl (by kernel_rfl) rfl (c_pure (c21s q5 q6 (hpm _ (List.getElem_mem hlt))) ⟨ag0, ?_⟩)
                refine o_not gn rfl rfl ?_
                refine wl_end ?_
                refine w_cond rfl (fun hb => ?_) fun hb => ?_
                · skip
                  refine w_seq ?_
                  refine w_region (by kernel_rfl) ?_
                  refine o_assign gn rfl rfl ?_
                  refine wl_end ?_
                  refine w_ret ?_
                  refine ⟨.inl rfl, _, rfl, ?_⟩
                  simp at hb
                · skip
                  refine w_skip ?_
                  refine w_region (by kernel_rfl) ?_
                  refine o_move gn rfl rfl ?_
                  refine o_add gn rfl rfl rfl (by omega) (by omega) ?_
                  refine o_assign gn rfl rfl ?_
                  refine wl_end ?_
                  exact ⟨pl.length - (i + 1), by omega, [(5, _), (6, _), (8, _), (9, _), (10, _), (11, iV ((i + 1 : Nat) : Int))], (by repeat (first | exact trivial | refine ⟨rfl, ?_⟩)), i + 1, by omega, rfl, rfl, rfl⟩
              · skip
                refine w_exit ?_
                refine thn_exit ?_
                refine rnd_exit ?_
                refine blk_eq ?_
                refine w_seq ?_
                refine w_region (by kernel_rfl) ?_
                refine o_move gn rfl rfl ?_
                refine o_call [_, _] gn rfl rfl (by kernel_rfl) rfl (C.mono (c28' (i := 0) t7.x hM2) ?_)
                rintro v8 h8 ⟨b3, own3, rfl, xr, fr3, x8⟩
                refine ⟨ag0, ?_⟩
                refine o_assign gn rfl rfl ?_
                refine wl_end ?_
                refine w_seq ?_
                refine w_region (by kernel_rfl) ?_
                refine o_move gn rfl rfl ?_
                refine o_call [_, _] gn rfl rfl (by kernel_rfl) rfl (C.mono (c13 xr (by split; exact (by rw [hM]; omega); simp)) ?_)
                rintro v9 h9 ⟨rfl, xr9, g9⟩
                have t9 := (t7.ext x8).keep g9 (fun i hi hj => by have := fr3 i hj; have := t7.x.lt i hi; omega) (fun i hi hj => by have := fr3 i hj; have := t7.r.lt i hi; omega)
                have xc9 := (xc7.ext x8).keep g9 (fun i hi hj => by have := fr3 i hj; have := xc7.lt i hi; omega)
                have hx9 := (hx7.trans x8).of g9 (fun z hz => by have := fr3 z hz; have := hx7.n; omega)
                refine ⟨ag0, ?_⟩
                refine wl_end ?_
                refine w_seq ?_
                refine w_region (by kernel_rfl) ?_
                refine o_move gn rfl rfl ?_
                refine o_call [_] gn rfl rfl (by kernel_rfl) rfl (C.mono (c29' t9.x hM2 (by omega)) ?_)
                rintro v10 h10 ⟨xw, g10⟩
                have r10 := t9.r.keep g10 (fun i hi hj => t9.ap i hj hi)
                have xc10 := xc9.keep g10 (fun i hi hj => by have := fc i hi; have := t.x.lt i hj; omega)
                have hx10 := hx9.of g10 t.on
                have hW2 : ∀ i, i < N → (warM M N i).length ≤ 100000 := fun i _ => by rw [warM_len, hM]; omega
                have hW3 : ∀ i, i < N → (warM M N i).length ≤ N := fun i _ => by rw [warM_len, hM]; omega
                refine ⟨ag0, ?_⟩
                refine wl_end ?_
                refine w_seq ?_
                refine w_region (by kernel_rfl) ?_
                refine o_move gn rfl rfl ?_
                refine o_move gn rfl rfl ?_
                refine o_call [_] gn rfl rfl (by kernel_rfl) rfl (C.mono (c30 r10 hM1 (by omega)) ?_)
                rintro v11 h11 ⟨A2, o11, ra, hcl2, f11, x11⟩
                refine ⟨ag0, ?_⟩
                refine o_call [_, _] gn rfl rfl (by kernel_rfl) rfl (C.mono (c24 (xw.ext x11) (ra.congr (hcl2.eq hM3 (war_cl hM1))) (tb.ext (hx10.trans x11)) hW3 (by omega)) ?_)
                rintro v12 h12 ⟨rfl, x12⟩
                have hx12 := (hx10.trans x11).trans x12
                have r12 := (r10.ext x11).ext x12
                have xc12 := (xc10.ext x11).ext x12
                have xw12 := (xw.ext x11).ext x12
                refine ⟨ag0, ?_⟩
                refine o_move gn rfl rfl ?_
                refine wl_split (dc := 76) rfl (fun hb76 => ?_) fun hb76 => ?_
                · skip
                  refine o_move (gy rfl rfl rfl hb76) rfl rfl ?_
                  refine o_move (gy rfl rfl rfl hb76) rfl rfl ?_
                  refine o_call [_, _] (gy rfl rfl rfl hb76) rfl rfl (by kernel_rfl) rfl (C.mono (c24 xc12 r12 (tb.ext hx12) hM3 (by omega)) ?_)
                  rintro v13 h13 ⟨rfl, x13⟩
                  refine ⟨ag0, ?_⟩
                  refine o_pickt gn rfl rfl hb76 rfl ?_
                  refine o_move gn rfl rfl ?_
                  refine wl_split (dc := 81) rfl (fun hb81 => ?_) fun hb81 => ?_
                  · skip
                    refine o_move (gy rfl rfl rfl hb81) rfl rfl ?_
                    refine o_move (gy rfl rfl rfl hb81) rfl rfl ?_
                    refine o_call [_, _] (gy rfl rfl rfl hb81) rfl rfl (by kernel_rfl) rfl (C.mono (c25 (xc12.ext x13) (xw12.ext x13) (tb.ext (hx12.trans x13)) hM2 hW2 (by omega)) ?_)
                    rintro v14 h14 ⟨rfl, x14⟩
                    have r14 := (r12.ext x13).ext x14
                    refine ⟨ag0, ?_⟩
                    refine o_move (gy rfl rfl rfl hb81) rfl rfl ?_
                    refine o_move (gy rfl rfl rfl hb81) rfl rfl ?_
                    refine o_call [_] (gy rfl rfl rfl hb81) rfl rfl (by kernel_rfl) rfl (C.mono (c30 r14 hM1 (by omega)) ?_)
                    rintro v15 h15 ⟨A3, o15, ra3, hcl3, f15, x15⟩
                    refine ⟨ag0, ?_⟩
                    refine o_call [_, _] (gy rfl rfl rfl hb81) rfl rfl (by kernel_rfl) rfl (C.mono (c31 (r14.ext x15) ra3 hM2 (fun i hi => by rw [hcl3.len i hi, hM]; omega) (by omega)) ?_)
                    rintro v h' ⟨rfl, rfl⟩
                    refine ⟨ag0, ?_⟩
                    refine o_eqb (gy rfl rfl rfl hb81) rfl rfl rfl (by kernel_rfl) ?_
                    refine o_pickt gn rfl rfl hb81 rfl ?_
                    refine o_move gn rfl rfl ?_
                    refine o_and (n := 1) rfl rfl rfl gn rfl (fun hb => by
                        refine o_orc (f := 8) (v := .bool true) (gy rfl rfl rfl hb) rfl (by kernel_rfl) (by kernel_rfl) ag0 ?_
                        exact wl_end ⟨rfl, rfl, 1, rfl, rfl⟩) ?_
                    refine o_assign gn rfl rfl ?_
                    refine wl_end ?_
                    refine w_ret ?_
                    refine ⟨.inl rfl, _, rfl, ?_⟩
                    rw [sameMD_congr (hcl3.eq hM3 (war_cl hM1))]
                    simp [oneOf]
                  · skip
                    simp at hb81
                · skip
                  simp at hb76

end Go.Proofs.YtgcapnlfkomgpaaDoor


namespace Go.Proofs.YtgcapnlfkomgpaaDoor
open Go.X

/-- The first j rows of one round. -/
def rowU (M : Nat → List Bool) : Nat → List Bool → List Bool
  | 0, g => g
  | j + 1, g => if bget (rowU M j g) j = true then orB (rowU M j g) (M j) else rowU M j g
def turnU (M : Nat → List Bool) (n : Nat) : Nat → List Bool → List Bool
  | 0, g => g
  | t + 1, g => rowU M n (turnU M n t g)
theorem rowU_len (M : Nat → List Bool) (g : List Bool) : ∀ j, (rowU M j g).length = g.length
  | 0 => rfl
  | j + 1 => by rw [rowU]; split <;> simp [orB_len, rowU_len M g j]
theorem turnU_len (M : Nat → List Bool) (n : Nat) (g : List Bool) : ∀ t, (turnU M n t g).length = g.length
  | 0 => rfl
  | t + 1 => by rw [turnU, rowU_len, turnU_len M n g t]
theorem rowU_up {M : Nat → List Bool} {g : List Bool} {x : Nat} (h : bget g x = true) : ∀ j, bget (rowU M j g) x = true
  | 0 => h
  | j + 1 => by
    have ih := rowU_up (M := M) h j
    rw [rowU]
    split
    · rw [bget_orB, decide_eq_true (bget_lt ih), ih]; rfl
    · exact ih
theorem turnU_up {M : Nat → List Bool} {g : List Bool} {x n : Nat} (h : bget g x = true) : ∀ t, bget (turnU M n t g) x = true
  | 0 => h
  | t + 1 => rowU_up (turnU_up h t) n
theorem rowU_in {n i : Nat} {M A : Nat → List Bool} (c : ClM n M A) (hi : i < n) {g : List Bool} (h : ∀ x, bget g x = true → bget (A i) x = true) : ∀ j, j ≤ n → ∀ x, bget (rowU M j g) x = true → bget (A i) x = true
  | 0, _, x, e => h x e
  | j + 1, hj, x, e => by
    have ih := rowU_in c hi h j (by omega)
    rw [rowU] at e
    split at e
    · rename_i q
      rw [bget_orB, Bool.and_eq_true, Bool.or_eq_true] at e
      rcases e.2 with e2 | e2
      · exact ih x e2
      · exact c.tr i j x hi (by omega) (ih j q) (c.up j x (by omega) e2)
    · exact ih x e
theorem turnU_in {n i : Nat} {M A : Nat → List Bool} (c : ClM n M A) (hi : i < n) {g : List Bool} (h : ∀ x, bget g x = true → bget (A i) x = true) : ∀ t, ∀ x, bget (turnU M n t g) x = true → bget (A i) x = true
  | 0 => h
  | t + 1 => rowU_in c hi (turnU_in c hi h t) n (Nat.le_refl _)
/-- What a round brings. -/
theorem rowU_step {n : Nat} {M : Nat → List Bool} {g : List Bool} {x k : Nat} (hg : g.length = n) (hk : bget g k = true) (hx : bget (M k) x = true) (hxn : x < n) : ∀ j, k < j → bget (rowU M j g) x = true
  | 0, h => by omega
  | j + 1, h => by
    by_cases e : k = j
    · subst e
      rw [rowU, if_pos (rowU_up hk k), bget_orB, hx, rowU_len, hg, decide_eq_true hxn]; simp
    · have ih := rowU_step hg hk hx hxn j (by omega)
      rw [rowU]
      split
      · rw [bget_orB, decide_eq_true (bget_lt ih), ih]; rfl
      · exact ih
/-- Is it closed under the rows? -/
def CloU (n : Nat) (M : Nat → List Bool) (g : List Bool) : Prop := ∀ k x, k < n → x < n → bget g k = true → bget (M k) x = true → bget g x = true
theorem clo_stay {n : Nat} {M : Nat → List Bool} {g : List Bool} (hM : ∀ i, i < n → (M i).length = n) (h : CloU n M g) : ∀ j, j ≤ n → rowU M j g = g
  | 0, _ => rfl
  | j + 1, hj => by
    have ih := clo_stay hM h j (by omega)
    rw [rowU, ih]
    split
    · rename_i q
      exact orB_not fun ⟨x, hx, h1, h2⟩ => by
        have hxn : x < n := by have := bget_lt h1; rw [hM j (by omega)] at this; exact this
        rw [h j x (by omega) hxn q h1] at h2; cases h2
    · rfl
theorem ones_grow {n : Nat} {M : Nat → List Bool} {g : List Bool} (hg : g.length = n) (hc : ¬ CloU n M g) : (onesB g).length < (onesB (rowU M n g)).length := by
  simp only [CloU, Classical.not_forall] at hc
  obtain ⟨k, x, hk, hx, h1, h2, h3⟩ := hc
  have hm : ∀ y, y < g.length → bget g y = true → bget (rowU M n g) y = true := fun y _ e => rowU_up e n
  have hle := cnt_le (bget g) (bget (rowU M n g)) g.length hm
  unfold onesB
  rw [rowU_len]
  have hne : ((List.range g.length).filter (bget g)).length ≠ ((List.range g.length).filter (bget (rowU M n g))).length := fun e =>
    h3 (by rw [cnt_same _ _ _ hm e x (by omega)]; exact rowU_step hg h1 h2 hx n hk)
  omega
theorem clo_or {n : Nat} {M : Nat → List Bool} {g : List Bool} (hM : ∀ i, i < n → (M i).length = n) (hg : g.length = n) : ∀ t, CloU n M (turnU M n t g) ∨ t ≤ (onesB (turnU M n t g)).length
  | 0 => .inr (Nat.zero_le _)
  | t + 1 => by
    by_cases hc : CloU n M (turnU M n t g)
    · rw [turnU, clo_stay hM hc n (Nat.le_refl _)]; exact .inl hc
    · rcases clo_or hM hg t with h | h
      · exact absurd h hc
      · have := ones_grow (by rw [turnU_len, hg]) hc
        rw [turnU]; exact .inr (by omega)
theorem ones_full {g : List Bool} (h : g.length ≤ (onesB g).length) {x : Nat} (hx : x < g.length) : bget g x = true := by
  have hm : ∀ y, y < g.length → bget g y = true → (fun _ => true) y = true := fun y _ _ => rfl
  have hle := cnt_le (bget g) (fun _ => true) g.length hm
  have hq : ((List.range g.length).filter fun _ => true).length = g.length := by rw [List.filter_eq_self.2 (fun _ _ => rfl), List.length_range]
  have := cnt_same (bget g) (fun _ => true) g.length hm (by unfold onesB at h; omega) x hx
  simpa using this
theorem clo_turn {n : Nat} {M : Nat → List Bool} {g : List Bool} (hM : ∀ i, i < n → (M i).length = n) (hg : g.length = n) : CloU n M (turnU M n n g) := by
  rcases clo_or hM hg n with h | h
  · exact h
  · exact fun k x _ hx _ _ => ones_full (by rw [turnU_len, hg]; exact h) (by rw [turnU_len, hg]; exact hx)
/-- n rounds are enough. -/
theorem turnU_cl {n i : Nat} {M A : Nat → List Bool} (hM : ∀ i, i < n → (M i).length = n) (c : ClM n M A) (hi : i < n) : turnU M n n (M i) = A i := by
  refine bs_ext (by rw [turnU_len, c.len i hi]) fun x => ?_
  rw [Bool.eq_iff_iff]
  refine ⟨turnU_in c hi (fun x e => c.up i x hi e) n x, fun e => ?_⟩
  have hc := clo_turn hM (hM i hi)
  have := c.min (fun a y => a < n ∧ y < n ∧ (a = i → bget (turnU M n n (M i)) y = true) ∧ (bget (turnU M n n (M i)) a = true → bget (turnU M n n (M i)) y = true))
    (fun a y ha h => by
      have hy : y < n := by have := bget_lt h; rw [hM a ha] at this; exact this
      exact ⟨ha, hy, fun q => by subst q; exact turnU_up h n, fun q => hc a y ha hy q h⟩)
    (fun a k y p q => ⟨p.1, q.2.1, fun e => q.2.2.2 (p.2.2.1 e), fun e => q.2.2.2 (p.2.2.2 e)⟩) i x hi e
  exact this.2.2.1 rfl

end Go.Proofs.YtgcapnlfkomgpaaDoor

namespace Go.Proofs.YtgcapnlfkomgpaaDoor
open Go.X

theorem ClM.self {n : Nat} {M A : Nat → List Bool} (c : ClM n M A) : ClM n A A := ⟨fun _ _ => rfl, fun _ _ _ h => h, c.tr, fun _ s _ i j hi h => s i j hi h⟩
theorem MAt.congr {h : Hp} {b : Nat} {n : Nat} {M M' : Nat → List Bool} {own : List Nat} (x : MAt h b n M own) (e : ∀ i, i < n → M i = M' i) : MAt h b n M' own := by
  obtain ⟨P, O, sr, Bm, x, rfl⟩ := x; exact ⟨P, O, sr, Bm, x.congr e, rfl⟩

/-- BitsSteps -/
theorem c5 {h : Hp} {n : Int} {a3 : Option Addr} {n3 c3 : Nat} (tb : Tab h) (hA : ActsB h a3 n3) : C bitsE 5 [iV n, .slice a3 n3 c3] h fun v _ => v = .bool true := by
  refine c_enter (fu := Tryd.f5) (by kernel_rfl) rfl ?_
  refine w_seq ?_
  refine w_region (by kernel_rfl) ?_
  refine o_assign gn rfl rfl ?_
  refine wl_end ?_
  refine w_seq ?_
  refine w_seq ?_
  refine w_region (by kernel_rfl) ?_
  refine o_move gn rfl rfl ?_
  refine o_gtr gn rfl rfl rfl ?_
  refine o_move gn rfl rfl ?_
  refine o_or (n := 3) rfl rfl rfl gn rfl (fun hb => by
      refine o_move (gy rfl rfl rfl hb) rfl rfl ?_
      refine o_len (gy rfl rfl rfl hb) rfl rfl (by kernel_rfl) ?_
      refine o_gtr (gy rfl rfl rfl hb) rfl rfl rfl ?_
      exact wl_end ⟨rfl, rfl, 3, rfl, rfl⟩) ?_
  refine wl_end ?_
  refine w_cond rfl (fun hb => ?_) fun hb => ?_
  · skip
    refine w_seq ?_
    refine w_region (by kernel_rfl) ?_
    refine o_orc (f := 8) (v := .bool true) gn rfl (by kernel_rfl) (by kernel_rfl) ag0 ?_
    refine o_assign gn rfl rfl ?_
    refine wl_end ?_
    refine w_ret ?_
    refine ⟨.inl rfl, _, rfl, ?_⟩
    rfl
  · skip
    have hsm : n ≤ 60 ∧ n3 ≤ 200 := by simp at hb; omega
    refine w_skip ?_
    refine w_seq ?_
    refine w_region (by kernel_rfl) ?_
    refine o_move gn rfl rfl ?_
    refine o_move gn rfl rfl ?_
    refine o_call [_, _] gn rfl rfl (by kernel_rfl) rfl (C.mono (c22 hA) ?_)
    rintro v1 h1 ⟨x1, p1, s, ok, rfl, hok, q1⟩
    obtain rfl := hok ⟨by omega, by omega⟩
    obtain ⟨hn, b, own, ownr, M, rfl, t, hM⟩ := q1 rfl
    have hN : n.toNat ≤ 60 := by omega
    generalize n.toNat = N at *
    have hM1 : ∀ i, i < N → (M i).length = N := fun i _ => hM i
    have hM2 : ∀ i, i < N → (M i).length ≤ 100000 := fun i _ => by rw [hM]; omega
    have hM3 : ∀ i, i < N → (M i).length ≤ N := fun i _ => by rw [hM]; omega
    refine ⟨ag0, ?_⟩
    refine o_move gn rfl rfl ?_
    refine o_extract gn rfl rfl rfl ?_
    refine o_extract gn rfl rfl rfl ?_
    refine o_extract gn rfl rfl rfl ?_
    refine o_assign gn rfl rfl ?_
    refine o_assign gn rfl rfl ?_
    refine o_assign gn rfl rfl ?_
    refine wl_end ?_
    refine w_seq ?_
    refine w_region (by kernel_rfl) ?_
    refine o_move gn rfl rfl ?_
    refine o_call [_] gn rfl rfl (by kernel_rfl) rfl (C.mono (c23 t.x hM2 (by omega)) ?_)
    rintro v2 h2 ⟨b2, own2, rfl, xc, fc, x2⟩
    refine ⟨ag0, ?_⟩
    refine o_assign gn rfl rfl ?_
    refine wl_end ?_
    refine w_seq ?_
    refine w_region (by kernel_rfl) ?_
    refine o_move gn rfl rfl ?_
    refine o_call [_] gn rfl rfl (by kernel_rfl) rfl (C.mono (c29' xc hM2 (by omega)) ?_)
    rintro v3 h3 ⟨xw, g3⟩
    have hx1n := x1.n
    have hx2n := x2.n
    have t3 := (t.ext x2).keep g3 (fun i hi hj => by have := fc i hj; have := t.x.lt i hi; omega) (fun i hi hj => by have := fc i hj; have := t.r.lt i hi; omega)
    have hx3 := (x1.trans x2).of g3 (fun z hz => by have := fc z hz; omega)
    have hcl := war_cl hM1
    have hW1 : ∀ i, i < N → (warM M N i).length = N := fun i _ => by rw [warM_len, hM]
    have hW2 : ∀ i, i < N → (warM M N i).length ≤ 100000 := fun i _ => by rw [warM_len, hM]; omega
    have hW3 : ∀ i, i < N → (warM M N i).length ≤ N := fun i _ => by rw [warM_len, hM]; omega
    have hWW : ∀ i, i < N → warM (warM M N) N i = warM M N i := (war_cl hW1).eq hW3 hcl.self
    refine ⟨ag0, ?_⟩
    refine wl_end ?_
    refine w_seq ?_
    refine w_region (by kernel_rfl) ?_
    refine o_move gn rfl rfl ?_
    refine o_call [_] gn rfl rfl (by kernel_rfl) rfl (C.mono (c23 xw hW2 (by omega)) ?_)
    rintro v4 h4 ⟨b4, own4, rfl, xd, fd, x4⟩
    refine ⟨ag0, ?_⟩
    refine o_assign gn rfl rfl ?_
    refine wl_end ?_
    refine w_seq ?_
    refine w_region (by kernel_rfl) ?_
    refine o_move gn rfl rfl ?_
    refine o_call [_] gn rfl rfl (by kernel_rfl) rfl (C.mono (c29' xd hW2 (by omega)) ?_)
    rintro v5 h5 ⟨xd5, g5⟩
    have hx3n := hx3.n
    have hx4n := x4.n
    have t5 := (t3.ext x4).keep g5 (fun i hi hj => by have := fd i hj; have := t3.x.lt i hi; omega) (fun i hi hj => by have := fd i hj; have := t3.r.lt i hi; omega)
    have hx5 := (hx3.trans x4).of g5 (fun z hz => by have := fd z hz; omega)
    have xw5 := (xw.ext x4).keep g5 (fun i hi hj => by have := fd i hj; have := xw.lt i hi; omega)
    have xe5 := xd5.congr hWW
    refine ⟨ag0, ?_⟩
    refine wl_end ?_
    refine w_seq ?_
    refine w_seq ?_
    refine w_region (by kernel_rfl) ?_
    refine o_move gn rfl rfl ?_
    refine o_move gn rfl rfl ?_
    refine o_call [_, _] gn rfl rfl (by kernel_rfl) rfl (C.mono (c25 xe5 xw5 (tb.ext hx5) hW2 hW2 (by omega)) ?_)
    rintro v6 h6 ⟨rfl, x6⟩
    rw [sameMD_self]
    have xw6 := xw5.ext x6
    have t6 := t5.ext x6
    refine ⟨ag0, ?_⟩
    refine o_not gn rfl rfl ?_
    refine o_move gn rfl rfl ?_
    refine wl_split (dc := 41) rfl (fun hb41 => ?_) fun hb41 => ?_
    · skip
      simp at hb41
    · skip
      refine o_move (gy rfl rfl rfl hb41) rfl rfl ?_
      refine o_call [_] (gy rfl rfl rfl hb41) rfl rfl (by kernel_rfl) rfl (C.mono (c26 xw6 hW1 (by omega)) ?_)
      rintro v7 h7 ⟨B7, o7, ll7, f7, x7⟩
      rw [partsUp_congr hWW] at ll7
      obtain ⟨a7, rfl⟩ := ll7.val
      have t7 := t6.ext x7
      refine ⟨ag0, ?_⟩
      refine o_len (gy rfl rfl rfl hb41) rfl rfl (by kernel_rfl) ?_
      refine o_move (gy rfl rfl rfl hb41) rfl rfl ?_
      refine o_call [_] (gy rfl rfl rfl hb41) rfl rfl (by kernel_rfl) rfl (C.mono (c26 t7.x hM1 (by omega)) ?_)
      rintro v8 h8 ⟨B8, o8, ll8, f8, x8⟩
      obtain ⟨a8, rfl⟩ := ll8.val
      have t8 := t7.ext x8
      have xw8 := (xw6.ext x7).ext x8
      have hx8 := ((hx5.trans x6).trans x7).trans x8
      obtain ⟨V, O, Bm, r0, _⟩ := t8.r
      obtain ⟨a, rfl⟩ := r0.row.val
      have hl := rowV_len N V
      refine ⟨ag0, ?_⟩
      refine o_len (gy rfl rfl rfl hb41) rfl rfl (by kernel_rfl) ?_
      refine o_nei (gy rfl rfl rfl hb41) rfl rfl rfl ?_
      refine o_pickf gn rfl rfl hb41 rfl ?_
      refine wl_end ?_
      refine w_cond rfl (fun hb => ?_) fun hb => ?_
      · skip
        refine w_seq ?_
        refine w_region (by kernel_rfl) ?_
        refine o_assign gn rfl rfl ?_
        refine wl_end ?_
        refine w_ret ?_
        refine ⟨.inl rfl, _, rfl, ?_⟩
        simp at hb
      · skip
        refine w_skip ?_
        refine w_seq ?_
        refine w_seq ?_
        refine w_region (by kernel_rfl) ?_
        refine o_assign gn rfl rfl ?_
        refine wl_end ?_
        refine w_block ?_
        refine w_weak [(6, .slice a (rowV N V).length (rowV N V).length), (8, ptrV b2), (10, iV (0 : Nat))] (by repeat (first | exact trivial | refine ⟨rfl, ?_⟩)) ?_
        refine w_loop (fun k l hh => ∃ i : Nat, i ≤ N ∧ k = N - i ∧ Ext h8 hh ∧ l = [(6, .slice a (rowV N V).length (rowV N V).length), (8, ptrV b2), (10, iV (i : Nat))]) (n := N) ?_ fun k l hh hI => ?_
        · exact ⟨0, by omega, by omega, .refl _, rfl⟩
        · obtain ⟨i, hi, rfl, hx, rfl⟩ := hI
          refine w_seq ?_
          refine w_seq ?_
          refine w_region (by kernel_rfl) ?_
          refine o_move gn rfl rfl ?_
          refine o_move gn rfl rfl ?_
          refine o_len gn rfl rfl (by kernel_rfl) ?_
          refine o_lss gn rfl rfl rfl ?_
          refine wl_end ?_
          refine w_cond rfl (fun hb => ?_) fun hb => ?_
          · skip
            have hlt : i < N := by rw [hl] at hb; simpa using hb
            have r1 := r0.ext hx
            obtain ⟨bb, m, ea, hg, hmm, hblt, _⟩ := r1.row.at (by omega)
            simp only [Value.slice.injEq, and_true] at ea
            subst ea
            refine w_skip ?_
            refine w_seq ?_
            refine w_block ?_
            refine w_seq ?_
            refine w_region (by kernel_rfl) ?_
            refine o_move gn rfl rfl ?_
            refine o_move gn rfl rfl ?_
            refine o_indexAddr (zz := 1) gn rfl rfl rfl (by kernel_rfl) (by omega) (by omega) ?_
            refine o_load gn rfl rfl (by kernel_rfl) hg (rowV_at i hlt (by omega)) ?_
            refine o_call [_] gn rfl rfl (by kernel_rfl) rfl (C.mono (c10 (r1.each i hlt) (hM2 i hlt)) ?_)
            rintro gv h9 ⟨Bg, rg, fg, x9⟩
            obtain ⟨ag, eg⟩ := rg.val
            have hlg : (bsV (M i)).length = N := by rw [List.length_map, hM]
            rw [hlg] at eg
            subst eg
            have hx9n := x9.n
            have r9 := r1.ext x9
            have hgd : ∀ z, z ∈ ownR N O Bm → z ∉ Bg := fun z hz hj => by have := r1.own_lt z hz; have := fg z hj; omega
            have hg9 := (x9.get bb hblt).trans hg
            have hbg : bb ∉ Bg := fun hj => by have := fg bb hj; omega
            refine ⟨ag0, ?_⟩
            refine o_assign gn rfl rfl ?_
            refine wl_end ?_
            refine w_seq ?_
            refine w_seq ?_
            refine w_region (by kernel_rfl) ?_
            refine o_assign gn rfl rfl ?_
            refine wl_end ?_
            refine w_block ?_
            refine w_weak [(6, .slice (some ⟨bb, 0, none⟩) (rowV N V).length (rowV N V).length), (8, ptrV b2), (10, iV (i : Nat)), (11, .slice ag N N), (12, iV (0 : Nat))] (by repeat (first | exact trivial | refine ⟨rfl, ?_⟩)) ?_
            refine w_loop (fun k l hh => ∃ tt : Nat, tt ≤ N ∧ k = N - tt ∧ RefS hh (.slice ag N N) (turnU M N tt (M i)) Bg ∧ ExtB Bg h9 hh ∧ l = [(6, .slice (some ⟨bb, 0, none⟩) (rowV N V).length (rowV N V).length), (8, ptrV b2), (10, iV (i : Nat)), (11, .slice ag N N), (12, iV (tt : Nat))]) (n := N) ?_ fun k l hh hI => ?_
            · exact ⟨0, by omega, by omega, rg, .refl _ _, rfl⟩
            · obtain ⟨tt, htt, rfl, rgt, hxt, rfl⟩ := hI
              refine w_seq ?_
              refine w_seq ?_
              refine w_region (by kernel_rfl) ?_
              refine o_move gn rfl rfl ?_
              refine o_move gn rfl rfl ?_
              refine o_len gn rfl rfl (by kernel_rfl) ?_
              refine o_lss gn rfl rfl rfl ?_
              refine wl_end ?_
              refine w_cond rfl (fun hb => ?_) fun hb => ?_
              · skip
                have httn : tt < N := by rw [hl] at hb; simpa using hb
                refine w_skip ?_
                refine w_seq ?_
                refine w_block ?_
                refine w_seq ?_
                refine w_region (by kernel_rfl) ?_
                refine o_assign gn rfl rfl ?_
                refine wl_end ?_
                refine w_block ?_
                refine w_weak [(6, .slice (some ⟨bb, 0, none⟩) (rowV N V).length (rowV N V).length), (8, ptrV b2), (10, iV (i : Nat)), (11, .slice ag N N), (12, iV (tt : Nat)), (13, iV (0 : Nat))] (by repeat (first | exact trivial | refine ⟨rfl, ?_⟩)) ?_
                refine w_loop (fun k l hh => ∃ j : Nat, j ≤ N ∧ k = N - j ∧ RefS hh (.slice ag N N) (rowU M j (turnU M N tt (M i))) Bg ∧ ExtB Bg h9 hh ∧ l = [(6, .slice (some ⟨bb, 0, none⟩) (rowV N V).length (rowV N V).length), (8, ptrV b2), (10, iV (i : Nat)), (11, .slice ag N N), (12, iV (tt : Nat)), (13, iV (j : Nat))]) (n := N) ?_ fun k l hh hI => ?_
                · exact ⟨0, by omega, by omega, rgt, hxt, rfl⟩
                · obtain ⟨j, hj, rfl, rgj, hxj, rfl⟩ := hI
                  refine w_seq ?_
                  refine w_seq ?_
                  refine w_region (by kernel_rfl) ?_
                  refine o_move gn rfl rfl ?_
                  refine o_move gn rfl rfl ?_
                  refine o_len gn rfl rfl (by kernel_rfl) ?_
                  refine o_lss gn rfl rfl rfl ?_
                  refine wl_end ?_
                  refine w_cond rfl (fun hb => ?_) fun hb => ?_
                  · skip
                    have hjn : j < N := by rw [hl] at hb; simpa using hb
                    have hxjn := hxj.n
                    have hgl : (rowU M j (turnU M N tt (M i))).length = N := by rw [rowU_len, turnU_len, hM]
                    obtain ⟨bn, mn, en, hgn, hmn, hbnlt, hBn⟩ := rgj.at (by rw [List.length_map, hgl]; omega)
                    simp only [Value.slice.injEq] at en
                    obtain ⟨en, _, _⟩ := en
                    subst en
                    have hgj := (hxj.get bb (by omega) hbg).trans hg9
                    have rj := r9.keep hxj hgd
                    refine w_skip ?_
                    refine w_seq ?_
                    refine w_block ?_
                    refine w_seq ?_
                    refine w_region (by kernel_rfl) ?_
                    refine o_move gn rfl rfl ?_
                    refine o_move gn rfl rfl ?_
                    refine o_indexAddr (zz := 1) gn rfl rfl rfl (by kernel_rfl) (by omega) (by omega) ?_
                    refine o_load gn rfl rfl (by kernel_rfl) hgn (bs_at j (by omega) (by omega)) ?_
                    refine wl_end ?_
                    refine w_cond rfl (fun hb => ?_) fun hb => ?_
                    · skip
                      refine w_region (by kernel_rfl) ?_
                      refine o_move gn rfl rfl ?_
                      refine o_move gn rfl rfl ?_
                      refine o_move gn rfl rfl ?_
                      refine o_indexAddr (zz := 1) gn rfl rfl rfl (by kernel_rfl) (by omega) (by omega) ?_
                      refine o_load gn rfl rfl (by kernel_rfl) hgj (rowV_at j hjn (by omega)) ?_
                      refine o_call [_, _] gn rfl rfl (by kernel_rfl) rfl (C.mono (c32' rgj (rj.each j hjn) (fun z hz => hgd z (mem_ownR.2 (.inr ⟨j, hjn, hz⟩))) (by omega)) ?_)
                      rintro v10 h10 ⟨rfl, rg10, g10⟩
                      refine ⟨ag0, ?_⟩
                      refine wl_end ?_
                      refine w_region (by kernel_rfl) ?_
                      refine o_move gn rfl rfl ?_
                      refine o_add gn rfl rfl rfl (by omega) (by omega) ?_
                      refine o_assign gn rfl rfl ?_
                      refine wl_end ?_
                      have hbit : bget (rowU M j (turnU M N tt (M i))) j = true := hb
                      exact ⟨N - (j + 1), by omega, [(6, _), (8, _), (10, _), (11, _), (12, _), (13, iV ((j + 1 : Nat) : Int))], (by repeat (first | exact trivial | refine ⟨rfl, ?_⟩)), j + 1, by omega, rfl, (by rw [rowU, if_pos hbit]; exact rg10), hxj.trans g10, rfl⟩
                    · skip
                      refine w_skip ?_
                      refine w_region (by kernel_rfl) ?_
                      refine o_move gn rfl rfl ?_
                      refine o_add gn rfl rfl rfl (by omega) (by omega) ?_
                      refine o_assign gn rfl rfl ?_
                      refine wl_end ?_
                      have hbit : ¬ bget (rowU M j (turnU M N tt (M i))) j = true := by simpa using hb
                      exact ⟨N - (j + 1), by omega, [(6, _), (8, _), (10, _), (11, _), (12, _), (13, iV ((j + 1 : Nat) : Int))], (by repeat (first | exact trivial | refine ⟨rfl, ?_⟩)), j + 1, by omega, rfl, (by rw [rowU, if_neg hbit]; exact rgj), hxj, rfl⟩
                  · skip
                    refine w_exit ?_
                    refine thn_exit ?_
                    refine rnd_exit ?_
                    refine blk_eq ?_
                    refine w_region (by kernel_rfl) ?_
                    refine o_move gn rfl rfl ?_
                    refine o_add gn rfl rfl rfl (by omega) (by omega) ?_
                    refine o_assign gn rfl rfl ?_
                    refine wl_end ?_
                    have hge : j = N := by rw [hl] at hb; simp at hb; omega
                    rw [hge] at rgj
                    exact ⟨N - (tt + 1), by omega, [(6, _), (8, _), (10, _), (11, _), (12, iV ((tt + 1 : Nat) : Int))], (by repeat (first | exact trivial | refine ⟨rfl, ?_⟩)), tt + 1, by omega, rfl, rgj, hxj, rfl⟩
              · skip
                refine w_exit ?_
                refine thn_exit ?_
                refine rnd_exit ?_
                refine blk_eq ?_
                have hge : tt = N := by rw [hl] at hb; simp at hb; omega
                rw [hge, turnU_cl hM1 hcl hlt] at rgt
                have hx10 := (hx.trans x9).of hxt (fun z hz => by have := fg z hz; have := hx.n; omega)
                refine w_seq ?_
                refine w_region (by kernel_rfl) ?_
                refine o_move gn rfl rfl ?_
                refine o_move gn rfl rfl ?_
                refine o_call [_, _] gn rfl rfl (by kernel_rfl) rfl (C.mono (c28' (i := (i : Int)) (xw8.ext hx10) hW2) ?_)
                rintro v11 h11 ⟨b11, own11, rfl, x11s, f11, x11⟩
                rw [if_pos (inN_iff.2 ⟨by omega, by omega⟩), Int.toNat_natCast] at x11s
                refine ⟨ag0, ?_⟩
                refine o_move gn rfl rfl ?_
                refine o_call [_, _] gn rfl rfl (by kernel_rfl) rfl (C.mono (c17 x11s (rgt.keep (x11.b []) (by simp)) (tb.ext ((hx8.trans hx10).trans x11)) (by rw [hW1 i hlt]; omega)) ?_)
                rintro v12 h12 ⟨rfl, x12⟩
                refine ⟨ag0, ?_⟩
                refine o_not gn rfl rfl ?_
                refine wl_end ?_
                refine w_cond rfl (fun hb => ?_) fun hb => ?_
                · skip
                  refine w_seq ?_
                  refine w_region (by kernel_rfl) ?_
                  refine o_assign gn rfl rfl ?_
                  refine wl_end ?_
                  refine w_ret ?_
                  refine ⟨.inl rfl, _, rfl, ?_⟩
                  simp at hb
                · skip
                  refine w_skip ?_
                  refine w_region (by kernel_rfl) ?_
                  refine o_move gn rfl rfl ?_
                  refine o_add gn rfl rfl rfl (by omega) (by omega) ?_
                  refine o_assign gn rfl rfl ?_
                  refine wl_end ?_
                  exact ⟨N - (i + 1), by omega, [(6, _), (8, _), (10, iV ((i + 1 : Nat) : Int))], (by repeat (first | exact trivial | refine ⟨rfl, ?_⟩)), i + 1, by omega, rfl, (hx10.trans x11).trans x12, rfl⟩
          · skip
            refine w_exit ?_
            refine thn_exit ?_
            refine rnd_exit ?_
            refine blk_eq ?_
            refine w_seq ?_
            refine w_region (by kernel_rfl) ?_
            refine o_orc (f := 8) (v := .bool true) gn rfl (by kernel_rfl) (by kernel_rfl) ag0 ?_
            refine o_assign gn rfl rfl ?_
            refine wl_end ?_
            refine w_ret ?_
            refine ⟨.inl rfl, _, rfl, ?_⟩
            rfl

end Go.Proofs.YtgcapnlfkomgpaaDoor

