/- BitsPlays, in the calculus. Conditions: math/bits' table lies in the memory. Chapter 17: the arguments of its laws and math/bits' table, as X has them. Conditions: none. -/
import Derived.Test.YtgcapnlfkomgpaaDoorLa
import Derived.Test.YtgcapnlfkomgpaaDoorXc
import Derived.Test.YtgcapnlfkomgpaaDoorTie
import Derived.Test.YtgcapnlfkomgpaaDoorCards
import Derived.SevenTiedAt
import Derived.LaidMore
import Derived.LaidHandle
import Derived.ProofKit
namespace Go.Proofs.YtgcapnlfkomgpaaDoor
open Go.X

theorem of_iff {t : Bool} {p : Prop} (h : t = true ↔ p) : t = @decide p (Classical.propDecidable p) := by
  rw [Bool.eq_iff_iff, h]; simp

noncomputable def sameD (a b : List Bool) : Bool := @decide (SameB a b) (Classical.propDecidable _)
theorem sameD_comm (a b : List Bool) : sameD a b = sameD b a := by
  rw [Bool.eq_iff_iff]
  simp only [sameD, decide_eq_true_eq]
  exact ⟨fun h k => (h k).symm, fun h k => (h k).symm⟩
noncomputable def meetD (a b : List Bool) : Bool := @decide (∃ k, bget a k = true ∧ bget b k = true) (Classical.propDecidable _)
noncomputable def cameD (a b : List Bool) : Bool := @decide (Came a b) (Classical.propDecidable _)

section
variable {h : Hp} {b bo : Nat} {bs obs : List Bool} {own oo B Bo : List Nat} {s so : Value}

theorem c12' (x : SAt h b bs own) (o : SAt h bo obs oo) (tb : Tab h) (hn : bs.length ≤ 100000) (hno : obs.length ≤ 100000) :
    C bitsE 12 [ptrV b, ptrV bo] h fun v h' => v = .bool (sameD bs obs) ∧ Ext h h' :=
  (c12 x o tb hn hno).mono fun v h' ⟨e, t, ev, ht⟩ => ⟨by rw [ev, of_iff ht]; rfl, e⟩
theorem c18' (x : RefS h s bs B) (o : RefS h so obs Bo) (hn : bs.length ≤ 100000) (hno : obs.length ≤ 100000) : CP bitsE 18 [s, so] h (.bool (sameD bs obs)) :=
  (c18 x o hn hno).mono fun v h' ⟨e, t, ev, ht⟩ => ⟨by rw [ev, of_iff ht]; rfl, e⟩
theorem c34' (x : SAt h b bs own) (o : SAt h bo obs oo) (hn : bs.length ≤ 100000) : CP bitsE 34 [ptrV b, ptrV bo] h (.bool (meetD bs obs)) :=
  (c34 x o hn).mono fun v h' ⟨e, t, ev, ht⟩ => ⟨by rw [ev, of_iff ht]; rfl, e⟩
theorem c35' (x : RefS h s bs B) (o : RefS h so obs Bo) (hn : bs.length ≤ 100000) : CP bitsE 35 [s, so] h (.bool (meetD bs obs)) :=
  (c35 x o hn).mono fun v h' ⟨e, t, ev, ht⟩ => ⟨by rw [ev, of_iff ht]; rfl, e⟩
theorem c33' (x : SAt h b bs own) (o : SAt h bo obs oo) (hd : ∀ i, i ∈ oo → i ∉ own) (hn : bs.length ≤ 100000) :
    C bitsE 33 [ptrV b, ptrV bo] h fun v h' => v = .bool (cameD bs obs) ∧ SAt h' b (orB bs obs) own ∧ ExtB own h h' :=
  (c33 x o hd hn).mono fun v h' ⟨t, ev, ht, p⟩ => ⟨by rw [ev, of_iff ht]; rfl, p⟩
theorem c32' (x : RefS h s bs B) (o : RefS h so obs Bo) (hd : ∀ i, i ∈ Bo → i ∉ B) (hn : bs.length ≤ 90000) :
    C bitsE 32 [s, so] h fun v h' => v = .bool (cameD bs obs) ∧ RefS h' s (orB bs obs) B ∧ ExtB B h h' :=
  (c32 x o hd hn).mono fun v h' ⟨t, ev, ht, p⟩ => ⟨by rw [ev, of_iff ht]; rfl, p⟩
theorem c7' {n : Int} {a : Option Addr} {c : Nat} {xs : List Int} (hs : Src h (.slice a xs.length c) (isV xs)) :
    C bitsE 7 [iV n, .slice a xs.length c] h fun v h' => Ext h h' ∧ ∃ p s ok, v = .tuple #[p, s, .bool ok] ∧ (ok = true → n ≤ 600 ∧ ∃ b own B, p = ptrV b ∧ TwoS h.n h' b s (ofB n xs) own B) :=
  (c7 hs).mono fun v h' ⟨e, q⟩ => ⟨e, by
    rcases q with rfl | ⟨hn, b, s, own, B, rfl, t⟩
    · exact ⟨_, _, _, rfl, fun hh => by cases hh⟩
    · exact ⟨_, _, _, rfl, fun _ => ⟨hn, b, own, B, rfl, t⟩⟩⟩
end

/-- Two sets, each as the program and as the document has it; all apart. -/
structure Four (n0 : Nat) (h : Hp) (b : Nat) (s : Value) (bs : List Bool) (own B : List Nat) (b2 : Nat) (s2 : Value) (bs2 : List Bool) (own2 B2 : List Nat) : Prop where
  p : TwoS n0 h b s bs own B
  q : TwoS n0 h b2 s2 bs2 own2 B2
  d : ∀ i, i ∈ own ++ B → i ∉ own2 ∧ i ∉ B2
section
variable {n0 n1 : Nat} {h h' : Hp} {b : Nat} {s : Value} {bs bs' : List Bool} {own B : List Nat} {b2 : Nat} {s2 : Value} {bs2 : List Bool} {own2 B2 : List Nat}
theorem Four.ext (t : Four n0 h b s bs own B b2 s2 bs2 own2 B2) (g : Ext h h') : Four n0 h' b s bs own B b2 s2 bs2 own2 B2 := ⟨t.p.ext g, t.q.ext g, t.d⟩
theorem Four.first (t : Four n0 h b s bs own B b2 s2 bs2 own2 B2) (p : TwoS n0 h' b s bs' own B ∧ ExtB (own ++ B) h h') : Four n0 h' b s bs' own B b2 s2 bs2 own2 B2 :=
  ⟨p.1, t.q.keep p.2 (fun i hi hj => (t.d i hj).1 hi) (fun i hi hj => (t.d i hj).2 hi), t.d⟩
theorem TwoS.new (t : TwoS n0 h b s bs own B) : ∀ i, i ∈ own ++ B → n0 ≤ i := fun i hi => by
  rcases List.mem_append.1 hi with hi | hi
  · exact t.on i hi
  · exact t.bn i hi
theorem TwoS.lt' (t : TwoS n0 h b s bs own B) : ∀ i, i ∈ own ++ B → i < h.n := fun i hi => t.lt i (List.mem_append.1 hi)
theorem TwoS.less (t : TwoS n1 h b s bs own B) (hn : n0 ≤ n1) : TwoS n0 h b s bs own B := ⟨t.x, t.r, t.ap, fun i hi => Nat.le_trans hn (t.on i hi), fun i hi => Nat.le_trans hn (t.bn i hi)⟩
theorem four_new (t1 : TwoS n0 h b s bs own B) (x : Ext h h') (hn : n0 ≤ h.n) (t2 : TwoS h.n h' b2 s2 bs2 own2 B2) : Four n0 h' b s bs own B b2 s2 bs2 own2 B2 :=
  ⟨t1.ext x, t2.less hn, fun i hi => by
    have h1 := t1.lt' i hi
    exact ⟨fun hj => by have := t2.on i hj; omega, fun hj => by have := t2.bn i hj; omega⟩⟩
end

/-- Acts, as they lie in memory. -/
def ActsB (h : Hp) (a : Option Addr) (n : Nat) : Prop :=
  n = 0 ∨ ∃ bb oo cs e m, a = some ⟨bb, oo, none⟩ ∧ h.get bb = some (.cells cs e m) ∧ bb < h.n ∧
    ∀ i, i < n → oo + i * 2 + 2 ≤ cs.length ∧ ∃ kd ii, (cs.drop (oo + i * 2)).take 2 = [iV kd, iV ii]

/-- BitsPlays -/
theorem c6 {h : Hp} {n m : Int} {a a3 : Option Addr} {c n3 c3 : Nat} {xs : List Int} (tb : Tab h) (hs : Src h (.slice a xs.length c) (isV xs)) (hA : ActsB h a3 n3) :
    C bitsE 6 [iV n, iV m, .slice a xs.length c, .slice a3 n3 c3] h fun v _ => v = .bool true := by
  refine c_enter (fu := Tryd.f6) (by kernel_rfl) rfl ?_
  refine w_seq ?_
  refine w_region (by kernel_rfl) ?_
  refine o_assign gn rfl rfl ?_
  refine wl_end ?_
  refine w_seq ?_
  refine w_region (by kernel_rfl) ?_
  refine o_move gn rfl rfl ?_
  refine o_call [_, _] gn rfl rfl (by kernel_rfl) rfl (C.mono (c7' (a := none) (c := 0) (xs := []) ⟨rfl, rfl, rfl, fun a n c e => by cases e⟩) ?_)
  rintro v1 h1 ⟨x1, p1, s, ok1, rfl, q1⟩
  refine ⟨ag0, ?_⟩
  refine o_move gn rfl rfl ?_
  refine o_extract gn rfl rfl rfl ?_
  refine o_extract gn rfl rfl rfl ?_
  refine o_extract gn rfl rfl rfl ?_
  refine o_assign gn rfl rfl ?_
  refine o_assign gn rfl rfl ?_
  refine o_assign gn rfl rfl ?_
  refine wl_end ?_
  refine w_seq ?_
  refine w_region (by kernel_rfl) ?_
  refine o_move gn rfl rfl ?_
  refine o_move gn rfl rfl ?_
  refine o_call [_, _] gn rfl rfl (by kernel_rfl) rfl (C.mono (c7' (hs.ext x1)) ?_)
  rintro v2 h2 ⟨x2, p2, s2, ok2, rfl, q2⟩
  refine ⟨ag0, ?_⟩
  refine o_move gn rfl rfl ?_
  refine o_extract gn rfl rfl rfl ?_
  refine o_extract gn rfl rfl rfl ?_
  refine o_extract gn rfl rfl rfl ?_
  refine o_assign gn rfl rfl ?_
  refine o_assign gn rfl rfl ?_
  refine o_assign gn rfl rfl ?_
  refine wl_end ?_
  refine w_seq ?_
  refine w_seq ?_
  refine w_region (by kernel_rfl) ?_
  refine o_move gn rfl rfl ?_
  refine o_not gn rfl rfl ?_
  refine o_move gn rfl rfl ?_
  refine o_or (n := 2) rfl rfl rfl gn rfl (fun hb => by
      refine o_move (gy rfl rfl rfl hb) rfl rfl ?_
      refine o_not (gy rfl rfl rfl hb) rfl rfl ?_
      exact wl_end ⟨rfl, rfl, 2, rfl, rfl⟩) ?_
  refine o_move gn rfl rfl ?_
  refine o_or (n := 3) rfl rfl rfl gn rfl (fun hb => by
      refine o_move (gy rfl rfl rfl hb) rfl rfl ?_
      refine o_len (gy rfl rfl rfl hb) rfl rfl (by kernel_rfl) ?_
      refine o_gtr (gy rfl rfl rfl hb) rfl rfl rfl ?_
      exact wl_end ⟨rfl, rfl, 3, rfl, rfl⟩) ?_
  refine wl_end ?_
  refine w_cond rfl (fun hb => ?_) fun hb => ?_
  · skip
    refine w_seq ?_
    refine w_region (by kernel_rfl) ?_
    refine o_orc (f := 8) (v := .bool true) gn rfl (by kernel_rfl) (by kernel_rfl) ag0 ?_
    refine o_assign gn rfl rfl ?_
    refine wl_end ?_
    refine w_ret ?_
    refine ⟨.inl rfl, _, rfl, ?_⟩
    rfl
  · skip
    have hq : ok1 = true ∧ ok2 = true ∧ n3 ≤ 60 := by revert hb; cases ok1 <;> cases ok2 <;> simp <;> omega
    obtain ⟨rfl, rfl, hal⟩ := hq
    obtain ⟨hn, b, own, B, rfl, t1⟩ := q1 rfl
    obtain ⟨hm, b2, own2, B2, rfl, t2⟩ := q2 rfl
    have f0 := four_new t1 x2 x1.n t2
    have hl0 : (ofB n []).length ≤ 600 := by rw [ofB_len]; omega
    have hlm : (ofB m xs).length ≤ 600 := by rw [ofB_len]; omega
    generalize ofB n [] = bs0 at *
    generalize ofB m xs = bm at *
    refine w_skip ?_
    refine w_seq ?_
    refine w_seq ?_
    refine w_region (by kernel_rfl) ?_
    refine o_assign gn rfl rfl ?_
    refine wl_end ?_
    refine w_block ?_
    refine w_weak [(3, .slice a3 n3 c3), (9, ptrV b), (10, s), (12, ptrV b2), (13, s2), (15, iV 0)] (by repeat (first | exact trivial | refine ⟨rfl, ?_⟩)) ?_
    refine w_loop (fun k l hh => ∃ (i : Int) (bs : List Bool), 0 ≤ i ∧ i ≤ n3 ∧ k = (n3 - i).toNat ∧ bs.length ≤ 600 ∧ Four h.n hh b s bs own B b2 s2 bm own2 B2 ∧ Ext h hh ∧ l = [(3, .slice a3 n3 c3), (9, ptrV b), (10, s), (12, ptrV b2), (13, s2), (15, iV i)]) (n := (n3 - (0 : Int)).toNat) ?_ fun k l hh hI => ?_
    · exact ⟨0, _, by omega, by omega, rfl, hl0, f0, x1.trans x2, rfl⟩
    · obtain ⟨i, bs, hi0, hi1, rfl, hbl, hf, hx, rfl⟩ := hI
      refine w_seq ?_
      refine w_seq ?_
      refine w_region (by kernel_rfl) ?_
      refine o_move gn rfl rfl ?_
      refine o_move gn rfl rfl ?_
      refine o_len gn rfl rfl (by kernel_rfl) ?_
      refine o_lss gn rfl rfl rfl ?_
      refine wl_end ?_
      refine w_cond rfl (fun hb => ?_) fun hb => ?_
      · skip
        have hlt : i < n3 := by simpa using hb
        rcases hA with h0 | ⟨bb, oo, cs, e, mm, rfl, hg, hbb, hall⟩
        · omega
        obtain ⟨hfit, kd, ii, hrow⟩ := hall i.toNat (by omega)
        have hg2 := (hx.get bb hbb).trans hg
        refine w_skip ?_
        refine w_seq ?_
        refine w_block ?_
        refine w_seq ?_
        refine w_region (by kernel_rfl) ?_
        refine o_move gn rfl rfl ?_
        refine o_move gn rfl rfl ?_
        refine o_indexAddr (zz := 2) gn rfl rfl rfl (by kernel_rfl) (by omega) (by omega) ?_
        refine o_loadA (n := 2) gn rfl rfl (by kernel_rfl) (by kernel_rfl) hg2 hfit ?_
        rw [hrow]
        refine o_alloc (zv := .agg #[.int .i64 0, .int .i64 0]) gn rfl (by kernel_rfl) ?_
        refine o_storeA (n := 2) gn rfl rfl rfl (by kernel_rfl) rfl (Hp.get_alloc_self _ _) (by decide) rfl ag0 ?_
        refine wl_at (fun h4 => h4.get hh.n = some (.cells [iV kd, iV ii] 61 0) ∧ Ext hh h4 ∧ h4.n = hh.n + 1) ⟨Hp.get_put_self _ _ _, (Ext.alloc hh _).of (ExtB.put _ _ _) (by simp), by rw [Hp.n_put, Hp.n_alloc]⟩ fun h4 ⟨g4, x4, n4⟩ => ?_
        have hf4 := hf.ext x4
        have hx4 := hx.trans x4
        refine wl_end ?_
        refine w_cut (fun l hh => ∃ bs', bs'.length = bs.length ∧ Four h.n hh b s bs' own B b2 s2 bm own2 B2 ∧ Ext h hh ∧ l = [(3, .slice (some ⟨bb, oo, none⟩) n3 c3), (9, ptrV b), (10, s), (12, ptrV b2), (13, s2), (15, iV i)]) ?_ fun l hh hJ => ?_
        · skip
          refine w_seq ?_
          refine w_region (by kernel_rfl) ?_
          refine o_fieldAddr (off := 0) gn rfl rfl (by kernel_rfl) ?_
          refine o_load gn rfl rfl (by kernel_rfl) (by assumption) rfl ?_
          refine wl_end ?_
          refine w_block ?_
          refine w_seq ?_
          refine w_region (by kernel_rfl) ?_
          refine o_eqi gn rfl rfl rfl ?_
          refine o_assign gn rfl rfl ?_
          refine wl_end ?_
          refine w_cond rfl (fun hb => ?_) fun hb => ?_
          · skip
            refine w_seq ?_
            refine w_draw [(0, []), (1, []), (2, []), (4, []), (5, []), (6, []), (3, [6]), (7, []), (8, [])] (by kernel_rfl) (by kernel_rfl) (by kernel_rfl) (by kernel_rfl) ?_
            refine o_move gn rfl rfl ?_
            refine o_fieldAddr (off := 1) gn rfl rfl (by kernel_rfl) ?_
            refine o_load gn rfl rfl (by kernel_rfl) (by assumption) rfl ?_
            refine o_move gn rfl rfl ?_
            refine o_fieldAddr (off := 1) gn rfl rfl (by kernel_rfl) ?_
            refine o_load gn rfl rfl (by kernel_rfl) (by assumption) rfl ?_
            refine o_call [_, _] gn rfl rfl (by kernel_rfl) rfl (C.mono (c13 hf4.p.x (by omega)) ?_)
            rintro v5 h5 ⟨rfl, xa5, g5⟩
            have gl5 := (g5.get hh.n (by omega) (fun hm => by have := hf.p.lt _ (.inl hm); omega)).trans g4
            refine ⟨(ag1 (ag_load gn rfl (by kernel_rfl) (by assumption) rfl rfl same_int) ag0), ?_⟩
            refine o_call [_, _] gn rfl rfl (by kernel_rfl) rfl (C.mono (c14 (hf4.p.r.keep g5 fun i hi hj => hf.p.ap i hj hi)) ?_)
            rintro v6 h6 ⟨rfl, rb6, g6⟩
            have t6 := hf4.p.both xa5 g5 rb6 g6
            refine ⟨ag0, ?_⟩
            refine o_neb gn rfl rfl rfl (by kernel_rfl) ?_
            refine wl_end ?_
            refine w_cond rfl (fun hb => ?_) fun hb => ?_
            · skip
              refine w_seq ?_
              refine w_region (by kernel_rfl) ?_
              refine o_assign gn rfl rfl ?_
              refine wl_end ?_
              refine w_ret ?_
              refine ⟨.inl rfl, _, rfl, ?_⟩
              simp at hb
            · skip
              refine w_skip ?_
              exact ⟨_, (by repeat (first | exact trivial | refine ⟨rfl, ?_⟩)), ⟨_, addO_len _ _, hf4.first t6, hx4.of t6.2 hf.p.new, rfl⟩⟩
          · skip
            refine w_seq ?_
            refine w_region (by kernel_rfl) ?_
            refine o_eqi gn rfl rfl rfl ?_
            refine o_assign gn rfl rfl ?_
            refine wl_end ?_
            refine w_cond rfl (fun hb => ?_) fun hb => ?_
            · skip
              refine w_seq ?_
              refine w_draw [(0, []), (1, []), (2, []), (4, []), (5, []), (6, []), (3, [6]), (7, []), (8, [])] (by kernel_rfl) (by kernel_rfl) (by kernel_rfl) (by kernel_rfl) ?_
              refine o_move gn rfl rfl ?_
              refine o_fieldAddr (off := 1) gn rfl rfl (by kernel_rfl) ?_
              refine o_load gn rfl rfl (by kernel_rfl) (by assumption) rfl ?_
              refine o_move gn rfl rfl ?_
              refine o_fieldAddr (off := 1) gn rfl rfl (by kernel_rfl) ?_
              refine o_load gn rfl rfl (by kernel_rfl) (by assumption) rfl ?_
              refine o_call [_, _] gn rfl rfl (by kernel_rfl) rfl (C.mono (c15 hf4.p.x (by omega)) ?_)
              rintro v5 h5 ⟨rfl, xa5, g5⟩
              have gl5 := (g5.get hh.n (by omega) (fun hm => by have := hf.p.lt _ (.inl hm); omega)).trans g4
              refine ⟨(ag1 (ag_load gn rfl (by kernel_rfl) (by assumption) rfl rfl same_int) ag0), ?_⟩
              refine o_call [_, _] gn rfl rfl (by kernel_rfl) rfl (C.mono (c16 (hf4.p.r.keep g5 fun i hi hj => hf.p.ap i hj hi)) ?_)
              rintro v6 h6 ⟨rfl, rb6, g6⟩
              have t6 := hf4.p.both xa5 g5 rb6 g6
              refine ⟨ag0, ?_⟩
              refine o_neb gn rfl rfl rfl (by kernel_rfl) ?_
              refine wl_end ?_
              refine w_cond rfl (fun hb => ?_) fun hb => ?_
              · skip
                refine w_seq ?_
                refine w_region (by kernel_rfl) ?_
                refine o_assign gn rfl rfl ?_
                refine wl_end ?_
                refine w_ret ?_
                refine ⟨.inl rfl, _, rfl, ?_⟩
                simp at hb
              · skip
                refine w_skip ?_
                exact ⟨_, (by repeat (first | exact trivial | refine ⟨rfl, ?_⟩)), ⟨_, dropO_len _ _, hf4.first t6, hx4.of t6.2 hf.p.new, rfl⟩⟩
            · skip
              refine w_seq ?_
              refine w_region (by kernel_rfl) ?_
              refine o_eqi gn rfl rfl rfl ?_
              refine o_assign gn rfl rfl ?_
              refine wl_end ?_
              refine w_cond rfl (fun hb => ?_) fun hb => ?_
              · skip
                refine w_seq ?_
                refine w_region (by kernel_rfl) ?_
                refine o_move gn rfl rfl ?_
                refine o_move gn rfl rfl ?_
                refine o_call [_, _] gn rfl rfl (by kernel_rfl) rfl (C.mono (c33' hf4.p.x hf4.q.x (fun i hi hj => (hf.d i (List.mem_append.2 (.inl hj))).1 hi) (by omega)) ?_)
                rintro v5 h5 ⟨rfl, xa5, g5⟩
                refine ⟨ag0, ?_⟩
                refine o_move gn rfl rfl ?_
                refine o_move gn rfl rfl ?_
                refine o_call [_, _] gn rfl rfl (by kernel_rfl) rfl (C.mono (c32' (hf4.p.r.keep g5 fun i hi hj => hf.p.ap i hj hi) (hf4.q.r.keep g5 fun i hi hj => (hf.d i (List.mem_append.2 (.inl hj))).2 hi) (fun i hi hj => (hf.d i (List.mem_append.2 (.inr hj))).2 hi) (by omega)) ?_)
                rintro v6 h6 ⟨rfl, rb6, g6⟩
                have t6 := hf4.p.both xa5 g5 rb6 g6
                refine ⟨ag0, ?_⟩
                refine o_neb gn rfl rfl rfl (by kernel_rfl) ?_
                refine wl_end ?_
                refine w_cond rfl (fun hb => ?_) fun hb => ?_
                · skip
                  refine w_seq ?_
                  refine w_region (by kernel_rfl) ?_
                  refine o_assign gn rfl rfl ?_
                  refine wl_end ?_
                  refine w_ret ?_
                  refine ⟨.inl rfl, _, rfl, ?_⟩
                  simp at hb
                · skip
                  refine w_skip ?_
                  exact ⟨_, (by repeat (first | exact trivial | refine ⟨rfl, ?_⟩)), ⟨_, orB_len _ _, hf4.first t6, hx4.of t6.2 hf.p.new, rfl⟩⟩
              · skip
                refine w_skip ?_
                exact ⟨_, (by repeat (first | exact trivial | refine ⟨rfl, ?_⟩)), ⟨_, rfl, hf4, hx4, rfl⟩⟩
        · obtain ⟨bs5, hl5, hf5, hx5, rfl⟩ := hJ
          refine w_seq ?_
          refine w_region (by kernel_rfl) ?_
          refine o_move gn rfl rfl ?_
          refine o_move gn rfl rfl ?_
          refine o_call [_, _] gn rfl rfl (by kernel_rfl) rfl (C.mono (c17 hf5.p.x hf5.p.r (tb.ext hx5) (by omega)) ?_)
          rintro v7 h7 ⟨rfl, x7⟩
          have hf7 := hf5.ext x7
          have hx7 := hx5.trans x7
          refine ⟨ag0, ?_⟩
          refine o_not gn rfl rfl ?_
          refine o_move gn rfl rfl ?_
          refine wl_split (dc := 89) rfl (fun hb89 => ?_) fun hb89 => ?_
          · skip
            simp at hb89
          · skip
            refine o_move (gy rfl rfl rfl hb89) rfl rfl ?_
            refine o_move (gy rfl rfl rfl hb89) rfl rfl ?_
            refine o_call [_, _] (gy rfl rfl rfl hb89) rfl rfl (by kernel_rfl) rfl (C.mono (c17 hf7.q.x hf7.q.r (tb.ext hx7) (by omega)) ?_)
            rintro v8 h8 ⟨rfl, x8⟩
            have hf8 := hf7.ext x8
            have hx8 := hx7.trans x8
            refine ⟨ag0, ?_⟩
            refine o_not (gy rfl rfl rfl hb89) rfl rfl ?_
            refine o_pickf gn rfl rfl hb89 rfl ?_
            refine o_move gn rfl rfl ?_
            refine o_or (n := 7) rfl rfl rfl gn rfl (fun hb => by
                refine o_move (gy rfl rfl rfl hb) rfl rfl ?_
                refine o_move (gy rfl rfl rfl hb) rfl rfl ?_
                refine o_call [_, _] (gy rfl rfl rfl hb) rfl rfl (by kernel_rfl) rfl (c_pure (c34' hf8.p.x hf8.q.x (by omega)) ⟨ag0, ?_⟩)
                refine o_move (gy rfl rfl rfl hb) rfl rfl ?_
                refine o_move (gy rfl rfl rfl hb) rfl rfl ?_
                refine o_call [_, _] (gy rfl rfl rfl hb) rfl rfl (by kernel_rfl) rfl (c_pure (c35' hf8.p.r hf8.q.r (by omega)) ⟨ag0, ?_⟩)
                refine o_neb (gy rfl rfl rfl hb) rfl rfl rfl (by kernel_rfl) ?_
                exact wl_end ⟨rfl, rfl, 7, rfl, rfl⟩) ?_
            refine o_move gn rfl rfl ?_
            refine o_or (n := 7) rfl rfl rfl gn rfl (fun hb => by
                refine o_move (gy rfl rfl rfl hb) rfl rfl ?_
                refine o_move (gy rfl rfl rfl hb) rfl rfl ?_
                refine o_call [_, _] (gy rfl rfl rfl hb) rfl rfl (by kernel_rfl) rfl (c_pure (c34' hf8.q.x hf8.p.x (by omega)) ⟨ag0, ?_⟩)
                refine o_move (gy rfl rfl rfl hb) rfl rfl ?_
                refine o_move (gy rfl rfl rfl hb) rfl rfl ?_
                refine o_call [_, _] (gy rfl rfl rfl hb) rfl rfl (by kernel_rfl) rfl (c_pure (c35' hf8.q.r hf8.p.r (by omega)) ⟨ag0, ?_⟩)
                refine o_neb (gy rfl rfl rfl hb) rfl rfl rfl (by kernel_rfl) ?_
                exact wl_end ⟨rfl, rfl, 7, rfl, rfl⟩) ?_
            refine o_move gn rfl rfl ?_
            refine wl_split (dc := 113) rfl (fun hb113 => ?_) fun hb113 => ?_
            · skip
              simp at hb113
            · skip
              refine o_move (gy rfl rfl rfl hb113) rfl rfl ?_
              refine o_move (gy rfl rfl rfl hb113) rfl rfl ?_
              refine o_call [_, _] (gy rfl rfl rfl hb113) rfl rfl (by kernel_rfl) rfl (C.mono (c12' hf8.p.x hf8.q.x (tb.ext hx8) (by omega) (by omega)) ?_)
              rintro v9 h9 ⟨rfl, x9⟩
              have hf9 := hf8.ext x9
              have hx9 := hx8.trans x9
              refine ⟨ag0, ?_⟩
              refine o_move (gy rfl rfl rfl hb113) rfl rfl ?_
              refine o_move (gy rfl rfl rfl hb113) rfl rfl ?_
              refine o_call [_, _] (gy rfl rfl rfl hb113) rfl rfl (by kernel_rfl) rfl (C.mono (c18' hf9.p.r hf9.q.r (by omega) (by omega)) ?_)
              rintro _ _ ⟨rfl, rfl⟩
              refine ⟨ag0, ?_⟩
              refine o_neb (gy rfl rfl rfl hb113) rfl rfl rfl (by kernel_rfl) ?_
              refine o_pickf gn rfl rfl hb113 rfl ?_
              refine o_move gn rfl rfl ?_
              refine wl_split (dc := 122) rfl (fun hb122 => ?_) fun hb122 => ?_
              · skip
                simp at hb122
              · skip
                refine o_move (gy rfl rfl rfl hb122) rfl rfl ?_
                refine o_move (gy rfl rfl rfl hb122) rfl rfl ?_
                refine o_call [_, _] (gy rfl rfl rfl hb122) rfl rfl (by kernel_rfl) rfl (C.mono (c12' hf9.q.x hf9.p.x (tb.ext hx9) (by omega) (by omega)) ?_)
                rintro v10 h10 ⟨rfl, x10⟩
                have hf10 := hf9.ext x10
                have hx10 := hx9.trans x10
                refine ⟨ag0, ?_⟩
                refine o_move (gy rfl rfl rfl hb122) rfl rfl ?_
                refine o_move (gy rfl rfl rfl hb122) rfl rfl ?_
                refine o_call [_, _] (gy rfl rfl rfl hb122) rfl rfl (by kernel_rfl) rfl (C.mono (c18' hf10.p.r hf10.q.r (by omega) (by omega)) ?_)
                rintro _ _ ⟨rfl, rfl⟩
                rw [sameD_comm bm bs5]
                refine ⟨ag0, ?_⟩
                refine o_neb (gy rfl rfl rfl hb122) rfl rfl rfl (by kernel_rfl) ?_
                refine o_pickf gn rfl rfl hb122 rfl ?_
                refine wl_end ?_
                refine w_cond rfl (fun hb => ?_) fun hb => ?_
                · skip
                  refine w_seq ?_
                  refine w_region (by kernel_rfl) ?_
                  refine o_assign gn rfl rfl ?_
                  refine wl_end ?_
                  refine w_ret ?_
                  refine ⟨.inl rfl, _, rfl, ?_⟩
                  simp at hb
                · skip
                  refine w_skip ?_
                  refine w_region (by kernel_rfl) ?_
                  refine o_move gn rfl rfl ?_
                  refine o_add gn rfl rfl rfl (by omega) (by omega) ?_
                  refine o_assign gn rfl rfl ?_
                  refine wl_end ?_
                  exact ⟨(n3 - (i + 1)).toNat, by omega, _, (by repeat (first | exact trivial | refine ⟨rfl, ?_⟩)), ⟨i + 1, bs5, by omega, by omega, rfl, by omega, hf10, hx10, rfl⟩⟩
      · skip
        refine w_exit ?_
        refine thn_exit ?_
        refine rnd_exit ?_
        refine blk_eq ?_
        refine w_seq ?_
        refine w_region (by kernel_rfl) ?_
        refine o_orc (f := 8) (v := .bool true) gn rfl (by kernel_rfl) (by kernel_rfl) ag0 ?_
        refine o_assign gn rfl rfl ?_
        refine wl_end ?_
        refine w_ret ?_
        refine ⟨.inl rfl, _, rfl, ?_⟩
        rfl

end Go.Proofs.YtgcapnlfkomgpaaDoor


namespace Go.Proofs.YtgcapnlfkomgpaaDoor
open Go.ChangeShapes Go.WideShapes Go.ChangeAt Go.RowKit Go.Deep Go.X

set_option maxRecDepth 100000

theorem bits_int : Tryd.prog.underlying 3 = some (.int .i64) := by kernel_rfl
theorem bits_bool : Tryd.prog.underlying 4 = some .bool := by kernel_rfl
theorem bits_own : ownKnob Tryd.prog.godebug = none := by kernel_rfl
theorem bits_laid : laidOutB Tryd.prog = true := by kernel_rfl
theorem bits_c3 : Tryd.prog.cellsOf 3 = 1 := by kernel_rfl
theorem bits_ints : Tryd.prog.underlying 22 = some (.slice 3) := by kernel_rfl
theorem bits_named : Tryd.prog.globalNamed "math/bits.deBruijn64tab" = some 0 := by kernel_rfl
theorem bits_type : (Tryd.prog.globals[0]?).map (·.type) = some 81 := by kernel_rfl
theorem bits_arr : Tryd.prog.underlying 81 = some (.array 64 5) := by kernel_rfl
theorem bits_u8 : Tryd.prog.underlying 5 = some (.int .u8) := by kernel_rfl
theorem bits_cell : Tryd.prog.cellsOf 5 = 1 := by kernel_rfl
theorem bits_cells : Tryd.prog.cellsOf 81 = 64 := by kernel_rfl

theorem tab_all {W : World} (h : laidMetH Tryd.prog Rows.bitsPlaysRow.laid W) : Tab (Hp.all W) := by
  have hT : Lib.TabIs Tryd.prog W "math/bits.deBruijn64tab" .u8 (Lib.deBruijn64tab.map fun (n : Nat) => (n : Int)) :=
    Lib.tabIs_of_head bits_named bits_type bits_arr bits_u8 bits_cell bits_cells (rest := []) (laidMetH_iff.1 h).1
  obtain ⟨e, fr, hg⟩ := tab_block bits_named hT
  refine ⟨by have := topB_256 W; show 0 < topB W; omega, e, 1, ?_⟩
  rw [Hp.all_get, allObj, hg]
  simp only [List.map_map, Option.some.injEq, AObj.cells.injEq, and_true]
  refine List.map_congr_left fun n _ => ?_
  exact selfX_eq (.int _ _)

/-- A slice of numbers. -/
theorem ints_arg {H : Type} {enc : TypeId × Value → H} {W : World} {r : Reach} {base : Nat} {v : Value} {d : DataW H} {ps : List MemPlace} (hok : Value.okWide Tryd.prog W r base 22 v) (h : DataW.Trod enc Tryd.prog W 0 (fun _ => true) true 22 v d ps) :
    ∃ a c, ∃ xs : List Int, v = .slice a xs.length c ∧ VRel (Mp.all W) v v ∧ Src (Hp.all W) (.slice a xs.length c) (isV xs) := by
  obtain ⟨hv, _, _, _, _, x⟩ := arg_rd_slice bits_ints hok h
  obtain ⟨a, n, c, e, _, _, xs, rfl, hs, _⟩ := x.ints bits_ints bits_int bits_c3
  simp only [List.cons.injEq, and_true] at e
  subst e
  exact ⟨a, c, xs, rfl, hv, hs⟩

theorem bits_door (os : Os) (args : Array Value) : laidMetH Tryd.prog Rows.bitsPlaysRow.laid (((World.doorLaid Tryd.prog 400 os).forCall (fun _ _ => 0) ⟨#[], args, []⟩).memory) :=
  laidMetH_of_parts3 (fuel := 8) (laidMet_of_run' 8 (by kernel_rfl) (by kernel_rfl)) (by kernel_rfl) (by kernel_rfl)

end Go.Proofs.YtgcapnlfkomgpaaDoor
