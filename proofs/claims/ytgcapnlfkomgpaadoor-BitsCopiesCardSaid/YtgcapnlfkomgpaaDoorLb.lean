/- BitsPlays, in the calculus. Conditions: math/bits' table lies in the memory. Three rules more: a sum that may wrap, a slice up to a number, the first items of a row. Conditions: none. BitsCopies, in the calculus. Conditions: math/bits' table lies in the memory. Chapter 17: the arguments of its laws and math/bits' table, as X has them. Conditions: none. -/
import Derived.Test.YtgcapnlfkomgpaaDoorLa
import Derived.Test.YtgcapnlfkomgpaaDoorXc
import Derived.Test.YtgcapnlfkomgpaaDoorTie
import Derived.Test.YtgcapnlfkomgpaaDoorCards
import Derived.SevenTiedAt
import Derived.LaidMore
import Derived.LaidHandle
import Derived.ProofKit
namespace Go.Proofs.YtgcapnlfkomgpaaDoor
open Go.X

theorem of_iff {t : Bool} {p : Prop} (h : t = true ↔ p) : t = @decide p (Classical.propDecidable p) := by
  rw [Bool.eq_iff_iff, h]; simp

noncomputable def sameD (a b : List Bool) : Bool := @decide (SameB a b) (Classical.propDecidable _)
theorem sameD_comm (a b : List Bool) : sameD a b = sameD b a := by
  rw [Bool.eq_iff_iff]
  simp only [sameD, decide_eq_true_eq]
  exact ⟨fun h k => (h k).symm, fun h k => (h k).symm⟩
noncomputable def meetD (a b : List Bool) : Bool := @decide (∃ k, bget a k = true ∧ bget b k = true) (Classical.propDecidable _)
noncomputable def cameD (a b : List Bool) : Bool := @decide (Came a b) (Classical.propDecidable _)

section
variable {h : Hp} {b bo : Nat} {bs obs : List Bool} {own oo B Bo : List Nat} {s so : Value}

theorem c12' (x : SAt h b bs own) (o : SAt h bo obs oo) (tb : Tab h) (hn : bs.length ≤ 100000) (hno : obs.length ≤ 100000) :
    C bitsE 12 [ptrV b, ptrV bo] h fun v h' => v = .bool (sameD bs obs) ∧ Ext h h' :=
  (c12 x o tb hn hno).mono fun v h' ⟨e, t, ev, ht⟩ => ⟨by rw [ev, of_iff ht]; rfl, e⟩
theorem c18' (x : RefS h s bs B) (o : RefS h so obs Bo) (hn : bs.length ≤ 100000) (hno : obs.length ≤ 100000) : CP bitsE 18 [s, so] h (.bool (sameD bs obs)) :=
  (c18 x o hn hno).mono fun v h' ⟨e, t, ev, ht⟩ => ⟨by rw [ev, of_iff ht]; rfl, e⟩
theorem c34' (x : SAt h b bs own) (o : SAt h bo obs oo) (hn : bs.length ≤ 100000) : CP bitsE 34 [ptrV b, ptrV bo] h (.bool (meetD bs obs)) :=
  (c34 x o hn).mono fun v h' ⟨e, t, ev, ht⟩ => ⟨by rw [ev, of_iff ht]; rfl, e⟩
theorem c35' (x : RefS h s bs B) (o : RefS h so obs Bo) (hn : bs.length ≤ 100000) : CP bitsE 35 [s, so] h (.bool (meetD bs obs)) :=
  (c35 x o hn).mono fun v h' ⟨e, t, ev, ht⟩ => ⟨by rw [ev, of_iff ht]; rfl, e⟩
theorem c33' (x : SAt h b bs own) (o : SAt h bo obs oo) (hd : ∀ i, i ∈ oo → i ∉ own) (hn : bs.length ≤ 100000) :
    C bitsE 33 [ptrV b, ptrV bo] h fun v h' => v = .bool (cameD bs obs) ∧ SAt h' b (orB bs obs) own ∧ ExtB own h h' :=
  (c33 x o hd hn).mono fun v h' ⟨t, ev, ht, p⟩ => ⟨by rw [ev, of_iff ht]; rfl, p⟩
theorem c32' (x : RefS h s bs B) (o : RefS h so obs Bo) (hd : ∀ i, i ∈ Bo → i ∉ B) (hn : bs.length ≤ 90000) :
    C bitsE 32 [s, so] h fun v h' => v = .bool (cameD bs obs) ∧ RefS h' s (orB bs obs) B ∧ ExtB B h h' :=
  (c32 x o hd hn).mono fun v h' ⟨t, ev, ht, p⟩ => ⟨by rw [ev, of_iff ht]; rfl, p⟩
theorem c7' {n : Int} {a : Option Addr} {c : Nat} {xs : List Int} (hs : Src h (.slice a xs.length c) (isV xs)) :
    C bitsE 7 [iV n, .slice a xs.length c] h fun v h' => Ext h h' ∧ ∃ p s ok, v = .tuple #[p, s, .bool ok] ∧ (ok = true → n ≤ 600 ∧ ∃ b own B, p = ptrV b ∧ TwoS h.n h' b s (ofB n xs) own B) :=
  (c7 hs).mono fun v h' ⟨e, q⟩ => ⟨e, by
    rcases q with rfl | ⟨hn, b, s, own, B, rfl, t⟩
    · exact ⟨_, _, _, rfl, fun hh => by cases hh⟩
    · exact ⟨_, _, _, rfl, fun _ => ⟨hn, b, own, B, rfl, t⟩⟩⟩
end

/-- Two sets, each as the program and as the document has it; all apart. -/
structure Four (n0 : Nat) (h : Hp) (b : Nat) (s : Value) (bs : List Bool) (own B : List Nat) (b2 : Nat) (s2 : Value) (bs2 : List Bool) (own2 B2 : List Nat) : Prop where
  p : TwoS n0 h b s bs own B
  q : TwoS n0 h b2 s2 bs2 own2 B2
  d : ∀ i, i ∈ own ++ B → i ∉ own2 ∧ i ∉ B2
section
variable {n0 n1 : Nat} {h h' : Hp} {b : Nat} {s : Value} {bs bs' : List Bool} {own B : List Nat} {b2 : Nat} {s2 : Value} {bs2 : List Bool} {own2 B2 : List Nat}
theorem Four.ext (t : Four n0 h b s bs own B b2 s2 bs2 own2 B2) (g : Ext h h') : Four n0 h' b s bs own B b2 s2 bs2 own2 B2 := ⟨t.p.ext g, t.q.ext g, t.d⟩
theorem Four.first (t : Four n0 h b s bs own B b2 s2 bs2 own2 B2) (p : TwoS n0 h' b s bs' own B ∧ ExtB (own ++ B) h h') : Four n0 h' b s bs' own B b2 s2 bs2 own2 B2 :=
  ⟨p.1, t.q.keep p.2 (fun i hi hj => (t.d i hj).1 hi) (fun i hi hj => (t.d i hj).2 hi), t.d⟩
theorem TwoS.new (t : TwoS n0 h b s bs own B) : ∀ i, i ∈ own ++ B → n0 ≤ i := fun i hi => by
  rcases List.mem_append.1 hi with hi | hi
  · exact t.on i hi
  · exact t.bn i hi
theorem TwoS.lt' (t : TwoS n0 h b s bs own B) : ∀ i, i ∈ own ++ B → i < h.n := fun i hi => t.lt i (List.mem_append.1 hi)
theorem TwoS.less (t : TwoS n1 h b s bs own B) (hn : n0 ≤ n1) : TwoS n0 h b s bs own B := ⟨t.x, t.r, t.ap, fun i hi => Nat.le_trans hn (t.on i hi), fun i hi => Nat.le_trans hn (t.bn i hi)⟩
theorem four_new (t1 : TwoS n0 h b s bs own B) (x : Ext h h') (hn : n0 ≤ h.n) (t2 : TwoS h.n h' b2 s2 bs2 own2 B2) : Four n0 h' b s bs own B b2 s2 bs2 own2 B2 :=
  ⟨t1.ext x, t2.less hn, fun i hi => by
    have h1 := t1.lt' i hi
    exact ⟨fun hj => by have := t2.on i hj; omega, fun hj => by have := t2.bn i hj; omega⟩⟩
end

/-- Acts, as they lie in memory. -/
def ActsB (h : Hp) (a : Option Addr) (n : Nat) : Prop :=
  n = 0 ∨ ∃ bb oo cs e m, a = some ⟨bb, oo, none⟩ ∧ h.get bb = some (.cells cs e m) ∧ bb < h.n ∧
    ∀ i, i < n → oo + i * 2 + 2 ≤ cs.length ∧ ∃ kd ii, (cs.drop (oo + i * 2)).take 2 = [iV kd, iV ii]

/-- BitsPlays -/
theorem c6 {h : Hp} {n m : Int} {a a3 : Option Addr} {c n3 c3 : Nat} {xs : List Int} (tb : Tab h) (hs : Src h (.slice a xs.length c) (isV xs)) (hA : ActsB h a3 n3) :
    C bitsE 6 [iV n, iV m, .slice a xs.length c, .slice a3 n3 c3] h fun v _ => v = .bool true := by
  refine c_enter (fu := Tryd.f6) (by kernel_rfl) rfl ?_
  refine w_seq ?_
  refine w_region (by kernel_rfl) ?_
  refine o_assign gn rfl rfl ?_
  refine wl_end ?_
  refine w_seq ?_
  refine w_region (by kernel_rfl) ?_
  refine o_move gn rfl rfl ?_
  refine o_call [_, _] gn rfl rfl (by kernel_rfl) rfl (C.mono (c7' (a := none) (c := 0) (xs := []) ⟨rfl, rfl, rfl, fun a n c e => by cases e⟩) ?_)
  rintro v1 h1 ⟨x1, p1, s, ok1, rfl, q1⟩
  refine ⟨ag0, ?_⟩
  refine o_move gn rfl rfl ?_
  refine o_extract gn rfl rfl rfl ?_
  refine o_extract gn rfl rfl rfl ?_
  refine o_extract gn rfl rfl rfl ?_
  refine o_assign gn rfl rfl ?_
  refine o_assign gn rfl rfl ?_
  refine o_assign gn rfl rfl ?_
  refine wl_end ?_
  refine w_seq ?_
  refine w_region (by kernel_rfl) ?_
  refine o_move gn rfl rfl ?_
  refine o_move gn rfl rfl ?_
  refine o_call [_, _] gn rfl rfl (by kernel_rfl) rfl (C.mono (c7' (hs.ext x1)) ?_)
  rintro v2 h2 ⟨x2, p2, s2, ok2, rfl, q2⟩
  refine ⟨ag0, ?_⟩
  refine o_move gn rfl rfl ?_
  refine o_extract gn rfl rfl rfl ?_
  refine o_extract gn rfl rfl rfl ?_
  refine o_extract gn rfl rfl rfl ?_
  refine o_assign gn rfl rfl ?_
  refine o_assign gn rfl rfl ?_
  refine o_assign gn rfl rfl ?_
  refine wl_end ?_
  refine w_seq ?_
  refine w_seq ?_
  refine w_region (by kernel_rfl) ?_
  refine o_move gn rfl rfl ?_
  refine o_not gn rfl rfl ?_
  refine o_move gn rfl rfl ?_
  refine o_or (n := 2) rfl rfl rfl gn rfl (fun hb => by
      refine o_move (gy rfl rfl rfl hb) rfl rfl ?_
      refine o_not (gy rfl rfl rfl hb) rfl rfl ?_
      exact wl_end ⟨rfl, rfl, 2, rfl, rfl⟩) ?_
  refine o_move gn rfl rfl ?_
  refine o_or (n := 3) rfl rfl rfl gn rfl (fun hb => by
      refine o_move (gy rfl rfl rfl hb) rfl rfl ?_
      refine o_len (gy rfl rfl rfl hb) rfl rfl (by kernel_rfl) ?_
      refine o_gtr (gy rfl rfl rfl hb) rfl rfl rfl ?_
      exact wl_end ⟨rfl, rfl, 3, rfl, rfl⟩) ?_
  refine wl_end ?_
  refine w_cond rfl (fun hb => ?_) fun hb => ?_
  · skip
    refine w_seq ?_
    refine w_region (by kernel_rfl) ?_
    refine o_orc (f := 8) (v := .bool true) gn rfl (by kernel_rfl) (by kernel_rfl) ag0 ?_
    refine o_assign gn rfl rfl ?_
    refine wl_end ?_
    refine w_ret ?_
    refine ⟨.inl rfl, _, rfl, ?_⟩
    rfl
  · skip
    have hq : ok1 = true ∧ ok2 = true ∧ n3 ≤ 60 := by revert hb; cases ok1 <;> cases ok2 <;> simp <;> omega
    obtain ⟨rfl, rfl, hal⟩ := hq
    obtain ⟨hn, b, own, B, rfl, t1⟩ := q1 rfl
    obtain ⟨hm, b2, own2, B2, rfl, t2⟩ := q2 rfl
    have f0 := four_new t1 x2 x1.n t2
    have hl0 : (ofB n []).length ≤ 600 := by rw [ofB_len]; omega
    have hlm : (ofB m xs).length ≤ 600 := by rw [ofB_len]; omega
    generalize ofB n [] = bs0 at *
    generalize ofB m xs = bm at *
    refine w_skip ?_
    refine w_seq ?_
    refine w_seq ?_
    refine w_region (by kernel_rfl) ?_
    refine o_assign gn rfl rfl ?_
    refine wl_end ?_
    refine w_block ?_
    refine w_weak [(3, .slice a3 n3 c3), (9, ptrV b), (10, s), (12, ptrV b2), (13, s2), (15, iV 0)] (by repeat (first | exact trivial | refine ⟨rfl, ?_⟩)) ?_
    refine w_loop (fun k l hh => ∃ (i : Int) (bs : List Bool), 0 ≤ i ∧ i ≤ n3 ∧ k = (n3 - i).toNat ∧ bs.length ≤ 600 ∧ Four h.n hh b s bs own B b2 s2 bm own2 B2 ∧ Ext h hh ∧ l = [(3, .slice a3 n3 c3), (9, ptrV b), (10, s), (12, ptrV b2), (13, s2), (15, iV i)]) (n := (n3 - (0 : Int)).toNat) ?_ fun k l hh hI => ?_
    · exact ⟨0, _, by omega, by omega, rfl, hl0, f0, x1.trans x2, rfl⟩
    · obtain ⟨i, bs, hi0, hi1, rfl, hbl, hf, hx, rfl⟩ := hI
      refine w_seq ?_
      refine w_seq ?_
      refine w_region (by kernel_rfl) ?_
      refine o_move gn rfl rfl ?_
      refine o_move gn rfl rfl ?_
      refine o_len gn rfl rfl (by kernel_rfl) ?_
      refine o_lss gn rfl rfl rfl ?_
      refine wl_end ?_
      refine w_cond rfl (fun hb => ?_) fun hb => ?_
      · skip
        have hlt : i < n3 := by simpa using hb
        rcases hA with h0 | ⟨bb, oo, cs, e, mm, rfl, hg, hbb, hall⟩
        · omega
        obtain ⟨hfit, kd, ii, hrow⟩ := hall i.toNat (by omega)
        have hg2 := (hx.get bb hbb).trans hg
        refine w_skip ?_
        refine w_seq ?_
        refine w_block ?_
        refine w_seq ?_
        refine w_region (by kernel_rfl) ?_
        refine o_move gn rfl rfl ?_
        refine o_move gn rfl rfl ?_
        refine o_indexAddr (zz := 2) gn rfl rfl rfl (by kernel_rfl) (by omega) (by omega) ?_
        refine o_loadA (n := 2) gn rfl rfl (by kernel_rfl) (by kernel_rfl) hg2 hfit ?_
        rw [hrow]
        refine o_alloc (zv := .agg #[.int .i64 0, .int .i64 0]) gn rfl (by kernel_rfl) ?_
        refine o_storeA (n := 2) gn rfl rfl rfl (by kernel_rfl) rfl (Hp.get_alloc_self _ _) (by decide) rfl ag0 ?_
        refine wl_at (fun h4 => h4.get hh.n = some (.cells [iV kd, iV ii] 61 0) ∧ Ext hh h4 ∧ h4.n = hh.n + 1) ⟨Hp.get_put_self _ _ _, (Ext.alloc hh _).of (ExtB.put _ _ _) (by simp), by rw [Hp.n_put, Hp.n_alloc]⟩ fun h4 ⟨g4, x4, n4⟩ => ?_
        have hf4 := hf.ext x4
        have hx4 := hx.trans x4
        refine wl_end ?_
        refine w_cut (fun l hh => ∃ bs', bs'.length = bs.length ∧ Four h.n hh b s bs' own B b2 s2 bm own2 B2 ∧ Ext h hh ∧ l = [(3, .slice (some ⟨bb, oo, none⟩) n3 c3), (9, ptrV b), (10, s), (12, ptrV b2), (13, s2), (15, iV i)]) ?_ fun l hh hJ => ?_
        · skip
          refine w_seq ?_
          refine w_region (by kernel_rfl) ?_
          refine o_fieldAddr (off := 0) gn rfl rfl (by kernel_rfl) ?_
          refine o_load gn rfl rfl (by kernel_rfl) (by assumption) rfl ?_
          refine wl_end ?_
          refine w_block ?_
          refine w_seq ?_
          refine w_region (by kernel_rfl) ?_
          refine o_eqi gn rfl rfl rfl ?_
          refine o_assign gn rfl rfl ?_
          refine wl_end ?_
          refine w_cond rfl (fun hb => ?_) fun hb => ?_
          · skip
            refine w_seq ?_
            refine w_draw [(0, []), (1, []), (2, []), (4, []), (5, []), (6, []), (3, [6]), (7, []), (8, [])] (by kernel_rfl) (by kernel_rfl) (by kernel_rfl) (by kernel_rfl) ?_
            refine o_move gn rfl rfl ?_
            refine o_fieldAddr (off := 1) gn rfl rfl (by kernel_rfl) ?_
            refine o_load gn rfl rfl (by kernel_rfl) (by assumption) rfl ?_
            refine o_move gn rfl rfl ?_
            refine o_fieldAddr (off := 1) gn rfl rfl (by kernel_rfl) ?_
            refine o_load gn rfl rfl (by kernel_rfl) (by assumption) rfl ?_
            refine o_call [_, _] gn rfl rfl (by kernel_rfl) rfl (C.mono (c13 hf4.p.x (by omega)) ?_)
            rintro v5 h5 ⟨rfl, xa5, g5⟩
            have gl5 := (g5.get hh.n (by omega) (fun hm => by have := hf.p.lt _ (.inl hm); omega)).trans g4
            refine ⟨(ag1 (ag_load gn rfl (by kernel_rfl) (by assumption) rfl rfl same_int) ag0), ?_⟩
            refine o_call [_, _] gn rfl rfl (by kernel_rfl) rfl (C.mono (c14 (hf4.p.r.keep g5 fun i hi hj => hf.p.ap i hj hi)) ?_)
            rintro v6 h6 ⟨rfl, rb6, g6⟩
            have t6 := hf4.p.both xa5 g5 rb6 g6
            refine ⟨ag0, ?_⟩
            refine o_neb gn rfl rfl rfl (by kernel_rfl) ?_
            refine wl_end ?_
            refine w_cond rfl (fun hb => ?_) fun hb => ?_
            · skip
              refine w_seq ?_
              refine w_region (by kernel_rfl) ?_
              refine o_assign gn rfl rfl ?_
              refine wl_end ?_
              refine w_ret ?_
              refine ⟨.inl rfl, _, rfl, ?_⟩
              simp at hb
            · skip
              refine w_skip ?_
              exact ⟨_, (by repeat (first | exact trivial | refine ⟨rfl, ?_⟩)), ⟨_, addO_len _ _, hf4.first t6, hx4.of t6.2 hf.p.new, rfl⟩⟩
          · skip
            refine w_seq ?_
            refine w_region (by kernel_rfl) ?_
            refine o_eqi gn rfl rfl rfl ?_
            refine o_assign gn rfl rfl ?_
            refine wl_end ?_
            refine w_cond rfl (fun hb => ?_) fun hb => ?_
            · skip
              refine w_seq ?_
              refine w_draw [(0, []), (1, []), (2, []), (4, []), (5, []), (6, []), (3, [6]), (7, []), (8, [])] (by kernel_rfl) (by kernel_rfl) (by kernel_rfl) (by kernel_rfl) ?_
              refine o_move gn rfl rfl ?_
              refine o_fieldAddr (off := 1) gn rfl rfl (by kernel_rfl) ?_
              refine o_load gn rfl rfl (by kernel_rfl) (by assumption) rfl ?_
              refine o_move gn rfl rfl ?_
              refine o_fieldAddr (off := 1) gn rfl rfl (by kernel_rfl) ?_
              refine o_load gn rfl rfl (by kernel_rfl) (by assumption) rfl ?_
              refine o_call [_, _] gn rfl rfl (by kernel_rfl) rfl (C.mono (c15 hf4.p.x (by omega)) ?_)
              rintro v5 h5 ⟨rfl, xa5, g5⟩
              have gl5 := (g5.get hh.n (by omega) (fun hm => by have := hf.p.lt _ (.inl hm); omega)).trans g4
              refine ⟨(ag1 (ag_load gn rfl (by kernel_rfl) (by assumption) rfl rfl same_int) ag0), ?_⟩
              refine o_call [_, _] gn rfl rfl (by kernel_rfl) rfl (C.mono (c16 (hf4.p.r.keep g5 fun i hi hj => hf.p.ap i hj hi)) ?_)
              rintro v6 h6 ⟨rfl, rb6, g6⟩
              have t6 := hf4.p.both xa5 g5 rb6 g6
              refine ⟨ag0, ?_⟩
              refine o_neb gn rfl rfl rfl (by kernel_rfl) ?_
              refine wl_end ?_
              refine w_cond rfl (fun hb => ?_) fun hb => ?_
              · skip
                refine w_seq ?_
                refine w_region (by kernel_rfl) ?_
                refine o_assign gn rfl rfl ?_
                refine wl_end ?_
                refine w_ret ?_
                refine ⟨.inl rfl, _, rfl, ?_⟩
                simp at hb
              · skip
                refine w_skip ?_
                exact ⟨_, (by repeat (first | exact trivial | refine ⟨rfl, ?_⟩)), ⟨_, dropO_len _ _, hf4.first t6, hx4.of t6.2 hf.p.new, rfl⟩⟩
            · skip
              refine w_seq ?_
              refine w_region (by kernel_rfl) ?_
              refine o_eqi gn rfl rfl rfl ?_
              refine o_assign gn rfl rfl ?_
              refine wl_end ?_
              refine w_cond rfl (fun hb => ?_) fun hb => ?_
              · skip
                refine w_seq ?_
                refine w_region (by kernel_rfl) ?_
                refine o_move gn rfl rfl ?_
                refine o_move gn rfl rfl ?_
                refine o_call [_, _] gn rfl rfl (by kernel_rfl) rfl (C.mono (c33' hf4.p.x hf4.q.x (fun i hi hj => (hf.d i (List.mem_append.2 (.inl hj))).1 hi) (by omega)) ?_)
                rintro v5 h5 ⟨rfl, xa5, g5⟩
                refine ⟨ag0, ?_⟩
                refine o_move gn rfl rfl ?_
                refine o_move gn rfl rfl ?_
                refine o_call [_, _] gn rfl rfl (by kernel_rfl) rfl (C.mono (c32' (hf4.p.r.keep g5 fun i hi hj => hf.p.ap i hj hi) (hf4.q.r.keep g5 fun i hi hj => (hf.d i (List.mem_append.2 (.inl hj))).2 hi) (fun i hi hj => (hf.d i (List.mem_append.2 (.inr hj))).2 hi) (by omega)) ?_)
                rintro v6 h6 ⟨rfl, rb6, g6⟩
                have t6 := hf4.p.both xa5 g5 rb6 g6
                refine ⟨ag0, ?_⟩
                refine o_neb gn rfl rfl rfl (by kernel_rfl) ?_
                refine wl_end ?_
                refine w_cond rfl (fun hb => ?_) fun hb => ?_
                · skip
                  refine w_seq ?_
                  refine w_region (by kernel_rfl) ?_
                  refine o_assign gn rfl rfl ?_
                  refine wl_end ?_
                  refine w_ret ?_
                  refine ⟨.inl rfl, _, rfl, ?_⟩
                  simp at hb
                · skip
                  refine w_skip ?_
                  exact ⟨_, (by repeat (first | exact trivial | refine ⟨rfl, ?_⟩)), ⟨_, orB_len _ _, hf4.first t6, hx4.of t6.2 hf.p.new, rfl⟩⟩
              · skip
                refine w_skip ?_
                exact ⟨_, (by repeat (first | exact trivial | refine ⟨rfl, ?_⟩)), ⟨_, rfl, hf4, hx4, rfl⟩⟩
        · obtain ⟨bs5, hl5, hf5, hx5, rfl⟩ := hJ
          refine w_seq ?_
          refine w_region (by kernel_rfl) ?_
          refine o_move gn rfl rfl ?_
          refine o_move gn rfl rfl ?_
          refine o_call [_, _] gn rfl rfl (by kernel_rfl) rfl (C.mono (c17 hf5.p.x hf5.p.r (tb.ext hx5) (by omega)) ?_)
          rintro v7 h7 ⟨rfl, x7⟩
          have hf7 := hf5.ext x7
          have hx7 := hx5.trans x7
          refine ⟨ag0, ?_⟩
          refine o_not gn rfl rfl ?_
          refine o_move gn rfl rfl ?_
          refine wl_split (dc := 89) rfl (fun hb89 => ?_) fun hb89 => ?_
          · skip
            simp at hb89
          · skip
            refine o_move (gy rfl rfl rfl hb89) rfl rfl ?_
            refine o_move (gy rfl rfl rfl hb89) rfl rfl ?_
            refine o_call [_, _] (gy rfl rfl rfl hb89) rfl rfl (by kernel_rfl) rfl (C.mono (c17 hf7.q.x hf7.q.r (tb.ext hx7) (by omega)) ?_)
            rintro v8 h8 ⟨rfl, x8⟩
            have hf8 := hf7.ext x8
            have hx8 := hx7.trans x8
            refine ⟨ag0, ?_⟩
            refine o_not (gy rfl rfl rfl hb89) rfl rfl ?_
            refine o_pickf gn rfl rfl hb89 rfl ?_
            refine o_move gn rfl rfl ?_
            refine o_or (n := 7) rfl rfl rfl gn rfl (fun hb => by
                refine o_move (gy rfl rfl rfl hb) rfl rfl ?_
                refine o_move (gy rfl rfl rfl hb) rfl rfl ?_
                refine o_call [_, _] (gy rfl rfl rfl hb) rfl rfl (by kernel_rfl) rfl (c_pure (c34' hf8.p.x hf8.q.x (by omega)) ⟨ag0, ?_⟩)
                refine o_move (gy rfl rfl rfl hb) rfl rfl ?_
                refine o_move (gy rfl rfl rfl hb) rfl rfl ?_
                refine o_call [_, _] (gy rfl rfl rfl hb) rfl rfl (by kernel_rfl) rfl (c_pure (c35' hf8.p.r hf8.q.r (by omega)) ⟨ag0, ?_⟩)
                refine o_neb (gy rfl rfl rfl hb) rfl rfl rfl (by kernel_rfl) ?_
                exact wl_end ⟨rfl, rfl, 7, rfl, rfl⟩) ?_
            refine o_move gn rfl rfl ?_
            refine o_or (n := 7) rfl rfl rfl gn rfl (fun hb => by
                refine o_move (gy rfl rfl rfl hb) rfl rfl ?_
                refine o_move (gy rfl rfl rfl hb) rfl rfl ?_
                refine o_call [_, _] (gy rfl rfl rfl hb) rfl rfl (by kernel_rfl) rfl (c_pure (c34' hf8.q.x hf8.p.x (by omega)) ⟨ag0, ?_⟩)
                refine o_move (gy rfl rfl rfl hb) rfl rfl ?_
                refine o_move (gy rfl rfl rfl hb) rfl rfl ?_
                refine o_call [_, _] (gy rfl rfl rfl hb) rfl rfl (by kernel_rfl) rfl (c_pure (c35' hf8.q.r hf8.p.r (by omega)) ⟨ag0, ?_⟩)
                refine o_neb (gy rfl rfl rfl hb) rfl rfl rfl (by kernel_rfl) ?_
                exact wl_end ⟨rfl, rfl, 7, rfl, rfl⟩) ?_
            refine o_move gn rfl rfl ?_
            refine wl_split (dc := 113) rfl (fun hb113 => ?_) fun hb113 => ?_
            · skip
              simp at hb113
            · skip
              refine o_move (gy rfl rfl rfl hb113) rfl rfl ?_
              refine o_move (gy rfl rfl rfl hb113) rfl rfl ?_
              refine o_call [_, _] (gy rfl rfl rfl hb113) rfl rfl (by kernel_rfl) rfl (C.mono (c12' hf8.p.x hf8.q.x (tb.ext hx8) (by omega) (by omega)) ?_)
              rintro v9 h9 ⟨rfl, x9⟩
              have hf9 := hf8.ext x9
              have hx9 := hx8.trans x9
              refine ⟨ag0, ?_⟩
              refine o_move (gy rfl rfl rfl hb113) rfl rfl ?_
              refine o_move (gy rfl rfl rfl hb113) rfl rfl ?_
              refine o_call [_, _] (gy rfl rfl rfl hb113) rfl rfl (by kernel_rfl) rfl (C.mono (c18' hf9.p.r hf9.q.r (by omega) (by omega)) ?_)
              rintro _ _ ⟨rfl, rfl⟩
              refine ⟨ag0, ?_⟩
              refine o_neb (gy rfl rfl rfl hb113) rfl rfl rfl (by kernel_rfl) ?_
              refine o_pickf gn rfl rfl hb113 rfl ?_
              refine o_move gn rfl rfl ?_
              refine wl_split (dc := 122) rfl (fun hb122 => ?_) fun hb122 => ?_
              · skip
                simp at hb122
              · skip
                refine o_move (gy rfl rfl rfl hb122) rfl rfl ?_
                refine o_move (gy rfl rfl rfl hb122) rfl rfl ?_
                refine o_call [_, _] (gy rfl rfl rfl hb122) rfl rfl (by kernel_rfl) rfl (C.mono (c12' hf9.q.x hf9.p.x (tb.ext hx9) (by omega) (by omega)) ?_)
                rintro v10 h10 ⟨rfl, x10⟩
                have hf10 := hf9.ext x10
                have hx10 := hx9.trans x10
                refine ⟨ag0, ?_⟩
                refine o_move (gy rfl rfl rfl hb122) rfl rfl ?_
                refine o_move (gy rfl rfl rfl hb122) rfl rfl ?_
                refine o_call [_, _] (gy rfl rfl rfl hb122) rfl rfl (by kernel_rfl) rfl (C.mono (c18' hf10.p.r hf10.q.r (by omega) (by omega)) ?_)
                rintro _ _ ⟨rfl, rfl⟩
                rw [sameD_comm bm bs5]
                refine ⟨ag0, ?_⟩
                refine o_neb (gy rfl rfl rfl hb122) rfl rfl rfl (by kernel_rfl) ?_
                refine o_pickf gn rfl rfl hb122 rfl ?_
                refine wl_end ?_
                refine w_cond rfl (fun hb => ?_) fun hb => ?_
                · skip
                  refine w_seq ?_
                  refine w_region (by kernel_rfl) ?_
                  refine o_assign gn rfl rfl ?_
                  refine wl_end ?_
                  refine w_ret ?_
                  refine ⟨.inl rfl, _, rfl, ?_⟩
                  simp at hb
                · skip
                  refine w_skip ?_
                  refine w_region (by kernel_rfl) ?_
                  refine o_move gn rfl rfl ?_
                  refine o_add gn rfl rfl rfl (by omega) (by omega) ?_
                  refine o_assign gn rfl rfl ?_
                  refine wl_end ?_
                  exact ⟨(n3 - (i + 1)).toNat, by omega, _, (by repeat (first | exact trivial | refine ⟨rfl, ?_⟩)), ⟨i + 1, bs5, by omega, by omega, rfl, by omega, hf10, hx10, rfl⟩⟩
      · skip
        refine w_exit ?_
        refine thn_exit ?_
        refine rnd_exit ?_
        refine blk_eq ?_
        refine w_seq ?_
        refine w_region (by kernel_rfl) ?_
        refine o_orc (f := 8) (v := .bool true) gn rfl (by kernel_rfl) (by kernel_rfl) ag0 ?_
        refine o_assign gn rfl rfl ?_
        refine wl_end ?_
        refine w_ret ?_
        refine ⟨.inl rfl, _, rfl, ?_⟩
        rfl

end Go.Proofs.YtgcapnlfkomgpaaDoor


namespace Go.X
open Go.RowKit
section
variable {E : Env} {fn : FuncId} {nt : Nat} {l l' : Kn} {h h' : Hp} {dr : Bool} {ops : Array Oper} {fin rest : List (Oper × List Oper)} {R : Kn → Hp → Prop} {lt : List Oper}
variable {d : Nat} {ty ty2 : TypeId} {pos : String} {af : Array Edge} {gg : Option (Nat × Bool)} {x y z : Operand} {v u : Value} {t : TypeId} {k : IntKind} {a b : Int}

theorem o_addW (g : Gd ops l gg) (hd : Nat.blt d nt = true) (hx : evl l x = some (.int .i64 a)) (hy : evl l y = some (.int .i64 b))
    (q : WL E fn nt dr ops fin rest ((d, .int .i64 (IntKind.i64.wrap (a + b))) :: l) h R) :
    WL E fn nt dr ops fin ((⟨some d, .binOp .add t x y ty2, ty, pos, af, gg⟩, lt) :: rest) l h R := o_int2 g hd hx hy rfl (by simp only [intBin, someI_eq, wrapX_eq]) q

theorem o_sliceTo {bb o n c : Nat} {vs : List Value} {e : TypeId} {m : Nat} {j : Int} (g : Gd ops l gg) (hd : Nat.blt d nt = true) (hx : evl l x = some (.slice (some ⟨bb, o, none⟩) n c)) (hy : evl l y = some (.int k j))
    (hz : elemZ E t = some 1) (hg : h.get bb = some (.cells vs e m)) (hm : m = 0 ∨ m = 3) (h1 : 0 ≤ j) (h2 : j ≤ c)
    (q : WL E fn nt dr ops fin rest ((d, .slice (some ⟨bb, o, none⟩) j.toNat c) :: l) h R) : WL E fn nt dr ops fin ((⟨some d, .slice t x none (some y) none, ty, pos, af, gg⟩, lt) :: rest) l h R :=
  wl_read g rfl (fun _ ag => by
    obtain ⟨e', he, hs⟩ := elemZ_und hz
    have hb : boundsOk 0 j.toNat c = true := boundsOk_iff.2 ⟨Nat.zero_le _, by omega⟩
    have e1 : Nat.beq 1 1 = true := rfl
    rcases hm with rfl | rfl
    · simp only [readX, ag.ev hx, Option.map_none, Option.map_some, ag.ev hy, sliceX, he, hs, optNat, natOf_int h1, modeOf, hg, hb, cond_true, Nat.zero_mul, addr_add, Nat.add_zero, Nat.sub_zero, Bool.cond_self]
    · simp only [readX, ag.ev hx, Option.map_none, Option.map_some, ag.ev hy, sliceX, he, hs, optNat, natOf_int h1, modeOf, hg, hb, e1, Bool.and_self, cond_true, Nat.zero_mul, addr_add, Nat.add_zero, Nat.sub_zero]) (wn hd) q
end

theorem Src.upto {h : Hp} {b n c k : Nat} {e : TypeId} {m : Nat} {vs : List Value} (hg : h.get b = some (.cells vs e m)) (hb : b < h.n) (hc : vs.all cellV = true) (hk : k ≤ vs.length) (hn : n = k) :
    Src h (.slice (some ⟨b, 0, none⟩) n c) (vs.take k) := by
  subst hn
  have hl : (vs.take n).length = n := by rw [List.length_take]; omega
  refine ⟨by simp [lenOfX, hl], ?_, ?_, fun a' n' c' e => by cases e; exact hb⟩
  · rw [hl]
    have e2 : Nat.ble n n = true := (ble_iff _ _).2 (Nat.le_refl _)
    by_cases h0 : n = 0
    · subst h0; rfl
    · have e3 : Nat.beq n 0 = false := (beq_false _ _).2 h0
      have e4 : Nat.ble (0 + n) vs.length = true := (ble_iff _ _).2 (by omega)
      simp only [firstX, e2, cond_true, e3, cond_false, Nat.mul_one, rowOf, hg, e4, List.drop_zero]
  · rw [List.all_eq_true] at hc ⊢
    exact fun x hx => hc x (List.mem_of_mem_take hx)

end Go.X

namespace Go.Proofs.YtgcapnlfkomgpaaDoor
open Go.X

theorem sameD_self (a : List Bool) : sameD a a = true := by simp only [sameD, decide_eq_true_eq]; exact fun _ => rfl
theorem all_ns (l : List Nat) : (nsV l).all cellV = true := by simp [List.all_map, List.all_eq_true, cellV]
theorem c21s {h : Hp} {l : List Nat} {a a' : Option Addr} {n n' c c' : Nat} (q1 : Src h (.slice a n c) (nsV l)) (q2 : Src h (.slice a' n' c') (nsV l)) (hn : l.length ≤ 100000) :
    CP bitsE 21 [.slice a n c, .slice a' n' c'] h (.bool true) := by
  rw [ns_is] at q1 q2
  have := c21 q1 q2 (by simpa using hn)
  simpa using this
theorem takeM_len (l : List Nat) (m : Int) : (takeM l m).length ≤ l.length := by
  unfold takeM
  split
  · rw [List.length_take]; omega
  · omega

section
variable {n0 : Nat} {h h' : Hp} {b : Nat} {s : Value} {bs : List Bool} {own B : List Nat} {b2 : Nat} {s2 : Value} {bs2 : List Bool} {own2 B2 cs : List Nat}
theorem Four.lt (t : Four n0 h b s bs own B b2 s2 bs2 own2 B2) : ∀ i, i ∈ (own ++ B) ++ (own2 ++ B2) → i < h.n := fun i hi => by
  rcases List.mem_append.1 hi with hi | hi
  · exact t.p.lt' i hi
  · exact t.q.lt' i hi
theorem Four.keep (t : Four n0 h b s bs own B b2 s2 bs2 own2 B2) (g : ExtB cs h h') (hd : ∀ i, i ∈ (own ++ B) ++ (own2 ++ B2) → i ∉ cs) : Four n0 h' b s bs own B b2 s2 bs2 own2 B2 :=
  ⟨t.p.keep g (fun i hi => hd i (by simp [hi])) (fun i hi => hd i (by simp [hi])), t.q.keep g (fun i hi => hd i (by simp [hi])) (fun i hi => hd i (by simp [hi])), t.d⟩
end

/-- BitsCopies -/
theorem c3 {h : Hp} {n k most : Int} {a : Option Addr} {c : Nat} {xs : List Int} (tb : Tab h) (hs : Src h (.slice a xs.length c) (isV xs)) :
    C bitsE 3 [iV n, .slice a xs.length c, iV k, iV most] h fun v _ => v = .bool true := by
  refine c_enterR (fu := Tryd.f3) (by kernel_rfl) rfl ?_
  refine w_seq ?_
  refine w_region (by kernel_rfl) ?_
  refine o_assign gn rfl rfl ?_
  refine wl_end ?_
  refine w_seq ?_
  refine w_region (by kernel_rfl) ?_
  refine o_move gn rfl rfl ?_
  refine o_move gn rfl rfl ?_
  refine o_call [_, _] gn rfl rfl (by kernel_rfl) rfl (C.mono (c7' hs) ?_)
  rintro v1 h1 ⟨x1, p1, s, ok1, rfl, q1⟩
  refine ⟨ag0, ?_⟩
  refine o_move gn rfl rfl ?_
  refine o_extract gn rfl rfl rfl ?_
  refine o_extract gn rfl rfl rfl ?_
  refine o_extract gn rfl rfl rfl ?_
  refine o_assign gn rfl rfl ?_
  refine o_assign gn rfl rfl ?_
  refine o_assign gn rfl rfl ?_
  refine wl_end ?_
  refine w_seq ?_
  refine w_seq ?_
  refine w_region (by kernel_rfl) ?_
  refine o_move gn rfl rfl ?_
  refine o_not gn rfl rfl ?_
  refine wl_end ?_
  refine w_cond rfl (fun hb => ?_) fun hb => ?_
  · skip
    refine w_seq ?_
    refine w_region (by kernel_rfl) ?_
    refine o_orc (f := 8) (v := .bool true) gn rfl (by kernel_rfl) (by kernel_rfl) ag0 ?_
    refine o_assign gn rfl rfl ?_
    refine wl_end ?_
    refine w_ret ?_
    refine ⟨.inl rfl, _, (resH_tmp rfl rfl), fun h2 hco => ?_⟩
    rfl
  · skip
    have hq : ok1 = true := by simpa using hb
    subst hq
    obtain ⟨hn, b, own, B, rfl, t1⟩ := q1 rfl
    have hl0 : (ofB n xs).length ≤ 600 := by rw [ofB_len]; omega
    generalize ofB n xs = bs at *
    obtain ⟨ws, sw, Bw, xs1, hown⟩ := t1.x
    refine w_skip ?_
    refine w_seq ?_
    refine w_region (by kernel_rfl) ?_
    refine o_move gn rfl rfl ?_
    refine o_call [_] gn rfl rfl (by kernel_rfl) rfl (C.mono (c9 xs1 (by omega)) ?_)
    rintro v2 h2 ⟨b2, own2, rfl, xa2, fa2, x2⟩
    refine ⟨ag0, ?_⟩
    refine o_move gn rfl rfl ?_
    refine o_call [_] gn rfl rfl (by kernel_rfl) rfl (C.mono (c10 (t1.r.ext x2) (by omega)) ?_)
    rintro s2 h3 ⟨B2, rb2, fb2, x3⟩
    have x2n := x2.n
    have t2 : TwoS h1.n h3 b2 s2 bs own2 B2 := ⟨xa2.ext x3, rb2, fun i hi hj => by have := xa2.lt i hi; have := fb2 i hj; omega, fa2, fun i hi => by have := fb2 i hi; omega⟩
    have f3 := four_new t1 (x2.trans x3) x1.n t2
    have hx3 := x1.trans (x2.trans x3)
    refine ⟨ag0, ?_⟩
    refine o_assign gn rfl rfl ?_
    refine o_assign gn rfl rfl ?_
    refine wl_end ?_
    refine w_seq ?_
    refine w_region (by kernel_rfl) ?_
    refine o_move gn rfl rfl ?_
    refine o_call [_] gn rfl rfl (by kernel_rfl) rfl (C.mono (c11 (xs1.keep ((x2.trans x3).b []) (by simp)) (by omega)) ?_)
    rintro v4 h4 ⟨cc, Bc, rfl, ha4, fa4, x4⟩
    have f4 := f3.ext x4
    have hx4 := hx3.trans x4
    have hal := ha4.lt
    have hl3 := f3.lt
    have hnew := f3.p.new
    have hdis : ∀ i, i ∈ cc :: Bc → i ∉ own ++ B := fun i hi hj => by have := fa4 i hi; have := f3.p.lt' i hj; omega
    refine ⟨ag0, ?_⟩
    refine o_assign gn rfl rfl ?_
    refine wl_end ?_
    refine w_seq ?_
    refine w_seq ?_
    refine w_region (by kernel_rfl) ?_
    refine o_move gn rfl rfl ?_
    refine o_eqf gn rfl rfl rfl (by kernel_rfl) ?_
    refine o_move gn rfl rfl ?_
    refine wl_split (dc := 38) rfl (fun hb38 => ?_) fun hb38 => ?_
    · skip
      cases hb38
    · skip
      refine o_move (gy rfl rfl rfl hb38) rfl rfl ?_
      refine o_move (gy rfl rfl rfl hb38) rfl rfl ?_
      refine o_call [_, _] (gy rfl rfl rfl hb38) rfl rfl (by kernel_rfl) rfl (C.mono (c12' f4.q.x f4.p.x (tb.ext hx4) (by omega) (by omega)) ?_)
      rintro v5 h5 ⟨rfl, x5⟩
      rw [sameD_self]
      have f5 := f4.ext x5
      have hx5 := hx4.trans x5
      have ha5 := ha4.ext x5
      refine ⟨ag0, ?_⟩
      refine o_not (gy rfl rfl rfl hb38) rfl rfl ?_
      refine o_pickf gn rfl rfl hb38 rfl ?_
      refine o_move gn rfl rfl ?_
      refine wl_split (dc := 44) rfl (fun hb44 => ?_) fun hb44 => ?_
      · skip
        simp at hb44
      · skip
        refine o_move (gy rfl rfl rfl hb44) rfl rfl ?_
        refine o_move (gy rfl rfl rfl hb44) rfl rfl ?_
        refine o_call [_, _] (gy rfl rfl rfl hb44) rfl rfl (by kernel_rfl) rfl (C.mono (c12' f5.p.x f5.q.x (tb.ext hx5) (by omega) (by omega)) ?_)
        rintro v6 h6 ⟨rfl, x6⟩
        rw [sameD_self]
        have f6 := f5.ext x6
        have hx6 := hx5.trans x6
        have ha6 := ha5.ext x6
        refine ⟨ag0, ?_⟩
        refine o_not (gy rfl rfl rfl hb44) rfl rfl ?_
        refine o_pickf gn rfl rfl hb44 rfl ?_
        refine wl_end ?_
        refine w_cond rfl (fun hb => ?_) fun hb => ?_
        · skip
          refine w_seq ?_
          refine w_region (by kernel_rfl) ?_
          refine o_assign gn rfl rfl ?_
          refine wl_end ?_
          refine w_ret ?_
          refine ⟨.inl rfl, _, (resH_tmp rfl rfl), fun h2 hco => ?_⟩
          simp at hb
        · skip
          refine w_skip ?_
          refine w_seq ?_
          refine w_region (by kernel_rfl) ?_
          refine o_move gn rfl rfl ?_
          refine o_move gn rfl rfl ?_
          refine o_call [_, _] gn rfl rfl (by kernel_rfl) rfl (C.mono (c13 f6.p.x (by omega)) ?_)
          rintro v7 h7 ⟨rfl, xa7, g7⟩
          refine ⟨ag0, ?_⟩
          refine wl_end ?_
          refine w_seq ?_
          refine w_region (by kernel_rfl) ?_
          refine o_move gn rfl rfl ?_
          refine o_move gn rfl rfl ?_
          refine o_call [_, _] gn rfl rfl (by kernel_rfl) rfl (C.mono (c14 (f6.p.r.keep g7 fun i hi hj => f6.p.ap i hj hi)) ?_)
          rintro v8 h8 ⟨rfl, rb8, g8⟩
          have t8 := f6.p.both xa7 g7 rb8 g8
          have f8 := f6.first t8
          have hx8 := hx6.of t8.2 hnew
          have ha8 := ha6.keep t8.2 hdis
          have hl8 : (addO bs k).length ≤ 600 := by rw [addO_len]; exact hl0
          refine ⟨ag0, ?_⟩
          refine wl_end ?_
          refine w_seq ?_
          refine w_region (by kernel_rfl) ?_
          refine o_move gn rfl rfl ?_
          refine o_move gn rfl rfl ?_
          refine o_addW gn rfl rfl rfl ?_
          refine o_call [_, _] gn rfl rfl (by kernel_rfl) rfl (C.mono (c15 f8.p.x (by omega)) ?_)
          rintro v9 h9 ⟨rfl, xa9, g9⟩
          refine ⟨ag0, ?_⟩
          refine wl_end ?_
          refine w_seq ?_
          refine w_region (by kernel_rfl) ?_
          refine o_move gn rfl rfl ?_
          refine o_move gn rfl rfl ?_
          refine o_addW gn rfl rfl rfl ?_
          refine o_call [_, _] gn rfl rfl (by kernel_rfl) rfl (C.mono (c16 (f8.p.r.keep g9 fun i hi hj => f8.p.ap i hj hi)) ?_)
          rintro v10 h10 ⟨rfl, rb10, g10⟩
          have t10 := f8.p.both xa9 g9 rb10 g10
          have f10 := f8.first t10
          have hx10 := hx8.of t10.2 hnew
          have ha10 := ha8.keep t10.2 hdis
          have hl10 : (dropO (addO bs k) (IntKind.i64.wrap (k + 1))).length ≤ 600 := by rw [dropO_len]; exact hl8
          generalize dropO (addO bs k) (IntKind.i64.wrap (k + 1)) = bz at *
          refine ⟨ag0, ?_⟩
          refine wl_end ?_
          refine w_seq ?_
          refine w_seq ?_
          refine w_region (by kernel_rfl) ?_
          refine o_move gn rfl rfl ?_
          refine o_move gn rfl rfl ?_
          refine o_call [_, _] gn rfl rfl (by kernel_rfl) rfl (C.mono (c17 f10.p.x f10.p.r (tb.ext hx10) (by omega)) ?_)
          rintro v11 h11 ⟨rfl, x11⟩
          have f11 := f10.ext x11
          have hx11 := hx10.trans x11
          refine ⟨ag0, ?_⟩
          refine o_not gn rfl rfl ?_
          refine o_move gn rfl rfl ?_
          refine wl_split (dc := 68) rfl (fun hb68 => ?_) fun hb68 => ?_
          · skip
            simp at hb68
          · skip
            refine o_move (gy rfl rfl rfl hb68) rfl rfl ?_
            refine o_move (gy rfl rfl rfl hb68) rfl rfl ?_
            refine o_call [_, _] (gy rfl rfl rfl hb68) rfl rfl (by kernel_rfl) rfl (C.mono (c17 f11.q.x f11.q.r (tb.ext hx11) (by omega)) ?_)
            rintro v12 h12 ⟨rfl, x12⟩
            have f12 := f11.ext x12
            have hx12 := hx11.trans x12
            refine ⟨ag0, ?_⟩
            refine o_not (gy rfl rfl rfl hb68) rfl rfl ?_
            refine o_pickf gn rfl rfl hb68 rfl ?_
            refine o_move gn rfl rfl ?_
            refine wl_split (dc := 74) rfl (fun hb74 => ?_) fun hb74 => ?_
            · skip
              simp at hb74
            · skip
              refine o_move (gy rfl rfl rfl hb74) rfl rfl ?_
              refine o_move (gy rfl rfl rfl hb74) rfl rfl ?_
              refine o_call [_, _] (gy rfl rfl rfl hb74) rfl rfl (by kernel_rfl) rfl (C.mono (c12' f12.p.x f12.q.x (tb.ext hx12) (by omega) (by omega)) ?_)
              rintro v13 h13 ⟨rfl, x13⟩
              have f13 := f12.ext x13
              have hx13 := hx12.trans x13
              have ha13 := ((ha10.ext x11).ext x12).ext x13
              refine ⟨ag0, ?_⟩
              refine o_move (gy rfl rfl rfl hb74) rfl rfl ?_
              refine o_move (gy rfl rfl rfl hb74) rfl rfl ?_
              refine o_call [_, _] (gy rfl rfl rfl hb74) rfl rfl (by kernel_rfl) rfl (C.mono (c18' f13.p.r f13.q.r (by omega) (by omega)) ?_)
              rintro _ h13 ⟨rfl, rfl⟩
              refine ⟨ag0, ?_⟩
              refine o_neb (gy rfl rfl rfl hb74) rfl rfl rfl (by kernel_rfl) ?_
              refine o_pickf gn rfl rfl hb74 rfl ?_
              refine wl_end ?_
              refine w_cond rfl (fun hb => ?_) fun hb => ?_
              · skip
                refine w_seq ?_
                refine w_region (by kernel_rfl) ?_
                refine o_assign gn rfl rfl ?_
                refine wl_end ?_
                refine w_ret ?_
                refine ⟨.inl rfl, _, (resH_tmp rfl rfl), fun h2 hco => ?_⟩
                simp at hb
              · skip
                refine w_skip ?_
                refine w_seq ?_
                refine w_region (by kernel_rfl) ?_
                refine o_alloc (zv := .slice none 0 0) gn rfl (by kernel_rfl) ?_
                refine wl_at (fun hz => hz.get h13.n = some (.cells [.slice none 0 0] 22 0) ∧ Ext h13 hz ∧ hz.n = h13.n + 1) ⟨Hp.get_alloc_self _ _, Ext.alloc _ _, Hp.n_alloc _ _⟩ fun h14 ⟨g14, x14, n14⟩ => ?_
                have f14 := f13.ext x14
                have hx14 := hx13.trans x14
                have ha14 := ha13.ext x14
                have hl13 := f13.lt
                have ha13l := ha13.lt
                have hob := onesB_le bs
                have hoz := onesB_le bz
                refine wl_end ?_
                refine w_seq ?_
                refine w_seq ?_
                refine w_region (by kernel_rfl) ?_
                refine o_move gn rfl rfl ?_
                refine wl_end ?_
                refine w_block ?_
                refine w_weak [(3, iV most), (9, ptrV b), (10, s), (13, s2), (15, ptrV h13.n), (83, .func (.func 42) #[] #[ptrV cc])] (by repeat (first | exact trivial | refine ⟨rfl, ?_⟩)) ?_
                refine w_rangeA rfl rfl (by kernel_rfl) (by kernel_rfl) (by kernel_rfl) (by kernel_rfl) fun rc hR h0 hx0 hn0 hrc => ?_
                have k2 := (hx0.get h13.n (by omega)).trans g14
                have hcn : ∀ B3 : List Nat, (∀ i, i ∈ B3 → h0.n ≤ i) → ∀ i, i ∈ h13.n :: (h14.n + 1) :: B3 → i ∉ cc :: Bc ∧ i ≠ 0 := fun B3 hB i hi => by
                  simp only [List.mem_cons] at hi
                  have h5 : h13.n ≤ i := by
                    rcases hi with hi | hi | hi
                    · omega
                    · omega
                    · have := hB i hi; omega
                  have h6 := ha13l cc (by simp)
                  exact ⟨fun hj => by have := ha13l i hj; omega, by omega⟩
                have hround : ∀ k (hk : k < (onesB bs).length) (m1 : Hp), (m1.get (h14.n + 1) = some (rc .ready none) ∧ ExtB [h13.n, h14.n + 1] h0 m1 ∧ ∃ sv B3, m1.get h13.n = some (.cells [sv] 22 0) ∧ Sl 3 m1 sv (nsV ((onesB bs).take k)) B3 ∧ ∀ i, i ∈ B3 → h0.n ≤ i) → AllAt m1 cc bs Bc → Tab m1 → Y bitsE (h14.n + 1) [iV (((onesB bs)[k] : Nat) : Int)] m1 fun v m2 => (∃ cs, ExtB cs m1 m2 ∧ ∀ i, i ∈ cs → i ∉ cc :: Bc ∧ i ≠ 0) ∧
                  ((v = .bool true ∧ (m2.get (h14.n + 1) = some (rc .ready none) ∧ ExtB [h13.n, h14.n + 1] h0 m2 ∧ ∃ sv B3, m2.get h13.n = some (.cells [sv] 22 0) ∧ Sl 3 m2 sv (nsV ((onesB bs).take (k + 1))) B3 ∧ ∀ i, i ∈ B3 → h0.n ≤ i)) ∨ (v = .bool false ∧ False)) := fun k hk m1 ⟨p1, p2, sv, B3, p4, p5, p6⟩ hA hT => by
                    refine hR.round p1 rfl ?_
                    refine w_region (by kernel_rfl) ?_
                    refine o_assign gn rfl rfl ?_
                    refine wl_end ?_
                    refine ⟨_, p1, ?_⟩
                    refine w_at (fun m3 => m3.get (h14.n + 1) = some (rc .busy none) ∧ m3.get h13.n = some (.cells [sv] 22 0) ∧ ExtB [h14.n + 1] m1 m3 ∧ m3.n = m1.n) ⟨Hp.get_put_self _ _ _, by rw [Hp.get_put, if_neg (by omega)]; exact p4, ExtB.put _ _ _, Hp.n_put _ _ _⟩ fun m3 ⟨q1, q2, q3, q4⟩ => ?_
                    have p2n := p2.n
                    have hs3 := p5.keep q3 (fun i hi hj => by have := p6 i hi; simp at hj; omega)
                    obtain ⟨asv, rfl⟩ := hs3.val
                    have hbl := hs3.lt
                    have htl : ((onesB bs).take k).length = k := by rw [List.length_take]; omega
                    have htk : (onesB bs).take (k + 1) = (onesB bs).take k ++ [(onesB bs)[k]] := by rw [List.take_add_one, List.getElem?_eq_getElem hk]; rfl
                    refine w_block ?_
                    refine w_region (by kernel_rfl) ?_
                    refine o_load gn rfl rfl (by kernel_rfl) q2 rfl ?_
                    refine o_move gn rfl rfl ?_
                    refine o_buildSlice (e := 3) (z := 0) (zv := .int .i64 0) [(0, _)] gn rfl (by kernel_rfl) (by kernel_rfl) (by kernel_rfl) (by kernel_rfl) rfl rfl ?_
                    obtain ⟨a7, h7, B7, b1, b2, b3, b4⟩ := push_ns (x := (((onesB bs)[k] : Nat) : Int)) (k := (onesB bs)[k]) rfl hs3 (by omega)
                    rw [← htk] at b1 b2
                    have n7 := b3.n
                    have hnB : ∀ j, j < h0.n → j ∉ B3 := fun j hj hm => by have := p6 j hm; omega
                    have f7 := (b3.get h13.n (by omega) (hnB _ (by omega))).trans q2
                    have f8' := (b3.get (h14.n + 1) (by omega) (hnB _ (by omega))).trans q1
                    refine o_append gn rfl rfl rfl b1 ag0 ?_
                    refine o_store gn rfl rfl rfl (by kernel_rfl) f7 (by decide) (by simp) ag0 ?_
                    refine wl_end ?_
                    have hB7 : ∀ i, i ∈ B7 → h0.n ≤ i := fun i hi => by
                      rcases b4 i hi with h9 | h9
                      · exact p6 i h9
                      · omega
                    have gx : ExtB (h13.n :: (h14.n + 1) :: B3) m1 ((h7.put h13.n (.cells [.slice a7 (nsV ((onesB bs).take (k + 1))).length (nsV ((onesB bs).take (k + 1))).length] 22 0)).put (h14.n + 1) (rc .ready none)) := (q3.mono (by simp)).trans ((b3.mono (fun j hj _ => by simp [hj])).trans (((ExtB.put _ _ _).mono (by simp)).trans ((ExtB.put _ _ _).mono (by simp))))
                    have gh : ExtB [h13.n, h14.n + 1] h0 ((h7.put h13.n (.cells [.slice a7 (nsV ((onesB bs).take (k + 1))).length (nsV ((onesB bs).take (k + 1))).length] 22 0)).put (h14.n + 1) (rc .ready none)) := ⟨Nat.le_trans p2n gx.n, fun i hi hn => (gx.get i (by omega) (fun hj => by
                      simp only [List.mem_cons] at hj
                      rcases hj with hj | hj | hj
                      · exact hn (by simp [hj])
                      · exact hn (by simp [hj])
                      · exact hnB i hi hj)).trans (p2.get i hi hn)⟩
                    have gp : ExtB [h13.n, h14.n + 1] h7 ((h7.put h13.n (.cells [.slice a7 (nsV ((onesB bs).take (k + 1))).length (nsV ((onesB bs).take (k + 1))).length] 22 0)).put (h14.n + 1) (rc .ready none)) := ((ExtB.put _ _ _).mono (by simp)).trans ((ExtB.put _ _ _).mono (by simp))
                    exact ⟨_, _, (by rw [Hp.get_put, if_neg (by omega)]; exact f8'), ⟨⟨_, gx, hcn B3 p6⟩, .inl ⟨rfl, Hp.get_put_self _ _ _, gh, _, B7, (by rw [Hp.get_put, if_neg (by omega)]; exact Hp.get_put_self _ _ _), b2.keep gp (fun i hi hj => by have := hB7 i hi; simp at hj; omega), hB7⟩⟩⟩
                refine C.mono (c42 (ha14.ext hx0) ((tb.ext hx14).ext hx0) (by omega) (fun k m1 => m1.get (h14.n + 1) = some (rc .ready none) ∧ ExtB [h13.n, h14.n + 1] h0 m1 ∧ ∃ sv B3, m1.get h13.n = some (.cells [sv] 22 0) ∧ Sl 3 m1 sv (nsV ((onesB bs).take k)) B3 ∧ ∀ i, i ∈ B3 → h0.n ≤ i) (fun _ => False) ⟨hrc, .refl _ _, .slice none 0 0, [], k2, .inl ⟨rfl, rfl, rfl⟩, by simp⟩ hround) ?_
                rintro v h' hPR
                obtain ⟨hrec, hxx, sv, B3, hcell, hsl, hB⟩ := hPR.resolve_right id
                rw [List.take_length] at hsl
                refine ⟨_, _, hrec, (by simp), fun m9 hx2 hn2 => ?_⟩
                refine aft_blk (.inl rfl) ?_
                have hxxn := hxx.n
                have hx2n := hx2.n
                have h13p := ha13l cc (by simp)
                have c9 := (hx2.get h13.n (by omega) (by simp; omega)).trans hcell
                have s9 := hsl.keep hx2 (fun i hi hj => by have := hB i hi; simp at hj; omega)
                have f9 := ((f14.ext hx0).keep hxx (fun i hi hj => by have := hl13 i hi; simp at hj; omega)).keep hx2 (fun i hi hj => by have := hl13 i hi; simp at hj; omega)
                have tb9 : Tab m9 := (((tb.ext hx14).ext hx0).keep hxx (by simp; omega)).keep hx2 (by simp)
                refine w_seq ?_
                refine w_region (by kernel_rfl) ?_
                refine o_move gn rfl rfl ?_
                refine o_move gn rfl rfl ?_
                refine o_call [_, _] gn rfl rfl (by kernel_rfl) rfl (C.mono (c19 f9.p.x tb9 (by omega)) ?_)
                rintro v20 h20 ⟨sv2, B20, rfl, s20, fb20, x20⟩
                obtain ⟨a20, rfl⟩ := s20.val
                refine ⟨ag0, ?_⟩
                refine o_move gn rfl rfl ?_
                refine o_extract gn rfl rfl rfl ?_
                refine o_extract gn rfl rfl rfl ?_
                refine o_assign gn rfl rfl ?_
                refine o_assign gn rfl rfl ?_
                refine wl_end ?_
                refine w_seq ?_
                refine w_region (by kernel_rfl) ?_
                refine o_move gn rfl rfl ?_
                refine o_call [_] gn rfl rfl (by kernel_rfl) rfl (C.mono (c20 (f9.p.r.ext x20) (by omega)) ?_)
                rintro v21 h21 ⟨B21, s21, fb21, x21⟩
                obtain ⟨a21, rfl⟩ := s21.val
                have c21c := ((x20.trans x21).get h13.n (by have := hxx.n; have := hx2.n; omega)).trans c9
                have hlen21 : (nsV (onesB bz)).length = (onesB bz).length := by simp
                refine ⟨ag0, ?_⟩
                refine o_assign gn rfl rfl ?_
                refine wl_end ?_
                refine w_cut (fun l hh => ∃ a' n' c', hh = h21 ∧ Src h21 (.slice a' n' c') (nsV (takeM (onesB bz) most)) ∧ l = [(13, s2), (15, ptrV h13.n), (17, .slice a20 (nsV (takeM (onesB bz) most)).length (nsV (takeM (onesB bz) most)).length), (19, .slice a' n' c')]) ?_ fun l hh hJ => ?_
                · skip
                  refine w_seq ?_
                  refine w_region (by kernel_rfl) ?_
                  refine o_move gn rfl rfl ?_
                  refine o_gtr gn rfl rfl rfl ?_
                  refine o_move gn rfl rfl ?_
                  refine o_and (n := 4) rfl rfl rfl gn rfl (fun hb => by
                      refine o_move (gy rfl rfl rfl hb) rfl rfl ?_
                      refine o_move (gy rfl rfl rfl hb) rfl rfl ?_
                      refine o_len (gy rfl rfl rfl hb) rfl rfl (by kernel_rfl) ?_
                      refine o_lss (gy rfl rfl rfl hb) rfl rfl rfl ?_
                      exact wl_end ⟨rfl, rfl, 4, rfl, rfl⟩) ?_
                  refine wl_end ?_
                  refine w_cond rfl (fun hb => ?_) fun hb => ?_
                  · skip
                    refine w_region (by kernel_rfl) ?_
                    refine o_move gn rfl rfl ?_
                    refine o_move gn rfl rfl ?_
                    have hmo : 0 < most ∧ most < (nsV (onesB bz)).length := by simpa using hb
                    obtain ⟨bb, mm, ea, hbb, hm, hblt, _⟩ := s21.at (by omega)
                    simp only [Value.slice.injEq, and_true] at ea
                    subst ea
                    refine o_sliceTo gn rfl rfl rfl (by kernel_rfl) hbb hm (by omega) (by omega) ?_
                    refine o_assign gn rfl rfl ?_
                    refine wl_end ?_
                    exact ⟨_, (by repeat (first | exact trivial | refine ⟨rfl, ?_⟩)), ⟨_, _, _, rfl, by
                      have := Src.upto (n := most.toNat) (c := (nsV (onesB bz)).length) hbb hblt (all_ns _) (k := most.toNat) (by omega) rfl
                      rw [takeM, if_pos (by omega), show nsV ((onesB bz).take most.toNat) = (nsV (onesB bz)).take most.toNat from List.map_take ..]
                      exact this, rfl⟩⟩
                  · skip
                    refine w_skip ?_
                    exact ⟨_, (by repeat (first | exact trivial | refine ⟨rfl, ?_⟩)), ⟨_, _, _, rfl, by
                      have hmo : ¬ (0 < most ∧ most < (nsV (onesB bz)).length) := by simpa using hb
                      have : takeM (onesB bz) most = onesB bz := by
                        unfold takeM
                        split
                        · exact List.take_of_length_le (by omega)
                        · rfl
                      rw [this]
                      exact s21.src (all_ns _), rfl⟩⟩
                · obtain ⟨a', n', c', rfl, hsrc, rfl⟩ := hJ
                  refine w_seq ?_
                  refine w_draw [(0, []), (1, []), (2, [0]), (3, []), (4, []), (5, []), (6, []), (7, []), (8, []), (9, []), (10, []), (11, []), (12, [])] (by kernel_rfl) (by kernel_rfl) (by kernel_rfl) (by kernel_rfl) ?_
                  refine o_load gn rfl rfl (by kernel_rfl) c21c rfl ?_
                  refine o_move gn rfl rfl ?_
                  refine o_call [_] gn rfl rfl (by kernel_rfl) rfl (C.mono (c20 ((f9.q.r.ext x20).ext x21) (by omega)) ?_)
                  rintro v23 h23 ⟨B23, s23, fb23, x23⟩
                  obtain ⟨a23, rfl⟩ := s23.val
                  obtain ⟨asv, rfl⟩ := s9.val
                  have c23c := (x23.get h13.n (by have := hxx.n; have := hx2.n; have := x20.n; have := x21.n; omega)).trans c21c
                  refine ⟨(ag1 (ag_load gn rfl (by kernel_rfl) (by assumption) rfl rfl same_slice) ag0), ?_⟩
                  refine o_call [_, _] gn rfl rfl (by kernel_rfl) rfl (c_pure (c21s ((((s9.ext x20).ext x21).ext x23).src (all_ns _)) (s23.src (all_ns _)) (by omega)) ⟨ag0, ?_⟩)
                  refine o_move gn rfl rfl ?_
                  refine o_and (n := 3) rfl rfl rfl gn rfl (fun hb => by
                      refine o_move (gy rfl rfl rfl hb) rfl rfl ?_
                      refine o_move (gy rfl rfl rfl hb) rfl rfl ?_
                      refine o_call [_, _] (gy rfl rfl rfl hb) rfl rfl (by kernel_rfl) rfl (c_pure (c21s (((s20.ext x21).ext x23).src (all_ns _)) (hsrc.ext x23) (by have := takeM_len (onesB bz) most; omega)) ⟨ag0, ?_⟩)
                      exact wl_end ⟨rfl, rfl, 3, rfl, rfl⟩) ?_
                  refine o_move gn rfl rfl ?_
                  refine o_and (n := 1) rfl rfl rfl gn rfl (fun hb => by
                      refine o_orc (f := 8) (v := .bool true) (gy rfl rfl rfl hb) rfl (by kernel_rfl) (by kernel_rfl) ag0 ?_
                      exact wl_end ⟨rfl, rfl, 1, rfl, rfl⟩) ?_
                  refine o_assign gn rfl rfl ?_
                  refine wl_end ?_
                  refine w_ret ?_
                  refine ⟨.inl rfl, _, (resH_tmp rfl rfl), fun h2 hco => ?_⟩
                  rfl

end Go.Proofs.YtgcapnlfkomgpaaDoor


namespace Go.Proofs.YtgcapnlfkomgpaaDoor
open Go.ChangeShapes Go.WideShapes Go.ChangeAt Go.RowKit Go.Deep Go.X

set_option maxRecDepth 100000

theorem bits_int : Tryd.prog.underlying 3 = some (.int .i64) := by kernel_rfl
theorem bits_bool : Tryd.prog.underlying 4 = some .bool := by kernel_rfl
theorem bits_own : ownKnob Tryd.prog.godebug = none := by kernel_rfl
theorem bits_laid : laidOutB Tryd.prog = true := by kernel_rfl
theorem bits_c3 : Tryd.prog.cellsOf 3 = 1 := by kernel_rfl
theorem bits_ints : Tryd.prog.underlying 22 = some (.slice 3) := by kernel_rfl
theorem bits_named : Tryd.prog.globalNamed "math/bits.deBruijn64tab" = some 0 := by kernel_rfl
theorem bits_type : (Tryd.prog.globals[0]?).map (·.type) = some 81 := by kernel_rfl
theorem bits_arr : Tryd.prog.underlying 81 = some (.array 64 5) := by kernel_rfl
theorem bits_u8 : Tryd.prog.underlying 5 = some (.int .u8) := by kernel_rfl
theorem bits_cell : Tryd.prog.cellsOf 5 = 1 := by kernel_rfl
theorem bits_cells : Tryd.prog.cellsOf 81 = 64 := by kernel_rfl

theorem tab_all {W : World} (h : laidMetH Tryd.prog Rows.bitsPlaysRow.laid W) : Tab (Hp.all W) := by
  have hT : Lib.TabIs Tryd.prog W "math/bits.deBruijn64tab" .u8 (Lib.deBruijn64tab.map fun (n : Nat) => (n : Int)) :=
    Lib.tabIs_of_head bits_named bits_type bits_arr bits_u8 bits_cell bits_cells (rest := []) (laidMetH_iff.1 h).1
  obtain ⟨e, fr, hg⟩ := tab_block bits_named hT
  refine ⟨by have := topB_256 W; show 0 < topB W; omega, e, 1, ?_⟩
  rw [Hp.all_get, allObj, hg]
  simp only [List.map_map, Option.some.injEq, AObj.cells.injEq, and_true]
  refine List.map_congr_left fun n _ => ?_
  exact selfX_eq (.int _ _)

/-- A slice of numbers. -/
theorem ints_arg {H : Type} {enc : TypeId × Value → H} {W : World} {r : Reach} {base : Nat} {v : Value} {d : DataW H} {ps : List MemPlace} (hok : Value.okWide Tryd.prog W r base 22 v) (h : DataW.Trod enc Tryd.prog W 0 (fun _ => true) true 22 v d ps) :
    ∃ a c, ∃ xs : List Int, v = .slice a xs.length c ∧ VRel (Mp.all W) v v ∧ Src (Hp.all W) (.slice a xs.length c) (isV xs) := by
  obtain ⟨hv, _, _, _, _, x⟩ := arg_rd_slice bits_ints hok h
  obtain ⟨a, n, c, e, _, _, xs, rfl, hs, _⟩ := x.ints bits_ints bits_int bits_c3
  simp only [List.cons.injEq, and_true] at e
  subst e
  exact ⟨a, c, xs, rfl, hv, hs⟩

theorem bits_door (os : Os) (args : Array Value) : laidMetH Tryd.prog Rows.bitsPlaysRow.laid (((World.doorLaid Tryd.prog 400 os).forCall (fun _ _ => 0) ⟨#[], args, []⟩).memory) :=
  laidMetH_of_parts3 (fuel := 8) (laidMet_of_run' 8 (by kernel_rfl) (by kernel_rfl)) (by kernel_rfl) (by kernel_rfl)

end Go.Proofs.YtgcapnlfkomgpaaDoor
