/- BitsPlays, in the calculus. Conditions: math/bits' table lies in the memory. Three rules more: a sum that may wrap, a slice up to a number, the first items of a row. Conditions: none. BitsCopies, in the calculus. Conditions: math/bits' table lies in the memory. Chapter 17: the arguments of its laws and math/bits' table, as X has them. Conditions: none. Chapter 17, matrices as they lie in memory; the program's there, Size, Has, Row, Set; the document's Has, Set. Conditions: none. Chapter 17, matrices made: a row more, NewMatrix (the program's and the document's). Conditions: none. Chapter 17: matrices and the blocks they own; the law's matrix. Conditions: none. Chapter 17: copies of matrices. Conditions: none. Chapter 17: matrices held side by side: Same, SameMatrix, the law's alike. Conditions: math/bits' table lies in the memory (Same, alike). Chapter 17: Close of a matrix, as the program reckons it; that it is the least that is closed. Conditions: none. Chapter 17: Closed of a matrix, as the document reckons it: the least that is closed. Conditions: none. Chapter 17: Parts of a matrix, as the program reckons them. Conditions: none. Plain: the first of each part; what the document's Parts has marked. Conditions: none. -/
import Derived.Test.YtgcapnlfkomgpaaDoorLa
import Derived.Test.YtgcapnlfkomgpaaDoorXc
import Derived.Test.YtgcapnlfkomgpaaDoorTie
import Derived.Test.YtgcapnlfkomgpaaDoorCards
import Derived.SevenTiedAt
import Derived.LaidMore
import Derived.LaidHandle
import Derived.ProofKit
namespace Go.Proofs.YtgcapnlfkomgpaaDoor
open Go.X

theorem of_iff {t : Bool} {p : Prop} (h : t = true ↔ p) : t = @decide p (Classical.propDecidable p) := by
  rw [Bool.eq_iff_iff, h]; simp

noncomputable def sameD (a b : List Bool) : Bool := @decide (SameB a b) (Classical.propDecidable _)
theorem sameD_comm (a b : List Bool) : sameD a b = sameD b a := by
  rw [Bool.eq_iff_iff]
  simp only [sameD, decide_eq_true_eq]
  exact ⟨fun h k => (h k).symm, fun h k => (h k).symm⟩
noncomputable def meetD (a b : List Bool) : Bool := @decide (∃ k, bget a k = true ∧ bget b k = true) (Classical.propDecidable _)
noncomputable def cameD (a b : List Bool) : Bool := @decide (Came a b) (Classical.propDecidable _)

section
variable {h : Hp} {b bo : Nat} {bs obs : List Bool} {own oo B Bo : List Nat} {s so : Value}

theorem c12' (x : SAt h b bs own) (o : SAt h bo obs oo) (tb : Tab h) (hn : bs.length ≤ 100000) (hno : obs.length ≤ 100000) :
    C bitsE 12 [ptrV b, ptrV bo] h fun v h' => v = .bool (sameD bs obs) ∧ Ext h h' :=
  (c12 x o tb hn hno).mono fun v h' ⟨e, t, ev, ht⟩ => ⟨by rw [ev, of_iff ht]; rfl, e⟩
theorem c18' (x : RefS h s bs B) (o : RefS h so obs Bo) (hn : bs.length ≤ 100000) (hno : obs.length ≤ 100000) : CP bitsE 18 [s, so] h (.bool (sameD bs obs)) :=
  (c18 x o hn hno).mono fun v h' ⟨e, t, ev, ht⟩ => ⟨by rw [ev, of_iff ht]; rfl, e⟩
theorem c34' (x : SAt h b bs own) (o : SAt h bo obs oo) (hn : bs.length ≤ 100000) : CP bitsE 34 [ptrV b, ptrV bo] h (.bool (meetD bs obs)) :=
  (c34 x o hn).mono fun v h' ⟨e, t, ev, ht⟩ => ⟨by rw [ev, of_iff ht]; rfl, e⟩
theorem c35' (x : RefS h s bs B) (o : RefS h so obs Bo) (hn : bs.length ≤ 100000) : CP bitsE 35 [s, so] h (.bool (meetD bs obs)) :=
  (c35 x o hn).mono fun v h' ⟨e, t, ev, ht⟩ => ⟨by rw [ev, of_iff ht]; rfl, e⟩
theorem c33' (x : SAt h b bs own) (o : SAt h bo obs oo) (hd : ∀ i, i ∈ oo → i ∉ own) (hn : bs.length ≤ 100000) :
    C bitsE 33 [ptrV b, ptrV bo] h fun v h' => v = .bool (cameD bs obs) ∧ SAt h' b (orB bs obs) own ∧ ExtB own h h' :=
  (c33 x o hd hn).mono fun v h' ⟨t, ev, ht, p⟩ => ⟨by rw [ev, of_iff ht]; rfl, p⟩
theorem c32' (x : RefS h s bs B) (o : RefS h so obs Bo) (hd : ∀ i, i ∈ Bo → i ∉ B) (hn : bs.length ≤ 90000) :
    C bitsE 32 [s, so] h fun v h' => v = .bool (cameD bs obs) ∧ RefS h' s (orB bs obs) B ∧ ExtB B h h' :=
  (c32 x o hd hn).mono fun v h' ⟨t, ev, ht, p⟩ => ⟨by rw [ev, of_iff ht]; rfl, p⟩
theorem c7' {n : Int} {a : Option Addr} {c : Nat} {xs : List Int} (hs : Src h (.slice a xs.length c) (isV xs)) :
    C bitsE 7 [iV n, .slice a xs.length c] h fun v h' => Ext h h' ∧ ∃ p s ok, v = .tuple #[p, s, .bool ok] ∧ (ok = true → n ≤ 600 ∧ ∃ b own B, p = ptrV b ∧ TwoS h.n h' b s (ofB n xs) own B) :=
  (c7 hs).mono fun v h' ⟨e, q⟩ => ⟨e, by
    rcases q with rfl | ⟨hn, b, s, own, B, rfl, t⟩
    · exact ⟨_, _, _, rfl, fun hh => by cases hh⟩
    · exact ⟨_, _, _, rfl, fun _ => ⟨hn, b, own, B, rfl, t⟩⟩⟩
end

/-- Two sets, each as the program and as the document has it; all apart. -/
structure Four (n0 : Nat) (h : Hp) (b : Nat) (s : Value) (bs : List Bool) (own B : List Nat) (b2 : Nat) (s2 : Value) (bs2 : List Bool) (own2 B2 : List Nat) : Prop where
  p : TwoS n0 h b s bs own B
  q : TwoS n0 h b2 s2 bs2 own2 B2
  d : ∀ i, i ∈ own ++ B → i ∉ own2 ∧ i ∉ B2
section
variable {n0 n1 : Nat} {h h' : Hp} {b : Nat} {s : Value} {bs bs' : List Bool} {own B : List Nat} {b2 : Nat} {s2 : Value} {bs2 : List Bool} {own2 B2 : List Nat}
theorem Four.ext (t : Four n0 h b s bs own B b2 s2 bs2 own2 B2) (g : Ext h h') : Four n0 h' b s bs own B b2 s2 bs2 own2 B2 := ⟨t.p.ext g, t.q.ext g, t.d⟩
theorem Four.first (t : Four n0 h b s bs own B b2 s2 bs2 own2 B2) (p : TwoS n0 h' b s bs' own B ∧ ExtB (own ++ B) h h') : Four n0 h' b s bs' own B b2 s2 bs2 own2 B2 :=
  ⟨p.1, t.q.keep p.2 (fun i hi hj => (t.d i hj).1 hi) (fun i hi hj => (t.d i hj).2 hi), t.d⟩
theorem TwoS.new (t : TwoS n0 h b s bs own B) : ∀ i, i ∈ own ++ B → n0 ≤ i := fun i hi => by
  rcases List.mem_append.1 hi with hi | hi
  · exact t.on i hi
  · exact t.bn i hi
theorem TwoS.lt' (t : TwoS n0 h b s bs own B) : ∀ i, i ∈ own ++ B → i < h.n := fun i hi => t.lt i (List.mem_append.1 hi)
theorem TwoS.less (t : TwoS n1 h b s bs own B) (hn : n0 ≤ n1) : TwoS n0 h b s bs own B := ⟨t.x, t.r, t.ap, fun i hi => Nat.le_trans hn (t.on i hi), fun i hi => Nat.le_trans hn (t.bn i hi)⟩
theorem four_new (t1 : TwoS n0 h b s bs own B) (x : Ext h h') (hn : n0 ≤ h.n) (t2 : TwoS h.n h' b2 s2 bs2 own2 B2) : Four n0 h' b s bs own B b2 s2 bs2 own2 B2 :=
  ⟨t1.ext x, t2.less hn, fun i hi => by
    have h1 := t1.lt' i hi
    exact ⟨fun hj => by have := t2.on i hj; omega, fun hj => by have := t2.bn i hj; omega⟩⟩
end

/-- Acts, as they lie in memory. -/
def ActsB (h : Hp) (a : Option Addr) (n : Nat) : Prop :=
  n = 0 ∨ ∃ bb oo cs e m, a = some ⟨bb, oo, none⟩ ∧ h.get bb = some (.cells cs e m) ∧ bb < h.n ∧
    ∀ i, i < n → oo + i * 2 + 2 ≤ cs.length ∧ ∃ kd ii, (cs.drop (oo + i * 2)).take 2 = [iV kd, iV ii]

/-- BitsPlays -/
theorem c6 {h : Hp} {n m : Int} {a a3 : Option Addr} {c n3 c3 : Nat} {xs : List Int} (tb : Tab h) (hs : Src h (.slice a xs.length c) (isV xs)) (hA : ActsB h a3 n3) :
    C bitsE 6 [iV n, iV m, .slice a xs.length c, .slice a3 n3 c3] h fun v _ => v = .bool true := by
  refine c_enter (fu := Tryd.f6) (by kernel_rfl) rfl ?_
  refine w_seq ?_
  refine w_region (by kernel_rfl) ?_
  refine o_assign gn rfl rfl ?_
  refine wl_end ?_
  refine w_seq ?_
  refine w_region (by kernel_rfl) ?_
  refine o_move gn rfl rfl ?_
  refine o_call [_, _] gn rfl rfl (by kernel_rfl) rfl (C.mono (c7' (a := none) (c := 0) (xs := []) ⟨rfl, rfl, rfl, fun a n c e => by cases e⟩) ?_)
  rintro v1 h1 ⟨x1, p1, s, ok1, rfl, q1⟩
  refine ⟨ag0, ?_⟩
  refine o_move gn rfl rfl ?_
  refine o_extract gn rfl rfl rfl ?_
  refine o_extract gn rfl rfl rfl ?_
  refine o_extract gn rfl rfl rfl ?_
  refine o_assign gn rfl rfl ?_
  refine o_assign gn rfl rfl ?_
  refine o_assign gn rfl rfl ?_
  refine wl_end ?_
  refine w_seq ?_
  refine w_region (by kernel_rfl) ?_
  refine o_move gn rfl rfl ?_
  refine o_move gn rfl rfl ?_
  refine o_call [_, _] gn rfl rfl (by kernel_rfl) rfl (C.mono (c7' (hs.ext x1)) ?_)
  rintro v2 h2 ⟨x2, p2, s2, ok2, rfl, q2⟩
  refine ⟨ag0, ?_⟩
  refine o_move gn rfl rfl ?_
  refine o_extract gn rfl rfl rfl ?_
  refine o_extract gn rfl rfl rfl ?_
  refine o_extract gn rfl rfl rfl ?_
  refine o_assign gn rfl rfl ?_
  refine o_assign gn rfl rfl ?_
  refine o_assign gn rfl rfl ?_
  refine wl_end ?_
  refine w_seq ?_
  refine w_seq ?_
  refine w_region (by kernel_rfl) ?_
  refine o_move gn rfl rfl ?_
  refine o_not gn rfl rfl ?_
  refine o_move gn rfl rfl ?_
  refine o_or (n := 2) rfl rfl rfl gn rfl (fun hb => by
      refine o_move (gy rfl rfl rfl hb) rfl rfl ?_
      refine o_not (gy rfl rfl rfl hb) rfl rfl ?_
      exact wl_end ⟨rfl, rfl, 2, rfl, rfl⟩) ?_
  refine o_move gn rfl rfl ?_
  refine o_or (n := 3) rfl rfl rfl gn rfl (fun hb => by
      refine o_move (gy rfl rfl rfl hb) rfl rfl ?_
      refine o_len (gy rfl rfl rfl hb) rfl rfl (by kernel_rfl) ?_
      refine o_gtr (gy rfl rfl rfl hb) rfl rfl rfl ?_
      exact wl_end ⟨rfl, rfl, 3, rfl, rfl⟩) ?_
  refine wl_end ?_
  refine w_cond rfl (fun hb => ?_) fun hb => ?_
  · skip
    refine w_seq ?_
    refine w_region (by kernel_rfl) ?_
    refine o_orc (f := 8) (v := .bool true) gn rfl (by kernel_rfl) (by kernel_rfl) ag0 ?_
    refine o_assign gn rfl rfl ?_
    refine wl_end ?_
    refine w_ret ?_
    refine ⟨.inl rfl, _, rfl, ?_⟩
    rfl
  · skip
    have hq : ok1 = true ∧ ok2 = true ∧ n3 ≤ 60 := by revert hb; cases ok1 <;> cases ok2 <;> simp <;> omega
    obtain ⟨rfl, rfl, hal⟩ := hq
    obtain ⟨hn, b, own, B, rfl, t1⟩ := q1 rfl
    obtain ⟨hm, b2, own2, B2, rfl, t2⟩ := q2 rfl
    have f0 := four_new t1 x2 x1.n t2
    have hl0 : (ofB n []).length ≤ 600 := by rw [ofB_len]; omega
    have hlm : (ofB m xs).length ≤ 600 := by rw [ofB_len]; omega
    generalize ofB n [] = bs0 at *
    generalize ofB m xs = bm at *
    refine w_skip ?_
    refine w_seq ?_
    refine w_seq ?_
    refine w_region (by kernel_rfl) ?_
    refine o_assign gn rfl rfl ?_
    refine wl_end ?_
    refine w_block ?_
    refine w_weak [(3, .slice a3 n3 c3), (9, ptrV b), (10, s), (12, ptrV b2), (13, s2), (15, iV 0)] (by repeat (first | exact trivial | refine ⟨rfl, ?_⟩)) ?_
    refine w_loop (fun k l hh => ∃ (i : Int) (bs : List Bool), 0 ≤ i ∧ i ≤ n3 ∧ k = (n3 - i).toNat ∧ bs.length ≤ 600 ∧ Four h.n hh b s bs own B b2 s2 bm own2 B2 ∧ Ext h hh ∧ l = [(3, .slice a3 n3 c3), (9, ptrV b), (10, s), (12, ptrV b2), (13, s2), (15, iV i)]) (n := (n3 - (0 : Int)).toNat) ?_ fun k l hh hI => ?_
    · exact ⟨0, _, by omega, by omega, rfl, hl0, f0, x1.trans x2, rfl⟩
    · obtain ⟨i, bs, hi0, hi1, rfl, hbl, hf, hx, rfl⟩ := hI
      refine w_seq ?_
      refine w_seq ?_
      refine w_region (by kernel_rfl) ?_
      refine o_move gn rfl rfl ?_
      refine o_move gn rfl rfl ?_
      refine o_len gn rfl rfl (by kernel_rfl) ?_
      refine o_lss gn rfl rfl rfl ?_
      refine wl_end ?_
      refine w_cond rfl (fun hb => ?_) fun hb => ?_
      · skip
        have hlt : i < n3 := by simpa using hb
        rcases hA with h0 | ⟨bb, oo, cs, e, mm, rfl, hg, hbb, hall⟩
        · omega
        obtain ⟨hfit, kd, ii, hrow⟩ := hall i.toNat (by omega)
        have hg2 := (hx.get bb hbb).trans hg
        refine w_skip ?_
        refine w_seq ?_
        refine w_block ?_
        refine w_seq ?_
        refine w_region (by kernel_rfl) ?_
        refine o_move gn rfl rfl ?_
        refine o_move gn rfl rfl ?_
        refine o_indexAddr (zz := 2) gn rfl rfl rfl (by kernel_rfl) (by omega) (by omega) ?_
        refine o_loadA (n := 2) gn rfl rfl (by kernel_rfl) (by kernel_rfl) hg2 hfit ?_
        rw [hrow]
        refine o_alloc (zv := .agg #[.int .i64 0, .int .i64 0]) gn rfl (by kernel_rfl) ?_
        refine o_storeA (n := 2) gn rfl rfl rfl (by kernel_rfl) rfl (Hp.get_alloc_self _ _) (by decide) rfl ag0 ?_
        refine wl_at (fun h4 => h4.get hh.n = some (.cells [iV kd, iV ii] 61 0) ∧ Ext hh h4 ∧ h4.n = hh.n + 1) ⟨Hp.get_put_self _ _ _, (Ext.alloc hh _).of (ExtB.put _ _ _) (by simp), by rw [Hp.n_put, Hp.n_alloc]⟩ fun h4 ⟨g4, x4, n4⟩ => ?_
        have hf4 := hf.ext x4
        have hx4 := hx.trans x4
        refine wl_end ?_
        refine w_cut (fun l hh => ∃ bs', bs'.length = bs.length ∧ Four h.n hh b s bs' own B b2 s2 bm own2 B2 ∧ Ext h hh ∧ l = [(3, .slice (some ⟨bb, oo, none⟩) n3 c3), (9, ptrV b), (10, s), (12, ptrV b2), (13, s2), (15, iV i)]) ?_ fun l hh hJ => ?_
        · skip
          refine w_seq ?_
          refine w_region (by kernel_rfl) ?_
          refine o_fieldAddr (off := 0) gn rfl rfl (by kernel_rfl) ?_
          refine o_load gn rfl rfl (by kernel_rfl) (by assumption) rfl ?_
          refine wl_end ?_
          refine w_block ?_
          refine w_seq ?_
          refine w_region (by kernel_rfl) ?_
          refine o_eqi gn rfl rfl rfl ?_
          refine o_assign gn rfl rfl ?_
          refine wl_end ?_
          refine w_cond rfl (fun hb => ?_) fun hb => ?_
          · skip
            refine w_seq ?_
            refine w_draw [(0, []), (1, []), (2, []), (4, []), (5, []), (6, []), (3, [6]), (7, []), (8, [])] (by kernel_rfl) (by kernel_rfl) (by kernel_rfl) (by kernel_rfl) ?_
            refine o_move gn rfl rfl ?_
            refine o_fieldAddr (off := 1) gn rfl rfl (by kernel_rfl) ?_
            refine o_load gn rfl rfl (by kernel_rfl) (by assumption) rfl ?_
            refine o_move gn rfl rfl ?_
            refine o_fieldAddr (off := 1) gn rfl rfl (by kernel_rfl) ?_
            refine o_load gn rfl rfl (by kernel_rfl) (by assumption) rfl ?_
            refine o_call [_, _] gn rfl rfl (by kernel_rfl) rfl (C.mono (c13 hf4.p.x (by omega)) ?_)
            rintro v5 h5 ⟨rfl, xa5, g5⟩
            have gl5 := (g5.get hh.n (by omega) (fun hm => by have := hf.p.lt _ (.inl hm); omega)).trans g4
            refine ⟨(ag1 (ag_load gn rfl (by kernel_rfl) (by assumption) rfl rfl same_int) ag0), ?_⟩
            refine o_call [_, _] gn rfl rfl (by kernel_rfl) rfl (C.mono (c14 (hf4.p.r.keep g5 fun i hi hj => hf.p.ap i hj hi)) ?_)
            rintro v6 h6 ⟨rfl, rb6, g6⟩
            have t6 := hf4.p.both xa5 g5 rb6 g6
            refine ⟨ag0, ?_⟩
            refine o_neb gn rfl rfl rfl (by kernel_rfl) ?_
            refine wl_end ?_
            refine w_cond rfl (fun hb => ?_) fun hb => ?_
            · skip
              refine w_seq ?_
              refine w_region (by kernel_rfl) ?_
              refine o_assign gn rfl rfl ?_
              refine wl_end ?_
              refine w_ret ?_
              refine ⟨.inl rfl, _, rfl, ?_⟩
              simp at hb
            · skip
              refine w_skip ?_
              exact ⟨_, (by repeat (first | exact trivial | refine ⟨rfl, ?_⟩)), ⟨_, addO_len _ _, hf4.first t6, hx4.of t6.2 hf.p.new, rfl⟩⟩
          · skip
            refine w_seq ?_
            refine w_region (by kernel_rfl) ?_
            refine o_eqi gn rfl rfl rfl ?_
            refine o_assign gn rfl rfl ?_
            refine wl_end ?_
            refine w_cond rfl (fun hb => ?_) fun hb => ?_
            · skip
              refine w_seq ?_
              refine w_draw [(0, []), (1, []), (2, []), (4, []), (5, []), (6, []), (3, [6]), (7, []), (8, [])] (by kernel_rfl) (by kernel_rfl) (by kernel_rfl) (by kernel_rfl) ?_
              refine o_move gn rfl rfl ?_
              refine o_fieldAddr (off := 1) gn rfl rfl (by kernel_rfl) ?_
              refine o_load gn rfl rfl (by kernel_rfl) (by assumption) rfl ?_
              refine o_move gn rfl rfl ?_
              refine o_fieldAddr (off := 1) gn rfl rfl (by kernel_rfl) ?_
              refine o_load gn rfl rfl (by kernel_rfl) (by assumption) rfl ?_
              refine o_call [_, _] gn rfl rfl (by kernel_rfl) rfl (C.mono (c15 hf4.p.x (by omega)) ?_)
              rintro v5 h5 ⟨rfl, xa5, g5⟩
              have gl5 := (g5.get hh.n (by omega) (fun hm => by have := hf.p.lt _ (.inl hm); omega)).trans g4
              refine ⟨(ag1 (ag_load gn rfl (by kernel_rfl) (by assumption) rfl rfl same_int) ag0), ?_⟩
              refine o_call [_, _] gn rfl rfl (by kernel_rfl) rfl (C.mono (c16 (hf4.p.r.keep g5 fun i hi hj => hf.p.ap i hj hi)) ?_)
              rintro v6 h6 ⟨rfl, rb6, g6⟩
              have t6 := hf4.p.both xa5 g5 rb6 g6
              refine ⟨ag0, ?_⟩
              refine o_neb gn rfl rfl rfl (by kernel_rfl) ?_
              refine wl_end ?_
              refine w_cond rfl (fun hb => ?_) fun hb => ?_
              · skip
                refine w_seq ?_
                refine w_region (by kernel_rfl) ?_
                refine o_assign gn rfl rfl ?_
                refine wl_end ?_
                refine w_ret ?_
                refine ⟨.inl rfl, _, rfl, ?_⟩
                simp at hb
              · skip
                refine w_skip ?_
                exact ⟨_, (by repeat (first | exact trivial | refine ⟨rfl, ?_⟩)), ⟨_, dropO_len _ _, hf4.first t6, hx4.of t6.2 hf.p.new, rfl⟩⟩
            · skip
              refine w_seq ?_
              refine w_region (by kernel_rfl) ?_
              refine o_eqi gn rfl rfl rfl ?_
              refine o_assign gn rfl rfl ?_
              refine wl_end ?_
              refine w_cond rfl (fun hb => ?_) fun hb => ?_
              · skip
                refine w_seq ?_
                refine w_region (by kernel_rfl) ?_
                refine o_move gn rfl rfl ?_
                refine o_move gn rfl rfl ?_
                refine o_call [_, _] gn rfl rfl (by kernel_rfl) rfl (C.mono (c33' hf4.p.x hf4.q.x (fun i hi hj => (hf.d i (List.mem_append.2 (.inl hj))).1 hi) (by omega)) ?_)
                rintro v5 h5 ⟨rfl, xa5, g5⟩
                refine ⟨ag0, ?_⟩
                refine o_move gn rfl rfl ?_
                refine o_move gn rfl rfl ?_
                refine o_call [_, _] gn rfl rfl (by kernel_rfl) rfl (C.mono (c32' (hf4.p.r.keep g5 fun i hi hj => hf.p.ap i hj hi) (hf4.q.r.keep g5 fun i hi hj => (hf.d i (List.mem_append.2 (.inl hj))).2 hi) (fun i hi hj => (hf.d i (List.mem_append.2 (.inr hj))).2 hi) (by omega)) ?_)
                rintro v6 h6 ⟨rfl, rb6, g6⟩
                have t6 := hf4.p.both xa5 g5 rb6 g6
                refine ⟨ag0, ?_⟩
                refine o_neb gn rfl rfl rfl (by kernel_rfl) ?_
                refine wl_end ?_
                refine w_cond rfl (fun hb => ?_) fun hb => ?_
                · skip
                  refine w_seq ?_
                  refine w_region (by kernel_rfl) ?_
                  refine o_assign gn rfl rfl ?_
                  refine wl_end ?_
                  refine w_ret ?_
                  refine ⟨.inl rfl, _, rfl, ?_⟩
                  simp at hb
                · skip
                  refine w_skip ?_
                  exact ⟨_, (by repeat (first | exact trivial | refine ⟨rfl, ?_⟩)), ⟨_, orB_len _ _, hf4.first t6, hx4.of t6.2 hf.p.new, rfl⟩⟩
              · skip
                refine w_skip ?_
                exact ⟨_, (by repeat (first | exact trivial | refine ⟨rfl, ?_⟩)), ⟨_, rfl, hf4, hx4, rfl⟩⟩
        · obtain ⟨bs5, hl5, hf5, hx5, rfl⟩ := hJ
          refine w_seq ?_
          refine w_region (by kernel_rfl) ?_
          refine o_move gn rfl rfl ?_
          refine o_move gn rfl rfl ?_
          refine o_call [_, _] gn rfl rfl (by kernel_rfl) rfl (C.mono (c17 hf5.p.x hf5.p.r (tb.ext hx5) (by omega)) ?_)
          rintro v7 h7 ⟨rfl, x7⟩
          have hf7 := hf5.ext x7
          have hx7 := hx5.trans x7
          refine ⟨ag0, ?_⟩
          refine o_not gn rfl rfl ?_
          refine o_move gn rfl rfl ?_
          refine wl_split (dc := 89) rfl (fun hb89 => ?_) fun hb89 => ?_
          · skip
            simp at hb89
          · skip
            refine o_move (gy rfl rfl rfl hb89) rfl rfl ?_
            refine o_move (gy rfl rfl rfl hb89) rfl rfl ?_
            refine o_call [_, _] (gy rfl rfl rfl hb89) rfl rfl (by kernel_rfl) rfl (C.mono (c17 hf7.q.x hf7.q.r (tb.ext hx7) (by omega)) ?_)
            rintro v8 h8 ⟨rfl, x8⟩
            have hf8 := hf7.ext x8
            have hx8 := hx7.trans x8
            refine ⟨ag0, ?_⟩
            refine o_not (gy rfl rfl rfl hb89) rfl rfl ?_
            refine o_pickf gn rfl rfl hb89 rfl ?_
            refine o_move gn rfl rfl ?_
            refine o_or (n := 7) rfl rfl rfl gn rfl (fun hb => by
                refine o_move (gy rfl rfl rfl hb) rfl rfl ?_
                refine o_move (gy rfl rfl rfl hb) rfl rfl ?_
                refine o_call [_, _] (gy rfl rfl rfl hb) rfl rfl (by kernel_rfl) rfl (c_pure (c34' hf8.p.x hf8.q.x (by omega)) ⟨ag0, ?_⟩)
                refine o_move (gy rfl rfl rfl hb) rfl rfl ?_
                refine o_move (gy rfl rfl rfl hb) rfl rfl ?_
                refine o_call [_, _] (gy rfl rfl rfl hb) rfl rfl (by kernel_rfl) rfl (c_pure (c35' hf8.p.r hf8.q.r (by omega)) ⟨ag0, ?_⟩)
                refine o_neb (gy rfl rfl rfl hb) rfl rfl rfl (by kernel_rfl) ?_
                exact wl_end ⟨rfl, rfl, 7, rfl, rfl⟩) ?_
            refine o_move gn rfl rfl ?_
            refine o_or (n := 7) rfl rfl rfl gn rfl (fun hb => by
                refine o_move (gy rfl rfl rfl hb) rfl rfl ?_
                refine o_move (gy rfl rfl rfl hb) rfl rfl ?_
                refine o_call [_, _] (gy rfl rfl rfl hb) rfl rfl (by kernel_rfl) rfl (c_pure (c34' hf8.q.x hf8.p.x (by omega)) ⟨ag0, ?_⟩)
                refine o_move (gy rfl rfl rfl hb) rfl rfl ?_
                refine o_move (gy rfl rfl rfl hb) rfl rfl ?_
                refine o_call [_, _] (gy rfl rfl rfl hb) rfl rfl (by kernel_rfl) rfl (c_pure (c35' hf8.q.r hf8.p.r (by omega)) ⟨ag0, ?_⟩)
                refine o_neb (gy rfl rfl rfl hb) rfl rfl rfl (by kernel_rfl) ?_
                exact wl_end ⟨rfl, rfl, 7, rfl, rfl⟩) ?_
            refine o_move gn rfl rfl ?_
            refine wl_split (dc := 113) rfl (fun hb113 => ?_) fun hb113 => ?_
            · skip
              simp at hb113
            · skip
              refine o_move (gy rfl rfl rfl hb113) rfl rfl ?_
              refine o_move (gy rfl rfl rfl hb113) rfl rfl ?_
              refine o_call [_, _] (gy rfl rfl rfl hb113) rfl rfl (by kernel_rfl) rfl (C.mono (c12' hf8.p.x hf8.q.x (tb.ext hx8) (by omega) (by omega)) ?_)
              rintro v9 h9 ⟨rfl, x9⟩
              have hf9 := hf8.ext x9
              have hx9 := hx8.trans x9
              refine ⟨ag0, ?_⟩
              refine o_move (gy rfl rfl rfl hb113) rfl rfl ?_
              refine o_move (gy rfl rfl rfl hb113) rfl rfl ?_
              refine o_call [_, _] (gy rfl rfl rfl hb113) rfl rfl (by kernel_rfl) rfl (C.mono (c18' hf9.p.r hf9.q.r (by omega) (by omega)) ?_)
              rintro _ _ ⟨rfl, rfl⟩
              refine ⟨ag0, ?_⟩
              refine o_neb (gy rfl rfl rfl hb113) rfl rfl rfl (by kernel_rfl) ?_
              refine o_pickf gn rfl rfl hb113 rfl ?_
              refine o_move gn rfl rfl ?_
              refine wl_split (dc := 122) rfl (fun hb122 => ?_) fun hb122 => ?_
              · skip
                simp at hb122
              · skip
                refine o_move (gy rfl rfl rfl hb122) rfl rfl ?_
                refine o_move (gy rfl rfl rfl hb122) rfl rfl ?_
                refine o_call [_, _] (gy rfl rfl rfl hb122) rfl rfl (by kernel_rfl) rfl (C.mono (c12' hf9.q.x hf9.p.x (tb.ext hx9) (by omega) (by omega)) ?_)
                rintro v10 h10 ⟨rfl, x10⟩
                have hf10 := hf9.ext x10
                have hx10 := hx9.trans x10
                refine ⟨ag0, ?_⟩
                refine o_move (gy rfl rfl rfl hb122) rfl rfl ?_
                refine o_move (gy rfl rfl rfl hb122) rfl rfl ?_
                refine o_call [_, _] (gy rfl rfl rfl hb122) rfl rfl (by kernel_rfl) rfl (C.mono (c18' hf10.p.r hf10.q.r (by omega) (by omega)) ?_)
                rintro _ _ ⟨rfl, rfl⟩
                rw [sameD_comm bm bs5]
                refine ⟨ag0, ?_⟩
                refine o_neb (gy rfl rfl rfl hb122) rfl rfl rfl (by kernel_rfl) ?_
                refine o_pickf gn rfl rfl hb122 rfl ?_
                refine wl_end ?_
                refine w_cond rfl (fun hb => ?_) fun hb => ?_
                · skip
                  refine w_seq ?_
                  refine w_region (by kernel_rfl) ?_
                  refine o_assign gn rfl rfl ?_
                  refine wl_end ?_
                  refine w_ret ?_
                  refine ⟨.inl rfl, _, rfl, ?_⟩
                  simp at hb
                · skip
                  refine w_skip ?_
                  refine w_region (by kernel_rfl) ?_
                  refine o_move gn rfl rfl ?_
                  refine o_add gn rfl rfl rfl (by omega) (by omega) ?_
                  refine o_assign gn rfl rfl ?_
                  refine wl_end ?_
                  exact ⟨(n3 - (i + 1)).toNat, by omega, _, (by repeat (first | exact trivial | refine ⟨rfl, ?_⟩)), ⟨i + 1, bs5, by omega, by omega, rfl, by omega, hf10, hx10, rfl⟩⟩
      · skip
        refine w_exit ?_
        refine thn_exit ?_
        refine rnd_exit ?_
        refine blk_eq ?_
        refine w_seq ?_
        refine w_region (by kernel_rfl) ?_
        refine o_orc (f := 8) (v := .bool true) gn rfl (by kernel_rfl) (by kernel_rfl) ag0 ?_
        refine o_assign gn rfl rfl ?_
        refine wl_end ?_
        refine w_ret ?_
        refine ⟨.inl rfl, _, rfl, ?_⟩
        rfl

end Go.Proofs.YtgcapnlfkomgpaaDoor


namespace Go.X
open Go.RowKit
section
variable {E : Env} {fn : FuncId} {nt : Nat} {l l' : Kn} {h h' : Hp} {dr : Bool} {ops : Array Oper} {fin rest : List (Oper × List Oper)} {R : Kn → Hp → Prop} {lt : List Oper}
variable {d : Nat} {ty ty2 : TypeId} {pos : String} {af : Array Edge} {gg : Option (Nat × Bool)} {x y z : Operand} {v u : Value} {t : TypeId} {k : IntKind} {a b : Int}

theorem o_addW (g : Gd ops l gg) (hd : Nat.blt d nt = true) (hx : evl l x = some (.int .i64 a)) (hy : evl l y = some (.int .i64 b))
    (q : WL E fn nt dr ops fin rest ((d, .int .i64 (IntKind.i64.wrap (a + b))) :: l) h R) :
    WL E fn nt dr ops fin ((⟨some d, .binOp .add t x y ty2, ty, pos, af, gg⟩, lt) :: rest) l h R := o_int2 g hd hx hy rfl (by simp only [intBin, someI_eq, wrapX_eq]) q

theorem o_sliceTo {bb o n c : Nat} {vs : List Value} {e : TypeId} {m : Nat} {j : Int} (g : Gd ops l gg) (hd : Nat.blt d nt = true) (hx : evl l x = some (.slice (some ⟨bb, o, none⟩) n c)) (hy : evl l y = some (.int k j))
    (hz : elemZ E t = some 1) (hg : h.get bb = some (.cells vs e m)) (hm : m = 0 ∨ m = 3) (h1 : 0 ≤ j) (h2 : j ≤ c)
    (q : WL E fn nt dr ops fin rest ((d, .slice (some ⟨bb, o, none⟩) j.toNat c) :: l) h R) : WL E fn nt dr ops fin ((⟨some d, .slice t x none (some y) none, ty, pos, af, gg⟩, lt) :: rest) l h R :=
  wl_read g rfl (fun _ ag => by
    obtain ⟨e', he, hs⟩ := elemZ_und hz
    have hb : boundsOk 0 j.toNat c = true := boundsOk_iff.2 ⟨Nat.zero_le _, by omega⟩
    have e1 : Nat.beq 1 1 = true := rfl
    rcases hm with rfl | rfl
    · simp only [readX, ag.ev hx, Option.map_none, Option.map_some, ag.ev hy, sliceX, he, hs, optNat, natOf_int h1, modeOf, hg, hb, cond_true, Nat.zero_mul, addr_add, Nat.add_zero, Nat.sub_zero, Bool.cond_self]
    · simp only [readX, ag.ev hx, Option.map_none, Option.map_some, ag.ev hy, sliceX, he, hs, optNat, natOf_int h1, modeOf, hg, hb, e1, Bool.and_self, cond_true, Nat.zero_mul, addr_add, Nat.add_zero, Nat.sub_zero]) (wn hd) q
end

theorem Src.upto {h : Hp} {b n c k : Nat} {e : TypeId} {m : Nat} {vs : List Value} (hg : h.get b = some (.cells vs e m)) (hb : b < h.n) (hc : vs.all cellV = true) (hk : k ≤ vs.length) (hn : n = k) :
    Src h (.slice (some ⟨b, 0, none⟩) n c) (vs.take k) := by
  subst hn
  have hl : (vs.take n).length = n := by rw [List.length_take]; omega
  refine ⟨by simp [lenOfX, hl], ?_, ?_, fun a' n' c' e => by cases e; exact hb⟩
  · rw [hl]
    have e2 : Nat.ble n n = true := (ble_iff _ _).2 (Nat.le_refl _)
    by_cases h0 : n = 0
    · subst h0; rfl
    · have e3 : Nat.beq n 0 = false := (beq_false _ _).2 h0
      have e4 : Nat.ble (0 + n) vs.length = true := (ble_iff _ _).2 (by omega)
      simp only [firstX, e2, cond_true, e3, cond_false, Nat.mul_one, rowOf, hg, e4, List.drop_zero]
  · rw [List.all_eq_true] at hc ⊢
    exact fun x hx => hc x (List.mem_of_mem_take hx)

end Go.X

namespace Go.Proofs.YtgcapnlfkomgpaaDoor
open Go.X

theorem sameD_self (a : List Bool) : sameD a a = true := by simp only [sameD, decide_eq_true_eq]; exact fun _ => rfl
theorem all_ns (l : List Nat) : (nsV l).all cellV = true := by simp [List.all_map, List.all_eq_true, cellV]
theorem c21s {h : Hp} {l : List Nat} {a a' : Option Addr} {n n' c c' : Nat} (q1 : Src h (.slice a n c) (nsV l)) (q2 : Src h (.slice a' n' c') (nsV l)) (hn : l.length ≤ 100000) :
    CP bitsE 21 [.slice a n c, .slice a' n' c'] h (.bool true) := by
  rw [ns_is] at q1 q2
  have := c21 q1 q2 (by simpa using hn)
  simpa using this
theorem takeM_len (l : List Nat) (m : Int) : (takeM l m).length ≤ l.length := by
  unfold takeM
  split
  · rw [List.length_take]; omega
  · omega

section
variable {n0 : Nat} {h h' : Hp} {b : Nat} {s : Value} {bs : List Bool} {own B : List Nat} {b2 : Nat} {s2 : Value} {bs2 : List Bool} {own2 B2 cs : List Nat}
theorem Four.lt (t : Four n0 h b s bs own B b2 s2 bs2 own2 B2) : ∀ i, i ∈ (own ++ B) ++ (own2 ++ B2) → i < h.n := fun i hi => by
  rcases List.mem_append.1 hi with hi | hi
  · exact t.p.lt' i hi
  · exact t.q.lt' i hi
theorem Four.keep (t : Four n0 h b s bs own B b2 s2 bs2 own2 B2) (g : ExtB cs h h') (hd : ∀ i, i ∈ (own ++ B) ++ (own2 ++ B2) → i ∉ cs) : Four n0 h' b s bs own B b2 s2 bs2 own2 B2 :=
  ⟨t.p.keep g (fun i hi => hd i (by simp [hi])) (fun i hi => hd i (by simp [hi])), t.q.keep g (fun i hi => hd i (by simp [hi])) (fun i hi => hd i (by simp [hi])), t.d⟩
end

/-- BitsCopies -/
theorem c3 {h : Hp} {n k most : Int} {a : Option Addr} {c : Nat} {xs : List Int} (tb : Tab h) (hs : Src h (.slice a xs.length c) (isV xs)) :
    C bitsE 3 [iV n, .slice a xs.length c, iV k, iV most] h fun v _ => v = .bool true := by
  refine c_enterR (fu := Tryd.f3) (by kernel_rfl) rfl ?_
  refine w_seq ?_
  refine w_region (by kernel_rfl) ?_
  refine o_assign gn rfl rfl ?_
  refine wl_end ?_
  refine w_seq ?_
  refine w_region (by kernel_rfl) ?_
  refine o_move gn rfl rfl ?_
  refine o_move gn rfl rfl ?_
  refine o_call [_, _] gn rfl rfl (by kernel_rfl) rfl (C.mono (c7' hs) ?_)
  rintro v1 h1 ⟨x1, p1, s, ok1, rfl, q1⟩
  refine ⟨ag0, ?_⟩
  refine o_move gn rfl rfl ?_
  refine o_extract gn rfl rfl rfl ?_
  refine o_extract gn rfl rfl rfl ?_
  refine o_extract gn rfl rfl rfl ?_
  refine o_assign gn rfl rfl ?_
  refine o_assign gn rfl rfl ?_
  refine o_assign gn rfl rfl ?_
  refine wl_end ?_
  refine w_seq ?_
  refine w_seq ?_
  refine w_region (by kernel_rfl) ?_
  refine o_move gn rfl rfl ?_
  refine o_not gn rfl rfl ?_
  refine wl_end ?_
  refine w_cond rfl (fun hb => ?_) fun hb => ?_
  · skip
    refine w_seq ?_
    refine w_region (by kernel_rfl) ?_
    refine o_orc (f := 8) (v := .bool true) gn rfl (by kernel_rfl) (by kernel_rfl) ag0 ?_
    refine o_assign gn rfl rfl ?_
    refine wl_end ?_
    refine w_ret ?_
    refine ⟨.inl rfl, _, (resH_tmp rfl rfl), fun h2 hco => ?_⟩
    rfl
  · skip
    have hq : ok1 = true := by simpa using hb
    subst hq
    obtain ⟨hn, b, own, B, rfl, t1⟩ := q1 rfl
    have hl0 : (ofB n xs).length ≤ 600 := by rw [ofB_len]; omega
    generalize ofB n xs = bs at *
    obtain ⟨ws, sw, Bw, xs1, hown⟩ := t1.x
    refine w_skip ?_
    refine w_seq ?_
    refine w_region (by kernel_rfl) ?_
    refine o_move gn rfl rfl ?_
    refine o_call [_] gn rfl rfl (by kernel_rfl) rfl (C.mono (c9 xs1 (by omega)) ?_)
    rintro v2 h2 ⟨b2, own2, rfl, xa2, fa2, x2⟩
    refine ⟨ag0, ?_⟩
    refine o_move gn rfl rfl ?_
    refine o_call [_] gn rfl rfl (by kernel_rfl) rfl (C.mono (c10 (t1.r.ext x2) (by omega)) ?_)
    rintro s2 h3 ⟨B2, rb2, fb2, x3⟩
    have x2n := x2.n
    have t2 : TwoS h1.n h3 b2 s2 bs own2 B2 := ⟨xa2.ext x3, rb2, fun i hi hj => by have := xa2.lt i hi; have := fb2 i hj; omega, fa2, fun i hi => by have := fb2 i hi; omega⟩
    have f3 := four_new t1 (x2.trans x3) x1.n t2
    have hx3 := x1.trans (x2.trans x3)
    refine ⟨ag0, ?_⟩
    refine o_assign gn rfl rfl ?_
    refine o_assign gn rfl rfl ?_
    refine wl_end ?_
    refine w_seq ?_
    refine w_region (by kernel_rfl) ?_
    refine o_move gn rfl rfl ?_
    refine o_call [_] gn rfl rfl (by kernel_rfl) rfl (C.mono (c11 (xs1.keep ((x2.trans x3).b []) (by simp)) (by omega)) ?_)
    rintro v4 h4 ⟨cc, Bc, rfl, ha4, fa4, x4⟩
    have f4 := f3.ext x4
    have hx4 := hx3.trans x4
    have hal := ha4.lt
    have hl3 := f3.lt
    have hnew := f3.p.new
    have hdis : ∀ i, i ∈ cc :: Bc → i ∉ own ++ B := fun i hi hj => by have := fa4 i hi; have := f3.p.lt' i hj; omega
    refine ⟨ag0, ?_⟩
    refine o_assign gn rfl rfl ?_
    refine wl_end ?_
    refine w_seq ?_
    refine w_seq ?_
    refine w_region (by kernel_rfl) ?_
    refine o_move gn rfl rfl ?_
    refine o_eqf gn rfl rfl rfl (by kernel_rfl) ?_
    refine o_move gn rfl rfl ?_
    refine wl_split (dc := 38) rfl (fun hb38 => ?_) fun hb38 => ?_
    · skip
      cases hb38
    · skip
      refine o_move (gy rfl rfl rfl hb38) rfl rfl ?_
      refine o_move (gy rfl rfl rfl hb38) rfl rfl ?_
      refine o_call [_, _] (gy rfl rfl rfl hb38) rfl rfl (by kernel_rfl) rfl (C.mono (c12' f4.q.x f4.p.x (tb.ext hx4) (by omega) (by omega)) ?_)
      rintro v5 h5 ⟨rfl, x5⟩
      rw [sameD_self]
      have f5 := f4.ext x5
      have hx5 := hx4.trans x5
      have ha5 := ha4.ext x5
      refine ⟨ag0, ?_⟩
      refine o_not (gy rfl rfl rfl hb38) rfl rfl ?_
      refine o_pickf gn rfl rfl hb38 rfl ?_
      refine o_move gn rfl rfl ?_
      refine wl_split (dc := 44) rfl (fun hb44 => ?_) fun hb44 => ?_
      · skip
        simp at hb44
      · skip
        refine o_move (gy rfl rfl rfl hb44) rfl rfl ?_
        refine o_move (gy rfl rfl rfl hb44) rfl rfl ?_
        refine o_call [_, _] (gy rfl rfl rfl hb44) rfl rfl (by kernel_rfl) rfl (C.mono (c12' f5.p.x f5.q.x (tb.ext hx5) (by omega) (by omega)) ?_)
        rintro v6 h6 ⟨rfl, x6⟩
        rw [sameD_self]
        have f6 := f5.ext x6
        have hx6 := hx5.trans x6
        have ha6 := ha5.ext x6
        refine ⟨ag0, ?_⟩
        refine o_not (gy rfl rfl rfl hb44) rfl rfl ?_
        refine o_pickf gn rfl rfl hb44 rfl ?_
        refine wl_end ?_
        refine w_cond rfl (fun hb => ?_) fun hb => ?_
        · skip
          refine w_seq ?_
          refine w_region (by kernel_rfl) ?_
          refine o_assign gn rfl rfl ?_
          refine wl_end ?_
          refine w_ret ?_
          refine ⟨.inl rfl, _, (resH_tmp rfl rfl), fun h2 hco => ?_⟩
          simp at hb
        · skip
          refine w_skip ?_
          refine w_seq ?_
          refine w_region (by kernel_rfl) ?_
          refine o_move gn rfl rfl ?_
          refine o_move gn rfl rfl ?_
          refine o_call [_, _] gn rfl rfl (by kernel_rfl) rfl (C.mono (c13 f6.p.x (by omega)) ?_)
          rintro v7 h7 ⟨rfl, xa7, g7⟩
          refine ⟨ag0, ?_⟩
          refine wl_end ?_
          refine w_seq ?_
          refine w_region (by kernel_rfl) ?_
          refine o_move gn rfl rfl ?_
          refine o_move gn rfl rfl ?_
          refine o_call [_, _] gn rfl rfl (by kernel_rfl) rfl (C.mono (c14 (f6.p.r.keep g7 fun i hi hj => f6.p.ap i hj hi)) ?_)
          rintro v8 h8 ⟨rfl, rb8, g8⟩
          have t8 := f6.p.both xa7 g7 rb8 g8
          have f8 := f6.first t8
          have hx8 := hx6.of t8.2 hnew
          have ha8 := ha6.keep t8.2 hdis
          have hl8 : (addO bs k).length ≤ 600 := by rw [addO_len]; exact hl0
          refine ⟨ag0, ?_⟩
          refine wl_end ?_
          refine w_seq ?_
          refine w_region (by kernel_rfl) ?_
          refine o_move gn rfl rfl ?_
          refine o_move gn rfl rfl ?_
          refine o_addW gn rfl rfl rfl ?_
          refine o_call [_, _] gn rfl rfl (by kernel_rfl) rfl (C.mono (c15 f8.p.x (by omega)) ?_)
          rintro v9 h9 ⟨rfl, xa9, g9⟩
          refine ⟨ag0, ?_⟩
          refine wl_end ?_
          refine w_seq ?_
          refine w_region (by kernel_rfl) ?_
          refine o_move gn rfl rfl ?_
          refine o_move gn rfl rfl ?_
          refine o_addW gn rfl rfl rfl ?_
          refine o_call [_, _] gn rfl rfl (by kernel_rfl) rfl (C.mono (c16 (f8.p.r.keep g9 fun i hi hj => f8.p.ap i hj hi)) ?_)
          rintro v10 h10 ⟨rfl, rb10, g10⟩
          have t10 := f8.p.both xa9 g9 rb10 g10
          have f10 := f8.first t10
          have hx10 := hx8.of t10.2 hnew
          have ha10 := ha8.keep t10.2 hdis
          have hl10 : (dropO (addO bs k) (IntKind.i64.wrap (k + 1))).length ≤ 600 := by rw [dropO_len]; exact hl8
          generalize dropO (addO bs k) (IntKind.i64.wrap (k + 1)) = bz at *
          refine ⟨ag0, ?_⟩
          refine wl_end ?_
          refine w_seq ?_
          refine w_seq ?_
          refine w_region (by kernel_rfl) ?_
          refine o_move gn rfl rfl ?_
          refine o_move gn rfl rfl ?_
          refine o_call [_, _] gn rfl rfl (by kernel_rfl) rfl (C.mono (c17 f10.p.x f10.p.r (tb.ext hx10) (by omega)) ?_)
          rintro v11 h11 ⟨rfl, x11⟩
          have f11 := f10.ext x11
          have hx11 := hx10.trans x11
          refine ⟨ag0, ?_⟩
          refine o_not gn rfl rfl ?_
          refine o_move gn rfl rfl ?_
          refine wl_split (dc := 68) rfl (fun hb68 => ?_) fun hb68 => ?_
          · skip
            simp at hb68
          · skip
            refine o_move (gy rfl rfl rfl hb68) rfl rfl ?_
            refine o_move (gy rfl rfl rfl hb68) rfl rfl ?_
            refine o_call [_, _] (gy rfl rfl rfl hb68) rfl rfl (by kernel_rfl) rfl (C.mono (c17 f11.q.x f11.q.r (tb.ext hx11) (by omega)) ?_)
            rintro v12 h12 ⟨rfl, x12⟩
            have f12 := f11.ext x12
            have hx12 := hx11.trans x12
            refine ⟨ag0, ?_⟩
            refine o_not (gy rfl rfl rfl hb68) rfl rfl ?_
            refine o_pickf gn rfl rfl hb68 rfl ?_
            refine o_move gn rfl rfl ?_
            refine wl_split (dc := 74) rfl (fun hb74 => ?_) fun hb74 => ?_
            · skip
              simp at hb74
            · skip
              refine o_move (gy rfl rfl rfl hb74) rfl rfl ?_
              refine o_move (gy rfl rfl rfl hb74) rfl rfl ?_
              refine o_call [_, _] (gy rfl rfl rfl hb74) rfl rfl (by kernel_rfl) rfl (C.mono (c12' f12.p.x f12.q.x (tb.ext hx12) (by omega) (by omega)) ?_)
              rintro v13 h13 ⟨rfl, x13⟩
              have f13 := f12.ext x13
              have hx13 := hx12.trans x13
              have ha13 := ((ha10.ext x11).ext x12).ext x13
              refine ⟨ag0, ?_⟩
              refine o_move (gy rfl rfl rfl hb74) rfl rfl ?_
              refine o_move (gy rfl rfl rfl hb74) rfl rfl ?_
              refine o_call [_, _] (gy rfl rfl rfl hb74) rfl rfl (by kernel_rfl) rfl (C.mono (c18' f13.p.r f13.q.r (by omega) (by omega)) ?_)
              rintro _ h13 ⟨rfl, rfl⟩
              refine ⟨ag0, ?_⟩
              refine o_neb (gy rfl rfl rfl hb74) rfl rfl rfl (by kernel_rfl) ?_
              refine o_pickf gn rfl rfl hb74 rfl ?_
              refine wl_end ?_
              refine w_cond rfl (fun hb => ?_) fun hb => ?_
              · skip
                refine w_seq ?_
                refine w_region (by kernel_rfl) ?_
                refine o_assign gn rfl rfl ?_
                refine wl_end ?_
                refine w_ret ?_
                refine ⟨.inl rfl, _, (resH_tmp rfl rfl), fun h2 hco => ?_⟩
                simp at hb
              · skip
                refine w_skip ?_
                refine w_seq ?_
                refine w_region (by kernel_rfl) ?_
                refine o_alloc (zv := .slice none 0 0) gn rfl (by kernel_rfl) ?_
                refine wl_at (fun hz => hz.get h13.n = some (.cells [.slice none 0 0] 22 0) ∧ Ext h13 hz ∧ hz.n = h13.n + 1) ⟨Hp.get_alloc_self _ _, Ext.alloc _ _, Hp.n_alloc _ _⟩ fun h14 ⟨g14, x14, n14⟩ => ?_
                have f14 := f13.ext x14
                have hx14 := hx13.trans x14
                have ha14 := ha13.ext x14
                have hl13 := f13.lt
                have ha13l := ha13.lt
                have hob := onesB_le bs
                have hoz := onesB_le bz
                refine wl_end ?_
                refine w_seq ?_
                refine w_seq ?_
                refine w_region (by kernel_rfl) ?_
                refine o_move gn rfl rfl ?_
                refine wl_end ?_
                refine w_block ?_
                refine w_weak [(3, iV most), (9, ptrV b), (10, s), (13, s2), (15, ptrV h13.n), (83, .func (.func 42) #[] #[ptrV cc])] (by repeat (first | exact trivial | refine ⟨rfl, ?_⟩)) ?_
                refine w_rangeA rfl rfl (by kernel_rfl) (by kernel_rfl) (by kernel_rfl) (by kernel_rfl) fun rc hR h0 hx0 hn0 hrc => ?_
                have k2 := (hx0.get h13.n (by omega)).trans g14
                have hcn : ∀ B3 : List Nat, (∀ i, i ∈ B3 → h0.n ≤ i) → ∀ i, i ∈ h13.n :: (h14.n + 1) :: B3 → i ∉ cc :: Bc ∧ i ≠ 0 := fun B3 hB i hi => by
                  simp only [List.mem_cons] at hi
                  have h5 : h13.n ≤ i := by
                    rcases hi with hi | hi | hi
                    · omega
                    · omega
                    · have := hB i hi; omega
                  have h6 := ha13l cc (by simp)
                  exact ⟨fun hj => by have := ha13l i hj; omega, by omega⟩
                have hround : ∀ k (hk : k < (onesB bs).length) (m1 : Hp), (m1.get (h14.n + 1) = some (rc .ready none) ∧ ExtB [h13.n, h14.n + 1] h0 m1 ∧ ∃ sv B3, m1.get h13.n = some (.cells [sv] 22 0) ∧ Sl 3 m1 sv (nsV ((onesB bs).take k)) B3 ∧ ∀ i, i ∈ B3 → h0.n ≤ i) → AllAt m1 cc bs Bc → Tab m1 → Y bitsE (h14.n + 1) [iV (((onesB bs)[k] : Nat) : Int)] m1 fun v m2 => (∃ cs, ExtB cs m1 m2 ∧ ∀ i, i ∈ cs → i ∉ cc :: Bc ∧ i ≠ 0) ∧
                  ((v = .bool true ∧ (m2.get (h14.n + 1) = some (rc .ready none) ∧ ExtB [h13.n, h14.n + 1] h0 m2 ∧ ∃ sv B3, m2.get h13.n = some (.cells [sv] 22 0) ∧ Sl 3 m2 sv (nsV ((onesB bs).take (k + 1))) B3 ∧ ∀ i, i ∈ B3 → h0.n ≤ i)) ∨ (v = .bool false ∧ False)) := fun k hk m1 ⟨p1, p2, sv, B3, p4, p5, p6⟩ hA hT => by
                    refine hR.round p1 rfl ?_
                    refine w_region (by kernel_rfl) ?_
                    refine o_assign gn rfl rfl ?_
                    refine wl_end ?_
                    refine ⟨_, p1, ?_⟩
                    refine w_at (fun m3 => m3.get (h14.n + 1) = some (rc .busy none) ∧ m3.get h13.n = some (.cells [sv] 22 0) ∧ ExtB [h14.n + 1] m1 m3 ∧ m3.n = m1.n) ⟨Hp.get_put_self _ _ _, by rw [Hp.get_put, if_neg (by omega)]; exact p4, ExtB.put _ _ _, Hp.n_put _ _ _⟩ fun m3 ⟨q1, q2, q3, q4⟩ => ?_
                    have p2n := p2.n
                    have hs3 := p5.keep q3 (fun i hi hj => by have := p6 i hi; simp at hj; omega)
                    obtain ⟨asv, rfl⟩ := hs3.val
                    have hbl := hs3.lt
                    have htl : ((onesB bs).take k).length = k := by rw [List.length_take]; omega
                    have htk : (onesB bs).take (k + 1) = (onesB bs).take k ++ [(onesB bs)[k]] := by rw [List.take_add_one, List.getElem?_eq_getElem hk]; rfl
                    refine w_block ?_
                    refine w_region (by kernel_rfl) ?_
                    refine o_load gn rfl rfl (by kernel_rfl) q2 rfl ?_
                    refine o_move gn rfl rfl ?_
                    refine o_buildSlice (e := 3) (z := 0) (zv := .int .i64 0) [(0, _)] gn rfl (by kernel_rfl) (by kernel_rfl) (by kernel_rfl) (by kernel_rfl) rfl rfl ?_
                    obtain ⟨a7, h7, B7, b1, b2, b3, b4⟩ := push_ns (x := (((onesB bs)[k] : Nat) : Int)) (k := (onesB bs)[k]) rfl hs3 (by omega)
                    rw [← htk] at b1 b2
                    have n7 := b3.n
                    have hnB : ∀ j, j < h0.n → j ∉ B3 := fun j hj hm => by have := p6 j hm; omega
                    have f7 := (b3.get h13.n (by omega) (hnB _ (by omega))).trans q2
                    have f8' := (b3.get (h14.n + 1) (by omega) (hnB _ (by omega))).trans q1
                    refine o_append gn rfl rfl rfl b1 ag0 ?_
                    refine o_store gn rfl rfl rfl (by kernel_rfl) f7 (by decide) (by simp) ag0 ?_
                    refine wl_end ?_
                    have hB7 : ∀ i, i ∈ B7 → h0.n ≤ i := fun i hi => by
                      rcases b4 i hi with h9 | h9
                      · exact p6 i h9
                      · omega
                    have gx : ExtB (h13.n :: (h14.n + 1) :: B3) m1 ((h7.put h13.n (.cells [.slice a7 (nsV ((onesB bs).take (k + 1))).length (nsV ((onesB bs).take (k + 1))).length] 22 0)).put (h14.n + 1) (rc .ready none)) := (q3.mono (by simp)).trans ((b3.mono (fun j hj _ => by simp [hj])).trans (((ExtB.put _ _ _).mono (by simp)).trans ((ExtB.put _ _ _).mono (by simp))))
                    have gh : ExtB [h13.n, h14.n + 1] h0 ((h7.put h13.n (.cells [.slice a7 (nsV ((onesB bs).take (k + 1))).length (nsV ((onesB bs).take (k + 1))).length] 22 0)).put (h14.n + 1) (rc .ready none)) := ⟨Nat.le_trans p2n gx.n, fun i hi hn => (gx.get i (by omega) (fun hj => by
                      simp only [List.mem_cons] at hj
                      rcases hj with hj | hj | hj
                      · exact hn (by simp [hj])
                      · exact hn (by simp [hj])
                      · exact hnB i hi hj)).trans (p2.get i hi hn)⟩
                    have gp : ExtB [h13.n, h14.n + 1] h7 ((h7.put h13.n (.cells [.slice a7 (nsV ((onesB bs).take (k + 1))).length (nsV ((onesB bs).take (k + 1))).length] 22 0)).put (h14.n + 1) (rc .ready none)) := ((ExtB.put _ _ _).mono (by simp)).trans ((ExtB.put _ _ _).mono (by simp))
                    exact ⟨_, _, (by rw [Hp.get_put, if_neg (by omega)]; exact f8'), ⟨⟨_, gx, hcn B3 p6⟩, .inl ⟨rfl, Hp.get_put_self _ _ _, gh, _, B7, (by rw [Hp.get_put, if_neg (by omega)]; exact Hp.get_put_self _ _ _), b2.keep gp (fun i hi hj => by have := hB7 i hi; simp at hj; omega), hB7⟩⟩⟩
                refine C.mono (c42 (ha14.ext hx0) ((tb.ext hx14).ext hx0) (by omega) (fun k m1 => m1.get (h14.n + 1) = some (rc .ready none) ∧ ExtB [h13.n, h14.n + 1] h0 m1 ∧ ∃ sv B3, m1.get h13.n = some (.cells [sv] 22 0) ∧ Sl 3 m1 sv (nsV ((onesB bs).take k)) B3 ∧ ∀ i, i ∈ B3 → h0.n ≤ i) (fun _ => False) ⟨hrc, .refl _ _, .slice none 0 0, [], k2, .inl ⟨rfl, rfl, rfl⟩, by simp⟩ hround) ?_
                rintro v h' hPR
                obtain ⟨hrec, hxx, sv, B3, hcell, hsl, hB⟩ := hPR.resolve_right id
                rw [List.take_length] at hsl
                refine ⟨_, _, hrec, (by simp), fun m9 hx2 hn2 => ?_⟩
                refine aft_blk (.inl rfl) ?_
                have hxxn := hxx.n
                have hx2n := hx2.n
                have h13p := ha13l cc (by simp)
                have c9 := (hx2.get h13.n (by omega) (by simp; omega)).trans hcell
                have s9 := hsl.keep hx2 (fun i hi hj => by have := hB i hi; simp at hj; omega)
                have f9 := ((f14.ext hx0).keep hxx (fun i hi hj => by have := hl13 i hi; simp at hj; omega)).keep hx2 (fun i hi hj => by have := hl13 i hi; simp at hj; omega)
                have tb9 : Tab m9 := (((tb.ext hx14).ext hx0).keep hxx (by simp; omega)).keep hx2 (by simp)
                refine w_seq ?_
                refine w_region (by kernel_rfl) ?_
                refine o_move gn rfl rfl ?_
                refine o_move gn rfl rfl ?_
                refine o_call [_, _] gn rfl rfl (by kernel_rfl) rfl (C.mono (c19 f9.p.x tb9 (by omega)) ?_)
                rintro v20 h20 ⟨sv2, B20, rfl, s20, fb20, x20⟩
                obtain ⟨a20, rfl⟩ := s20.val
                refine ⟨ag0, ?_⟩
                refine o_move gn rfl rfl ?_
                refine o_extract gn rfl rfl rfl ?_
                refine o_extract gn rfl rfl rfl ?_
                refine o_assign gn rfl rfl ?_
                refine o_assign gn rfl rfl ?_
                refine wl_end ?_
                refine w_seq ?_
                refine w_region (by kernel_rfl) ?_
                refine o_move gn rfl rfl ?_
                refine o_call [_] gn rfl rfl (by kernel_rfl) rfl (C.mono (c20 (f9.p.r.ext x20) (by omega)) ?_)
                rintro v21 h21 ⟨B21, s21, fb21, x21⟩
                obtain ⟨a21, rfl⟩ := s21.val
                have c21c := ((x20.trans x21).get h13.n (by have := hxx.n; have := hx2.n; omega)).trans c9
                have hlen21 : (nsV (onesB bz)).length = (onesB bz).length := by simp
                refine ⟨ag0, ?_⟩
                refine o_assign gn rfl rfl ?_
                refine wl_end ?_
                refine w_cut (fun l hh => ∃ a' n' c', hh = h21 ∧ Src h21 (.slice a' n' c') (nsV (takeM (onesB bz) most)) ∧ l = [(13, s2), (15, ptrV h13.n), (17, .slice a20 (nsV (takeM (onesB bz) most)).length (nsV (takeM (onesB bz) most)).length), (19, .slice a' n' c')]) ?_ fun l hh hJ => ?_
                · skip
                  refine w_seq ?_
                  refine w_region (by kernel_rfl) ?_
                  refine o_move gn rfl rfl ?_
                  refine o_gtr gn rfl rfl rfl ?_
                  refine o_move gn rfl rfl ?_
                  refine o_and (n := 4) rfl rfl rfl gn rfl (fun hb => by
                      refine o_move (gy rfl rfl rfl hb) rfl rfl ?_
                      refine o_move (gy rfl rfl rfl hb) rfl rfl ?_
                      refine o_len (gy rfl rfl rfl hb) rfl rfl (by kernel_rfl) ?_
                      refine o_lss (gy rfl rfl rfl hb) rfl rfl rfl ?_
                      exact wl_end ⟨rfl, rfl, 4, rfl, rfl⟩) ?_
                  refine wl_end ?_
                  refine w_cond rfl (fun hb => ?_) fun hb => ?_
                  · skip
                    refine w_region (by kernel_rfl) ?_
                    refine o_move gn rfl rfl ?_
                    refine o_move gn rfl rfl ?_
                    have hmo : 0 < most ∧ most < (nsV (onesB bz)).length := by simpa using hb
                    obtain ⟨bb, mm, ea, hbb, hm, hblt, _⟩ := s21.at (by omega)
                    simp only [Value.slice.injEq, and_true] at ea
                    subst ea
                    refine o_sliceTo gn rfl rfl rfl (by kernel_rfl) hbb hm (by omega) (by omega) ?_
                    refine o_assign gn rfl rfl ?_
                    refine wl_end ?_
                    exact ⟨_, (by repeat (first | exact trivial | refine ⟨rfl, ?_⟩)), ⟨_, _, _, rfl, by
                      have := Src.upto (n := most.toNat) (c := (nsV (onesB bz)).length) hbb hblt (all_ns _) (k := most.toNat) (by omega) rfl
                      rw [takeM, if_pos (by omega), show nsV ((onesB bz).take most.toNat) = (nsV (onesB bz)).take most.toNat from List.map_take ..]
                      exact this, rfl⟩⟩
                  · skip
                    refine w_skip ?_
                    exact ⟨_, (by repeat (first | exact trivial | refine ⟨rfl, ?_⟩)), ⟨_, _, _, rfl, by
                      have hmo : ¬ (0 < most ∧ most < (nsV (onesB bz)).length) := by simpa using hb
                      have : takeM (onesB bz) most = onesB bz := by
                        unfold takeM
                        split
                        · exact List.take_of_length_le (by omega)
                        · rfl
                      rw [this]
                      exact s21.src (all_ns _), rfl⟩⟩
                · obtain ⟨a', n', c', rfl, hsrc, rfl⟩ := hJ
                  refine w_seq ?_
                  refine w_draw [(0, []), (1, []), (2, [0]), (3, []), (4, []), (5, []), (6, []), (7, []), (8, []), (9, []), (10, []), (11, []), (12, [])] (by kernel_rfl) (by kernel_rfl) (by kernel_rfl) (by kernel_rfl) ?_
                  refine o_load gn rfl rfl (by kernel_rfl) c21c rfl ?_
                  refine o_move gn rfl rfl ?_
                  refine o_call [_] gn rfl rfl (by kernel_rfl) rfl (C.mono (c20 ((f9.q.r.ext x20).ext x21) (by omega)) ?_)
                  rintro v23 h23 ⟨B23, s23, fb23, x23⟩
                  obtain ⟨a23, rfl⟩ := s23.val
                  obtain ⟨asv, rfl⟩ := s9.val
                  have c23c := (x23.get h13.n (by have := hxx.n; have := hx2.n; have := x20.n; have := x21.n; omega)).trans c21c
                  refine ⟨(ag1 (ag_load gn rfl (by kernel_rfl) (by assumption) rfl rfl same_slice) ag0), ?_⟩
                  refine o_call [_, _] gn rfl rfl (by kernel_rfl) rfl (c_pure (c21s ((((s9.ext x20).ext x21).ext x23).src (all_ns _)) (s23.src (all_ns _)) (by omega)) ⟨ag0, ?_⟩)
                  refine o_move gn rfl rfl ?_
                  refine o_and (n := 3) rfl rfl rfl gn rfl (fun hb => by
                      refine o_move (gy rfl rfl rfl hb) rfl rfl ?_
                      refine o_move (gy rfl rfl rfl hb) rfl rfl ?_
                      refine o_call [_, _] (gy rfl rfl rfl hb) rfl rfl (by kernel_rfl) rfl (c_pure (c21s (((s20.ext x21).ext x23).src (all_ns _)) (hsrc.ext x23) (by have := takeM_len (onesB bz) most; omega)) ⟨ag0, ?_⟩)
                      exact wl_end ⟨rfl, rfl, 3, rfl, rfl⟩) ?_
                  refine o_move gn rfl rfl ?_
                  refine o_and (n := 1) rfl rfl rfl gn rfl (fun hb => by
                      refine o_orc (f := 8) (v := .bool true) (gy rfl rfl rfl hb) rfl (by kernel_rfl) (by kernel_rfl) ag0 ?_
                      exact wl_end ⟨rfl, rfl, 1, rfl, rfl⟩) ?_
                  refine o_assign gn rfl rfl ?_
                  refine wl_end ?_
                  refine w_ret ?_
                  refine ⟨.inl rfl, _, (resH_tmp rfl rfl), fun h2 hco => ?_⟩
                  rfl

end Go.Proofs.YtgcapnlfkomgpaaDoor


namespace Go.Proofs.YtgcapnlfkomgpaaDoor
open Go.ChangeShapes Go.WideShapes Go.ChangeAt Go.RowKit Go.Deep Go.X

set_option maxRecDepth 100000

theorem bits_int : Tryd.prog.underlying 3 = some (.int .i64) := by kernel_rfl
theorem bits_bool : Tryd.prog.underlying 4 = some .bool := by kernel_rfl
theorem bits_own : ownKnob Tryd.prog.godebug = none := by kernel_rfl
theorem bits_laid : laidOutB Tryd.prog = true := by kernel_rfl
theorem bits_c3 : Tryd.prog.cellsOf 3 = 1 := by kernel_rfl
theorem bits_ints : Tryd.prog.underlying 22 = some (.slice 3) := by kernel_rfl
theorem bits_named : Tryd.prog.globalNamed "math/bits.deBruijn64tab" = some 0 := by kernel_rfl
theorem bits_type : (Tryd.prog.globals[0]?).map (·.type) = some 81 := by kernel_rfl
theorem bits_arr : Tryd.prog.underlying 81 = some (.array 64 5) := by kernel_rfl
theorem bits_u8 : Tryd.prog.underlying 5 = some (.int .u8) := by kernel_rfl
theorem bits_cell : Tryd.prog.cellsOf 5 = 1 := by kernel_rfl
theorem bits_cells : Tryd.prog.cellsOf 81 = 64 := by kernel_rfl

theorem tab_all {W : World} (h : laidMetH Tryd.prog Rows.bitsPlaysRow.laid W) : Tab (Hp.all W) := by
  have hT : Lib.TabIs Tryd.prog W "math/bits.deBruijn64tab" .u8 (Lib.deBruijn64tab.map fun (n : Nat) => (n : Int)) :=
    Lib.tabIs_of_head bits_named bits_type bits_arr bits_u8 bits_cell bits_cells (rest := []) (laidMetH_iff.1 h).1
  obtain ⟨e, fr, hg⟩ := tab_block bits_named hT
  refine ⟨by have := topB_256 W; show 0 < topB W; omega, e, 1, ?_⟩
  rw [Hp.all_get, allObj, hg]
  simp only [List.map_map, Option.some.injEq, AObj.cells.injEq, and_true]
  refine List.map_congr_left fun n _ => ?_
  exact selfX_eq (.int _ _)

/-- A slice of numbers. -/
theorem ints_arg {H : Type} {enc : TypeId × Value → H} {W : World} {r : Reach} {base : Nat} {v : Value} {d : DataW H} {ps : List MemPlace} (hok : Value.okWide Tryd.prog W r base 22 v) (h : DataW.Trod enc Tryd.prog W 0 (fun _ => true) true 22 v d ps) :
    ∃ a c, ∃ xs : List Int, v = .slice a xs.length c ∧ VRel (Mp.all W) v v ∧ Src (Hp.all W) (.slice a xs.length c) (isV xs) := by
  obtain ⟨hv, _, _, _, _, x⟩ := arg_rd_slice bits_ints hok h
  obtain ⟨a, n, c, e, _, _, xs, rfl, hs, _⟩ := x.ints bits_ints bits_int bits_c3
  simp only [List.cons.injEq, and_true] at e
  subst e
  exact ⟨a, c, xs, rfl, hv, hs⟩

theorem bits_door (os : Os) (args : Array Value) : laidMetH Tryd.prog Rows.bitsPlaysRow.laid (((World.doorLaid Tryd.prog 400 os).forCall (fun _ _ => 0) ⟨#[], args, []⟩).memory) :=
  laidMetH_of_parts3 (fuel := 8) (laidMet_of_run' 8 (by kernel_rfl) (by kernel_rfl)) (by kernel_rfl) (by kernel_rfl)

end Go.Proofs.YtgcapnlfkomgpaaDoor

namespace Go.Proofs.YtgcapnlfkomgpaaDoor
open Go.X

def rowP (n : Nat) (P : Nat → Nat) : List Value := (List.range n).map fun i => ptrV (P i)
theorem rowP_len (n : Nat) (P : Nat → Nat) : (rowP n P).length = n := by simp [rowP]
theorem rowP_at {n : Nat} {P : Nat → Nat} (i : Nat) (h : i < n) {o : Nat} (e : o = i) : (rowP n P)[o]? = some (ptrV (P i)) := by
  subst e; rw [rowP, List.getElem?_map, List.getElem?_eq_getElem (by simpa using h), List.getElem_range]; rfl
def rowV (n : Nat) (V : Nat → Value) : List Value := (List.range n).map V
theorem rowV_len (n : Nat) (V : Nat → Value) : (rowV n V).length = n := by simp [rowV]
theorem rowV_at {n : Nat} {V : Nat → Value} (i : Nat) (h : i < n) {o : Nat} (e : o = i) : (rowV n V)[o]? = some (V i) := by
  subst e; rw [rowV, List.getElem?_map, List.getElem?_eq_getElem (by simpa using h), List.getElem_range]; rfl

/-- A matrix of the program's: n rows, each a set. -/
structure MatR (h : Hp) (b n : Nat) (M : Nat → List Bool) (P : Nat → Nat) (O : Nat → List Nat) (sr : Value) (Bm : List Nat) : Prop where
  top : h.get b = some (.cells [sr] 79 0)
  row : Sl 23 h sr (rowP n P) Bm
  each : ∀ i, i < n → SAt h (P i) (M i) (O i)
  dis : ∀ i j, i < n → j < n → i ≠ j → ∀ x, x ∈ O i → x ∉ O j
  out : ∀ i, i < n → ∀ x, x ∈ O i → x ≠ b ∧ x ∉ Bm
  lt : b < h.n
  nb : b ∉ Bm

def ownM (b n : Nat) (O : Nat → List Nat) (Bm : List Nat) : List Nat := b :: Bm ++ (List.range n).flatMap O
theorem mem_ownM {b n x : Nat} {O : Nat → List Nat} {Bm : List Nat} : x ∈ ownM b n O Bm ↔ x = b ∨ x ∈ Bm ∨ ∃ i, i < n ∧ x ∈ O i := by
  simp [ownM, List.mem_flatMap]

/-- A matrix of the document's. -/
structure RMat (h : Hp) (s : Value) (n : Nat) (M : Nat → List Bool) (V : Nat → Value) (O : Nat → List Nat) (Bm : List Nat) : Prop where
  row : Sl 25 h s (rowV n V) Bm
  each : ∀ i, i < n → RefS h (V i) (M i) (O i)
  dis : ∀ i j, i < n → j < n → i ≠ j → ∀ x, x ∈ O i → x ∉ O j
  out : ∀ i, i < n → ∀ x, x ∈ O i → x ∉ Bm

def ownR (n : Nat) (O : Nat → List Nat) (Bm : List Nat) : List Nat := Bm ++ (List.range n).flatMap O
theorem mem_ownR {n x : Nat} {O : Nat → List Nat} {Bm : List Nat} : x ∈ ownR n O Bm ↔ x ∈ Bm ∨ ∃ i, i < n ∧ x ∈ O i := by
  simp [ownR, List.mem_flatMap]

def inN (n : Nat) (i : Int) : Bool := decide (0 ≤ i) && decide (i < n)
theorem inN_iff {n : Nat} {i : Int} : inN n i = true ↔ 0 ≤ i ∧ i.toNat < n := by
  simp only [inN, Bool.and_eq_true, decide_eq_true_eq]; omega

section
variable {h h' : Hp} {b n : Nat} {M M' : Nat → List Bool} {P : Nat → Nat} {O : Nat → List Nat} {sr s : Value} {V : Nat → Value} {Bm cs : List Nat} {i j : Int}

theorem MatR.keep (x : MatR h b n M P O sr Bm) (g : ExtB cs h h') (hd : ∀ i, i ∈ ownM b n O Bm → i ∉ cs) : MatR h' b n M P O sr Bm :=
  ⟨by rw [g.get b x.lt (hd b (mem_ownM.2 (.inl rfl)))]; exact x.top, x.row.keep g fun i hi => hd i (mem_ownM.2 (.inr (.inl hi))), fun i hi => (x.each i hi).keep g fun k hk => hd k (mem_ownM.2 (.inr (.inr ⟨i, hi, hk⟩))),
    x.dis, x.out, Nat.lt_of_lt_of_le x.lt g.n, x.nb⟩
theorem MatR.ext (x : MatR h b n M P O sr Bm) (g : Ext h h') : MatR h' b n M P O sr Bm := x.keep (g.b []) (by simp)
theorem MatR.own_lt (x : MatR h b n M P O sr Bm) : ∀ i, i ∈ ownM b n O Bm → i < h.n := fun i hi => by
  rcases mem_ownM.1 hi with rfl | hi | ⟨k, hk, hi⟩
  · exact x.lt
  · exact x.row.lt i hi
  · exact (x.each k hk).lt i hi
theorem MatR.congr (x : MatR h b n M P O sr Bm) (e : ∀ i, i < n → M i = M' i) : MatR h b n M' P O sr Bm :=
  ⟨x.top, x.row, fun i hi => by rw [← e i hi]; exact x.each i hi, x.dis, x.out, x.lt, x.nb⟩
/-- One row changed. -/
theorem MatR.upd (x : MatR h b n M P O sr Bm) {k : Nat} (hk : k < n) {bs : List Bool} (y : SAt h' (P k) bs (O k)) (g : ExtB (O k) h h') : MatR h' b n (fun j => if j = k then bs else M j) P O sr Bm :=
  ⟨by rw [g.get b x.lt fun hb => (x.out k hk b hb).1 rfl]; exact x.top, x.row.keep g fun i hi hj => (x.out k hk i hj).2 hi, fun i hi => by
    by_cases e : i = k
    · subst e; simpa using y
    · simp only [if_neg e]; exact (x.each i hi).keep g fun z hz hj => x.dis i k hi hk e z hz hj,
    x.dis, x.out, Nat.lt_of_lt_of_le x.lt g.n, x.nb⟩

theorem RMat.keep (x : RMat h s n M V O Bm) (g : ExtB cs h h') (hd : ∀ i, i ∈ ownR n O Bm → i ∉ cs) : RMat h' s n M V O Bm :=
  ⟨x.row.keep g fun i hi => hd i (mem_ownR.2 (.inl hi)), fun i hi => (x.each i hi).keep g fun k hk => hd k (mem_ownR.2 (.inr ⟨i, hi, hk⟩)), x.dis, x.out⟩
theorem RMat.ext (x : RMat h s n M V O Bm) (g : Ext h h') : RMat h' s n M V O Bm := x.keep (g.b []) (by simp)
theorem RMat.own_lt (x : RMat h s n M V O Bm) : ∀ i, i ∈ ownR n O Bm → i < h.n := fun i hi => by
  rcases mem_ownR.1 hi with hi | ⟨k, hk, hi⟩
  · exact x.row.lt i hi
  · exact (x.each k hk).lt i hi
theorem RMat.congr (x : RMat h s n M V O Bm) (e : ∀ i, i < n → M i = M' i) : RMat h s n M' V O Bm :=
  ⟨x.row, fun i hi => by rw [← e i hi]; exact x.each i hi, x.dis, x.out⟩
theorem RMat.upd (x : RMat h s n M V O Bm) {k : Nat} (hk : k < n) {bs : List Bool} (y : RefS h' (V k) bs (O k)) (g : ExtB (O k) h h') : RMat h' s n (fun j => if j = k then bs else M j) V O Bm :=
  ⟨x.row.keep g fun i hi hj => x.out k hk i hj hi, fun i hi => by
    by_cases e : i = k
    · subst e; simpa using y
    · simp only [if_neg e]; exact (x.each i hi).keep g fun z hz hj => x.dis i k hi hk e z hz hj,
    x.dis, x.out⟩

/-- Size -/
theorem c51 (x : MatR h b n M P O sr Bm) : CP bitsE 51 [ptrV b] h (iV n) := by
  have ht := x.top
  obtain ⟨a, rfl⟩ := x.row.val
  have hl := rowP_len n P
  refine c_enter (fu := Tryd.f51) (by kernel_rfl) rfl ?_
  refine w_seq ?_
  refine w_region (by kernel_rfl) ?_
  refine o_assign gn rfl rfl ?_
  refine wl_end ?_
  refine w_seq ?_
  refine w_seq ?_
  refine w_region (by kernel_rfl) ?_
  refine o_move gn rfl rfl ?_
  refine o_eqp gn rfl rfl rfl (by kernel_rfl) ?_
  refine wl_end ?_
  refine w_cond rfl (fun hb => ?_) fun hb => ?_
  · skip
    simp at hb
  · skip
    refine w_skip ?_
    refine w_seq ?_
    refine w_region (by kernel_rfl) ?_
    refine o_move gn rfl rfl ?_
    refine o_nilCheck gn rfl rfl ?_
    refine o_fieldAddr (off := 0) gn rfl rfl (by kernel_rfl) ?_
    refine o_load gn rfl rfl (by kernel_rfl) (by assumption) rfl ?_
    refine o_len gn rfl rfl (by kernel_rfl) ?_
    refine o_assign gn rfl rfl ?_
    refine wl_end ?_
    refine w_ret ?_
    refine ⟨.inl rfl, _, rfl, ?_⟩
    exact ⟨by rw [hl]; rfl, rfl⟩

/-- there -/
theorem c53 (x : MatR h b n M P O sr Bm) : CP bitsE 53 [ptrV b, iV i] h (.bool (inN n i)) := by
  have ht := x.top
  obtain ⟨a, rfl⟩ := x.row.val
  have hl := rowP_len n P
  refine c_enter (fu := Tryd.f53) (by kernel_rfl) rfl ?_
  refine w_seq ?_
  refine w_region (by kernel_rfl) ?_
  refine o_assign gn rfl rfl ?_
  refine wl_end ?_
  refine w_seq ?_
  refine w_region (by kernel_rfl) ?_
  refine o_move gn rfl rfl ?_
  refine o_nep gn rfl rfl rfl (by kernel_rfl) ?_
  refine o_move gn rfl rfl ?_
  refine o_and (n := 2) rfl rfl rfl gn rfl (fun hb => by
      refine o_move (gy rfl rfl rfl hb) rfl rfl ?_
      refine o_geq (gy rfl rfl rfl hb) rfl rfl rfl ?_
      exact wl_end ⟨rfl, rfl, 2, rfl, rfl⟩) ?_
  refine o_move gn rfl rfl ?_
  refine o_and (n := 7) rfl rfl rfl gn rfl (fun hb => by
      refine o_move (gy rfl rfl rfl hb) rfl rfl ?_
      refine o_move (gy rfl rfl rfl hb) rfl rfl ?_
      refine o_nilCheck (gy rfl rfl rfl hb) rfl rfl ?_
      refine o_fieldAddr (off := 0) (gy rfl rfl rfl hb) rfl rfl (by kernel_rfl) ?_
      refine o_load (gy rfl rfl rfl hb) rfl rfl (by kernel_rfl) (by assumption) rfl ?_
      refine o_len (gy rfl rfl rfl hb) rfl rfl (by kernel_rfl) ?_
      refine o_lss (gy rfl rfl rfl hb) rfl rfl rfl ?_
      exact wl_end ⟨rfl, rfl, 7, rfl, rfl⟩) ?_
  refine o_assign gn rfl rfl ?_
  refine wl_end ?_
  refine w_ret ?_
  refine ⟨.inl rfl, _, rfl, ?_⟩
  exact ⟨by rw [hl]; rfl, rfl⟩

/-- Has -/
theorem c40 (x : MatR h b n M P O sr Bm) (hn : ∀ i, i < n → (M i).length ≤ 100000) : CP bitsE 40 [ptrV b, iV i, iV j] h (.bool (inN n i && hasB (M i.toNat) j)) := by
  have ht := x.top
  obtain ⟨a, rfl⟩ := x.row.val
  have hl := rowP_len n P
  refine c_enter (fu := Tryd.f40) (by kernel_rfl) rfl ?_
  refine w_seq ?_
  refine w_region (by kernel_rfl) ?_
  refine o_assign gn rfl rfl ?_
  refine wl_end ?_
  refine w_seq ?_
  refine w_region (by kernel_rfl) ?_
  refine o_move gn rfl rfl ?_
  refine o_move gn rfl rfl ?_
  refine o_call [_, _] gn rfl rfl (by kernel_rfl) rfl (c_pure (c53 x) ⟨ag0, ?_⟩)
  refine o_move gn rfl rfl ?_
  refine o_and (n := 9) rfl rfl rfl gn rfl (fun hb => by
      obtain ⟨hi0, hin⟩ := inN_iff.1 hb
      obtain ⟨bb, m, ea, hg, hm, hblt, _⟩ := x.row.at (by omega)
      simp only [Value.slice.injEq, and_true] at ea
      subst ea
      obtain ⟨ws, sw, Bw, xs, _⟩ := x.each i.toNat hin
      refine o_move (gy rfl rfl rfl hb) rfl rfl ?_
      refine o_nilCheck (gy rfl rfl rfl hb) rfl rfl ?_
      refine o_fieldAddr (off := 0) (gy rfl rfl rfl hb) rfl rfl (by kernel_rfl) ?_
      refine o_load (gy rfl rfl rfl hb) rfl rfl (by kernel_rfl) (by assumption) rfl ?_
      refine o_move (gy rfl rfl rfl hb) rfl rfl ?_
      refine o_indexAddr (zz := 1) (gy rfl rfl rfl hb) rfl rfl rfl (by kernel_rfl) (by omega) (by omega) ?_
      refine o_load (gy rfl rfl rfl hb) rfl rfl (by kernel_rfl) hg (rowP_at i.toNat hin (by omega)) ?_
      refine o_move (gy rfl rfl rfl hb) rfl rfl ?_
      refine o_call [_, _] (gy rfl rfl rfl hb) rfl rfl (by kernel_rfl) rfl (c_pure (c45 xs (hn _ hin)) ⟨ag0, ?_⟩)
      exact wl_end ⟨rfl, rfl, 9, rfl, rfl⟩) ?_
  refine o_assign gn rfl rfl ?_
  refine wl_end ?_
  refine w_ret ?_
  refine ⟨.inl rfl, _, rfl, ?_⟩
  exact ⟨rfl, rfl⟩

/-- Row -/
theorem c28 (x : MatR h b n M P O sr Bm) (hn : ∀ i, i < n → (M i).length ≤ 100000) : C bitsE 28 [ptrV b, iV i] h fun v h' => ∃ b' own', v = ptrV b' ∧ SAt h' b' (if inN n i then M i.toNat else []) own' ∧ (∀ k, k ∈ own' → h.n ≤ k) ∧ Ext h h' := by
  have ht := x.top
  obtain ⟨a, rfl⟩ := x.row.val
  have hl := rowP_len n P
  refine c_enter (fu := Tryd.f28) (by kernel_rfl) rfl ?_
  refine w_seq ?_
  refine w_region (by kernel_rfl) ?_
  refine o_assign gn rfl rfl ?_
  refine wl_end ?_
  refine w_seq ?_
  refine w_seq ?_
  refine w_region (by kernel_rfl) ?_
  refine o_move gn rfl rfl ?_
  refine o_move gn rfl rfl ?_
  refine o_call [_, _] gn rfl rfl (by kernel_rfl) rfl (c_pure (c53 x) ⟨ag0, ?_⟩)
  refine o_not gn rfl rfl ?_
  refine wl_end ?_
  refine w_cond rfl (fun hb => ?_) fun hb => ?_
  · skip
    refine w_seq ?_
    refine w_region (by kernel_rfl) ?_
    refine o_call [_] gn rfl rfl (by kernel_rfl) rfl (C.mono (c36 (by omega)) ?_)
    rintro v1 h1 ⟨b', own', rfl, xa, fa, x1⟩
    refine ⟨ag0, ?_⟩
    refine o_assign gn rfl rfl ?_
    refine wl_end ?_
    refine w_ret ?_
    refine ⟨.inl rfl, _, rfl, ?_⟩
    have hf : inN n i = false := by simpa using hb
    exact ⟨b', own', rfl, by rw [hf]; exact xa, fa, x1⟩
  · skip
    have hb' : inN n i = true := by simpa using hb
    obtain ⟨hi0, hin⟩ := inN_iff.1 hb'
    obtain ⟨bb, m, ea, hg, hm, hblt, _⟩ := x.row.at (by omega)
    simp only [Value.slice.injEq, and_true] at ea
    subst ea
    obtain ⟨ws, sw, Bw, xs, _⟩ := x.each i.toNat hin
    refine w_skip ?_
    refine w_seq ?_
    refine w_region (by kernel_rfl) ?_
    refine o_move gn rfl rfl ?_
    refine o_nilCheck gn rfl rfl ?_
    refine o_fieldAddr (off := 0) gn rfl rfl (by kernel_rfl) ?_
    refine o_load gn rfl rfl (by kernel_rfl) (by assumption) rfl ?_
    refine o_move gn rfl rfl ?_
    refine o_indexAddr (zz := 1) gn rfl rfl rfl (by kernel_rfl) (by omega) (by omega) ?_
    refine o_load gn rfl rfl (by kernel_rfl) hg (rowP_at i.toNat hin (by omega)) ?_
    refine o_call [_] gn rfl rfl (by kernel_rfl) rfl (C.mono (c9 xs (hn _ hin)) ?_)
    rintro v1 h1 ⟨b', own', rfl, xa, fa, x1⟩
    refine ⟨ag0, ?_⟩
    refine o_assign gn rfl rfl ?_
    refine wl_end ?_
    refine w_ret ?_
    refine ⟨.inl rfl, _, rfl, ?_⟩
    exact ⟨b', own', rfl, by rw [hb']; exact xa, fa, x1⟩

/-- Set -/
theorem c39 (x : MatR h b n M P O sr Bm) (hn : ∀ i, i < n → (M i).length ≤ 100000) : C bitsE 39 [ptrV b, iV i, iV j] h fun _ h' => MatR h' b n (fun k => if (k : Int) = i then addO (M k) j else M k) P O sr Bm ∧ ExtB (ownM b n O Bm) h h' := by
  have x0 := x
  have ht := x.top
  obtain ⟨a, rfl⟩ := x.row.val
  have hl := rowP_len n P
  refine c_enter (fu := Tryd.f39) (by kernel_rfl) rfl ?_
  refine w_seq ?_
  refine w_region (by kernel_rfl) ?_
  refine o_move gn rfl rfl ?_
  refine o_move gn rfl rfl ?_
  refine o_call [_, _] gn rfl rfl (by kernel_rfl) rfl (c_pure (c53 x) ⟨ag0, ?_⟩)
  refine wl_end ?_
  refine w_cond rfl (fun hb => ?_) fun hb => ?_
  · skip
    obtain ⟨hi0, hin⟩ := inN_iff.1 hb
    obtain ⟨bb, m, ea, hg, hm, hblt, _⟩ := x.row.at (by omega)
    simp only [Value.slice.injEq, and_true] at ea
    subst ea
    refine w_region (by kernel_rfl) ?_
    refine o_move gn rfl rfl ?_
    refine o_nilCheck gn rfl rfl ?_
    refine o_fieldAddr (off := 0) gn rfl rfl (by kernel_rfl) ?_
    refine o_load gn rfl rfl (by kernel_rfl) (by assumption) rfl ?_
    refine o_move gn rfl rfl ?_
    refine o_indexAddr (zz := 1) gn rfl rfl rfl (by kernel_rfl) (by omega) (by omega) ?_
    refine o_load gn rfl rfl (by kernel_rfl) hg (rowP_at i.toNat hin (by omega)) ?_
    refine o_move gn rfl rfl ?_
    refine o_call [_, _] gn rfl rfl (by kernel_rfl) rfl (C.mono (c13 (x.each i.toNat hin) (hn _ hin)) ?_)
    rintro v1 h1 ⟨rfl, xa, g1⟩
    refine ⟨ag0, ?_⟩
    refine wl_end ?_
    refine ⟨.inr rfl, _, rfl, ?_⟩
    exact ⟨(x0.upd hin xa g1).congr fun k hk => by
      by_cases e : k = i.toNat
      · subst e; rw [if_pos rfl, if_pos (by omega)]
      · rw [if_neg e, if_neg (by omega)], g1.mono fun k hk _ => mem_ownM.2 (.inr (.inr ⟨_, hin, hk⟩))⟩
  · skip
    refine w_skip ?_
    refine ⟨.inr rfl, _, rfl, ?_⟩
    have hf : inN n i = false := by simpa using hb
    exact ⟨x0.congr (fun k hk => by
      rw [if_neg]
      intro e
      rw [inN_iff.2 ⟨by omega, by omega⟩] at hf; cases hf), .refl _ _⟩

/-- the document's Has -/
theorem c52 (x : RMat h s n M V O Bm) : CP bitsE 52 [s, iV i, iV j] h (.bool (inN n i && hasB (M i.toNat) j)) := by
  obtain ⟨a, rfl⟩ := x.row.val
  have hl := rowV_len n V
  refine c_enter (fu := Tryd.f52) (by kernel_rfl) rfl ?_
  refine w_seq ?_
  refine w_region (by kernel_rfl) ?_
  refine o_assign gn rfl rfl ?_
  refine wl_end ?_
  refine w_seq ?_
  refine w_region (by kernel_rfl) ?_
  refine o_move gn rfl rfl ?_
  refine o_geq gn rfl rfl rfl ?_
  refine o_move gn rfl rfl ?_
  refine o_and (n := 4) rfl rfl rfl gn rfl (fun hb => by
      refine o_move (gy rfl rfl rfl hb) rfl rfl ?_
      refine o_move (gy rfl rfl rfl hb) rfl rfl ?_
      refine o_len (gy rfl rfl rfl hb) rfl rfl (by kernel_rfl) ?_
      refine o_lss (gy rfl rfl rfl hb) rfl rfl rfl ?_
      exact wl_end ⟨rfl, rfl, 4, rfl, rfl⟩) ?_
  refine o_move gn rfl rfl ?_
  refine o_and (n := 6) rfl rfl rfl gn rfl (fun hb => by
      refine o_move (gy rfl rfl rfl hb) rfl rfl ?_
      refine o_move (gy rfl rfl rfl hb) rfl rfl ?_
      have hin : i.toNat < n := by simp at hb; omega
      obtain ⟨bb, m, ea, hg, hm, hblt, _⟩ := x.row.at (by omega)
      simp only [Value.slice.injEq, and_true] at ea
      subst ea
      refine o_indexAddr (zz := 1) (gy rfl rfl rfl hb) rfl rfl rfl (by kernel_rfl) (by simp at hb; omega) (by simp at hb; omega) ?_
      refine o_load (gy rfl rfl rfl hb) rfl rfl (by kernel_rfl) hg (rowV_at i.toNat hin (by omega)) ?_
      refine o_move (gy rfl rfl rfl hb) rfl rfl ?_
      refine o_call [_, _] (gy rfl rfl rfl hb) rfl rfl (by kernel_rfl) rfl (c_pure (c47 (x.each i.toNat hin)) ⟨ag0, ?_⟩)
      exact wl_end ⟨rfl, rfl, 6, rfl, rfl⟩) ?_
  refine o_assign gn rfl rfl ?_
  refine wl_end ?_
  refine w_ret ?_
  refine ⟨.inl rfl, _, rfl, ?_⟩
  exact ⟨by rw [hl]; rfl, rfl⟩

/-- the document's Set -/
theorem c50 (x : RMat h s n M V O Bm) : C bitsE 50 [s, iV i, iV j] h fun _ h' => RMat h' s n (fun k => if (k : Int) = i then addO (M k) j else M k) V O Bm ∧ ExtB (ownR n O Bm) h h' := by
  have x0 := x
  obtain ⟨a, rfl⟩ := x.row.val
  have hl := rowV_len n V
  refine c_enter (fu := Tryd.f50) (by kernel_rfl) rfl ?_
  refine w_seq ?_
  refine w_region (by kernel_rfl) ?_
  refine o_move gn rfl rfl ?_
  refine o_geq gn rfl rfl rfl ?_
  refine o_move gn rfl rfl ?_
  refine o_and (n := 4) rfl rfl rfl gn rfl (fun hb => by
      refine o_move (gy rfl rfl rfl hb) rfl rfl ?_
      refine o_move (gy rfl rfl rfl hb) rfl rfl ?_
      refine o_len (gy rfl rfl rfl hb) rfl rfl (by kernel_rfl) ?_
      refine o_lss (gy rfl rfl rfl hb) rfl rfl rfl ?_
      exact wl_end ⟨rfl, rfl, 4, rfl, rfl⟩) ?_
  refine wl_end ?_
  refine w_cond rfl (fun hb => ?_) fun hb => ?_
  · skip
    have hin : 0 ≤ i ∧ i.toNat < n := by simp at hb; omega
    obtain ⟨bb, m, ea, hg, hm, hblt, _⟩ := x.row.at (by omega)
    simp only [Value.slice.injEq, and_true] at ea
    subst ea
    refine w_region (by kernel_rfl) ?_
    refine o_move gn rfl rfl ?_
    refine o_move gn rfl rfl ?_
    refine o_indexAddr (zz := 1) gn rfl rfl rfl (by kernel_rfl) (by omega) (by omega) ?_
    refine o_load gn rfl rfl (by kernel_rfl) hg (rowV_at i.toNat hin.2 (by omega)) ?_
    refine o_move gn rfl rfl ?_
    refine o_call [_, _] gn rfl rfl (by kernel_rfl) rfl (C.mono (c14 (x.each i.toNat hin.2)) ?_)
    rintro v1 h1 ⟨rfl, xa, g1⟩
    refine ⟨ag0, ?_⟩
    refine wl_end ?_
    refine ⟨.inr rfl, _, rfl, ?_⟩
    exact ⟨(x0.upd hin.2 xa g1).congr fun k hk => by
      by_cases e : k = i.toNat
      · subst e; rw [if_pos rfl, if_pos (by omega)]
      · rw [if_neg e, if_neg (by omega)], g1.mono fun k hk _ => mem_ownR.2 (.inr ⟨_, hin.2, hk⟩)⟩
  · skip
    refine w_skip ?_
    refine ⟨.inr rfl, _, rfl, ?_⟩
    have hf : ¬ (0 ≤ i ∧ i < n) := by rw [hl] at hb; simpa using hb
    exact ⟨x0.congr (fun k hk => by rw [if_neg]; omega), .refl _ _⟩

end

end Go.Proofs.YtgcapnlfkomgpaaDoor


namespace Go.Proofs.YtgcapnlfkomgpaaDoor
open Go.X

def upd {α : Type} (f : Nat → α) (n : Nat) (v : α) : Nat → α := fun j => if j = n then v else f j
theorem upd_at {α : Type} (f : Nat → α) (n : Nat) (v : α) : upd f n v n = v := if_pos rfl
theorem upd_ne {α : Type} (f : Nat → α) {n j : Nat} (v : α) (h : j ≠ n) : upd f n v j = f j := if_neg h
theorem rowP_push (n : Nat) (P : Nat → Nat) (p : Nat) : rowP n P ++ [ptrV p] = rowP (n + 1) (upd P n p) := by
  rw [rowP, rowP, List.range_succ, List.map_append]
  congr 1
  · exact List.map_congr_left fun i hi => by rw [upd_ne _ _ (by have := List.mem_range.1 hi; omega)]
  · simp [upd]
theorem rowV_push (n : Nat) (V : Nat → Value) (p : Value) : rowV n V ++ [p] = rowV (n + 1) (upd V n p) := by
  rw [rowV, rowV, List.range_succ, List.map_append]
  congr 1
  · exact List.map_congr_left fun i hi => by rw [upd_ne _ _ (by have := List.mem_range.1 hi; omega)]
  · simp [upd]
theorem el23 : El bitsE 77 23 7 := ⟨by kernel_rfl, by kernel_rfl, by kernel_rfl, .pointer none, by kernel_rfl, rfl⟩
theorem el25 : El bitsE 46 25 23 := ⟨by kernel_rfl, by kernel_rfl, by kernel_rfl, .slice none 0 0, by kernel_rfl, rfl⟩

section
variable {h : Hp} {b n : Nat} {M : Nat → List Bool} {P : Nat → Nat} {O : Nat → List Nat} {sr s v : Value} {V : Nat → Value} {Bm : List Nat} {p : Nat} {bs : List Bool} {own : List Nat}

/-- A row more of the program's. -/
theorem push_row (x : MatR h b n M P O sr Bm) (y : SAt h p bs own) (hf : ∀ i, i ∈ own → i ∉ ownM b n O Bm) (hn : n ≤ 100000) :
    ∃ a h' B', appendX bitsE (h.alloc (.cells [ptrV p] 23 0)) 77 77 sr (.slice (some ⟨h.n, 0, none⟩) 1 1) = some (.slice a (rowP (n + 1) (upd P n p)).length (rowP (n + 1) (upd P n p)).length, h') ∧ h'.get b = some (.cells [sr] 79 0) ∧
      MatR (h'.put b (.cells [.slice a (rowP (n + 1) (upd P n p)).length (rowP (n + 1) (upd P n p)).length] 79 0)) b (n + 1) (upd M n bs) (upd P n p) (upd O n own) (.slice a (rowP (n + 1) (upd P n p)).length (rowP (n + 1) (upd P n p)).length) B' ∧
      ExtB (b :: Bm) h (h'.put b (.cells [.slice a (rowP (n + 1) (upd P n p)).length (rowP (n + 1) (upd P n p)).length] 79 0)) ∧ ∀ i, i ∈ B' → i ∈ Bm ∨ h.n ≤ i := by
  have x5 : Ext h (h.alloc (.cells [ptrV p] 23 0)) := Ext.alloc _ _
  obtain ⟨v', h6, B6, a1, a2, a3, a4⟩ := append_own el23 (x.row.ext x5) ((Sl.new (h := h) (e := 23) (vs := [ptrV p]) (m := 0) (.inl rfl)).src rfl) (by rw [rowP_len]; simp; omega)
  rw [rowP_push] at a2
  obtain ⟨a, rfl⟩ := a2.val
  have a4' : ∀ i, i ∈ B6 → i ∈ Bm ∨ h.n ≤ i := fun i hi => by
    rcases a4 i hi with h1 | h1
    · exact .inl h1
    · rw [Hp.n_alloc] at h1; exact .inr (by omega)
  have g6 : ExtB Bm h h6 := (x5.b Bm).trans a3
  have hb6 : b ∉ B6 := fun hb => by
    rcases a4' b hb with h1 | h1
    · exact x.nb h1
    · have := x.lt; omega
  have gp : ExtB (b :: Bm) h (h6.put b (.cells [.slice a (rowP (n + 1) (upd P n p)).length (rowP (n + 1) (upd P n p)).length] 79 0)) := (g6.mono (by simp; grind)).trans ((ExtB.put _ _ _).mono (by simp))
  have hlt : ∀ i, i ∈ own → i ≠ b ∧ i ∉ Bm ∧ i < h.n := fun i hi => ⟨fun e => hf i hi (mem_ownM.2 (.inl e)), fun e => hf i hi (mem_ownM.2 (.inr (.inl e))), y.lt i hi⟩
  refine ⟨a, h6, B6, a1, by rw [g6.get b x.lt x.nb]; exact x.top, ⟨Hp.get_put_self _ _ _, a2.keep (ExtB.put _ _ _) (fun i hi hj => by simp at hj; subst hj; exact hb6 hi), fun i hi => ?_, fun i j hi hj hne z hz hw => ?_, fun i hi z hz => ?_, ?_, hb6⟩, gp, a4'⟩
  · by_cases e : i = n
    · subst e
      rw [upd_at, upd_at, upd_at]
      exact y.keep gp fun z hz hj => by
        rcases List.mem_cons.1 hj with hj | hj
        · exact (hlt z hz).1 hj
        · exact (hlt z hz).2.1 hj
    · rw [upd_ne _ _ e, upd_ne _ _ e, upd_ne _ _ e]
      exact (x.each i (by omega)).keep gp fun z hz hj => by
        rcases List.mem_cons.1 hj with hj | hj
        · exact (x.out i (by omega) z hz).1 hj
        · exact (x.out i (by omega) z hz).2 hj
  · by_cases e : i = n
    · subst e
      rw [upd_at] at hz
      rw [upd_ne _ _ (fun e => hne e.symm)] at hw
      exact hf z hz (mem_ownM.2 (.inr (.inr ⟨j, by omega, hw⟩)))
    · rw [upd_ne _ _ e] at hz
      by_cases e2 : j = n
      · subst e2
        rw [upd_at] at hw
        exact hf z hw (mem_ownM.2 (.inr (.inr ⟨i, by omega, hz⟩)))
      · rw [upd_ne _ _ e2] at hw
        exact x.dis i j (by omega) (by omega) hne z hz hw
  · by_cases e : i = n
    · subst e
      rw [upd_at] at hz
      exact ⟨(hlt z hz).1, fun hj => by
        rcases a4' z hj with h1 | h1
        · exact (hlt z hz).2.1 h1
        · have := (hlt z hz).2.2; omega⟩
    · rw [upd_ne _ _ e] at hz
      exact ⟨(x.out i (by omega) z hz).1, fun hj => by
        rcases a4' z hj with h1 | h1
        · exact (x.out i (by omega) z hz).2 h1
        · have := (x.each i (by omega)).lt z hz; omega⟩
  · rw [Hp.n_put]; exact Nat.lt_of_lt_of_le x.lt g6.n

/-- A row more of the document's. -/
theorem push_rowV (x : RMat h s n M V O Bm) (y : RefS h v bs own) (hf : ∀ i, i ∈ own → i ∉ ownR n O Bm) (hn : n ≤ 100000) :
    ∃ a h' B', appendX bitsE (h.alloc (.cells [v] 25 0)) 46 46 s (.slice (some ⟨h.n, 0, none⟩) 1 1) = some (.slice a (rowV (n + 1) (upd V n v)).length (rowV (n + 1) (upd V n v)).length, h') ∧
      RMat h' (.slice a (rowV (n + 1) (upd V n v)).length (rowV (n + 1) (upd V n v)).length) (n + 1) (upd M n bs) (upd V n v) (upd O n own) B' ∧ ExtB Bm h h' ∧ ∀ i, i ∈ B' → i ∈ Bm ∨ h.n ≤ i := by
  have x5 : Ext h (h.alloc (.cells [v] 25 0)) := Ext.alloc _ _
  have hcv : cellV v = true := by obtain ⟨a, e⟩ := y.val; rw [e]; rfl
  obtain ⟨v', h6, B6, a1, a2, a3, a4⟩ := append_own el25 (x.row.ext x5) ((Sl.new (h := h) (e := 25) (vs := [v]) (m := 0) (.inl rfl)).src (by simp [hcv])) (by rw [rowV_len]; simp; omega)
  rw [rowV_push] at a2
  obtain ⟨a, rfl⟩ := a2.val
  have a4' : ∀ i, i ∈ B6 → i ∈ Bm ∨ h.n ≤ i := fun i hi => by
    rcases a4 i hi with h1 | h1
    · exact .inl h1
    · rw [Hp.n_alloc] at h1; exact .inr (by omega)
  have g6 : ExtB Bm h h6 := (x5.b Bm).trans a3
  have hlt : ∀ i, i ∈ own → i ∉ Bm ∧ i < h.n := fun i hi => ⟨fun e => hf i hi (mem_ownR.2 (.inl e)), y.lt i hi⟩
  refine ⟨a, h6, B6, a1, ⟨a2, fun i hi => ?_, fun i j hi hj hne z hz hw => ?_, fun i hi z hz => ?_⟩, g6, a4'⟩
  · by_cases e : i = n
    · subst e
      rw [upd_at, upd_at, upd_at]
      exact y.keep g6 fun z hz => (hlt z hz).1
    · rw [upd_ne _ _ e, upd_ne _ _ e, upd_ne _ _ e]
      exact (x.each i (by omega)).keep g6 fun z hz => x.out i (by omega) z hz
  · by_cases e : i = n
    · subst e
      rw [upd_at] at hz
      rw [upd_ne _ _ (fun e => hne e.symm)] at hw
      exact hf z hz (mem_ownR.2 (.inr ⟨j, by omega, hw⟩))
    · rw [upd_ne _ _ e] at hz
      by_cases e2 : j = n
      · subst e2
        rw [upd_at] at hw
        exact hf z hw (mem_ownR.2 (.inr ⟨i, by omega, hz⟩))
      · rw [upd_ne _ _ e2] at hw
        exact x.dis i j (by omega) (by omega) hne z hz hw
  · by_cases e : i = n
    · subst e
      rw [upd_at] at hz
      exact fun hj => by
        rcases a4' z hj with h1 | h1
        · exact (hlt z hz).1 h1
        · have := (hlt z hz).2; omega
    · rw [upd_ne _ _ e] at hz
      exact fun hj => by
        rcases a4' z hj with h1 | h1
        · exact x.out i (by omega) z hz h1
        · have := (x.each i (by omega)).lt z hz; omega

theorem own_push {n0 : Nat} {B' : List Nat} (hm : ∀ i, i ∈ ownM b n O Bm → n0 ≤ i) (ho : ∀ i, i ∈ own → n0 ≤ i) (hB : ∀ i, i ∈ B' → i ∈ Bm ∨ n0 ≤ i) : ∀ i, i ∈ ownM b (n + 1) (upd O n own) B' → n0 ≤ i := fun i hi => by
  rcases mem_ownM.1 hi with rfl | hi | ⟨k, hk, hi⟩
  · exact hm _ (mem_ownM.2 (.inl rfl))
  · rcases hB i hi with h1 | h1
    · exact hm i (mem_ownM.2 (.inr (.inl h1)))
    · exact h1
  · by_cases e : k = n
    · subst e; rw [upd_at] at hi; exact ho i hi
    · rw [upd_ne _ _ e] at hi; exact hm i (mem_ownM.2 (.inr (.inr ⟨k, by omega, hi⟩)))
theorem own_pushR {n0 : Nat} {B' : List Nat} (hm : ∀ i, i ∈ ownR n O Bm → n0 ≤ i) (ho : ∀ i, i ∈ own → n0 ≤ i) (hB : ∀ i, i ∈ B' → i ∈ Bm ∨ n0 ≤ i) : ∀ i, i ∈ ownR (n + 1) (upd O n own) B' → n0 ≤ i := fun i hi => by
  rcases mem_ownR.1 hi with hi | ⟨k, hk, hi⟩
  · rcases hB i hi with h1 | h1
    · exact hm i (mem_ownR.2 (.inl h1))
    · exact h1
  · by_cases e : k = n
    · subst e; rw [upd_at] at hi; exact ho i hi
    · rw [upd_ne _ _ e] at hi; exact hm i (mem_ownR.2 (.inr ⟨k, by omega, hi⟩))
end

/-- NewMatrix -/
theorem c38 {h : Hp} {n : Int} (hn : n ≤ 1000) : C bitsE 38 [iV n] h fun v h' => ∃ b P O sr Bm, v = ptrV b ∧ MatR h' b n.toNat (fun _ => List.replicate n.toNat false) P O sr Bm ∧ (∀ i, i ∈ ownM b n.toNat O Bm → h.n ≤ i) ∧ Ext h h' := by
  refine c_enter (fu := Tryd.f38) (by kernel_rfl) rfl ?_
  refine w_seq ?_
  refine w_region (by kernel_rfl) ?_
  refine o_assign gn rfl rfl ?_
  refine wl_end ?_
  refine w_seq ?_
  refine w_region (by kernel_rfl) ?_
  refine o_build (zv := .agg #[.slice none 0 0]) (pl := [(0, 1)]) [] gn rfl (by kernel_rfl) (by kernel_rfl) rfl rfl ?_
  refine o_box gn rfl rfl ?_
  refine o_assign gn rfl rfl ?_
  refine wl_end ?_
  refine w_seq ?_
  refine w_seq ?_
  refine w_region (by kernel_rfl) ?_
  refine o_move gn rfl rfl ?_
  refine o_move gn rfl rfl ?_
  refine wl_end ?_
  refine w_block ?_
  refine w_weak [(0, iV n), (3, ptrV h.n), (6, iV n), (7, iV (0 : Nat))] (by repeat (first | exact trivial | refine ⟨rfl, ?_⟩)) ?_
  refine w_loop (fun k l hh => ∃ (i : Nat) (P : Nat → Nat) (O : Nat → List Nat) (sr : Value) (Bm : List Nat), i ≤ n.toNat ∧ k = n.toNat - i ∧ MatR hh h.n i (fun _ => List.replicate n.toNat false) P O sr Bm ∧ (∀ z, z ∈ ownM h.n i O Bm → h.n ≤ z) ∧ Ext h hh ∧ l = [(0, iV n), (3, ptrV h.n), (6, iV n), (7, iV (i : Nat))]) (n := n.toNat) ?_ fun k l hh hI => ?_
  · exact ⟨0, fun _ => 0, fun _ => [], .slice none 0 0, [], by omega, by omega, ⟨Hp.get_alloc_self _ _, .inl ⟨rfl, rfl, rfl⟩, fun i hi => by omega, fun i j hi => by omega, fun i hi => by omega, by rw [Hp.n_alloc]; omega, by simp⟩, fun z hz => by rcases mem_ownM.1 hz with rfl | hz | ⟨k, hk, _⟩ <;> first | omega | simp at hz, Ext.alloc _ _, rfl⟩
  · obtain ⟨i, P, O, sr, Bm, hi, rfl, hm, hfr, hx, rfl⟩ := hI
    refine w_seq ?_
    refine w_region (by kernel_rfl) ?_
    refine o_lss gn rfl rfl rfl ?_
    refine wl_end ?_
    refine w_seq ?_
    refine w_cond rfl (fun hb => ?_) fun hb => ?_
    · skip
      have hlt : (i : Int) < n := by simpa using hb
      have hxn := hx.n
      have ht := hm.top
      obtain ⟨asr, rfl⟩ := hm.row.val
      refine w_skip ?_
      refine w_seq ?_
      refine w_block ?_
      refine w_draw [(0, []), (1, []), (2, []), (3, []), (4, []), (5, []), (6, [4]), (7, []), (8, []), (9, []), (10, []), (11, [])] (by kernel_rfl) (by kernel_rfl) (by kernel_rfl) (by kernel_rfl) ?_
      refine o_move gn rfl rfl ?_
      refine o_move gn rfl rfl ?_
      refine o_nilCheck gn rfl rfl ?_
      refine o_fieldAddr (off := 0) gn rfl rfl (by kernel_rfl) ?_
      refine o_load gn rfl rfl (by kernel_rfl) ht rfl ?_
      refine o_move gn rfl rfl ?_
      refine o_call [_] gn rfl rfl (by kernel_rfl) rfl (C.mono (c36 (by omega)) ?_)
      rintro v1 h1 ⟨p, own, rfl, xa, fa, x1⟩
      have hm1 := hm.ext x1
      have ht1 := hm1.top
      refine ⟨(ag1 (ag_load gn rfl (by kernel_rfl) (by assumption) rfl rfl same_slice) ag0), ?_⟩
      refine o_buildSlice (e := 23) (z := 0) (zv := .pointer none) [(0, _)] gn rfl (by kernel_rfl) (by kernel_rfl) (by kernel_rfl) (by kernel_rfl) rfl rfl ?_
      obtain ⟨a7, h7, B7, b1, b2, b3, b4, b5⟩ := push_row hm1 xa (fun z hz hj => by have := fa z hz; have := hm.own_lt z hj; omega) (by omega)
      refine o_append gn rfl rfl rfl b1 ag0 ?_
      refine o_nilCheck gn rfl rfl ?_
      refine o_fieldAddr (off := 0) gn rfl rfl (by kernel_rfl) ?_
      refine o_store gn rfl rfl rfl (by kernel_rfl) b2 (by decide) (by simp) ag0 ?_
      refine wl_end ?_
      refine w_region (by kernel_rfl) ?_
      refine o_add gn rfl rfl rfl (by omega) (by omega) ?_
      refine o_move gn rfl rfl ?_
      refine wl_end ?_
      have x1n := x1.n
      exact ⟨n.toNat - (i + 1), by omega, [(0, iV n), (3, ptrV h.n), (6, iV n), (7, iV ((i + 1 : Nat) : Int))], (by repeat (first | exact trivial | refine ⟨rfl, ?_⟩)), i + 1, _, _, _, _, by omega, rfl, b3.congr (fun j hj => by unfold upd; split <;> rfl), own_push hfr (fun z hz => by have := fa z hz; omega) (fun z hz => by rcases b5 z hz with h9 | h9; exact .inl h9; exact .inr (by omega)), (hx.trans x1).of b4 (fun z hz => by
        rcases List.mem_cons.1 hz with h9 | h9
        · omega
        · exact hfr z (mem_ownM.2 (.inr (.inl h9)))), rfl⟩
    · skip
      refine w_exit ?_
      refine thn_exit ?_
      refine rnd_exit ?_
      refine blk_eq ?_
      refine w_seq ?_
      refine w_region (by kernel_rfl) ?_
      refine o_move gn rfl rfl ?_
      refine o_assign gn rfl rfl ?_
      refine wl_end ?_
      refine w_ret ?_
      refine ⟨.inl rfl, _, rfl, ?_⟩
      have hge : i = n.toNat := by simp at hb; omega
      subst hge
      exact ⟨h.n, P, O, sr, Bm, rfl, hm, hfr, hx⟩

/-- the document's NewMatrix -/
theorem c49 {h : Hp} {n : Int} (hn : n ≤ 1000) : C bitsE 49 [iV n] h fun v h' => ∃ V O Bm, RMat h' v n.toNat (fun _ => List.replicate n.toNat false) V O Bm ∧ (∀ i, i ∈ ownR n.toNat O Bm → h.n ≤ i) ∧ Ext h h' := by
  refine c_enter (fu := Tryd.f49) (by kernel_rfl) rfl ?_
  refine w_seq ?_
  refine w_region (by kernel_rfl) ?_
  refine o_assign gn rfl rfl ?_
  refine wl_end ?_
  refine w_seq ?_
  refine w_region (by kernel_rfl) ?_
  refine o_assign gn rfl rfl ?_
  refine wl_end ?_
  refine w_seq ?_
  refine w_seq ?_
  refine w_region (by kernel_rfl) ?_
  refine o_assign gn rfl rfl ?_
  refine wl_end ?_
  refine w_block ?_
  refine w_weak [(0, iV n), (3, .slice none 0 0), (4, iV (0 : Nat))] (by repeat (first | exact trivial | refine ⟨rfl, ?_⟩)) ?_
  refine w_loop (fun k l hh => ∃ (i : Nat) (s : Value) (V : Nat → Value) (O : Nat → List Nat) (Bm : List Nat), i ≤ n.toNat ∧ k = n.toNat - i ∧ RMat hh s i (fun _ => List.replicate n.toNat false) V O Bm ∧ (∀ z, z ∈ ownR i O Bm → h.n ≤ z) ∧ Ext h hh ∧ l = [(0, iV n), (3, s), (4, iV (i : Nat))]) (n := n.toNat) ?_ fun k l hh hI => ?_
  · exact ⟨0, .slice none 0 0, fun _ => .slice none 0 0, fun _ => [], [], by omega, by omega, ⟨.inl ⟨rfl, rfl, rfl⟩, fun i hi => by omega, fun i j hi => by omega, fun i hi => by omega⟩, fun z hz => by rcases mem_ownR.1 hz with hz | ⟨k, hk, _⟩ <;> first | omega | simp at hz, Ext.refl _, rfl⟩
  · obtain ⟨i, s, V, O, Bm, hi, rfl, hm, hfr, hx, rfl⟩ := hI
    refine w_seq ?_
    refine w_seq ?_
    refine w_region (by kernel_rfl) ?_
    refine o_move gn rfl rfl ?_
    refine o_move gn rfl rfl ?_
    refine o_lss gn rfl rfl rfl ?_
    refine wl_end ?_
    refine w_cond rfl (fun hb => ?_) fun hb => ?_
    · skip
      have hlt : (i : Int) < n := by simpa using hb
      have hxn := hx.n
      obtain ⟨asr, rfl⟩ := hm.row.val
      refine w_skip ?_
      refine w_seq ?_
      refine w_block ?_
      refine w_region (by kernel_rfl) ?_
      refine o_move gn rfl rfl ?_
      refine o_move gn rfl rfl ?_
      refine o_call [_] gn rfl rfl (by kernel_rfl) rfl (C.mono (c37 (by omega)) ?_)
      rintro v1 h1 ⟨own, xa, fa, x1⟩
      have hm1 := hm.ext x1
      obtain ⟨av1, rfl⟩ := xa.val
      refine ⟨ag0, ?_⟩
      refine o_buildSlice (e := 25) (z := 0) (zv := .slice none 0 0) [(0, _)] gn rfl (by kernel_rfl) (by kernel_rfl) (by kernel_rfl) (by kernel_rfl) rfl rfl ?_
      obtain ⟨a7, h7, B7, b1, b3, b4, b5⟩ := push_rowV hm1 xa (fun z hz hj => by have := fa z hz; have := hm.own_lt z hj; omega) (by omega)
      refine o_append gn rfl rfl rfl b1 ag0 ?_
      refine o_assign gn rfl rfl ?_
      refine wl_end ?_
      refine w_region (by kernel_rfl) ?_
      refine o_move gn rfl rfl ?_
      refine o_add gn rfl rfl rfl (by omega) (by omega) ?_
      refine o_assign gn rfl rfl ?_
      refine wl_end ?_
      have x1n := x1.n
      exact ⟨n.toNat - (i + 1), by omega, [(0, iV n), (3, _), (4, iV ((i + 1 : Nat) : Int))], (by repeat (first | exact trivial | refine ⟨rfl, ?_⟩)), i + 1, _, _, _, _, by omega, rfl, b3.congr (fun j hj => by unfold upd; split <;> rfl), own_pushR hfr (fun z hz => by have := fa z hz; omega) (fun z hz => by rcases b5 z hz with h9 | h9; exact .inl h9; exact .inr (by omega)), (hx.trans x1).of b4 (fun z hz => hfr z (mem_ownR.2 (.inl hz))), rfl⟩
    · skip
      refine w_exit ?_
      refine thn_exit ?_
      refine rnd_exit ?_
      refine blk_eq ?_
      refine w_seq ?_
      refine w_region (by kernel_rfl) ?_
      refine o_move gn rfl rfl ?_
      refine o_assign gn rfl rfl ?_
      refine wl_end ?_
      refine w_ret ?_
      refine ⟨.inl rfl, _, rfl, ?_⟩
      have hge : i = n.toNat := by simp at hb; omega
      subst hge
      exact ⟨V, O, Bm, hm, hfr, hx⟩

end Go.Proofs.YtgcapnlfkomgpaaDoor


namespace Go.Proofs.YtgcapnlfkomgpaaDoor
open Go.X

def MAt (h : Hp) (b n : Nat) (M : Nat → List Bool) (own : List Nat) : Prop := ∃ P O sr Bm, MatR h b n M P O sr Bm ∧ own = ownM b n O Bm
def RAt (h : Hp) (s : Value) (n : Nat) (M : Nat → List Bool) (own : List Nat) : Prop := ∃ V O Bm, RMat h s n M V O Bm ∧ own = ownR n O Bm
def setM (M : Nat → List Bool) (i j : Int) : Nat → List Bool := fun k => if (k : Int) = i then addO (M k) j else M k
theorem setM_len (M : Nat → List Bool) (i j : Int) (k : Nat) : (setM M i j k).length = (M k).length := by unfold setM; split <;> simp [addO_len]

section
variable {h h' : Hp} {b n n0 : Nat} {M M' : Nat → List Bool} {s : Value} {own ownr cs : List Nat} {i j : Int}
theorem MAt.keep (x : MAt h b n M own) (g : ExtB cs h h') (hd : ∀ i, i ∈ own → i ∉ cs) : MAt h' b n M own := by
  obtain ⟨P, O, sr, Bm, x, rfl⟩ := x; exact ⟨P, O, sr, Bm, x.keep g hd, rfl⟩
theorem MAt.ext (x : MAt h b n M own) (g : Ext h h') : MAt h' b n M own := x.keep (g.b []) (by simp)
theorem MAt.lt (x : MAt h b n M own) : ∀ i, i ∈ own → i < h.n := by obtain ⟨P, O, sr, Bm, x, rfl⟩ := x; exact x.own_lt
theorem RAt.keep (x : RAt h s n M own) (g : ExtB cs h h') (hd : ∀ i, i ∈ own → i ∉ cs) : RAt h' s n M own := by
  obtain ⟨V, O, Bm, x, rfl⟩ := x; exact ⟨V, O, Bm, x.keep g hd, rfl⟩
theorem RAt.ext (x : RAt h s n M own) (g : Ext h h') : RAt h' s n M own := x.keep (g.b []) (by simp)
theorem RAt.lt (x : RAt h s n M own) : ∀ i, i ∈ own → i < h.n := by obtain ⟨V, O, Bm, x, rfl⟩ := x; exact x.own_lt
theorem RAt.val (x : RAt h s n M own) : ∃ a, s = .slice a n n := by
  obtain ⟨V, O, Bm, x, rfl⟩ := x
  obtain ⟨a, e⟩ := x.row.val
  rw [rowV_len] at e; exact ⟨a, e⟩

/-- The program's and the document's matrix of the same bits, apart, not old. -/
structure TwoM (n0 : Nat) (h : Hp) (b : Nat) (s : Value) (n : Nat) (M : Nat → List Bool) (own ownr : List Nat) : Prop where
  x : MAt h b n M own
  r : RAt h s n M ownr
  ap : ∀ i, i ∈ own → i ∉ ownr
  on : ∀ i, i ∈ own → n0 ≤ i
  rn : ∀ i, i ∈ ownr → n0 ≤ i
theorem TwoM.keep (t : TwoM n0 h b s n M own ownr) (g : ExtB cs h h') (h1 : ∀ i, i ∈ own → i ∉ cs) (h2 : ∀ i, i ∈ ownr → i ∉ cs) : TwoM n0 h' b s n M own ownr := ⟨t.x.keep g h1, t.r.keep g h2, t.ap, t.on, t.rn⟩
theorem TwoM.ext (t : TwoM n0 h b s n M own ownr) (g : Ext h h') : TwoM n0 h' b s n M own ownr := t.keep (g.b []) (by simp) (by simp)

theorem c51' (x : MAt h b n M own) : CP bitsE 51 [ptrV b] h (iV n) := by obtain ⟨P, O, sr, Bm, x, rfl⟩ := x; exact c51 x
theorem c40' (x : MAt h b n M own) (hn : ∀ i, i < n → (M i).length ≤ 100000) : CP bitsE 40 [ptrV b, iV i, iV j] h (.bool (inN n i && hasB (M i.toNat) j)) := by obtain ⟨P, O, sr, Bm, x, rfl⟩ := x; exact c40 x hn
theorem c52' (x : RAt h s n M own) : CP bitsE 52 [s, iV i, iV j] h (.bool (inN n i && hasB (M i.toNat) j)) := by obtain ⟨V, O, Bm, x, rfl⟩ := x; exact c52 x
theorem c28' (x : MAt h b n M own) (hn : ∀ i, i < n → (M i).length ≤ 100000) : C bitsE 28 [ptrV b, iV i] h fun v h' => ∃ b' own', v = ptrV b' ∧ SAt h' b' (if inN n i then M i.toNat else []) own' ∧ (∀ k, k ∈ own' → h.n ≤ k) ∧ Ext h h' := by
  obtain ⟨P, O, sr, Bm, x, rfl⟩ := x; exact c28 x hn
theorem c39' (x : MAt h b n M own) (hn : ∀ i, i < n → (M i).length ≤ 100000) : C bitsE 39 [ptrV b, iV i, iV j] h fun _ h' => MAt h' b n (setM M i j) own ∧ ExtB own h h' := by
  obtain ⟨P, O, sr, Bm, x, rfl⟩ := x
  exact (c39 x hn).mono fun _ _ ⟨y, g⟩ => ⟨⟨_, _, _, _, y, rfl⟩, g⟩
theorem c50' (x : RAt h s n M own) : C bitsE 50 [s, iV i, iV j] h fun _ h' => RAt h' s n (setM M i j) own ∧ ExtB own h h' := by
  obtain ⟨V, O, Bm, x, rfl⟩ := x
  exact (c50 x).mono fun _ _ ⟨y, g⟩ => ⟨⟨_, _, _, y, rfl⟩, g⟩
theorem c38' {n : Int} (hn : n ≤ 1000) : C bitsE 38 [iV n] h fun v h' => ∃ b own, v = ptrV b ∧ MAt h' b n.toNat (fun _ => List.replicate n.toNat false) own ∧ (∀ i, i ∈ own → h.n ≤ i) ∧ Ext h h' :=
  (c38 hn).mono fun _ _ ⟨b, P, O, sr, Bm, e, x, f, g⟩ => ⟨b, _, e, ⟨P, O, sr, Bm, x, rfl⟩, f, g⟩
theorem c49' {n : Int} (hn : n ≤ 1000) : C bitsE 49 [iV n] h fun v h' => ∃ own, RAt h' v n.toNat (fun _ => List.replicate n.toNat false) own ∧ (∀ i, i ∈ own → h.n ≤ i) ∧ Ext h h' :=
  (c49 hn).mono fun _ _ ⟨V, O, Bm, x, f, g⟩ => ⟨_, ⟨V, O, Bm, x, rfl⟩, f, g⟩

theorem two_at {cs : List Value} {o : Nat} {a c : Value} (e : (cs.drop o).take 2 = [a, c]) : cs[o]? = some a ∧ cs[o + 1]? = some c := by
  have h0 : ((cs.drop o).take 2)[0]? = some a := by rw [e]; rfl
  have h1 : ((cs.drop o).take 2)[1]? = some c := by rw [e]; rfl
  rw [List.getElem?_take_of_lt (by omega), List.getElem?_drop] at h0 h1
  exact ⟨h0, h1⟩
end

/-- matrix -/
theorem c22 {h : Hp} {n : Int} {a3 : Option Addr} {n3 c3 : Nat} (hA : ActsB h a3 n3) :
    C bitsE 22 [iV n, .slice a3 n3 c3] h fun v h' => Ext h h' ∧ ∃ p s ok, v = .tuple #[p, s, .bool ok] ∧ (n ≤ 90 ∧ n3 ≤ 300 → ok = true) ∧
      (ok = true → n ≤ 90 ∧ ∃ b own ownr M, p = ptrV b ∧ TwoM h.n h' b s n.toNat M own ownr ∧ ∀ i, (M i).length = n.toNat) := by
  refine c_enter (fu := Tryd.f22) (by kernel_rfl) rfl ?_
  refine w_seq ?_
  refine w_region (by kernel_rfl) ?_
  refine o_assign gn rfl rfl ?_
  refine o_assign gn rfl rfl ?_
  refine o_assign gn rfl rfl ?_
  refine wl_end ?_
  refine w_seq ?_
  refine w_seq ?_
  refine w_region (by kernel_rfl) ?_
  refine o_move gn rfl rfl ?_
  refine o_gtr gn rfl rfl rfl ?_
  refine o_move gn rfl rfl ?_
  refine o_or (n := 3) rfl rfl rfl gn rfl (fun hb => by
      refine o_move (gy rfl rfl rfl hb) rfl rfl ?_
      refine o_len (gy rfl rfl rfl hb) rfl rfl (by kernel_rfl) ?_
      refine o_gtr (gy rfl rfl rfl hb) rfl rfl rfl ?_
      exact wl_end ⟨rfl, rfl, 3, rfl, rfl⟩) ?_
  refine wl_end ?_
  refine w_cond rfl (fun hb => ?_) fun hb => ?_
  · skip
    refine w_seq ?_
    refine w_region (by kernel_rfl) ?_
    refine o_assign gn rfl rfl ?_
    refine o_assign gn rfl rfl ?_
    refine o_assign gn rfl rfl ?_
    refine wl_end ?_
    refine w_ret ?_
    refine ⟨.inl rfl, _, rfl, ?_⟩
    exact ⟨.refl _, _, _, _, rfl, fun hh => by simp at hb; omega, fun hh => by cases hh⟩
  · skip
    have hsm : n ≤ 90 ∧ n3 ≤ 300 := by simp at hb; omega
    refine w_skip ?_
    refine w_seq ?_
    refine w_region (by kernel_rfl) ?_
    refine o_move gn rfl rfl ?_
    refine o_call [_] gn rfl rfl (by kernel_rfl) rfl (C.mono (c38' (by omega)) ?_)
    rintro v1 h1 ⟨b, own, rfl, xa, fa, x1⟩
    refine ⟨ag0, ?_⟩
    refine o_move gn rfl rfl ?_
    refine o_call [_] gn rfl rfl (by kernel_rfl) rfl (C.mono (c49' (by omega)) ?_)
    rintro s h2 ⟨ownr, ra, fr, x2⟩
    have x1n := x1.n
    have t0 : TwoM h.n h2 b s n.toNat (fun _ => List.replicate n.toNat false) own ownr := ⟨xa.ext x2, ra, fun i hi hj => by have := xa.lt i hi; have := fr i hj; omega, fa, fun i hi => by have := fr i hi; omega⟩
    refine ⟨ag0, ?_⟩
    refine o_assign gn rfl rfl ?_
    refine o_assign gn rfl rfl ?_
    refine wl_end ?_
    refine w_seq ?_
    refine w_seq ?_
    refine w_region (by kernel_rfl) ?_
    refine o_assign gn rfl rfl ?_
    refine wl_end ?_
    refine w_block ?_
    refine w_weak [(1, .slice a3 n3 c3), (7, ptrV b), (8, s), (9, iV 0)] (by repeat (first | exact trivial | refine ⟨rfl, ?_⟩)) ?_
    refine w_loop (fun k l hh => ∃ (i : Int) (M : Nat → List Bool), 0 ≤ i ∧ i ≤ n3 ∧ k = (n3 - i).toNat ∧ (∀ z, (M z).length = n.toNat) ∧ TwoM h.n hh b s n.toNat M own ownr ∧ Ext h hh ∧ l = [(1, .slice a3 n3 c3), (7, ptrV b), (8, s), (9, iV i)]) (n := (n3 - (0 : Int)).toNat) ?_ fun k l hh hI => ?_
    · exact ⟨0, _, by omega, by omega, rfl, by simp, t0, x1.trans x2, rfl⟩
    · obtain ⟨i, M, hi0, hi1, rfl, hM, ht, hx, rfl⟩ := hI
      refine w_seq ?_
      refine w_seq ?_
      refine w_region (by kernel_rfl) ?_
      refine o_move gn rfl rfl ?_
      refine o_move gn rfl rfl ?_
      refine o_len gn rfl rfl (by kernel_rfl) ?_
      refine o_lss gn rfl rfl rfl ?_
      refine wl_end ?_
      refine w_cond rfl (fun hb => ?_) fun hb => ?_
      · skip
        have hlt : i < n3 := by simpa using hb
        rcases hA with h0 | ⟨bb, oo, cs, e, mm, rfl, hg, hbb, hall⟩
        · omega
        obtain ⟨hfit, kd, ii, hrow⟩ := hall i.toNat (by omega)
        obtain ⟨r0, r1⟩ := two_at hrow
        have hg2 := (hx.get bb hbb).trans hg
        refine w_skip ?_
        refine w_seq ?_
        refine w_block ?_
        refine w_seq ?_
        refine w_draw [(0, []), (1, []), (2, []), (3, []), (4, []), (5, []), (6, []), (7, []), (8, []), (9, []), (10, []), (11, [])] (by kernel_rfl) (by kernel_rfl) (by kernel_rfl) (by kernel_rfl) ?_
        refine o_move gn rfl rfl ?_
        refine o_move gn rfl rfl ?_
        refine o_move gn rfl rfl ?_
        refine o_indexAddr (zz := 2) gn rfl rfl rfl (by kernel_rfl) (by omega) (by omega) ?_
        refine o_fieldAddr (off := 0) gn rfl rfl (by kernel_rfl) ?_
        refine o_load gn rfl rfl (by kernel_rfl) hg2 r0 ?_
        refine o_move gn rfl rfl ?_
        refine o_move gn rfl rfl ?_
        refine o_indexAddr (zz := 2) gn rfl rfl rfl (by kernel_rfl) (by omega) (by omega) ?_
        refine o_fieldAddr (off := 1) gn rfl rfl (by kernel_rfl) ?_
        refine o_load gn rfl rfl (by kernel_rfl) hg2 r1 ?_
        refine o_call [_, _, _] gn rfl rfl (by kernel_rfl) rfl (C.mono (c39' ht.x (fun z hz => by rw [hM]; omega)) ?_)
        rintro v5 h5 ⟨xa5, g5⟩
        have hg5 := (g5.get bb (Nat.lt_of_lt_of_le hbb hx.n) (fun hm => by have := ht.on _ hm; omega)).trans hg2
        refine ⟨ag0, ?_⟩
        refine wl_end ?_
        refine w_draw [(0, []), (1, []), (2, []), (3, []), (4, []), (5, []), (6, []), (7, []), (8, []), (9, []), (10, []), (11, [])] (by kernel_rfl) (by kernel_rfl) (by kernel_rfl) (by kernel_rfl) ?_
        refine o_move gn rfl rfl ?_
        refine o_move gn rfl rfl ?_
        refine o_move gn rfl rfl ?_
        refine o_indexAddr (zz := 2) gn rfl rfl rfl (by kernel_rfl) (by omega) (by omega) ?_
        refine o_fieldAddr (off := 0) gn rfl rfl (by kernel_rfl) ?_
        refine o_load gn rfl rfl (by kernel_rfl) hg5 r0 ?_
        refine o_move gn rfl rfl ?_
        refine o_move gn rfl rfl ?_
        refine o_indexAddr (zz := 2) gn rfl rfl rfl (by kernel_rfl) (by omega) (by omega) ?_
        refine o_fieldAddr (off := 1) gn rfl rfl (by kernel_rfl) ?_
        refine o_load gn rfl rfl (by kernel_rfl) hg5 r1 ?_
        refine o_call [_, _, _] gn rfl rfl (by kernel_rfl) rfl (C.mono (c50' (ht.r.keep g5 fun z hz hj => ht.ap z hj hz)) ?_)
        rintro v6 h6 ⟨ra6, g6⟩
        refine ⟨ag0, ?_⟩
        refine wl_end ?_
        refine w_region (by kernel_rfl) ?_
        refine o_move gn rfl rfl ?_
        refine o_add gn rfl rfl rfl (by omega) (by omega) ?_
        refine o_assign gn rfl rfl ?_
        refine wl_end ?_
        exact ⟨(n3 - (i + 1)).toNat, by omega, _, (by repeat (first | exact trivial | refine ⟨rfl, ?_⟩)), ⟨i + 1, setM M kd ii, by omega, by omega, rfl, fun z => by rw [setM_len, hM], ⟨xa5.keep g6 ht.ap, ra6, ht.ap, ht.on, ht.rn⟩, (hx.of g5 ht.on).of g6 ht.rn, rfl⟩⟩
      · skip
        refine w_exit ?_
        refine thn_exit ?_
        refine rnd_exit ?_
        refine blk_eq ?_
        refine w_seq ?_
        refine w_region (by kernel_rfl) ?_
        refine o_move gn rfl rfl ?_
        refine o_move gn rfl rfl ?_
        refine o_assign gn rfl rfl ?_
        refine o_assign gn rfl rfl ?_
        refine o_assign gn rfl rfl ?_
        refine wl_end ?_
        refine w_ret ?_
        refine ⟨.inl rfl, _, rfl, ?_⟩
        exact ⟨hx, _, _, _, rfl, fun _ => rfl, fun _ => ⟨hsm.1, b, own, ownr, M, rfl, ht, hM⟩⟩

end Go.Proofs.YtgcapnlfkomgpaaDoor


namespace Go.Proofs.YtgcapnlfkomgpaaDoor
open Go.X

/-- Copy of a matrix -/
theorem c23 {h : Hp} {b n : Nat} {M : Nat → List Bool} {own : List Nat} (x : MAt h b n M own) (hn : ∀ i, i < n → (M i).length ≤ 100000) (hnn : n ≤ 1000) :
    C bitsE 23 [ptrV b] h fun v h' => ∃ b' own', v = ptrV b' ∧ MAt h' b' n M own' ∧ (∀ i, i ∈ own' → h.n ≤ i) ∧ Ext h h' := by
  obtain ⟨P0, O0, sr0, Bm0, x, rfl⟩ := x
  have ht0 := x.top
  have hblt := x.lt
  obtain ⟨a, rfl⟩ := x.row.val
  have hl0 := rowP_len n P0
  refine c_enter (fu := Tryd.f23) (by kernel_rfl) rfl ?_
  refine w_seq ?_
  refine w_region (by kernel_rfl) ?_
  refine o_assign gn rfl rfl ?_
  refine wl_end ?_
  refine w_seq ?_
  refine w_seq ?_
  refine w_region (by kernel_rfl) ?_
  refine o_move gn rfl rfl ?_
  refine o_eqp gn rfl rfl rfl (by kernel_rfl) ?_
  refine wl_end ?_
  refine w_cond rfl (fun hb => ?_) fun hb => ?_
  · skip
    refine w_seq ?_
    refine w_region (by kernel_rfl) ?_
    refine o_assign gn rfl rfl ?_
    refine wl_end ?_
    refine w_ret ?_
    refine ⟨.inl rfl, _, rfl, ?_⟩
    simp at hb
  · skip
    refine w_skip ?_
    refine w_seq ?_
    refine w_region (by kernel_rfl) ?_
    refine o_build (zv := .agg #[.slice none 0 0]) (pl := [(0, 1)]) [] gn rfl (by kernel_rfl) (by kernel_rfl) rfl rfl ?_
    refine o_box gn rfl rfl ?_
    refine wl_at (fun h1 => h1.get h.n = some (.cells [.slice none 0 0] 79 0) ∧ Ext h h1 ∧ h1.n = h.n + 1) ⟨Hp.get_alloc_self _ _, Ext.alloc _ _, Hp.n_alloc _ _⟩ fun h1 ⟨g1, x1, n1⟩ => ?_
    have ht1 := (x1.get b hblt).trans ht0
    refine o_assign gn rfl rfl ?_
    refine wl_end ?_
    refine w_seq ?_
    refine w_seq ?_
    refine w_region (by kernel_rfl) ?_
    refine o_move gn rfl rfl ?_
    refine o_nilCheck gn rfl rfl ?_
    refine o_fieldAddr (off := 0) gn rfl rfl (by kernel_rfl) ?_
    refine o_load gn rfl rfl (by kernel_rfl) ht1 rfl ?_
    refine o_len gn rfl rfl (by kernel_rfl) ?_
    refine o_move gn rfl rfl ?_
    refine wl_end ?_
    refine w_block ?_
    refine w_weak [(3, ptrV h.n), (13, .slice a (rowP n P0).length (rowP n P0).length), (14, .int .i64 ((rowP n P0).length : Nat)), (15, iV (0 : Nat))] (by repeat (first | exact trivial | refine ⟨rfl, ?_⟩)) ?_
    refine w_loop (fun k l hh => ∃ (i : Nat) (P : Nat → Nat) (O : Nat → List Nat) (sr : Value) (Bm : List Nat), i ≤ n ∧ k = n - i ∧ MatR hh h.n i M P O sr Bm ∧ (∀ z, z ∈ ownM h.n i O Bm → h.n ≤ z) ∧ Ext h hh ∧ l = [(3, ptrV h.n), (13, .slice a (rowP n P0).length (rowP n P0).length), (14, .int .i64 ((rowP n P0).length : Nat)), (15, iV (i : Nat))]) (n := n) ?_ fun k l hh hI => ?_
    · exact ⟨0, fun _ => 0, fun _ => [], .slice none 0 0, [], by omega, by omega, ⟨g1, .inl ⟨rfl, rfl, rfl⟩, fun i hi => by omega, fun i j hi => by omega, fun i hi => by omega, by omega, by simp⟩, fun z hz => by rcases mem_ownM.1 hz with rfl | hz | ⟨k, hk, _⟩ <;> first | omega | simp at hz, x1, rfl⟩
    · obtain ⟨i, P, O, sr, Bm, hi, rfl, hm, hfr, hx, rfl⟩ := hI
      refine w_seq ?_
      refine w_region (by kernel_rfl) ?_
      refine o_lss gn rfl rfl rfl ?_
      refine wl_end ?_
      refine w_seq ?_
      refine w_cond rfl (fun hb => ?_) fun hb => ?_
      · skip
        have hlt : i < n := by rw [hl0] at hb; simpa using hb
        have hxn := hx.n
        have ht := hm.top
        obtain ⟨asr, rfl⟩ := hm.row.val
        obtain ⟨bb, m, ea, hg, hmm, hblt2, _⟩ := x.row.at (by omega)
        simp only [Value.slice.injEq, and_true] at ea
        subst ea
        have hg2 := (hx.get bb hblt2).trans hg
        obtain ⟨ws, sw, Bw, xs, _⟩ := (x.each i hlt).ext hx
        refine w_skip ?_
        refine w_seq ?_
        refine w_block ?_
        refine w_seq ?_
        refine w_region (by kernel_rfl) ?_
        refine o_indexAddr (zz := 1) gn rfl rfl rfl (by kernel_rfl) (by omega) (by omega) ?_
        refine o_load gn rfl rfl (by kernel_rfl) hg2 (rowP_at i hlt (by omega)) ?_
        refine o_assign gn rfl rfl ?_
        refine wl_end ?_
        refine w_draw [(0, []), (1, []), (2, []), (3, []), (4, []), (5, []), (6, [4]), (7, []), (8, []), (9, []), (10, []), (11, [])] (by kernel_rfl) (by kernel_rfl) (by kernel_rfl) (by kernel_rfl) ?_
        refine o_move gn rfl rfl ?_
        refine o_move gn rfl rfl ?_
        refine o_nilCheck gn rfl rfl ?_
        refine o_fieldAddr (off := 0) gn rfl rfl (by kernel_rfl) ?_
        refine o_load gn rfl rfl (by kernel_rfl) ht rfl ?_
        refine o_move gn rfl rfl ?_
        refine o_call [_] gn rfl rfl (by kernel_rfl) rfl (C.mono (c9 xs (hn _ hlt)) ?_)
        rintro v2 h2 ⟨p, own, rfl, xa, fa, x2⟩
        have hm1 := hm.ext x2
        have ht2 := hm1.top
        refine ⟨(ag1 (ag_load gn rfl (by kernel_rfl) (by assumption) rfl rfl same_slice) ag0), ?_⟩
        refine o_buildSlice (e := 23) (z := 0) (zv := .pointer none) [(0, _)] gn rfl (by kernel_rfl) (by kernel_rfl) (by kernel_rfl) (by kernel_rfl) rfl rfl ?_
        obtain ⟨a7, h7, B7, b1, b2, b3, b4, b5⟩ := push_row hm1 xa (fun z hz hj => by have := fa z hz; have := hm.own_lt z hj; omega) (by omega)
        refine o_append gn rfl rfl rfl b1 ag0 ?_
        refine o_nilCheck gn rfl rfl ?_
        refine o_fieldAddr (off := 0) gn rfl rfl (by kernel_rfl) ?_
        refine o_store gn rfl rfl rfl (by kernel_rfl) b2 (by decide) (by simp) ag0 ?_
        refine wl_end ?_
        refine w_region (by kernel_rfl) ?_
        refine o_add gn rfl rfl rfl (by omega) (by omega) ?_
        refine o_move gn rfl rfl ?_
        refine wl_end ?_
        have x2n := x2.n
        exact ⟨n - (i + 1), by omega, [(3, ptrV h.n), (13, .slice (some ⟨bb, 0, none⟩) (rowP n P0).length (rowP n P0).length), (14, .int .i64 ((rowP n P0).length : Nat)), (15, iV ((i + 1 : Nat) : Int))], (by repeat (first | exact trivial | refine ⟨rfl, ?_⟩)), i + 1, _, _, _, _, by omega, rfl, b3.congr (fun j hj => by unfold upd; split <;> simp_all), own_push hfr (fun z hz => by have := fa z hz; omega) (fun z hz => by rcases b5 z hz with h9 | h9; exact .inl h9; exact .inr (by omega)), (hx.trans x2).of b4 (fun z hz => by
          rcases List.mem_cons.1 hz with h9 | h9
          · omega
          · exact hfr z (mem_ownM.2 (.inr (.inl h9)))), rfl⟩
      · skip
        refine w_exit ?_
        refine thn_exit ?_
        refine rnd_exit ?_
        refine blk_eq ?_
        refine w_seq ?_
        refine w_region (by kernel_rfl) ?_
        refine o_move gn rfl rfl ?_
        refine o_assign gn rfl rfl ?_
        refine wl_end ?_
        refine w_ret ?_
        refine ⟨.inl rfl, _, rfl, ?_⟩
        have hge : i = n := by rw [hl0] at hb; simp at hb; omega
        subst hge
        exact ⟨h.n, _, rfl, ⟨P, O, sr, Bm, hm, rfl⟩, hfr, hx⟩

/-- the document's Copy of a matrix -/
theorem c54 {h : Hp} {s : Value} {n : Nat} {M : Nat → List Bool} {own : List Nat} (x : RAt h s n M own) (hn : ∀ i, i < n → (M i).length ≤ 100000) (hnn : n ≤ 1000) :
    C bitsE 54 [s] h fun v h' => ∃ own', RAt h' v n M own' ∧ (∀ i, i ∈ own' → h.n ≤ i) ∧ Ext h h' := by
  obtain ⟨V0, O0, Bm0, x, rfl⟩ := x
  obtain ⟨a, rfl⟩ := x.row.val
  have hl0 := rowV_len n V0
  refine c_enter (fu := Tryd.f54) (by kernel_rfl) rfl ?_
  refine w_seq ?_
  refine w_region (by kernel_rfl) ?_
  refine o_assign gn rfl rfl ?_
  refine wl_end ?_
  refine w_seq ?_
  refine w_region (by kernel_rfl) ?_
  refine o_assign gn rfl rfl ?_
  refine wl_end ?_
  refine w_seq ?_
  refine w_seq ?_
  refine w_region (by kernel_rfl) ?_
  refine o_assign gn rfl rfl ?_
  refine wl_end ?_
  refine w_block ?_
  refine w_weak [(0, .slice a (rowV n V0).length (rowV n V0).length), (3, .slice none 0 0), (4, iV (0 : Nat))] (by repeat (first | exact trivial | refine ⟨rfl, ?_⟩)) ?_
  refine w_loop (fun k l hh => ∃ (i : Nat) (s : Value) (V : Nat → Value) (O : Nat → List Nat) (Bm : List Nat), i ≤ n ∧ k = n - i ∧ RMat hh s i M V O Bm ∧ (∀ z, z ∈ ownR i O Bm → h.n ≤ z) ∧ Ext h hh ∧ l = [(0, .slice a (rowV n V0).length (rowV n V0).length), (3, s), (4, iV (i : Nat))]) (n := n) ?_ fun k l hh hI => ?_
  · exact ⟨0, .slice none 0 0, fun _ => .slice none 0 0, fun _ => [], [], by omega, by omega, ⟨.inl ⟨rfl, rfl, rfl⟩, fun i hi => by omega, fun i j hi => by omega, fun i hi => by omega⟩, fun z hz => by rcases mem_ownR.1 hz with hz | ⟨k, hk, _⟩ <;> first | omega | simp at hz, Ext.refl _, rfl⟩
  · obtain ⟨i, s, V, O, Bm, hi, rfl, hm, hfr, hx, rfl⟩ := hI
    refine w_seq ?_
    refine w_seq ?_
    refine w_region (by kernel_rfl) ?_
    refine o_move gn rfl rfl ?_
    refine o_move gn rfl rfl ?_
    refine o_len gn rfl rfl (by kernel_rfl) ?_
    refine o_lss gn rfl rfl rfl ?_
    refine wl_end ?_
    refine w_cond rfl (fun hb => ?_) fun hb => ?_
    · skip
      have hlt : i < n := by rw [hl0] at hb; simpa using hb
      have hxn := hx.n
      obtain ⟨asr, rfl⟩ := hm.row.val
      obtain ⟨bb, m, ea, hg, hmm, hblt2, _⟩ := x.row.at (by omega)
      simp only [Value.slice.injEq, and_true] at ea
      subst ea
      have hg2 := (hx.get bb hblt2).trans hg
      refine w_skip ?_
      refine w_seq ?_
      refine w_block ?_
      refine w_region (by kernel_rfl) ?_
      refine o_move gn rfl rfl ?_
      refine o_move gn rfl rfl ?_
      refine o_move gn rfl rfl ?_
      refine o_indexAddr (zz := 1) gn rfl rfl rfl (by kernel_rfl) (by omega) (by omega) ?_
      refine o_load gn rfl rfl (by kernel_rfl) hg2 (rowV_at i hlt (by omega)) ?_
      refine o_call [_] gn rfl rfl (by kernel_rfl) rfl (C.mono (c10 ((x.each i hlt).ext hx) (hn _ hlt)) ?_)
      rintro v1 h1 ⟨own, xa, fa, x1⟩
      have hm1 := hm.ext x1
      obtain ⟨av1, rfl⟩ := xa.val
      refine ⟨ag0, ?_⟩
      refine o_buildSlice (e := 25) (z := 0) (zv := .slice none 0 0) [(0, _)] gn rfl (by kernel_rfl) (by kernel_rfl) (by kernel_rfl) (by kernel_rfl) rfl rfl ?_
      obtain ⟨a7, h7, B7, b1, b3, b4, b5⟩ := push_rowV hm1 xa (fun z hz hj => by have := fa z hz; have := hm.own_lt z hj; omega) (by omega)
      refine o_append gn rfl rfl rfl b1 ag0 ?_
      refine o_assign gn rfl rfl ?_
      refine wl_end ?_
      refine w_region (by kernel_rfl) ?_
      refine o_move gn rfl rfl ?_
      refine o_add gn rfl rfl rfl (by omega) (by omega) ?_
      refine o_assign gn rfl rfl ?_
      refine wl_end ?_
      have x1n := x1.n
      exact ⟨n - (i + 1), by omega, [(0, _), (3, _), (4, iV ((i + 1 : Nat) : Int))], (by repeat (first | exact trivial | refine ⟨rfl, ?_⟩)), i + 1, _, _, _, _, by omega, rfl, b3.congr (fun j hj => by unfold upd; split <;> simp_all), own_pushR hfr (fun z hz => by have := fa z hz; omega) (fun z hz => by rcases b5 z hz with h9 | h9; exact .inl h9; exact .inr (by omega)), (hx.trans x1).of b4 (fun z hz => hfr z (mem_ownR.2 (.inl hz))), rfl⟩
    · skip
      refine w_exit ?_
      refine thn_exit ?_
      refine rnd_exit ?_
      refine blk_eq ?_
      refine w_seq ?_
      refine w_region (by kernel_rfl) ?_
      refine o_move gn rfl rfl ?_
      refine o_assign gn rfl rfl ?_
      refine wl_end ?_
      refine w_ret ?_
      refine ⟨.inl rfl, _, rfl, ?_⟩
      have hge : i = n := by rw [hl0] at hb; simp at hb; omega
      subst hge
      exact ⟨_, ⟨V, O, Bm, hm, rfl⟩, hfr, hx⟩

end Go.Proofs.YtgcapnlfkomgpaaDoor


namespace Go.Proofs.YtgcapnlfkomgpaaDoor
open Go.X

noncomputable def sameMD (n : Nat) (M M' : Nat → List Bool) : Bool := @decide (∀ i, i < n → SameB (M i) (M' i)) (Classical.propDecidable _)
theorem sameMD_no {n i : Nat} {M M' : Nat → List Bool} (hi : i < n) (h : sameD (M i) (M' i) = false) : sameMD n M M' = false := by
  simp only [sameMD, sameD, decide_eq_false_iff_not] at h ⊢
  exact fun k => h (k i hi)
theorem sameMD_yes {n : Nat} {M M' : Nat → List Bool} (h : ∀ i, i < n → sameD (M i) (M' i) = true) : sameMD n M M' = true := by
  simp only [sameMD, sameD, decide_eq_true_eq] at h ⊢
  exact h

section
variable {h : Hp} {b b2 n : Nat} {M M2 : Nat → List Bool} {own own2 : List Nat} {s s2 : Value}

/-- Same of matrices -/
theorem c25 (x : MAt h b n M own) (o : MAt h b2 n M2 own2) (tb : Tab h) (hn : ∀ i, i < n → (M i).length ≤ 100000) (hn2 : ∀ i, i < n → (M2 i).length ≤ 100000) (hnn : n ≤ 1000) :
    C bitsE 25 [ptrV b, ptrV b2] h fun v h' => v = .bool (sameMD n M M2) ∧ Ext h h' := by
  obtain ⟨P, O, sr, Bm, x, rfl⟩ := x
  obtain ⟨P2, O2, sr2, Bm2, o, rfl⟩ := o
  have ht := x.top
  have ht2 := o.top
  have hl := rowP_len n P
  have hl2 := rowP_len n P2
  obtain ⟨a, rfl⟩ := x.row.val
  obtain ⟨a2, rfl⟩ := o.row.val
  refine c_enter (fu := Tryd.f25) (by kernel_rfl) rfl ?_
  refine w_seq ?_
  refine w_region (by kernel_rfl) ?_
  refine o_assign gn rfl rfl ?_
  refine wl_end ?_
  refine w_seq ?_
  refine w_seq ?_
  refine w_region (by kernel_rfl) ?_
  refine o_move gn rfl rfl ?_
  refine o_call [_] gn rfl rfl (by kernel_rfl) rfl (c_pure (c51 x) ⟨ag0, ?_⟩)
  refine o_move gn rfl rfl ?_
  refine o_call [_] gn rfl rfl (by kernel_rfl) rfl (c_pure (c51 o) ⟨ag0, ?_⟩)
  refine o_nei gn rfl rfl rfl ?_
  refine wl_end ?_
  refine w_cond rfl (fun hb => ?_) fun hb => ?_
  · skip
    refine w_seq ?_
    refine w_region (by kernel_rfl) ?_
    refine o_assign gn rfl rfl ?_
    refine wl_end ?_
    refine w_ret ?_
    refine ⟨.inl rfl, _, rfl, ?_⟩
    simp at hb
  · skip
    refine w_skip ?_
    refine w_seq ?_
    refine w_seq ?_
    refine w_region (by kernel_rfl) ?_
    refine o_move gn rfl rfl ?_
    refine o_call [_] gn rfl rfl (by kernel_rfl) rfl (c_pure (c51 x) ⟨ag0, ?_⟩)
    refine o_move gn rfl rfl ?_
    refine wl_end ?_
    refine w_block ?_
    refine w_weak [(0, ptrV b), (1, ptrV b2), (12, iV n), (13, iV (0 : Nat))] (by repeat (first | exact trivial | refine ⟨rfl, ?_⟩)) ?_
    refine w_loop (fun k l hh => ∃ i : Nat, i ≤ n ∧ k = n - i ∧ (∀ j, j < i → sameD (M j) (M2 j) = true) ∧ Ext h hh ∧ l = [(0, ptrV b), (1, ptrV b2), (12, iV n), (13, iV (i : Nat))]) (n := n) ?_ fun k l hh hI => ?_
    · exact ⟨0, by omega, by omega, fun j hj => by omega, .refl _, rfl⟩
    · obtain ⟨i, hi, rfl, hall, hx, rfl⟩ := hI
      refine w_seq ?_
      refine w_region (by kernel_rfl) ?_
      refine o_lss gn rfl rfl rfl ?_
      refine wl_end ?_
      refine w_seq ?_
      refine w_cond rfl (fun hb => ?_) fun hb => ?_
      · skip
        have hlt : i < n := by simpa using hb
        obtain ⟨bb, m, ea, hg, hm, hblt, _⟩ := x.row.at (by omega)
        simp only [Value.slice.injEq, and_true] at ea
        subst ea
        obtain ⟨bb2, m2, ea2, hg2, hm2, hblt2, _⟩ := o.row.at (by omega)
        simp only [Value.slice.injEq, and_true] at ea2
        subst ea2
        have htx := (hx.get b x.lt).trans ht
        have hto := (hx.get b2 o.lt).trans ht2
        have hgx := (hx.get bb hblt).trans hg
        have hgo := (hx.get bb2 hblt2).trans hg2
        refine w_skip ?_
        refine w_seq ?_
        refine w_block ?_
        refine w_seq ?_
        refine w_region (by kernel_rfl) ?_
        refine o_move gn rfl rfl ?_
        refine o_assign gn rfl rfl ?_
        refine wl_end ?_
        refine w_seq ?_
        refine w_draw [(0, []), (1, []), (2, []), (3, []), (4, []), (5, []), (6, []), (7, []), (8, []), (9, []), (10, []), (11, []), (12, []), (13, []), (14, []), (15, [])] (by kernel_rfl) (by kernel_rfl) (by kernel_rfl) (by kernel_rfl) ?_
        refine o_move gn rfl rfl ?_
        refine o_nilCheck gn rfl rfl ?_
        refine o_fieldAddr (off := 0) gn rfl rfl (by kernel_rfl) ?_
        refine o_load gn rfl rfl (by kernel_rfl) htx rfl ?_
        refine o_move gn rfl rfl ?_
        refine o_indexAddr (zz := 1) gn rfl rfl rfl (by kernel_rfl) (by omega) (by omega) ?_
        refine o_load gn rfl rfl (by kernel_rfl) hgx (rowP_at i hlt (by omega)) ?_
        refine o_move gn rfl rfl ?_
        refine o_nilCheck gn rfl rfl ?_
        refine o_fieldAddr (off := 0) gn rfl rfl (by kernel_rfl) ?_
        refine o_load gn rfl rfl (by kernel_rfl) hto rfl ?_
        refine o_move gn rfl rfl ?_
        refine o_indexAddr (zz := 1) gn rfl rfl rfl (by kernel_rfl) (by omega) (by omega) ?_
        refine o_load gn rfl rfl (by kernel_rfl) hgo (rowP_at i hlt (by omega)) ?_
        refine o_call [_, _] gn rfl rfl (by kernel_rfl) rfl (C.mono (c12' ((x.each i hlt).ext hx) ((o.each i hlt).ext hx) (tb.ext hx) (hn i hlt) (hn2 i hlt)) ?_)
        rintro v2 h2 ⟨rfl, x2⟩
        refine ⟨ag0, ?_⟩
        refine o_not gn rfl rfl ?_
        refine wl_end ?_
        refine w_cond rfl (fun hb => ?_) fun hb => ?_
        · skip
          refine w_seq ?_
          refine w_region (by kernel_rfl) ?_
          refine o_assign gn rfl rfl ?_
          refine wl_end ?_
          refine w_ret ?_
          refine ⟨.inl rfl, _, rfl, ?_⟩
          exact ⟨by rw [sameMD_no hlt (by simpa using hb)]; rfl, hx.trans x2⟩
        · skip
          have hsm : sameD (M i) (M2 i) = true := by simpa using hb
          refine w_skip ?_
          refine w_region (by kernel_rfl) ?_
          refine o_add gn rfl rfl rfl (by omega) (by omega) ?_
          refine o_move gn rfl rfl ?_
          refine wl_end ?_
          exact ⟨n - (i + 1), by omega, [(0, ptrV b), (1, ptrV b2), (12, iV n), (13, iV ((i + 1 : Nat) : Int))], (by repeat (first | exact trivial | refine ⟨rfl, ?_⟩)), i + 1, by omega, rfl, fun j hj => by
            by_cases e : j = i
            · subst e; exact hsm
            · exact hall j (by omega), hx.trans x2, rfl⟩
      · skip
        refine w_exit ?_
        refine thn_exit ?_
        refine rnd_exit ?_
        refine blk_eq ?_
        refine w_seq ?_
        refine w_region (by kernel_rfl) ?_
        refine o_assign gn rfl rfl ?_
        refine wl_end ?_
        refine w_ret ?_
        refine ⟨.inl rfl, _, rfl, ?_⟩
        have hge : i = n := by simp at hb; omega
        subst hge
        exact ⟨by rw [sameMD_yes hall]; rfl, hx⟩

/-- SameMatrix -/
theorem c31 (x : RAt h s n M own) (o : RAt h s2 n M2 own2) (hn : ∀ i, i < n → (M i).length ≤ 100000) (hn2 : ∀ i, i < n → (M2 i).length ≤ 100000) (hnn : n ≤ 1000) :
    CP bitsE 31 [s, s2] h (.bool (sameMD n M M2)) := by
  obtain ⟨P, O, Bm, x, rfl⟩ := x
  obtain ⟨P2, O2, Bm2, o, rfl⟩ := o
  have hl := rowV_len n P
  have hl2 := rowV_len n P2
  obtain ⟨a, rfl⟩ := x.row.val
  obtain ⟨a2, rfl⟩ := o.row.val
  refine c_enter (fu := Tryd.f31) (by kernel_rfl) rfl ?_
  refine w_seq ?_
  refine w_region (by kernel_rfl) ?_
  refine o_assign gn rfl rfl ?_
  refine wl_end ?_
  refine w_seq ?_
  refine w_seq ?_
  refine w_region (by kernel_rfl) ?_
  refine o_move gn rfl rfl ?_
  refine o_len gn rfl rfl (by kernel_rfl) ?_
  refine o_move gn rfl rfl ?_
  refine o_len gn rfl rfl (by kernel_rfl) ?_
  refine o_nei gn rfl rfl rfl ?_
  refine wl_end ?_
  refine w_cond rfl (fun hb => ?_) fun hb => ?_
  · skip
    refine w_seq ?_
    refine w_region (by kernel_rfl) ?_
    refine o_assign gn rfl rfl ?_
    refine wl_end ?_
    refine w_ret ?_
    refine ⟨.inl rfl, _, rfl, ?_⟩
    rw [hl, hl2] at hb
    simp at hb
  · skip
    refine w_skip ?_
    refine w_seq ?_
    refine w_seq ?_
    refine w_region (by kernel_rfl) ?_
    refine o_assign gn rfl rfl ?_
    refine wl_end ?_
    refine w_block ?_
    refine w_weak [(0, .slice a (rowV n P).length (rowV n P).length), (1, .slice a2 (rowV n P2).length (rowV n P2).length), (5, iV (0 : Nat))] (by repeat (first | exact trivial | refine ⟨rfl, ?_⟩)) ?_
    refine w_loop (fun k l hh => ∃ i : Nat, i ≤ n ∧ k = n - i ∧ (∀ j, j < i → sameD (M j) (M2 j) = true) ∧ hh = h ∧ l = [(0, .slice a (rowV n P).length (rowV n P).length), (1, .slice a2 (rowV n P2).length (rowV n P2).length), (5, iV (i : Nat))]) (n := n) ?_ fun k l hh hI => ?_
    · exact ⟨0, by omega, by omega, fun j hj => by omega, rfl, rfl⟩
    · obtain ⟨i, hi, rfl, hall, rfl, rfl⟩ := hI
      refine w_seq ?_
      refine w_seq ?_
      refine w_region (by kernel_rfl) ?_
      refine o_move gn rfl rfl ?_
      refine o_move gn rfl rfl ?_
      refine o_len gn rfl rfl (by kernel_rfl) ?_
      refine o_lss gn rfl rfl rfl ?_
      refine wl_end ?_
      refine w_cond rfl (fun hb => ?_) fun hb => ?_
      · skip
        have hlt : i < n := by rw [hl] at hb; simpa using hb
        obtain ⟨bb, m, ea, hg, hm, hblt, _⟩ := x.row.at (by omega)
        simp only [Value.slice.injEq, and_true] at ea
        subst ea
        obtain ⟨bb2, m2, ea2, hg2, hm2, hblt2, _⟩ := o.row.at (by omega)
        simp only [Value.slice.injEq, and_true] at ea2
        subst ea2
        refine w_skip ?_
        refine w_seq ?_
        refine w_block ?_
        refine w_seq ?_
        refine w_draw [(0, []), (1, []), (2, []), (3, []), (4, []), (5, []), (6, []), (7, []), (8, []), (9, [])] (by kernel_rfl) (by kernel_rfl) (by kernel_rfl) (by kernel_rfl) ?_
        refine o_move gn rfl rfl ?_
        refine o_move gn rfl rfl ?_
        refine o_indexAddr (zz := 1) gn rfl rfl rfl (by kernel_rfl) (by omega) (by omega) ?_
        refine o_load gn rfl rfl (by kernel_rfl) hg (rowV_at i hlt (by omega)) ?_
        refine o_move gn rfl rfl ?_
        refine o_move gn rfl rfl ?_
        refine o_indexAddr (zz := 1) gn rfl rfl rfl (by kernel_rfl) (by omega) (by omega) ?_
        refine o_load gn rfl rfl (by kernel_rfl) hg2 (rowV_at i hlt (by omega)) ?_
        refine o_call [_, _] gn rfl rfl (by kernel_rfl) rfl (C.mono (c18' (x.each i hlt) (o.each i hlt) (hn i hlt) (hn2 i hlt)) ?_)
        rintro v h' ⟨rfl, rfl⟩
        refine ⟨ag0, ?_⟩
        refine o_not gn rfl rfl ?_
        refine wl_end ?_
        refine w_cond rfl (fun hb => ?_) fun hb => ?_
        · skip
          refine w_seq ?_
          refine w_region (by kernel_rfl) ?_
          refine o_assign gn rfl rfl ?_
          refine wl_end ?_
          refine w_ret ?_
          refine ⟨.inl rfl, _, rfl, ?_⟩
          exact ⟨by rw [sameMD_no hlt (by simpa using hb)]; rfl, rfl⟩
        · skip
          have hsm : sameD (M i) (M2 i) = true := by simpa using hb
          refine w_skip ?_
          refine w_region (by kernel_rfl) ?_
          refine o_move gn rfl rfl ?_
          refine o_add gn rfl rfl rfl (by omega) (by omega) ?_
          refine o_assign gn rfl rfl ?_
          refine wl_end ?_
          exact ⟨n - (i + 1), by omega, [(0, _), (1, _), (5, iV ((i + 1 : Nat) : Int))], (by repeat (first | exact trivial | refine ⟨rfl, ?_⟩)), i + 1, by omega, rfl, fun j hj => by
            by_cases e : j = i
            · subst e; exact hsm
            · exact hall j (by omega), rfl, rfl⟩
      · skip
        refine w_exit ?_
        refine thn_exit ?_
        refine rnd_exit ?_
        refine blk_eq ?_
        refine w_seq ?_
        refine w_region (by kernel_rfl) ?_
        refine o_assign gn rfl rfl ?_
        refine wl_end ?_
        refine w_ret ?_
        refine ⟨.inl rfl, _, rfl, ?_⟩
        have hge : i = n := by rw [hl] at hb; simp at hb; omega
        subst hge
        exact ⟨by rw [sameMD_yes hall]; rfl, rfl⟩

/-- alike: of the same bits -/
theorem c24 (x : MAt h b n M own) (r : RAt h s n M own2) (tb : Tab h) (hn : ∀ i, i < n → (M i).length ≤ n) (hnn : n ≤ 1000) :
    C bitsE 24 [ptrV b, s] h fun v h' => v = .bool true ∧ Ext h h' := by
  have hn' : ∀ i, i < n → (M i).length ≤ 100000 := fun i hi => by have := hn i hi; omega
  have r0 := r
  obtain ⟨V, O, Bm, r, rfl⟩ := r
  have hl := rowV_len n V
  obtain ⟨a, rfl⟩ := r.row.val
  refine c_enter (fu := Tryd.f24) (by kernel_rfl) rfl ?_
  refine w_seq ?_
  refine w_region (by kernel_rfl) ?_
  refine o_assign gn rfl rfl ?_
  refine wl_end ?_
  refine w_seq ?_
  refine w_seq ?_
  refine w_region (by kernel_rfl) ?_
  refine o_move gn rfl rfl ?_
  refine o_call [_] gn rfl rfl (by kernel_rfl) rfl (c_pure (c51' x) ⟨ag0, ?_⟩)
  refine o_move gn rfl rfl ?_
  refine o_len gn rfl rfl (by kernel_rfl) ?_
  refine o_nei gn rfl rfl rfl ?_
  refine wl_end ?_
  refine w_cond rfl (fun hb => ?_) fun hb => ?_
  · skip
    refine w_seq ?_
    refine w_region (by kernel_rfl) ?_
    refine o_assign gn rfl rfl ?_
    refine wl_end ?_
    refine w_ret ?_
    refine ⟨.inl rfl, _, rfl, ?_⟩
    rw [hl] at hb
    simp at hb
  · skip
    refine w_skip ?_
    refine w_seq ?_
    refine w_seq ?_
    refine w_region (by kernel_rfl) ?_
    refine o_assign gn rfl rfl ?_
    refine wl_end ?_
    refine w_block ?_
    refine w_weak [(0, ptrV b), (1, .slice a (rowV n V).length (rowV n V).length), (5, iV (0 : Nat))] (by repeat (first | exact trivial | refine ⟨rfl, ?_⟩)) ?_
    refine w_loop (fun k l hh => ∃ i : Nat, i ≤ n ∧ k = n - i ∧ Ext h hh ∧ l = [(0, ptrV b), (1, .slice a (rowV n V).length (rowV n V).length), (5, iV (i : Nat))]) (n := n) ?_ fun k l hh hI => ?_
    · exact ⟨0, by omega, by omega, .refl _, rfl⟩
    · obtain ⟨i, hi, rfl, hx, rfl⟩ := hI
      refine w_seq ?_
      refine w_seq ?_
      refine w_region (by kernel_rfl) ?_
      refine o_move gn rfl rfl ?_
      refine o_move gn rfl rfl ?_
      refine o_len gn rfl rfl (by kernel_rfl) ?_
      refine o_lss gn rfl rfl rfl ?_
      refine wl_end ?_
      refine w_cond rfl (fun hb => ?_) fun hb => ?_
      · skip
        have hlt : i < n := by rw [hl] at hb; simpa using hb
        obtain ⟨bb, m, ea, hg, hm, hblt, _⟩ := r.row.at (by omega)
        simp only [Value.slice.injEq, and_true] at ea
        subst ea
        have hgx := (hx.get bb hblt).trans hg
        have hin : inN n (i : Int) = true := inN_iff.2 ⟨by omega, by simpa using hlt⟩
        refine w_skip ?_
        refine w_seq ?_
        refine w_block ?_
        refine w_seq ?_
        refine w_draw [(0, []), (1, []), (3, []), (4, []), (5, []), (6, []), (2, [6]), (7, []), (8, []), (9, []), (10, []), (11, []), (12, []), (14, []), (15, []), (16, []), (13, []), (17, []), (18, []), (19, [])] (by kernel_rfl) (by kernel_rfl) (by kernel_rfl) (by kernel_rfl) ?_
        refine o_move gn rfl rfl ?_
        refine o_move gn rfl rfl ?_
        refine o_move gn rfl rfl ?_
        refine o_move gn rfl rfl ?_
        refine o_indexAddr (zz := 1) gn rfl rfl rfl (by kernel_rfl) (by omega) (by omega) ?_
        refine o_load gn rfl rfl (by kernel_rfl) hgx (rowV_at i hlt (by omega)) ?_
        refine o_call [_, _] gn rfl rfl (by kernel_rfl) rfl (C.mono (c28' (i := (i : Int)) (x.ext hx) hn') ?_)
        rintro v2 h2 ⟨b', own', rfl, xr, fr, x2⟩
        rw [hin, if_pos rfl, Int.toNat_natCast] at xr
        have hg2 := (x2.get bb (Nat.lt_of_lt_of_le hblt hx.n)).trans hgx
        refine ⟨(ag1 (ag_load gn rfl (by kernel_rfl) hg2 (rowV_at i hlt (by omega)) (by obtain ⟨q, e⟩ := (r.each i hlt).val; rw [e]; rfl) (by obtain ⟨q, e⟩ := (r.each i hlt).val; rw [e]; exact same_slice)) ag0), ?_⟩
        refine o_call [_, _] gn rfl rfl (by kernel_rfl) rfl (C.mono (c17 xr ((r.each i hlt).ext (hx.trans x2)) ((tb.ext hx).ext x2) (by have := hn i hlt; omega)) ?_)
        rintro v3 h3 ⟨rfl, x3⟩
        have hx3 := (hx.trans x2).trans x3
        refine ⟨ag0, ?_⟩
        refine o_not gn rfl rfl ?_
        refine o_move gn rfl rfl ?_
        refine o_or (n := 9) rfl rfl rfl gn rfl (fun hb => by
            refine o_move (gy rfl rfl rfl hb) rfl rfl ?_
            refine o_move (gy rfl rfl rfl hb) rfl rfl ?_
            refine o_move (gy rfl rfl rfl hb) rfl rfl ?_
            refine o_move (gy rfl rfl rfl hb) rfl rfl ?_
            refine o_move (gy rfl rfl rfl hb) rfl rfl ?_
            refine o_move (gy rfl rfl rfl hb) rfl rfl ?_
            refine o_call [_, _, _] (gy rfl rfl rfl hb) rfl rfl (by kernel_rfl) rfl (c_pure (c40' (i := (i : Int)) (j := (i : Int)) (x.ext hx3) hn') ⟨ag0, ?_⟩)
            refine o_call [_, _, _] (gy rfl rfl rfl hb) rfl rfl (by kernel_rfl) rfl (c_pure (c52' (i := (i : Int)) (j := (i : Int)) (r0.ext hx3)) ⟨ag0, ?_⟩)
            refine o_neb (gy rfl rfl rfl hb) rfl rfl rfl (by kernel_rfl) ?_
            exact wl_end ⟨rfl, rfl, 9, rfl, rfl⟩) ?_
        refine wl_end ?_
        refine w_cond rfl (fun hb => ?_) fun hb => ?_
        · skip
          refine w_seq ?_
          refine w_region (by kernel_rfl) ?_
          refine o_assign gn rfl rfl ?_
          refine wl_end ?_
          refine w_ret ?_
          refine ⟨.inl rfl, _, rfl, ?_⟩
          simp at hb
        · skip
          refine w_skip ?_
          refine w_region (by kernel_rfl) ?_
          refine o_move gn rfl rfl ?_
          refine o_add gn rfl rfl rfl (by omega) (by omega) ?_
          refine o_assign gn rfl rfl ?_
          refine wl_end ?_
          exact ⟨n - (i + 1), by omega, [(0, ptrV b), (1, _), (5, iV ((i + 1 : Nat) : Int))], (by repeat (first | exact trivial | refine ⟨rfl, ?_⟩)), i + 1, by omega, rfl, hx3, rfl⟩
      · skip
        refine w_exit ?_
        refine thn_exit ?_
        refine rnd_exit ?_
        refine blk_eq ?_
        refine w_seq ?_
        refine w_region (by kernel_rfl) ?_
        refine o_move gn rfl rfl ?_
        refine o_call [_, _] gn rfl rfl (by kernel_rfl) rfl (C.mono (c28' (i := -1) (x.ext hx) hn') ?_)
        rintro v2 h2 ⟨b', own', rfl, xr, fr, x2⟩
        have e1 : inN n (-1) = false := rfl
        rw [e1] at xr
        obtain ⟨ws, sw, Bw, xr, _⟩ := xr
        refine ⟨ag0, ?_⟩
        refine o_call [_] gn rfl rfl (by kernel_rfl) rfl (c_pure (c48 xr) ⟨ag0, ?_⟩)
        refine o_eqi gn rfl rfl rfl ?_
        refine o_move gn rfl rfl ?_
        refine wl_split (dc := 41) rfl (fun hb41 => ?_) fun hb41 => ?_
        · skip
          refine o_move (gy rfl rfl rfl hb41) rfl rfl ?_
          refine o_move (gy rfl rfl rfl hb41) rfl rfl ?_
          refine o_len (gy rfl rfl rfl hb41) rfl rfl (by kernel_rfl) ?_
          refine o_call [_, _] (gy rfl rfl rfl hb41) rfl rfl (by kernel_rfl) rfl (C.mono (c28' (i := ((rowV n V).length : Nat)) (x.ext (hx.trans x2)) hn') ?_)
          rintro v3 h3 ⟨b3, own3, rfl, xr3, fr3, x3⟩
          have e2 : inN n ((rowV n V).length : Nat) = false := by rw [hl]; simp [inN]
          rw [e2] at xr3
          obtain ⟨ws3, sw3, Bw3, xr3, _⟩ := xr3
          have hx3 := (hx.trans x2).trans x3
          refine ⟨ag0, ?_⟩
          refine o_call [_] (gy rfl rfl rfl hb41) rfl rfl (by kernel_rfl) rfl (c_pure (c48 xr3) ⟨ag0, ?_⟩)
          refine o_eqi (gy rfl rfl rfl hb41) rfl rfl rfl ?_
          refine o_pickt gn rfl rfl hb41 rfl ?_
          refine o_move gn rfl rfl ?_
          refine o_and (n := 3) rfl rfl rfl gn rfl (fun hb => by
              refine o_move (gy rfl rfl rfl hb) rfl rfl ?_
              refine o_call [_, _, _] (gy rfl rfl rfl hb) rfl rfl (by kernel_rfl) rfl (c_pure (c40' (i := -1) (j := 0) (x.ext hx3) hn') ⟨ag0, ?_⟩)
              refine o_not (gy rfl rfl rfl hb) rfl rfl ?_
              exact wl_end ⟨rfl, rfl, 3, rfl, rfl⟩) ?_
          refine o_move gn rfl rfl ?_
          refine o_and (n := 5) rfl rfl rfl gn rfl (fun hb => by
              refine o_move (gy rfl rfl rfl hb) rfl rfl ?_
              refine o_move (gy rfl rfl rfl hb) rfl rfl ?_
              refine o_len (gy rfl rfl rfl hb) rfl rfl (by kernel_rfl) ?_
              refine o_call [_, _, _] (gy rfl rfl rfl hb) rfl rfl (by kernel_rfl) rfl (c_pure (c40' (i := ((rowV n V).length : Nat)) (j := 0) (x.ext hx3) hn') ⟨ag0, ?_⟩)
              refine o_not (gy rfl rfl rfl hb) rfl rfl ?_
              exact wl_end ⟨rfl, rfl, 5, rfl, rfl⟩) ?_
          refine o_move gn rfl rfl ?_
          refine o_and (n := 5) rfl rfl rfl gn rfl (fun hb => by
              refine o_move (gy rfl rfl rfl hb) rfl rfl ?_
              refine o_move (gy rfl rfl rfl hb) rfl rfl ?_
              refine o_len (gy rfl rfl rfl hb) rfl rfl (by kernel_rfl) ?_
              refine o_call [_, _, _] (gy rfl rfl rfl hb) rfl rfl (by kernel_rfl) rfl (c_pure (c40' (i := 0) (j := ((rowV n V).length : Nat)) (x.ext hx3) hn') ⟨ag0, ?_⟩)
              refine o_not (gy rfl rfl rfl hb) rfl rfl ?_
              exact wl_end ⟨rfl, rfl, 5, rfl, rfl⟩) ?_
          refine o_assign gn rfl rfl ?_
          refine wl_end ?_
          refine w_ret ?_
          refine ⟨.inl rfl, _, rfl, ?_⟩
          refine ⟨?_, hx3⟩
          have e3 : (inN n 0 && hasB (M (Int.toNat 0)) ((rowV n V).length : Nat)) = false := by
            rw [hl]
            by_cases h0 : 0 < n
            · have h9 := hn 0 h0
              cases hq : bget (M 0) n with
              | false => simp [hasB, hq]
              | true => have := bget_lt hq; omega
            · have : inN n 0 = false := by simp [inN]; omega
              rw [this]; rfl
          rw [e1, e2, e3]
          rfl
        · skip
          simp at hb41

end

end Go.Proofs.YtgcapnlfkomgpaaDoor


namespace Go.Proofs.YtgcapnlfkomgpaaDoor
open Go.X

theorem bs_ext {a c : List Bool} (hl : a.length = c.length) (h : ∀ k, bget a k = bget c k) : a = c :=
  List.ext_getElem hl fun k h1 h2 => by rw [← bget_get h1, ← bget_get h2, h k]
theorem orB_self (a : List Bool) : orB a a = a := bs_ext (orB_len _ _) fun k => by
  rw [bget_orB, Bool.or_self]
  by_cases h : k < a.length
  · simp [h]
  · rw [bget_ge (by omega)]; simp

/-- One column's step. -/
def stepM (A : Nat → List Bool) (k : Nat) : Nat → List Bool := fun r => if bget (A r) k = true then orB (A r) (A k) else A r
def warM (M : Nat → List Bool) : Nat → Nat → List Bool
  | 0 => M
  | k + 1 => stepM (warM M k) k
def partM (A : Nat → List Bool) (k i : Nat) : Nat → List Bool := fun r => if r < i then stepM A k r else A r
theorem stepM_len (A : Nat → List Bool) (k r : Nat) : (stepM A k r).length = (A r).length := by unfold stepM; split <;> simp [orB_len]
theorem warM_len (M : Nat → List Bool) (r : Nat) : ∀ k, (warM M k r).length = (M r).length
  | 0 => rfl
  | k + 1 => by rw [warM, stepM_len, warM_len M r k]
theorem partM_len (A : Nat → List Bool) (k i r : Nat) : (partM A k i r).length = (A r).length := by unfold partM; split <;> simp [stepM_len]
theorem stepM_k (A : Nat → List Bool) (k : Nat) : stepM A k k = A k := by unfold stepM; split <;> simp [orB_self]
theorem partM_k (A : Nat → List Bool) (k i : Nat) : partM A k i k = A k := by unfold partM; split <;> simp [stepM_k]
theorem partM_i (A : Nat → List Bool) (k i : Nat) : partM A k i i = A i := by unfold partM; simp
theorem partM_up (A : Nat → List Bool) (k i r : Nat) (h : bget (A i) k = true) : (if r = i then orB (partM A k i i) (partM A k i k) else partM A k i r) = partM A k (i + 1) r := by
  rw [partM_i, partM_k]
  by_cases e : r = i
  · subst e; rw [if_pos rfl, partM, if_pos (by omega), stepM, if_pos h]
  · rw [if_neg e, partM, partM]
    by_cases e2 : r < i
    · rw [if_pos e2, if_pos (by omega)]
    · rw [if_neg e2, if_neg (by omega)]
theorem partM_no (A : Nat → List Bool) (k i r : Nat) (h : bget (A i) k = false) : partM A k i r = partM A k (i + 1) r := by
  by_cases e : r = i
  · subst e; rw [partM_i, partM, if_pos (by omega), stepM, if_neg (by rw [h]; simp)]
  · rw [partM, partM]
    by_cases e2 : r < i
    · rw [if_pos e2, if_pos (by omega)]
    · rw [if_neg e2, if_neg (by omega)]

section
variable {h : Hp} {b n : Nat} {A M : Nat → List Bool} {P : Nat → Nat} {O : Nat → List Nat} {sr : Value} {Bm : List Nat}

/-- A row joined with a row. -/
theorem c33m {i k : Nat} (x : MatR h b n A P O sr Bm) (hi : i < n) (hk : k < n) (hn : (A i).length ≤ 100000) :
    C bitsE 33 [ptrV (P i), ptrV (P k)] h fun _ h' => MatR h' b n (fun r => if r = i then orB (A i) (A k) else A r) P O sr Bm ∧ ExtB (ownM b n O Bm) h h' := by
  have hO : ∀ z, z ∈ O i → z ∈ ownM b n O Bm := fun z hz => mem_ownM.2 (.inr (.inr ⟨i, hi, hz⟩))
  by_cases e : i = k
  · subst e
    exact (c33s (x.each i hi) hn).mono fun v h' ⟨t, _, _, y, g⟩ => ⟨x.upd hi y g, g.mono fun z hz _ => hO z hz⟩
  · exact (c33 (x.each i hi) (x.each k hk) (fun z hz hw => x.dis k i hk hi (fun q => e q.symm) z hz hw) hn).mono fun v h' ⟨t, _, _, y, g⟩ => ⟨x.upd hi y g, g.mono fun z hz _ => hO z hz⟩

/-- Close -/
theorem c29 (x : MatR h b n M P O sr Bm) (hn : ∀ r, r < n → (M r).length ≤ 100000) (hnn : n ≤ 1000) :
    C bitsE 29 [ptrV b] h fun _ h' => MatR h' b n (warM M n) P O sr Bm ∧ ExtB (ownM b n O Bm) h h' := by
  have hl := rowP_len n P
  obtain ⟨a, rfl⟩ := x.row.val
  refine c_enter (fu := Tryd.f29) (by kernel_rfl) rfl ?_
  refine w_seq ?_
  refine w_region (by kernel_rfl) ?_
  refine o_move gn rfl rfl ?_
  refine o_call [_] gn rfl rfl (by kernel_rfl) rfl (c_pure (c51 x) ⟨ag0, ?_⟩)
  refine o_move gn rfl rfl ?_
  refine wl_end ?_
  refine w_block ?_
  refine w_weak [(0, ptrV b), (5, iV n), (6, iV (0 : Nat))] (by repeat (first | exact trivial | refine ⟨rfl, ?_⟩)) ?_
  refine w_loop (fun k l hh => ∃ kk : Nat, kk ≤ n ∧ k = n - kk ∧ MatR hh b n (warM M kk) P O (.slice a (rowP n P).length (rowP n P).length) Bm ∧ ExtB (ownM b n O Bm) h hh ∧ l = [(0, ptrV b), (5, iV n), (6, iV (kk : Nat))]) (n := n) ?_ fun k l hh hI => ?_
  · exact ⟨0, by omega, by omega, x, .refl _ _, rfl⟩
  · obtain ⟨kk, hk, rfl, hm, hx, rfl⟩ := hI
    refine w_seq ?_
    refine w_region (by kernel_rfl) ?_
    refine o_lss gn rfl rfl rfl ?_
    refine wl_end ?_
    refine w_seq ?_
    refine w_cond rfl (fun hb => ?_) fun hb => ?_
    · skip
      have hkn : kk < n := by simpa using hb
      refine w_skip ?_
      refine w_seq ?_
      refine w_block ?_
      refine w_seq ?_
      refine w_region (by kernel_rfl) ?_
      refine o_move gn rfl rfl ?_
      refine o_assign gn rfl rfl ?_
      refine wl_end ?_
      refine w_seq ?_
      refine w_region (by kernel_rfl) ?_
      refine o_move gn rfl rfl ?_
      refine o_call [_] gn rfl rfl (by kernel_rfl) rfl (c_pure (c51 hm) ⟨ag0, ?_⟩)
      refine o_move gn rfl rfl ?_
      refine wl_end ?_
      refine w_block ?_
      refine w_weak [(0, ptrV b), (2, iV (kk : Nat)), (5, iV n), (6, iV (kk : Nat)), (10, iV n), (11, iV (0 : Nat))] (by repeat (first | exact trivial | refine ⟨rfl, ?_⟩)) ?_
      refine w_loop (fun k l hh => ∃ i : Nat, i ≤ n ∧ k = n - i ∧ MatR hh b n (partM (warM M kk) kk i) P O (.slice a (rowP n P).length (rowP n P).length) Bm ∧ ExtB (ownM b n O Bm) h hh ∧ l = [(0, ptrV b), (2, iV (kk : Nat)), (5, iV n), (6, iV (kk : Nat)), (10, iV n), (11, iV (i : Nat))]) (n := n) ?_ fun k l hh hI => ?_
      · exact ⟨0, by omega, by omega, hm.congr fun r hr => by unfold partM; simp, hx, rfl⟩
      · obtain ⟨i, hi, rfl, hm2, hx2, rfl⟩ := hI
        refine w_seq ?_
        refine w_region (by kernel_rfl) ?_
        refine o_lss gn rfl rfl rfl ?_
        refine wl_end ?_
        refine w_seq ?_
        refine w_cond rfl (fun hb => ?_) fun hb => ?_
        · skip
          have hin : i < n := by simpa using hb
          obtain ⟨bb, m, ea, hg, hmm, hblt, _⟩ := hm2.row.at (by omega)
          simp only [Value.slice.injEq, and_true] at ea
          subst ea
          have ht := hm2.top
          obtain ⟨ws, sw, Bw, xs, _⟩ := hm2.each i hin
          have hlen := hn i hin
          refine w_skip ?_
          refine w_seq ?_
          refine w_block ?_
          refine w_seq ?_
          refine w_region (by kernel_rfl) ?_
          refine o_move gn rfl rfl ?_
          refine o_assign gn rfl rfl ?_
          refine wl_end ?_
          refine w_seq ?_
          refine w_region (by kernel_rfl) ?_
          refine o_move gn rfl rfl ?_
          refine o_nilCheck gn rfl rfl ?_
          refine o_fieldAddr (off := 0) gn rfl rfl (by kernel_rfl) ?_
          refine o_load gn rfl rfl (by kernel_rfl) ht rfl ?_
          refine o_move gn rfl rfl ?_
          refine o_indexAddr (zz := 1) gn rfl rfl rfl (by kernel_rfl) (by omega) (by omega) ?_
          refine o_load gn rfl rfl (by kernel_rfl) hg (rowP_at i hin (by omega)) ?_
          refine o_move gn rfl rfl ?_
          refine o_call [_, _] gn rfl rfl (by kernel_rfl) rfl (c_pure (c45 xs (by rw [partM_len, warM_len]; exact hlen)) ⟨ag0, ?_⟩)
          refine wl_end ?_
          refine w_cond rfl (fun hb => ?_) fun hb => ?_
          · skip
            refine w_draw [(0, []), (1, []), (2, []), (3, []), (4, []), (5, []), (6, []), (7, []), (8, []), (9, []), (10, []), (11, []), (12, []), (13, []), (14, [])] (by kernel_rfl) (by kernel_rfl) (by kernel_rfl) (by kernel_rfl) ?_
            refine o_move gn rfl rfl ?_
            refine o_nilCheck gn rfl rfl ?_
            refine o_fieldAddr (off := 0) gn rfl rfl (by kernel_rfl) ?_
            refine o_load gn rfl rfl (by kernel_rfl) ht rfl ?_
            refine o_move gn rfl rfl ?_
            refine o_indexAddr (zz := 1) gn rfl rfl rfl (by kernel_rfl) (by omega) (by omega) ?_
            refine o_load gn rfl rfl (by kernel_rfl) hg (rowP_at i hin (by omega)) ?_
            refine o_move gn rfl rfl ?_
            refine o_nilCheck gn rfl rfl ?_
            refine o_fieldAddr (off := 0) gn rfl rfl (by kernel_rfl) ?_
            refine o_load gn rfl rfl (by kernel_rfl) ht rfl ?_
            refine o_move gn rfl rfl ?_
            refine o_indexAddr (zz := 1) gn rfl rfl rfl (by kernel_rfl) (by omega) (by omega) ?_
            refine o_load gn rfl rfl (by kernel_rfl) hg (rowP_at kk hkn (by omega)) ?_
            refine o_call [_, _] gn rfl rfl (by kernel_rfl) rfl (C.mono (c33m hm2 hin hkn (by rw [partM_len, warM_len]; exact hlen)) ?_)
            rintro v3 h3 ⟨hm3, x3⟩
            refine ⟨ag0, ?_⟩
            refine wl_end ?_
            refine w_region (by kernel_rfl) ?_
            refine o_add gn rfl rfl rfl (by omega) (by omega) ?_
            refine o_move gn rfl rfl ?_
            refine wl_end ?_
            have hbit : bget (warM M kk i) kk = true := by rw [← partM_i (warM M kk) kk i, ← hasB_nat]; exact hb
            exact ⟨n - (i + 1), by omega, [(0, ptrV b), (2, iV (kk : Nat)), (5, iV n), (6, iV (kk : Nat)), (10, iV n), (11, iV ((i + 1 : Nat) : Int))], (by repeat (first | exact trivial | refine ⟨rfl, ?_⟩)), i + 1, by omega, rfl, hm3.congr fun r hr => partM_up _ _ _ _ hbit, hx2.trans x3, rfl⟩
          · skip
            refine w_skip ?_
            refine w_region (by kernel_rfl) ?_
            refine o_add gn rfl rfl rfl (by omega) (by omega) ?_
            refine o_move gn rfl rfl ?_
            refine wl_end ?_
            have hbit : bget (warM M kk i) kk = false := by rw [← partM_i (warM M kk) kk i, ← hasB_nat]; exact hb
            exact ⟨n - (i + 1), by omega, [(0, ptrV b), (2, iV (kk : Nat)), (5, iV n), (6, iV (kk : Nat)), (10, iV n), (11, iV ((i + 1 : Nat) : Int))], (by repeat (first | exact trivial | refine ⟨rfl, ?_⟩)), i + 1, by omega, rfl, hm2.congr fun r hr => partM_no _ _ _ _ hbit, hx2, rfl⟩
        · skip
          refine w_exit ?_
          refine thn_exit ?_
          refine rnd_exit ?_
          refine blk_eq ?_
          refine w_region (by kernel_rfl) ?_
          refine o_add gn rfl rfl rfl (by omega) (by omega) ?_
          refine o_move gn rfl rfl ?_
          refine wl_end ?_
          have hge : i = n := by simp at hb; omega
          subst hge
          exact ⟨i - (kk + 1), by omega, [(0, ptrV b), (5, iV i), (6, iV ((kk + 1 : Nat) : Int))], (by repeat (first | exact trivial | refine ⟨rfl, ?_⟩)), kk + 1, by omega, rfl, hm2.congr fun r hr => by rw [partM, if_pos hr]; rfl, hx2, rfl⟩
    · skip
      refine w_exit ?_
      refine thn_exit ?_
      refine rnd_exit ?_
      refine blk_eq ?_
      refine ⟨.inr rfl, _, rfl, ?_⟩
      have hge : kk = n := by simp at hb; omega
      subst hge
      exact ⟨hm, hx⟩
end

/-- The least closed one above. -/
structure ClM (n : Nat) (M A : Nat → List Bool) : Prop where
  len : ∀ i, i < n → (A i).length = (M i).length
  up : ∀ i j, i < n → bget (M i) j = true → bget (A i) j = true
  tr : ∀ i k j, i < n → k < n → bget (A i) k = true → bget (A k) j = true → bget (A i) j = true
  min : ∀ S : Nat → Nat → Prop, (∀ i j, i < n → bget (M i) j = true → S i j) → (∀ i k j, S i k → S k j → S i j) → ∀ i j, i < n → bget (A i) j = true → S i j

theorem ClM.le {n : Nat} {M A B : Nat → List Bool} (_ : ∀ i, i < n → (M i).length ≤ n) (a : ClM n M A) (c : ClM n M B) {i j : Nat} (hi : i < n) (h : bget (A i) j = true) : bget (B i) j = true := by
  have := a.min (fun i j => i < n ∧ bget (B i) j = true) (fun i j hi h => ⟨hi, c.up i j hi h⟩) (fun i k j p q => ⟨p.1, c.tr i k j p.1 q.1 p.2 q.2⟩) i j hi h
  exact this.2
theorem ClM.eq {n : Nat} {M A B : Nat → List Bool} (hM : ∀ i, i < n → (M i).length ≤ n) (a : ClM n M A) (c : ClM n M B) : ∀ i, i < n → A i = B i := fun i hi =>
  bs_ext (by rw [a.len i hi, c.len i hi]) fun k => by
    rw [Bool.eq_iff_iff]
    exact ⟨a.le hM c hi, c.le hM a hi⟩

theorem bget_step {A : Nat → List Bool} {k r j : Nat} (hj : j < (A r).length) : bget (stepM A k r) j = true ↔ bget (A r) j = true ∨ (bget (A r) k = true ∧ bget (A k) j = true) := by
  unfold stepM
  split
  · rename_i e
    rw [bget_orB, decide_eq_true hj, Bool.true_and, Bool.or_eq_true]
    simp [e]
  · rename_i e
    simp [e]

/-- What is so behind k columns. -/
theorem war_inv {n : Nat} {M : Nat → List Bool} (hM : ∀ i, i < n → (M i).length = n) : ∀ k, k ≤ n →
    (∀ i j, i < n → bget (M i) j = true → bget (warM M k i) j = true) ∧
    (∀ i m j, i < n → m < k → bget (warM M k i) m = true → bget (warM M k m) j = true → bget (warM M k i) j = true) ∧
    (∀ S : Nat → Nat → Prop, (∀ i j, i < n → bget (M i) j = true → S i j) → (∀ i k j, S i k → S k j → S i j) → ∀ i j, i < n → bget (warM M k i) j = true → S i j)
  | 0, _ => ⟨fun i j _ h => h, fun i m j _ hm => by omega, fun S h _ i j hi hh => h i j hi hh⟩
  | k + 1, hk => by
    obtain ⟨h1, h2, h3⟩ := war_inv hM k (by omega)
    have hlen : ∀ i, i < n → (warM M k i).length = n := fun i hi => by rw [warM_len, hM i hi]
    have st : ∀ r j, r < n → (bget (warM M (k + 1) r) j = true ↔ j < n ∧ (bget (warM M k r) j = true ∨ (bget (warM M k r) k = true ∧ bget (warM M k k) j = true))) := fun r j hr => by
      rw [warM]
      constructor
      · intro e
        have hj := bget_lt e
        rw [stepM_len] at hj
        exact ⟨by rw [← hlen r hr]; exact hj, (bget_step hj).1 e⟩
      · rintro ⟨hj, e⟩
        exact (bget_step (by rw [hlen r hr]; exact hj)).2 e
    refine ⟨fun i j hi e => (st i j hi).2 ⟨by have := bget_lt e; rw [hM i hi] at this; exact this, .inl (h1 i j hi e)⟩, fun i m j hi hm p q => ?_, fun S s1 s2 i j hi e => ?_⟩
    · obtain ⟨hmn, p⟩ := (st i m hi).1 p
      obtain ⟨hjn, q⟩ := (st m j hmn).1 q
      refine (st i j hi).2 ⟨hjn, ?_⟩
      by_cases e : m = k
      · subst e
        have pm : bget (warM M m i) m = true := by rcases p with p | ⟨p, _⟩ <;> exact p
        have qm : bget (warM M m m) j = true := by rcases q with q | ⟨_, q⟩ <;> exact q
        exact .inr ⟨pm, qm⟩
      · have hmk : m < k := by omega
        rcases p with p | ⟨p1, p2⟩ <;> rcases q with q | ⟨q1, q2⟩
        · exact .inl (h2 i m j hi hmk p q)
        · exact .inr ⟨h2 i m k hi hmk p q1, q2⟩
        · exact .inr ⟨p1, h2 k m j (by omega) hmk p2 q⟩
        · exact .inr ⟨p1, q2⟩
    · obtain ⟨hjn, e⟩ := (st i j hi).1 e
      rcases e with e | ⟨e1, e2⟩
      · exact h3 S s1 s2 i j hi e
      · exact s2 i k j (h3 S s1 s2 i k hi e1) (h3 S s1 s2 k j (by omega) e2)

theorem war_cl {n : Nat} {M : Nat → List Bool} (hM : ∀ i, i < n → (M i).length = n) : ClM n M (warM M n) := by
  obtain ⟨h1, h2, h3⟩ := war_inv hM n (Nat.le_refl _)
  exact ⟨fun i hi => warM_len _ _ _, h1, fun i k j hi hk p q => h2 i k j hi hk p q, h3⟩

end Go.Proofs.YtgcapnlfkomgpaaDoor


namespace Go.Proofs.YtgcapnlfkomgpaaDoor
open Go.X

theorem cnt_le (f g : Nat → Bool) : ∀ n, (∀ k, k < n → f k = true → g k = true) → ((List.range n).filter f).length ≤ ((List.range n).filter g).length
  | 0, _ => Nat.le_refl _
  | n + 1, h => by
    have ih := cnt_le f g n fun k hk => h k (by omega)
    have h1 := h n (by omega)
    rw [List.range_succ, List.filter_append, List.filter_append, List.length_append, List.length_append]
    cases hf : f n <;> cases hg : g n <;> simp_all <;> omega
theorem ones_came {a o : List Bool} (h : Came a o) : (onesB a).length < (onesB (orB a o)).length := by
  obtain ⟨k, hk, h1, h2⟩ := h
  unfold onesB
  rw [orB_len]
  have hm : ∀ k, k < a.length → bget a k = true → bget (orB a o) k = true := fun k hk e => by rw [bget_orB, decide_eq_true hk, e]; rfl
  have hle := cnt_le (bget a) (bget (orB a o)) a.length hm
  have hne : ((List.range a.length).filter (bget a)).length ≠ ((List.range a.length).filter (bget (orB a o))).length := fun e => by
    have := cnt_same _ _ _ hm e k hk
    rw [h2, bget_orB, decide_eq_true hk, h1] at this
    simp at this
  omega
theorem orB_not {a o : List Bool} (h : ¬ Came a o) : orB a o = a := bs_ext (orB_len _ _) fun k => by
  rw [bget_orB]
  by_cases hk : k < a.length
  · rw [decide_eq_true hk]
    cases ha : bget a k with
    | true => rfl
    | false =>
      cases ho : bget o k with
      | false => rfl
      | true => exact absurd ⟨k, hk, ho, ha⟩ h
  · rw [bget_ge (by omega)]; simp [hk]

def cntM (n : Nat) (A : Nat → List Bool) : Nat := ((List.range n).map fun i => (onesB (A i)).length).sum
theorem sum_lt (f g : Nat → Nat) (i : Nat) (hfg : ∀ r, r ≠ i → f r = g r) (hi : f i < g i) : ∀ n, (i < n → ((List.range n).map f).sum < ((List.range n).map g).sum) ∧ (n ≤ i → ((List.range n).map f).sum = ((List.range n).map g).sum)
  | 0 => ⟨fun h => by omega, fun _ => rfl⟩
  | n + 1 => by
    obtain ⟨h1, h2⟩ := sum_lt f g i hfg hi n
    simp only [List.range_succ, List.map_append, List.sum_append, List.map_cons, List.map_nil, List.sum_cons, List.sum_nil]
    refine ⟨fun h => ?_, fun h => ?_⟩
    · by_cases e : i = n
      · subst e
        have := h2 (Nat.le_refl _); omega
      · have := h1 (by omega)
        have := hfg n (fun q => e q.symm)
        omega
    · have := h2 (by omega)
      have := hfg n (by omega)
      omega
theorem cntM_up {n i : Nat} {A : Nat → List Bool} {o : List Bool} (hi : i < n) (hc : Came (A i) o) : cntM n A < cntM n (fun r => if r = i then orB (A i) o else A r) :=
  (sum_lt _ _ i (fun r hr => by simp [hr]) (by simpa using ones_came hc) n).1 hi
theorem cntM_le {n : Nat} {A : Nat → List Bool} (h : ∀ i, i < n → (A i).length = n) : cntM n A ≤ n * n := by
  have : ∀ m, m ≤ n → ((List.range m).map fun i => (onesB (A i)).length).sum ≤ m * n := by
    intro m
    induction m with
    | zero => intro _; simp
    | succ m ih =>
      intro hm
      simp only [List.range_succ, List.map_append, List.sum_append, List.map_cons, List.map_nil, List.sum_cons, List.sum_nil]
      have h1 := ih (by omega)
      have h2 := onesB_le (A m)
      rw [h m (by omega)] at h2
      rw [Nat.succ_mul]; omega
  exact this n (Nat.le_refl _)

/-- What is so all along. -/
structure Gd (n : Nat) (M A : Nat → List Bool) : Prop where
  len : ∀ i, i < n → (A i).length = n
  up : ∀ i j, i < n → bget (M i) j = true → bget (A i) j = true
  min : ∀ S : Nat → Nat → Prop, (∀ i j, i < n → bget (M i) j = true → S i j) → (∀ i k j, S i k → S k j → S i j) → ∀ i j, i < n → bget (A i) j = true → S i j
theorem Gd.step {n i j : Nat} {M A : Nat → List Bool} (g : Gd n M A) (hi : i < n) (hj : j < n) (hb : bget (A i) j = true) : Gd n M (fun r => if r = i then orB (A i) (A j) else A r) := by
  refine ⟨fun r hr => ?_, fun r k hr e => ?_, fun S s1 s2 r k hr e => ?_⟩
  · by_cases q : r = i
    · subst q; simp only [↓reduceIte]; rw [orB_len]; exact g.len r hr
    · simp only [if_neg q]; exact g.len r hr
  · have e1 := g.up r k hr e
    by_cases q : r = i
    · subst q; simp only [↓reduceIte]; rw [bget_orB, decide_eq_true (bget_lt e1), e1]; rfl
    · simp only [if_neg q]; exact e1
  · by_cases q : r = i
    · subst q
      simp only [↓reduceIte] at e
      rw [bget_orB, Bool.and_eq_true, Bool.or_eq_true] at e
      rcases e.2 with e | e
      · exact g.min S s1 s2 r k hr e
      · exact s2 r j k (g.min S s1 s2 r j hr hb) (g.min S s1 s2 j k hj e)
    · simp only [if_neg q] at e; exact g.min S s1 s2 r k hr e

section
variable {h : Hp} {n : Nat} {A : Nat → List Bool} {V : Nat → Value} {O : Nat → List Nat} {s : Value} {Bm : List Nat}
theorem c32m {i k : Nat} (x : RMat h s n A V O Bm) (hi : i < n) (hk : k < n) (hn : (A i).length ≤ 90000) :
    C bitsE 32 [V i, V k] h fun v h' => ∃ t, v = .bool t ∧ (t = true ↔ Came (A i) (A k)) ∧ RMat h' s n (fun r => if r = i then orB (A i) (A k) else A r) V O Bm ∧ ExtB (ownR n O Bm) h h' := by
  have hO : ∀ z, z ∈ O i → z ∈ ownR n O Bm := fun z hz => mem_ownR.2 (.inr ⟨i, hi, hz⟩)
  by_cases e : i = k
  · subst e
    exact (c32s (x.each i hi) hn).mono fun v h' ⟨t, e1, e2, y, g⟩ => ⟨t, e1, e2, x.upd hi y g, g.mono fun z hz _ => hO z hz⟩
  · exact (c32 (x.each i hi) (x.each k hk) (fun z hz hw => x.dis k i hk hi (fun q => e q.symm) z hz hw) hn).mono fun v h' ⟨t, e1, e2, y, g⟩ => ⟨t, e1, e2, x.upd hi y g, g.mono fun z hz _ => hO z hz⟩
end

/-- Closed -/
theorem c30 {h : Hp} {s0 : Value} {n : Nat} {M : Nat → List Bool} {own : List Nat} (x : RAt h s0 n M own) (hn : ∀ i, i < n → (M i).length = n) (hnn : n ≤ 1000) :
    C bitsE 30 [s0] h fun v h' => ∃ A own', RAt h' v n A own' ∧ ClM n M A ∧ (∀ i, i ∈ own' → h.n ≤ i) ∧ Ext h h' := by
  refine c_enter (fu := Tryd.f30) (by kernel_rfl) rfl ?_
  refine w_seq ?_
  refine w_region (by kernel_rfl) ?_
  refine o_assign gn rfl rfl ?_
  refine wl_end ?_
  refine w_seq ?_
  refine w_region (by kernel_rfl) ?_
  refine o_move gn rfl rfl ?_
  refine o_call [_] gn rfl rfl (by kernel_rfl) rfl (C.mono (c54 x (fun i hi => by rw [hn i hi]; omega) hnn) ?_)
  rintro s h1 ⟨own', xr, fr, x1⟩
  obtain ⟨V, O, Bm, r0, rfl⟩ := xr
  obtain ⟨a, rfl⟩ := r0.row.val
  have hl := rowV_len n V
  have g0 : Gd n M M := ⟨hn, fun i j _ e => e, fun S s1 _ i j hi e => s1 i j hi e⟩
  have hcl0 := cntM_le hn
  refine ⟨ag0, ?_⟩
  refine o_assign gn rfl rfl ?_
  refine wl_end ?_
  refine w_seq ?_
  refine w_region (by kernel_rfl) ?_
  refine o_assign gn rfl rfl ?_
  refine wl_end ?_
  refine w_seq ?_
  refine w_block ?_
  refine w_weak [(3, .slice a (rowV n V).length (rowV n V).length), (4, .bool true)] (by repeat (first | exact trivial | refine ⟨rfl, ?_⟩)) ?_
  refine w_loop (fun k l hh => ∃ (ch : Bool) (A : Nat → List Bool), k = (if ch then n * n + 1 - cntM n A else 0) ∧ RMat hh (.slice a (rowV n V).length (rowV n V).length) n A V O Bm ∧ Gd n M A ∧ (ch = false → ∀ i m j, i < n → bget (A i) m = true → bget (A m) j = true → bget (A i) j = true) ∧ Ext h hh ∧ l = [(3, .slice a (rowV n V).length (rowV n V).length), (4, .bool ch)]) (n := (n * n + 1 - cntM n M)) ?_ fun k l hh hI => ?_
  · exact ⟨true, M, rfl, r0, g0, (fun e => by cases e), x1, rfl⟩
  · obtain ⟨ch, A0, rfl, hm0, hg0, hc0, hx0, rfl⟩ := hI
    refine w_seq ?_
    refine w_seq ?_
    refine w_region (by kernel_rfl) ?_
    refine o_move gn rfl rfl ?_
    refine wl_end ?_
    refine w_cond rfl (fun hb => ?_) fun hb => ?_
    · skip
      have hch : ch = true := hb
      subst hch
      have hcl := cntM_le hg0.len
      refine w_skip ?_
      refine w_block ?_
      refine w_seq ?_
      refine w_region (by kernel_rfl) ?_
      refine o_assign gn rfl rfl ?_
      refine wl_end ?_
      refine w_seq ?_
      refine w_region (by kernel_rfl) ?_
      refine o_assign gn rfl rfl ?_
      refine wl_end ?_
      refine w_block ?_
      refine w_weak [(3, .slice a (rowV n V).length (rowV n V).length), (4, .bool false), (5, iV (0 : Nat))] (by repeat (first | exact trivial | refine ⟨rfl, ?_⟩)) ?_
      refine w_loop (fun k l hh => ∃ (i : Nat) (ch : Bool) (A : Nat → List Bool), i ≤ n ∧ k = n - i ∧ (ch = true → cntM n A0 < cntM n A) ∧ cntM n A0 ≤ cntM n A ∧ RMat hh (.slice a (rowV n V).length (rowV n V).length) n A V O Bm ∧ Gd n M A ∧ (ch = false → ∀ r m j, r < i → bget (A r) m = true → bget (A m) j = true → bget (A r) j = true) ∧ Ext h hh ∧ l = [(3, .slice a (rowV n V).length (rowV n V).length), (4, .bool ch), (5, iV (i : Nat))]) (n := n) ?_ fun k l hh hI => ?_
      · exact ⟨0, false, A0, by omega, by omega, (fun e => by cases e), by omega, hm0, hg0, fun _ r m j hr => by omega, hx0, rfl⟩
      · obtain ⟨i, ch, A1, hi, rfl, hc1, hle1, hm1, hg1, hs1, hx1, rfl⟩ := hI
        refine w_seq ?_
        refine w_seq ?_
        refine w_region (by kernel_rfl) ?_
        refine o_move gn rfl rfl ?_
        refine o_move gn rfl rfl ?_
        refine o_len gn rfl rfl (by kernel_rfl) ?_
        refine o_lss gn rfl rfl rfl ?_
        refine wl_end ?_
        refine w_cond rfl (fun hb => ?_) fun hb => ?_
        · skip
          have hin : i < n := by rw [hl] at hb; simpa using hb
          refine w_skip ?_
          refine w_seq ?_
          refine w_block ?_
          refine w_seq ?_
          refine w_region (by kernel_rfl) ?_
          refine o_assign gn rfl rfl ?_
          refine wl_end ?_
          refine w_block ?_
          refine w_weak [(3, .slice a (rowV n V).length (rowV n V).length), (4, .bool ch), (5, iV (i : Nat)), (6, iV (0 : Nat))] (by repeat (first | exact trivial | refine ⟨rfl, ?_⟩)) ?_
          refine w_loop (fun k l hh => ∃ (j : Nat) (ch : Bool) (A : Nat → List Bool), j ≤ n ∧ k = n - j ∧ (ch = true → cntM n A0 < cntM n A) ∧ cntM n A0 ≤ cntM n A ∧ RMat hh (.slice a (rowV n V).length (rowV n V).length) n A V O Bm ∧ Gd n M A ∧ (ch = false → (∀ r m t, r < i → bget (A r) m = true → bget (A m) t = true → bget (A r) t = true) ∧ (∀ m t, m < j → bget (A i) m = true → bget (A m) t = true → bget (A i) t = true)) ∧ Ext h hh ∧ l = [(3, .slice a (rowV n V).length (rowV n V).length), (4, .bool ch), (5, iV (i : Nat)), (6, iV (j : Nat))]) (n := n) ?_ fun k l hh hI => ?_
          · exact ⟨0, ch, A1, by omega, by omega, hc1, hle1, hm1, hg1, fun e => ⟨hs1 e, fun m t hm => by omega⟩, hx1, rfl⟩
          · obtain ⟨j, ch, A, hj, rfl, hc2, hle2, hm2, hg2, hs2, hx2, rfl⟩ := hI
            refine w_seq ?_
            refine w_seq ?_
            refine w_region (by kernel_rfl) ?_
            refine o_move gn rfl rfl ?_
            refine o_move gn rfl rfl ?_
            refine o_len gn rfl rfl (by kernel_rfl) ?_
            refine o_lss gn rfl rfl rfl ?_
            refine wl_end ?_
            refine w_cond rfl (fun hb => ?_) fun hb => ?_
            · skip
              have hjn : j < n := by rw [hl] at hb; simpa using hb
              obtain ⟨bb, m, ea, hg, hmm, hblt, _⟩ := hm2.row.at (by omega)
              simp only [Value.slice.injEq, and_true] at ea
              subst ea
              have hbl : (bsV (A i)).length = n := by rw [List.length_map, hg2.len i hin]
              obtain ⟨bi, mi, ei, hgi, _, _, _⟩ := (hm2.each i hin).at (by omega)
              refine w_skip ?_
              refine w_seq ?_
              refine w_block ?_
              refine w_seq ?_
              refine w_draw [(0, []), (1, []), (2, []), (3, []), (4, []), (5, []), (6, []), (7, []), (8, []), (9, []), (10, []), (11, []), (12, []), (13, []), (14, []), (15, []), (16, []), (17, [])] (by kernel_rfl) (by kernel_rfl) (by kernel_rfl) (by kernel_rfl) ?_
              refine o_move gn rfl rfl ?_
              refine o_move gn rfl rfl ?_
              refine o_indexAddr (zz := 1) gn rfl rfl rfl (by kernel_rfl) (by omega) (by omega) ?_
              refine o_load gn rfl rfl (by kernel_rfl) hg ((rowV_at i hin (by omega)).trans (congrArg some ei)) ?_
              refine o_move gn rfl rfl ?_
              refine o_indexAddr (zz := 1) gn rfl rfl rfl (by kernel_rfl) (by omega) (by omega) ?_
              refine o_load gn rfl rfl (by kernel_rfl) hgi (bs_at j (by rw [hg2.len i hin]; exact hjn) (by omega)) ?_
              refine o_move gn rfl rfl ?_
              refine wl_split (dc := 29) rfl (fun hb29 => ?_) fun hb29 => ?_
              · skip
                refine o_move (gy rfl rfl rfl hb29) rfl rfl ?_
                refine o_move (gy rfl rfl rfl hb29) rfl rfl ?_
                refine o_indexAddr (zz := 1) (gy rfl rfl rfl hb29) rfl rfl rfl (by kernel_rfl) (by omega) (by omega) ?_
                refine o_load (gy rfl rfl rfl hb29) rfl rfl (by kernel_rfl) hg (rowV_at i hin (by omega)) ?_
                refine o_move (gy rfl rfl rfl hb29) rfl rfl ?_
                refine o_move (gy rfl rfl rfl hb29) rfl rfl ?_
                refine o_indexAddr (zz := 1) (gy rfl rfl rfl hb29) rfl rfl rfl (by kernel_rfl) (by omega) (by omega) ?_
                refine o_load (gy rfl rfl rfl hb29) rfl rfl (by kernel_rfl) hg (rowV_at j hjn (by omega)) ?_
                refine o_call [_, _] (gy rfl rfl rfl hb29) rfl rfl (by kernel_rfl) rfl (C.mono (c32m hm2 hin hjn (by rw [hg2.len i hin]; omega)) ?_)
                rintro v3 h3 ⟨t, rfl, ht, hm3, x3⟩
                have hx3 := hx2.of x3 fr
                refine ⟨ag0, ?_⟩
                refine o_pickt gn rfl rfl hb29 rfl ?_
                refine wl_end ?_
                refine w_cond rfl (fun hb => ?_) fun hb => ?_
                · skip
                  refine w_region (by kernel_rfl) ?_
                  refine o_assign gn rfl rfl ?_
                  refine wl_end ?_
                  refine w_region (by kernel_rfl) ?_
                  refine o_move gn rfl rfl ?_
                  refine o_add gn rfl rfl rfl (by omega) (by omega) ?_
                  refine o_assign gn rfl rfl ?_
                  refine wl_end ?_
                  have htc := ht.1 hb
                  have hup := cntM_up hin htc
                  exact ⟨n - (j + 1), by omega, [(3, _), (4, .bool true), (5, iV (i : Nat)), (6, iV ((j + 1 : Nat) : Int))], (by repeat (first | exact trivial | refine ⟨rfl, ?_⟩)), j + 1, true, _, by omega, rfl, fun _ => by omega, by omega, hm3, hg2.step hin hjn hb29, (fun e => by cases e), hx3, rfl⟩
                · skip
                  refine w_skip ?_
                  refine w_region (by kernel_rfl) ?_
                  refine o_move gn rfl rfl ?_
                  refine o_add gn rfl rfl rfl (by omega) (by omega) ?_
                  refine o_assign gn rfl rfl ?_
                  refine wl_end ?_
                  have htc : ¬ Came (A i) (A j) := fun e => by rw [ht.2 e] at hb; cases hb
                  have hor := orB_not htc
                  exact ⟨n - (j + 1), by omega, [(3, _), (4, .bool ch), (5, iV (i : Nat)), (6, iV ((j + 1 : Nat) : Int))], (by repeat (first | exact trivial | refine ⟨rfl, ?_⟩)), j + 1, ch, A, by omega, rfl, hc2, hle2, hm3.congr (fun r hr => by
                    by_cases q : r = i
                    · subst q; rw [if_pos rfl, hor]
                    · rw [if_neg q]), hg2, fun e => ⟨(hs2 e).1, fun m t hm p q => by
                    by_cases w : m = j
                    · subst w
                      rw [← hor, bget_orB, q, decide_eq_true (by have := bget_lt q; rw [hg2.len m hjn] at this; rw [hg2.len i hin]; exact this)]
                      simp
                    · exact (hs2 e).2 m t (by omega) p q⟩, hx3, rfl⟩
              · skip
                refine wl_skips (n := 9) (dc := 29) (w := true) rfl hb29 rfl ?_
                refine o_pickf gn rfl rfl hb29 rfl ?_
                refine wl_end ?_
                refine w_cond rfl (fun hb => ?_) fun hb => ?_
                · skip
                  cases hb
                · skip
                  refine w_skip ?_
                  refine w_region (by kernel_rfl) ?_
                  refine o_move gn rfl rfl ?_
                  refine o_add gn rfl rfl rfl (by omega) (by omega) ?_
                  refine o_assign gn rfl rfl ?_
                  refine wl_end ?_
                  exact ⟨n - (j + 1), by omega, [(3, _), (4, .bool ch), (5, iV (i : Nat)), (6, iV ((j + 1 : Nat) : Int))], (by repeat (first | exact trivial | refine ⟨rfl, ?_⟩)), j + 1, ch, A, by omega, rfl, hc2, hle2, hm2, hg2, fun e => ⟨(hs2 e).1, fun m t hm p q => by
                    by_cases w : m = j
                    · subst w; rw [hb29] at p; cases p
                    · exact (hs2 e).2 m t (by omega) p q⟩, hx2, rfl⟩
            · skip
              refine w_exit ?_
              refine thn_exit ?_
              refine rnd_exit ?_
              refine blk_eq ?_
              refine w_region (by kernel_rfl) ?_
              refine o_move gn rfl rfl ?_
              refine o_add gn rfl rfl rfl (by omega) (by omega) ?_
              refine o_assign gn rfl rfl ?_
              refine wl_end ?_
              have hge : j = n := by rw [hl] at hb; simp at hb; omega
              subst hge
              exact ⟨j - (i + 1), by omega, [(3, _), (4, .bool ch), (5, iV ((i + 1 : Nat) : Int))], (by repeat (first | exact trivial | refine ⟨rfl, ?_⟩)), i + 1, ch, A, by omega, rfl, hc2, hle2, hm2, hg2, fun e r m t hr p q => by
                by_cases w : r = i
                · subst w; exact (hs2 e).2 m t (by have := bget_lt p; rw [hg2.len r hin] at this; exact this) p q
                · exact (hs2 e).1 r m t (by omega) p q, hx2, rfl⟩
        · skip
          refine w_exit ?_
          refine thn_exit ?_
          refine rnd_exit ?_
          refine blk_eq ?_
          have hge : i = n := by rw [hl] at hb; simp at hb; omega
          subst hge
          have hcl1 := cntM_le hg1.len
          refine ⟨if ch then i * i + 1 - cntM i A1 else 0, ?_, [(3, _), (4, .bool ch)], (by repeat (first | exact trivial | refine ⟨rfl, ?_⟩)), ch, A1, rfl, hm1, hg1, fun e r m t hr => hs1 e r m t hr, hx1, rfl⟩
          cases ch with
          | true => have := hc1 rfl; simp only [if_true]; omega
          | false => simp only [if_true, Bool.false_eq_true, if_false]; omega
    · skip
      refine w_exit ?_
      refine thn_exit ?_
      refine rnd_exit ?_
      refine blk_eq ?_
      refine w_seq ?_
      refine w_region (by kernel_rfl) ?_
      refine o_move gn rfl rfl ?_
      refine o_assign gn rfl rfl ?_
      refine wl_end ?_
      refine w_ret ?_
      refine ⟨.inl rfl, _, rfl, ?_⟩
      have hcf : ch = false := hb
      exact ⟨A0, _, ⟨V, O, Bm, hm0, rfl⟩, ⟨fun i hi => by rw [hg0.len i hi, hn i hi], hg0.up, fun i k j hi _ p q => hc0 hcf i k j hi p q, hg0.min⟩, fr, hx0⟩

end Go.Proofs.YtgcapnlfkomgpaaDoor


namespace Go.Proofs.YtgcapnlfkomgpaaDoor
open Go.X

def mineB (A : Nat → List Bool) (i j : Nat) : Bool := bget (A i) j && bget (A j) i
def mineL (n : Nat) (A : Nat → List Bool) (i : Nat) : List Nat := (List.range n).filter (mineB A i)
def repB (n : Nat) (A : Nat → List Bool) (i : Nat) : Bool := decide (0 < (mineL n A i).length) && decide ((((mineL n A i).head?.getD 0 : Nat) : Int) = (i : Int))
def partsUp (n : Nat) (A : Nat → List Bool) (m : Nat) : List (List Nat) := ((List.range m).filter (repB n A)).map (mineL n A)
theorem partsUp_yes {n m : Nat} {A : Nat → List Bool} (h : repB n A m = true) : partsUp n A (m + 1) = partsUp n A m ++ [mineL n A m] := by
  rw [partsUp, range_filter_succ, h, if_pos rfl, List.map_append]; rfl
theorem partsUp_no {n m : Nat} {A : Nat → List Bool} (h : repB n A m = false) : partsUp n A (m + 1) = partsUp n A m := by
  rw [partsUp, range_filter_succ, h, if_neg (by simp), List.append_nil]; rfl
theorem partsUp_len (n : Nat) (A : Nat → List Bool) (m : Nat) : (partsUp n A m).length ≤ m := by
  rw [partsUp, List.length_map]; exact ns_len_le _ _

/-- Lists of numbers, as they lie: a row of slices, each in a block of its own. -/
def LLs (h : Hp) (s : Value) (ls : List (List Nat)) (B own : List Nat) : Prop :=
  ∃ vals : List Value, vals.length = ls.length ∧ Sl 22 h s vals B ∧ (∀ z, z ∈ B → z ∈ own) ∧ ∀ (i : Nat) l, ls[i]? = some l → ∃ v Bi, vals[i]? = some v ∧ Sl 3 h v (nsV l) Bi ∧ ∀ z, z ∈ Bi → z ∈ own ∧ z ∉ B
theorem el22 : El bitsE 52 22 23 := ⟨by kernel_rfl, by kernel_rfl, by kernel_rfl, .slice none 0 0, by kernel_rfl, rfl⟩

section
variable {h h' : Hp} {s v : Value} {ls : List (List Nat)} {l : List Nat} {B Bl own cs : List Nat}
theorem LLs.keep (x : LLs h s ls B own) (g : ExtB cs h h') (hd : ∀ z, z ∈ own → z ∉ cs) : LLs h' s ls B own := by
  obtain ⟨vals, e, q, hB, r⟩ := x
  refine ⟨vals, e, q.keep g fun z hz => hd z (hB z hz), hB, fun i l hl => ?_⟩
  obtain ⟨v, Bi, e1, e2, e3⟩ := r i l hl
  exact ⟨v, Bi, e1, e2.keep g fun z hz => hd z (e3 z hz).1, e3⟩
theorem LLs.ext (x : LLs h s ls B own) (g : Ext h h') : LLs h' s ls B own := x.keep (g.b []) (by simp)
theorem LLs.val (x : LLs h s ls B own) : ∃ a, s = .slice a ls.length ls.length := by
  obtain ⟨vals, e, q, _⟩ := x
  obtain ⟨a, ea⟩ := q.val
  rw [e] at ea; exact ⟨a, ea⟩

theorem push_ll (x : LLs h s ls B own) (y : Sl 3 h v (nsV l) Bl) (hd : ∀ z, z ∈ Bl → z ∉ B) (hlt : ∀ z, z ∈ own → z < h.n) (hn : ls.length ≤ 100000) :
    ∃ a h' B', appendX bitsE (h.alloc (.cells [v] 22 0)) 52 52 s (.slice (some ⟨h.n, 0, none⟩) 1 1) = some (.slice a (ls ++ [l]).length (ls ++ [l]).length, h') ∧
      LLs h' (.slice a (ls ++ [l]).length (ls ++ [l]).length) (ls ++ [l]) B' (own ++ Bl ++ B') ∧ ExtB B h h' ∧ ∀ z, z ∈ B' → z ∈ B ∨ h.n ≤ z := by
  obtain ⟨vals, e, q, hB, r⟩ := x
  have x5 : Ext h (h.alloc (.cells [v] 22 0)) := Ext.alloc _ _
  have hcv : cellV v = true := by obtain ⟨a, e⟩ := y.val; rw [e]; rfl
  obtain ⟨v', h6, B6, a1, a2, a3, a4⟩ := append_own el22 (q.ext x5) ((Sl.new (h := h) (e := 22) (vs := [v]) (m := 0) (.inl rfl)).src (by simp [hcv])) (by rw [e]; simp; omega)
  have hl : (vals ++ [v]).length = (ls ++ [l]).length := by simp [e]
  obtain ⟨a, rfl⟩ := a2.val
  rw [hl] at a1 a2
  have a4' : ∀ i, i ∈ B6 → i ∈ B ∨ h.n ≤ i := fun i hi => by
    rcases a4 i hi with h1 | h1
    · exact .inl h1
    · rw [Hp.n_alloc] at h1; exact .inr (by omega)
  have g6 : ExtB B h h6 := (x5.b B).trans a3
  refine ⟨a, h6, B6, a1, ⟨vals ++ [v], hl, a2, fun z hz => by simp [hz], fun i k hk => ?_⟩, g6, a4'⟩
  by_cases hi : i < ls.length
  · rw [List.getElem?_append_left hi] at hk
    obtain ⟨w, Bi, e1, e2, e3⟩ := r i k hk
    refine ⟨w, Bi, by rw [List.getElem?_append_left (by omega)]; exact e1, e2.keep g6 fun z hz => (e3 z hz).2, fun z hz => ⟨by simp [(e3 z hz).1], fun hj => ?_⟩⟩
    rcases a4' z hj with h1 | h1
    · exact (e3 z hz).2 h1
    · have := hlt z (e3 z hz).1; omega
  · have hlen : i < (ls ++ [l]).length := (List.getElem?_eq_some_iff.1 hk).1
    have hi2 : i = ls.length := by simp at hlen; omega
    subst hi2
    rw [List.getElem?_append_right (Nat.le_refl _), Nat.sub_self] at hk
    obtain rfl : l = k := by simpa using hk
    refine ⟨v, Bl, by rw [List.getElem?_append_right (by omega), e, Nat.sub_self]; rfl, y.keep g6 hd, fun z hz => ⟨by simp [hz], fun hj => ?_⟩⟩
    rcases a4' z hj with h1 | h1
    · exact hd z hz h1
    · have := y.lt z hz; omega
end

/-- Parts -/
theorem c26 {h : Hp} {b n : Nat} {M : Nat → List Bool} {own : List Nat} (x : MAt h b n M own) (hM : ∀ i, i < n → (M i).length = n) (hnn : n ≤ 1000) :
    C bitsE 26 [ptrV b] h fun v h' => ∃ B own', LLs h' v (partsUp n (warM M n) n) B own' ∧ (∀ z, z ∈ own' → h.n ≤ z) ∧ Ext h h' := by
  have hlenA : ∀ i, i < n → (warM M n i).length ≤ 100000 := fun i hi => by rw [warM_len, hM i hi]; omega
  refine c_enter (fu := Tryd.f26) (by kernel_rfl) rfl ?_
  refine w_seq ?_
  refine w_region (by kernel_rfl) ?_
  refine o_assign gn rfl rfl ?_
  refine wl_end ?_
  refine w_seq ?_
  refine w_region (by kernel_rfl) ?_
  refine o_move gn rfl rfl ?_
  refine o_call [_] gn rfl rfl (by kernel_rfl) rfl (C.mono (c23 x (fun i hi => by rw [hM i hi]; omega) hnn) ?_)
  rintro v1 h1 ⟨b2, own2, rfl, xc, fc, x1⟩
  obtain ⟨P, O, sr, Bm, xc, rfl⟩ := xc
  refine ⟨ag0, ?_⟩
  refine o_assign gn rfl rfl ?_
  refine wl_end ?_
  refine w_seq ?_
  refine w_region (by kernel_rfl) ?_
  refine o_move gn rfl rfl ?_
  refine o_call [_] gn rfl rfl (by kernel_rfl) rfl (C.mono (c29 xc (fun i hi => by rw [hM i hi]; omega) hnn) ?_)
  rintro v2 h2 ⟨xm, g2⟩
  have x2 : Ext h h2 := x1.of g2 fc
  have m2 : MAt h2 b2 n (warM M n) (ownM b2 n O Bm) := ⟨P, O, sr, Bm, xm, rfl⟩
  generalize warM M n = A at *
  refine ⟨ag0, ?_⟩
  refine wl_end ?_
  refine w_seq ?_
  refine w_region (by kernel_rfl) ?_
  refine o_assign gn rfl rfl ?_
  refine wl_end ?_
  refine w_seq ?_
  refine w_seq ?_
  refine w_region (by kernel_rfl) ?_
  refine o_move gn rfl rfl ?_
  refine o_call [_] gn rfl rfl (by kernel_rfl) rfl (c_pure (c51' m2) ⟨ag0, ?_⟩)
  refine o_move gn rfl rfl ?_
  refine wl_end ?_
  refine w_block ?_
  refine w_weak [(3, ptrV b2), (4, .slice none 0 0), (13, iV n), (14, iV (0 : Nat))] (by repeat (first | exact trivial | refine ⟨rfl, ?_⟩)) ?_
  refine w_loop (fun k l hh => ∃ (i : Nat) (s4 : Value) (B own' : List Nat), i ≤ n ∧ k = n - i ∧ LLs hh s4 (partsUp n A i) B own' ∧ (∀ z, z ∈ own' → h2.n ≤ z ∧ z < hh.n) ∧ Ext h2 hh ∧ l = [(3, ptrV b2), (4, s4), (13, iV n), (14, iV (i : Nat))]) (n := n) ?_ fun k l hh hI => ?_
  · exact ⟨0, .slice none 0 0, [], [], by omega, by omega, ⟨[], rfl, .inl ⟨rfl, rfl, rfl⟩, by simp, fun i l hl => by simp [partsUp] at hl⟩, by simp, .refl _, rfl⟩
  · obtain ⟨i, s4, B, own', hi, rfl, hll, hfr, hx, rfl⟩ := hI
    refine w_seq ?_
    refine w_region (by kernel_rfl) ?_
    refine o_lss gn rfl rfl rfl ?_
    refine wl_end ?_
    refine w_seq ?_
    refine w_cond rfl (fun hb => ?_) fun hb => ?_
    · skip
      have hin : i < n := by simpa using hb
      have hxn := hx.n
      obtain ⟨hq0, hqq⟩ : ∃ x, x = hh := ⟨_, rfl⟩
      subst hqq
      refine w_skip ?_
      refine w_seq ?_
      refine w_block ?_
      refine w_seq ?_
      refine w_region (by kernel_rfl) ?_
      refine o_move gn rfl rfl ?_
      refine o_assign gn rfl rfl ?_
      refine wl_end ?_
      refine w_seq ?_
      refine w_region (by kernel_rfl) ?_
      refine o_assign gn rfl rfl ?_
      refine wl_end ?_
      refine w_seq ?_
      refine w_seq ?_
      refine w_region (by kernel_rfl) ?_
      refine o_move gn rfl rfl ?_
      refine o_call [_] gn rfl rfl (by kernel_rfl) rfl (c_pure (c51' (m2.ext hx)) ⟨ag0, ?_⟩)
      refine o_move gn rfl rfl ?_
      refine wl_end ?_
      refine w_block ?_
      refine w_weak [(3, ptrV b2), (4, s4), (5, iV (i : Nat)), (6, .slice none 0 0), (13, iV n), (14, iV (i : Nat)), (18, iV n), (19, iV (0 : Nat))] (by repeat (first | exact trivial | refine ⟨rfl, ?_⟩)) ?_
      refine w_loop (fun k l hh => ∃ (j : Nat) (s6 : Value) (B6 : List Nat), j ≤ n ∧ k = n - j ∧ Sl 3 hh s6 (nsV ((List.range j).filter (mineB A i))) B6 ∧ (∀ z, z ∈ B6 → hq0.n ≤ z) ∧ Ext hq0 hh ∧ l = [(3, ptrV b2), (4, s4), (5, iV (i : Nat)), (6, s6), (13, iV n), (14, iV (i : Nat)), (18, iV n), (19, iV (j : Nat))]) (n := n) ?_ fun k l hh hI => ?_
      · exact ⟨0, .slice none 0 0, [], by omega, by omega, .inl ⟨rfl, rfl, rfl⟩, by simp, .refl _, rfl⟩
      · obtain ⟨j, s6, B6, hj, rfl, hs6, hf6, hx6, rfl⟩ := hI
        refine w_seq ?_
        refine w_region (by kernel_rfl) ?_
        refine o_lss gn rfl rfl rfl ?_
        refine wl_end ?_
        refine w_seq ?_
        refine w_cond rfl (fun hb => ?_) fun hb => ?_
        · skip
          have hjn : j < n := by simpa using hb
          have hxx := hx.trans hx6
          have hii : inN n (i : Int) = true := inN_iff.2 ⟨by omega, by simpa using hin⟩
          have hjj : inN n (j : Int) = true := inN_iff.2 ⟨by omega, by simpa using hjn⟩
          have hlen6 := ns_len_le (mineB A i) j
          obtain ⟨a6, rfl⟩ := hs6.val
          refine w_skip ?_
          refine w_seq ?_
          refine w_block ?_
          refine w_seq ?_
          refine w_region (by kernel_rfl) ?_
          refine o_move gn rfl rfl ?_
          refine o_assign gn rfl rfl ?_
          refine wl_end ?_
          refine w_seq ?_
          refine w_region (by kernel_rfl) ?_
          refine o_move gn rfl rfl ?_
          refine o_move gn rfl rfl ?_
          refine o_move gn rfl rfl ?_
          refine o_call [_, _, _] gn rfl rfl (by kernel_rfl) rfl (c_pure (c40' (i := (i : Int)) (j := (j : Int)) (m2.ext hxx) hlenA) ⟨ag0, ?_⟩)
          refine o_move gn rfl rfl ?_
          refine o_and (n := 4) rfl rfl rfl gn rfl (fun hb => by
              refine o_move (gy rfl rfl rfl hb) rfl rfl ?_
              refine o_move (gy rfl rfl rfl hb) rfl rfl ?_
              refine o_move (gy rfl rfl rfl hb) rfl rfl ?_
              refine o_call [_, _, _] (gy rfl rfl rfl hb) rfl rfl (by kernel_rfl) rfl (c_pure (c40' (i := (j : Int)) (j := (i : Int)) (m2.ext hxx) hlenA) ⟨ag0, ?_⟩)
              exact wl_end ⟨rfl, rfl, 4, rfl, rfl⟩) ?_
          refine wl_end ?_
          refine w_cond rfl (fun hb => ?_) fun hb => ?_
          · skip
            refine w_region (by kernel_rfl) ?_
            refine o_move gn rfl rfl ?_
            refine o_move gn rfl rfl ?_
            refine o_buildSlice (e := 3) (z := 0) (zv := .int .i64 0) [(0, _)] gn rfl (by kernel_rfl) (by kernel_rfl) (by kernel_rfl) (by kernel_rfl) rfl rfl ?_
            have hmb : mineB A i j = true := by rw [hii, hjj, hasB_nat, hasB_nat] at hb; simpa [mineB] using hb
            obtain ⟨a7, h7, B7, b1, b2', b3, b4⟩ := push_ns (x := (j : Int)) (k := j) rfl hs6 (by omega)
            have hrf : (List.range j).filter (mineB A i) ++ [j] = (List.range (j + 1)).filter (mineB A i) := by rw [range_filter_succ, hmb, if_pos rfl]
            rw [hrf] at b1 b2'
            refine o_append gn rfl rfl rfl b1 ag0 ?_
            refine o_assign gn rfl rfl ?_
            refine wl_end ?_
            refine w_region (by kernel_rfl) ?_
            refine o_add gn rfl rfl rfl (by omega) (by omega) ?_
            refine o_move gn rfl rfl ?_
            refine wl_end ?_
            have h6n := hx6.n
            exact ⟨n - (j + 1), by omega, [(3, ptrV b2), (4, s4), (5, iV (i : Nat)), (6, _), (13, iV n), (14, iV (i : Nat)), (18, iV n), (19, iV ((j + 1 : Nat) : Int))], (by repeat (first | exact trivial | refine ⟨rfl, ?_⟩)), j + 1, _, B7, by omega, rfl, b2', fun z hz => by rcases b4 z hz with h9 | h9; exact hf6 z h9; omega, hx6.of b3 hf6, rfl⟩
          · skip
            refine w_skip ?_
            refine w_region (by kernel_rfl) ?_
            refine o_add gn rfl rfl rfl (by omega) (by omega) ?_
            refine o_move gn rfl rfl ?_
            refine wl_end ?_
            have hmb : mineB A i j = false := by rw [hii, hjj, hasB_nat, hasB_nat] at hb; simpa [mineB] using hb
            have hrf : (List.range j).filter (mineB A i) = (List.range (j + 1)).filter (mineB A i) := by rw [range_filter_succ, hmb, if_neg (by simp), List.append_nil]
            exact ⟨n - (j + 1), by omega, [(3, ptrV b2), (4, s4), (5, iV (i : Nat)), (6, _), (13, iV n), (14, iV (i : Nat)), (18, iV n), (19, iV ((j + 1 : Nat) : Int))], (by repeat (first | exact trivial | refine ⟨rfl, ?_⟩)), j + 1, _, B6, by omega, rfl, (by rw [← hrf]; exact hs6), hf6, hx6, rfl⟩
        · skip
          refine w_exit ?_
          refine thn_exit ?_
          refine rnd_exit ?_
          refine blk_eq ?_
          have hge : j = n := by simp at hb; omega
          subst hge
          obtain ⟨a6, rfl⟩ := hs6.val
          have hml : (nsV ((List.range j).filter (mineB A i))).length = (mineL j A i).length := by simp [mineL]
          refine w_seq ?_
          refine w_region (by kernel_rfl) ?_
          refine o_move gn rfl rfl ?_
          refine o_len gn rfl rfl (by kernel_rfl) ?_
          refine o_gtr gn rfl rfl rfl ?_
          refine o_move gn rfl rfl ?_
          refine o_and (n := 5) rfl rfl rfl gn rfl (fun hb => by
              refine o_move (gy rfl rfl rfl hb) rfl rfl ?_
              have hpos : 0 < (nsV ((List.range j).filter (mineB A i))).length := by simpa using hb
              obtain ⟨bb, m, ea, hg, hm, hblt, _⟩ := hs6.at hpos
              simp only [Value.slice.injEq, and_true] at ea
              subst ea
              refine o_indexAddr (zz := 1) (gy rfl rfl rfl hb) rfl rfl rfl (by kernel_rfl) (by omega) (by omega) ?_
              refine o_load (gy rfl rfl rfl hb) rfl rfl (by kernel_rfl) hg (by
                show (nsV (mineL j A i))[0]? = some (iV (((mineL j A i).head?.getD 0 : Nat) : Int))
                have h0 : 0 < (mineL j A i).length := by rw [← hml]; exact hpos
                cases hq : mineL j A i with
                | nil => rw [hq] at h0; simp at h0
                | cons y ys => rfl) ?_
              refine o_move (gy rfl rfl rfl hb) rfl rfl ?_
              refine o_eqi (gy rfl rfl rfl hb) rfl rfl rfl ?_
              exact wl_end ⟨rfl, rfl, 5, rfl, rfl⟩) ?_
          refine wl_end ?_
          refine w_cond rfl (fun hb => ?_) fun hb => ?_
          · skip
            refine w_region (by kernel_rfl) ?_
            refine o_move gn rfl rfl ?_
            refine o_move gn rfl rfl ?_
            refine o_buildSlice (e := 22) (z := 0) (zv := .slice none 0 0) [(0, _)] gn rfl (by kernel_rfl) (by kernel_rfl) (by kernel_rfl) (by kernel_rfl) rfl rfl ?_
            have hrep : repB j A i = true := by rw [hml] at hb; simpa [repB] using hb
            obtain ⟨a4, rfl⟩ := hll.val
            have h6n := hx6.n
            obtain ⟨vv, hvv⟩ : ∃ x, x = hq0 := ⟨_, rfl⟩
            obtain ⟨a8, h8, B8, c1, c2, c3', c4⟩ := push_ll (l := mineL j A i) (hll.ext hx6) hs6 (fun z hz hw => by have := hf6 z hz; have := hfr z ((by obtain ⟨_, _, _, q, _⟩ := hll; exact q z hw)); omega) (fun z hz => by have := (hfr z hz).2; omega) (by have := partsUp_len j A i; omega)
            rw [← partsUp_yes hrep] at c1 c2
            refine o_append gn rfl rfl rfl c1 ag0 ?_
            refine o_assign gn rfl rfl ?_
            refine wl_end ?_
            refine w_region (by kernel_rfl) ?_
            refine o_add gn rfl rfl rfl (by omega) (by omega) ?_
            refine o_move gn rfl rfl ?_
            refine wl_end ?_
            have h8n := c3'.n
            have hBo : ∀ z, z ∈ B → z ∈ own' := by obtain ⟨_, _, _, q, _⟩ := hll; exact q
            have hB8 : ∀ z, z ∈ B8 → z < h8.n := by obtain ⟨_, _, q, _⟩ := c2; exact q.lt
            have hown : ∀ z, z ∈ own' ++ B6 ++ B8 → h2.n ≤ z ∧ z < h8.n := fun z hz => by
              rcases List.mem_append.1 hz with hz | hz
              · rcases List.mem_append.1 hz with hz | hz
                · have := hfr z hz; omega
                · have := hf6 z hz; have := hs6.lt z hz; omega
              · have h9 := hB8 z hz
                rcases c4 z hz with h10 | h10
                · have := hfr z (hBo z h10); omega
                · omega
            exact ⟨j - (i + 1), by omega, [(3, ptrV b2), (4, _), (13, iV j), (14, iV ((i + 1 : Nat) : Int))], (by repeat (first | exact trivial | refine ⟨rfl, ?_⟩)), i + 1, _, B8, _, by omega, rfl, c2, hown, (hx.trans hx6).of c3' (fun z hz => (hfr z (by obtain ⟨_, _, _, q, _⟩ := hll; exact q z hz)).1), rfl⟩
          · skip
            refine w_skip ?_
            refine w_region (by kernel_rfl) ?_
            refine o_add gn rfl rfl rfl (by omega) (by omega) ?_
            refine o_move gn rfl rfl ?_
            refine wl_end ?_
            have hrep : repB j A i = false := by rw [hml] at hb; simpa [repB] using hb
            exact ⟨j - (i + 1), by omega, [(3, ptrV b2), (4, s4), (13, iV j), (14, iV ((i + 1 : Nat) : Int))], (by repeat (first | exact trivial | refine ⟨rfl, ?_⟩)), i + 1, s4, B, own', by omega, rfl, by rw [partsUp_no hrep]; exact hll.ext hx6, fun z hz => ⟨(hfr z hz).1, by have := (hfr z hz).2; have := hx6.n; omega⟩, hx.trans hx6, rfl⟩
    · skip
      refine w_exit ?_
      refine thn_exit ?_
      refine rnd_exit ?_
      refine blk_eq ?_
      refine w_seq ?_
      refine w_region (by kernel_rfl) ?_
      refine o_move gn rfl rfl ?_
      refine o_assign gn rfl rfl ?_
      refine wl_end ?_
      refine w_ret ?_
      refine ⟨.inl rfl, _, rfl, ?_⟩
      have hge : i = n := by simp at hb; omega
      subst hge
      exact ⟨B, own', hll, fun z hz => by have := (hfr z hz).1; have := x2.n; omega, x2.trans hx⟩

end Go.Proofs.YtgcapnlfkomgpaaDoor


namespace Go.Proofs.YtgcapnlfkomgpaaDoor
open Go.X

section
variable {n : Nat} {A : Nat → List Bool}

def TrM (n : Nat) (A : Nat → List Bool) : Prop := ∀ i k j, i < n → k < n → bget (A i) k = true → bget (A k) j = true → bget (A i) j = true
theorem mineB_iff {i j : Nat} : mineB A i j = true ↔ bget (A i) j = true ∧ bget (A j) i = true := by simp [mineB]
theorem mineB_sym (i j : Nat) : mineB A i j = mineB A j i := Bool.and_comm _ _
theorem mineB_tr (tr : TrM n A) {i j k : Nat} (hi : i < n) (hj : j < n) (hk : k < n) (p : mineB A i j = true) (q : mineB A j k = true) : mineB A i k = true := by
  rw [mineB_iff] at p q ⊢
  exact ⟨tr i j k hi hj p.1 q.1, tr k j i hk hj q.2 p.2⟩

theorem rep_iff {i : Nat} (_ : TrM n A) (hi : i < n) : repB n A i = true ↔ bget (A i) i = true ∧ ∀ j, j < i → mineB A i j = false := by
  have hh : ∀ y, (mineL n A i).head? = some y ↔ mineB A i y = true ∧ y ∈ List.range n ∧ ∀ j, j < y → (!mineB A i j) = true := fun y => by
    rw [mineL, List.head?_filter, List.find?_range_eq_some]
  rw [repB, Bool.and_eq_true, decide_eq_true_eq, decide_eq_true_eq]
  constructor
  · rintro ⟨h1, h2⟩
    cases hq : (mineL n A i).head? with
    | none => rw [List.head?_eq_none_iff] at hq; rw [hq] at h1; simp at h1
    | some y =>
      rw [hq] at h2
      have hy : y = i := by simp only [Option.getD_some] at h2; omega
      subst hy
      obtain ⟨p, _, q⟩ := (hh y).1 hq
      exact ⟨(mineB_iff.1 p).1, fun j hj => by simpa using q j hj⟩
  · rintro ⟨h1, h2⟩
    have hq := (hh i).2 ⟨mineB_iff.2 ⟨h1, h1⟩, List.mem_range.2 hi, fun j hj => by simp [h2 j hj]⟩
    refine ⟨?_, by rw [hq]; rfl⟩
    cases hm : mineL n A i with
    | nil => rw [hm] at hq; cases hq
    | cons y ys => simp

theorem ex_rep (tr : TrM n A) (i : Nat) : i < n → bget (A i) i = true → ∃ r, r ≤ i ∧ repB n A r = true ∧ mineB A r i = true := by
  induction i using Nat.strongRecOn with
  | _ i ih =>
    intro hi hii
    by_cases h : ∀ j, j < i → mineB A i j = false
    · exact ⟨i, Nat.le_refl _, (rep_iff tr hi).2 ⟨hii, h⟩, mineB_iff.2 ⟨hii, hii⟩⟩
    · simp only [Classical.not_forall] at h
      obtain ⟨j, hj, hm⟩ := h
      have hm : mineB A i j = true := by simpa using hm
      have hji : mineB A j i = true := by rw [mineB_sym]; exact hm
      have hjj := mineB_tr tr (by omega) hi (by omega) hji hm
      obtain ⟨r, hr, h1, h2⟩ := ih j hj (by omega) (mineB_iff.1 hjj).1
      exact ⟨r, by omega, h1, mineB_tr tr (by omega) (by omega) hi h2 hji⟩

/-- What is marked ahead of a number. -/
def inP (n : Nat) (A : Nat → List Bool) (i t : Nat) : Prop := ∃ r, r < i ∧ repB n A r = true ∧ mineB A r t = true
theorem rep_no {i : Nat} (tr : TrM n A) (hi : i < n) : repB n A i = false ↔ inP n A i i ∨ bget (A i) i = false := by
  constructor
  · intro h
    cases hii : bget (A i) i with
    | false => exact .inr rfl
    | true =>
      obtain ⟨r, hr, h1, h2⟩ := ex_rep tr i hi hii
      have : r ≠ i := fun e => by subst e; rw [h] at h1; cases h1
      exact .inl ⟨r, by omega, h1, h2⟩
  · intro h
    cases hr : repB n A i with
    | false => rfl
    | true =>
      obtain ⟨h1, h2⟩ := (rep_iff tr hi).1 hr
      rcases h with ⟨r, hr2, h3, h4⟩ | h
      · rw [mineB_sym, h2 r hr2] at h4; cases h4
      · rw [h1] at h; cases h
theorem inP_yes {i t : Nat} (h : repB n A i = true) : inP n A (i + 1) t ↔ inP n A i t ∨ mineB A i t = true := by
  constructor
  · rintro ⟨r, hr, h1, h2⟩
    by_cases e : r = i
    · subst e; exact .inr h2
    · exact .inl ⟨r, by omega, h1, h2⟩
  · rintro (⟨r, hr, h1, h2⟩ | h2)
    · exact ⟨r, by omega, h1, h2⟩
    · exact ⟨i, by omega, h, h2⟩
theorem inP_no {i t : Nat} (h : repB n A i = false) : inP n A (i + 1) t ↔ inP n A i t := by
  constructor
  · rintro ⟨r, hr, h1, h2⟩
    exact ⟨r, by have : r ≠ i := fun e => by subst e; rw [h] at h1; cases h1
                 omega, h1, h2⟩
  · rintro ⟨r, hr, h1, h2⟩
    exact ⟨r, by omega, h1, h2⟩
theorem mine_none {i : Nat} (tr : TrM n A) (hi : i < n) (h : repB n A i = true) : (List.range i).filter (mineB A i) = [] := by
  rw [List.filter_eq_nil_iff]
  intro j hj
  rw [((rep_iff tr hi).1 h).2 j (List.mem_range.1 hj)]
  simp
end

end Go.Proofs.YtgcapnlfkomgpaaDoor
