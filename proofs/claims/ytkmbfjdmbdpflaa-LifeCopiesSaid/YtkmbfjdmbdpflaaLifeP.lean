/- LifePlays, in the calculus. Conditions: the slices are as they are read. -/
import Derived.Test.YtkmbfjdmbdpflaaLifeL
namespace Go.Proofs.Ytkmbfjdmbdpflaa
open Go.X

/-- Acts, as they lie in memory. -/
def ActsAt (h : Hp) (a : Option Addr) (n : Nat) : Prop :=
  n = 0 ∨ ∃ bb oo cs e m, a = some ⟨bb, oo, none⟩ ∧ h.get bb = some (.cells cs e m) ∧ bb < h.n ∧
    ∀ i, i < n → oo + i * 4 + 4 ≤ cs.length ∧ ∃ kd ac wh is, (cs.drop (oo + i * 4)).take 4 = [Value.int .i64 kd, .int .i64 ac, .int .i64 wh, .bool is]

theorem Two.keep {h h' : Hp} {b b' : Nat} {st : List Int} {on : List Bool} {sc so sc' so' : Value} {B1 B2 B1' B2' cs : List Nat} (t : Two h b b' st on sc so sc' so' B1 B2 B1' B2') (g : ExtB cs h h')
    (h1 : ∀ i, i ∈ b :: (B1 ++ B2) → i ∉ cs) (h2 : ∀ i, i ∈ b' :: (B1' ++ B2') → i ∉ cs) : Two h' b b' st on sc so sc' so' B1 B2 B1' B2' :=
  ⟨t.l.keep g (h1 b (by simp)) (fun i hi => h1 i (by simp [hi])) (fun i hi => h1 i (by simp [hi])), t.r.keep g (h2 b' (by simp)) (fun i hi => h2 i (by simp [hi])) (fun i hi => h2 i (by simp [hi])), t.s, t.d⟩

/-- Two new ones. -/
theorem two_new {h0 h1 h2 : Hp} {b b' k : Nat} {on : List Bool} {sc so sc' so' : Value} {B1 B2 B1' B2' : List Nat} (l : LivesR h1 b (List.replicate k 0) on sc so B1 B2) (x2 : Ext h1 h2) (r : RefR h2 b' (List.replicate k (-1)) on sc' so' B1' B2')
    (f1 : Fresh h0 b B1 B2) (f2 : Fresh h1 b' B1' B2') (hn : h0.n ≤ h1.n) : Two h2 b b' (List.replicate k 0) on sc so sc' so' B1 B2 B1' B2' ∧ New h0.n b b' B1 B2 B1' B2' := by
  obtain ⟨p1, p2, p3⟩ := f1
  obtain ⟨q1, q2, q3⟩ := f2
  have e1 := l.lt
  have e2 := l.comps.lt
  have e3 := l.evs.lt
  refine ⟨⟨l.keep (x2.b []) (by simp) (by simp) (by simp), by simpa [rV] using r, fun s hs => by rw [(List.mem_replicate.1 hs).2]; omega, fun i hi hj => ?_⟩, fun i hi => ?_, fun i hi => ?_⟩
  · simp only [List.mem_cons, List.mem_append] at hi hj
    have h3 : i < h1.n := by rcases hi with rfl | hi | hi <;> first | exact e1 | exact e2 _ hi | exact e3 _ hi
    have h4 : h1.n ≤ i := by rcases hj with rfl | hj | hj <;> first | exact q1 | exact q2 _ hj | exact q3 _ hj
    omega
  · simp only [List.mem_cons, List.mem_append] at hi
    rcases hi with rfl | hi | hi <;> first | exact p1 | exact p2 _ hi | exact p3 _ hi
  · simp only [List.mem_cons, List.mem_append] at hi
    rcases hi with rfl | hi | hi
    · omega
    · have := q2 i hi; omega
    · have := q3 i hi; omega

/-- LifePlays -/
theorem c4 {h : Hp} {a a2 : Option Addr} {n c n2 c2 : Nat} {on : List Bool} {k0 : Int} (hs : Src h (.slice a n c) (onV on)) (hA : ActsAt h a2 n2) :
    C lifeE 4 [.int .i64 k0, .slice a n c, .slice a2 n2 c2] h fun v _ => v = .bool true := by
  have en := hs.len'
  simp only [onV, List.length_map] at en
  subst en
  refine c_enter (fu := Try.f4) (by kernel_rfl) rfl ?_
  refine w_seq ?_
  refine w_region (by kernel_rfl) ?_
  refine o_assign gn rfl rfl ?_
  refine wl_end ?_
  refine w_seq ?_
  refine w_seq ?_
  refine w_region (by kernel_rfl) ?_
  refine o_move gn rfl rfl ?_
  refine o_gtr gn rfl rfl rfl ?_
  refine o_move gn rfl rfl ?_
  refine o_or (n := 3) rfl rfl rfl gn rfl (fun hb => by
      refine o_move (gy rfl rfl rfl hb) rfl rfl ?_
      refine o_len (gy rfl rfl rfl hb) rfl rfl (by kernel_rfl) ?_
      refine o_gtr (gy rfl rfl rfl hb) rfl rfl rfl ?_
      exact wl_end ⟨rfl, rfl, 3, rfl, rfl⟩) ?_
  refine o_move gn rfl rfl ?_
  refine o_or (n := 3) rfl rfl rfl gn rfl (fun hb => by
      refine o_move (gy rfl rfl rfl hb) rfl rfl ?_
      refine o_len (gy rfl rfl rfl hb) rfl rfl (by kernel_rfl) ?_
      refine o_gtr (gy rfl rfl rfl hb) rfl rfl rfl ?_
      exact wl_end ⟨rfl, rfl, 3, rfl, rfl⟩) ?_
  refine wl_end ?_
  refine w_cond rfl (fun hb => ?_) fun hb => ?_
  · skip
    refine w_seq ?_
    refine w_region (by kernel_rfl) ?_
    refine o_orc (f := 11) (v := .bool true) gn rfl (by kernel_rfl) (by kernel_rfl) ag0 ?_
    refine o_assign gn rfl rfl ?_
    refine wl_end ?_
    refine w_ret ?_
    refine ⟨.inl rfl, _, rfl, ?_⟩
    rfl
  · skip
    have hb' : k0 ≤ 20 ∧ on.length ≤ 20 ∧ n2 ≤ 60 := by simp at hb; omega
    obtain ⟨v7, hp1, B7, p7, s7, x7, f7⟩ := append_nil (E := lifeE) el4 hs (by simp [onV]; omega)
    obtain ⟨a7, rfl⟩ := s7.val
    refine w_skip ?_
    refine w_seq ?_
    refine w_region (by kernel_rfl) ?_
    refine o_move gn rfl rfl ?_
    refine o_append gn rfl rfl rfl p7 ag0 ?_
    refine o_assign gn rfl rfl ?_
    refine wl_end ?_
    refine w_seq ?_
    refine w_region (by kernel_rfl) ?_
    refine o_move gn rfl rfl ?_
    refine o_move gn rfl rfl ?_
    refine o_call [_, _] gn rfl rfl (by kernel_rfl) rfl (C.mono (c12 (s7.src (all_bool _)) (by omega) (by omega)) ?_)
    rintro v1 hp2 ⟨b, sc, so, B1, B2, rfl, l1, x1, f1⟩
    refine ⟨ag0, ?_⟩
    refine o_move gn rfl rfl ?_
    refine o_move gn rfl rfl ?_
    refine o_call [_, _] gn rfl rfl (by kernel_rfl) rfl (C.mono (c15 (hs.ext (x7.trans x1)) (by omega) (by omega)) ?_)
    rintro v2 hp3 ⟨b', sc', so', B1', B2', rfl, r2, x2, f2⟩
    obtain ⟨t0, nw⟩ := two_new l1 x2 r2 f1 f2 x1.n
    have l7 := s7.lt
    have d7 : (∀ i, i ∈ b :: (B1 ++ B2) → i ∉ B7) ∧ (∀ i, i ∈ b' :: (B1' ++ B2') → i ∉ B7) := ⟨fun i hi hj => by have := nw.1 i hi; have := l7 i hj; omega, fun i hi hj => by have := nw.2 i hi; have := l7 i hj; omega⟩
    have n7 := x7.n
    refine ⟨ag0, ?_⟩
    refine o_assign gn rfl rfl ?_
    refine o_assign gn rfl rfl ?_
    refine wl_end ?_
    refine w_seq ?_
    refine w_seq ?_
    refine w_region (by kernel_rfl) ?_
    refine o_assign gn rfl rfl ?_
    refine wl_end ?_
    refine w_block ?_
    clear p7
    refine w_weak [(0, .int .i64 k0), (2, .slice a2 n2 c2), (7, .slice a7 (onV on).length (onV on).length), (8, .pointer (some ⟨b, 0, none⟩)), (9, .pointer (some ⟨b', 0, none⟩)), (10, .int .i64 0)] (by repeat (first | exact trivial | refine ⟨rfl, ?_⟩)) ?_
    refine w_loop (fun k l hh => ∃ (i : Int) (on1 : List Bool), 0 ≤ i ∧ i ≤ on.length ∧ k = (on.length - i).toNat ∧ on1.length = on.length ∧ Sl 4 hh (.slice a7 (onV on).length (onV on).length) (onV on1) B7 ∧ Two hh b b' (List.replicate k0.toNat 0) on sc so sc' so' B1 B2 B1' B2' ∧ Ext h hh ∧
  l = [(0, .int .i64 k0), (2, .slice a2 n2 c2), (7, .slice a7 (onV on).length (onV on).length), (8, .pointer (some ⟨b, 0, none⟩)), (9, .pointer (some ⟨b', 0, none⟩)), (10, .int .i64 i)]) (n := (on.length - (0 : Int)).toNat) ?_ fun k l hh hI => ?_
    · exact ⟨0, on, by omega, by omega, rfl, rfl, (s7.ext x1).ext x2, t0, (x7.trans x1).trans x2, rfl⟩
    · obtain ⟨i, on1, hi0, hi1, rfl, hon, hs1, t1, g1, rfl⟩ := hI
      refine w_seq ?_
      refine w_seq ?_
      refine w_region (by kernel_rfl) ?_
      refine o_move gn rfl rfl ?_
      refine o_move gn rfl rfl ?_
      refine o_len gn rfl rfl (by kernel_rfl) ?_
      refine o_lss gn rfl rfl rfl ?_
      refine wl_end ?_
      refine w_cond rfl (fun hb => ?_) fun hb => ?_
      · skip
        refine w_skip ?_
        refine w_seq ?_
        have hlt : i < on.length := by simpa [onV] using hb
        obtain ⟨bb, m, e7, hbb, hm, hblt, hB⟩ := hs1.at (by simp [onV]; omega)
        simp only [Value.slice.injEq] at e7
        obtain ⟨rfl, e8, _⟩ := e7
        refine w_block ?_
        refine w_region (by kernel_rfl) ?_
        refine o_move gn rfl rfl ?_
        refine o_move gn rfl rfl ?_
        refine o_move gn rfl rfl ?_
        refine o_move gn rfl rfl ?_
        refine o_indexAddr (zz := 1) gn rfl rfl rfl (by kernel_rfl) (by omega) (by simp [onV]; omega) ?_
        refine o_load gn rfl rfl (by kernel_rfl) hbb (at_bool i.toNat (by omega) (by omega)) ?_
        refine o_not gn rfl rfl ?_
        refine o_indexAddr (zz := 1) gn rfl rfl rfl (by kernel_rfl) (by omega) (by simp [onV]; omega) ?_
        refine o_store gn rfl rfl rfl (by kernel_rfl) hbb (by omega) (by simp [onV]; omega) ag0 ?_
        refine wl_end ?_
        refine w_region (by kernel_rfl) ?_
        refine o_move gn rfl rfl ?_
        refine o_add gn rfl rfl rfl (by omega) (by omega) ?_
        refine o_assign gn rfl rfl ?_
        refine wl_end ?_
        exact ⟨(on.length - (i + 1)).toNat, by omega, _, (by repeat (first | exact trivial | refine ⟨rfl, ?_⟩)), ⟨i + 1, on1.set i.toNat (!(on1[i.toNat]?).getD false), by omega, by omega, rfl, by simp [hon], by
  have hset : (onV on1).set (0 + i.toNat * 1) (.bool (!(on1[i.toNat]?).getD false)) = onV (on1.set i.toNat (!(on1[i.toNat]?).getD false)) := by simp [onV, List.map_set]
  rw [hset, hB]
  exact Sl.put (by simp [onV, hon]) hm hblt, t1.keep (ExtB.put _ _ _) (fun j hj => by have := d7.1 j hj; rw [hB] at this; exact this) (fun j hj => by have := d7.2 j hj; rw [hB] at this; exact this),
  ⟨by rw [Hp.n_put]; exact g1.n, fun j hj => by
    have := f7 bb (by rw [hB]; simp)
    rw [Hp.get_put, if_neg (by omega)]; exact g1.get j hj⟩, rfl⟩⟩
      · skip
        refine w_exit ?_
        refine thn_exit ?_
        refine rnd_exit ?_
        refine blk_eq ?_
        refine w_seq ?_
        refine w_seq ?_
        refine w_region (by kernel_rfl) ?_
        refine o_move gn rfl rfl ?_
        refine o_move gn rfl rfl ?_
        refine o_call [_, _] gn rfl rfl (by kernel_rfl) rfl (c_pure (c16 t1 (by simp; omega) (by omega)) ⟨ag0, ?_⟩)
        refine o_not gn rfl rfl ?_
        refine wl_end ?_
        refine w_cond rfl (fun hb => ?_) fun hb => ?_
        · skip
          refine w_seq ?_
          refine w_region (by kernel_rfl) ?_
          refine o_assign gn rfl rfl ?_
          refine wl_end ?_
          refine w_ret ?_
          refine ⟨.inl rfl, _, rfl, ?_⟩
          simp at hb
        · skip
          refine w_skip ?_
          refine w_seq ?_
          refine w_seq ?_
          refine w_region (by kernel_rfl) ?_
          refine o_assign gn rfl rfl ?_
          refine wl_end ?_
          refine w_block ?_
          refine w_weak [(2, .slice a2 n2 c2), (8, .pointer (some ⟨b, 0, none⟩)), (9, .pointer (some ⟨b', 0, none⟩)), (11, .int .i64 0)] (by repeat (first | exact trivial | refine ⟨rfl, ?_⟩)) ?_
          refine w_loop (fun k l hh => ∃ (i : Int) (st2 : List Int) (on2 : List Bool), 0 ≤ i ∧ i ≤ n2 ∧ k = (n2 - i).toNat ∧ st2.length ≤ 20 ∧ on2.length ≤ 20 ∧ Two hh b b' st2 on2 sc so sc' so' B1 B2 B1' B2' ∧ Ext h hh ∧
  l = [(2, .slice a2 n2 c2), (8, .pointer (some ⟨b, 0, none⟩)), (9, .pointer (some ⟨b', 0, none⟩)), (11, .int .i64 i)]) (n := (n2 - (0 : Int)).toNat) ?_ fun k l hh hI => ?_
          · exact ⟨0, _, on, by omega, by omega, rfl, by simp; omega, by omega, t1, g1, rfl⟩
          · obtain ⟨j, st2, on2, hj0, hj1, rfl, q1, q2, t2, g2, rfl⟩ := hI
            refine w_seq ?_
            refine w_seq ?_
            refine w_region (by kernel_rfl) ?_
            refine o_move gn rfl rfl ?_
            refine o_move gn rfl rfl ?_
            refine o_len gn rfl rfl (by kernel_rfl) ?_
            refine o_lss gn rfl rfl rfl ?_
            refine wl_end ?_
            refine w_cond rfl (fun hb => ?_) fun hb => ?_
            · skip
              refine w_skip ?_
              refine w_seq ?_
              have hlt : j < n2 := by simpa using hb
              rcases hA with h0 | ⟨bb, oo, cs, e, m, rfl, hg, hbl, hall⟩
              · omega
              obtain ⟨hfit, kd, ac, wh, is, hrow⟩ := hall j.toNat (by omega)
              have hg2 := (g2.get bb hbl).trans hg
              refine w_block ?_
              refine w_seq ?_
              refine w_region (by kernel_rfl) ?_
              refine o_move gn rfl rfl ?_
              refine o_move gn rfl rfl ?_
              refine o_move gn rfl rfl ?_
              refine o_move gn rfl rfl ?_
              refine o_indexAddr (zz := 4) gn rfl rfl rfl (by kernel_rfl) (by omega) (by omega) ?_
              refine o_loadA (n := 4) gn rfl rfl (by kernel_rfl) (by kernel_rfl) hg2 hfit ?_
              rw [hrow]
              refine o_call [_, _, _] gn rfl rfl (by kernel_rfl) rfl (C.mono (c17 t2 (by omega) (by omega)) ?_)
              rintro v3 hp4 ⟨rfl, st3, on3, t3, e3, e4, x3⟩
              refine ⟨ag0, ?_⟩
              refine o_not gn rfl rfl ?_
              refine o_move gn rfl rfl ?_
              refine o_or (n := 4) rfl rfl rfl gn rfl (fun hb => by
                  refine o_move (gy rfl rfl rfl hb) rfl rfl ?_
                  refine o_move (gy rfl rfl rfl hb) rfl rfl ?_
                  refine o_call [_, _] (gy rfl rfl rfl hb) rfl rfl (by kernel_rfl) rfl (c_pure (c16 t3 (by omega) (by omega)) ⟨ag0, ?_⟩)
                  refine o_not (gy rfl rfl rfl hb) rfl rfl ?_
                  exact wl_end ⟨rfl, rfl, 4, rfl, rfl⟩) ?_
              refine wl_end ?_
              refine w_cond rfl (fun hb => ?_) fun hb => ?_
              · skip
                refine w_seq ?_
                refine w_region (by kernel_rfl) ?_
                refine o_assign gn rfl rfl ?_
                refine wl_end ?_
                refine w_ret ?_
                refine ⟨.inl rfl, _, rfl, ?_⟩
                simp at hb
              · skip
                refine w_skip ?_
                refine w_region (by kernel_rfl) ?_
                refine o_move gn rfl rfl ?_
                refine o_add gn rfl rfl rfl (by omega) (by omega) ?_
                refine o_assign gn rfl rfl ?_
                refine wl_end ?_
                exact ⟨(n2 - (j + 1)).toNat, by omega, _, (by repeat (first | exact trivial | refine ⟨rfl, ?_⟩)), ⟨j + 1, st3, on3, by omega, by omega, rfl, by omega, by omega, t3, ⟨Nat.le_trans g2.n x3.n, fun i hi => (x3.get i (Nat.lt_of_lt_of_le hi g2.n) (fun hm => by
  rcases List.mem_append.1 hm with hm | hm
  · have := nw.1 i hm; omega
  · have := nw.2 i hm; omega)).trans (g2.get i hi)⟩, rfl⟩⟩
            · skip
              refine w_exit ?_
              refine thn_exit ?_
              refine rnd_exit ?_
              refine blk_eq ?_
              refine w_seq ?_
              refine w_region (by kernel_rfl) ?_
              refine o_orc (f := 11) (v := .bool true) gn rfl (by kernel_rfl) (by kernel_rfl) ag0 ?_
              refine o_assign gn rfl rfl ?_
              refine wl_end ?_
              refine w_ret ?_
              refine ⟨.inl rfl, _, rfl, ?_⟩
              rfl

end Go.Proofs.Ytkmbfjdmbdpflaa

