/- LifeCopies, in the calculus. Conditions: the slices are as they are read. -/
import Derived.Test.YtkmbfjdmbdpflaaLifeK
namespace Go.Proofs.Ytkmbfjdmbdpflaa
open Go.X

/-- Where the program's lives and the document's lie. -/
structure Loc where
  b : Nat
  b' : Nat
  sc : Value
  so : Value
  sc' : Value
  so' : Value
  B1 : List Nat
  B2 : List Nat
  B1' : List Nat
  B2' : List Nat

def Loc.all (L : Loc) : List Nat := L.b :: (L.B1 ++ L.B2) ++ L.b' :: (L.B1' ++ L.B2')
def TwoL (h : Hp) (L : Loc) (st : List Int) (on : List Bool) : Prop := Two h L.b L.b' st on L.sc L.so L.sc' L.so' L.B1 L.B2 L.B1' L.B2'

theorem TwoL.keep {h h' : Hp} {L : Loc} {st : List Int} {on : List Bool} {cs : List Nat} (t : TwoL h L st on) (g : ExtB cs h h') (hd : ∀ i, i ∈ L.all → i ∉ cs) : TwoL h' L st on :=
  Two.keep t g (fun i hi => hd i (List.mem_append_left _ hi)) (fun i hi => hd i (List.mem_append_right _ hi))

theorem c17L {h : Hp} {L : Loc} {st : List Int} {on : List Bool} {kd ac wh : Int} {is : Bool} (t : TwoL h L st on) (h1 : st.length ≤ 20) (h2 : on.length ≤ 20) :
    C lifeE 17 [.pointer (some ⟨L.b, 0, none⟩), .pointer (some ⟨L.b', 0, none⟩), .agg #[.int .i64 kd, .int .i64 ac, .int .i64 wh, .bool is]] h
      fun v h' => v = .bool true ∧ ∃ st2 on2, TwoL h' L st2 on2 ∧ st2.length ≤ 20 ∧ on2.length ≤ 20 ∧ ExtB L.all h h' :=
  (c17 t (by omega) (by omega)).mono fun v h' ⟨e, st2, on2, t2, q1, q2, x⟩ => ⟨e, st2, on2, t2, by omega, by omega, x⟩

theorem ext_new {h hh h' : Hp} {bs : List Nat} (g : Ext h hh) (x : ExtB bs hh h') (hn : ∀ i, i ∈ bs → h.n ≤ i) : Ext h h' :=
  ⟨Nat.le_trans g.n x.n, fun i hi => (x.get i (Nat.lt_of_lt_of_le hi g.n) (fun hm => by have := hn i hm; omega)).trans (g.get i hi)⟩

theorem rV_inj {a b : List Int} (h : rV a = rV b) : a = b := by
  have := congrArg (List.map fun s => s + 1) h
  simpa [rV, List.map_map, Function.comp_def] using this

theorem TwoL.lt {h : Hp} {L : Loc} {st : List Int} {on : List Bool} (t : TwoL h L st on) : ∀ i, i ∈ L.all → i < h.n := fun i hi => by
  have q1 := t.l.lt
  have q2 := t.l.comps.lt
  have q3 := t.l.evs.lt
  have q4 := t.r.lt
  have q5 := t.r.comps.lt
  have q6 := t.r.evs.lt
  simp only [Loc.all, List.mem_append, List.mem_cons] at hi
  rcases hi with (rfl | hi | hi) | rfl | hi | hi <;> first | exact q1 | exact q2 _ hi | exact q3 _ hi | exact q4 | exact q5 _ hi | exact q6 _ hi

theorem two_copy {h0 h1 h2 : Hp} {b b' : Nat} {st : List Int} {on : List Bool} {sc so sc' so' : Value} {B1 B2 B1' B2' : List Nat} (hst : Sts st) (l : LivesR h1 b st on sc so B1 B2) (x2 : Ext h1 h2) (r : RefR h2 b' (rV st) on sc' so' B1' B2')
    (f1 : Fresh h0 b B1 B2) (f2 : Fresh h1 b' B1' B2') (hn : h0.n ≤ h1.n) : Two h2 b b' st on sc so sc' so' B1 B2 B1' B2' ∧ New h0.n b b' B1 B2 B1' B2' := by
  obtain ⟨p1, p2, p3⟩ := f1
  obtain ⟨q1, q2, q3⟩ := f2
  have e1 := l.lt
  have e2 := l.comps.lt
  have e3 := l.evs.lt
  refine ⟨⟨l.keep (x2.b []) (by simp) (by simp) (by simp), r, hst, fun i hi hj => ?_⟩, fun i hi => ?_, fun i hi => ?_⟩
  · simp only [List.mem_cons, List.mem_append] at hi hj
    have h3 : i < h1.n := by rcases hi with rfl | hi | hi <;> first | exact e1 | exact e2 _ hi | exact e3 _ hi
    have h4 : h1.n ≤ i := by rcases hj with rfl | hj | hj <;> first | exact q1 | exact q2 _ hj | exact q3 _ hj
    omega
  · simp only [List.mem_cons, List.mem_append] at hi
    rcases hi with rfl | hi | hi <;> first | exact p1 | exact p2 _ hi | exact p3 _ hi
  · simp only [List.mem_cons, List.mem_append] at hi
    rcases hi with rfl | hi | hi
    · omega
    · have := q2 i hi; omega
    · have := q3 i hi; omega

/-- LifeCopies -/
theorem c6 {h : Hp} {a a2 a3 : Option Addr} {n c n2 c2 n3 c3 : Nat} {on : List Bool} {k0 : Int} (hs : Src h (.slice a n c) (onV on)) (hA : ActsAt h a2 n2) (hA3 : ActsAt h a3 n3) :
    C lifeE 6 [.int .i64 k0, .slice a n c, .slice a2 n2 c2, .slice a3 n3 c3] h fun v _ => v = .bool true := by
  have en := hs.len'
  simp only [onV, List.length_map] at en
  subst en
  refine c_enter (fu := Try.f6) (by kernel_rfl) rfl ?_
  refine w_seq ?_
  refine w_region (by kernel_rfl) ?_
  refine o_assign gn rfl rfl ?_
  refine wl_end ?_
  refine w_seq ?_
  refine w_seq ?_
  refine w_region (by kernel_rfl) ?_
  refine o_move gn rfl rfl ?_
  refine o_gtr gn rfl rfl rfl ?_
  refine o_move gn rfl rfl ?_
  refine o_or (n := 3) rfl rfl rfl gn rfl (fun hb => by
      refine o_move (gy rfl rfl rfl hb) rfl rfl ?_
      refine o_len (gy rfl rfl rfl hb) rfl rfl (by kernel_rfl) ?_
      refine o_gtr (gy rfl rfl rfl hb) rfl rfl rfl ?_
      exact wl_end ⟨rfl, rfl, 3, rfl, rfl⟩) ?_
  refine o_move gn rfl rfl ?_
  refine o_or (n := 3) rfl rfl rfl gn rfl (fun hb => by
      refine o_move (gy rfl rfl rfl hb) rfl rfl ?_
      refine o_len (gy rfl rfl rfl hb) rfl rfl (by kernel_rfl) ?_
      refine o_gtr (gy rfl rfl rfl hb) rfl rfl rfl ?_
      exact wl_end ⟨rfl, rfl, 3, rfl, rfl⟩) ?_
  refine o_move gn rfl rfl ?_
  refine o_or (n := 3) rfl rfl rfl gn rfl (fun hb => by
      refine o_move (gy rfl rfl rfl hb) rfl rfl ?_
      refine o_len (gy rfl rfl rfl hb) rfl rfl (by kernel_rfl) ?_
      refine o_gtr (gy rfl rfl rfl hb) rfl rfl rfl ?_
      exact wl_end ⟨rfl, rfl, 3, rfl, rfl⟩) ?_
  refine wl_end ?_
  refine w_cond rfl (fun hb => ?_) fun hb => ?_
  · skip
    refine w_seq ?_
    refine w_region (by kernel_rfl) ?_
    refine o_orc (f := 11) (v := .bool true) gn rfl (by kernel_rfl) (by kernel_rfl) ag0 ?_
    refine o_assign gn rfl rfl ?_
    refine wl_end ?_
    refine w_ret ?_
    refine ⟨.inl rfl, _, rfl, ?_⟩
    rfl
  · skip
    have hb' : k0 ≤ 20 ∧ on.length ≤ 20 ∧ n2 ≤ 30 ∧ n3 ≤ 30 := by simp at hb; omega
    refine w_skip ?_
    refine w_seq ?_
    refine w_region (by kernel_rfl) ?_
    refine o_move gn rfl rfl ?_
    refine o_move gn rfl rfl ?_
    refine o_call [_, _] gn rfl rfl (by kernel_rfl) rfl (C.mono (c12 hs (by omega) (by omega)) ?_)
    rintro v1 hp2 ⟨b, sc, so, B1, B2, rfl, l1, x1, f1⟩
    refine ⟨ag0, ?_⟩
    refine o_move gn rfl rfl ?_
    refine o_move gn rfl rfl ?_
    refine o_call [_, _] gn rfl rfl (by kernel_rfl) rfl (C.mono (c15 (hs.ext x1) (by omega) (by omega)) ?_)
    rintro v2 hp3 ⟨b', sc', so', B1', B2', rfl, r2, x2, f2⟩
    obtain ⟨t0, nw⟩ := two_new l1 x2 r2 f1 f2 x1.n
    obtain ⟨L, hL⟩ : ∃ L : Loc, L = ⟨b, b', sc, so, sc', so', B1, B2, B1', B2'⟩ := ⟨_, rfl⟩
    have tL : TwoL hp3 L (List.replicate k0.toNat 0) on := by rw [hL]; exact t0
    have nL : ∀ i, i ∈ L.all → h.n ≤ i := by rw [hL]; exact fun i hi => (List.mem_append.1 hi).elim (nw.1 i) (nw.2 i)
    have eb : b = L.b := by rw [hL]
    have eb' : b' = L.b' := by rw [hL]
    rw [eb, eb']
    clear hL t0 nw
    refine ⟨ag0, ?_⟩
    refine o_assign gn rfl rfl ?_
    refine o_assign gn rfl rfl ?_
    refine wl_end ?_
    refine w_seq ?_
    refine w_seq ?_
    refine w_region (by kernel_rfl) ?_
    refine o_assign gn rfl rfl ?_
    refine wl_end ?_
    refine w_block ?_
    refine w_weak [(2, .slice a2 n2 c2), (3, .slice a3 n3 c3), (9, .pointer (some ⟨L.b, 0, none⟩)), (10, .pointer (some ⟨L.b', 0, none⟩)), (11, .int .i64 0)] (by repeat (first | exact trivial | refine ⟨rfl, ?_⟩)) ?_
    refine w_loop (fun k l hh => ∃ (i : Int) (st2 : List Int) (on2 : List Bool), 0 ≤ i ∧ i ≤ n2 ∧ k = (n2 - i).toNat ∧ st2.length ≤ 20 ∧ on2.length ≤ 20 ∧ TwoL hh L st2 on2 ∧ Ext h hh ∧
  l = [(2, .slice a2 n2 c2), (3, .slice a3 n3 c3), (9, .pointer (some ⟨L.b, 0, none⟩)), (10, .pointer (some ⟨L.b', 0, none⟩)), (11, .int .i64 i)]) (n := (n2 - (0 : Int)).toNat) ?_ fun k l hh hI => ?_
    · exact ⟨0, _, on, by omega, by omega, rfl, by simp; omega, by omega, tL, x1.trans x2, rfl⟩
    · obtain ⟨j, st2, on2, hj0, hj1, rfl, q1, q2, t2, g2, rfl⟩ := hI
      refine w_seq ?_
      refine w_seq ?_
      refine w_region (by kernel_rfl) ?_
      refine o_move gn rfl rfl ?_
      refine o_move gn rfl rfl ?_
      refine o_len gn rfl rfl (by kernel_rfl) ?_
      refine o_lss gn rfl rfl rfl ?_
      refine wl_end ?_
      refine w_cond rfl (fun hb => ?_) fun hb => ?_
      · skip
        refine w_skip ?_
        refine w_seq ?_
        have hlt : j < n2 := by simpa using hb
        rcases hA with h0 | ⟨bb, oo, cs, e, m, rfl, hg, hbl, hall⟩
        · omega
        obtain ⟨hfit, kd, ac, wh, is, hrow⟩ := hall j.toNat (by omega)
        have hg2 := (g2.get bb hbl).trans hg
        refine w_block ?_
        refine w_region (by kernel_rfl) ?_
        refine o_move gn rfl rfl ?_
        refine o_move gn rfl rfl ?_
        refine o_move gn rfl rfl ?_
        refine o_move gn rfl rfl ?_
        refine o_indexAddr (zz := 4) gn rfl rfl rfl (by kernel_rfl) (by omega) (by omega) ?_
        refine o_loadA (n := 4) gn rfl rfl (by kernel_rfl) (by kernel_rfl) hg2 hfit ?_
        rw [hrow]
        refine o_call [_, _, _] gn rfl rfl (by kernel_rfl) rfl (C.mono (c17L t2 (by omega) (by omega)) ?_)
        rintro v3 hp4 ⟨rfl, st3, on3, t3, e3, e4, x3⟩
        refine ⟨ag0, ?_⟩
        refine wl_end ?_
        refine w_region (by kernel_rfl) ?_
        refine o_move gn rfl rfl ?_
        refine o_add gn rfl rfl rfl (by omega) (by omega) ?_
        refine o_assign gn rfl rfl ?_
        refine wl_end ?_
        exact ⟨(n2 - (j + 1)).toNat, by omega, _, (by repeat (first | exact trivial | refine ⟨rfl, ?_⟩)), ⟨j + 1, st3, on3, by omega, by omega, rfl, by omega, by omega, t3, ext_new g2 x3 nL, rfl⟩⟩
      · skip
        refine w_exit ?_
        refine thn_exit ?_
        refine rnd_exit ?_
        refine blk_eq ?_
        refine w_seq ?_
        refine w_region (by kernel_rfl) ?_
        refine o_move gn rfl rfl ?_
        refine o_call [_] gn rfl rfl (by kernel_rfl) rfl (C.mono (c23 t2.l (by omega) (by omega)) ?_)
        rintro v3 hp4 ⟨c0, sd, sp, D1, D2, rfl, l4, x4, f4⟩
        refine ⟨ag0, ?_⟩
        refine o_move gn rfl rfl ?_
        refine o_call [_] gn rfl rfl (by kernel_rfl) rfl (C.mono (c24 ((Two.ext t2 x4).r) (by rw [rV_len]; omega) (by omega)) ?_)
        rintro v4 hp5 ⟨c0', sd', sp', D1', D2', rfl, r5, x5, f5⟩
        have nlt := TwoL.lt t2
        obtain ⟨tM, nM0⟩ := two_copy t2.s l4 x5 r5 f4 f5 x4.n
        obtain ⟨M, hM⟩ : ∃ M : Loc, M = ⟨c0, c0', sd, sp, sd', sp', D1, D2, D1', D2'⟩ := ⟨_, rfl⟩
        have tM : TwoL hp5 M st2 on2 := by rw [hM]; exact tM
        have dM : ∀ i, i ∈ M.all → hh.n ≤ i := by rw [hM]; exact fun i hi => (List.mem_append.1 hi).elim (nM0.1 i) (nM0.2 i)
        have ec : c0 = M.b := by rw [hM]
        have ec' : c0' = M.b' := by rw [hM]
        rw [ec, ec']
        clear hM nM0
        have tL5 : TwoL hp5 L st2 on2 := Two.ext (Two.ext t2 x4) x5
        have nM : ∀ i, i ∈ M.all → h.n ≤ i := fun i hi => Nat.le_trans g2.n (dM i hi)
        have dLM : ∀ i, i ∈ L.all → i ∉ M.all := fun i hi hj => by have := nlt i hi; have := dM i hj; omega
        refine ⟨ag0, ?_⟩
        refine o_assign gn rfl rfl ?_
        refine o_assign gn rfl rfl ?_
        refine wl_end ?_
        refine w_seq ?_
        refine w_seq ?_
        refine w_region (by kernel_rfl) ?_
        refine o_move gn rfl rfl ?_
        refine o_move gn rfl rfl ?_
        refine o_call [_, _] gn rfl rfl (by kernel_rfl) rfl (c_pure (c25 tL5.l tM.l (by omega) (by omega)) ⟨ag0, ?_⟩)
        refine o_not gn rfl rfl ?_
        refine o_move gn rfl rfl ?_
        refine o_or (n := 4) rfl rfl rfl gn rfl (fun hb => by
            refine o_move (gy rfl rfl rfl hb) rfl rfl ?_
            refine o_move (gy rfl rfl rfl hb) rfl rfl ?_
            refine o_call [_, _] (gy rfl rfl rfl hb) rfl rfl (by kernel_rfl) rfl (c_pure (c25 tM.l tL5.l (by omega) (by omega)) ⟨ag0, ?_⟩)
            refine o_not (gy rfl rfl rfl hb) rfl rfl ?_
            exact wl_end ⟨rfl, rfl, 4, rfl, rfl⟩) ?_
        refine wl_end ?_
        refine w_cond rfl (fun hb => ?_) fun hb => ?_
        · skip
          refine w_seq ?_
          refine w_region (by kernel_rfl) ?_
          refine o_assign gn rfl rfl ?_
          refine wl_end ?_
          refine w_ret ?_
          refine ⟨.inl rfl, _, rfl, ?_⟩
          simp at hb
        · skip
          refine w_skip ?_
          refine w_seq ?_
          refine w_seq ?_
          refine w_region (by kernel_rfl) ?_
          refine o_assign gn rfl rfl ?_
          refine wl_end ?_
          refine w_block ?_
          refine w_weak [(3, .slice a3 n3 c3), (9, .pointer (some ⟨L.b, 0, none⟩)), (10, .pointer (some ⟨L.b', 0, none⟩)), (12, .pointer (some ⟨M.b, 0, none⟩)), (13, .pointer (some ⟨M.b', 0, none⟩)), (14, .int .i64 0)] (by repeat (first | exact trivial | refine ⟨rfl, ?_⟩)) ?_
          refine w_loop (fun k l hh => ∃ (i : Int) (s1 : List Int) (o1 : List Bool) (s2 : List Int) (o2 : List Bool), 0 ≤ i ∧ i ≤ n3 ∧ k = (n3 - i).toNat ∧ (s1.length ≤ 20 ∧ o1.length ≤ 20 ∧ s2.length ≤ 20 ∧ o2.length ≤ 20) ∧ TwoL hh L s1 o1 ∧ TwoL hh M s2 o2 ∧ Ext h hh ∧
  l = [(3, .slice a3 n3 c3), (9, .pointer (some ⟨L.b, 0, none⟩)), (10, .pointer (some ⟨L.b', 0, none⟩)), (12, .pointer (some ⟨M.b, 0, none⟩)), (13, .pointer (some ⟨M.b', 0, none⟩)), (14, .int .i64 i)]) (n := (n3 - (0 : Int)).toNat) ?_ fun k l hh hI => ?_
          · exact ⟨0, _, _, _, _, by omega, by omega, rfl, ⟨q1, q2, q1, q2⟩, tL5, tM, (g2.trans x4).trans x5, rfl⟩
          · obtain ⟨i, s1, o1, s2, o2, hi0, hi1, rfl, ⟨m1, m2, m3, m4⟩, u1, u2, g3, rfl⟩ := hI
            refine w_seq ?_
            refine w_seq ?_
            refine w_region (by kernel_rfl) ?_
            refine o_move gn rfl rfl ?_
            refine o_move gn rfl rfl ?_
            refine o_len gn rfl rfl (by kernel_rfl) ?_
            refine o_lss gn rfl rfl rfl ?_
            refine wl_end ?_
            refine w_cond rfl (fun hb => ?_) fun hb => ?_
            · skip
              refine w_skip ?_
              refine w_seq ?_
              have hlt : i < n3 := by simpa using hb
              rcases hA3 with h0 | ⟨bb, oo, cs, e, m, rfl, hg, hbl, hall⟩
              · omega
              obtain ⟨hfit, kd, ac, wh, is, hrow⟩ := hall i.toNat (by omega)
              have hg2 := (g3.get bb hbl).trans hg
              refine w_block ?_
              refine w_seq ?_
              refine w_region (by kernel_rfl) ?_
              refine o_move gn rfl rfl ?_
              refine o_rem gn rfl rfl rfl (by omega) ?_
              refine o_eqi gn rfl rfl rfl ?_
              refine o_move gn rfl rfl ?_
              refine wl_split (dc := 76) rfl (fun hb76 => ?_) fun hb76 => ?_
              · skip
                refine o_move (gy rfl rfl rfl hb76) rfl rfl ?_
                refine o_move (gy rfl rfl rfl hb76) rfl rfl ?_
                refine o_move (gy rfl rfl rfl hb76) rfl rfl ?_
                refine o_move (gy rfl rfl rfl hb76) rfl rfl ?_
                refine o_indexAddr (zz := 4) (gy rfl rfl rfl hb76) rfl rfl rfl (by kernel_rfl) (by omega) (by omega) ?_
                refine o_loadA (n := 4) (gy rfl rfl rfl hb76) rfl rfl (by kernel_rfl) (by kernel_rfl) hg2 hfit ?_
                rw [hrow]
                have he : i.tmod 2 = 0 := by simpa using hb76
                refine o_call [_, _, _] (gy rfl rfl rfl hb76) rfl rfl (by kernel_rfl) rfl (C.mono (c17L u1 (by omega) (by omega)) ?_)
                rintro v5 hp6 ⟨rfl, s3, o3, u3, e3, e4, x6⟩
                refine ⟨ag0, ?_⟩
                refine o_not (gy rfl rfl rfl hb76) rfl rfl ?_
                refine o_pickt gn rfl rfl hb76 rfl ?_
                refine o_move gn rfl rfl ?_
                refine wl_split (dc := 86) rfl (fun hb86 => ?_) fun hb86 => ?_
                · skip
                  simp at hb86
                · skip
                  refine o_move (gy rfl rfl rfl hb86) rfl rfl ?_
                  refine o_rem (gy rfl rfl rfl hb86) rfl rfl rfl (by omega) ?_
                  refine o_eqi (gy rfl rfl rfl hb86) rfl rfl rfl ?_
                  refine o_move (gy rfl rfl rfl hb86) rfl rfl ?_
                  refine wl_split (dc := 90) rfl (fun hb90 => ?_) fun hb90 => ?_
                  · skip
                    simp [he] at hb90
                  · skip
                    refine wl_skips (n := 8) (dc := 90) (w := true) rfl hb90 rfl ?_
                    refine o_pickf (gy rfl rfl rfl hb86) rfl rfl hb90 rfl ?_
                    refine o_pickf gn rfl rfl hb86 rfl ?_
                    refine wl_end ?_
                    refine w_cond rfl (fun hb => ?_) fun hb => ?_
                    · skip
                      refine w_seq ?_
                      refine w_region (by kernel_rfl) ?_
                      refine o_assign gn rfl rfl ?_
                      refine wl_end ?_
                      refine w_ret ?_
                      refine ⟨.inl rfl, _, rfl, ?_⟩
                      simp at hb
                    · skip
                      refine w_skip ?_
                      refine w_region (by kernel_rfl) ?_
                      refine o_move gn rfl rfl ?_
                      refine o_add gn rfl rfl rfl (by omega) (by omega) ?_
                      refine o_assign gn rfl rfl ?_
                      refine wl_end ?_
                      exact ⟨(n3 - (i + 1)).toNat, by omega, _, (by repeat (first | exact trivial | refine ⟨rfl, ?_⟩)), ⟨i + 1, s3, o3, s2, o2, by omega, by omega, rfl, ⟨e3, e4, m3, m4⟩, u3, u2.keep x6 (fun j hj hk => dLM j hk hj), ext_new g3 x6 nL, rfl⟩⟩
              · skip
                have ho : i.tmod 2 = 1 := by
                  have hmod := Int.tmod_eq_emod_of_nonneg (b := 2) hi0
                  simp [hmod] at hb76
                  omega
                refine wl_skips (n := 8) (dc := 76) (w := true) rfl hb76 rfl ?_
                refine o_pickf gn rfl rfl hb76 rfl ?_
                refine o_move gn rfl rfl ?_
                refine wl_split (dc := 86) rfl (fun hb86 => ?_) fun hb86 => ?_
                · skip
                  cases hb86
                · skip
                  refine o_move (gy rfl rfl rfl hb86) rfl rfl ?_
                  refine o_rem (gy rfl rfl rfl hb86) rfl rfl rfl (by omega) ?_
                  refine o_eqi (gy rfl rfl rfl hb86) rfl rfl rfl ?_
                  refine o_move (gy rfl rfl rfl hb86) rfl rfl ?_
                  refine wl_split (dc := 90) rfl (fun hb90 => ?_) fun hb90 => ?_
                  · skip
                    refine o_move (gy rfl rfl rfl hb90) rfl rfl ?_
                    refine o_move (gy rfl rfl rfl hb90) rfl rfl ?_
                    refine o_move (gy rfl rfl rfl hb90) rfl rfl ?_
                    refine o_move (gy rfl rfl rfl hb90) rfl rfl ?_
                    refine o_indexAddr (zz := 4) (gy rfl rfl rfl hb90) rfl rfl rfl (by kernel_rfl) (by omega) (by omega) ?_
                    refine o_loadA (n := 4) (gy rfl rfl rfl hb90) rfl rfl (by kernel_rfl) (by kernel_rfl) hg2 hfit ?_
                    rw [hrow]
                    refine o_call [_, _, _] (gy rfl rfl rfl hb90) rfl rfl (by kernel_rfl) rfl (C.mono (c17L u2 (by omega) (by omega)) ?_)
                    rintro v5 hp6 ⟨rfl, s3, o3, u3, e3, e4, x6⟩
                    refine ⟨ag0, ?_⟩
                    refine o_not (gy rfl rfl rfl hb90) rfl rfl ?_
                    refine o_pickt (gy rfl rfl rfl hb86) rfl rfl hb90 rfl ?_
                    refine o_pickf gn rfl rfl hb86 rfl ?_
                    refine wl_end ?_
                    refine w_cond rfl (fun hb => ?_) fun hb => ?_
                    · skip
                      refine w_seq ?_
                      refine w_region (by kernel_rfl) ?_
                      refine o_assign gn rfl rfl ?_
                      refine wl_end ?_
                      refine w_ret ?_
                      refine ⟨.inl rfl, _, rfl, ?_⟩
                      simp at hb
                    · skip
                      refine w_skip ?_
                      refine w_region (by kernel_rfl) ?_
                      refine o_move gn rfl rfl ?_
                      refine o_add gn rfl rfl rfl (by omega) (by omega) ?_
                      refine o_assign gn rfl rfl ?_
                      refine wl_end ?_
                      exact ⟨(n3 - (i + 1)).toNat, by omega, _, (by repeat (first | exact trivial | refine ⟨rfl, ?_⟩)), ⟨i + 1, s1, o1, s3, o3, by omega, by omega, rfl, ⟨m1, m2, e3, e4⟩, u1.keep x6 (fun j hj hk => dLM j hj hk), u3, ext_new g3 x6 nM, rfl⟩⟩
                  · skip
                    simp [ho] at hb90
            · skip
              refine w_exit ?_
              refine thn_exit ?_
              refine rnd_exit ?_
              refine blk_eq ?_
              refine w_seq ?_
              refine w_region (by kernel_rfl) ?_
              refine o_move gn rfl rfl ?_
              refine o_move gn rfl rfl ?_
              refine o_call [_, _] gn rfl rfl (by kernel_rfl) rfl (c_pure (c26 u1.r u2.r (by rw [rV_len]; omega) (by omega)) ⟨ag0, ?_⟩)
              refine o_assign gn rfl rfl ?_
              refine wl_end ?_
              refine w_seq ?_
              refine w_region (by kernel_rfl) ?_
              refine o_move gn rfl rfl ?_
              refine o_move gn rfl rfl ?_
              refine o_call [_, _] gn rfl rfl (by kernel_rfl) rfl (c_pure (c16 u1 (by omega) (by omega)) ⟨ag0, ?_⟩)
              refine o_move gn rfl rfl ?_
              refine o_and (n := 3) rfl rfl rfl gn rfl (fun hb => by
                  refine o_move (gy rfl rfl rfl hb) rfl rfl ?_
                  refine o_move (gy rfl rfl rfl hb) rfl rfl ?_
                  refine o_call [_, _] (gy rfl rfl rfl hb) rfl rfl (by kernel_rfl) rfl (c_pure (c16 u2 (by omega) (by omega)) ⟨ag0, ?_⟩)
                  exact wl_end ⟨rfl, rfl, 3, rfl, rfl⟩) ?_
              refine o_move gn rfl rfl ?_
              refine o_and (n := 5) rfl rfl rfl gn rfl (fun hb => by
                  refine o_move (gy rfl rfl rfl hb) rfl rfl ?_
                  refine o_move (gy rfl rfl rfl hb) rfl rfl ?_
                  refine o_call [_, _] (gy rfl rfl rfl hb) rfl rfl (by kernel_rfl) rfl (c_pure (c25 u1.l u2.l (by omega) (by omega)) ⟨ag0, ?_⟩)
                  refine o_move (gy rfl rfl rfl hb) rfl rfl ?_
                  refine o_eqb (gy rfl rfl rfl hb) rfl rfl rfl (by kernel_rfl) ?_
                  exact wl_end ⟨rfl, rfl, 5, rfl, rfl⟩) ?_
              refine o_move gn rfl rfl ?_
              refine o_and (n := 5) rfl rfl rfl gn rfl (fun hb => by
                  refine o_move (gy rfl rfl rfl hb) rfl rfl ?_
                  refine o_move (gy rfl rfl rfl hb) rfl rfl ?_
                  refine o_call [_, _] (gy rfl rfl rfl hb) rfl rfl (by kernel_rfl) rfl (c_pure (c25 u2.l u1.l (by omega) (by omega)) ⟨ag0, ?_⟩)
                  refine o_move (gy rfl rfl rfl hb) rfl rfl ?_
                  refine o_eqb (gy rfl rfl rfl hb) rfl rfl rfl (by kernel_rfl) ?_
                  exact wl_end ⟨rfl, rfl, 5, rfl, rfl⟩) ?_
              refine o_move gn rfl rfl ?_
              refine o_and (n := 1) rfl rfl rfl gn rfl (fun hb => by
                  refine o_orc (f := 11) (v := .bool true) (gy rfl rfl rfl hb) rfl (by kernel_rfl) (by kernel_rfl) ag0 ?_
                  exact wl_end ⟨rfl, rfl, 1, rfl, rfl⟩) ?_
              refine o_assign gn rfl rfl ?_
              refine wl_end ?_
              refine w_ret ?_
              refine ⟨.inl rfl, _, rfl, ?_⟩
              have e1 : decide (rV s1 = rV s2) = decide (s1 = s2) := by
                rw [decide_eq_decide]
                exact ⟨rV_inj, fun e => by rw [e]⟩
              have e2 : decide (s2 = s1) = decide (s1 = s2) := by rw [decide_eq_decide]; exact eq_comm
              have e3 : decide (o2 = o1) = decide (o1 = o2) := by rw [decide_eq_decide]; exact eq_comm
              simp [oneOf, e1, e2, e3]

end Go.Proofs.Ytkmbfjdmbdpflaa

