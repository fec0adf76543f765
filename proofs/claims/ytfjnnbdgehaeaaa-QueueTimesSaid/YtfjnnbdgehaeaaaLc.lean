/- Chapter 7: QueueCopies answers true. Conditions: how the acts lie. Chapter 7: items and numbers as arguments. Conditions: none. -/
import Derived.Test.YtfjnnbdgehaeaaaLb
namespace Go.Proofs.Ytfjnnbdgehaeaaa
open Go.X

theorem Pairs.open {h hh : Hp} {b bo c co k m : Nat} (x : Pairs h hh b bo c co k m) : ∃ E H n L own oo E2 H2 p L2 own2 oo2, PairAt h.n hh b bo E H n L own oo k ∧ PairAt h.n hh c co E2 H2 p L2 own2 oo2 m ∧ (∀ i, i ∈ own ++ oo → i ∉ own2 ++ oo2) ∧ Ext h hh := x
theorem PairAt.ext {n0 : Nat} {hh h3 : Hp} {b bo : Nat} {E H : List Ent} {n : Int} {L : List Itm} {own oo : List Nat} {k : Nat} (p : PairAt n0 hh b bo E H n L own oo k) (g : Ext hh h3) :
    PairAt n0 h3 b bo E H n L own oo k := ⟨p.w, p.x.ext g, p.z.ext g, p.l, p.n1, p.n2, p.f1, p.f2, p.d⟩

/-- QueueCopies -/
theorem c6 {h : Hp} {a a1 a2 : Option Addr} {N c M c1 Q c2 : Nat} (hA : ActsQ h a N) (hA1 : ActsQ h a1 M) (hA2 : ActsQ h a2 Q) : C queE 6 [.slice a N c, .slice a1 M c1, .slice a2 Q c2] h fun v _ => v = .bool true := by
  refine c_enter (fu := Try.f6) (by kernel_rfl) rfl ?_
  refine w_seq ?_
  refine w_region (by kernel_rfl) ?_
  refine o_assign gn rfl rfl ?_
  refine wl_end ?_
  refine w_seq ?_
  refine w_seq ?_
  refine w_region (by kernel_rfl) ?_
  refine o_move gn rfl rfl ?_
  refine o_len gn rfl rfl (by kernel_rfl) ?_
  refine o_gtr gn rfl rfl rfl ?_
  refine o_move gn rfl rfl ?_
  refine o_or (n := 3) rfl rfl rfl gn rfl (fun hb => by
      refine o_move (gy rfl rfl rfl hb) rfl rfl ?_
      refine o_len (gy rfl rfl rfl hb) rfl rfl (by kernel_rfl) ?_
      refine o_gtr (gy rfl rfl rfl hb) rfl rfl rfl ?_
      exact wl_end ⟨rfl, rfl, 3, rfl, rfl⟩) ?_
  refine o_move gn rfl rfl ?_
  refine o_or (n := 3) rfl rfl rfl gn rfl (fun hb => by
      refine o_move (gy rfl rfl rfl hb) rfl rfl ?_
      refine o_len (gy rfl rfl rfl hb) rfl rfl (by kernel_rfl) ?_
      refine o_gtr (gy rfl rfl rfl hb) rfl rfl rfl ?_
      exact wl_end ⟨rfl, rfl, 3, rfl, rfl⟩) ?_
  refine wl_end ?_
  refine w_cond rfl (fun hb => ?_) fun hb => ?_
  · skip
    refine w_seq ?_
    refine w_region (by kernel_rfl) ?_
    refine o_orc (f := 8) (v := .bool true) gn rfl (by kernel_rfl) (by kernel_rfl) ag0 ?_
    refine o_assign gn rfl rfl ?_
    refine wl_end ?_
    refine w_ret ?_
    refine ⟨.inl rfl, _, rfl, ?_⟩
    rfl
  · skip
    have hN : N ≤ 40 ∧ M ≤ 20 ∧ Q ≤ 20 := by simp at hb; omega
    refine w_skip ?_
    refine w_seq ?_
    refine w_region (by kernel_rfl) ?_
    refine o_call [] gn rfl rfl (by kernel_rfl) rfl (C.mono c9 ?_)
    rintro v h1 ⟨rfl, xA, x1, n1⟩
    refine ⟨ag0, ?_⟩
    refine o_build (zv := .agg #[.slice none 0 0]) (pl := [(0, 1)]) [] gn rfl (by kernel_rfl) (by kernel_rfl) rfl rfl ?_
    refine o_box gn rfl rfl ?_
    refine wl_at (fun h2 => QA h2 h.n [] 0 [h.n] ∧ DA h2 h1.n [] [h1.n] ∧ Ext h h2) ⟨xA.ext (Ext.alloc _ _), ⟨_, [], Hp.get_alloc_self _ _, .inl ⟨rfl, rfl, rfl, rfl⟩, by rw [Hp.n_alloc]; omega, by simp, rfl⟩, x1.trans (Ext.alloc _ _)⟩ fun h2 ⟨xB, zB, x2⟩ => ?_
    refine o_assign gn rfl rfl ?_
    refine o_assign gn rfl rfl ?_
    refine wl_end ?_
    refine w_seq ?_
    refine w_seq ?_
    refine w_region (by kernel_rfl) ?_
    refine o_assign gn rfl rfl ?_
    refine wl_end ?_
    refine w_block ?_
    refine w_weak [(0, .slice a N c), (1, .slice a1 M c1), (2, .slice a2 Q c2), (7, ptrV h.n), (8, ptrV h1.n), (9, iV (0 : Nat))] (by repeat (first | exact trivial | refine ⟨rfl, ?_⟩)) ?_
    refine w_loop (fun k l hh => ∃ i : Nat, i ≤ N ∧ k = N - i ∧ Both h hh h.n h1.n i ∧ l = [(0, .slice a N c), (1, .slice a1 M c1), (2, .slice a2 Q c2), (7, ptrV h.n), (8, ptrV h1.n), (9, iV (i : Nat))]) (n := N) ?_ fun k l hh hI => ?_
    · exact ⟨0, by omega, by omega, ⟨[], [], 0, [], [h.n], [h1.n], ⟨rfl, .refl _, .nil, by simp, by simp, fun k h1 h2 => by simp at h2⟩, xB, zB, by simp, by omega, by omega, by simp, by simp; omega, by simp; omega, x2⟩, rfl⟩
    · obtain ⟨i, hi, rfl, ⟨E, H, n, L, own, oo, w, x, z, hl, hn, hn2, f1, f2, hd, g⟩, rfl⟩ := hI
      refine w_seq ?_
      refine w_seq ?_
      refine w_region (by kernel_rfl) ?_
      refine o_move gn rfl rfl ?_
      refine o_move gn rfl rfl ?_
      refine o_len gn rfl rfl (by kernel_rfl) ?_
      refine o_lss gn rfl rfl rfl ?_
      refine wl_end ?_
      refine w_cond rfl (fun hb => ?_) fun hb => ?_
      · skip
        have hlt : i < N := by simpa using hb
        obtain ⟨bb, o0, cs, e0, m0, rfl, hg, hbb, hr⟩ := (hA.ext g).resolve_left (by omega)
        obtain ⟨hle, kd, y, ii, hrow, hm1, hm2⟩ := hr i hlt
        refine w_skip ?_
        refine w_seq ?_
        refine w_block ?_
        refine w_region (by kernel_rfl) ?_
        refine o_move gn rfl rfl ?_
        refine o_move gn rfl rfl ?_
        refine o_move gn rfl rfl ?_
        refine o_move gn rfl rfl ?_
        refine o_indexAddr (zz := 5) gn rfl rfl rfl (by kernel_rfl) (by omega) (by omega) ?_
        rw [Int.toNat_natCast]
        refine o_loadA (n := 5) gn rfl rfl (by kernel_rfl) (by kernel_rfl) hg hle ?_
        rw [hrow]
        refine o_call [_, _, _] gn rfl rfl (by kernel_rfl) rfl (C.mono (c16 (y := y) x z w hd (by omega) (by omega) ⟨hm1, hm2⟩) ?_)
        rintro v h3 ⟨rfl, dA⟩
        have b3 := Both.act hl hn hn2 f1 f2 g dA
        refine ⟨ag0, ?_⟩
        refine wl_end ?_
        refine w_region (by kernel_rfl) ?_
        refine o_move gn rfl rfl ?_
        refine o_add gn rfl rfl rfl (by omega) (by omega) ?_
        refine o_assign gn rfl rfl ?_
        refine wl_end ?_
        exact ⟨N - (i + 1), by omega, _, (by repeat (first | exact trivial | refine ⟨rfl, ?_⟩)), ⟨i + 1, by omega, rfl, b3, rfl⟩⟩
      · skip
        refine w_exit ?_
        refine thn_exit ?_
        refine rnd_exit ?_
        refine blk_eq ?_
        refine w_seq ?_
        refine w_region (by kernel_rfl) ?_
        refine o_move gn rfl rfl ?_
        refine o_call [_] gn rfl rfl (by kernel_rfl) rfl (C.mono (c18 x (by rw [w.lenH]; omega)) ?_)
        rintro v h3 ⟨bc, ownc, rfl, xc, fc, x3⟩
        refine ⟨ag0, ?_⟩
        refine o_move gn rfl rfl ?_
        refine o_call [_] gn rfl rfl (by kernel_rfl) rfl (C.mono (c19 (z.ext x3) (by omega)) ?_)
        rintro v h4 ⟨boc, ooc, rfl, zc, foc, x4⟩
        have hgn := g.n
        have n3 := x3.n
        have hp : Pairs h h4 h.n h1.n bc boc 40 40 := ⟨E, H, n, L, own, oo, E, H, n, L, ownc, ooc, ⟨w, x.ext (x3.trans x4), z.ext (x3.trans x4), by omega, hn, by omega, f1, f2, hd⟩, ⟨w, xc.ext x4, zc, by omega, hn, by omega, fun i hi => by have := fc i hi; omega, fun i hi => by have := foc i hi; omega, fun i hi hj => by have := foc i hj; have := xc.lt i hi; omega⟩, fun i hi hj => by
          have h1 : i < hh.n := by
            rcases List.mem_append.1 hi with q | q
            · exact x.lt i q
            · exact z.lt i q
          rcases List.mem_append.1 hj with q | q
          · have := fc i q; omega
          · have := foc i q; omega, (g.trans x3).trans x4⟩
        refine ⟨ag0, ?_⟩
        refine o_assign gn rfl rfl ?_
        refine o_assign gn rfl rfl ?_
        refine wl_end ?_
        refine w_seq ?_
        refine w_seq ?_
        refine w_region (by kernel_rfl) ?_
        refine o_move gn rfl rfl ?_
        refine o_move gn rfl rfl ?_
        refine o_call [_, _] gn rfl rfl (by kernel_rfl) rfl (C.mono (c20 (x.ext (x3.trans x4)) (xc.ext x4) w.qH w.qH (by rw [w.lenH]; omega) (by rw [w.lenH]; omega)) ?_)
        rintro v h5 ⟨rfl, x5⟩
        have p5 : Pairs h h5 h.n h1.n bc boc 40 40 := by
          obtain ⟨E, H, n, L, own, oo, E2, H2, p, L2, own2, oo2, p1, p2, d, g⟩ := hp
          exact ⟨E, H, n, L, own, oo, E2, H2, p, L2, own2, oo2, p1.ext x5, p2.ext x5, d, g.trans x5⟩
        clear hp
        refine ⟨ag0, ?_⟩
        refine o_not gn rfl rfl ?_
        refine o_move gn rfl rfl ?_
        refine wl_split (dc := 53) rfl (fun hb53 => ?_) fun hb53 => ?_
        · skip
          simp at hb53
        · skip
          refine o_move (gy rfl rfl rfl hb53) rfl rfl ?_
          refine o_move (gy rfl rfl rfl hb53) rfl rfl ?_
          refine o_call [_, _] (gy rfl rfl rfl hb53) rfl rfl (by kernel_rfl) rfl (C.mono (c20 ((xc.ext x4).ext x5) ((x.ext (x3.trans x4)).ext x5) w.qH w.qH (by rw [w.lenH]; omega) (by rw [w.lenH]; omega)) ?_)
          rintro v h6 ⟨rfl, x6⟩
          have p6 : Pairs h h6 h.n h1.n bc boc 40 40 := by
            obtain ⟨E, H, n, L, own, oo, E2, H2, p, L2, own2, oo2, p1, p2, d, g⟩ := p5
            exact ⟨E, H, n, L, own, oo, E2, H2, p, L2, own2, oo2, p1.ext x6, p2.ext x6, d, g.trans x6⟩
          clear p5
          refine ⟨ag0, ?_⟩
          refine o_not (gy rfl rfl rfl hb53) rfl rfl ?_
          refine o_pickf gn rfl rfl hb53 rfl ?_
          refine wl_end ?_
          refine w_cond rfl (fun hb => ?_) fun hb => ?_
          · skip
            refine w_seq ?_
            refine w_region (by kernel_rfl) ?_
            refine o_assign gn rfl rfl ?_
            refine wl_end ?_
            refine w_ret ?_
            refine ⟨.inl rfl, _, rfl, ?_⟩
            simp at hb
          · skip
            refine w_skip ?_
            refine w_seq ?_
            refine w_seq ?_
            refine w_region (by kernel_rfl) ?_
            refine o_assign gn rfl rfl ?_
            refine wl_end ?_
            refine w_block ?_
            refine w_weak [(0, .slice a N c), (1, .slice a1 M c1), (2, .slice a2 Q c2), (7, ptrV h.n), (8, ptrV h1.n), (10, ptrV bc), (11, ptrV boc), (12, iV (0 : Nat))] (by repeat (first | exact trivial | refine ⟨rfl, ?_⟩)) ?_
            refine w_loop (fun k l hh => ∃ i : Nat, i ≤ M ∧ k = M - i ∧ Pairs h hh h.n h1.n bc boc (40 + i) 40 ∧ l = [(0, .slice a N c), (1, .slice a1 M c1), (2, .slice a2 Q c2), (7, ptrV h.n), (8, ptrV h1.n), (10, ptrV bc), (11, ptrV boc), (12, iV (i : Nat))]) (n := M) ?_ fun k l hh hI => ?_
            · exact ⟨0, by omega, by omega, p6, rfl⟩
            · obtain ⟨i, hi, rfl, ⟨E, H, n, L, own, oo, E2, H2, p, L2, own2, oo2, p1, p2, d, g⟩, rfl⟩ := hI
              refine w_seq ?_
              refine w_seq ?_
              refine w_region (by kernel_rfl) ?_
              refine o_move gn rfl rfl ?_
              refine o_move gn rfl rfl ?_
              refine o_len gn rfl rfl (by kernel_rfl) ?_
              refine o_lss gn rfl rfl rfl ?_
              refine wl_end ?_
              refine w_cond rfl (fun hb => ?_) fun hb => ?_
              · skip
                have hlt : i < M := by simpa using hb
                obtain ⟨bb, o0, cs, e0, m0, rfl, hg, hbb, hr⟩ := (hA1.ext g).resolve_left (by omega)
                obtain ⟨hle, kd, y, ii, hrow, hm1, hm2⟩ := hr i hlt
                have hL := p1.l
                have hn1 := p1.n2
                refine w_skip ?_
                refine w_seq ?_
                refine w_block ?_
                refine w_seq ?_
                refine w_region (by kernel_rfl) ?_
                refine o_move gn rfl rfl ?_
                refine o_move gn rfl rfl ?_
                refine o_move gn rfl rfl ?_
                refine o_move gn rfl rfl ?_
                refine o_indexAddr (zz := 5) gn rfl rfl rfl (by kernel_rfl) (by omega) (by omega) ?_
                rw [Int.toNat_natCast]
                refine o_loadA (n := 5) gn rfl rfl (by kernel_rfl) (by kernel_rfl) hg hle ?_
                rw [hrow]
                refine o_call [_, _, _] gn rfl rfl (by kernel_rfl) rfl (C.mono (c16 (y := y) p1.x p1.z p1.w p1.d (by omega) ⟨p1.n1, by omega⟩ ⟨hm1, hm2⟩) ?_)
                rintro v h3 ⟨rfl, dA⟩
                have q3 := Pairs.act p1 p2 d g dA
                refine ⟨ag0, ?_⟩
                refine o_not gn rfl rfl ?_
                refine wl_end ?_
                refine w_cond rfl (fun hb => ?_) fun hb => ?_
                · skip
                  refine w_seq ?_
                  refine w_region (by kernel_rfl) ?_
                  refine o_assign gn rfl rfl ?_
                  refine wl_end ?_
                  refine w_ret ?_
                  refine ⟨.inl rfl, _, rfl, ?_⟩
                  simp at hb
                · skip
                  refine w_skip ?_
                  refine w_region (by kernel_rfl) ?_
                  refine o_move gn rfl rfl ?_
                  refine o_add gn rfl rfl rfl (by omega) (by omega) ?_
                  refine o_assign gn rfl rfl ?_
                  refine wl_end ?_
                  exact ⟨M - (i + 1), by omega, _, (by repeat (first | exact trivial | refine ⟨rfl, ?_⟩)), ⟨i + 1, by omega, rfl, q3, rfl⟩⟩
              · skip
                refine w_exit ?_
                refine thn_exit ?_
                refine rnd_exit ?_
                refine blk_eq ?_
                refine w_seq ?_
                refine w_seq ?_
                refine w_region (by kernel_rfl) ?_
                refine o_assign gn rfl rfl ?_
                refine wl_end ?_
                refine w_block ?_
                refine w_weak [(0, .slice a N c), (1, .slice a1 M c1), (2, .slice a2 Q c2), (7, ptrV h.n), (8, ptrV h1.n), (10, ptrV bc), (11, ptrV boc), (13, iV (0 : Nat))] (by repeat (first | exact trivial | refine ⟨rfl, ?_⟩)) ?_
                refine w_loop (fun k l hh => ∃ i : Nat, i ≤ Q ∧ k = Q - i ∧ Pairs h hh bc boc h.n h1.n (40 + i) 60 ∧ l = [(0, .slice a N c), (1, .slice a1 M c1), (2, .slice a2 Q c2), (7, ptrV h.n), (8, ptrV h1.n), (10, ptrV bc), (11, ptrV boc), (13, iV (i : Nat))]) (n := Q) ?_ fun k l hh hI => ?_
                · exact ⟨0, by omega, by omega, ⟨E2, H2, p, L2, own2, oo2, E, H, n, L, own, oo, p2, ⟨p1.w, p1.x, p1.z, by have := p1.l; omega, p1.n1, by have := p1.n2; omega, p1.f1, p1.f2, p1.d⟩, fun i hi hj => d i hj hi, g⟩, rfl⟩
                · obtain ⟨i, hi, rfl, ⟨E, H, n, L, own, oo, E2, H2, p, L2, own2, oo2, p1, p2, d, g⟩, rfl⟩ := hI
                  refine w_seq ?_
                  refine w_seq ?_
                  refine w_region (by kernel_rfl) ?_
                  refine o_move gn rfl rfl ?_
                  refine o_move gn rfl rfl ?_
                  refine o_len gn rfl rfl (by kernel_rfl) ?_
                  refine o_lss gn rfl rfl rfl ?_
                  refine wl_end ?_
                  refine w_cond rfl (fun hb => ?_) fun hb => ?_
                  · skip
                    have hlt : i < Q := by simpa using hb
                    obtain ⟨bb, o0, cs, e0, m0, rfl, hg, hbb, hr⟩ := (hA2.ext g).resolve_left (by omega)
                    obtain ⟨hle, kd, y, ii, hrow, hm1, hm2⟩ := hr i hlt
                    have hL := p1.l
                    have hn1 := p1.n2
                    refine w_skip ?_
                    refine w_seq ?_
                    refine w_block ?_
                    refine w_seq ?_
                    refine w_region (by kernel_rfl) ?_
                    refine o_move gn rfl rfl ?_
                    refine o_move gn rfl rfl ?_
                    refine o_move gn rfl rfl ?_
                    refine o_move gn rfl rfl ?_
                    refine o_indexAddr (zz := 5) gn rfl rfl rfl (by kernel_rfl) (by omega) (by omega) ?_
                    rw [Int.toNat_natCast]
                    refine o_loadA (n := 5) gn rfl rfl (by kernel_rfl) (by kernel_rfl) hg hle ?_
                    rw [hrow]
                    refine o_call [_, _, _] gn rfl rfl (by kernel_rfl) rfl (C.mono (c16 (y := y) p1.x p1.z p1.w p1.d (by omega) ⟨p1.n1, by omega⟩ ⟨hm1, hm2⟩) ?_)
                    rintro v h3 ⟨rfl, dA⟩
                    have q3 := Pairs.act p1 p2 d g dA
                    refine ⟨ag0, ?_⟩
                    refine o_not gn rfl rfl ?_
                    refine wl_end ?_
                    refine w_cond rfl (fun hb => ?_) fun hb => ?_
                    · skip
                      refine w_seq ?_
                      refine w_region (by kernel_rfl) ?_
                      refine o_assign gn rfl rfl ?_
                      refine wl_end ?_
                      refine w_ret ?_
                      refine ⟨.inl rfl, _, rfl, ?_⟩
                      simp at hb
                    · skip
                      refine w_skip ?_
                      refine w_region (by kernel_rfl) ?_
                      refine o_move gn rfl rfl ?_
                      refine o_add gn rfl rfl rfl (by omega) (by omega) ?_
                      refine o_assign gn rfl rfl ?_
                      refine wl_end ?_
                      exact ⟨Q - (i + 1), by omega, _, (by repeat (first | exact trivial | refine ⟨rfl, ?_⟩)), ⟨i + 1, by omega, rfl, q3, rfl⟩⟩
                  · skip
                    refine w_exit ?_
                    refine thn_exit ?_
                    refine rnd_exit ?_
                    refine blk_eq ?_
                    refine w_seq ?_
                    refine w_region (by kernel_rfl) ?_
                    refine o_move gn rfl rfl ?_
                    refine o_call [_] gn rfl rfl (by kernel_rfl) rfl (C.mono (c22 p2.z (by have := p2.l; omega)) ?_)
                    rintro va h3 ⟨Ba, sa, fa, x3⟩
                    have hL1 := p1.l
                    have hL2 := p2.l
                    have p1 := p1.ext x3
                    have p2 := p2.ext x3
                    refine ⟨ag0, ?_⟩
                    refine o_move gn rfl rfl ?_
                    refine o_call [_] gn rfl rfl (by kernel_rfl) rfl (C.mono (c22 p1.z (by omega)) ?_)
                    rintro vb h4 ⟨Bb, sb, fb, x4⟩
                    have p1 := p1.ext x4
                    have p2 := p2.ext x4
                    have la1 : (allD L2).length ≤ L2.length := allN_len _ _
                    have la2 : (allD L).length ≤ L.length := allN_len _ _
                    refine ⟨ag0, ?_⟩
                    refine o_call [_, _] gn rfl rfl (by kernel_rfl) rfl (c_pure (c21 (sa.toC.ext x4) sb.toC (by omega)) ⟨ag0, ?_⟩)
                    refine o_assign gn rfl rfl ?_
                    refine wl_end ?_
                    refine w_seq ?_
                    refine w_region (by kernel_rfl) ?_
                    refine o_move gn rfl rfl ?_
                    refine o_move gn rfl rfl ?_
                    refine o_call [_, _] gn rfl rfl (by kernel_rfl) rfl (C.mono (c17 p2.x p2.z p2.w (by omega)) ?_)
                    rintro v h5 ⟨rfl, x5⟩
                    have p1 := p1.ext x5
                    have p2 := p2.ext x5
                    refine ⟨ag0, ?_⟩
                    refine o_move gn rfl rfl ?_
                    refine wl_split (dc := 95) rfl (fun hb95 => ?_) fun hb95 => ?_
                    · skip
                      refine o_move (gy rfl rfl rfl hb95) rfl rfl ?_
                      refine o_move (gy rfl rfl rfl hb95) rfl rfl ?_
                      refine o_call [_, _] (gy rfl rfl rfl hb95) rfl rfl (by kernel_rfl) rfl (C.mono (c17 p1.x p1.z p1.w (by omega)) ?_)
                      rintro v h6 ⟨rfl, x6⟩
                      have p1 := p1.ext x6
                      have p2 := p2.ext x6
                      refine ⟨ag0, ?_⟩
                      refine o_pickt gn rfl rfl hb95 rfl ?_
                      refine o_move gn rfl rfl ?_
                      refine wl_split (dc := 100) rfl (fun hb100 => ?_) fun hb100 => ?_
                      · skip
                        refine o_move (gy rfl rfl rfl hb100) rfl rfl ?_
                        refine o_move (gy rfl rfl rfl hb100) rfl rfl ?_
                        refine o_call [_, _] (gy rfl rfl rfl hb100) rfl rfl (by kernel_rfl) rfl (C.mono (c20 p2.x p1.x p2.w.qH p1.w.qH (by rw [p2.w.lenH]; omega) (by rw [p1.w.lenH]; omega)) ?_)
                        rintro v h7 ⟨rfl, x7⟩
                        rw [p1.w.all, p2.w.all]
                        have p1 := p1.ext x7
                        have p2 := p2.ext x7
                        refine ⟨ag0, ?_⟩
                        refine o_move (gy rfl rfl rfl hb100) rfl rfl ?_
                        refine o_eqb (gy rfl rfl rfl hb100) rfl rfl rfl (by kernel_rfl) ?_
                        refine o_pickt gn rfl rfl hb100 rfl ?_
                        refine o_move gn rfl rfl ?_
                        refine wl_split (dc := 107) rfl (fun hb107 => ?_) fun hb107 => ?_
                        · skip
                          refine o_move (gy rfl rfl rfl hb107) rfl rfl ?_
                          refine o_move (gy rfl rfl rfl hb107) rfl rfl ?_
                          refine o_call [_, _] (gy rfl rfl rfl hb107) rfl rfl (by kernel_rfl) rfl (C.mono (c20 p1.x p2.x p1.w.qH p2.w.qH (by rw [p1.w.lenH]; omega) (by rw [p2.w.lenH]; omega)) ?_)
                          rintro v h8 ⟨rfl, x8⟩
                          rw [p1.w.all, p2.w.all]
                          refine ⟨ag0, ?_⟩
                          refine o_move (gy rfl rfl rfl hb107) rfl rfl ?_
                          refine o_eqb (gy rfl rfl rfl hb107) rfl rfl rfl (by kernel_rfl) ?_
                          refine o_pickt gn rfl rfl hb107 rfl ?_
                          refine o_move gn rfl rfl ?_
                          refine o_and (n := 1) rfl rfl rfl gn rfl (fun hb => by
                              refine o_orc (f := 8) (v := .bool true) (gy rfl rfl rfl hb) rfl (by kernel_rfl) (by kernel_rfl) ag0 ?_
                              exact wl_end ⟨rfl, rfl, 1, rfl, rfl⟩) ?_
                          refine o_assign gn rfl rfl ?_
                          refine wl_end ?_
                          refine w_ret ?_
                          refine ⟨.inl rfl, _, rfl, ?_⟩
                          skip
                          have e : (decide (allD L = allD L2)) = decide (allD L2 = allD L) := by rw [decide_eq_decide]; exact eq_comm
                          simp [oneOf, e]
                        · skip
                          simp at hb107
                      · skip
                        simp at hb100
                    · skip
                      simp at hb95

end Go.Proofs.Ytfjnnbdgehaeaaa


namespace Go.Proofs.Ytfjnnbdgehaeaaa
open Go.ChangeShapes Go.WideShapes Go.ChangeAt Go.RowKit Go.Deep Go.X

set_option maxRecDepth 100000

theorem items_slice : Try.prog.underlying 22 = some (.slice 30) := by kernel_rfl
theorem ints_slice : Try.prog.underlying 23 = some (.slice 3) := by kernel_rfl
theorem times_slice : Try.prog.underlying 38 = some (.slice 2) := by kernel_rfl

theorem it_rd2 {h : Hp} {cs : List Value} (x : Rd Try.prog h 30 cs) : ∃ y : Itm, cs = [iV y.t, .bool y.f, iV y.d] ∧ y.d ≤ 9223372036854775807 := by
  have hl := (x.inv_struct it_struct).1
  rw [it_cells] at hl
  obtain ⟨n0, e0, _⟩ := x.fld_int it_struct 0 0 3 rfl ⟨rfl, rfl⟩ que_int que_c3
  obtain ⟨n1, e1⟩ := x.fld_bool it_struct 1 1 4 rfl ⟨rfl, rfl⟩ que_bool que_c4
  obtain ⟨n2, e2, _, m2⟩ := x.fld_int it_struct 2 2 2 rfl ⟨rfl, rfl⟩ que_int2 que_c2
  match cs, hl with
  | [a0, a1, a2], _ =>
    simp only [List.getElem?_cons_zero, List.getElem?_cons_succ, Option.some.injEq] at e0 e1 e2
    exact ⟨⟨n0, n1, n2⟩, by rw [e0, e1, e2], m2⟩

theorem items_in {h : Hp} {v : Value} (x : Rd Try.prog h 22 [v]) : ∃ a n c, v = .slice a n c ∧ ItsQ h a n := by
  obtain ⟨a, n, c, e, _, _, _, _, hrow⟩ := x.inv_slice items_slice (by rw [it_cells]; omega)
  simp only [List.cons.injEq, and_true] at e
  subst e
  rcases hrow with rfl | ⟨b, o, xs, u, rfl, hb, hg, hl, hr⟩
  · exact ⟨a, 0, c, rfl, .inl rfl⟩
  · rw [it_cells] at hl hr
    refine ⟨_, n, c, rfl, .inr ⟨b, o, xs, u, 1, rfl, hg, hb, fun i hi => ?_⟩⟩
    obtain ⟨y, ha, hm⟩ := it_rd2 (hr i hi)
    have hlen := congrArg List.length ha
    simp only [List.length_take, List.length_drop, List.length_cons, List.length_nil] at hlen
    exact ⟨by omega, y, ha, hm⟩

theorem ints_in {t e : TypeId} {h : Hp} {v : Value} (ht : Try.prog.underlying t = some (.slice e)) (he : Try.prog.underlying e = some (.int .i64)) (hc : Try.prog.cellsOf e = 1) (x : Rd Try.prog h t [v]) : ∃ a n c T, v = .slice a n c ∧ IntsQ h a n T := by
  obtain ⟨a, n, c, e, _, _, _, _, hrow⟩ := x.inv_slice ht (by rw [hc]; omega)
  simp only [List.cons.injEq, and_true] at e
  subst e
  rcases hrow with rfl | ⟨b, o, xs, u, rfl, hb, hg, hl, hr⟩
  · exact ⟨a, 0, c, [], rfl, rfl, .inl rfl⟩
  · rw [hc] at hl hr
    obtain ⟨T, hTl, hT⟩ := rows_of (n := n) (Q := fun i (z : Int) => xs[o + i]? = some (iV z)) fun i hi => by
      have h1 := hr i hi
      rw [Nat.mul_one] at h1
      obtain ⟨z, e, _⟩ := h1.inv_int he
      exact ⟨z, one_at e⟩
    refine ⟨_, n, c, T, rfl, hTl, .inr ⟨b, o, xs, u, 1, rfl, hg, hb, fun i hi => ?_⟩⟩
    have e1 : T[i]! = T[i] := by simp [hTl, hi]
    rw [e1]; exact hT i (by omega)

section
variable {H : Type} {enc : TypeId × Value → H} {W : World} {r : Reach} {base : Nat} {v : Value} {d : DataW H} {ps : List MemPlace}
theorem items_at (hok : Value.okWide Try.prog W r base 22 v) (h : DataW.Trod enc Try.prog W 0 (fun _ => true) true 22 v d ps) :
    ∃ a n c, v = .slice a n c ∧ VRel (Mp.all W) v v ∧ ItsQ (Hp.all W) a n := by
  obtain ⟨hv, _, _, _, _, x⟩ := arg_rd_slice items_slice hok h
  obtain ⟨a, n, c, rfl, hA⟩ := items_in x
  exact ⟨a, n, c, rfl, hv, hA⟩
theorem ints_at {t e : TypeId} (ht : Try.prog.underlying t = some (.slice e)) (he : Try.prog.underlying e = some (.int .i64)) (hc : Try.prog.cellsOf e = 1) (hok : Value.okWide Try.prog W r base t v) (h : DataW.Trod enc Try.prog W 0 (fun _ => true) true t v d ps) :
    ∃ a n c T, v = .slice a n c ∧ VRel (Mp.all W) v v ∧ IntsQ (Hp.all W) a n T := by
  obtain ⟨hv, _, _, _, _, x⟩ := arg_rd_slice ht hok h
  obtain ⟨a, n, c, T, rfl, hA⟩ := ints_in ht he hc x
  exact ⟨a, n, c, T, rfl, hv, hA⟩
end

end Go.Proofs.Ytfjnnbdgehaeaaa
