/- Chapter 9: the program's lives and the document's, side by side; an act by both. Conditions: none. -/
import Derived.Test.YtkmbfjdmbdpflaaLifeS
import Derived.Test.YtkmbfjdmbdpflaaXAll
namespace Go.Proofs.Ytkmbfjdmbdpflaa
open Go.X

/-- The program's lives and the document's, alike and apart. -/
structure Two (h : Hp) (b b' : Nat) (st : List Int) (on : List Bool) (sc so sc' so' : Value) (B1 B2 B1' B2' : List Nat) : Prop where
  l : LivesR h b st on sc so B1 B2
  r : RefR h b' (rV st) on sc' so' B1' B2'
  s : Sts st
  d : ∀ i, i ∈ b :: (B1 ++ B2) → i ∉ b' :: (B1' ++ B2')

section
variable {h h' : Hp} {b b' : Nat} {st : List Int} {on : List Bool} {sc so sc' so' : Value} {B1 B2 B1' B2' : List Nat}

theorem Two.ext (t : Two h b b' st on sc so sc' so' B1 B2 B1' B2') (g : Ext h h') : Two h' b b' st on sc so sc' so' B1 B2 B1' B2' :=
  ⟨t.l.keep (g.b []) (by simp) (by simp) (by simp), t.r.keep (g.b []) (by simp) (by simp) (by simp), t.s, t.d⟩

/-- All of their blocks are newer than some. -/
def New (n : Nat) (b b' : Nat) (B1 B2 B1' B2' : List Nat) : Prop := (∀ i, i ∈ b :: (B1 ++ B2) → n ≤ i) ∧ (∀ i, i ∈ b' :: (B1' ++ B2') → n ≤ i)

/-- same -/
theorem c16 (t : Two h b b' st on sc so sc' so' B1 B2 B1' B2') (h1 : st.length ≤ 100000) (h2 : on.length ≤ 100000) :
    CP lifeE 16 [.pointer (some ⟨b, 0, none⟩), .pointer (some ⟨b', 0, none⟩)] h (.bool true) := by
  have ht := t.l.top
  have ht' := t.r.top
  obtain ⟨a1, rfl⟩ := t.r.val
  obtain ⟨a2, rfl⟩ := t.r.valOn
  refine c_enter (fu := Try.f16) (by kernel_rfl) rfl ?_
  refine w_seq ?_
  refine w_region (by kernel_rfl) ?_
  refine o_assign gn rfl rfl ?_
  refine wl_end ?_
  refine w_seq ?_
  refine w_seq ?_
  refine w_draw [(0, []), (2, []), (3, []), (4, []), (5, []), (6, []), (1, [5, 6]), (7, []), (8, []), (9, []), (11, []), (12, []), (13, []), (14, []), (15, []), (10, [14, 15]), (16, []), (17, [])] (by kernel_rfl) (by kernel_rfl) (by kernel_rfl) (by kernel_rfl) ?_
  refine o_move gn rfl rfl ?_
  refine o_move gn rfl rfl ?_
  refine o_nilCheck gn rfl rfl ?_
  refine o_fieldAddr (off := 0) gn rfl rfl (by kernel_rfl) ?_
  refine o_load gn rfl rfl (by kernel_rfl) ht' rfl ?_
  refine o_len gn rfl rfl (by kernel_rfl) ?_
  refine o_call [_] gn rfl rfl (by kernel_rfl) rfl (c_pure (c30 t.l) ⟨(ag1 (ag_load gn rfl (by kernel_rfl) ht' rfl rfl same_slice) (ag1 (ag_len gn rfl (by kernel_rfl) rfl) ag0)), ?_⟩)
  refine o_nei gn rfl rfl rfl ?_
  refine o_move gn rfl rfl ?_
  refine o_or (n := 8) rfl rfl rfl gn rfl (fun hb => by
      refine o_move (gy rfl rfl rfl hb) rfl rfl ?_
      refine o_move (gy rfl rfl rfl hb) rfl rfl ?_
      refine o_nilCheck (gy rfl rfl rfl hb) rfl rfl ?_
      refine o_fieldAddr (off := 1) (gy rfl rfl rfl hb) rfl rfl (by kernel_rfl) ?_
      refine o_load (gy rfl rfl rfl hb) rfl rfl (by kernel_rfl) ht' rfl ?_
      refine o_len (gy rfl rfl rfl hb) rfl rfl (by kernel_rfl) ?_
      refine o_call [_] (gy rfl rfl rfl hb) rfl rfl (by kernel_rfl) rfl (c_pure (c31 t.l) ⟨(ag1 (ag_load (gy rfl rfl rfl hb) rfl (by kernel_rfl) ht' rfl rfl same_slice) (ag1 (ag_len (gy rfl rfl rfl hb) rfl (by kernel_rfl) rfl) ag0)), ?_⟩)
      refine o_nei (gy rfl rfl rfl hb) rfl rfl rfl ?_
      exact wl_end ⟨rfl, rfl, 8, rfl, rfl⟩) ?_
  refine wl_end ?_
  refine w_cond rfl (fun hb => ?_) fun hb => ?_
  · skip
    refine w_seq ?_
    refine w_region (by kernel_rfl) ?_
    refine o_assign gn rfl rfl ?_
    refine wl_end ?_
    refine w_ret ?_
    refine ⟨.inl rfl, _, rfl, ?_⟩
    simp at hb
  · skip
    refine w_skip ?_
    refine w_seq ?_
    refine w_seq ?_
    refine w_region (by kernel_rfl) ?_
    refine o_assign gn rfl rfl ?_
    refine wl_end ?_
    refine w_block ?_
    refine w_weak [(0, .pointer (some ⟨b, 0, none⟩)), (1, .pointer (some ⟨b', 0, none⟩)), (5, .int .i64 (-1))] (by repeat (first | exact trivial | refine ⟨rfl, ?_⟩)) ?_
    refine w_loop (fun k l hh => ∃ i : Int, -1 ≤ i ∧ i ≤ st.length + 1 ∧ k = (st.length + 1 - i).toNat ∧ l = [(0, .pointer (some ⟨b, 0, none⟩)), (1, .pointer (some ⟨b', 0, none⟩)), (5, .int .i64 i)] ∧ h = hh) (n := (st.length + 1 - (-1 : Int)).toNat) ?_ fun k l hh hI => ?_
    · exact ⟨-1, by omega, by omega, rfl, rfl, rfl⟩
    · obtain ⟨i, hi0, hi1, rfl, rfl, rfl⟩ := hI
      refine w_seq ?_
      refine w_seq ?_
      refine w_region (by kernel_rfl) ?_
      refine o_move gn rfl rfl ?_
      refine o_move gn rfl rfl ?_
      refine o_nilCheck gn rfl rfl ?_
      refine o_fieldAddr (off := 0) gn rfl rfl (by kernel_rfl) ?_
      refine o_load gn rfl rfl (by kernel_rfl) ht' rfl ?_
      refine o_len gn rfl rfl (by kernel_rfl) ?_
      refine o_leq gn rfl rfl rfl ?_
      refine wl_end ?_
      refine w_cond rfl (fun hb => ?_) fun hb => ?_
      · skip
        refine w_skip ?_
        refine w_seq ?_
        have hlt : i ≤ st.length := by simpa using hb
        refine w_block ?_
        refine w_seq ?_
        refine w_region (by kernel_rfl) ?_
        refine o_move gn rfl rfl ?_
        refine o_move gn rfl rfl ?_
        refine o_call [_, _] gn rfl rfl (by kernel_rfl) rfl (c_pure (c27 t.l t.s) ⟨ag0, ?_⟩)
        refine o_move gn rfl rfl ?_
        refine o_move gn rfl rfl ?_
        refine o_call [_, _] gn rfl rfl (by kernel_rfl) rfl (c_pure (c49 t.r) ⟨ag0, ?_⟩)
        refine o_nei gn rfl rfl rfl ?_
        refine wl_end ?_
        refine w_cond rfl (fun hb => ?_) fun hb => ?_
        · skip
          refine w_seq ?_
          refine w_region (by kernel_rfl) ?_
          refine o_assign gn rfl rfl ?_
          refine wl_end ?_
          refine w_ret ?_
          refine ⟨.inl rfl, _, rfl, ?_⟩
          exfalso; simp [stAt] at hb
        · skip
          refine w_skip ?_
          refine w_region (by kernel_rfl) ?_
          refine o_move gn rfl rfl ?_
          refine o_add gn rfl rfl rfl (by omega) (by omega) ?_
          refine o_assign gn rfl rfl ?_
          refine wl_end ?_
          exact ⟨(st.length + 1 - (i + 1)).toNat, by omega, _, (by repeat (first | exact trivial | refine ⟨rfl, ?_⟩)), ⟨i + 1, by omega, by omega, rfl, rfl, rfl⟩⟩
      · skip
        refine w_exit ?_
        refine thn_exit ?_
        refine rnd_exit ?_
        refine blk_eq ?_
        refine w_seq ?_
        refine w_seq ?_
        refine w_region (by kernel_rfl) ?_
        refine o_assign gn rfl rfl ?_
        refine wl_end ?_
        refine w_block ?_
        refine w_weak [(0, .pointer (some ⟨b, 0, none⟩)), (1, .pointer (some ⟨b', 0, none⟩)), (6, .int .i64 (-1))] (by repeat (first | exact trivial | refine ⟨rfl, ?_⟩)) ?_
        refine w_loop (fun k l hh => ∃ i : Int, -1 ≤ i ∧ i ≤ on.length + 1 ∧ k = (on.length + 1 - i).toNat ∧ l = [(0, .pointer (some ⟨b, 0, none⟩)), (1, .pointer (some ⟨b', 0, none⟩)), (6, .int .i64 i)] ∧ h = hh) (n := (on.length + 1 - (-1 : Int)).toNat) ?_ fun k l hh hI => ?_
        · exact ⟨-1, by omega, by omega, rfl, rfl, rfl⟩
        · obtain ⟨j, hj0, hj1, rfl, rfl, rfl⟩ := hI
          refine w_seq ?_
          refine w_seq ?_
          refine w_region (by kernel_rfl) ?_
          refine o_move gn rfl rfl ?_
          refine o_move gn rfl rfl ?_
          refine o_nilCheck gn rfl rfl ?_
          refine o_fieldAddr (off := 1) gn rfl rfl (by kernel_rfl) ?_
          refine o_load gn rfl rfl (by kernel_rfl) ht' rfl ?_
          refine o_len gn rfl rfl (by kernel_rfl) ?_
          refine o_leq gn rfl rfl rfl ?_
          refine wl_end ?_
          refine w_cond rfl (fun hb => ?_) fun hb => ?_
          · skip
            refine w_skip ?_
            refine w_seq ?_
            have hlt : j ≤ on.length := by simpa using hb
            refine w_block ?_
            refine w_seq ?_
            refine w_region (by kernel_rfl) ?_
            refine o_move gn rfl rfl ?_
            refine o_move gn rfl rfl ?_
            refine o_call [_, _] gn rfl rfl (by kernel_rfl) rfl (c_pure (c28 t.l) ⟨ag0, ?_⟩)
            refine o_move gn rfl rfl ?_
            refine o_move gn rfl rfl ?_
            refine o_call [_, _] gn rfl rfl (by kernel_rfl) rfl (c_pure (c50 t.r) ⟨ag0, ?_⟩)
            refine o_neb gn rfl rfl rfl (by kernel_rfl) ?_
            refine wl_end ?_
            refine w_cond rfl (fun hb => ?_) fun hb => ?_
            · skip
              refine w_seq ?_
              refine w_region (by kernel_rfl) ?_
              refine o_assign gn rfl rfl ?_
              refine wl_end ?_
              refine w_ret ?_
              refine ⟨.inl rfl, _, rfl, ?_⟩
              exfalso; simp at hb
            · skip
              refine w_skip ?_
              refine w_region (by kernel_rfl) ?_
              refine o_move gn rfl rfl ?_
              refine o_add gn rfl rfl rfl (by omega) (by omega) ?_
              refine o_assign gn rfl rfl ?_
              refine wl_end ?_
              exact ⟨(on.length + 1 - (j + 1)).toNat, by omega, _, (by repeat (first | exact trivial | refine ⟨rfl, ?_⟩)), ⟨j + 1, by omega, by omega, rfl, rfl, rfl⟩⟩
          · skip
            refine w_exit ?_
            refine thn_exit ?_
            refine rnd_exit ?_
            refine blk_eq ?_
            refine w_seq ?_
            refine w_region (by kernel_rfl) ?_
            refine o_assign gn rfl rfl ?_
            refine wl_end ?_
            refine w_ret ?_
            refine ⟨.inl rfl, _, rfl, ?_⟩
            exact ⟨rfl, rfl⟩

/-- What an act leaves. -/
def Acted (h h' : Hp) (b b' : Nat) (n m : Nat) (sc so sc' so' : Value) (B1 B2 B1' B2' : List Nat) : Prop :=
  ∃ st2 on2, Two h' b b' st2 on2 sc so sc' so' B1 B2 B1' B2' ∧ st2.length = n ∧ on2.length = m ∧ ExtB (b :: (B1 ++ B2) ++ b' :: (B1' ++ B2')) h h'

theorem Two.acted (t : Two h b b' st on sc so sc' so' B1 B2 B1' B2') (g : Ext h h') : Acted h h' b b' st.length on.length sc so sc' so' B1 B2 B1' B2' :=
  ⟨st, on, t.ext g, rfl, rfl, g.b _⟩

/-- Both go on with a life. -/
theorem Two.go {h0 h1 h2 : Hp} {c w : Int} (t : Two h b b' st on sc so sc' so' B1 B2 B1' B2') (g0 : Ext h0 h) (x1 : ExtB B1 h h1) (l1 : LivesR h1 b (goSt st c w) on sc so B1 B2) (x2 : ExtB B1' h1 h2)
    (r2 : RefR h2 b' (rV (goSt st c w)) on sc' so' B1' B2') : Acted h0 h2 b b' st.length on.length sc so sc' so' B1 B2 B1' B2' := by
  refine ⟨goSt st c w, on, ⟨l1.keep x2 (fun hi => t.d b (by simp) (by simp [hi])) (fun i hi hj => t.d i (by simp [hi]) (by simp [hj])) (fun i hi hj => t.d i (by simp [hi]) (by simp [hj])), r2, goSt_sts t.s, t.d⟩, goSt_len _ _ _, rfl, ?_⟩
  exact ((g0.b _).trans (x1.mono (fun i hi _ => by simp [hi]))).trans (x2.mono (fun i hi _ => by simp [hi]))

theorem setOn_len (on : List Bool) (e : Int) (v : Bool) : (setOn on e v).length = on.length := by unfold setOn; split <;> simp

theorem Two.set {h0 h1 h2 : Hp} {e : Int} {v : Bool} (t : Two h b b' st on sc so sc' so' B1 B2 B1' B2') (g0 : Ext h0 h) (x1 : ExtB B2 h h1) (l1 : LivesR h1 b st (setOn on e v) sc so B1 B2) (x2 : ExtB B2' h1 h2)
    (r2 : RefR h2 b' (rV st) (setOn on e v) sc' so' B1' B2') : Acted h0 h2 b b' st.length on.length sc so sc' so' B1 B2 B1' B2' := by
  refine ⟨st, setOn on e v, ⟨l1.keep x2 (fun hi => t.d b (by simp) (by simp [hi])) (fun i hi hj => t.d i (by simp [hi]) (by simp [hj])) (fun i hi hj => t.d i (by simp [hi]) (by simp [hj])), r2, t.s, t.d⟩, rfl, setOn_len _ _ _, ?_⟩
  exact ((g0.b _).trans (x1.mono (fun i hi _ => by simp [hi]))).trans (x2.mono (fun i hi _ => by simp [hi]))

theorem may_eq (st : List Int) (c w : Int) : decide (goErr st c w = 0) = (decide (0 ≤ c) && decide (c < st.length) && mayGo (stAt st c) w) := by
  by_cases q1 : 0 ≤ c <;> by_cases q2 : c < st.length <;> simp [goErr, q1, q2]
  by_cases q3 : 0 ≤ w ∧ w ≤ 3
  · simp only [if_pos q3]
    cases mayGo (stAt st c) w <;> simp
  · have : mayGo (stAt st c) w = false := by simp [mayGo]; omega
    simp [q3, this]

/-- do -/
theorem c17 {kd ac wh : Int} {is : Bool} (t : Two h b b' st on sc so sc' so' B1 B2 B1' B2') (h1 : st.length ≤ 100000) (h2 : on.length ≤ 100000) :
    C lifeE 17 [.pointer (some ⟨b, 0, none⟩), .pointer (some ⟨b', 0, none⟩), .agg #[.int .i64 kd, .int .i64 ac, .int .i64 wh, .bool is]] h
      fun v h' => v = .bool true ∧ Acted h h' b b' st.length on.length sc so sc' so' B1 B2 B1' B2' := by
  have g0 := Ext.alloc h (.cells [.int .i64 kd, .int .i64 ac, .int .i64 wh, .bool is] 37 0)
  have t1 := t.ext g0
  have hx : (h.alloc (.cells [.int .i64 kd, .int .i64 ac, .int .i64 wh, .bool is] 37 0)).get h.n = _ := Hp.get_alloc_self _ _
  have hn : h.n < (h.alloc (.cells [.int .i64 kd, .int .i64 ac, .int .i64 wh, .bool is] 37 0)).n := by rw [Hp.n_alloc]; omega
  have k1 : h.n ∉ B1 := fun hi => by have := t.l.comps.lt _ hi; omega
  have k2 : h.n ∉ B2 := fun hi => by have := t.l.evs.lt _ hi; omega
  refine c_enter (fu := Try.f17) (by kernel_rfl) rfl ?_
  refine w_seq ?_
  refine w_region (by kernel_rfl) ?_
  refine o_box gn rfl rfl ?_
  refine o_assign gn rfl rfl ?_
  refine wl_end ?_
  refine w_seq ?_
  refine w_seq ?_
  refine w_region (by kernel_rfl) ?_
  refine o_fieldAddr (off := 0) gn rfl rfl (by kernel_rfl) ?_
  refine o_load gn rfl rfl (by kernel_rfl) hx rfl ?_
  refine wl_end ?_
  refine w_block ?_
  refine w_seq ?_
  refine w_region (by kernel_rfl) ?_
  refine o_eqi gn rfl rfl rfl ?_
  refine o_assign gn rfl rfl ?_
  refine wl_end ?_
  refine w_cond rfl (fun hb => ?_) fun hb => ?_
  · skip
    refine w_seq ?_
    refine w_draw [(0, []), (1, []), (2, []), (3, []), (4, []), (6, []), (7, []), (8, []), (9, []), (10, []), (5, [8, 10]), (11, []), (12, []), (13, [])] (by kernel_rfl) (by kernel_rfl) (by kernel_rfl) (by kernel_rfl) ?_
    refine o_move gn rfl rfl ?_
    refine o_fieldAddr (off := 1) gn rfl rfl (by kernel_rfl) ?_
    refine o_load gn rfl rfl (by kernel_rfl) hx rfl ?_
    refine o_fieldAddr (off := 2) gn rfl rfl (by kernel_rfl) ?_
    refine o_load gn rfl rfl (by kernel_rfl) hx rfl ?_
    refine o_move gn rfl rfl ?_
    refine o_fieldAddr (off := 1) gn rfl rfl (by kernel_rfl) ?_
    refine o_load gn rfl rfl (by kernel_rfl) hx rfl ?_
    refine o_fieldAddr (off := 2) gn rfl rfl (by kernel_rfl) ?_
    refine o_load gn rfl rfl (by kernel_rfl) hx rfl ?_
    refine o_call [_, _, _] gn rfl rfl (by kernel_rfl) rfl (C.mono (c14 t1.l t1.s) ?_)
    rintro v1 hp1 ⟨rfl, l1, x1⟩
    have hx1 := (x1.get _ hn k1).trans hx
    refine ⟨(ag1 (ag_load gn rfl (by kernel_rfl) hx1 rfl rfl same_int) (ag1 (ag_load gn rfl (by kernel_rfl) hx1 rfl rfl same_int) ag0)), ?_⟩
    refine o_call [_, _, _] gn rfl rfl (by kernel_rfl) rfl (C.mono (c51 (t1.r.keep x1 (fun hi => t.d b' (by simp [hi]) (by simp)) (fun i hi hj => t.d i (by simp [hj]) (by simp [hi])) (fun i hi hj => t.d i (by simp [hj]) (by simp [hi])))) ?_)
    rintro v2 hp2 ⟨rfl, r2, x2⟩
    refine ⟨ag0, ?_⟩
    refine o_eqi gn rfl rfl rfl ?_
    refine o_assign gn rfl rfl ?_
    refine wl_end ?_
    refine w_ret ?_
    refine ⟨.inl rfl, _, rfl, ?_⟩
    exact ⟨by simp [oneOf], t1.go g0 x1 l1 x2 r2⟩
  · skip
    refine w_seq ?_
    refine w_region (by kernel_rfl) ?_
    refine o_eqi gn rfl rfl rfl ?_
    refine o_assign gn rfl rfl ?_
    refine wl_end ?_
    refine w_cond rfl (fun hb => ?_) fun hb => ?_
    · skip
      refine w_seq ?_
      refine w_draw [(0, []), (1, []), (2, []), (3, []), (4, []), (6, []), (7, []), (8, []), (9, []), (10, []), (5, [8, 10]), (11, []), (12, []), (13, [])] (by kernel_rfl) (by kernel_rfl) (by kernel_rfl) (by kernel_rfl) ?_
      refine o_move gn rfl rfl ?_
      refine o_fieldAddr (off := 1) gn rfl rfl (by kernel_rfl) ?_
      refine o_load gn rfl rfl (by kernel_rfl) hx rfl ?_
      refine o_fieldAddr (off := 2) gn rfl rfl (by kernel_rfl) ?_
      refine o_load gn rfl rfl (by kernel_rfl) hx rfl ?_
      refine o_move gn rfl rfl ?_
      refine o_fieldAddr (off := 1) gn rfl rfl (by kernel_rfl) ?_
      refine o_load gn rfl rfl (by kernel_rfl) hx rfl ?_
      refine o_fieldAddr (off := 2) gn rfl rfl (by kernel_rfl) ?_
      refine o_load gn rfl rfl (by kernel_rfl) hx rfl ?_
      refine o_call [_, _, _] gn rfl rfl (by kernel_rfl) rfl (C.mono (c13 t1.l t1.s h1 h2) ?_)
      rintro v1 hp1 ⟨rfl, x1⟩
      have hx1 := (x1.get _ hn).trans hx
      refine ⟨(ag1 (ag_load gn rfl (by kernel_rfl) hx1 rfl rfl same_int) (ag1 (ag_load gn rfl (by kernel_rfl) hx1 rfl rfl same_int) ag0)), ?_⟩
      refine o_call [_, _, _] gn rfl rfl (by kernel_rfl) rfl (c_pure (c52 (t1.ext x1).r) ⟨ag0, ?_⟩)
      refine o_eqb gn rfl rfl rfl (by kernel_rfl) ?_
      refine o_assign gn rfl rfl ?_
      refine wl_end ?_
      refine w_ret ?_
      refine ⟨.inl rfl, _, rfl, ?_⟩
      exact ⟨by rw [may_eq]; simp [oneOf], t.acted (g0.trans x1)⟩
    · skip
      refine w_seq ?_
      refine w_region (by kernel_rfl) ?_
      refine o_eqi gn rfl rfl rfl ?_
      refine o_assign gn rfl rfl ?_
      refine wl_end ?_
      refine w_cond rfl (fun hb => ?_) fun hb => ?_
      · skip
        refine w_seq ?_
        refine w_draw [(0, []), (1, []), (2, []), (3, []), (4, []), (6, []), (7, []), (8, []), (9, []), (10, []), (5, [8, 10]), (11, []), (12, []), (13, [])] (by kernel_rfl) (by kernel_rfl) (by kernel_rfl) (by kernel_rfl) ?_
        refine o_move gn rfl rfl ?_
        refine o_fieldAddr (off := 1) gn rfl rfl (by kernel_rfl) ?_
        refine o_load gn rfl rfl (by kernel_rfl) hx rfl ?_
        refine o_fieldAddr (off := 3) gn rfl rfl (by kernel_rfl) ?_
        refine o_load gn rfl rfl (by kernel_rfl) hx rfl ?_
        refine o_move gn rfl rfl ?_
        refine o_fieldAddr (off := 1) gn rfl rfl (by kernel_rfl) ?_
        refine o_load gn rfl rfl (by kernel_rfl) hx rfl ?_
        refine o_fieldAddr (off := 3) gn rfl rfl (by kernel_rfl) ?_
        refine o_load gn rfl rfl (by kernel_rfl) hx rfl ?_
        refine o_call [_, _, _] gn rfl rfl (by kernel_rfl) rfl (C.mono (c29 t1.l) ?_)
        rintro v1 hp1 ⟨rfl, l1, x1⟩
        have hx1 := (x1.get _ hn k2).trans hx
        refine ⟨(ag1 (ag_load gn rfl (by kernel_rfl) hx1 rfl rfl same_int) (ag1 (ag_load gn rfl (by kernel_rfl) hx1 rfl rfl same_bool) ag0)), ?_⟩
        refine o_call [_, _, _] gn rfl rfl (by kernel_rfl) rfl (C.mono (c53 (t1.r.keep x1 (fun hi => t.d b' (by simp [hi]) (by simp)) (fun i hi hj => t.d i (by simp [hj]) (by simp [hi])) (fun i hi hj => t.d i (by simp [hj]) (by simp [hi])))) ?_)
        rintro v2 hp2 ⟨rfl, r2, x2⟩
        refine ⟨ag0, ?_⟩
        refine o_eqb gn rfl rfl rfl (by kernel_rfl) ?_
        refine o_assign gn rfl rfl ?_
        refine wl_end ?_
        refine w_ret ?_
        refine ⟨.inl rfl, _, rfl, ?_⟩
        exact ⟨by simp [oneOf], t1.set g0 x1 l1 x2 r2⟩
      · skip
        refine w_seq ?_
        refine w_region (by kernel_rfl) ?_
        refine o_eqi gn rfl rfl rfl ?_
        refine o_assign gn rfl rfl ?_
        refine wl_end ?_
        refine w_cond rfl (fun hb => ?_) fun hb => ?_
        · skip
          refine w_seq ?_
          refine w_draw [(0, []), (1, []), (2, []), (4, []), (5, []), (6, []), (3, [6]), (7, []), (8, []), (9, [])] (by kernel_rfl) (by kernel_rfl) (by kernel_rfl) (by kernel_rfl) ?_
          refine o_move gn rfl rfl ?_
          refine o_fieldAddr (off := 1) gn rfl rfl (by kernel_rfl) ?_
          refine o_load gn rfl rfl (by kernel_rfl) hx rfl ?_
          refine o_move gn rfl rfl ?_
          refine o_fieldAddr (off := 1) gn rfl rfl (by kernel_rfl) ?_
          refine o_load gn rfl rfl (by kernel_rfl) hx rfl ?_
          refine o_call [_, _] gn rfl rfl (by kernel_rfl) rfl (c_pure (c28 t1.l) ⟨(ag1 (ag_load gn rfl (by kernel_rfl) hx rfl rfl same_int) ag0), ?_⟩)
          refine o_call [_, _] gn rfl rfl (by kernel_rfl) rfl (c_pure (c50 t1.r) ⟨ag0, ?_⟩)
          refine o_eqb gn rfl rfl rfl (by kernel_rfl) ?_
          refine o_assign gn rfl rfl ?_
          refine wl_end ?_
          refine w_ret ?_
          refine ⟨.inl rfl, _, rfl, ?_⟩
          exact ⟨by simp [oneOf], t.acted g0⟩
        · skip
          refine w_skip ?_
          refine w_seq ?_
          refine w_region (by kernel_rfl) ?_
          refine o_assign gn rfl rfl ?_
          refine wl_end ?_
          refine w_ret ?_
          refine ⟨.inl rfl, _, rfl, ?_⟩
          exact ⟨rfl, t.acted g0⟩

end

end Go.Proofs.Ytkmbfjdmbdpflaa

