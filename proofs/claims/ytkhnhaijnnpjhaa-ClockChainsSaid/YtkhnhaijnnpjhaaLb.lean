/- Chapter 15: ClockChains, in the calculus. Conditions: none. Chapter 15: the arguments of its laws, as X has them. Conditions: none. -/
import Derived.Test.YtkhnhaijnnpjhaaLa
import Derived.Test.YtkhnhaijnnpjhaaXc
namespace Go.Proofs.Ytkhnhaijnnpjhaa
open Go.X

def ActsC (h : Hp) (a : Option Addr) (n : Nat) : Prop :=
  n = 0 ∨ ∃ bb oo cs e m, a = some ⟨bb, oo, none⟩ ∧ h.get bb = some (.cells cs e m) ∧ bb < h.n ∧
    ∀ i, i < n → oo + i * 3 + 3 ≤ cs.length ∧ ∃ (kd at' : Int) (a3 : Option Addr) (n3 c3 : Nat), (cs.drop (oo + i * 3)).take 3 = [iV kd, iV at', .slice a3 n3 c3] ∧ ActsK h a3 n3

/-- Chains of the program's and of the document's, the same, apart, not old. -/
structure TwoC (n0 : Nat) (h : Hp) (b d : Nat) (L : Cs) (own od : List Nat) (i : Nat) : Prop where
  x : ChAt h b L own
  r : DcAt h d L od
  ap : ∀ z, z ∈ own → z ∉ od
  on : ∀ z, z ∈ own → n0 ≤ z
  dn : ∀ z, z ∈ od → n0 ≤ z
  bd : ∀ p, p ∈ L → 0 ≤ p.1 ∧ p.1 ≤ i
  len : L.length ≤ i

theorem mk_bd {L : Cs} {i : Nat} (h : ∀ p, p ∈ L → 0 ≤ p.1 ∧ p.1 ≤ (i : Int)) (j : Int) : 0 ≤ mkL L j ∧ mkL L j ≤ i := by
  unfold mkL
  split
  · cases hq : L[j.toNat]? with
    | none => exact ⟨Int.le_refl _, by show (0 : Int) ≤ i; omega⟩
    | some p => exact h p (List.mem_of_getElem? hq)
  · exact ⟨Int.le_refl _, by omega⟩
theorem mem_set_or {α : Type} {l : List α} {i : Nat} {x p : α} (h : p ∈ l.set i x) : p ∈ l ∨ p = x := by
  rcases List.mem_or_eq_of_mem_set h with h | h
  · exact .inl h
  · exact .inr h
theorem setO_bd {L : Cs} {i : Nat} {j : Int} {o : Bool} (h : ∀ p, p ∈ L → 0 ≤ p.1 ∧ p.1 ≤ (i : Int)) : ∀ p, p ∈ setO L j o → 0 ≤ p.1 ∧ p.1 ≤ (i : Int) := fun p hp => by
  rcases mem_set_or hp with h1 | rfl
  · exact h p h1
  · exact mk_bd h j
theorem begin_bd {L L' : Cs} {A : Int → Int} {i at' : Nat} (x : BeginAt L A at' L') (h : ∀ p, p ∈ L → 0 ≤ p.1 ∧ p.1 ≤ (i : Int)) : (∀ p, p ∈ L' → 0 ≤ p.1 ∧ p.1 ≤ ((i + 1 : Nat) : Int)) ∧ L'.length ≤ L.length + 1 := by
  rcases x.yes with ⟨_, _, rfl⟩ | ⟨_, rfl⟩
  · exact ⟨fun p hp => by have := setO_bd h p hp; omega, by rw [setO_len]; omega⟩
  · refine ⟨fun p hp => ?_, by simp⟩
    rcases List.mem_append.1 hp with h1 | h1
    · have := h p h1; omega
    · simp at h1; subst h1; simp; omega
theorem end_bd {L : Cs} {i : Nat} {j : Int} (h : ∀ p, p ∈ L → 0 ≤ p.1 ∧ p.1 ≤ (i : Int)) : (∀ p, p ∈ endL L j → 0 ≤ p.1 ∧ p.1 ≤ ((i + 1 : Nat) : Int)) ∧ (endL L j).length = L.length := by
  unfold endL
  split
  · exact ⟨fun p hp => by have := setO_bd h p hp; omega, setO_len _ _ _⟩
  · exact ⟨fun p hp => by have := h p hp; omega, rfl⟩
theorem tick_bd {L : Cs} {i : Nat} {j : Int} (h : ∀ p, p ∈ L → 0 ≤ p.1 ∧ p.1 ≤ (i : Int)) : (∀ p, p ∈ tickL L j → 0 ≤ p.1 ∧ p.1 ≤ ((i + 1 : Nat) : Int)) ∧ (tickL L j).length = L.length := by
  unfold tickL
  split
  · refine ⟨fun p hp => ?_, setM_len _ _ _⟩
    rcases mem_set_or hp with h1 | rfl
    · have := h p h1; omega
    · have := mk_bd h j
      show 0 ≤ mkL L j + 1 ∧ mkL L j + 1 ≤ ((i + 1 : Nat) : Int)
      omega
  · exact ⟨fun p hp => by have := h p hp; omega, rfl⟩
theorem begin_shut {L L' : Cs} {A : Int → Int} {at' : Nat} (x : BeginAt L A at' L') : (decide ((at' : Int) < (L.length : Nat)) && opL L (at' : Int)) = false := by
  rcases x.yes with ⟨_, h, _⟩ | ⟨h, _⟩
  · unfold canB at h
    cases ho : opL L (at' : Int) with
    | false => simp
    | true => rw [ho] at h; simp at h
  · subst h; simp

theorem TwoC.keep {n0 i : Nat} {h h' : Hp} {b d : Nat} {L : Cs} {own od cs : List Nat} (t : TwoC n0 h b d L own od i) (g : ExtB cs h h') (h1 : ∀ z, z ∈ own → z ∉ cs) (h2 : ∀ z, z ∈ od → z ∉ cs) : TwoC n0 h' b d L own od i :=
  ⟨t.x.keep g h1, t.r.keep g h2, t.ap, t.on, t.dn, t.bd, t.len⟩
theorem TwoC.ext {n0 i : Nat} {h h' : Hp} {b d : Nat} {L : Cs} {own od : List Nat} (t : TwoC n0 h b d L own od i) (g : Ext h h') : TwoC n0 h' b d L own od i := t.keep (g.b []) (by simp) (by simp)
theorem three_at {cs : List Value} {o : Nat} {a c e : Value} (q : (cs.drop o).take 3 = [a, c, e]) : ((cs.drop o).take 3).toArray = #[a, c, e] := by rw [q]

/-- ClockChains -/
theorem c5 {h : Hp} {a3 : Option Addr} {n3 c3 : Nat} (hA : ActsC h a3 n3) : C clkE 5 [.slice a3 n3 c3] h fun v _ => v = .bool true := by
  refine c_enter (fu := Try.f5) (by kernel_rfl) rfl ?_
  refine w_seq ?_
  refine w_region (by kernel_rfl) ?_
  refine o_assign gn rfl rfl ?_
  refine wl_end ?_
  refine w_seq ?_
  refine w_seq ?_
  refine w_region (by kernel_rfl) ?_
  refine o_move gn rfl rfl ?_
  refine o_len gn rfl rfl (by kernel_rfl) ?_
  refine o_gtr gn rfl rfl rfl ?_
  refine wl_end ?_
  refine w_cond rfl (fun hb => ?_) fun hb => ?_
  · skip
    refine w_seq ?_
    refine w_region (by kernel_rfl) ?_
    refine o_orc (f := 8) (v := .bool true) gn rfl (by kernel_rfl) (by kernel_rfl) ag0 ?_
    refine o_assign gn rfl rfl ?_
    refine wl_end ?_
    refine w_ret ?_
    refine ⟨.inl rfl, _, rfl, ?_⟩
    rfl
  · skip
    have hsm : n3 ≤ 60 := by simp at hb; omega
    refine w_skip ?_
    refine w_seq ?_
    refine w_region (by kernel_rfl) ?_
    refine o_call [] gn rfl rfl (by kernel_rfl) rfl (C.mono (c18) ?_)
    rintro v1 h1 ⟨rfl, x1, e1, n1⟩
    refine ⟨ag0, ?_⟩
    refine o_build (zv := .agg #[.slice none 0 0, .slice none 0 0]) (pl := [(0, 1), (1, 1)]) [] gn rfl (by kernel_rfl) (by kernel_rfl) rfl rfl ?_
    refine o_box gn rfl rfl ?_
    refine wl_at (fun h2 => h2.get h1.n = some (.cells [.slice none 0 0, .slice none 0 0] 45 0) ∧ Ext h1 h2 ∧ h2.n = h1.n + 1) ⟨Hp.get_alloc_self _ _, Ext.alloc _ _, Hp.n_alloc _ _⟩ fun h2 ⟨g2, e2, n2⟩ => ?_
    have t0 : TwoC h.n h2 h.n h1.n [] [h.n] [h1.n] 0 := ⟨x1.ext e2, ⟨_, _, [], [], ⟨g2, .inl ⟨rfl, rfl, rfl⟩, .inl ⟨rfl, rfl, rfl⟩, by omega, by simp, by simp, by simp⟩, rfl⟩, by simp; omega, by simp, by simp; omega, by simp, by simp⟩
    refine o_assign gn rfl rfl ?_
    refine o_assign gn rfl rfl ?_
    refine wl_end ?_
    refine w_seq ?_
    refine w_seq ?_
    refine w_region (by kernel_rfl) ?_
    refine o_assign gn rfl rfl ?_
    refine wl_end ?_
    refine w_block ?_
    refine w_weak [(0, .slice a3 n3 c3), (3, ptrV h.n), (4, ptrV h1.n), (5, iV (0 : Nat))] (by repeat (first | exact trivial | refine ⟨rfl, ?_⟩)) ?_
    refine w_loop (fun k l hh => ∃ (i b d : Nat) (L : Cs) (own od : List Nat), i ≤ n3 ∧ k = n3 - i ∧ TwoC h.n hh b d L own od i ∧ Ext h hh ∧ l = [(0, .slice a3 n3 c3), (3, ptrV b), (4, ptrV d), (5, iV (i : Nat))]) (n := n3) ?_ fun k l hh hI => ?_
    · exact ⟨0, h.n, h1.n, [], [h.n], [h1.n], by omega, by omega, t0, e1.trans e2, rfl⟩
    · obtain ⟨i, b, d, L, own, od, hi, rfl, t, hx, rfl⟩ := hI
      refine w_seq ?_
      refine w_seq ?_
      refine w_region (by kernel_rfl) ?_
      refine o_move gn rfl rfl ?_
      refine o_move gn rfl rfl ?_
      refine o_len gn rfl rfl (by kernel_rfl) ?_
      refine o_lss gn rfl rfl rfl ?_
      refine wl_end ?_
      refine w_cond rfl (fun hb => ?_) fun hb => ?_
      · skip
        have hlt : i < n3 := by simpa using hb
        obtain ⟨hq, hqe⟩ : ∃ x, x = hh := ⟨_, rfl⟩
        subst hqe
        rcases hA with h0 | ⟨bb, oo, cs, e, mm, rfl, hg, hbb, hall⟩
        · omega
        obtain ⟨hfit, kd, at', ak, nk, ck, hrow, hk⟩ := hall i (by omega)
        have hg2 := (hx.get bb hbb).trans hg
        have hoi : oo + (i : Int).toNat * 3 = oo + i * 3 := by omega
        have hxn := hx.n
        have htl := t.x.lt
        have htd := t.r.lt
        have hlen := t.len
        have hbd : ∀ j, 0 ≤ mkL L j ∧ mkL L j ≤ 100000 := fun j => by have := mk_bd t.bd j; omega
        refine w_skip ?_
        refine w_seq ?_
        refine w_block ?_
        refine w_seq ?_
        refine w_region (by kernel_rfl) ?_
        refine o_move gn rfl rfl ?_
        refine o_move gn rfl rfl ?_
        refine o_indexAddr (zz := 3) gn rfl rfl rfl (by kernel_rfl) (by omega) (by omega) ?_
        refine o_loadA (n := 3) gn rfl rfl (by kernel_rfl) (by kernel_rfl) hg2 (by omega) ?_
        rw [hoi, three_at hrow]
        refine o_alloc (zv := .agg #[.int .i64 0, .int .i64 0, .slice none 0 0]) gn rfl (by kernel_rfl) ?_
        refine o_storeA (n := 3) gn rfl rfl rfl (by kernel_rfl) rfl (Hp.get_alloc_self _ _) (by decide) rfl ag0 ?_
        refine wl_end ?_
        refine w_at (fun h4 => h4.get hq.n = some (.cells [iV kd, iV at', .slice ak nk ck] 47 0) ∧ Ext hq h4 ∧ h4.n = hq.n + 1) ⟨Hp.get_put_self _ _ _, (Ext.alloc _ _).of (ExtB.put _ _ _) (by simp), by rw [Hp.n_put, Hp.n_alloc]⟩ fun h4 ⟨ga, e4, n4⟩ => ?_
        have t4 := t.ext e4
        refine w_seq ?_
        refine w_seq ?_
        refine w_region (by kernel_rfl) ?_
        refine o_fieldAddr (off := 0) gn rfl rfl (by kernel_rfl) ?_
        refine o_load gn rfl rfl (by kernel_rfl) ga rfl ?_
        refine wl_end ?_
        refine w_block ?_
        refine w_seq ?_
        refine w_region (by kernel_rfl) ?_
        refine o_eqi gn rfl rfl rfl ?_
        refine o_assign gn rfl rfl ?_
        refine wl_end ?_
        refine w_cond rfl (fun hb => ?_) fun hb => ?_
        · skip
          refine w_seq ?_
          refine w_region (by kernel_rfl) ?_
          refine o_fieldAddr (off := 2) gn rfl rfl (by kernel_rfl) ?_
          refine o_load gn rfl rfl (by kernel_rfl) ga rfl ?_
          refine o_call [_] gn rfl rfl (by kernel_rfl) rfl (C.mono (c7 (hk.ext (hx.trans e4))) ?_)
          rintro v5 h5 ⟨e5, p5, s5, ok5, rfl, q5⟩
          refine ⟨ag0, ?_⟩
          refine o_move gn rfl rfl ?_
          refine o_extract gn rfl rfl rfl ?_
          refine o_extract gn rfl rfl rfl ?_
          refine o_extract gn rfl rfl rfl ?_
          refine o_assign gn rfl rfl ?_
          refine o_assign gn rfl rfl ?_
          refine o_assign gn rfl rfl ?_
          refine wl_end ?_
          refine w_seq ?_
          refine w_seq ?_
          refine w_region (by kernel_rfl) ?_
          refine o_move gn rfl rfl ?_
          refine o_not gn rfl rfl ?_
          refine wl_end ?_
          refine w_cond rfl (fun hb => ?_) fun hb => ?_
          · skip
            refine w_seq ?_
            refine w_region (by kernel_rfl) ?_
            refine o_orc (f := 8) (v := .bool true) gn rfl (by kernel_rfl) (by kernel_rfl) ag0 ?_
            refine o_assign gn rfl rfl ?_
            refine wl_end ?_
            refine w_ret ?_
            refine ⟨.inl rfl, _, rfl, ?_⟩
            rfl
          · skip
            have hok : ok5 = true := by simpa using hb
            subst hok
            obtain ⟨bk, dk, N, ok', odk, rfl, rfl, tk⟩ := q5 rfl
            have t5 := t4.ext e5
            have e5n := e5.n
            refine w_skip ?_
            refine w_seq ?_
            refine w_region (by kernel_rfl) ?_
            refine o_move gn rfl rfl ?_
            refine o_call [_] gn rfl rfl (by kernel_rfl) rfl (C.mono (c19 t5.r (by omega)) ?_)
            rintro v6 h6 ⟨bw, oww, rfl, xw, fw, e6⟩
            have t6 := t5.ext e6
            have tk6 := tk.ext e6
            have e6n := e6.n
            refine ⟨ag0, ?_⟩
            refine o_assign gn rfl rfl ?_
            refine wl_end ?_
            refine w_seq ?_
            refine w_region (by kernel_rfl) ?_
            refine o_move gn rfl rfl ?_
            refine o_move gn rfl rfl ?_
            refine o_call [_, _] gn rfl rfl (by kernel_rfl) rfl (C.mono (c20 t6.r tk6.r (by omega)) ?_)
            rintro v7 h7 ⟨at1, L1, od1, rfl, B1, rd7, g7, f7⟩
            have g7n := g7.n
            have x7 := t6.x.keep g7 (fun z hz hj => t6.ap z hz hj)
            have xw7 := xw.keep g7 (fun z hz hj => by have := fw z hz; have := htd z hj; omega)
            have tk7 := tk6.x.keep g7 (fun z hz hj => by have := tk.on z hz; have := htd z hj; omega)
            refine ⟨ag0, ?_⟩
            refine o_assign gn rfl rfl ?_
            refine wl_end ?_
            refine w_seq ?_
            refine w_region (by kernel_rfl) ?_
            refine o_move gn rfl rfl ?_
            refine o_move gn rfl rfl ?_
            refine o_call [_, _] gn rfl rfl (by kernel_rfl) rfl (C.mono (c21 x7 tk7 (by omega)) ?_)
            rintro v8 h8 ⟨at2, L2, own2, rfl, B2, x8, g8, f8⟩
            obtain ⟨rfl, rfl⟩ := B1.eq B2
            have xw8 := xw7.keep g8 (fun z hz hj => by have := fw z hz; have := htl z hj; omega)
            have rd8 := rd7.keep g8 (fun z hz hj => by
              rcases f7 z hz with h9 | h9
              · exact t6.ap z hj h9
              · have := htl z hj; omega)
            have hshut := begin_shut B1
            have hbeg := begin_bd B1 t.bd
            obtain ⟨sN, sO, W1, W2, xr, _⟩ := xw8
            obtain ⟨wN, wO, rfl, rfl⟩ := xr.val
            have hwt := xr.top
            refine ⟨ag0, ?_⟩
            refine o_move gn rfl rfl ?_
            refine o_nei gn rfl rfl rfl ?_
            refine o_move gn rfl rfl ?_
            refine o_or (n := 16) rfl rfl rfl gn rfl (fun hb => by
                refine o_move (gy rfl rfl rfl hb) rfl rfl ?_
                refine o_move (gy rfl rfl rfl hb) rfl rfl ?_
                refine o_nilCheck (gy rfl rfl rfl hb) rfl rfl ?_
                refine o_fieldAddr (off := 0) (gy rfl rfl rfl hb) rfl rfl (by kernel_rfl) ?_
                refine o_load (gy rfl rfl rfl hb) rfl rfl (by kernel_rfl) hwt rfl ?_
                refine o_len (gy rfl rfl rfl hb) rfl rfl (by kernel_rfl) ?_
                refine o_lss (gy rfl rfl rfl hb) rfl rfl rfl ?_
                refine o_move (gy rfl rfl rfl hb) rfl rfl ?_
                refine o_and (n := 7) rfl rfl rfl (gy rfl rfl rfl hb) rfl (fun hb => by
                    refine o_move (gy rfl rfl rfl hb) rfl rfl ?_
                    refine o_nilCheck (gy rfl rfl rfl hb) rfl rfl ?_
                    refine o_fieldAddr (off := 1) (gy rfl rfl rfl hb) rfl rfl (by kernel_rfl) ?_
                    refine o_load (gy rfl rfl rfl hb) rfl rfl (by kernel_rfl) hwt rfl ?_
                    refine o_move (gy rfl rfl rfl hb) rfl rfl ?_
                    have hal : at1 < L.length := by simpa using hb
                    obtain ⟨b2, m2, ea2, hg22, hm2, hB2, hbl2⟩ := xr.atO (by omega)
                    refine o_indexAddr (zz := 1) (gy rfl rfl rfl hb) rfl (congrArg (fun q => some (Value.slice q L.length L.length)) ea2) rfl (by kernel_rfl) (by omega) (by omega) ?_
                    refine o_load (gy rfl rfl rfl hb) rfl rfl (by kernel_rfl) hg22 (osL_at hal (by omega)) ?_
                    exact wl_end ⟨rfl, rfl, 7, rfl, rfl⟩) ?_
                exact wl_end ⟨rfl, rfl, 9, rfl, rfl⟩) ?_
            refine wl_end ?_
            refine w_cond rfl (fun hb => ?_) fun hb => ?_
            · skip
              refine w_seq ?_
              refine w_region (by kernel_rfl) ?_
              refine o_assign gn rfl rfl ?_
              refine wl_end ?_
              refine w_ret ?_
              refine ⟨.inl rfl, _, rfl, ?_⟩
              rw [hshut] at hb
              simp at hb
            · skip
              refine w_skip ?_
              refine w_seq ?_
              refine w_region (by kernel_rfl) ?_
              refine o_move gn rfl rfl ?_
              refine o_move gn rfl rfl ?_
              refine o_call [_, _] gn rfl rfl (by kernel_rfl) rfl (c_pure (c29 x8 rd8 (by omega)) ⟨ag0, ?_⟩)
              refine o_not gn rfl rfl ?_
              refine wl_end ?_
              refine w_cond rfl (fun hb => ?_) fun hb => ?_
              · skip
                refine w_seq ?_
                refine w_region (by kernel_rfl) ?_
                refine o_assign gn rfl rfl ?_
                refine wl_end ?_
                refine w_ret ?_
                refine ⟨.inl rfl, _, rfl, ?_⟩
                simp at hb
              · skip
                refine w_skip ?_
                refine w_region (by kernel_rfl) ?_
                refine o_move gn rfl rfl ?_
                refine o_add gn rfl rfl rfl (by omega) (by omega) ?_
                refine o_assign gn rfl rfl ?_
                refine wl_end ?_
                have hod1 : ∀ z, z ∈ od1 → h.n ≤ z := fun z hz => by
                  rcases f7 z hz with h9 | h9
                  · exact t.dn z h9
                  · omega
                have hX := (((hx.trans e4).trans e5).trans e6)
                exact ⟨n3 - (i + 1), by omega, [(0, _), (3, ptrV b), (4, ptrV d), (5, iV ((i + 1 : Nat) : Int))], (by repeat (first | exact trivial | refine ⟨rfl, ?_⟩)), i + 1, b, d, L1, own2, od1, by omega, rfl, ⟨x8, rd8, fun z hz hj => by
                  rcases f8 z hz with h9 | h9
                  · rcases f7 z hj with h10 | h10
                    · exact t6.ap z h9 h10
                    · have := htl z h9; omega
                  · have := rd7.lt z hj; omega, fun z hz => by
                  rcases f8 z hz with h9 | h9
                  · exact t.on z h9
                  · omega, hod1, hbeg.1, by omega⟩, (hX.of g7 t.dn).of g8 t.on, rfl⟩
        · skip
          refine w_seq ?_
          refine w_region (by kernel_rfl) ?_
          refine o_eqi gn rfl rfl rfl ?_
          refine o_assign gn rfl rfl ?_
          refine wl_end ?_
          refine w_cond rfl (fun hb => ?_) fun hb => ?_
          · skip
            refine w_seq ?_
            refine w_region (by kernel_rfl) ?_
            refine o_move gn rfl rfl ?_
            refine o_fieldAddr (off := 1) gn rfl rfl (by kernel_rfl) ?_
            refine o_load gn rfl rfl (by kernel_rfl) ga rfl ?_
            refine o_call [_, _] gn rfl rfl (by kernel_rfl) rfl (C.mono (c22 (i := at') t4.x (by omega)) ?_)
            rintro v5 h5 ⟨x5, g5⟩
            have ga5 := (g5.get hq.n (by omega) (fun hj => by have := htl _ hj; omega)).trans ga
            have hebd := end_bd (j := at') t.bd
            refine ⟨ag0, ?_⟩
            refine wl_end ?_
            refine w_region (by kernel_rfl) ?_
            refine o_move gn rfl rfl ?_
            refine o_fieldAddr (off := 1) gn rfl rfl (by kernel_rfl) ?_
            refine o_load gn rfl rfl (by kernel_rfl) ga5 rfl ?_
            refine o_call [_, _] gn rfl rfl (by kernel_rfl) rfl (C.mono (c23 (i := at') (t4.r.keep g5 (fun z hz hj => t.ap z hj hz)) (by omega)) ?_)
            rintro v6 h6 ⟨r6, g6⟩
            have x6 := x5.keep g6 t.ap
            refine ⟨ag0, ?_⟩
            refine wl_end ?_
            refine w_seq ?_
            refine w_region (by kernel_rfl) ?_
            refine o_move gn rfl rfl ?_
            refine o_move gn rfl rfl ?_
            refine o_call [_, _] gn rfl rfl (by kernel_rfl) rfl (c_pure (c29 x6 r6 (by omega)) ⟨ag0, ?_⟩)
            refine o_not gn rfl rfl ?_
            refine wl_end ?_
            refine w_cond rfl (fun hb => ?_) fun hb => ?_
            · skip
              refine w_seq ?_
              refine w_region (by kernel_rfl) ?_
              refine o_assign gn rfl rfl ?_
              refine wl_end ?_
              refine w_ret ?_
              refine ⟨.inl rfl, _, rfl, ?_⟩
              simp at hb
            · skip
              refine w_skip ?_
              refine w_region (by kernel_rfl) ?_
              refine o_move gn rfl rfl ?_
              refine o_add gn rfl rfl rfl (by omega) (by omega) ?_
              refine o_assign gn rfl rfl ?_
              refine wl_end ?_
              exact ⟨n3 - (i + 1), by omega, [(0, _), (3, ptrV b), (4, ptrV d), (5, iV ((i + 1 : Nat) : Int))], (by repeat (first | exact trivial | refine ⟨rfl, ?_⟩)), i + 1, b, d, _, own, od, by omega, rfl, ⟨x6, r6, t.ap, t.on, t.dn, hebd.1, by omega⟩, ((hx.trans e4).of g5 t.on).of g6 t.dn, rfl⟩
          · skip
            refine w_seq ?_
            refine w_region (by kernel_rfl) ?_
            refine o_eqi gn rfl rfl rfl ?_
            refine o_assign gn rfl rfl ?_
            refine wl_end ?_
            refine w_cond rfl (fun hb => ?_) fun hb => ?_
            · skip
              refine w_seq ?_
              refine w_draw [(0, []), (1, []), (2, []), (4, []), (5, []), (6, []), (3, [6]), (7, []), (8, [])] (by kernel_rfl) (by kernel_rfl) (by kernel_rfl) (by kernel_rfl) ?_
              refine o_move gn rfl rfl ?_
              refine o_fieldAddr (off := 1) gn rfl rfl (by kernel_rfl) ?_
              refine o_load gn rfl rfl (by kernel_rfl) ga rfl ?_
              refine o_move gn rfl rfl ?_
              refine o_fieldAddr (off := 1) gn rfl rfl (by kernel_rfl) ?_
              refine o_load gn rfl rfl (by kernel_rfl) ga rfl ?_
              refine o_call [_, _] gn rfl rfl (by kernel_rfl) rfl (C.mono (c24 (i := at') t4.x (by omega) hbd) ?_)
              rintro v5 h5 ⟨rfl, x5, g5⟩
              have ga5 := (g5.get hq.n (by omega) (fun hj => by have := htl _ hj; omega)).trans ga
              have htbd := tick_bd (j := at') t.bd
              refine ⟨(ag1 (ag_load gn rfl (by kernel_rfl) (by assumption) rfl rfl same_int) ag0), ?_⟩
              refine o_call [_, _] gn rfl rfl (by kernel_rfl) rfl (C.mono (c25 (i := at') (t4.r.keep g5 (fun z hz hj => t.ap z hj hz)) (by omega) hbd) ?_)
              rintro v6 h6 ⟨rfl, r6, g6⟩
              have x6 := x5.keep g6 t.ap
              refine ⟨ag0, ?_⟩
              refine o_nei gn rfl rfl rfl ?_
              refine wl_end ?_
              refine w_cond rfl (fun hb => ?_) fun hb => ?_
              · skip
                refine w_seq ?_
                refine w_region (by kernel_rfl) ?_
                refine o_assign gn rfl rfl ?_
                refine wl_end ?_
                refine w_ret ?_
                refine ⟨.inl rfl, _, rfl, ?_⟩
                simp at hb
              · skip
                refine w_skip ?_
                refine w_seq ?_
                refine w_region (by kernel_rfl) ?_
                refine o_move gn rfl rfl ?_
                refine o_move gn rfl rfl ?_
                refine o_call [_, _] gn rfl rfl (by kernel_rfl) rfl (c_pure (c29 x6 r6 (by omega)) ⟨ag0, ?_⟩)
                refine o_not gn rfl rfl ?_
                refine wl_end ?_
                refine w_cond rfl (fun hb => ?_) fun hb => ?_
                · skip
                  refine w_seq ?_
                  refine w_region (by kernel_rfl) ?_
                  refine o_assign gn rfl rfl ?_
                  refine wl_end ?_
                  refine w_ret ?_
                  refine ⟨.inl rfl, _, rfl, ?_⟩
                  simp at hb
                · skip
                  refine w_skip ?_
                  refine w_region (by kernel_rfl) ?_
                  refine o_move gn rfl rfl ?_
                  refine o_add gn rfl rfl rfl (by omega) (by omega) ?_
                  refine o_assign gn rfl rfl ?_
                  refine wl_end ?_
                  exact ⟨n3 - (i + 1), by omega, [(0, _), (3, ptrV b), (4, ptrV d), (5, iV ((i + 1 : Nat) : Int))], (by repeat (first | exact trivial | refine ⟨rfl, ?_⟩)), i + 1, b, d, _, own, od, by omega, rfl, ⟨x6, r6, t.ap, t.on, t.dn, htbd.1, by omega⟩, ((hx.trans e4).of g5 t.on).of g6 t.dn, rfl⟩
            · skip
              refine w_seq ?_
              refine w_region (by kernel_rfl) ?_
              refine o_eqi gn rfl rfl rfl ?_
              refine o_assign gn rfl rfl ?_
              refine wl_end ?_
              refine w_cond rfl (fun hb => ?_) fun hb => ?_
              · skip
                refine w_seq ?_
                refine w_region (by kernel_rfl) ?_
                refine o_move gn rfl rfl ?_
                refine o_call [_] gn rfl rfl (by kernel_rfl) rfl (C.mono (c26 t4.x (by omega)) ?_)
                rintro v5 h5 ⟨b5, o5, rfl, x5, f5, e5⟩
                refine ⟨ag0, ?_⟩
                refine o_move gn rfl rfl ?_
                refine o_call [_] gn rfl rfl (by kernel_rfl) rfl (C.mono (c19 (t4.r.ext e5) (by omega)) ?_)
                rintro v6 h6 ⟨d6, o6, rfl, r6, f6, e6⟩
                have e5n := e5.n
                have e6n := e6.n
                have x6 := x5.ext e6
                have t6 := (t4.ext e5).ext e6
                have ga6 := ((e5.trans e6).get hq.n (by omega)).trans ga
                have htbd := tick_bd (j := at') t.bd
                refine ⟨ag0, ?_⟩
                refine o_assign gn rfl rfl ?_
                refine o_assign gn rfl rfl ?_
                refine wl_end ?_
                refine w_seq ?_
                refine w_seq ?_
                refine w_region (by kernel_rfl) ?_
                refine o_move gn rfl rfl ?_
                refine o_move gn rfl rfl ?_
                refine o_call [_, _] gn rfl rfl (by kernel_rfl) rfl (c_pure (c27 x6 t6.x (by omega)) ⟨ag0, ?_⟩)
                refine o_not gn rfl rfl ?_
                refine o_move gn rfl rfl ?_
                refine o_or (n := 4) rfl rfl rfl gn rfl (fun hb => by
                    refine o_move (gy rfl rfl rfl hb) rfl rfl ?_
                    refine o_move (gy rfl rfl rfl hb) rfl rfl ?_
                    refine o_call [_, _] (gy rfl rfl rfl hb) rfl rfl (by kernel_rfl) rfl (c_pure (c27 t6.x x6 (by omega)) ⟨ag0, ?_⟩)
                    refine o_not (gy rfl rfl rfl hb) rfl rfl ?_
                    exact wl_end ⟨rfl, rfl, 4, rfl, rfl⟩) ?_
                refine wl_end ?_
                refine w_cond rfl (fun hb => ?_) fun hb => ?_
                · skip
                  refine w_seq ?_
                  refine w_region (by kernel_rfl) ?_
                  refine o_assign gn rfl rfl ?_
                  refine wl_end ?_
                  refine w_ret ?_
                  refine ⟨.inl rfl, _, rfl, ?_⟩
                  simp at hb
                · skip
                  refine w_skip ?_
                  refine w_seq ?_
                  refine w_region (by kernel_rfl) ?_
                  refine o_move gn rfl rfl ?_
                  refine o_fieldAddr (off := 1) gn rfl rfl (by kernel_rfl) ?_
                  refine o_load gn rfl rfl (by kernel_rfl) ga6 rfl ?_
                  refine o_call [_, _] gn rfl rfl (by kernel_rfl) rfl (C.mono (c24 (i := at') x6 (by omega) hbd) ?_)
                  rintro v7 h7 ⟨rfl, x7, g7⟩
                  have h5l := x5.lt
                  have ga7 := (g7.get hq.n (by omega) (fun hj => by have := f5 _ hj; omega)).trans ga6
                  have t7 := t6.keep g7 (fun z hz hj => by have := f5 z hj; have := htl z hz; omega) (fun z hz hj => by have := f5 z hj; have := htd z hz; omega)
                  have r7 := r6.keep g7 (fun z hz hj => by have := f6 z hz; have := h5l z hj; omega)
                  refine ⟨ag0, ?_⟩
                  refine wl_end ?_
                  refine w_seq ?_
                  refine w_region (by kernel_rfl) ?_
                  refine o_move gn rfl rfl ?_
                  refine o_fieldAddr (off := 1) gn rfl rfl (by kernel_rfl) ?_
                  refine o_load gn rfl rfl (by kernel_rfl) ga7 rfl ?_
                  refine o_call [_, _] gn rfl rfl (by kernel_rfl) rfl (C.mono (c25 (i := at') r7 (by omega) hbd) ?_)
                  rintro v8 h8 ⟨rfl, r8, g8⟩
                  have h6l := r6.lt
                  have x8 := x7.keep g8 (fun z hz hj => by have := f6 z hj; have := h5l z hz; omega)
                  have t8 := t7.keep g8 (fun z hz hj => by have := f6 z hj; have := htl z hz; omega) (fun z hz hj => by have := f6 z hj; have := htd z hz; omega)
                  refine ⟨ag0, ?_⟩
                  refine wl_end ?_
                  refine w_seq ?_
                  refine w_seq ?_
                  refine w_region (by kernel_rfl) ?_
                  refine o_move gn rfl rfl ?_
                  refine o_move gn rfl rfl ?_
                  refine o_call [_, _] gn rfl rfl (by kernel_rfl) rfl (c_pure (c27 x8 t8.x (by omega)) ⟨ag0, ?_⟩)
                  refine o_move gn rfl rfl ?_
                  refine o_move gn rfl rfl ?_
                  refine o_call [_, _] gn rfl rfl (by kernel_rfl) rfl (c_pure (c28 t8.r r8 (by omega)) ⟨ag0, ?_⟩)
                  refine o_neb gn rfl rfl rfl (by kernel_rfl) ?_
                  refine o_move gn rfl rfl ?_
                  refine o_or (n := 4) rfl rfl rfl gn rfl (fun hb => by
                      refine o_move (gy rfl rfl rfl hb) rfl rfl ?_
                      refine o_move (gy rfl rfl rfl hb) rfl rfl ?_
                      refine o_call [_, _] (gy rfl rfl rfl hb) rfl rfl (by kernel_rfl) rfl (c_pure (c29 t8.x t8.r (by omega)) ⟨ag0, ?_⟩)
                      refine o_not (gy rfl rfl rfl hb) rfl rfl ?_
                      exact wl_end ⟨rfl, rfl, 4, rfl, rfl⟩) ?_
                  refine wl_end ?_
                  refine w_cond rfl (fun hb => ?_) fun hb => ?_
                  · skip
                    refine w_seq ?_
                    refine w_region (by kernel_rfl) ?_
                    refine o_assign gn rfl rfl ?_
                    refine wl_end ?_
                    refine w_ret ?_
                    refine ⟨.inl rfl, _, rfl, ?_⟩
                    simp [eq_comm] at hb
                  · skip
                    refine w_skip ?_
                    refine w_seq ?_
                    refine w_region (by kernel_rfl) ?_
                    refine o_move gn rfl rfl ?_
                    refine o_assign gn rfl rfl ?_
                    refine wl_end ?_
                    refine w_region (by kernel_rfl) ?_
                    refine o_move gn rfl rfl ?_
                    refine o_assign gn rfl rfl ?_
                    refine wl_end ?_
                    refine w_seq ?_
                    refine w_region (by kernel_rfl) ?_
                    refine o_move gn rfl rfl ?_
                    refine o_move gn rfl rfl ?_
                    refine o_call [_, _] gn rfl rfl (by kernel_rfl) rfl (c_pure (c29 x8 r8 (by omega)) ⟨ag0, ?_⟩)
                    refine o_not gn rfl rfl ?_
                    refine wl_end ?_
                    refine w_cond rfl (fun hb => ?_) fun hb => ?_
                    · skip
                      refine w_seq ?_
                      refine w_region (by kernel_rfl) ?_
                      refine o_assign gn rfl rfl ?_
                      refine wl_end ?_
                      refine w_ret ?_
                      refine ⟨.inl rfl, _, rfl, ?_⟩
                      simp at hb
                    · skip
                      refine w_skip ?_
                      refine w_region (by kernel_rfl) ?_
                      refine o_move gn rfl rfl ?_
                      refine o_add gn rfl rfl rfl (by omega) (by omega) ?_
                      refine o_assign gn rfl rfl ?_
                      refine wl_end ?_
                      have hX := ((hx.trans e4).trans e5).trans e6
                      exact ⟨n3 - (i + 1), by omega, [(0, _), (3, ptrV b5), (4, ptrV d6), (5, iV ((i + 1 : Nat) : Int))], (by repeat (first | exact trivial | refine ⟨rfl, ?_⟩)), i + 1, b5, d6, _, o5, o6, by omega, rfl, ⟨x8, r8, fun z hz hj => by have := f6 z hj; have := h5l z hz; omega, fun z hz => by have := f5 z hz; omega, fun z hz => by have := f6 z hz; omega, htbd.1, by omega⟩, (hX.of g7 (fun z hz => by have := f5 z hz; omega)).of g8 (fun z hz => by have := f6 z hz; omega), rfl⟩
              · skip
                refine w_skip ?_
                refine w_seq ?_
                refine w_region (by kernel_rfl) ?_
                refine o_move gn rfl rfl ?_
                refine o_move gn rfl rfl ?_
                refine o_call [_, _] gn rfl rfl (by kernel_rfl) rfl (c_pure (c29 t4.x t4.r (by omega)) ⟨ag0, ?_⟩)
                refine o_not gn rfl rfl ?_
                refine wl_end ?_
                refine w_cond rfl (fun hb => ?_) fun hb => ?_
                · skip
                  refine w_seq ?_
                  refine w_region (by kernel_rfl) ?_
                  refine o_assign gn rfl rfl ?_
                  refine wl_end ?_
                  refine w_ret ?_
                  refine ⟨.inl rfl, _, rfl, ?_⟩
                  simp at hb
                · skip
                  refine w_skip ?_
                  refine w_region (by kernel_rfl) ?_
                  refine o_move gn rfl rfl ?_
                  refine o_add gn rfl rfl rfl (by omega) (by omega) ?_
                  refine o_assign gn rfl rfl ?_
                  refine wl_end ?_
                  exact ⟨n3 - (i + 1), by omega, [(0, _), (3, ptrV b), (4, ptrV d), (5, iV ((i + 1 : Nat) : Int))], (by repeat (first | exact trivial | refine ⟨rfl, ?_⟩)), i + 1, b, d, L, own, od, by omega, rfl, ⟨t4.x, t4.r, t.ap, t.on, t.dn, fun p hp => by have := t.bd p hp; omega, by omega⟩, hx.trans e4, rfl⟩
      · skip
        refine w_exit ?_
        refine thn_exit ?_
        refine rnd_exit ?_
        refine blk_eq ?_
        refine w_seq ?_
        refine w_region (by kernel_rfl) ?_
        refine o_orc (f := 8) (v := .bool true) gn rfl (by kernel_rfl) (by kernel_rfl) ag0 ?_
        refine o_assign gn rfl rfl ?_
        refine wl_end ?_
        refine w_ret ?_
        refine ⟨.inl rfl, _, rfl, ?_⟩
        rfl

end Go.Proofs.Ytkhnhaijnnpjhaa


namespace Go.Proofs.Ytkhnhaijnnpjhaa
open Go.ChangeShapes Go.WideShapes Go.ChangeAt Go.RowKit Go.Deep Go.X

set_option maxRecDepth 100000

theorem clk_int : Try.prog.underlying 3 = some (.int .i64) := by kernel_rfl
theorem clk_bool : Try.prog.underlying 4 = some .bool := by kernel_rfl
theorem clk_own : ownKnob Try.prog.godebug = none := by kernel_rfl
theorem clk_laid : laidOutB Try.prog = true := by kernel_rfl
theorem clk_c3 : Try.prog.cellsOf 3 = 1 := by kernel_rfl

theorem marks_slice : Try.prog.underlying 22 = some (.slice 73) := by kernel_rfl
theorem mark_cells : Try.prog.cellsOf 73 = 2 := by kernel_rfl
noncomputable def markFs : Array Field := match Try.prog.underlying 73 with | some (.struct fs) => fs | _ => #[]
theorem mark_struct : Try.prog.underlying 73 = some (.struct markFs) := by kernel_rfl

theorem mark_rd {h : Hp} {cs : List Value} (x : Rd Try.prog h 73 cs) : ∃ act : Int × Int, cs = [iV act.1, iV act.2] ∧ act.2 ≤ 9223372036854775807 := by
  have hl := (x.inv_struct mark_struct).1
  rw [mark_cells] at hl
  obtain ⟨n0, e0, _⟩ := x.fld_int mark_struct 0 0 3 rfl ⟨rfl, rfl⟩ clk_int clk_c3
  obtain ⟨n1, e1, _, hm⟩ := x.fld_int mark_struct 1 1 3 rfl ⟨rfl, rfl⟩ clk_int clk_c3
  match cs, hl with
  | [a0, a1], _ =>
    simp only [List.getElem?_cons_zero, List.getElem?_cons_succ, Option.some.injEq] at e0 e1
    exact ⟨(n0, n1), by rw [e0, e1], hm⟩

theorem marks_in {h : Hp} {v : Value} (x : Rd Try.prog h 22 [v]) : ∃ a n c, v = .slice a n c ∧ ActsK h a n := by
  obtain ⟨a, n, c, e, _, _, _, _, hrow⟩ := x.inv_slice marks_slice (by rw [mark_cells]; omega)
  simp only [List.cons.injEq, and_true] at e
  subst e
  rcases hrow with rfl | ⟨b, o, xs, u, rfl, hb, hg, hl, hr⟩
  · exact ⟨a, 0, c, rfl, .inl rfl⟩
  · rw [mark_cells] at hl hr
    refine ⟨_, n, c, rfl, .inr ⟨b, o, xs, u, 1, rfl, hg, hb, fun i hi => ?_⟩⟩
    obtain ⟨act, ha, hm⟩ := mark_rd (hr i hi)
    have hlen := congrArg List.length ha
    simp only [List.length_take, List.length_drop, List.length_cons, List.length_nil] at hlen
    exact ⟨by omega, act.1, act.2, ha, hm⟩

theorem marks_at {H : Type} {enc : TypeId × Value → H} {W : World} {r : Reach} {base : Nat} {v : Value} {d : DataW H} {ps : List MemPlace} (hok : Value.okWide Try.prog W r base 22 v) (h : DataW.Trod enc Try.prog W 0 (fun _ => true) true 22 v d ps) :
    ∃ a n c, v = .slice a n c ∧ VRel (Mp.all W) v v ∧ ActsK (Hp.all W) a n := by
  obtain ⟨hv, _, _, _, _, x⟩ := arg_rd_slice marks_slice hok h
  obtain ⟨a, n, c, rfl, hA⟩ := marks_in x
  exact ⟨a, n, c, rfl, hv, hA⟩

end Go.Proofs.Ytkhnhaijnnpjhaa
