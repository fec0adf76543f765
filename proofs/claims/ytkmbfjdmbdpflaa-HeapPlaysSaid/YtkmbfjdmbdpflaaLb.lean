/- Chapter 8, the program's side: maps.Clone, Copy. Conditions: none. Chapter 8, the program's side: slices.Equal. Conditions: none. Chapter 8, the document's side: Copy. Conditions: none. Chapter 8, the document's side: Same. Conditions: none. Chapter 8, the program's side: what All yields: a copy's objects, one by one, to whatever takes them. Conditions: none. Chapter 8: the law's all: it goes over a heap's objects twice, the first time up to so many, and finds the document's. Conditions: none. HeapPlays, in the calculus. Conditions: the acts are as they are read. Chapter 8: the arguments of its laws, as X has them. Conditions: none. Chapter 8, the program's side: Same. Conditions: none. HeapCopies, in the calculus. Conditions: the acts are as they are read. -/
import Derived.Test.YtkmbfjdmbdpflaaLa
import Derived.Test.YtkmbfjdmbdpflaaXc
namespace Go.Proofs.Ytkmbfjdmbdpflaa
open Go.X

/-- maps.Clone -/
theorem c69 {h : Hp} {r cl : Nat} {es : List MapEntry} (hg : h.get r = some (.map es cl)) : C heapE 69 [.map (some r)] h fun v h' => v = .map (some h.n) ∧ h'.get h.n = some (.map es cl) ∧ Ext h h' ∧ h'.n = h.n + 1 := by
  refine c_enter (fu := Try.f69) (by kernel_rfl) rfl ?_
  refine w_seq ?_
  refine w_region (by kernel_rfl) ?_
  refine o_assign gn rfl rfl ?_
  refine wl_end ?_
  refine w_seq ?_
  refine w_seq ?_
  refine w_region (by kernel_rfl) ?_
  refine o_move gn rfl rfl ?_
  refine o_eqm (kt := 3) (et := 3) gn rfl rfl rfl (by kernel_rfl) ?_
  refine wl_end ?_
  refine w_cond rfl (fun hb => ?_) fun hb => ?_
  · skip
    refine w_seq ?_
    refine w_region (by kernel_rfl) ?_
    refine o_assign gn rfl rfl ?_
    refine wl_end ?_
    refine w_ret ?_
    refine ⟨.inl rfl, _, rfl, ?_⟩
    cases hb
  · skip
    refine w_skip ?_
    refine w_seq ?_
    refine w_region (by kernel_rfl) ?_
    refine o_move gn rfl rfl ?_
    refine o_iface (kt := 3) (et := 3) gn rfl rfl (by kernel_rfl) ?_
    refine o_clone gn rfl rfl rfl hg ag0 ?_
    skip
    skip
    refine o_assert (kt := 3) (et := 3) gn rfl rfl (by kernel_rfl) ?_
    refine o_assign gn rfl rfl ?_
    refine wl_end ?_
    refine w_ret ?_
    refine ⟨.inl rfl, _, rfl, ?_⟩
    exact ⟨rfl, Hp.get_alloc_self _ _, Ext.alloc _ _, Hp.n_alloc _ _⟩

/-- A heap whose map is not looked at. -/
structure HeapB (h : Hp) (b : Nat) (obs : List Ob) (ps : List Nat) (vb : List (List Nat)) (sa : Value) (Ba : List Nat) (r : Nat) : Prop where
  top : h.get b = some (.cells [sa, .map (some r)] 87 0)
  all : Sl 99 h sa (ps.map ptrV) Ba
  lps : ps.length = obs.length
  lvb : vb.length = obs.length
  each : ∀ i (hi : i < obs.length), ObAt h (ps[i]'(by omega)) obs[i] (vb[i]'(by omega))
  nodup : (b :: r :: (Ba ++ ps ++ vb.flatten)).Nodup
  lt : ∀ i, i ∈ b :: r :: (Ba ++ ps ++ vb.flatten) → i < h.n

section
variable {h h' : Hp} {b : Nat} {obs : List Ob} {ps : List Nat} {vb : List (List Nat)} {sa : Value} {Ba : List Nat} {r : Nat} {M : Ms} {cl : Nat}

theorem HeapB.dis (hl : HeapB h b obs ps vb sa Ba r) : b ≠ r ∧ b ∉ Ba ∧ r ∉ Ba ∧ (∀ i, i ∈ ps → i ≠ b ∧ i ≠ r ∧ i ∉ Ba) ∧ (∀ i, i ∈ vb.flatten → i ≠ b ∧ i ≠ r ∧ i ∉ Ba) := by
  have := hl.nodup
  generalize vb.flatten = F at *
  simp only [List.nodup_cons, List.nodup_append, List.mem_append, List.mem_cons, List.not_mem_nil, or_false] at this
  grind

theorem HeapB.push {p : Nat} {o : Ob} {sa' : Value} {bs Ba' : List Nat} (hl : HeapB h b obs ps vb sa Ba r) (plt : p < h.n) (hpo : p ∉ HeapR.own b r Ba ps vb) (hbs : ∀ i, i ∈ bs → i ∉ HeapR.own b r Ba ps vb) (hbl : ∀ i, i ∈ bs → i < h.n) (hpb : p ∉ bs) (hbn : bs.Nodup)
    (g : ExtB (p :: b :: r :: Ba) h h') (top : h'.get b = some (.cells [sa', .map (some r)] 87 0)) (all : Sl 99 h' sa' ((ps ++ [p]).map ptrV) Ba') (hBa : ∀ i, i ∈ Ba' → i ∈ Ba ∨ h.n ≤ i) (ob : ObAt h' p o bs) : HeapB h' b (obs ++ [o]) (ps ++ [p]) (vb ++ [bs]) sa' Ba' r := by
  obtain ⟨d1, d2, d3, d4, d5⟩ := hl.dis
  have hown : ∀ i, i ∈ ps ∨ i ∈ vb.flatten → i ∈ HeapR.own b r Ba ps vb := fun i hi => by simp only [HeapR.own, List.mem_cons, List.mem_append]; rcases hi with h1 | h1 <;> simp [h1]
  refine ⟨top, all, by simp [hl.lps], by simp [hl.lvb], fun i hi => ?_, nodup_push hl.nodup hl.lt hpo plt hbs hbl hpb hbn hBa all.nodup, fun i hi => ?_⟩
  · have e1 := hl.lps; have e2 := hl.lvb
    by_cases hlt : i < obs.length
    · simp only [List.getElem_append_left (show i < ps.length by omega), List.getElem_append_left (show i < vb.length by omega), List.getElem_append_left hlt]
      have hm : ps[i] ∈ ps := List.getElem_mem _
      refine (hl.each i hlt).keep g (fun hx => ?_) fun j hj hx => ?_
      · have := d4 _ hm
        simp only [List.mem_cons] at hx
        rcases hx with hx | hx | hx | hx
        · exact hpo (hx ▸ hown _ (.inl hm))
        · exact this.1 hx
        · exact this.2.1 hx
        · exact this.2.2 hx
      · have hf : j ∈ vb.flatten := List.mem_flatten.2 ⟨_, List.getElem_mem _, hj⟩
        have := d5 _ hf
        simp only [List.mem_cons] at hx
        rcases hx with hx | hx | hx | hx
        · exact hpo (hx ▸ hown _ (.inr hf))
        · exact this.1 hx
        · exact this.2.1 hx
        · exact this.2.2 hx
    · have : i = obs.length := by simp at hi; omega
      subst this
      simp only [List.getElem_append_right (show ps.length ≤ obs.length by omega), List.getElem_append_right (show vb.length ≤ obs.length by omega), List.getElem_append_right (Nat.le_refl obs.length), List.getElem_singleton]
      exact ob
  · have := g.n
    simp only [List.mem_cons, List.mem_append, List.flatten_append, List.flatten_cons, List.flatten_nil, List.append_nil, List.not_mem_nil, or_false] at hi
    have k := fun hi => Nat.lt_of_lt_of_le (hl.lt i hi) this
    rcases hi with rfl | rfl | (hi | hi | hi) | hi | hi
    · exact k (by simp)
    · exact k (by simp)
    · exact all.lt _ hi
    · exact k (by simp [hi])
    · exact Nat.lt_of_lt_of_le (hi ▸ plt) this
    · exact k (by rw [List.mem_cons, List.mem_cons, List.mem_append]; exact .inr (.inr (.inr hi)))
    · exact Nat.lt_of_lt_of_le (hbl i hi) this

theorem HeapB.keep {cs : List Nat} (x : HeapB h b obs ps vb sa Ba r) (g : ExtB cs h h') (hd : ∀ i, i ∈ HeapR.own b r Ba ps vb → i ∉ cs) : HeapB h' b obs ps vb sa Ba r := by
  have hb := hd b (by simp [HeapR.own])
  refine ⟨by rw [g.get b (x.lt b (by simp)) hb]; exact x.top, x.all.keep g fun i hi => hd i (by simp [HeapR.own, hi]), x.lps, x.lvb, fun i hi => ?_, x.nodup, fun i hi => Nat.lt_of_lt_of_le (x.lt i hi) g.n⟩
  exact (x.each i hi).keep g (hd _ (by simp [HeapR.own, List.getElem_mem])) fun j hj => hd j (by
    simp only [HeapR.own, List.mem_cons, List.mem_append]
    exact .inr (.inr (.inr (List.mem_flatten.2 ⟨_, List.getElem_mem _, hj⟩))))
theorem HeapB.ext (x : HeapB h b obs ps vb sa Ba r) (g : Ext h h') : HeapB h' b obs ps vb sa Ba r := x.keep (g.b []) (by simp)

/-- Copy -/
theorem c35 (hl : HeapR h b obs ps vb sa Ba r M cl) (ok : ObsOk obs) : C heapE 35 [ptrV b] h fun v h' => ∃ b' own', v = ptrV b' ∧ HAt h' b' obs own' ∧ (∀ i, i ∈ own' → h.n ≤ i) ∧ Ext h h' := by
  obtain ⟨a, rfl⟩ := hl.all.val
  have ht := hl.top
  have hlp := hl.lps
  have hlen : (ps.map ptrV).length = obs.length := by simp [hl.lps]
  have hblt := hl.lt b (by simp)
  have hok1 := ok.1
  refine c_enter (fu := Try.f35) (by kernel_rfl) rfl ?_
  refine w_seq ?_
  refine w_region (by kernel_rfl) ?_
  refine o_assign gn rfl rfl ?_
  refine wl_end ?_
  refine w_seq ?_
  refine w_seq ?_
  refine w_region (by kernel_rfl) ?_
  refine o_move gn rfl rfl ?_
  refine o_eqp gn rfl rfl rfl (by kernel_rfl) ?_
  refine wl_end ?_
  refine w_cond rfl (fun hb => ?_) fun hb => ?_
  · skip
    refine w_seq ?_
    refine w_region (by kernel_rfl) ?_
    refine o_assign gn rfl rfl ?_
    refine wl_end ?_
    refine w_ret ?_
    refine ⟨.inl rfl, _, rfl, ?_⟩
    cases hb
  · skip
    refine w_skip ?_
    refine w_seq ?_
    refine w_region (by kernel_rfl) ?_
    refine o_move gn rfl rfl ?_
    refine o_nilCheck gn rfl rfl ?_
    refine o_fieldAddr (off := 1) gn rfl rfl (by kernel_rfl) ?_
    refine o_load gn rfl rfl (by kernel_rfl) (by assumption) rfl ?_
    refine o_call [_] gn rfl rfl (by kernel_rfl) rfl (C.mono (c69 hl.made) ?_)
    rintro v1 h1 ⟨rfl, g1, x1, n1⟩
    refine ⟨ag0, ?_⟩
    refine o_build (zv := .agg #[.slice none 0 0, .map none]) (pl := [(0, 1), (1, 1)]) [(1, _)] gn rfl (by kernel_rfl) (by kernel_rfl) rfl rfl ?_
    refine o_box gn rfl rfl ?_
    refine wl_at (fun h2 => h2.get h1.n = some (.cells [.slice none 0 0, .map (some h.n)] 87 0) ∧ h2.get h.n = some (.map (M.map ent) cl) ∧ Ext h1 h2 ∧ h2.n = h1.n + 1) ⟨Hp.get_alloc_self _ _, by rw [Hp.get_alloc, if_neg (by omega)]; exact g1, Ext.alloc _ _, Hp.n_alloc _ _⟩ fun h2 ⟨g2, g3, x2, n2⟩ => ?_
    have x02 := x1.trans x2
    have hb2 := (x02.get b hblt).trans ht
    have k0 : HeapB h2 h1.n [] [] [] (.slice none 0 0) [] h.n := ⟨g2, .inl ⟨rfl, rfl, rfl⟩, rfl, rfl, fun i hi => absurd hi (by simp), by simp; omega, fun i hi => by simp at hi; omega⟩
    refine o_assign gn rfl rfl ?_
    refine wl_end ?_
    refine w_seq ?_
    refine w_seq ?_
    refine w_region (by kernel_rfl) ?_
    refine o_move gn rfl rfl ?_
    refine o_nilCheck gn rfl rfl ?_
    refine o_fieldAddr (off := 0) gn rfl rfl (by kernel_rfl) ?_
    refine o_load gn rfl rfl (by kernel_rfl) hb2 rfl ?_
    refine o_len gn rfl rfl (by kernel_rfl) ?_
    refine o_move gn rfl rfl ?_
    refine wl_end ?_
    refine w_block ?_
    refine w_weak [(3, ptrV h1.n), (19, .slice a (ps.map ptrV).length (ps.map ptrV).length), (20, .int .i64 ((ps.map ptrV).length : Nat)), (21, iV 0)] (by repeat (first | exact trivial | refine ⟨rfl, ?_⟩)) ?_
    refine w_loop (fun k l hh => ∃ (i : Int) (ps' : List Nat) (vb' : List (List Nat)) (sa' : Value) (Ba' : List Nat), 0 ≤ i ∧ i ≤ obs.length ∧ k = (obs.length - i).toNat ∧ HeapB hh h1.n (obs.take i.toNat) ps' vb' sa' Ba' h.n ∧ hh.get h.n = some (.map (M.map ent) cl) ∧ (∀ j, j ∈ HeapR.own h1.n h.n Ba' ps' vb' → h.n ≤ j) ∧ Ext h hh ∧ l = [(3, ptrV h1.n), (19, .slice a (ps.map ptrV).length (ps.map ptrV).length), (20, .int .i64 ((ps.map ptrV).length : Nat)), (21, iV i)]) (n := (obs.length - (0 : Int)).toNat) ?_ fun k l hh hI => ?_
    · exact ⟨0, [], [], _, [], by omega, by omega, rfl, k0, g3, fun j hj => by simp [HeapR.own] at hj; omega, x02, rfl⟩
    · obtain ⟨i, ps', vb', sa', Ba', hi0, hi1, rfl, hk, hmp, hge, hx, rfl⟩ := hI
      refine w_seq ?_
      refine w_region (by kernel_rfl) ?_
      refine o_lss gn rfl rfl rfl ?_
      refine wl_end ?_
      refine w_seq ?_
      refine w_cond rfl (fun hb => ?_) fun hb => ?_
      · skip
        have hlt : i.toNat < obs.length := by simp at hb; omega
        obtain ⟨bb, m, ea, hbb, _, hbblt, _⟩ := hl.all.at (by omega)
        simp only [Value.slice.injEq, and_true] at ea
        subst ea
        obtain ⟨a', rfl⟩ := hk.all.val
        have hbbh := (hx.get bb hbblt).trans hbb
        have hv : (ps.map ptrV)[0 + i.toNat * 1]? = some (ptrV (ps[i.toNat]'(by omega))) := by rw [Nat.zero_add, Nat.mul_one, List.getElem?_map, List.getElem?_eq_getElem (show i.toNat < ps.length by omega)]; rfl
        have hob := hl.each i.toNat hlt
        refine w_skip ?_
        refine w_seq ?_
        refine w_block ?_
        refine w_seq ?_
        refine w_region (by kernel_rfl) ?_
        refine o_indexAddr (zz := 1) gn rfl rfl rfl (by kernel_rfl) (by omega) (by simp; omega) ?_
        refine o_load gn rfl rfl (by kernel_rfl) hbbh hv ?_
        refine o_assign gn rfl rfl ?_
        refine wl_end ?_
        refine w_seq ?_
        refine w_region (by kernel_rfl) ?_
        refine o_move gn rfl rfl ?_
        refine o_call [_] gn rfl rfl (by kernel_rfl) rfl (C.mono (c56 (hob.keep (hx.b []) (by simp) (by simp)) (by have := ok.2 _ (List.getElem_mem hlt); omega)) ?_)
        rintro v2 h3 ⟨sv, bs', rfl, s3, x3, f3⟩
        obtain ⟨a5, rfl⟩ := s3.val
        have hk3 := hk.ext x3
        refine ⟨ag0, ?_⟩
        refine o_alloc (zv := .agg #[.int .i64 0, .int .i64 0, .slice none 0 0, .int .i64 0, .int .i64 0, .int .i64 0]) gn rfl (by kernel_rfl) ?_
        refine o_storeA (n := 6) gn rfl rfl rfl (by kernel_rfl) rfl (Hp.get_alloc_self _ _) (by decide) rfl ag0 ?_
        refine wl_at (fun h4 => h4.get h3.n = some (.cells (Ob.cells (obs[i.toNat]) (.slice a5 (isV (obs[i.toNat]).vals).length (isV (obs[i.toNat]).vals).length)) 46 0) ∧ Ext h3 h4 ∧ h4.n = h3.n + 1) ⟨Hp.get_put_self _ _ _, (Ext.alloc h3 _).of (ExtB.put _ _ _) (by simp), by rw [Hp.n_put, Hp.n_alloc]⟩ fun h4 ⟨g4, x4, n4⟩ => ?_
        have hk4 := hk3.ext x4
        have s4 := s3.ext x4
        have ht4 := hk4.top
        have hn3 := x3.n
        refine wl_end ?_
        refine w_region (by kernel_rfl) ?_
        refine o_move gn rfl rfl ?_
        refine o_move gn rfl rfl ?_
        refine o_nilCheck gn rfl rfl ?_
        refine o_fieldAddr (off := 0) gn rfl rfl (by kernel_rfl) ?_
        refine o_load gn rfl rfl (by kernel_rfl) ht4 rfl ?_
        refine o_buildSlice (e := 99) (z := 0) (zv := .pointer none) [(0, _)] gn rfl (by kernel_rfl) (by kernel_rfl) (by kernel_rfl) (by kernel_rfl) rfl rfl ?_
        have x5 : Ext h4 (h4.alloc (.cells [ptrV h3.n] 99 0)) := Ext.alloc _ _
        obtain ⟨v', h6, Ba6, a1, a2, a3, a4⟩ := append_own el99 (hk4.all.ext x5) ((Sl.new (h := h4) (e := 99) (vs := [ptrV h3.n]) (m := 0) (.inl rfl)).src rfl) (by have h5 := hk4.lps; rw [List.length_take] at h5; have := ok.1; simp; omega)
        obtain ⟨a9, rfl⟩ := a2.val
        obtain ⟨d1, d2, d3, d4, d5⟩ := hk4.dis
        have hb4 := hk4.lt h1.n (by simp)
        have f7 := (a3.get h1.n (by rw [Hp.n_alloc]; omega) d2).trans ((x5.get h1.n hb4).trans ht4)
        refine o_append gn rfl rfl rfl a1 ag0 ?_
        refine o_nilCheck gn rfl rfl ?_
        refine o_fieldAddr (off := 0) gn rfl rfl (by kernel_rfl) ?_
        refine o_store gn rfl rfl rfl (by kernel_rfl) f7 (by decide) (by simp) ag0 ?_
        have e7 := ExtB.put h6 h1.n
        refine wl_end ?_
        refine w_region (by kernel_rfl) ?_
        refine o_add gn rfl rfl rfl (by omega) (by omega) ?_
        refine o_move gn rfl rfl ?_
        refine wl_end ?_
        have n4' := a3.n
        rw [Hp.n_alloc] at n4'
        have gg : ExtB (h3.n :: h1.n :: h.n :: Ba') h4 _ := ((x5.b (h3.n :: h1.n :: h.n :: Ba')).trans (a3.mono fun j hj _ => by simp [hj])).trans ((e7 (.cells [.slice a9 (List.map ptrV ps' ++ [ptrV h3.n]).length (List.map ptrV ps' ++ [ptrV h3.n]).length, .map (some h.n)] 87 0)).mono (by simp))
        have hown : ∀ j, j ∈ Ba' → h.n ≤ j := fun j hj => hge j (by simp [HeapR.own, hj])
        have hp3 : h3.n ∉ bs' := fun hj => by have := s3.lt _ hj; omega
        have hpB : h3.n ∉ Ba' := fun hj => by have := hk3.lt h3.n (by simp [hj]); omega
        have hhn := hx.n
        have hb3 := hk3.lt h1.n (by simp)
        refine ⟨(obs.length - (i + 1)).toNat, by omega, [(3, ptrV h1.n), (19, .slice (some ⟨bb, 0, none⟩) (ps.map ptrV).length (ps.map ptrV).length), (20, .int .i64 ((ps.map ptrV).length : Nat)), (21, iV (i + 1))], (by repeat (first | exact trivial | refine ⟨rfl, ?_⟩)), i + 1, ps' ++ [h3.n], vb' ++ [bs'], .slice a9 (List.map ptrV ps' ++ [ptrV h3.n]).length (List.map ptrV ps' ++ [ptrV h3.n]).length, Ba6, by omega, by omega, rfl, ?_, ?_, fun j hj => ?_, ((hx.trans x3).trans x4).of gg fun j hj => ?_, rfl⟩
        · rw [show (i + 1).toNat = i.toNat + 1 from by omega, List.take_add_one, List.getElem?_eq_getElem hlt]
          refine HeapB.push (p := h3.n) hk4 (by omega) (fun hj => by have := hk3.lt _ hj; omega) (fun j hj hj2 => by have := f3 j hj; have := hk.lt _ hj2; omega) s4.lt hp3 s4.nodup gg (Hp.get_put_self _ _ _) ?_ ?_ ?_
          · rw [List.map_append]; exact a2.keep (e7 _) fun j hj hj2 => by
              simp at hj2; subst hj2
              rcases a4 _ hj with h5 | h5
              · exact d2 h5
              · rw [Hp.n_alloc] at h5; omega
          · intro j hj
            rcases a4 j hj with h5 | h5
            · exact .inl h5
            · rw [Hp.n_alloc] at h5; right; omega
          · exact ⟨⟨_, by rw [Hp.get_put, if_neg (by omega), a3.get h3.n (by rw [Hp.n_alloc]; omega) hpB, x5.get h3.n (by omega)]; exact g4, s4.keep gg fun j hj hj2 => by
              have hj3 := f3 j hj
              rcases List.mem_cons.1 hj2 with rfl | hj2
              · exact hp3 hj
              · have := hk.lt j (by rcases List.mem_cons.1 hj2 with rfl | hj2; simp; rcases List.mem_cons.1 hj2 with rfl | hj2; simp; simp [hj2])
                omega⟩, by rw [Hp.n_put]; omega, hp3⟩
        · rw [Hp.get_put, if_neg (by omega), a3.get h.n (by rw [Hp.n_alloc]; omega) d3, x5.get h.n (by omega), x4.get h.n (by omega), x3.get h.n (by have := hk.lt h.n (by simp); omega)]; exact hmp
        · simp only [HeapR.own, List.mem_cons, List.mem_append, List.flatten_append, List.flatten_cons, List.flatten_nil, List.append_nil, List.not_mem_nil, or_false] at hj
          rcases hj with rfl | rfl | (hj | hj | rfl) | hj | hj
          · omega
          · omega
          · rcases a4 j hj with h5 | h5
            · exact hown j h5
            · rw [Hp.n_alloc] at h5; omega
          · exact hge j (by simp [HeapR.own, hj])
          · omega
          · exact hge j (by simp only [HeapR.own, List.mem_cons, List.mem_append]; exact .inr (.inr (.inr hj)))
          · have := f3 j hj; omega
        · simp only [List.mem_cons] at hj
          rcases hj with rfl | rfl | rfl | hj
          · omega
          · omega
          · omega
          · exact hown j hj
      · skip
        refine w_exit ?_
        refine thn_exit ?_
        refine rnd_exit ?_
        refine blk_eq ?_
        refine w_seq ?_
        refine w_region (by kernel_rfl) ?_
        refine o_move gn rfl rfl ?_
        refine o_assign gn rfl rfl ?_
        refine wl_end ?_
        refine w_ret ?_
        refine ⟨.inl rfl, _, rfl, ?_⟩
        have hge2 : ¬ i < obs.length := by simp at hb; omega
        rw [List.take_of_length_le (by omega)] at hk
        exact ⟨h1.n, _, rfl, ⟨ps', vb', sa', Ba', h.n, M, cl, ⟨hk.top, hk.all, hmp, hl.count, hk.lps, hk.lvb, hk.each, hk.nodup, hk.lt⟩, rfl⟩, hge, hx⟩

end

end Go.Proofs.Ytkmbfjdmbdpflaa


namespace Go.Proofs.Ytkmbfjdmbdpflaa
open Go.X

/-- slices.Equal of values -/
theorem c72 {h : Hp} {a a' : Option Addr} {n n' c c' : Nat} {st st' : List Int} (hs : Src h (.slice a n c) (isV st)) (hs' : Src h (.slice a' n' c') (isV st')) (hn : st.length ≤ 100000) :
    CP heapE 72 [.slice a n c, .slice a' n' c'] h (.bool (decide (st = st'))) := by
  have e1 := hs.len'; have e2 := hs'.len'
  simp only [List.length_map] at e1 e2
  subst e1; subst e2
  refine c_enter (fu := Try.f72) (by kernel_rfl) rfl ?_
  refine w_seq ?_
  refine w_region (by kernel_rfl) ?_
  refine o_assign gn rfl rfl ?_
  refine wl_end ?_
  refine w_seq ?_
  refine w_seq ?_
  refine w_region (by kernel_rfl) ?_
  refine o_move gn rfl rfl ?_
  refine o_len gn rfl rfl (by kernel_rfl) ?_
  refine o_move gn rfl rfl ?_
  refine o_len gn rfl rfl (by kernel_rfl) ?_
  refine o_nei gn rfl rfl rfl ?_
  refine wl_end ?_
  refine w_cond rfl (fun hb => ?_) fun hb => ?_
  · skip
    refine w_seq ?_
    refine w_region (by kernel_rfl) ?_
    refine o_assign gn rfl rfl ?_
    refine wl_end ?_
    refine w_ret ?_
    refine ⟨.inl rfl, _, rfl, ?_⟩
    have hne : st ≠ st' := fun e => by simp [e] at hb
    exact ⟨by simp [oneOf, hne], rfl⟩
  · skip
    refine w_skip ?_
    refine w_seq ?_
    refine w_seq ?_
    refine w_region (by kernel_rfl) ?_
    refine o_move gn rfl rfl ?_
    refine o_len gn rfl rfl (by kernel_rfl) ?_
    refine o_move gn rfl rfl ?_
    refine wl_end ?_
    have hlen : st.length = st'.length := by simp at hb; omega
    refine w_block ?_
    refine w_weak [(0, .slice a st.length c), (1, .slice a' st'.length c'), (12, .int .i64 (st.length : Nat)), (13, .int .i64 0)] (by repeat (first | exact trivial | refine ⟨rfl, ?_⟩)) ?_
    refine w_loop (fun k l hh => ∃ i : Int, 0 ≤ i ∧ i ≤ st.length ∧ k = st.length - i.toNat ∧ (∀ j : Nat, j < i.toNat → st[j]? = st'[j]?) ∧ l = [(0, .slice a st.length c), (1, .slice a' st'.length c'), (12, .int .i64 (st.length : Nat)), (13, .int .i64 i)] ∧ hh = h) (n := st.length) ?_ fun k l hh hI => ?_
    · exact ⟨0, by omega, by omega, by omega, fun j hj => by omega, rfl, rfl⟩
    · obtain ⟨i, hi0, hi1, rfl, hall, rfl, rfl⟩ := hI
      refine w_seq ?_
      refine w_region (by kernel_rfl) ?_
      refine o_lss gn rfl rfl rfl ?_
      refine wl_end ?_
      refine w_seq ?_
      refine w_cond rfl (fun hb => ?_) fun hb => ?_
      · skip
        refine w_skip ?_
        refine w_seq ?_
        have hlt : i < st.length := by simpa using hb
        obtain ⟨bb, o, cs, e, m, rfl, hg, _, _, hcs⟩ := hs.at (by simp; omega)
        obtain ⟨bb', o', cs', e', m', rfl, hg', _, _, hcs'⟩ := hs'.at (by simp; omega)
        have hv := (hcs i.toNat (by simp; omega)).trans (at_int (k := .i64) i.toNat (by omega) rfl)
        have hv' := (hcs' i.toNat (by simp; omega)).trans (at_int (k := .i64) i.toNat (by omega) rfl)
        refine w_block ?_
        refine w_seq ?_
        refine w_region (by kernel_rfl) ?_
        refine o_move gn rfl rfl ?_
        refine o_assign gn rfl rfl ?_
        refine wl_end ?_
        refine w_seq ?_
        refine w_draw [(0, []), (1, []), (2, []), (3, []), (4, []), (5, []), (6, []), (7, []), (8, [])] (by kernel_rfl) (by kernel_rfl) (by kernel_rfl) (by kernel_rfl) ?_
        refine o_move gn rfl rfl ?_
        refine o_move gn rfl rfl ?_
        refine o_indexAddr (zz := 1) gn rfl rfl rfl (by kernel_rfl) (by omega) (by omega) ?_
        refine o_load gn rfl rfl (by kernel_rfl) hg (by rw [Nat.mul_one]; exact hv) ?_
        refine o_move gn rfl rfl ?_
        refine o_move gn rfl rfl ?_
        refine o_indexAddr (zz := 1) gn rfl rfl rfl (by kernel_rfl) (by omega) (by omega) ?_
        refine o_load gn rfl rfl (by kernel_rfl) hg' (by rw [Nat.mul_one]; exact hv') ?_
        refine o_nei gn rfl rfl rfl ?_
        refine wl_end ?_
        refine w_cond rfl (fun hb => ?_) fun hb => ?_
        · skip
          refine w_seq ?_
          refine w_region (by kernel_rfl) ?_
          refine o_assign gn rfl rfl ?_
          refine wl_end ?_
          refine w_ret ?_
          refine ⟨.inl rfl, _, rfl, ?_⟩
          have hne : st ≠ st' := fun e => by subst e; simp at hb
          exact ⟨by simp [oneOf, hne], rfl⟩
        · skip
          refine w_skip ?_
          refine w_region (by kernel_rfl) ?_
          refine o_add gn rfl rfl rfl (by omega) (by omega) ?_
          refine o_move gn rfl rfl ?_
          refine wl_end ?_
          exact ⟨(st.length - (i + 1).toNat), by omega, _, (by repeat (first | exact trivial | refine ⟨rfl, ?_⟩)), ⟨i + 1, by omega, by omega, rfl, fun j hj => by
            by_cases hji : j < i.toNat
            · exact hall j hji
            · have : j = i.toNat := by omega
              subst this
              have hb' : (st[i.toNat]?).getD 0 = (st'[i.toNat]?).getD 0 := by simpa using hb
              rw [List.getElem?_eq_getElem (show i.toNat < st.length by omega), List.getElem?_eq_getElem (show i.toNat < st'.length by omega)] at hb' ⊢
              simpa using hb', rfl, rfl⟩⟩
      · skip
        refine w_exit ?_
        refine thn_exit ?_
        refine rnd_exit ?_
        refine blk_eq ?_
        refine w_seq ?_
        refine w_region (by kernel_rfl) ?_
        refine o_assign gn rfl rfl ?_
        refine wl_end ?_
        refine w_ret ?_
        refine ⟨.inl rfl, _, rfl, ?_⟩
        have hge : st.length ≤ i := by simpa using hb
        have heq : st = st' := List.ext_getElem? fun j => by
          by_cases hj : j < st.length
          · exact hall j (by omega)
          · rw [List.getElem?_eq_none (by omega), List.getElem?_eq_none (by omega)]
        exact ⟨by simp [oneOf, heq], rfl⟩

/-- All: a closure over a cell that holds the heap. -/
theorem c44 {h : Hp} {b : Nat} : C heapE 44 [ptrV b] h fun v h' => v = .func (.func 74) #[] #[ptrV h.n] ∧ h'.get h.n = some (.cells [ptrV b] 39 0) ∧ Ext h h' ∧ h'.n = h.n + 1 := by
  refine c_enter (fu := Try.f44) (by kernel_rfl) rfl ?_
  refine w_seq ?_
  refine w_region (by kernel_rfl) ?_
  refine o_box gn rfl rfl ?_
  refine o_assign gn rfl rfl ?_
  refine wl_end ?_
  refine w_seq ?_
  refine w_region (by kernel_rfl) ?_
  refine o_makeFunc1 gn rfl rfl ?_
  refine o_assign gn rfl rfl ?_
  refine wl_end ?_
  refine w_ret ?_
  refine ⟨.inl rfl, _, rfl, ?_⟩
  exact ⟨rfl, Hp.get_alloc_self _ _, Ext.alloc _ _, Hp.n_alloc _ _⟩

end Go.Proofs.Ytkmbfjdmbdpflaa


namespace Go.Proofs.Ytkmbfjdmbdpflaa
open Go.X

/-- Copy, of the document -/
theorem c36 {h : Hp} {d : Nat} {es : List En} {sa : Value} {Ba : List Nat} (hl : DocR h d es sa Ba) (ok : ObsOk (rowO es)) : C heapE 36 [ptrV d] h fun v h' => ∃ b' own', v = ptrV b' ∧ DAt h' b' (rowO es) own' ∧ (∀ i, i ∈ own' → h.n ≤ i) ∧ Ext h h' := by
  obtain ⟨a, rfl⟩ := hl.row.val
  have ht := hl.top
  have hdlt := hl.lt
  have hlen : (rowO es).length = es.length := by simp [rowO]
  have hok1 := ok.1
  refine c_enter (fu := Try.f36) (by kernel_rfl) rfl ?_
  refine w_seq ?_
  refine w_region (by kernel_rfl) ?_
  refine o_assign gn rfl rfl ?_
  refine wl_end ?_
  refine w_seq ?_
  refine w_region (by kernel_rfl) ?_
  refine o_build (zv := .agg #[.slice none 0 0]) (pl := [(0, 1)]) [] gn rfl (by kernel_rfl) (by kernel_rfl) rfl rfl ?_
  refine o_box gn rfl rfl ?_
  refine wl_at (fun h1 => h1.get h.n = some (.cells [.slice none 0 0] 66 0) ∧ Ext h h1 ∧ h1.n = h.n + 1) ⟨Hp.get_alloc_self _ _, Ext.alloc _ _, Hp.n_alloc _ _⟩ fun h1 ⟨g1, x1, n1⟩ => ?_
  have k0 : DocR h1 h.n [] (.slice none 0 0) [] := ⟨g1, .inl ⟨rfl, rfl, rfl, rfl⟩, fun e he => by simp at he, by simp [rowB], by omega⟩
  refine o_assign gn rfl rfl ?_
  refine wl_end ?_
  refine w_seq ?_
  refine w_seq ?_
  refine w_region (by kernel_rfl) ?_
  refine o_assign gn rfl rfl ?_
  refine wl_end ?_
  refine w_block ?_
  refine w_weak [(0, ptrV d), (3, ptrV h.n), (4, iV 0)] (by repeat (first | exact trivial | refine ⟨rfl, ?_⟩)) ?_
  refine w_loop (fun k l hh => ∃ (i : Int) (es' : List En) (sa' : Value) (Ba' : List Nat), 0 ≤ i ∧ i ≤ es.length ∧ k = (es.length - i).toNat ∧ DocR hh h.n es' sa' Ba' ∧ rowO es' = (rowO es).take i.toNat ∧ (∀ j, j ∈ h.n :: (Ba' ++ rowB es') → h.n ≤ j) ∧ Ext h hh ∧ l = [(0, ptrV d), (3, ptrV h.n), (4, iV i)]) (n := (es.length - (0 : Int)).toNat) ?_ fun k l hh hI => ?_
  · exact ⟨0, [], _, [], by omega, by omega, rfl, k0, rfl, fun j hj => by simp [rowB] at hj; omega, x1, rfl⟩
  · obtain ⟨i, es', sa', Ba', hi0, hi1, rfl, hk, hro, hge, hx, rfl⟩ := hI
    have htd := (hx.get d hdlt).trans ht
    refine w_seq ?_
    refine w_seq ?_
    refine w_region (by kernel_rfl) ?_
    refine o_move gn rfl rfl ?_
    refine o_move gn rfl rfl ?_
    refine o_nilCheck gn rfl rfl ?_
    refine o_fieldAddr (off := 0) gn rfl rfl (by kernel_rfl) ?_
    refine o_load gn rfl rfl (by kernel_rfl) (by assumption) rfl ?_
    refine o_len gn rfl rfl (by kernel_rfl) ?_
    refine o_lss gn rfl rfl rfl ?_
    refine wl_end ?_
    refine w_cond rfl (fun hb => ?_) fun hb => ?_
    · skip
      have hi : i.toNat < es.length := by simp at hb; omega
      obtain ⟨bb, m, ea, hbb, hm, hbblt, hB, hcs, hcl⟩ := hl.cell hi
      simp only [Value.slice.injEq, and_true] at ea
      subst ea
      have hbbh := (hx.get bb hbblt).trans hbb
      have hrow := rowC_row hi
      have hsv := (hl.each _ (List.getElem_mem hi)).ext hx
      obtain ⟨asv, hasv⟩ := hsv.val
      rw [hasv] at hsv
      have hce : (es[i.toNat]).cells = (es[i.toNat]).o.cells (.slice asv (isV (es[i.toNat]).o.vals).length (isV (es[i.toNat]).o.vals).length) := by rw [En.cells, hasv]
      generalize hoo : (es[i.toNat]).o = o at *
      have hvl := ok.2 _ (show o ∈ rowO es from List.mem_map.2 ⟨_, List.getElem_mem hi, hoo⟩)
      obtain ⟨a', rfl⟩ := hk.row.val
      refine w_skip ?_
      refine w_seq ?_
      refine w_block ?_
      refine w_seq ?_
      refine w_region (by kernel_rfl) ?_
      refine o_move gn rfl rfl ?_
      refine o_nilCheck gn rfl rfl ?_
      refine o_fieldAddr (off := 0) gn rfl rfl (by kernel_rfl) ?_
      refine o_load gn rfl rfl (by kernel_rfl) (by assumption) rfl ?_
      refine o_move gn rfl rfl ?_
      refine o_indexAddr (zz := 6) gn rfl rfl rfl (by kernel_rfl) (by omega) (by omega) ?_
      refine o_loadA (n := 6) gn rfl rfl (by kernel_rfl) (by kernel_rfl) hbbh (by omega) ?_
      rw [hrow, hce]
      refine o_alloc (zv := .agg #[.int .i64 0, .int .i64 0, .slice none 0 0, .int .i64 0, .int .i64 0, .int .i64 0]) gn rfl (by kernel_rfl) ?_
      refine o_storeA (n := 6) gn rfl rfl rfl (by kernel_rfl) rfl (Hp.get_alloc_self _ _) (by decide) rfl ag0 ?_
      refine wl_at (fun h3 => h3.get hh.n = some (.cells (o.cells (.slice asv (isV o.vals).length (isV o.vals).length)) 46 0) ∧ Ext hh h3 ∧ h3.n = hh.n + 1) ⟨Hp.get_put_self _ _ _, (Ext.alloc hh _).of (ExtB.put _ _ _) (by simp), by rw [Hp.n_put, Hp.n_alloc]⟩ fun h3 ⟨g3, x3, n3⟩ => ?_
      obtain ⟨v4, h4, bs4, a1, a2, a3, a4⟩ := append_nil (E := heapE) el2 ((hsv.ext x3).src (all_int _)) (by simp; omega)
      obtain ⟨a7, rfl⟩ := a2.val
      have g4 := (a3.get hh.n (by omega)).trans g3
      have n4 := a3.n
      refine wl_end ?_
      refine w_seq ?_
      refine w_region (by kernel_rfl) ?_
      refine o_fieldAddr (off := 2) gn rfl rfl (by kernel_rfl) ?_
      refine o_load gn rfl rfl (by kernel_rfl) g3 rfl ?_
      refine o_append gn rfl rfl rfl a1 ag0 ?_
      refine o_fieldAddr (off := 2) gn rfl rfl (by kernel_rfl) ?_
      refine o_store gn rfl rfl rfl (by kernel_rfl) g4 (by decide) (show 2 < 6 by decide) ag0 ?_
      refine wl_at (fun h5 => h5.get hh.n = some (.cells (o.cells (.slice a7 (isV o.vals).length (isV o.vals).length)) 46 0) ∧ Ext hh h5 ∧ h5.n = h4.n ∧ Sl 2 h5 (.slice a7 (isV o.vals).length (isV o.vals).length) (isV o.vals) bs4) ⟨Hp.get_put_self _ _ _, (x3.trans a3).of (ExtB.put _ _ _) (by simp), by rw [Hp.n_put], a2.keep (ExtB.put _ _ _) (fun j hj hj2 => by have := a4 j hj; simp at hj2; omega)⟩ fun h5 ⟨g5, x5, n5, s5⟩ => ?_
      have hk5 := hk.ext x5
      have ht5 := hk5.top
      refine wl_end ?_
      refine w_draw [(0, []), (1, []), (2, []), (3, []), (4, []), (5, []), (6, []), (7, []), (8, []), (9, []), (10, [])] (by kernel_rfl) (by kernel_rfl) (by kernel_rfl) (by kernel_rfl) ?_
      refine o_move gn rfl rfl ?_
      refine o_move gn rfl rfl ?_
      refine o_nilCheck gn rfl rfl ?_
      refine o_fieldAddr (off := 0) gn rfl rfl (by kernel_rfl) ?_
      refine o_load gn rfl rfl (by kernel_rfl) (by assumption) rfl ?_
      refine o_loadA (n := 6) gn rfl rfl (by kernel_rfl) (by kernel_rfl) g5 (Nat.le_refl 6) ?_
      refine o_buildSlice (e := 46) (z := 5) (zv := .agg #[.int .i64 0, .int .i64 0, .slice none 0 0, .int .i64 0, .int .i64 0, .int .i64 0]) (cs := (Ob.cells o (.slice a7 (isV o.vals).length (isV o.vals).length)).toArray) [(0, .agg (Ob.cells o (.slice a7 (isV o.vals).length (isV o.vals).length)).toArray)] gn rfl (by kernel_rfl) (by kernel_rfl) (by kernel_rfl) (by kernel_rfl) rfl (by kernel_rfl) ?_
      have x6 := Ext.alloc h5 (.cells (Ob.cells o (.slice a7 (isV o.vals).length (isV o.vals).length)) 46 0)
      have hle' : es'.length ≤ 1024 := by have := congrArg List.length hro; simp [rowO] at this; omega
      obtain ⟨v7, h7, b1, b2, b3⟩ := appendN el46 (hk5.row.ext x6) (Hp.get_alloc_self h5 _) rfl rfl (by omega)
      obtain ⟨a9, rfl⟩ := b2.val
      have hnd := hk5.nodup
      have hbB : h.n ∉ Ba' := fun hx => by simp [hx] at hnd
      have hbl := hk5.lt
      have f7 := (b3.get h.n (by rw [Hp.n_alloc]; omega) hbB).trans ((x6.get h.n hbl).trans ht5)
      refine o_append gn rfl rfl rfl b1 ag0 ?_
      refine o_nilCheck gn rfl rfl ?_
      refine o_fieldAddr (off := 0) gn rfl rfl (by kernel_rfl) ?_
      refine o_store gn rfl rfl rfl (by kernel_rfl) f7 (by decide) (by simp) ag0 ?_
      have e8 := ExtB.put h7 h.n
      have gg : ExtB (h.n :: Ba') h5 _ := ((x6.b (h.n :: Ba')).trans (b3.mono fun j hj _ => by simp [hj])).trans ((e8 (.cells [.slice a9 (es'.length + 1) (es'.length + 1)] 66 0)).mono (by simp))
      have hpush := DocR.push hk5 s5 (fun j hj hj2 => by have := a4 j hj; have := hk.own j hj2; omega) gg (Hp.get_put_self _ _ _) (b2.keep (e8 _) fun j hj hj2 => by simp at hj hj2; rw [Hp.n_alloc] at hj; omega) (fun j hj => by simp at hj; rw [Hp.n_alloc] at hj; omega)
      have hhn := hx.n
      have hro2 : rowO (es' ++ [⟨o, .slice a7 (isV o.vals).length (isV o.vals).length, bs4⟩]) = (rowO es).take (i + 1).toNat := by
        rw [show (i + 1).toNat = i.toNat + 1 from by omega, List.take_add_one, ← hro, show (rowO es)[i.toNat]? = some o from by simp [rowO, List.getElem?_eq_getElem hi, hoo]]
        simp [rowO]
      refine wl_end ?_
      refine w_region (by kernel_rfl) ?_
      refine o_move gn rfl rfl ?_
      refine o_add gn rfl rfl rfl (by omega) (by omega) ?_
      refine o_assign gn rfl rfl ?_
      refine wl_end ?_
      exact ⟨(es.length - (i + 1)).toNat, by omega, _, (by repeat (first | exact trivial | refine ⟨rfl, ?_⟩)), ⟨i + 1, _, _, _, by omega, by omega, rfl, hpush, hro2, fun j hj => by
        rw [show rowB (es' ++ [⟨o, .slice a7 (isV o.vals).length (isV o.vals).length, bs4⟩]) = rowB es' ++ bs4 from by simp [rowB]] at hj
        simp only [List.mem_cons, List.mem_append, List.not_mem_nil, or_false] at hj
        rw [Hp.n_alloc] at hj
        rcases hj with h8 | h8 | h8 | h8
        · omega
        · omega
        · exact hge j (by simp [h8])
        · have := a4 j h8; omega, (hx.trans x5).of gg (fun j hj => by
        rcases List.mem_cons.1 hj with h8 | h8
        · omega
        · exact hge j (by simp [h8])), rfl⟩⟩
    · skip
      refine w_exit ?_
      refine thn_exit ?_
      refine rnd_exit ?_
      refine blk_eq ?_
      refine w_seq ?_
      refine w_region (by kernel_rfl) ?_
      refine o_move gn rfl rfl ?_
      refine o_assign gn rfl rfl ?_
      refine wl_end ?_
      refine w_ret ?_
      refine ⟨.inl rfl, _, rfl, ?_⟩
      have hge2 : ¬ i < es.length := by simp at hb; omega
      rw [List.take_of_length_le (by omega)] at hro
      exact ⟨h.n, _, rfl, ⟨es', sa', Ba', hk, hro, rfl⟩, hge, hx⟩

end Go.Proofs.Ytkmbfjdmbdpflaa


namespace Go.Proofs.Ytkmbfjdmbdpflaa
open Go.X

/-- Same, of the document -/
theorem c38 {h : Hp} {d d' : Nat} {es es' : List En} {sa sa' : Value} {Ba Ba' : List Nat} (hl : DocR h d es sa Ba) (hl' : DocR h d' es' sa' Ba') (ok : ObsOk (rowO es)) : C heapE 38 [sa, sa'] h fun v h' => Ext h h' ∧ ∃ t, v = .bool t ∧ (t = true ↔ rowO es = rowO es') := by
  obtain ⟨a, rfl⟩ := hl.row.val
  obtain ⟨a', rfl⟩ := hl'.row.val
  have hok1 : es.length ≤ 1024 := by have := ok.1; simpa [rowO] using this
  refine c_enter (fu := Try.f38) (by kernel_rfl) rfl ?_
  refine w_seq ?_
  refine w_region (by kernel_rfl) ?_
  refine o_assign gn rfl rfl ?_
  refine wl_end ?_
  refine w_seq ?_
  refine w_seq ?_
  refine w_region (by kernel_rfl) ?_
  refine o_move gn rfl rfl ?_
  refine o_len gn rfl rfl (by kernel_rfl) ?_
  refine o_move gn rfl rfl ?_
  refine o_len gn rfl rfl (by kernel_rfl) ?_
  refine o_nei gn rfl rfl rfl ?_
  refine wl_end ?_
  refine w_cond rfl (fun hb => ?_) fun hb => ?_
  · skip
    refine w_seq ?_
    refine w_region (by kernel_rfl) ?_
    refine o_assign gn rfl rfl ?_
    refine wl_end ?_
    refine w_ret ?_
    refine ⟨.inl rfl, _, rfl, ?_⟩
    have hne : es.length ≠ es'.length := by simp at hb; omega
    exact ⟨.refl _, false, rfl, by simp; intro e; exact hne (by simpa [rowO] using congrArg List.length e)⟩
  · skip
    have hlen : es.length = es'.length := by simp at hb; omega
    refine w_skip ?_
    refine w_seq ?_
    refine w_seq ?_
    refine w_region (by kernel_rfl) ?_
    refine o_assign gn rfl rfl ?_
    refine wl_end ?_
    refine w_block ?_
    refine w_weak [(0, .slice a es.length es.length), (1, .slice a' es'.length es'.length), (5, iV 0)] (by repeat (first | exact trivial | refine ⟨rfl, ?_⟩)) ?_
    refine w_loop (fun k l hh => ∃ i : Int, 0 ≤ i ∧ i ≤ es.length ∧ k = (es.length - i).toNat ∧ (∀ j : Nat, j < i.toNat → (rowO es)[j]? = (rowO es')[j]?) ∧ Ext h hh ∧ l = [(0, .slice a es.length es.length), (1, .slice a' es'.length es'.length), (5, iV i)]) (n := (es.length - (0 : Int)).toNat) ?_ fun k l hh hI => ?_
    · exact ⟨0, by omega, by omega, rfl, fun j hj => by omega, .refl _, rfl⟩
    · obtain ⟨i, hi0, hi1, rfl, hall, hx, rfl⟩ := hI
      refine w_seq ?_
      refine w_seq ?_
      refine w_region (by kernel_rfl) ?_
      refine o_move gn rfl rfl ?_
      refine o_move gn rfl rfl ?_
      refine o_len gn rfl rfl (by kernel_rfl) ?_
      refine o_lss gn rfl rfl rfl ?_
      refine wl_end ?_
      refine w_cond rfl (fun hb => ?_) fun hb => ?_
      · skip
        have hi : i.toNat < es.length := by simp at hb; omega
        have hi' : i.toNat < es'.length := by omega
        obtain ⟨bb, m, ea, hbb, _, hbblt, _, _, hcl⟩ := hl.cell hi
        obtain ⟨bb', m', ea', hbb', _, hbblt', _, _, hcl'⟩ := hl'.cell hi'
        simp only [Value.slice.injEq, and_true] at ea ea'
        subst ea
        subst ea'
        have hsv := (hl.each _ (List.getElem_mem hi)).ext hx
        have hsv' := (hl'.each _ (List.getElem_mem hi')).ext hx
        have hvl := ok.2 _ (show (es[i.toNat]).o ∈ rowO es from List.mem_map.2 ⟨_, List.getElem_mem hi, rfl⟩)
        refine w_skip ?_
        refine w_seq ?_
        refine w_block ?_
        refine w_seq ?_
        refine w_draw [(0, []), (1, []), (2, []), (3, []), (4, []), (5, []), (6, []), (7, []), (8, []), (9, [])] (by kernel_rfl) (by kernel_rfl) (by kernel_rfl) (by kernel_rfl) ?_
        refine o_move gn rfl rfl ?_
        refine o_move gn rfl rfl ?_
        refine o_indexAddr (zz := 6) gn rfl rfl rfl (by kernel_rfl) (by omega) (by omega) ?_
        refine o_loadA (n := 6) gn rfl rfl (by kernel_rfl) (by kernel_rfl) ((hx.get bb hbblt).trans hbb) (by omega) ?_
        rw [rowC_row hi]
        refine o_move gn rfl rfl ?_
        refine o_move gn rfl rfl ?_
        refine o_indexAddr (zz := 6) gn rfl rfl rfl (by kernel_rfl) (by omega) (by omega) ?_
        refine o_loadA (n := 6) gn rfl rfl (by kernel_rfl) (by kernel_rfl) ((hx.get bb' hbblt').trans hbb') (by omega) ?_
        rw [rowC_row hi']
        refine o_call [_, _] gn rfl rfl (by kernel_rfl) rfl (C.mono (c68 hsv hsv' (by omega)) ?_)
        rintro v2 h2 ⟨rfl, x2⟩
        refine ⟨ag0, ?_⟩
        refine o_not gn rfl rfl ?_
        refine wl_end ?_
        refine w_cond rfl (fun hb => ?_) fun hb => ?_
        · skip
          refine w_seq ?_
          refine w_region (by kernel_rfl) ?_
          refine o_assign gn rfl rfl ?_
          refine wl_end ?_
          refine w_ret ?_
          refine ⟨.inl rfl, _, rfl, ?_⟩
          have hs : sameOb (es[i.toNat]).o (es'[i.toNat]).o = false := by simpa using hb
          refine ⟨hx.trans x2, false, rfl, by
            simp only [Bool.false_eq_true, false_iff]
            intro e
            have h5 := congrArg (fun l => l[i.toNat]?) e
            simp only [rowO, List.getElem?_map, List.getElem?_eq_getElem hi, List.getElem?_eq_getElem hi', Option.map_some, Option.some.injEq] at h5
            rw [(sameOb_iff _ _).2 h5] at hs
            cases hs⟩
        · skip
          refine w_skip ?_
          refine w_region (by kernel_rfl) ?_
          refine o_move gn rfl rfl ?_
          refine o_add gn rfl rfl rfl (by omega) (by omega) ?_
          refine o_assign gn rfl rfl ?_
          refine wl_end ?_
          exact ⟨(es.length - (i + 1)).toNat, by omega, _, (by repeat (first | exact trivial | refine ⟨rfl, ?_⟩)), ⟨i + 1, by omega, by omega, rfl, fun j hj => by
            by_cases hji : j < i.toNat
            · exact hall j hji
            · have : j = i.toNat := by omega
              subst this
              have hs : sameOb (es[i.toNat]).o (es'[i.toNat]).o = true := by simpa using hb
              have h5 := (sameOb_iff _ _).1 hs
              simp only [rowO, List.getElem?_map, List.getElem?_eq_getElem hi, List.getElem?_eq_getElem hi', Option.map_some, h5], hx.trans x2, rfl⟩⟩
      · skip
        refine w_exit ?_
        refine thn_exit ?_
        refine rnd_exit ?_
        refine blk_eq ?_
        refine w_seq ?_
        refine w_region (by kernel_rfl) ?_
        refine o_assign gn rfl rfl ?_
        refine wl_end ?_
        refine w_ret ?_
        refine ⟨.inl rfl, _, rfl, ?_⟩
        have hge : ¬ i < es.length := by simp at hb; omega
        exact ⟨hx, true, rfl, by
          simp only [true_iff]
          refine List.ext_getElem? fun j => ?_
          by_cases hj : j < es.length
          · exact hall j (by omega)
          · rw [List.getElem?_eq_none (by simp [rowO]; omega), List.getElem?_eq_none (by simp [rowO]; omega)]⟩

end Go.Proofs.Ytkmbfjdmbdpflaa


namespace Go.Proofs.Ytkmbfjdmbdpflaa
open Go.X

/-- The objects from k on, as they lie. -/
structure RestO (h : Hp) (obs : List Ob) (ps : List Nat) (vb : List (List Nat)) (sa : Value) (Ba : List Nat) (k : Nat) : Prop where
  all : Sl 99 h sa (ps.map ptrV) Ba
  lps : ps.length = obs.length
  lvb : vb.length = obs.length
  each : ∀ i (hi : i < obs.length), k ≤ i → ObAt h (ps[i]'(by omega)) obs[i] (vb[i]'(by omega))
  nodup : (Ba ++ ps ++ vb.flatten).Nodup
  lt : ∀ i, i ∈ Ba ++ ps ++ vb.flatten → i < h.n

theorem flat_apart : ∀ (vb : List (List Nat)) (k j : Nat) (hk : k < vb.length) (hj : j < vb.length), vb.flatten.Nodup → k ≠ j → ∀ i, i ∈ vb[k] → i ∉ vb[j]
  | [], _, _, hk, _, _, _, _, _ => by simp at hk
  | v :: r, k, j, hk, hj, hn, hne, i, hi => by
    rw [List.flatten_cons, List.nodup_append] at hn
    intro hij
    cases k with
    | zero =>
      cases j with
      | zero => exact hne rfl
      | succ j =>
        simp only [List.getElem_cons_zero, List.getElem_cons_succ] at hi hij
        exact hn.2.2 i hi i (List.mem_flatten.2 ⟨_, List.getElem_mem _, hij⟩) rfl
    | succ k =>
      cases j with
      | zero =>
        simp only [List.getElem_cons_zero, List.getElem_cons_succ] at hi hij
        exact hn.2.2 i hij i (List.mem_flatten.2 ⟨_, List.getElem_mem _, hi⟩) rfl
      | succ j =>
        simp only [List.getElem_cons_succ] at hi hij
        exact flat_apart r k j (by simpa using hk) (by simpa using hj) hn.2.1 (by omega) i hi hij

theorem RestO.next {h h' : Hp} {obs : List Ob} {ps : List Nat} {vb : List (List Nat)} {sa : Value} {Ba : List Nat} {k : Nat} (x : RestO h obs ps vb sa Ba k) (hk : k < obs.length) {cs : List Nat}
    (g : ExtB (vb[k]'(by rw [x.lvb]; exact hk) ++ cs) h h') (hc : ∀ i, i ∈ Ba ++ ps ++ vb.flatten → i ∉ cs) : RestO h' obs ps vb sa Ba (k + 1) := by
  have e1 := x.lps; have e2 := x.lvb
  have hn := x.nodup
  have hmem : ∀ i j (hi : i < vb.length), j ∈ vb[i] → j ∈ vb.flatten := fun i j hi hj => List.mem_flatten.2 ⟨_, List.getElem_mem _, hj⟩
  have hap := flat_apart vb
  have hvk := hmem k
  generalize hF : vb.flatten = F at *
  rw [List.nodup_append, List.nodup_append] at hn
  refine ⟨x.all.keep g fun i hi hj => ?_, e1, e2, fun i hi hki => ?_, x.nodup, fun i hi => Nat.lt_of_lt_of_le (x.lt i hi) g.n⟩
  · rcases List.mem_append.1 hj with hj | hj
    · exact hn.2.2 i (List.mem_append.2 (.inl hi)) i (hvk i (by omega) hj) rfl
    · exact hc i (by simp [hi]) hj
  · refine (x.each i hi (by omega)).keep g (fun hj => ?_) fun j hj hj2 => ?_
    · have hm : ps[i] ∈ ps := List.getElem_mem _
      rcases List.mem_append.1 hj with hj | hj
      · exact hn.2.2 _ (List.mem_append.2 (.inr hm)) _ (hvk _ (by omega) hj) rfl
      · exact hc _ (by simp [hm]) hj
    · rcases List.mem_append.1 hj2 with hj2 | hj2
      · exact hap k i (by omega) (by omega) hn.2.1 (by omega) j hj2 hj
      · exact hc j (by simp [hmem i j (by omega) hj]) hj2

/-- What All yields -/
theorem c74g {h : Hp} {p b x : Nat} {obs : List Ob} {own : List Nat} (hp : h.get p = some (.cells [ptrV b] 39 0)) (plt : p < h.n) (hl : HAt h b obs own) (ok : ObsOk obs) (P : Nat → Nat → Hp → Prop) (R : Nat → Hp → Prop)
    (start : ∀ h1, Ext h h1 → P h1.n 0 h1)
    (round : ∀ n0 k (hk : k < obs.length) h1 sv bs, P n0 k h1 → h.n ≤ n0 → n0 ≤ h1.n → Sl 2 h1 sv (isV (obs[k]).vals) bs → (∀ i, i ∈ bs → h.n ≤ i ∧ i < n0) →
      Y heapE x [iV ((k : Int) + 1), .agg ((obs[k]).cells sv).toArray] h1 fun v h2 => (∃ cs, ExtB (bs ++ cs) h1 h2 ∧ ∀ i, i ∈ cs → i < h.n ∨ n0 ≤ i) ∧ ((v = .bool true ∧ P n0 (k + 1) h2) ∨ (v = .bool false ∧ R n0 h2))) :
    C heapE 74 [.func (.yield x) #[] #[], ptrV p] h fun _ h' => ∃ n0, h.n ≤ n0 ∧ (P n0 obs.length h' ∨ R n0 h') := by
  have hc35 : C heapE 35 [ptrV b] h fun v h' => ∃ b' own', v = ptrV b' ∧ HAt h' b' obs own' ∧ (∀ i, i ∈ own' → h.n ≤ i) ∧ Ext h h' := by
    obtain ⟨_, _, _, _, _, _, _, hl, _⟩ := hl
    exact c35 hl ok
  have hok1 := ok.1
  refine c_enter (fu := Try.f74) (by kernel_rfl) rfl ?_
  refine w_seq ?_
  refine w_seq ?_
  refine w_region (by kernel_rfl) ?_
  refine o_load gn rfl rfl (by kernel_rfl) (by assumption) rfl ?_
  refine o_eqp gn rfl rfl rfl (by kernel_rfl) ?_
  refine wl_end ?_
  refine w_cond rfl (fun hb => ?_) fun hb => ?_
  · skip
    cases hb
  · skip
    refine w_skip ?_
    refine w_seq ?_
    refine w_region (by kernel_rfl) ?_
    refine o_load gn rfl rfl (by kernel_rfl) (by assumption) rfl ?_
    refine o_call [_] gn rfl rfl (by kernel_rfl) rfl (C.mono hc35 ?_)
    rintro v1 h1 ⟨b', own', rfl, ⟨ps, vb, sa, Ba, r, M, cl, hl1, rfl⟩, hge, x1⟩
    obtain ⟨a, rfl⟩ := hl1.all.val
    have ht := hl1.top
    have hlp := hl1.lps
    have hlv := hl1.lvb
    have hlen : (ps.map ptrV).length = obs.length := by simp [hl1.lps]
    have hr0 : RestO h1 obs ps vb (.slice a (ps.map ptrV).length (ps.map ptrV).length) Ba 0 := ⟨hl1.all, hlp, hlv, fun i hi _ => hl1.each i hi, (List.nodup_cons.1 (List.nodup_cons.1 hl1.nodup).2).2, fun i hi => hl1.lt i (by simp only [List.mem_cons]; exact .inr (.inr hi))⟩
    have hown : ∀ cs : List Nat, (∀ i, i ∈ cs → i < h.n ∨ h1.n ≤ i) → ∀ i, i ∈ Ba ++ ps ++ vb.flatten → i ∉ cs := fun cs hcs i hi hc => by
      have := hge i (by simp only [HeapR.own, List.mem_cons]; exact .inr (.inr hi))
      have := hl1.lt i (by simp only [List.mem_cons]; exact .inr (.inr hi))
      have := hcs i hc
      omega
    refine ⟨ag0, ?_⟩
    refine o_nilCheck gn rfl rfl ?_
    refine o_fieldAddr (off := 0) gn rfl rfl (by kernel_rfl) ?_
    refine o_load gn rfl rfl (by kernel_rfl) ht rfl ?_
    refine o_len gn rfl rfl (by kernel_rfl) ?_
    refine o_move gn rfl rfl ?_
    refine wl_end ?_
    refine w_block ?_
    refine w_weak [(0, .func (.yield x) #[] #[]), (11, .slice a (ps.map ptrV).length (ps.map ptrV).length), (12, .int .i64 ((ps.map ptrV).length : Nat)), (13, iV 0)] (by repeat (first | exact trivial | refine ⟨rfl, ?_⟩)) ?_
    refine w_loop (fun k l hh => ∃ (i : Int), 0 ≤ i ∧ i ≤ obs.length ∧ k = (obs.length - i).toNat ∧ RestO hh obs ps vb (.slice a (ps.map ptrV).length (ps.map ptrV).length) Ba i.toNat ∧ P h1.n i.toNat hh ∧ h1.n ≤ hh.n ∧ l = [(0, .func (.yield x) #[] #[]), (11, .slice a (ps.map ptrV).length (ps.map ptrV).length), (12, .int .i64 ((ps.map ptrV).length : Nat)), (13, iV i)]) (n := (obs.length - (0 : Int)).toNat) ?_ fun k l hh hI => ?_
    · exact ⟨0, by omega, by omega, rfl, hr0, start h1 x1, Nat.le_refl _, rfl⟩
    · obtain ⟨i, hi0, hi1, rfl, hr, hP, hn, rfl⟩ := hI
      refine w_seq ?_
      refine w_region (by kernel_rfl) ?_
      refine o_lss gn rfl rfl rfl ?_
      refine wl_end ?_
      refine w_seq ?_
      refine w_cond rfl (fun hb => ?_) fun hb => ?_
      · skip
        have hlt : i.toNat < obs.length := by simp at hb; omega
        obtain ⟨bb, m, ea, hbb, _, hbblt, _⟩ := hr.all.at (by omega)
        simp only [Value.slice.injEq, and_true] at ea
        subst ea
        have hv : (ps.map ptrV)[0 + i.toNat * 1]? = some (ptrV (ps[i.toNat]'(by omega))) := by rw [Nat.zero_add, Nat.mul_one, List.getElem?_map, List.getElem?_eq_getElem (show i.toNat < ps.length by omega)]; rfl
        obtain ⟨sv, hg, hs⟩ := (hr.each i.toNat hlt (Nat.le_refl _)).at'
        refine w_skip ?_
        refine w_seq ?_
        refine w_block ?_
        refine w_seq ?_
        refine w_region (by kernel_rfl) ?_
        refine o_move gn rfl rfl ?_
        refine o_indexAddr (zz := 1) gn rfl rfl rfl (by kernel_rfl) (by omega) (by simp; omega) ?_
        refine o_load gn rfl rfl (by kernel_rfl) hbb hv ?_
        refine o_assign gn rfl rfl ?_
        refine o_assign gn rfl rfl ?_
        refine wl_end ?_
        refine w_seq ?_
        refine w_region (by kernel_rfl) ?_
        refine o_move gn rfl rfl ?_
        refine o_move gn rfl rfl ?_
        refine o_add gn rfl rfl rfl (by omega) (by omega) ?_
        refine o_move gn rfl rfl ?_
        refine o_nilCheck gn rfl rfl ?_
        refine o_loadA (n := 6) gn rfl rfl (by kernel_rfl) (by kernel_rfl) (by assumption) (by simp [Ob.cells]) ?_
        have hbsn : ∀ j, j ∈ vb[i.toNat]'(by omega) → h.n ≤ j ∧ j < h1.n := fun j hj => by
          have hm : j ∈ HeapR.own b' r Ba ps vb := by simp only [HeapR.own, List.mem_cons, List.mem_append]; exact .inr (.inr (.inr (List.mem_flatten.2 ⟨_, List.getElem_mem _, hj⟩)))
          exact ⟨hge j hm, hl1.lt j hm⟩
        have hY := round h1.n i.toNat hlt _ sv _ hP x1.n hn hs hbsn
        rw [show ((i.toNat : Int)) = i from by omega] at hY
        refine o_yield [_, _] gn rfl rfl rfl (Y.mono hY ?_)
        rintro v2 h2 ⟨⟨cs, gx, hcs⟩, hv2⟩
        have hr2 := hr.next hlt gx (hown cs hcs)
        have hn2 := gx.n
        obtain ⟨t, rfl, hv4⟩ : ∃ t, v2 = .bool t ∧ ((t = true ∧ P h1.n (i.toNat + 1) h2) ∨ (t = false ∧ R h1.n h2)) := by
          rcases hv2 with ⟨rfl, hh⟩ | ⟨rfl, hh⟩
          · exact ⟨true, rfl, .inl ⟨rfl, hh⟩⟩
          · exact ⟨false, rfl, .inr ⟨rfl, hh⟩⟩
        refine ⟨ag0, ?_⟩
        refine o_not gn rfl rfl ?_
        refine wl_end ?_
        refine w_cond rfl (fun hb => ?_) fun hb => ?_
        · skip
          refine w_ret ?_
          refine ⟨.inl rfl, _, rfl, ?_⟩
          rcases hv4 with ⟨rfl, hv4⟩ | ⟨_, hv4⟩
          · cases hb
          · exact ⟨_, x1.n, .inr hv4⟩
        · skip
          rcases hv4 with ⟨_, hv3⟩ | ⟨rfl, _⟩
          case inr => cases hb
          refine w_skip ?_
          refine w_region (by kernel_rfl) ?_
          refine o_add gn rfl rfl rfl (by omega) (by omega) ?_
          refine o_move gn rfl rfl ?_
          refine wl_end ?_
          exact ⟨(obs.length - (i + 1)).toNat, by omega, _, (by repeat (first | exact trivial | refine ⟨rfl, ?_⟩)), i + 1, by omega, by omega, rfl, by rw [show (i + 1).toNat = i.toNat + 1 from by omega]; exact hr2, by rw [show (i + 1).toNat = i.toNat + 1 from by omega]; exact hv3, by omega, rfl⟩
      · skip
        refine w_exit ?_
        refine thn_exit ?_
        refine rnd_exit ?_
        refine blk_eq ?_
        refine ⟨.inr rfl, _, rfl, ?_⟩
        have hge2 : i = obs.length := by simp at hb; omega
        subst hge2
        exact ⟨_, x1.n, .inl (by simpa using hP)⟩

theorem c74 {h : Hp} {p b x : Nat} {obs : List Ob} {own cs : List Nat} (hp : h.get p = some (.cells [ptrV b] 39 0)) (plt : p < h.n) (hl : HAt h b obs own) (ok : ObsOk obs) (hcs : ∀ i, i ∈ cs → i < h.n) (P : Nat → Hp → Prop) (R : Hp → Prop)
    (start : ∀ h1, Ext h h1 → P 0 h1)
    (round : ∀ k (hk : k < obs.length) h1 sv bs, P k h1 → h.n ≤ h1.n → Sl 2 h1 sv (isV (obs[k]).vals) bs → (∀ i, i ∈ bs → h.n ≤ i) →
      Y heapE x [iV ((k : Int) + 1), .agg ((obs[k]).cells sv).toArray] h1 fun v h2 => ExtB (bs ++ cs) h1 h2 ∧ ((v = .bool true ∧ P (k + 1) h2) ∨ (v = .bool false ∧ R h2))) :
    C heapE 74 [.func (.yield x) #[] #[], ptrV p] h fun _ h' => P obs.length h' ∨ R h' :=
  (c74g hp plt hl ok (fun _ => P) (fun _ => R) start fun n0 k hk h1 sv bs hP hn hn1 hs hb => (round k hk h1 sv bs hP (by omega) hs fun i hi => (hb i hi).1).mono fun v h2 ⟨g, q⟩ => ⟨⟨cs, g, fun i hi => .inl (hcs i hi)⟩, q⟩).mono fun v h' ⟨_, _, q⟩ => q

end Go.Proofs.Ytkmbfjdmbdpflaa


namespace Go.Proofs.Ytkmbfjdmbdpflaa
open Go.X

/-- all -/
theorem c34 {h : Hp} {b d : Nat} {obs : List Ob} {o1 o2 : List Nat} {most : Int} (t2 : Two8 h b d obs o1 o2) : C heapE 34 [ptrV b, ptrV d, iV most] h fun v h' => v = .bool true ∧ Ext h h' := by
  obtain ⟨es, sad, Bad, hd, rfl, hod⟩ := t2.r
  have hl := t2.l
  have ok := t2.ok
  have hes : es.length ≤ 1024 := by have := ok.1; simpa [rowO] using this
  have hlen : (rowO es).length = es.length := by simp [rowO]
  obtain ⟨ad, rfl⟩ := hd.row.val
  refine c_enterR (fu := Try.f34) (by kernel_rfl) rfl ?_
  refine w_seq ?_
  refine w_region (by kernel_rfl) ?_
  refine o_box gn rfl rfl ?_
  refine o_box gn rfl rfl ?_
  refine o_alloc (zv := .bool false) gn rfl (by kernel_rfl) ?_
  simp only [Hp.n_alloc]
  refine wl_at (fun h3 => h3.get h.n = some (.cells [ptrV d] 63 0) ∧ h3.get (h.n + 1) = some (.cells [iV most] 3 0) ∧ h3.get (h.n + 1 + 1) = some (.cells [.bool false] 4 0) ∧ Ext h h3 ∧ h3.n = h.n + 3) ⟨?_, ?_, ?_, (Ext.alloc h _).trans ((Ext.alloc _ _).trans (Ext.alloc _ _)), by simp only [Hp.n_alloc]⟩ fun h3 ⟨f0, f1, f2, x03, n3⟩ => ?_
  · rw [Hp.get_alloc, if_neg (by simp only [Hp.n_alloc]; omega), Hp.get_alloc, if_neg (by simp only [Hp.n_alloc]; omega)]; exact Hp.get_alloc_self _ _
  · rw [Hp.get_alloc, if_neg (by simp only [Hp.n_alloc]; omega), Hp.get_alloc, if_pos (by simp only [Hp.n_alloc])]; rfl
  · rw [Hp.get_alloc, if_pos (by simp only [Hp.n_alloc])]; rfl
  refine wl_end ?_
  refine w_seq ?_
  refine w_region (by kernel_rfl) ?_
  refine o_move gn rfl rfl ?_
  refine o_call [_] gn rfl rfl (by kernel_rfl) rfl (C.mono c44 ?_)
  rintro v1 h1 ⟨rfl, gc, x1, n1⟩
  rw [n3] at n1
  rw [n3] at gc ⊢
  replace f0 := (x1.get _ (by omega)).trans f0
  replace f1 := (x1.get _ (by omega)).trans f1
  replace f2 := (x1.get _ (by omega)).trans f2
  have x01 : Ext h h1 := x03.trans x1
  refine ⟨ag0, ?_⟩
  refine o_assign gn rfl rfl ?_
  refine wl_end ?_
  refine w_seq ?_
  refine w_seq ?_
  refine w_region (by kernel_rfl) ?_
  refine o_move gn rfl rfl ?_
  refine o_eqf gn rfl rfl rfl (by kernel_rfl) ?_
  refine wl_end ?_
  refine w_cond rfl (fun hb => ?_) fun hb => ?_
  · skip
    cases hb
  · skip
    refine w_skip ?_
    refine w_seq ?_
    refine w_seq ?_
    refine w_region (by kernel_rfl) ?_
    refine o_alloc (zv := .int .i64 0) gn rfl (by kernel_rfl) ?_
    refine o_store gn rfl rfl rfl (by kernel_rfl) (Hp.get_alloc_self _ _) (by decide) (by decide) ag0 ?_
    refine wl_end ?_
    refine w_at (fun h6 => h6.get h1.n = some (.cells [iV 0] 3 0) ∧ Ext h1 h6 ∧ h6.n = h1.n + 1) ⟨Hp.get_put_self _ _ _, (Ext.alloc _ _).of (ExtB.put _ _ _) (by simp), by rw [Hp.n_put, Hp.n_alloc]⟩ fun h6 ⟨g6, x12, n2⟩ => ?_
    refine w_block ?_
    refine w_weak [(0, ptrV b), (4, ptrV h.n), (5, ptrV (h.n + 1)), (6, ptrV (h.n + 2)), (7, .func (.func 74) #[] #[ptrV (h.n + 3)]), (8, ptrV h1.n)] (by repeat (first | exact trivial | refine ⟨rfl, ?_⟩)) ?_
    refine w_loop (fun k l hh => ∃ (t : Int) (tc : Nat), 0 ≤ t ∧ t ≤ 2 ∧ k = (2 - t).toNat ∧ hh.get h.n = some (.cells [ptrV d] 63 0) ∧ hh.get (h.n + 1) = some (.cells [iV most] 3 0) ∧ hh.get (h.n + 2) = some (.cells [.bool false] 4 0) ∧ hh.get (h.n + 3) = some (.cells [ptrV b] 39 0) ∧ hh.get tc = some (.cells [iV t] 3 0) ∧ h.n + 4 ≤ tc ∧ tc < hh.n ∧ Ext h hh ∧
      l = [(0, ptrV b), (4, ptrV h.n), (5, ptrV (h.n + 1)), (6, ptrV (h.n + 2)), (7, .func (.func 74) #[] #[ptrV (h.n + 3)]), (8, ptrV tc)]) (n := 2) ?_ fun k l hh hI => ?_
    · exact ⟨0, h1.n, by omega, by omega, rfl, (x12.get _ (by omega)).trans f0, (x12.get _ (by omega)).trans f1, (x12.get _ (by omega)).trans f2, (x12.get _ (by omega)).trans gc, g6, by omega, by omega, x01.trans x12, rfl⟩
    · obtain ⟨t, tc, ht0, ht1, rfl, g0, g1, g2, g3, gt, htc, htl, hx, rfl⟩ := hI
      refine w_seq ?_
      refine w_seq ?_
      refine w_region (by kernel_rfl) ?_
      refine o_load gn rfl rfl (by kernel_rfl) (by assumption) rfl ?_
      refine o_lss gn rfl rfl rfl ?_
      refine wl_end ?_
      refine w_cond rfl (fun hb => ?_) fun hb => ?_
      · skip
        have hlt : t < 2 := by simpa using hb
        refine w_skip ?_
        refine w_seq ?_
        refine w_block ?_
        refine w_seq ?_
        refine w_region (by kernel_rfl) ?_
        refine o_alloc (zv := .int .i64 0) gn rfl (by kernel_rfl) ?_
        refine o_store gn rfl rfl rfl (by kernel_rfl) (Hp.get_alloc_self _ _) (by decide) (by decide) ag0 ?_
        refine wl_end ?_
        refine w_seq ?_
        refine w_seq ?_
        refine w_region (by kernel_rfl) ?_
        refine o_move gn rfl rfl ?_
        refine wl_end ?_
        refine w_block ?_
        refine w_weak [(0, ptrV b), (4, ptrV h.n), (5, ptrV (h.n + 1)), (6, ptrV (h.n + 2)), (7, .func (.func 74) #[] #[ptrV (h.n + 3)]), (8, ptrV tc), (9, ptrV hh.n), (21, .func (.func 74) #[] #[ptrV (h.n + 3)])] (by repeat (first | exact trivial | refine ⟨rfl, ?_⟩)) ?_
        refine w_at (fun h5 => h5.get hh.n = some (.cells [iV 0] 3 0) ∧ Ext hh h5 ∧ h5.n = hh.n + 1) ⟨Hp.get_put_self _ _ _, (Ext.alloc _ _).of (ExtB.put _ _ _) (by simp), by rw [Hp.n_put, Hp.n_alloc]⟩ fun h5 ⟨g5, x5, n5⟩ => ?_
        generalize hkc : hh.n = kc at *
        refine w_rangeA rfl rfl (by kernel_rfl) (by kernel_rfl) (by kernel_rfl) (by kernel_rfl) fun rc hR h0 hx0 hn0 hrc => ?_
        have x50 := x5.trans hx0
        have g50 := (hx0.get kc (by omega)).trans g5
        have keep : ∀ g, ExtB [kc, h5.n + 1] h0 g → g.get h.n = some (.cells [ptrV d] 63 0) ∧ g.get (h.n + 1) = some (.cells [iV most] 3 0) ∧ g.get (h.n + 2) = some (.cells [.bool false] 4 0) ∧ g.get (h.n + 3) = some (.cells [ptrV b] 39 0) ∧ g.get tc = some (.cells [iV t] 3 0) ∧ Ext h g := fun g k => by
          have kk : ∀ i, i < kc → g.get i = hh.get i := fun i hi => by rw [k.get i (by omega) (by simp; omega)]; exact x50.get i (by omega)
          exact ⟨(kk _ (by omega)).trans g0, (kk _ (by omega)).trans g1, (kk _ (by omega)).trans g2, (kk _ (by omega)).trans g3, (kk _ (by omega)).trans gt, (hx.trans x50).of k (fun i hi => by have := hx.n; simp at hi; omega)⟩
        have k0 := keep h0 (.refl _ _)
        have hround : ∀ kq (hk : kq < (rowO es).length) (m1 : Hp) sv bs, (m1.get kc = some (.cells [iV (kq : Nat)] 3 0) ∧ m1.get (h5.n + 1) = some (rc .ready none) ∧ ExtB [kc, h5.n + 1] h0 m1) → h0.n ≤ m1.n → Sl 2 m1 sv (isV ((rowO es)[kq]).vals) bs → (∀ i, i ∈ bs → h0.n ≤ i) → Y heapE (h5.n + 1) [iV ((kq : Int) + 1), .agg (((rowO es)[kq]).cells sv).toArray] m1 fun v m2 => ExtB (bs ++ [kc, h5.n + 1]) m1 m2 ∧ ((v = .bool true ∧ (m2.get kc = some (.cells [iV ((kq + 1 : Nat) : Int)] 3 0) ∧ m2.get (h5.n + 1) = some (rc .ready none) ∧ ExtB [kc, h5.n + 1] h0 m2)) ∨ (v = .bool false ∧ (t = 0 ∧ m2.get kc = some (.cells [iV most] 3 0) ∧ m2.get (h5.n + 1) = some (rc .done (some (.exit 2))) ∧ ExtB [kc, h5.n + 1] h0 m2))) := fun kq hk m1 sv bs ⟨p1, p2, p3⟩ hmn hs hbs => by
            have hke : kq < es.length := by omega
            have hov := ok.2 _ (List.getElem_mem hk)
            have hoe : (rowO es)[kq] = (es[kq]).o := by simp [rowO]
            rw [hoe] at hs hov ⊢
            generalize ho : (es[kq]).o = o at hs hov
            obtain ⟨asl, rfl⟩ := hs.val
            refine hR.round p2 rfl ?_
            refine w_seq ?_
            refine w_region (by kernel_rfl) ?_
            refine o_assign gn rfl rfl ?_
            refine wl_end ?_
            refine w_region (by kernel_rfl) ?_
            refine o_alloc (zv := .agg #[.int .i64 0, .int .i64 0, .slice none 0 0, .int .i64 0, .int .i64 0, .int .i64 0]) gn rfl (by kernel_rfl) ?_
            refine o_storeA (n := 6) gn rfl rfl rfl (by kernel_rfl) rfl (Hp.get_alloc_self _ _) (by decide) rfl ag0 ?_
            refine wl_end ?_
            refine ⟨_, (by rw [Hp.get_put, if_neg (by omega), Hp.get_alloc, if_neg (by omega)]; exact p2), ?_⟩
            refine w_at (fun m3 => m3.get m1.n = some (.cells (o.cells (.slice asl (isV o.vals).length (isV o.vals).length)) 46 0) ∧ m3.get (h5.n + 1) = some (rc .busy none) ∧ ExtB [h5.n + 1] m1 m3 ∧ m3.n = m1.n + 1) ⟨?_, Hp.get_put_self _ _ _, ?_, ?_⟩ fun m3 ⟨q1, q2, q3, q4⟩ => ?_
            · rw [Hp.get_put, if_neg (by omega)]; exact Hp.get_put_self _ _ _
            · exact (((Ext.alloc _ _).of (ExtB.put _ _ _) (by simp)).b _).trans (ExtB.put _ _ _)
            · rw [Hp.n_put, Hp.n_put, Hp.n_alloc]
            have hkc := (q3.get kc (by omega) (by simp; omega)).trans p1
            have hm3 : ExtB [kc, h5.n + 1] h0 m3 := p3.trans (q3.mono (by simp))
            obtain ⟨w0, w1, w2, w3, w4, wx⟩ := keep m3 hm3
            have hd3 := hd.ext wx
            have htd := hd3.top
            obtain ⟨bb, m, ea, hbb, hm, hbblt, hB, hcs, hcl⟩ := hd3.cell hke
            simp only [Value.slice.injEq, and_true] at ea
            subst ea
            have hrow := rowC_row hke
            refine w_block ?_
            refine w_seq ?_
            refine w_seq ?_
            refine w_draw [(0, []), (1, []), (2, []), (3, []), (4, []), (5, []), (6, []), (7, []), (8, []), (9, []), (10, []), (11, []), (12, []), (13, []), (14, []), (15, []), (16, []), (17, []), (18, []), (19, []), (20, []), (21, []), (22, []), (23, []), (24, [])] (by kernel_rfl) (by kernel_rfl) (by kernel_rfl) (by kernel_rfl) ?_
            refine o_move gn rfl rfl ?_
            refine o_load gn rfl rfl (by kernel_rfl) (by assumption) rfl ?_
            refine o_add gn rfl rfl rfl (by omega) (by omega) ?_
            refine o_nei gn rfl rfl rfl ?_
            refine o_move gn rfl rfl ?_
            refine o_or (n := 7) rfl rfl rfl gn rfl (fun hb => by
                refine o_load (gy rfl rfl rfl hb) rfl rfl (by kernel_rfl) (by assumption) rfl ?_
                refine o_load (gy rfl rfl rfl hb) rfl rfl (by kernel_rfl) (by assumption) rfl ?_
                refine o_nilCheck (gy rfl rfl rfl hb) rfl rfl ?_
                refine o_fieldAddr (off := 0) (gy rfl rfl rfl hb) rfl rfl (by kernel_rfl) ?_
                refine o_load (gy rfl rfl rfl hb) rfl rfl (by kernel_rfl) (by assumption) rfl ?_
                refine o_len (gy rfl rfl rfl hb) rfl rfl (by kernel_rfl) ?_
                refine o_geq (gy rfl rfl rfl hb) rfl rfl rfl ?_
                exact wl_end ⟨rfl, rfl, 7, rfl, rfl⟩) ?_
            refine o_move gn rfl rfl ?_
            refine wl_split (dc := 37) rfl (fun hb37 => ?_) fun hb37 => ?_
            · skip
              simp at hb37
              omega
            · skip
              refine o_loadA (n := 6) (gy rfl rfl rfl hb37) rfl rfl (by kernel_rfl) (by kernel_rfl) q1 (Nat.le_refl 6) ?_
              refine o_load (gy rfl rfl rfl hb37) rfl rfl (by kernel_rfl) (by assumption) rfl ?_
              refine o_nilCheck (gy rfl rfl rfl hb37) rfl rfl ?_
              refine o_fieldAddr (off := 0) (gy rfl rfl rfl hb37) rfl rfl (by kernel_rfl) ?_
              refine o_load (gy rfl rfl rfl hb37) rfl rfl (by kernel_rfl) (by assumption) rfl ?_
              refine o_load (gy rfl rfl rfl hb37) rfl rfl (by kernel_rfl) (by assumption) rfl ?_
              refine o_indexAddr (zz := 6) (gy rfl rfl rfl hb37) rfl rfl rfl (by kernel_rfl) (by omega) (by omega) ?_
              refine o_loadA (n := 6) (gy rfl rfl rfl hb37) rfl rfl (by kernel_rfl) (by kernel_rfl) hbb (by omega) ?_
              rw [show ((kq : Int)).toNat = kq from rfl, hrow, show (es[kq]).cells = o.cells (es[kq]).sv from by rw [En.cells, ho]]
              have hse := hd3.each _ (List.getElem_mem hke)
              rw [ho] at hse
              have hs3 := hs.keep q3 (fun i hi hj => by have := hbs i hi; simp at hj; omega)
              refine o_call [_, _] (gy rfl rfl rfl hb37) rfl rfl (by kernel_rfl) rfl (C.mono (c68 (o := o) (o' := o) hs3 hse (by omega)) ?_)
              rintro v4 m4 ⟨rfl, x4⟩
              rw [(sameOb_iff o o).2 rfl]
              have q5 := (x4.get m1.n (by omega)).trans q1
              have hs4 := hs3.ext x4
              have hbl := hs.lt
              refine ⟨ag0, ?_⟩
              refine o_not (gy rfl rfl rfl hb37) rfl rfl ?_
              refine o_pickf gn rfl rfl hb37 rfl ?_
              refine wl_end ?_
              refine w_cond rfl (fun hb => ?_) fun hb => ?_
              · skip
                cases hb
              · skip
                refine w_skip ?_
                refine w_seq ?_
                refine w_seq ?_
                refine w_region (by kernel_rfl) ?_
                refine o_assign gn rfl rfl ?_
                refine wl_end ?_
                refine w_block ?_
                refine w_weak [(5, ptrV (h.n + 1)), (8, ptrV tc), (9, ptrV kc), (11, ptrV m1.n), (12, iV 0)] (by repeat (first | exact trivial | refine ⟨rfl, ?_⟩)) ?_
                refine w_loop (fun k l hh => ∃ (i : Int) (xs : List Int), 0 ≤ i ∧ i ≤ o.vals.length ∧ k = (o.vals.length - i).toNat ∧ xs.length = o.vals.length ∧ hh.get m1.n = some (.cells (o.cells (.slice asl (isV o.vals).length (isV o.vals).length)) 46 0) ∧ Sl 2 hh (.slice asl (isV o.vals).length (isV o.vals).length) (isV xs) bs ∧ ExtB bs m4 hh ∧ l = [(5, ptrV (h.n + 1)), (8, ptrV tc), (9, ptrV kc), (11, ptrV m1.n), (12, iV i)]) (n := (o.vals.length - (0 : Int)).toNat) ?_ fun k l hh hI => ?_
                · exact ⟨0, o.vals, by omega, by omega, rfl, rfl, q5, hs4, .refl _ _, rfl⟩
                · obtain ⟨i, xs, hi0, hi1, rfl, hxl, hgo, hsl, hxb, rfl⟩ := hI
                  refine w_seq ?_
                  refine w_seq ?_
                  refine w_region (by kernel_rfl) ?_
                  refine o_move gn rfl rfl ?_
                  refine o_fieldAddr (off := 2) gn rfl rfl (by kernel_rfl) ?_
                  refine o_load gn rfl rfl (by kernel_rfl) (by assumption) rfl ?_
                  refine o_len gn rfl rfl (by kernel_rfl) ?_
                  refine o_lss gn rfl rfl rfl ?_
                  refine wl_end ?_
                  refine w_cond rfl (fun hb => ?_) fun hb => ?_
                  · skip
                    have hlt2 : i < o.vals.length := by simpa using hb
                    obtain ⟨bo, mo, eo, hbo, hmo, hbolt, hBo⟩ := hsl.at (by simp; omega)
                    simp only [Value.slice.injEq] at eo
                    obtain ⟨rfl, _, _⟩ := eo
                    have hne : bo ≠ m1.n := fun e => by have := hbl bo (by simp [hBo]); omega
                    refine w_skip ?_
                    refine w_seq ?_
                    refine w_block ?_
                    refine w_region (by kernel_rfl) ?_
                    refine o_fieldAddr (off := 2) gn rfl rfl (by kernel_rfl) ?_
                    refine o_load gn rfl rfl (by kernel_rfl) (by assumption) rfl ?_
                    refine o_move gn rfl rfl ?_
                    refine o_indexAddr (zz := 1) gn rfl rfl rfl (by kernel_rfl) (by omega) (by simp; omega) ?_
                    refine o_load gn rfl rfl (by kernel_rfl) hbo (at_int (k := .i64) i.toNat (by omega) (by omega)) ?_
                    refine o_addw gn rfl rfl rfl ?_
                    refine o_indexAddr (zz := 1) gn rfl rfl rfl (by kernel_rfl) (by omega) (by simp; omega) ?_
                    refine o_store gn rfl rfl rfl (by kernel_rfl) hbo (by omega) (by simp; omega) ag0 ?_
                    refine wl_end ?_
                    refine w_region (by kernel_rfl) ?_
                    refine o_move gn rfl rfl ?_
                    refine o_add gn rfl rfl rfl (by omega) (by omega) ?_
                    refine o_assign gn rfl rfl ?_
                    refine wl_end ?_
                    exact ⟨(o.vals.length - (i + 1)).toNat, by omega, _, (by repeat (first | exact trivial | refine ⟨rfl, ?_⟩)), ⟨i + 1, xs.set i.toNat (IntKind.i64.wrap ((xs[i.toNat]?).getD 0 + 1)), by omega, by omega, rfl, by simp [hxl], by rw [Hp.get_put, if_neg hne]; exact hgo, by
                      have hset : (isV xs).set (0 + i.toNat * 1) (iV (IntKind.i64.wrap ((xs[i.toNat]?).getD 0 + 1))) = isV (xs.set i.toNat (IntKind.i64.wrap ((xs[i.toNat]?).getD 0 + 1))) := by simp [isV, List.map_set]
                      rw [hset, hBo]
                      exact Sl.put (by simp [hxl]) hmo hbolt, hxb.trans ((ExtB.put _ _ _).mono (by simp [hBo])), rfl⟩⟩
                  · skip
                    refine w_exit ?_
                    refine thn_exit ?_
                    refine rnd_exit ?_
                    refine blk_eq ?_
                    have hkc5 := (hxb.get kc (by have := x4.n; omega) (fun hj => by have := hbs _ hj; omega)).trans ((x4.get kc (by omega)).trans hkc)
                    refine w_seq ?_
                    refine w_region (by kernel_rfl) ?_
                    refine o_load gn rfl rfl (by kernel_rfl) (by assumption) rfl ?_
                    refine o_add gn rfl rfl rfl (by omega) (by omega) ?_
                    refine o_store gn rfl rfl rfl (by kernel_rfl) (by assumption) (by decide) (by simp) ag0 ?_
                    refine wl_end ?_
                    have hx4n := x4.n
                    have hxbn := hxb.n
                    have hm5 := ((hm3.trans (x4.b _)).more hxb hbs).trans (ExtB.put _ kc (.cells [iV ((kq : Int) + 1)] 3 0) |>.mono (by simp))
                    have hm15 : ExtB (bs ++ [kc, h5.n + 1]) m1 _ := ((q3.mono (by simp)).trans ((x4.b _).trans (hxb.mono (by grind)))).trans ((ExtB.put _ kc (.cells [iV ((kq : Int) + 1)] 3 0)).mono (by simp))
                    refine w_at (fun m6 => m6.get kc = some (.cells [iV ((kq + 1 : Nat) : Int)] 3 0) ∧ m6.get (h5.n + 1) = some (rc .busy none) ∧ ExtB [kc, h5.n + 1] h0 m6 ∧ ExtB (bs ++ [kc, h5.n + 1]) m1 m6) ⟨Hp.get_put_self _ _ _, ?_, hm5, hm15⟩ fun m6 ⟨r1, r2, r3, r4⟩ => ?_
                    · rw [Hp.get_put, if_neg (by omega), hxb.get _ (by omega) (fun hj => by have := hbs _ hj; omega), x4.get _ (by omega)]; exact q2
                    obtain ⟨y0, y1, y2, y3, y4, yx⟩ := keep m6 r3
                    refine w_seq ?_
                    refine w_region (by kernel_rfl) ?_
                    refine o_load gn rfl rfl (by kernel_rfl) (by assumption) rfl ?_
                    refine o_eqi gn rfl rfl rfl ?_
                    refine o_move gn rfl rfl ?_
                    refine o_and (n := 3) rfl rfl rfl gn rfl (fun hb => by
                        refine o_load (gy rfl rfl rfl hb) rfl rfl (by kernel_rfl) (by assumption) rfl ?_
                        refine o_load (gy rfl rfl rfl hb) rfl rfl (by kernel_rfl) (by assumption) rfl ?_
                        refine o_eqi (gy rfl rfl rfl hb) rfl rfl rfl ?_
                        exact wl_end ⟨rfl, rfl, 3, rfl, rfl⟩) ?_
                    refine wl_end ?_
                    refine w_cond rfl (fun hb => ?_) fun hb => ?_
                    · skip
                      refine w_exit ?_
                      refine blk_ne (by decide) ?_
                      exact ⟨_, _, r2, ⟨r4.trans ((ExtB.put _ _ _).mono (by simp)), .inr ⟨rfl, by simp at hb; omega, by rw [Hp.get_put, if_neg (by omega), show most = ((kq + 1 : Nat) : Int) from by simp at hb; omega]; exact r1, Hp.get_put_self _ _ _, r3.trans ((ExtB.put _ _ _).mono (by simp))⟩⟩⟩
                    · skip
                      refine w_skip ?_
                      exact ⟨_, _, r2, ⟨r4.trans ((ExtB.put _ _ _).mono (by simp)), .inl ⟨rfl, by rw [Hp.get_put, if_neg (by omega)]; exact r1, Hp.get_put_self _ _ _, r3.trans ((ExtB.put _ _ _).mono (by simp))⟩⟩⟩
        refine C.mono (c74 (cs := [kc, h5.n + 1]) k0.2.2.2.1 (by omega) (hl.ext k0.2.2.2.2.2) ok (by simp; omega) (fun kq m1 => m1.get kc = some (.cells [iV (kq : Nat)] 3 0) ∧ m1.get (h5.n + 1) = some (rc .ready none) ∧ ExtB [kc, h5.n + 1] h0 m1) (fun m2 => t = 0 ∧ m2.get kc = some (.cells [iV most] 3 0) ∧ m2.get (h5.n + 1) = some (rc .done (some (.exit 2))) ∧ ExtB [kc, h5.n + 1] h0 m2) (fun m1 xm => ⟨(xm.get _ (by omega)).trans g50, (xm.get _ (by omega)).trans hrc, xm.b _⟩) hround) ?_
        rintro v h' hPR
        obtain ⟨st, p, kk, hrec, hst, hp, hk, hcase, hxx⟩ : ∃ st p kk, h'.get (h5.n + 1) = some (rc st p) ∧ st ≠ .busy ∧ (p = none ∨ p = some (.exit 2)) ∧ h'.get kc = some (.cells [iV kk] 3 0) ∧ (kk = es.length ∨ (t = 0 ∧ kk = most)) ∧ ExtB [kc, h5.n + 1] h0 h' := by
          rcases hPR with ⟨e1, e2, e3⟩ | ⟨e0, e1, e2, e3⟩
          · exact ⟨_, _, _, e2, by simp, .inl rfl, e1, .inl (by rw [hlen]), e3⟩
          · exact ⟨_, _, _, e2, by simp, .inr rfl, e1, .inr ⟨e0, rfl⟩, e3⟩
        refine ⟨_, _, hrec, hst, fun h2 hx2 hn2 => ?_⟩
        refine aft_blk hp ?_
        have hx02 := hxx.trans (hx2.mono (by simp))
        have hxxn := hxx.n
        obtain ⟨z0, z1, z2, z3, z4, zx⟩ := keep h2 hx02
        have hk2 := (hx2.get kc (by omega) (by simp; omega)).trans hk
        have hd2 := hd.ext zx
        have htd2 := hd2.top
        refine w_seq ?_
        refine w_draw [(0, []), (1, []), (2, []), (3, []), (4, []), (5, []), (6, []), (7, []), (8, []), (9, []), (10, []), (11, []), (12, []), (13, []), (14, []), (15, [])] (by kernel_rfl) (by kernel_rfl) (by kernel_rfl) (by kernel_rfl) ?_
        refine o_load gn rfl rfl (by kernel_rfl) (by assumption) rfl ?_
        refine o_load gn rfl rfl (by kernel_rfl) (by assumption) rfl ?_
        refine o_nilCheck gn rfl rfl ?_
        refine o_fieldAddr (off := 0) gn rfl rfl (by kernel_rfl) ?_
        refine o_load gn rfl rfl (by kernel_rfl) (by assumption) rfl ?_
        refine o_len gn rfl rfl (by kernel_rfl) ?_
        refine o_nei gn rfl rfl rfl ?_
        refine o_move gn rfl rfl ?_
        refine o_and (n := 7) rfl rfl rfl gn rfl (fun hb => by
            refine o_load (gy rfl rfl rfl hb) rfl rfl (by kernel_rfl) (by assumption) rfl ?_
            refine o_gtr (gy rfl rfl rfl hb) rfl rfl rfl ?_
            refine o_move (gy rfl rfl rfl hb) rfl rfl ?_
            refine o_or (n := 3) rfl rfl rfl (gy rfl rfl rfl hb) rfl (fun hb => by
                refine o_load (gy rfl rfl rfl hb) rfl rfl (by kernel_rfl) (by assumption) rfl ?_
                refine o_load (gy rfl rfl rfl hb) rfl rfl (by kernel_rfl) (by assumption) rfl ?_
                refine o_nei (gy rfl rfl rfl hb) rfl rfl rfl ?_
                exact wl_end ⟨rfl, rfl, 3, rfl, rfl⟩) ?_
            exact wl_end ⟨rfl, rfl, 4, rfl, rfl⟩) ?_
        refine wl_end ?_
        refine w_cond rfl (fun hb => ?_) fun hb => ?_
        · skip
          simp at hb
          omega
        · skip
          refine w_skip ?_
          refine w_seq ?_
          refine w_seq ?_
          refine w_region (by kernel_rfl) ?_
          refine o_load gn rfl rfl (by kernel_rfl) (by assumption) rfl ?_
          refine wl_end ?_
          refine w_region (by kernel_rfl) ?_
          refine o_alloc (zv := .int .i64 0) gn rfl (by kernel_rfl) ?_
          refine o_store gn rfl rfl rfl (by kernel_rfl) (Hp.get_alloc_self _ _) (by decide) (by decide) ag0 ?_
          refine wl_at (fun h7 => h7.get h2.n = some (.cells [iV t] 3 0) ∧ Ext h2 h7 ∧ h7.n = h2.n + 1) ⟨Hp.get_put_self _ _ _, (Ext.alloc _ _).of (ExtB.put _ _ _) (by simp), by rw [Hp.n_put, Hp.n_alloc]⟩ fun h7 ⟨g7, x7, n7⟩ => ?_
          refine wl_end ?_
          refine w_region (by kernel_rfl) ?_
          refine o_load gn rfl rfl (by kernel_rfl) (by assumption) rfl ?_
          refine o_add gn rfl rfl rfl (by omega) (by omega) ?_
          refine o_store gn rfl rfl rfl (by kernel_rfl) (by assumption) (by decide) (by simp) ag0 ?_
          refine wl_end ?_
          exact ⟨(2 - (t + 1)).toNat, by omega, _, (by repeat (first | exact trivial | refine ⟨rfl, ?_⟩)), ⟨t + 1, h2.n, by omega, by omega, rfl, by rw [Hp.get_put, if_neg (by omega), x7.get _ (by omega)]; exact z0, by rw [Hp.get_put, if_neg (by omega), x7.get _ (by omega)]; exact z1, by rw [Hp.get_put, if_neg (by omega), x7.get _ (by omega)]; exact z2, by rw [Hp.get_put, if_neg (by omega), x7.get _ (by omega)]; exact z3, Hp.get_put_self _ _ _, by omega, by rw [Hp.n_put]; omega, (zx.trans x7).of (ExtB.put _ _ _) (by simp; omega), rfl⟩⟩
      · skip
        refine w_exit ?_
        refine thn_exit ?_
        refine rnd_exit ?_
        refine blk_eq ?_
        have hdx := hd.ext hx
        have htx := hdx.top
        refine w_seq ?_
        refine w_draw [(0, []), (2, []), (3, []), (4, []), (5, []), (6, []), (1, [2, 5, 6]), (7, []), (8, [])] (by kernel_rfl) (by kernel_rfl) (by kernel_rfl) (by kernel_rfl) ?_
        refine o_move gn rfl rfl ?_
        refine o_load gn rfl rfl (by kernel_rfl) (by assumption) rfl ?_
        refine o_nilCheck gn rfl rfl ?_
        refine o_fieldAddr (off := 0) gn rfl rfl (by kernel_rfl) ?_
        refine o_load gn rfl rfl (by kernel_rfl) (by assumption) rfl ?_
        refine o_len gn rfl rfl (by kernel_rfl) ?_
        refine o_call [_] gn rfl rfl (by kernel_rfl) rfl (c_pure (c22' (hl.ext hx)) ⟨(ag1 (ag_load gn rfl (by kernel_rfl) (by assumption) rfl rfl same_ptr) (ag1 (ag_load gn rfl (by kernel_rfl) (by assumption) rfl rfl same_slice) (ag1 (ag_len gn rfl (by kernel_rfl) rfl) ag0))), ?_⟩)
        refine o_eqi gn rfl rfl rfl ?_
        refine o_store gn rfl rfl rfl (by kernel_rfl) (by assumption) (by decide) (by simp) ag0 ?_
        refine wl_end ?_
        refine w_ret ?_
        refine ⟨.inl rfl, _, (resH_cell rfl (by kernel_rfl) (Hp.get_put_self _ _ _) rfl rfl), fun h2 hco => ?_⟩
        exact ⟨by simp [oneOf, hlen], hco.ext (hx.of (ExtB.put _ _ _) (by simp))⟩

end Go.Proofs.Ytkmbfjdmbdpflaa


namespace Go.Proofs.Ytkmbfjdmbdpflaa
open Go.X

theorem two_new {h0 h : Hp} {b r : Nat} (hl : HeapR h b [] [] [] (.slice none 0 0) [] r [] 0) (hb : h0.n ≤ b) (hr : h0.n ≤ r) (hn : h0.n ≤ h.n) :
    Two8 (h.alloc (.cells [.slice none 0 0] 66 0)) b h.n [] [b, r] [h.n] ∧ ∀ i, i ∈ [b, r] ∨ i ∈ [h.n] → h0.n ≤ i := by
  have hlt := hl.lt
  have hlb := hlt b (by simp)
  have hlr := hlt r (by simp)
  refine ⟨⟨⟨_, _, _, _, _, _, _, hl.ext (Ext.alloc _ _), rfl⟩, ⟨[], .slice none 0 0, [], ⟨Hp.get_alloc_self _ _, .inl ⟨rfl, rfl, rfl, rfl⟩, by simp, by simp [rowB], by rw [Hp.n_alloc]; omega⟩, rfl, rfl⟩, fun i hi => by simp at hi ⊢; omega, ⟨by simp, by simp⟩⟩, fun i hi => by simp at hi; omega⟩

/-- One act of a row, upon both heaps. -/
theorem c33r {h hh : Hp} {b d : Nat} {obs : List Ob} {o1 o2 : List Nat} {a : Option Addr} {acts : List HAct} {most : Int} (t : Two8 hh b d obs o1 o2) (hnew : ∀ i, i ∈ o1 ∨ i ∈ o2 → h.n ≤ i) (hx : Ext h hh) (hs : ActsH h a acts) (hf : Few acts most) {i : Nat} (hi : i < acts.length) :
    C heapE 33 [ptrV b, ptrV d, .agg (acts[i]).cells.toArray] hh fun v h' => v = .bool true ∧ ∃ obs' o1' o2', Two8 h' b d obs' o1' o2' ∧ (∀ i, i ∈ o1' ∨ i ∈ o2' → i ∈ o1 ∨ i ∈ o2 ∨ hh.n ≤ i) ∧ ExtB (o1 ++ o2) hh h' := by
  obtain ⟨hsrc, hsv⟩ := hs.each _ (List.getElem_mem hi)
  have hlt := hsrc.lt
  exact c33 t (hsrc.ext hx) hsv (hf.2 _ (List.getElem_mem hi)) (fun a n c e => ⟨fun hm => by have := hnew _ (.inl hm); have := hlt _ _ _ e; omega, fun hm => by have := hnew _ (.inr hm); have := hlt _ _ _ e; omega⟩)

/-- HeapPlays -/
theorem c8 {h : Hp} {a : Option Addr} {c : Nat} {acts : List HAct} {leave : Int} (hs : ActsH h a acts) : C heapE 8 [.slice a acts.length c, iV leave] h fun v _ => v = .bool true := by
  refine c_enter (fu := Try.f8) (by kernel_rfl) rfl ?_
  refine w_seq ?_
  refine w_region (by kernel_rfl) ?_
  refine o_assign gn rfl rfl ?_
  refine wl_end ?_
  refine w_seq ?_
  refine w_seq ?_
  refine w_region (by kernel_rfl) ?_
  refine o_move gn rfl rfl ?_
  refine o_call [_, _] gn rfl rfl (by kernel_rfl) rfl (C.mono (c32 hs (by omega)) ?_)
  rintro v0 h0 ⟨e0, tf, rfl, hfew⟩
  obtain rfl := e0.symm
  refine ⟨ag0, ?_⟩
  refine o_not gn rfl rfl ?_
  refine wl_end ?_
  refine w_cond rfl (fun hb => ?_) fun hb => ?_
  · skip
    refine w_seq ?_
    refine w_region (by kernel_rfl) ?_
    refine o_orc (f := 18) (v := .bool true) gn rfl (by kernel_rfl) (by kernel_rfl) ag0 ?_
    refine o_assign gn rfl rfl ?_
    refine wl_end ?_
    refine w_ret ?_
    refine ⟨.inl rfl, _, rfl, ?_⟩
    rfl
  · skip
    have htf : tf = true := by simpa using hb
    have hf := hfew htf
    have hlen := hf.1
    refine w_skip ?_
    refine w_seq ?_
    refine w_region (by kernel_rfl) ?_
    refine o_call [] gn rfl rfl (by kernel_rfl) rfl (C.mono (c19) ?_)
    rintro v1 h1 ⟨b, r, rfl, hl1, x1, hb1, hr1⟩
    refine ⟨ag0, ?_⟩
    refine o_build (zv := .agg #[.slice none 0 0]) (pl := [(0, 1)]) [] gn rfl (by kernel_rfl) (by kernel_rfl) rfl rfl ?_
    refine o_box gn rfl rfl ?_
    obtain ⟨t2, hnew2⟩ := two_new hl1 hb1 hr1 x1.n
    have x2 := x1.trans (Ext.alloc h1 (.cells [.slice none 0 0] 66 0))
    refine o_assign gn rfl rfl ?_
    refine o_assign gn rfl rfl ?_
    refine wl_end ?_
    refine w_seq ?_
    refine w_seq ?_
    refine w_region (by kernel_rfl) ?_
    refine o_assign gn rfl rfl ?_
    refine wl_end ?_
    refine w_block ?_
    refine w_weak [(0, .slice a acts.length c), (1, iV leave), (5, ptrV b), (6, ptrV h1.n), (7, iV 0)] (by repeat (first | exact trivial | refine ⟨rfl, ?_⟩)) ?_
    refine w_loop (fun k l hh => ∃ (i : Int) (b d : Nat) (obs : List Ob) (o1 o2 : List Nat), 0 ≤ i ∧ i ≤ acts.length ∧ k = (acts.length - i).toNat ∧ Two8 hh b d obs o1 o2 ∧ (∀ j, j ∈ o1 ∨ j ∈ o2 → h.n ≤ j) ∧ Ext h hh ∧ l = [(0, .slice a acts.length c), (1, iV leave), (5, ptrV b), (6, ptrV d), (7, iV i)]) (n := acts.length) ?_ fun k l hh hI => ?_
    · exact ⟨0, _, _, _, _, _, by omega, by omega, by omega, t2, hnew2, x2, rfl⟩
    · obtain ⟨i, b, d, obs, o1, o2, hi0, hi1, rfl, t, hnew, hx, rfl⟩ := hI
      refine w_seq ?_
      refine w_seq ?_
      refine w_region (by kernel_rfl) ?_
      refine o_move gn rfl rfl ?_
      refine o_move gn rfl rfl ?_
      refine o_len gn rfl rfl (by kernel_rfl) ?_
      refine o_lss gn rfl rfl rfl ?_
      refine wl_end ?_
      refine w_cond rfl (fun hb => ?_) fun hb => ?_
      · skip
        have hlt : i.toNat < acts.length := by simp at hb; omega
        obtain ⟨bb, oo, cs, e, m, rfl, hg, hbb, hle, hrow, _⟩ := hs.at hlt
        have hg2 := (hx.get bb hbb).trans hg
        refine w_skip ?_
        refine w_seq ?_
        refine w_block ?_
        refine w_seq ?_
        refine w_region (by kernel_rfl) ?_
        refine o_move gn rfl rfl ?_
        refine o_move gn rfl rfl ?_
        refine o_move gn rfl rfl ?_
        refine o_move gn rfl rfl ?_
        refine o_indexAddr (zz := 10) gn rfl rfl rfl (by kernel_rfl) (by omega) (by omega) ?_
        refine o_loadA (n := 10) gn rfl rfl (by kernel_rfl) (by kernel_rfl) hg2 hle ?_
        rw [hrow]
        refine o_call [_, _, _] gn rfl rfl (by kernel_rfl) rfl (C.mono (c33r t hnew hx hs hf hlt) ?_)
        rintro v3 h3 ⟨rfl, obs', o1', o2', t3, hn3, x3⟩
        refine ⟨ag0, ?_⟩
        refine o_not gn rfl rfl ?_
        refine wl_end ?_
        refine w_cond rfl (fun hb => ?_) fun hb => ?_
        · skip
          cases hb
        · skip
          refine w_skip ?_
          refine w_region (by kernel_rfl) ?_
          refine o_move gn rfl rfl ?_
          refine o_add gn rfl rfl rfl (by omega) (by omega) ?_
          refine o_assign gn rfl rfl ?_
          refine wl_end ?_
          exact ⟨(acts.length - (i + 1)).toNat, by omega, _, (by repeat (first | exact trivial | refine ⟨rfl, ?_⟩)), ⟨i + 1, b, d, obs', o1', o2', by omega, by omega, rfl, t3, fun j hj => by
            rcases hn3 j hj with h5 | h5 | h5
            · exact hnew j (.inl h5)
            · exact hnew j (.inr h5)
            · have := hx.n; omega, hx.of x3 (fun j hj => hnew j (List.mem_append.1 hj)), rfl⟩⟩
      · skip
        refine w_exit ?_
        refine thn_exit ?_
        refine rnd_exit ?_
        refine blk_eq ?_
        refine w_seq ?_
        refine w_region (by kernel_rfl) ?_
        refine o_move gn rfl rfl ?_
        refine o_move gn rfl rfl ?_
        refine o_move gn rfl rfl ?_
        refine o_call [_, _, _] gn rfl rfl (by kernel_rfl) rfl (C.mono (c34 t) ?_)
        rintro v3 h3 ⟨rfl, x3⟩
        refine ⟨ag0, ?_⟩
        refine o_move gn rfl rfl ?_
        refine o_and (n := 1) rfl rfl rfl gn rfl (fun hb => by
            refine o_orc (f := 18) (v := .bool true) (gy rfl rfl rfl hb) rfl (by kernel_rfl) (by kernel_rfl) ag0 ?_
            exact wl_end ⟨rfl, rfl, 1, rfl, rfl⟩) ?_
        refine o_assign gn rfl rfl ?_
        refine wl_end ?_
        refine w_ret ?_
        refine ⟨.inl rfl, _, rfl, ?_⟩
        rfl

end Go.Proofs.Ytkmbfjdmbdpflaa


namespace Go.Proofs.Ytkmbfjdmbdpflaa
open Go.ChangeShapes Go.WideShapes Go.ChangeAt Go.RowKit Go.Deep Go.X

set_option maxRecDepth 100000

theorem heap_int : Try.prog.underlying 3 = some (.int .i64) := by kernel_rfl
theorem heap_int2 : Try.prog.underlying 2 = some (.int .i64) := by kernel_rfl
theorem heap_kind : Try.prog.underlying 43 = some (.int .i64) := by kernel_rfl
theorem heap_bool : Try.prog.underlying 4 = some .bool := by kernel_rfl
theorem heap_own : ownKnob Try.prog.godebug = none := by kernel_rfl
theorem heap_laid : laidOutB Try.prog = true := by kernel_rfl
theorem acts10_slice : Try.prog.underlying 61 = some (.slice 69) := by kernel_rfl
theorem cells10_slice : Try.prog.underlying 44 = some (.slice 2) := by kernel_rfl
theorem act10_cells : Try.prog.cellsOf 69 = 10 := by kernel_rfl
theorem c1_2 : Try.prog.cellsOf 2 = 1 := by kernel_rfl
theorem c1_3 : Try.prog.cellsOf 3 = 1 := by kernel_rfl
theorem c1_43 : Try.prog.cellsOf 43 = 1 := by kernel_rfl
theorem c1_44 : Try.prog.cellsOf 44 = 1 := by kernel_rfl
noncomputable def act10Fs : Array Field := match Try.prog.underlying 69 with | some (.struct fs) => fs | _ => #[]
theorem act10_struct : Try.prog.underlying 69 = some (.struct act10Fs) := by kernel_rfl

theorem act10_rd {h : Hp} {cs : List Value} (x : Rd Try.prog h 69 cs) : ∃ act : HAct, cs = act.cells ∧ Src h act.sv (isV act.vals) ∧ ∃ a n c, act.sv = .slice a n c := by
  have hl := (x.inv_struct act10_struct).1
  rw [act10_cells] at hl
  obtain ⟨n0, e0, _⟩ := x.fld_int act10_struct 0 0 3 rfl ⟨rfl, rfl⟩ heap_int c1_3
  obtain ⟨n1, e1, _⟩ := x.fld_int act10_struct 1 1 43 rfl ⟨rfl, rfl⟩ heap_kind c1_43
  obtain ⟨n2, e2, _⟩ := x.fld_int act10_struct 2 2 3 rfl ⟨rfl, rfl⟩ heap_int c1_3
  obtain ⟨n3, e3, _⟩ := x.fld_int act10_struct 3 3 3 rfl ⟨rfl, rfl⟩ heap_int c1_3
  obtain ⟨n4, e4, _⟩ := x.fld_int act10_struct 4 4 3 rfl ⟨rfl, rfl⟩ heap_int c1_3
  obtain ⟨n5, e5, _⟩ := x.fld_int act10_struct 5 5 3 rfl ⟨rfl, rfl⟩ heap_int c1_3
  obtain ⟨n6, e6, _⟩ := x.fld_int act10_struct 6 6 2 rfl ⟨rfl, rfl⟩ heap_int2 c1_2
  obtain ⟨n7, e7, _⟩ := x.fld_int act10_struct 7 7 3 rfl ⟨rfl, rfl⟩ heap_int c1_3
  obtain ⟨n8, e8, _⟩ := x.fld_int act10_struct 8 8 2 rfl ⟨rfl, rfl⟩ heap_int2 c1_2
  have h9 : Rd Try.prog h 44 ((cs.drop 9).take (Try.prog.cellsOf 44)) := (x.inv_struct act10_struct).2 9 _ rfl
  rw [c1_44] at h9
  obtain ⟨a, n, c, e9, _, _, vals, _, hs, _⟩ := h9.ints cells10_slice heap_int2 c1_2
  replace e9 := one_at e9
  refine ⟨⟨n0, n1, n2, n3, n4, n5, n6, n7, n8, .slice a n c, vals⟩, ?_, hs, a, n, c, rfl⟩
  match cs, hl with
  | [a0, a1, a2, a3, a4, a5, a6, a7, a8, a9], _ =>
    simp only [List.getElem?_cons_zero, List.getElem?_cons_succ, Option.some.injEq] at e0 e1 e2 e3 e4 e5 e6 e7 e8 e9
    rw [e0, e1, e2, e3, e4, e5, e6, e7, e8, e9]; rfl

theorem acts10_at {H : Type} {enc : TypeId × Value → H} {W : World} {r : Reach} {base : Nat} {v : Value} {d : DataW H} {ps : List MemPlace} (hok : Value.okWide Try.prog W r base 61 v) (h : DataW.Trod enc Try.prog W 0 (fun _ => true) true 61 v d ps) :
    ∃ a c, ∃ acts : List HAct, v = .slice a acts.length c ∧ VRel (Mp.all W) v v ∧ ActsH (Hp.all W) a acts := by
  obtain ⟨hv, _, _, _, _, x⟩ := arg_rd_slice acts10_slice hok h
  obtain ⟨a, n, c, e, _, _, _, _, hrow⟩ := x.inv_slice acts10_slice (by rw [act10_cells]; omega)
  simp only [List.cons.injEq, and_true] at e
  subst e
  rcases hrow with rfl | ⟨b, o, xs, u, rfl, hb, hg, hl, hr⟩
  · exact ⟨a, c, [], rfl, hv, ⟨.inl rfl, fun x hx => by cases hx⟩⟩
  · rw [act10_cells] at hl hr
    obtain ⟨acts, hal, ha⟩ := rows_of (n := n) (Q := fun i (act : HAct) => (xs.drop (o + i * 10)).take 10 = act.cells ∧ Src (Hp.all W) act.sv (isV act.vals) ∧ ∃ a n c, act.sv = .slice a n c) fun i hi => act10_rd (hr i hi)
    subst hal
    refine ⟨_, c, acts, rfl, hv, ⟨.inr ⟨b, o, xs, u, 1, rfl, hg, hb, fun i hi => (ha i hi).1⟩, fun x hx => ?_⟩⟩
    obtain ⟨i, hi, rfl⟩ := List.mem_iff_getElem.1 hx
    exact (ha i hi).2

end Go.Proofs.Ytkmbfjdmbdpflaa

namespace Go.Proofs.Ytkmbfjdmbdpflaa
open Go.X

/-- What Same holds two objects with -/
theorem c71 {h : Hp} {o o' : Ob} {sv : Value} {bs bs' : List Nat} {p : Nat} (hs : Sl 2 h sv (isV o.vals) bs) (hb : ObAt h p o' bs') (hn : o.vals.length ≤ 100000) :
    C heapE 71 [.agg (o.cells sv).toArray, ptrV p] h fun v h' => v = .bool (sameOb o o') ∧ Ext h h' := by
  obtain ⟨a, rfl⟩ := hs.val
  obtain ⟨sv', hg, hs'⟩ := hb.at'
  obtain ⟨a', rfl⟩ := hs'.val
  have hplt := hb.lt
  refine c_enter (fu := Try.f71) (by kernel_rfl) rfl ?_
  refine w_seq ?_
  refine w_region (by kernel_rfl) ?_
  refine o_box gn rfl rfl ?_
  refine wl_at (fun h2 => h2.get h.n = some (.cells (o.cells (.slice a (isV o.vals).length (isV o.vals).length)) 46 0) ∧ Ext h h2 ∧ h2.n = h.n + 1) ⟨Hp.get_alloc_self _ _, Ext.alloc _ _, Hp.n_alloc _ _⟩ fun h2 ⟨g2, x2, n2⟩ => ?_
  have gp := (x2.get p hplt).trans hg
  have hs2 := hs.ext x2
  have hs2' := hs'.ext x2
  refine o_assign gn rfl rfl ?_
  refine wl_end ?_
  refine w_seq ?_
  refine w_draw [(0, []), (1, []), (2, []), (3, []), (4, []), (5, []), (6, []), (7, []), (8, []), (9, []), (10, []), (11, []), (12, []), (13, []), (14, []), (15, []), (16, []), (17, []), (18, []), (19, []), (20, []), (21, []), (22, []), (23, []), (24, []), (25, []), (26, []), (27, []), (28, []), (29, []), (30, []), (31, []), (32, []), (33, []), (34, []), (35, []), (36, []), (37, []), (38, []), (39, []), (40, []), (41, []), (42, []), (43, []), (44, []), (45, []), (46, []), (47, []), (48, []), (49, []), (50, []), (51, []), (52, [])] (by kernel_rfl) (by kernel_rfl) (by kernel_rfl) (by kernel_rfl) ?_
  refine o_fieldAddr (off := 0) gn rfl rfl (by kernel_rfl) ?_
  refine o_load gn rfl rfl (by kernel_rfl) (by assumption) rfl ?_
  refine o_move gn rfl rfl ?_
  refine o_nilCheck gn rfl rfl ?_
  refine o_fieldAddr (off := 0) gn rfl rfl (by kernel_rfl) ?_
  refine o_load gn rfl rfl (by kernel_rfl) (by assumption) rfl ?_
  refine o_eqi gn rfl rfl rfl ?_
  refine o_move gn rfl rfl ?_
  refine o_and (n := 7) rfl rfl rfl gn rfl (fun hb => by
      refine o_fieldAddr (off := 1) (gy rfl rfl rfl hb) rfl rfl (by kernel_rfl) ?_
      refine o_load (gy rfl rfl rfl hb) rfl rfl (by kernel_rfl) (by assumption) rfl ?_
      refine o_move (gy rfl rfl rfl hb) rfl rfl ?_
      refine o_nilCheck (gy rfl rfl rfl hb) rfl rfl ?_
      refine o_fieldAddr (off := 1) (gy rfl rfl rfl hb) rfl rfl (by kernel_rfl) ?_
      refine o_load (gy rfl rfl rfl hb) rfl rfl (by kernel_rfl) (by assumption) rfl ?_
      refine o_eqi (gy rfl rfl rfl hb) rfl rfl rfl ?_
      exact wl_end ⟨rfl, rfl, 7, rfl, rfl⟩) ?_
  refine o_move gn rfl rfl ?_
  refine o_and (n := 7) rfl rfl rfl gn rfl (fun hb => by
      refine o_fieldAddr (off := 3) (gy rfl rfl rfl hb) rfl rfl (by kernel_rfl) ?_
      refine o_load (gy rfl rfl rfl hb) rfl rfl (by kernel_rfl) (by assumption) rfl ?_
      refine o_move (gy rfl rfl rfl hb) rfl rfl ?_
      refine o_nilCheck (gy rfl rfl rfl hb) rfl rfl ?_
      refine o_fieldAddr (off := 3) (gy rfl rfl rfl hb) rfl rfl (by kernel_rfl) ?_
      refine o_load (gy rfl rfl rfl hb) rfl rfl (by kernel_rfl) (by assumption) rfl ?_
      refine o_eqi (gy rfl rfl rfl hb) rfl rfl rfl ?_
      exact wl_end ⟨rfl, rfl, 7, rfl, rfl⟩) ?_
  refine o_move gn rfl rfl ?_
  refine o_and (n := 7) rfl rfl rfl gn rfl (fun hb => by
      refine o_fieldAddr (off := 4) (gy rfl rfl rfl hb) rfl rfl (by kernel_rfl) ?_
      refine o_load (gy rfl rfl rfl hb) rfl rfl (by kernel_rfl) (by assumption) rfl ?_
      refine o_move (gy rfl rfl rfl hb) rfl rfl ?_
      refine o_nilCheck (gy rfl rfl rfl hb) rfl rfl ?_
      refine o_fieldAddr (off := 4) (gy rfl rfl rfl hb) rfl rfl (by kernel_rfl) ?_
      refine o_load (gy rfl rfl rfl hb) rfl rfl (by kernel_rfl) (by assumption) rfl ?_
      refine o_eqi (gy rfl rfl rfl hb) rfl rfl rfl ?_
      exact wl_end ⟨rfl, rfl, 7, rfl, rfl⟩) ?_
  refine o_move gn rfl rfl ?_
  refine o_and (n := 7) rfl rfl rfl gn rfl (fun hb => by
      refine o_fieldAddr (off := 5) (gy rfl rfl rfl hb) rfl rfl (by kernel_rfl) ?_
      refine o_load (gy rfl rfl rfl hb) rfl rfl (by kernel_rfl) (by assumption) rfl ?_
      refine o_move (gy rfl rfl rfl hb) rfl rfl ?_
      refine o_nilCheck (gy rfl rfl rfl hb) rfl rfl ?_
      refine o_fieldAddr (off := 5) (gy rfl rfl rfl hb) rfl rfl (by kernel_rfl) ?_
      refine o_load (gy rfl rfl rfl hb) rfl rfl (by kernel_rfl) (by assumption) rfl ?_
      refine o_eqi (gy rfl rfl rfl hb) rfl rfl rfl ?_
      exact wl_end ⟨rfl, rfl, 7, rfl, rfl⟩) ?_
  refine o_move gn rfl rfl ?_
  refine o_and (n := 7) rfl rfl rfl gn rfl (fun hb => by
      refine o_fieldAddr (off := 2) (gy rfl rfl rfl hb) rfl rfl (by kernel_rfl) ?_
      refine o_load (gy rfl rfl rfl hb) rfl rfl (by kernel_rfl) (by assumption) rfl ?_
      refine o_move (gy rfl rfl rfl hb) rfl rfl ?_
      refine o_nilCheck (gy rfl rfl rfl hb) rfl rfl ?_
      refine o_fieldAddr (off := 2) (gy rfl rfl rfl hb) rfl rfl (by kernel_rfl) ?_
      refine o_load (gy rfl rfl rfl hb) rfl rfl (by kernel_rfl) (by assumption) rfl ?_
      refine o_call [_, _] (gy rfl rfl rfl hb) rfl rfl (by kernel_rfl) rfl (c_pure (c72 (hs2.src (all_int _)) (hs2'.src (all_int _)) hn) ⟨ag0, ?_⟩)
      exact wl_end ⟨rfl, rfl, 7, rfl, rfl⟩) ?_
  refine o_assign gn rfl rfl ?_
  refine wl_end ?_
  refine w_ret ?_
  refine ⟨.inl rfl, _, rfl, ?_⟩
  exact ⟨by simp only [oneOf, sameOb, Value.bool.injEq]; rw [Bool.eq_iff_iff]; simp; grind, x2⟩

/-- slices.EqualFunc of objects -/
theorem c70 {h : Hp} {es : List En} {sa : Value} {Ba : List Nat} {obs : List Ob} {ps : List Nat} {vb : List (List Nat)} {sb : Value} {Bb : List Nat} (hr : SlN 46 5 h sa (rowC es) es.length Ba) (hre : ∀ e, e ∈ es → Sl 2 h e.sv (isV e.o.vals) e.bs)
    (hx : RestO h obs ps vb sb Bb 0) (ok : ObsOk (rowO es)) : C heapE 70 [sa, sb, .func (.func 71) #[] #[]] h fun v h' => Ext h h' ∧ ∃ t, v = .bool t ∧ (t = true ↔ rowO es = obs) := by
  obtain ⟨a, rfl⟩ := hr.val
  obtain ⟨b, rfl⟩ := hx.all.val
  have hlen : (rowO es).length = es.length := by simp [rowO]
  have hes := ok.1
  have hlp := hx.lps
  have hpl : (ps.map ptrV).length = obs.length := by simp [hlp]
  refine c_enter (fu := Try.f70) (by kernel_rfl) rfl ?_
  refine w_seq ?_
  refine w_region (by kernel_rfl) ?_
  refine o_assign gn rfl rfl ?_
  refine wl_end ?_
  refine w_seq ?_
  refine w_seq ?_
  refine w_region (by kernel_rfl) ?_
  refine o_move gn rfl rfl ?_
  refine o_len gn rfl rfl (by kernel_rfl) ?_
  refine o_move gn rfl rfl ?_
  refine o_len gn rfl rfl (by kernel_rfl) ?_
  refine o_nei gn rfl rfl rfl ?_
  refine wl_end ?_
  refine w_cond rfl (fun hb => ?_) fun hb => ?_
  · skip
    refine w_seq ?_
    refine w_region (by kernel_rfl) ?_
    refine o_assign gn rfl rfl ?_
    refine wl_end ?_
    refine w_ret ?_
    refine ⟨.inl rfl, _, rfl, ?_⟩
    have hne : rowO es ≠ obs := fun e => by have := congrArg List.length e; simp at hb; omega
    exact ⟨.refl _, false, rfl, by simp [hne]⟩
  · skip
    refine w_skip ?_
    refine w_seq ?_
    refine w_seq ?_
    refine w_region (by kernel_rfl) ?_
    refine o_move gn rfl rfl ?_
    refine o_len gn rfl rfl (by kernel_rfl) ?_
    refine o_move gn rfl rfl ?_
    refine wl_end ?_
    have hle : es.length = obs.length := by simp at hb; omega
    refine w_block ?_
    refine w_weak [(1, .slice b (ps.map ptrV).length (ps.map ptrV).length), (2, .func (.func 71) #[] #[]), (15, .slice a es.length es.length), (16, .int .i64 (es.length : Nat)), (17, iV 0)] (by repeat (first | exact trivial | refine ⟨rfl, ?_⟩)) ?_
    refine w_loop (fun k l hh => ∃ i : Int, 0 ≤ i ∧ i ≤ es.length ∧ k = (es.length - i).toNat ∧ (∀ j : Nat, j < i.toNat → (rowO es)[j]? = obs[j]?) ∧ Ext h hh ∧ l = [(1, .slice b (ps.map ptrV).length (ps.map ptrV).length), (2, .func (.func 71) #[] #[]), (15, .slice a es.length es.length), (16, .int .i64 (es.length : Nat)), (17, iV i)]) (n := (es.length - (0 : Int)).toNat) ?_ fun k l hh hI => ?_
    · exact ⟨0, by omega, by omega, rfl, fun j hj => by omega, .refl _, rfl⟩
    · obtain ⟨i, hi0, hi1, rfl, hall, hxt, rfl⟩ := hI
      refine w_seq ?_
      refine w_region (by kernel_rfl) ?_
      refine o_lss gn rfl rfl rfl ?_
      refine wl_end ?_
      refine w_seq ?_
      refine w_cond rfl (fun hb => ?_) fun hb => ?_
      · skip
        have hi : i.toNat < es.length := by simp at hb; omega
        have hio : i.toNat < obs.length := by omega
        obtain ⟨bb, m, ea, hbb, hm, hbblt, hB, _⟩ := hr.at (by omega)
        simp only [Value.slice.injEq, and_true] at ea
        subst ea
        obtain ⟨bb2, m2, ea2, hbb2, _, hbb2lt, _⟩ := hx.all.at (by omega)
        simp only [Value.slice.injEq, and_true] at ea2
        subst ea2
        have hg1 := (hxt.get bb hbblt).trans hbb
        have hrow := rowC_row hi
        have hsv := (hre _ (List.getElem_mem hi)).ext hxt
        obtain ⟨asv, hasv⟩ := hsv.val
        rw [hasv] at hsv
        have hce : (es[i.toNat]).cells = (es[i.toNat]).o.cells (.slice asv (isV (es[i.toNat]).o.vals).length (isV (es[i.toNat]).o.vals).length) := by rw [En.cells, hasv]
        generalize hoo : (es[i.toNat]).o = o at *
        have hvl := ok.2 _ (show o ∈ rowO es from List.mem_map.2 ⟨_, List.getElem_mem hi, hoo⟩)
        have hv : (ps.map ptrV)[0 + i.toNat * 1]? = some (ptrV (ps[i.toNat]'(by omega))) := by rw [Nat.zero_add, Nat.mul_one, List.getElem?_map, List.getElem?_eq_getElem (show i.toNat < ps.length by omega)]; rfl
        have hob := hx.each i.toNat hio (Nat.zero_le _)
        refine w_skip ?_
        refine w_seq ?_
        refine w_block ?_
        refine w_seq ?_
        refine w_region (by kernel_rfl) ?_
        refine o_move gn rfl rfl ?_
        refine o_indexAddr (zz := 6) gn rfl rfl rfl (by kernel_rfl) (by omega) (by omega) ?_
        refine o_loadA (n := 6) gn rfl rfl (by kernel_rfl) (by kernel_rfl) hg1 (by have := rowC_len es; omega) ?_
        rw [hrow, hce]
        refine o_alloc (zv := .agg #[.int .i64 0, .int .i64 0, .slice none 0 0, .int .i64 0, .int .i64 0, .int .i64 0]) gn rfl (by kernel_rfl) ?_
        refine o_assign gn rfl rfl ?_
        refine o_storeA (n := 6) gn rfl rfl rfl (by kernel_rfl) rfl (Hp.get_alloc_self _ _) (by decide) rfl ag0 ?_
        refine wl_at (fun h4 => h4.get hh.n = some (.cells (o.cells (.slice asv (isV o.vals).length (isV o.vals).length)) 46 0) ∧ Ext hh h4) ⟨Hp.get_put_self _ _ _, (Ext.alloc hh _).of (ExtB.put _ _ _) (by simp)⟩ fun h4 ⟨g4, x4⟩ => ?_
        have hg2 := ((hxt.trans x4).get bb2 hbb2lt).trans hbb2
        refine wl_end ?_
        refine w_seq ?_
        refine w_region (by kernel_rfl) ?_
        refine o_move gn rfl rfl ?_
        refine o_move gn rfl rfl ?_
        refine o_indexAddr (zz := 1) gn rfl rfl rfl (by kernel_rfl) (by omega) (by simp; omega) ?_
        refine o_load gn rfl rfl (by kernel_rfl) hg2 hv ?_
        refine o_assign gn rfl rfl ?_
        refine wl_end ?_
        refine w_seq ?_
        refine w_region (by kernel_rfl) ?_
        refine o_move gn rfl rfl ?_
        refine o_loadA (n := 6) gn rfl rfl (by kernel_rfl) (by kernel_rfl) g4 (Nat.le_refl 6) ?_
        refine o_move gn rfl rfl ?_
        refine o_call [_, _] gn rfl rfl (by kernel_rfl) rfl (C.mono (c71 (o := o) (hsv.ext x4) (hob.keep ((hxt.trans x4).b []) (by simp) (by simp)) (by omega)) ?_)
        rintro v5 h5 ⟨rfl, x5⟩
        refine ⟨ag0, ?_⟩
        refine o_not gn rfl rfl ?_
        refine wl_end ?_
        refine w_cond rfl (fun hb => ?_) fun hb => ?_
        · skip
          refine w_seq ?_
          refine w_region (by kernel_rfl) ?_
          refine o_assign gn rfl rfl ?_
          refine wl_end ?_
          refine w_ret ?_
          refine ⟨.inl rfl, _, rfl, ?_⟩
          have hne : rowO es ≠ obs := fun e => by
            have h1 : (rowO es)[i.toNat]? = obs[i.toNat]? := by rw [e]
            rw [show (rowO es)[i.toNat]? = some o from by simp [rowO, List.getElem?_eq_getElem hi, hoo], List.getElem?_eq_getElem hio] at h1
            have h2 := (sameOb_iff o obs[i.toNat]).2 (by simpa using h1)
            rw [h2] at hb; cases hb
          exact ⟨hxt.trans (x4.trans x5), false, rfl, by simp [hne]⟩
        · skip
          have hsame : o = obs[i.toNat] := (sameOb_iff _ _).1 (by simpa using hb)
          refine w_skip ?_
          refine w_region (by kernel_rfl) ?_
          refine o_add gn rfl rfl rfl (by omega) (by omega) ?_
          refine o_move gn rfl rfl ?_
          refine wl_end ?_
          exact ⟨(es.length - (i + 1)).toNat, by omega, _, (by repeat (first | exact trivial | refine ⟨rfl, ?_⟩)), ⟨i + 1, by omega, by omega, rfl, fun j hj => by
            by_cases hji : j < i.toNat
            · exact hall j hji
            · have : j = i.toNat := by omega
              subst this
              rw [show (rowO es)[i.toNat]? = some o from by simp [rowO, List.getElem?_eq_getElem hi, hoo], List.getElem?_eq_getElem hio, hsame], hxt.trans (x4.trans x5), rfl⟩⟩
      · skip
        refine w_exit ?_
        refine thn_exit ?_
        refine rnd_exit ?_
        refine blk_eq ?_
        refine w_seq ?_
        refine w_region (by kernel_rfl) ?_
        refine o_assign gn rfl rfl ?_
        refine wl_end ?_
        refine w_ret ?_
        refine ⟨.inl rfl, _, rfl, ?_⟩
        have hge : es.length ≤ i := by simpa using hb
        have heq : rowO es = obs := List.ext_getElem? fun j => by
          by_cases hj : j < es.length
          · exact hall j (by omega)
          · rw [List.getElem?_eq_none (by omega), List.getElem?_eq_none (by omega)]
        exact ⟨hxt, true, rfl, by simp [heq]⟩

theorem HeapR.rest {h : Hp} {b : Nat} {obs : List Ob} {ps : List Nat} {vb : List (List Nat)} {sa : Value} {Ba : List Nat} {r : Nat} {M : Ms} {cl : Nat} (hl : HeapR h b obs ps vb sa Ba r M cl) : RestO h obs ps vb sa Ba 0 :=
  ⟨hl.all, hl.lps, hl.lvb, fun i hi _ => hl.each i hi, (List.nodup_cons.1 (List.nodup_cons.1 hl.nodup).2).2, fun i hi => hl.lt i (by simp only [List.mem_cons]; exact .inr (.inr hi))⟩

/-- Same -/
theorem c37 {h : Hp} {b b' : Nat} {obs obs' : List Ob} {own own' : List Nat} (hl : HAt h b obs own) (hl' : HAt h b' obs' own') (ok : ObsOk obs) : C heapE 37 [ptrV b, ptrV b'] h fun v h' => Ext h h' ∧ ∃ t, v = .bool t ∧ (t = true ↔ obs = obs') := by
  refine c_enterR (fu := Try.f37) (by kernel_rfl) rfl ?_
  refine w_seq ?_
  refine w_region (by kernel_rfl) ?_
  refine o_assign gn rfl rfl ?_
  refine wl_end ?_
  refine w_seq ?_
  refine w_seq ?_
  refine w_region (by kernel_rfl) ?_
  refine o_move gn rfl rfl ?_
  refine o_eqp gn rfl rfl rfl (by kernel_rfl) ?_
  refine o_move gn rfl rfl ?_
  refine o_or (n := 2) rfl rfl rfl gn rfl (fun hb => by
      refine o_move (gy rfl rfl rfl hb) rfl rfl ?_
      refine o_eqp (gy rfl rfl rfl hb) rfl rfl rfl (by kernel_rfl) ?_
      exact wl_end ⟨rfl, rfl, 2, rfl, rfl⟩) ?_
  refine wl_end ?_
  refine w_cond rfl (fun hb => ?_) fun hb => ?_
  · skip
    simp at hb
  · skip
    refine w_skip ?_
    refine w_seq ?_
    refine w_seq ?_
    refine w_region (by kernel_rfl) ?_
    refine o_move gn rfl rfl ?_
    refine o_call [_] gn rfl rfl (by kernel_rfl) rfl (c_pure (c22' hl) ⟨ag0, ?_⟩)
    refine o_move gn rfl rfl ?_
    refine o_call [_] gn rfl rfl (by kernel_rfl) rfl (c_pure (c22' hl') ⟨ag0, ?_⟩)
    refine o_nei gn rfl rfl rfl ?_
    refine wl_end ?_
    refine w_cond rfl (fun hb => ?_) fun hb => ?_
    · skip
      refine w_seq ?_
      refine w_region (by kernel_rfl) ?_
      refine o_assign gn rfl rfl ?_
      refine wl_end ?_
      refine w_ret ?_
      refine ⟨.inl rfl, _, (resH_tmp rfl rfl), fun h2 hco => ?_⟩
      have hne : obs ≠ obs' := fun e => by have := congrArg List.length e; simp at hb; omega
      exact ⟨hco.ext (.refl _), false, rfl, by simp [hne]⟩
    · skip
      have hlen : obs.length = obs'.length := by simp at hb; omega
      refine w_skip ?_
      refine w_seq ?_
      refine w_region (by kernel_rfl) ?_
      refine o_alloc (zv := .slice none 0 0) gn rfl (by kernel_rfl) ?_
      refine wl_at (fun h1 => h1.get h.n = some (.cells [.slice none 0 0] 64 0) ∧ Ext h h1 ∧ h1.n = h.n + 1) ⟨Hp.get_alloc_self _ _, Ext.alloc _ _, Hp.n_alloc _ _⟩ fun h1 ⟨g1, x1, n1⟩ => ?_
      refine wl_end ?_
      refine w_seq ?_
      refine w_seq ?_
      refine w_region (by kernel_rfl) ?_
      refine o_move gn rfl rfl ?_
      refine o_call [_] gn rfl rfl (by kernel_rfl) rfl (C.mono c44 ?_)
      rintro v2 h2 ⟨rfl, gc, x2, n2⟩
      rw [n1] at gc
      rw [n1]
      refine ⟨ag0, ?_⟩
      refine wl_end ?_
      refine w_block ?_
      refine w_weak [(1, ptrV b'), (5, ptrV h.n), (26, .func (.func 74) #[] #[ptrV (h.n + 1)])] (by repeat (first | exact trivial | refine ⟨rfl, ?_⟩)) ?_
      refine w_rangeA rfl rfl (by kernel_rfl) (by kernel_rfl) (by kernel_rfl) (by kernel_rfl) fun rc hR h0 hx0 hn0 hrc => ?_
      have x02 := (x1.trans x2).trans hx0
      have g0 := (hx0.get h.n (by omega)).trans ((x2.get h.n (by omega)).trans g1)
      have gc0 := (hx0.get (h.n + 1) (by omega)).trans gc
      have hround : ∀ n0 k (hk : k < obs.length) (m1 : Hp) sv bs, (∃ es sl Bl, m1.get h.n = some (.cells [sl] 64 0) ∧ SlN 46 5 m1 sl (rowC es) es.length Bl ∧ rowO es = obs.take k ∧ (∀ e, e ∈ es → Sl 2 m1 e.sv (isV e.o.vals) e.bs ∧ ∀ i, i ∈ e.bs → h0.n ≤ i ∧ i < n0) ∧ (∀ i, i ∈ Bl → n0 ≤ i) ∧ m1.get (h2.n + 1) = some (rc .ready none) ∧ ExtB [h.n, h2.n + 1] h0 m1) → h0.n ≤ n0 → n0 ≤ m1.n → Sl 2 m1 sv (isV (obs[k]).vals) bs → (∀ i, i ∈ bs → h0.n ≤ i ∧ i < n0) →
        Y heapE (h2.n + 1) [iV ((k : Int) + 1), .agg ((obs[k]).cells sv).toArray] m1 fun v m2 => (∃ cs, ExtB (bs ++ cs) m1 m2 ∧ ∀ i, i ∈ cs → i < h0.n ∨ n0 ≤ i) ∧ ((v = .bool true ∧ (∃ es sl Bl, m2.get h.n = some (.cells [sl] 64 0) ∧ SlN 46 5 m2 sl (rowC es) es.length Bl ∧ rowO es = obs.take (k + 1) ∧ (∀ e, e ∈ es → Sl 2 m2 e.sv (isV e.o.vals) e.bs ∧ ∀ i, i ∈ e.bs → h0.n ≤ i ∧ i < n0) ∧ (∀ i, i ∈ Bl → n0 ≤ i) ∧ m2.get (h2.n + 1) = some (rc .ready none) ∧ ExtB [h.n, h2.n + 1] h0 m2)) ∨ (v = .bool false ∧ False)) := fun n0 k hk m1 sv bs ⟨es, sl, Bl, p1, p2, p3, p4, p5, p6, p7⟩ hn1 hn2 hs hbs => by
          have hov := ok.2 _ (List.getElem_mem hk)
          have hok1 := ok.1
          have htk : obs.take (k + 1) = obs.take k ++ [obs[k]] := by rw [List.take_add_one, List.getElem?_eq_getElem hk]; rfl
          have hesl : es.length = k := by have := congrArg List.length p3; simp [rowO] at this; omega
          generalize ho : obs[k] = o at *
          obtain ⟨asl, rfl⟩ := hs.val
          obtain ⟨al, rfl⟩ := p2.val
          have hbl := hs.lt
          have hBl := p2.lt
          refine hR.round p6 rfl ?_
          refine w_region (by kernel_rfl) ?_
          refine o_alloc (zv := .agg #[.int .i64 0, .int .i64 0, .slice none 0 0, .int .i64 0, .int .i64 0, .int .i64 0]) gn rfl (by kernel_rfl) ?_
          refine o_storeA (n := 6) gn rfl rfl rfl (by kernel_rfl) rfl (Hp.get_alloc_self _ _) (by decide) rfl ag0 ?_
          refine wl_end ?_
          refine ⟨_, (by rw [Hp.get_put, if_neg (by omega), Hp.get_alloc, if_neg (by omega)]; exact p6), ?_⟩
          refine w_at (fun m3 => m3.get m1.n = some (.cells (o.cells (.slice asl (isV o.vals).length (isV o.vals).length)) 46 0) ∧ m3.get (h2.n + 1) = some (rc .busy none) ∧ ExtB [h2.n + 1] m1 m3 ∧ m3.n = m1.n + 1) ⟨?_, Hp.get_put_self _ _ _, ?_, ?_⟩ fun m3 ⟨q1, q2, q3, q4⟩ => ?_
          · rw [Hp.get_put, if_neg (by omega)]; exact Hp.get_put_self _ _ _
          · exact (((Ext.alloc _ _).of (ExtB.put _ _ _) (by simp)).b _).trans (ExtB.put _ _ _)
          · rw [Hp.n_put, Hp.n_put, Hp.n_alloc]
          have hlc := (q3.get h.n (by omega) (by simp; omega)).trans p1
          have hsl3 := p2.keep q3 (fun i hi hj => by have := p5 i hi; simp at hj; omega)
          refine w_block ?_
          refine w_region (by kernel_rfl) ?_
          refine o_load gn rfl rfl (by kernel_rfl) hlc rfl ?_
          refine o_loadA (n := 6) gn rfl rfl (by kernel_rfl) (by kernel_rfl) q1 (Nat.le_refl 6) ?_
          refine o_buildSlice (e := 46) (z := 5) (zv := .agg #[.int .i64 0, .int .i64 0, .slice none 0 0, .int .i64 0, .int .i64 0, .int .i64 0]) (cs := (Ob.cells o (.slice asl (isV o.vals).length (isV o.vals).length)).toArray) [(0, .agg (Ob.cells o (.slice asl (isV o.vals).length (isV o.vals).length)).toArray)] gn rfl (by kernel_rfl) (by kernel_rfl) (by kernel_rfl) (by kernel_rfl) rfl (by kernel_rfl) ?_
          have x6 := Ext.alloc m3 (.cells (Ob.cells o (.slice asl (isV o.vals).length (isV o.vals).length)) 46 0)
          obtain ⟨v7, h7, b1, b2, b3⟩ := appendN el46 (hsl3.ext x6) (Hp.get_alloc_self m3 _) rfl rfl (by omega)
          have hcv : cellV v7 = true := by obtain ⟨a9, ev⟩ := b2.val; rw [ev]; rfl
          have n7 := b3.n
          rw [Hp.n_alloc] at n7
          have f7 := (b3.get h.n (by rw [Hp.n_alloc]; omega) (fun hj => by have := p5 _ hj; omega)).trans ((x6.get h.n (by omega)).trans hlc)
          refine o_append gn rfl rfl rfl b1 ag0 ?_
          refine o_store gn rfl rfl hcv (by kernel_rfl) f7 (by decide) (by simp) ag0 ?_
          refine wl_end ?_
          have e8 : ExtB [h.n, h2.n + 1] h7 ((h7.put h.n (.cells [v7] 64 0)).put (h2.n + 1) (rc .ready none)) := ((ExtB.put _ _ _).mono (by simp)).trans ((ExtB.put _ _ _).mono (by simp))
          have gg : ExtB (h.n :: (h2.n + 1) :: Bl) m1 ((h7.put h.n (.cells [v7] 64 0)).put (h2.n + 1) (rc .ready none)) := (q3.mono (by simp)).trans ((x6.b _).trans ((b3.mono (fun j hj _ => by simp [hj])).trans (e8.mono (by simp))))
          have hold : ∀ i, h0.n ≤ i → i < n0 → i ∉ h.n :: (h2.n + 1) :: Bl := fun i h1 h2 hj => by
            simp only [List.mem_cons] at hj
            rcases hj with hj | hj | hj
            · omega
            · omega
            · have := p5 i hj; omega
          have hrc2 : rowC (es ++ [⟨o, .slice asl (isV o.vals).length (isV o.vals).length, bs⟩]) = rowC es ++ Ob.cells o (.slice asl (isV o.vals).length (isV o.vals).length) := by simp [rowC, En.cells]
          exact ⟨_, _, (by rw [Hp.get_put, if_neg (by omega), b3.get _ (by rw [Hp.n_alloc]; omega) (fun hj => by have := p5 _ hj; omega), x6.get _ (by omega)]; exact q2), ⟨⟨h.n :: (h2.n + 1) :: Bl, gg.mono (fun j hj _ => List.mem_append_right _ hj), fun i hi => by
            simp only [List.mem_cons] at hi
            rcases hi with hi | hi | hi
            · omega
            · omega
            · exact .inr (p5 i hi)⟩, .inl ⟨rfl, es ++ [⟨o, .slice asl (isV o.vals).length (isV o.vals).length, bs⟩], v7, [m3.n + 1], by rw [Hp.get_put, if_neg (by omega)]; exact Hp.get_put_self _ _ _, by
            rw [hrc2, List.length_append]
            have b2' := b2.keep e8 (fun i hi hj => by simp [Hp.n_alloc] at hi hj; omega)
            rwa [Hp.n_alloc] at b2', by rw [htk, ← p3]; simp [rowO], fun e he => by
            rcases List.mem_append.1 he with he | he
            · exact ⟨(p4 e he).1.keep gg fun i hi => hold i ((p4 e he).2 i hi).1 ((p4 e he).2 i hi).2, (p4 e he).2⟩
            · simp only [List.mem_cons, List.not_mem_nil, or_false] at he
              subst he
              exact ⟨hs.keep gg fun i hi => hold i (hbs i hi).1 (hbs i hi).2, hbs⟩, fun i hi => by simp at hi; omega, Hp.get_put_self _ _ _, ⟨Nat.le_trans p7.n gg.n, fun i hi hn => (gg.get i (Nat.lt_of_lt_of_le hi p7.n) (fun hj => by
            simp only [List.mem_cons] at hj
            rcases hj with hj | hj | hj
            · exact hn (by simp [hj])
            · exact hn (by simp [hj])
            · have := p5 i hj; omega)).trans (p7.get i hi hn)⟩⟩⟩⟩
      refine C.mono (c74g gc0 (by omega) (hl.ext x02) ok (fun n0 k m1 => ∃ es sl Bl, m1.get h.n = some (.cells [sl] 64 0) ∧ SlN 46 5 m1 sl (rowC es) es.length Bl ∧ rowO es = obs.take k ∧ (∀ e, e ∈ es → Sl 2 m1 e.sv (isV e.o.vals) e.bs ∧ ∀ i, i ∈ e.bs → h0.n ≤ i ∧ i < n0) ∧ (∀ i, i ∈ Bl → n0 ≤ i) ∧ m1.get (h2.n + 1) = some (rc .ready none) ∧ ExtB [h.n, h2.n + 1] h0 m1) (fun _ _ => False)
        (fun m1 xm => ⟨[], .slice none 0 0, [], (xm.get _ (by omega)).trans g0, .inl ⟨rfl, rfl, rfl, rfl⟩, rfl, by simp, by simp, (xm.get _ (by omega)).trans hrc, xm.b _⟩) hround) ?_
      rintro v h' ⟨n0, hn00, ⟨es, sl, Bl, p1, p2, p3, p4, p5, p6, p7⟩ | hF⟩
      case inr => exact hF.elim
      refine ⟨_, _, p6, (by simp), fun m9 hx2 hn2 => ?_⟩
      refine aft_blk (.inl rfl) ?_
      have p7n := p7.n
      have hp1 := (hx2.get h.n (by omega) (by simp; omega)).trans p1
      have hx9 : Ext h m9 := (x02.of p7 (by simp; omega)).of hx2 (by simp; omega)
      obtain ⟨ps', vb', sa', Ba', r', M', cl', hR', rfl⟩ := hl'.ext hx9
      have ht' := hR'.top
      have hnot : ∀ i, h0.n ≤ i → i ∉ [h2.n + 1] := fun i hi hj => by simp at hj; omega
      rw [List.take_length] at p3
      refine w_seq ?_
      refine w_draw [(0, []), (1, []), (2, []), (3, []), (4, []), (5, []), (6, [])] (by kernel_rfl) (by kernel_rfl) (by kernel_rfl) (by kernel_rfl) ?_
      refine o_load gn rfl rfl (by kernel_rfl) hp1 rfl ?_
      refine o_move gn rfl rfl ?_
      refine o_nilCheck gn rfl rfl ?_
      refine o_fieldAddr (off := 0) gn rfl rfl (by kernel_rfl) ?_
      refine o_load gn rfl rfl (by kernel_rfl) ht' rfl ?_
      refine o_call [_, _, _] gn rfl rfl (by kernel_rfl) rfl (C.mono (c70 (p2.keep hx2 fun i hi => hnot i (by have := p5 i hi; omega)) (fun e he => (p4 e he).1.keep hx2 fun i hi => hnot i ((p4 e he).2 i hi).1) hR'.rest (p3 ▸ ok)) ?_)
      rintro v10 h10 ⟨x10, t, rfl, ht⟩
      refine ⟨ag0, ?_⟩
      refine o_assign gn rfl rfl ?_
      refine wl_end ?_
      refine w_ret ?_
      refine ⟨.inl rfl, _, (resH_tmp rfl rfl), fun h2 hco => ?_⟩
      exact ⟨hco.ext (hx9.trans x10), t, rfl, by rw [ht, p3]⟩

end Go.Proofs.Ytkmbfjdmbdpflaa


namespace Go.Proofs.Ytkmbfjdmbdpflaa
open Go.X

theorem c32t {h : Hp} {a : Option Addr} {c : Nat} {acts : List HAct} {most : Int} (hs : ActsH h a acts) (hm : 0 ≤ most ∧ most ≤ 1000) : ∃ t, (t = true → Few acts most) ∧ CP heapE 32 [.slice a acts.length c, iV most] h (.bool t) := by
  obtain ⟨v, h', ⟨rfl, t, rfl, ht⟩, r⟩ := c32 (c := c) hs hm
  exact ⟨t, ht, _, _, ⟨rfl, rfl⟩, r⟩

theorem c35a {h : Hp} {b : Nat} {obs : List Ob} {own : List Nat} (hl : HAt h b obs own) (ok : ObsOk obs) : C heapE 35 [ptrV b] h fun v h' => ∃ b' own', v = ptrV b' ∧ HAt h' b' obs own' ∧ (∀ i, i ∈ own' → h.n ≤ i) ∧ Ext h h' := by
  obtain ⟨_, _, _, _, _, _, _, hl, _⟩ := hl
  exact c35 hl ok
theorem c36a {h : Hp} {d : Nat} {obs : List Ob} {own : List Nat} (hl : DAt h d obs own) (ok : ObsOk obs) : C heapE 36 [ptrV d] h fun v h' => ∃ b' own', v = ptrV b' ∧ DAt h' b' obs own' ∧ (∀ i, i ∈ own' → h.n ≤ i) ∧ Ext h h' := by
  obtain ⟨es, sa, Ba, hl, rfl, _⟩ := hl
  exact c36 hl ok

/-- Both, and both copies, apart. -/
structure Four (h0 h : Hp) (b d : Nat) (obs : List Ob) (o1 o2 : List Nat) (b' d' : Nat) (obs' : List Ob) (q1 q2 : List Nat) : Prop where
  t : Two8 h b d obs o1 o2
  u : Two8 h b' d' obs' q1 q2
  ap : ∀ i, i ∈ o1 ∨ i ∈ o2 → i ∉ q1 ∧ i ∉ q2
  tn : ∀ i, i ∈ o1 ∨ i ∈ o2 → h0.n ≤ i
  un : ∀ i, i ∈ q1 ∨ i ∈ q2 → h0.n ≤ i
  x : Ext h0 h

theorem Two8.lt {h : Hp} {b d : Nat} {obs : List Ob} {o1 o2 : List Nat} (t : Two8 h b d obs o1 o2) : ∀ i, i ∈ o1 ∨ i ∈ o2 → i < h.n := fun i hi => by
  rcases hi with hi | hi
  · exact t.l.lt i hi
  · exact t.r.lt i hi

theorem Four.ext {h0 h h' : Hp} {b d : Nat} {obs : List Ob} {o1 o2 : List Nat} {b' d' : Nat} {obs' : List Ob} {q1 q2 : List Nat} (f : Four h0 h b d obs o1 o2 b' d' obs' q1 q2) (g : Ext h h') : Four h0 h' b d obs o1 o2 b' d' obs' q1 q2 :=
  ⟨f.t.ext g, f.u.ext g, f.ap, f.tn, f.un, f.x.trans g⟩

theorem Four.fst {h0 h h' : Hp} {b d : Nat} {obs oa : List Ob} {o1 o2 oa1 oa2 : List Nat} {b' d' : Nat} {obs' : List Ob} {q1 q2 : List Nat} (f : Four h0 h b d obs o1 o2 b' d' obs' q1 q2) (t : Two8 h' b d oa oa1 oa2)
    (hn : ∀ i, i ∈ oa1 ∨ i ∈ oa2 → i ∈ o1 ∨ i ∈ o2 ∨ h.n ≤ i) (g : ExtB (o1 ++ o2) h h') : Four h0 h' b d oa oa1 oa2 b' d' obs' q1 q2 := by
  have hul := f.u.lt
  have hxn := f.x.n
  refine ⟨t, f.u.keep g (fun i hi hj => ?_) (fun i hi hj => ?_), fun i hi => ?_, fun i hi => ?_, f.un, f.x.of g fun i hi => f.tn i (List.mem_append.1 hi)⟩
  · exact (f.ap i (List.mem_append.1 hj)).1 hi
  · exact (f.ap i (List.mem_append.1 hj)).2 hi
  · rcases hn i hi with h1 | h1 | h1
    · exact f.ap i (.inl h1)
    · exact f.ap i (.inr h1)
    · exact ⟨fun hq => by have := hul i (.inl hq); omega, fun hq => by have := hul i (.inr hq); omega⟩
  · rcases hn i hi with h1 | h1 | h1
    · exact f.tn i (.inl h1)
    · exact f.tn i (.inr h1)
    · omega

theorem Four.swap {h0 h : Hp} {b d : Nat} {obs : List Ob} {o1 o2 : List Nat} {b' d' : Nat} {obs' : List Ob} {q1 q2 : List Nat} (f : Four h0 h b d obs o1 o2 b' d' obs' q1 q2) : Four h0 h b' d' obs' q1 q2 b d obs o1 o2 :=
  ⟨f.u, f.t, fun i hi => ⟨fun ho => by
    have := f.ap i (.inl ho)
    rcases hi with hi | hi
    · exact this.1 hi
    · exact this.2 hi, fun ho => by
    have := f.ap i (.inr ho)
    rcases hi with hi | hi
    · exact this.1 hi
    · exact this.2 hi⟩, f.un, f.tn, f.x⟩

/-- HeapCopies -/
theorem c9 {h : Hp} {a1 a2 a3 : Option Addr} {n1 n2 n3 : Nat} {l1 l2 l3 : List HAct} (hs1 : ActsH h a1 l1) (hs2 : ActsH h a2 l2) (hs3 : ActsH h a3 l3) :
    C heapE 9 [.slice a1 l1.length n1, .slice a2 l2.length n2, .slice a3 l3.length n3] h fun v _ => v = .bool true := by
  obtain ⟨t1, hf1, cp1⟩ := c32t (c := n1) (most := 30) hs1 (by omega)
  obtain ⟨t2, hf2, cp2⟩ := c32t (c := n2) (most := 30) hs2 (by omega)
  obtain ⟨t3, hf3, cp3⟩ := c32t (c := n3) (most := 30) hs3 (by omega)
  refine c_enter (fu := Try.f9) (by kernel_rfl) rfl ?_
  refine w_seq ?_
  refine w_region (by kernel_rfl) ?_
  refine o_assign gn rfl rfl ?_
  refine wl_end ?_
  refine w_seq ?_
  refine w_seq ?_
  refine w_region (by kernel_rfl) ?_
  refine o_move gn rfl rfl ?_
  refine o_call [_, _] gn rfl rfl (by kernel_rfl) rfl (c_pure cp1 ⟨ag0, ?_⟩)
  refine o_not gn rfl rfl ?_
  refine o_move gn rfl rfl ?_
  refine o_or (n := 3) rfl rfl rfl gn rfl (fun hb => by
      refine o_move (gy rfl rfl rfl hb) rfl rfl ?_
      refine o_call [_, _] (gy rfl rfl rfl hb) rfl rfl (by kernel_rfl) rfl (c_pure cp2 ⟨ag0, ?_⟩)
      refine o_not (gy rfl rfl rfl hb) rfl rfl ?_
      exact wl_end ⟨rfl, rfl, 3, rfl, rfl⟩) ?_
  refine o_move gn rfl rfl ?_
  refine o_or (n := 3) rfl rfl rfl gn rfl (fun hb => by
      refine o_move (gy rfl rfl rfl hb) rfl rfl ?_
      refine o_call [_, _] (gy rfl rfl rfl hb) rfl rfl (by kernel_rfl) rfl (c_pure cp3 ⟨ag0, ?_⟩)
      refine o_not (gy rfl rfl rfl hb) rfl rfl ?_
      exact wl_end ⟨rfl, rfl, 3, rfl, rfl⟩) ?_
  refine wl_end ?_
  refine w_cond rfl (fun hb => ?_) fun hb => ?_
  · skip
    refine w_seq ?_
    refine w_region (by kernel_rfl) ?_
    refine o_orc (f := 18) (v := .bool true) gn rfl (by kernel_rfl) (by kernel_rfl) ag0 ?_
    refine o_assign gn rfl rfl ?_
    refine wl_end ?_
    refine w_ret ?_
    refine ⟨.inl rfl, _, rfl, ?_⟩
    rfl
  · skip
    have htf : (t1 = true ∧ t2 = true) ∧ t3 = true := by simpa using hb
    obtain ⟨⟨e1, e2⟩, e3⟩ := htf
    replace hf1 := hf1 e1
    replace hf2 := hf2 e2
    replace hf3 := hf3 e3
    have hlen1 := hf1.1
    have hlen2 := hf2.1
    have hlen3 := hf3.1
    refine w_skip ?_
    refine w_seq ?_
    refine w_region (by kernel_rfl) ?_
    refine o_call [] gn rfl rfl (by kernel_rfl) rfl (C.mono (c19) ?_)
    rintro v1 h1 ⟨b, r, rfl, hl1, x1, hb1, hr1⟩
    refine ⟨ag0, ?_⟩
    refine o_build (zv := .agg #[.slice none 0 0]) (pl := [(0, 1)]) [] gn rfl (by kernel_rfl) (by kernel_rfl) rfl rfl ?_
    refine o_box gn rfl rfl ?_
    obtain ⟨t2, hnew2⟩ := two_new hl1 hb1 hr1 x1.n
    have x2 := x1.trans (Ext.alloc h1 (.cells [.slice none 0 0] 66 0))
    refine o_assign gn rfl rfl ?_
    refine o_assign gn rfl rfl ?_
    refine wl_end ?_
    refine w_seq ?_
    refine w_seq ?_
    refine w_region (by kernel_rfl) ?_
    refine o_assign gn rfl rfl ?_
    refine wl_end ?_
    refine w_block ?_
    refine w_weak [(0, .slice a1 l1.length n1), (1, .slice a2 l2.length n2), (2, .slice a3 l3.length n3), (7, ptrV b), (8, ptrV h1.n), (9, iV 0)] (by repeat (first | exact trivial | refine ⟨rfl, ?_⟩)) ?_
    refine w_loop (fun k l hh => ∃ (i : Int) (b d : Nat) (obs : List Ob) (o1 o2 : List Nat), 0 ≤ i ∧ i ≤ l1.length ∧ k = (l1.length - i).toNat ∧ Two8 hh b d obs o1 o2 ∧ (∀ j, j ∈ o1 ∨ j ∈ o2 → h.n ≤ j) ∧ Ext h hh ∧ l = [(0, .slice a1 l1.length n1), (1, .slice a2 l2.length n2), (2, .slice a3 l3.length n3), (7, ptrV b), (8, ptrV d), (9, iV i)]) (n := l1.length) ?_ fun k l hh hI => ?_
    · exact ⟨0, _, _, _, _, _, by omega, by omega, by omega, t2, hnew2, x2, rfl⟩
    · obtain ⟨i, b, d, obs, o1, o2, hi0, hi1, rfl, t, hnew, hx, rfl⟩ := hI
      refine w_seq ?_
      refine w_seq ?_
      refine w_region (by kernel_rfl) ?_
      refine o_move gn rfl rfl ?_
      refine o_move gn rfl rfl ?_
      refine o_len gn rfl rfl (by kernel_rfl) ?_
      refine o_lss gn rfl rfl rfl ?_
      refine wl_end ?_
      refine w_cond rfl (fun hb => ?_) fun hb => ?_
      · skip
        have hlt : i.toNat < l1.length := by simp at hb; omega
        obtain ⟨bb, oo, cs, e, m, rfl, hg, hbb, hle, hrow, _⟩ := hs1.at hlt
        have hg2 := (hx.get bb hbb).trans hg
        refine w_skip ?_
        refine w_seq ?_
        refine w_block ?_
        refine w_seq ?_
        refine w_region (by kernel_rfl) ?_
        refine o_move gn rfl rfl ?_
        refine o_move gn rfl rfl ?_
        refine o_move gn rfl rfl ?_
        refine o_move gn rfl rfl ?_
        refine o_indexAddr (zz := 10) gn rfl rfl rfl (by kernel_rfl) (by omega) (by omega) ?_
        refine o_loadA (n := 10) gn rfl rfl (by kernel_rfl) (by kernel_rfl) hg2 hle ?_
        rw [hrow]
        refine o_call [_, _, _] gn rfl rfl (by kernel_rfl) rfl (C.mono (c33r t hnew hx hs1 hf1 hlt) ?_)
        rintro v3 h3 ⟨rfl, obs', o1', o2', t3, hn3, x3⟩
        refine ⟨ag0, ?_⟩
        refine o_not gn rfl rfl ?_
        refine wl_end ?_
        refine w_cond rfl (fun hb => ?_) fun hb => ?_
        · skip
          cases hb
        · skip
          refine w_skip ?_
          refine w_region (by kernel_rfl) ?_
          refine o_move gn rfl rfl ?_
          refine o_add gn rfl rfl rfl (by omega) (by omega) ?_
          refine o_assign gn rfl rfl ?_
          refine wl_end ?_
          exact ⟨(l1.length - (i + 1)).toNat, by omega, _, (by repeat (first | exact trivial | refine ⟨rfl, ?_⟩)), ⟨i + 1, b, d, obs', o1', o2', by omega, by omega, rfl, t3, fun j hj => by
            rcases hn3 j hj with h5 | h5 | h5
            · exact hnew j (.inl h5)
            · exact hnew j (.inr h5)
            · have := hx.n; omega, hx.of x3 (fun j hj => hnew j (List.mem_append.1 hj)), rfl⟩⟩
      · skip
        refine w_exit ?_
        refine thn_exit ?_
        refine rnd_exit ?_
        refine blk_eq ?_
        refine w_seq ?_
        refine w_region (by kernel_rfl) ?_
        refine o_move gn rfl rfl ?_
        refine o_call [_] gn rfl rfl (by kernel_rfl) rfl (C.mono (c35a t.l t.ok) ?_)
        rintro v3 h3 ⟨b', q1, rfl, hl3, hq1, x3⟩
        refine ⟨ag0, ?_⟩
        refine o_move gn rfl rfl ?_
        refine o_call [_] gn rfl rfl (by kernel_rfl) rfl (C.mono (c36a (t.ext x3).r t.ok) ?_)
        rintro v4 h4 ⟨d', q2, rfl, hl4, hq2, x4⟩
        have hf : Four h h4 b d obs o1 o2 b' d' obs q1 q2 := by
          have htl := t.lt
          have e3 := x3.n
          have e4 := hx.n
          refine ⟨t.ext (x3.trans x4), ⟨hl3.ext x4, hl4, fun i hi hj => ?_, t.ok⟩, fun i hi => ⟨fun hq => ?_, fun hq => ?_⟩, hnew, fun i hi => ?_, hx.trans (x3.trans x4)⟩
          · have := hl3.lt i hi; have := hq2 i hj; omega
          · have := htl i hi; have := hq1 i hq; omega
          · have := htl i hi; have := hq2 i hq; omega
          · rcases hi with hi | hi
            · have := hq1 i hi; omega
            · have := hq2 i hi; omega
        refine ⟨ag0, ?_⟩
        refine o_assign gn rfl rfl ?_
        refine o_assign gn rfl rfl ?_
        refine wl_end ?_
        refine w_seq ?_
        refine w_seq ?_
        refine w_region (by kernel_rfl) ?_
        refine o_move gn rfl rfl ?_
        refine o_move gn rfl rfl ?_
        refine o_call [_, _] gn rfl rfl (by kernel_rfl) rfl (C.mono (c37 hf.t.l hf.u.l hf.t.ok) ?_)
        rintro v5 h5 ⟨x5, ts, rfl, hts⟩
        obtain rfl : ts = true := hts.2 rfl
        replace hf := hf.ext x5
        refine ⟨ag0, ?_⟩
        refine o_not gn rfl rfl ?_
        refine o_move gn rfl rfl ?_
        refine wl_split (dc := 54) rfl (fun hb54 => ?_) fun hb54 => ?_
        · skip
          cases hb54
        · skip
          refine o_move (gy rfl rfl rfl hb54) rfl rfl ?_
          refine o_move (gy rfl rfl rfl hb54) rfl rfl ?_
          refine o_call [_, _] (gy rfl rfl rfl hb54) rfl rfl (by kernel_rfl) rfl (C.mono (c37 hf.u.l hf.t.l hf.t.ok) ?_)
          rintro v6 h6 ⟨x6, ts, rfl, hts⟩
          obtain rfl : ts = true := hts.2 rfl
          replace hf := hf.ext x6
          refine ⟨ag0, ?_⟩
          refine o_not (gy rfl rfl rfl hb54) rfl rfl ?_
          refine o_pickf gn rfl rfl hb54 rfl ?_
          refine wl_end ?_
          refine w_cond rfl (fun hb => ?_) fun hb => ?_
          · skip
            cases hb
          · skip
            refine w_skip ?_
            refine w_seq ?_
            refine w_seq ?_
            refine w_region (by kernel_rfl) ?_
            refine o_assign gn rfl rfl ?_
            refine wl_end ?_
            refine w_block ?_
            refine w_weak [(1, .slice a2 l2.length n2), (2, .slice a3 l3.length n3), (7, ptrV b), (8, ptrV d), (10, ptrV b'), (11, ptrV d'), (12, iV 0)] (by repeat (first | exact trivial | refine ⟨rfl, ?_⟩)) ?_
            refine w_loop (fun k l hh => ∃ (i : Int) (oa : List Ob) (p1 p2 : List Nat), 0 ≤ i ∧ i ≤ l2.length ∧ k = (l2.length - i).toNat ∧ Four h hh b d oa p1 p2 b' d' obs q1 q2 ∧ l = [(1, .slice a2 l2.length n2), (2, .slice a3 l3.length n3), (7, ptrV b), (8, ptrV d), (10, ptrV b'), (11, ptrV d'), (12, iV i)]) (n := l2.length) ?_ fun k l hh hI => ?_
            · exact ⟨0, _, _, _, by omega, by omega, by omega, hf, rfl⟩
            · obtain ⟨i, oa, p1, p2, hi0, hi1, rfl, hf, rfl⟩ := hI
              refine w_seq ?_
              refine w_seq ?_
              refine w_region (by kernel_rfl) ?_
              refine o_move gn rfl rfl ?_
              refine o_move gn rfl rfl ?_
              refine o_len gn rfl rfl (by kernel_rfl) ?_
              refine o_lss gn rfl rfl rfl ?_
              refine wl_end ?_
              refine w_cond rfl (fun hb => ?_) fun hb => ?_
              · skip
                have hlt : i.toNat < l2.length := by simp at hb; omega
                obtain ⟨bb, oo, cs, e, m, rfl, hg, hbb, hle, hrow, _⟩ := hs2.at hlt
                have hg2 := (hf.x.get bb hbb).trans hg
                refine w_skip ?_
                refine w_seq ?_
                refine w_block ?_
                refine w_seq ?_
                refine w_region (by kernel_rfl) ?_
                refine o_move gn rfl rfl ?_
                refine o_move gn rfl rfl ?_
                refine o_move gn rfl rfl ?_
                refine o_move gn rfl rfl ?_
                refine o_indexAddr (zz := 10) gn rfl rfl rfl (by kernel_rfl) (by omega) (by omega) ?_
                refine o_loadA (n := 10) gn rfl rfl (by kernel_rfl) (by kernel_rfl) hg2 hle ?_
                rw [hrow]
                refine o_call [_, _, _] gn rfl rfl (by kernel_rfl) rfl (C.mono (c33r hf.t hf.tn hf.x hs2 hf2 hlt) ?_)
                rintro v7 h7 ⟨rfl, ob, ob1, ob2, t7, hn7, x7⟩
                refine ⟨ag0, ?_⟩
                refine o_not gn rfl rfl ?_
                refine wl_end ?_
                refine w_cond rfl (fun hb => ?_) fun hb => ?_
                · skip
                  cases hb
                · skip
                  refine w_skip ?_
                  refine w_region (by kernel_rfl) ?_
                  refine o_move gn rfl rfl ?_
                  refine o_add gn rfl rfl rfl (by omega) (by omega) ?_
                  refine o_assign gn rfl rfl ?_
                  refine wl_end ?_
                  exact ⟨(l2.length - (i + 1)).toNat, by omega, _, (by repeat (first | exact trivial | refine ⟨rfl, ?_⟩)), ⟨i + 1, _, _, _, by omega, by omega, rfl, hf.fst t7 hn7 x7, rfl⟩⟩
              · skip
                refine w_exit ?_
                refine thn_exit ?_
                refine rnd_exit ?_
                refine blk_eq ?_
                refine w_seq ?_
                refine w_seq ?_
                refine w_region (by kernel_rfl) ?_
                refine o_assign gn rfl rfl ?_
                refine wl_end ?_
                refine w_block ?_
                refine w_weak [(2, .slice a3 l3.length n3), (7, ptrV b), (8, ptrV d), (10, ptrV b'), (11, ptrV d'), (13, iV 0)] (by repeat (first | exact trivial | refine ⟨rfl, ?_⟩)) ?_
                refine w_loop (fun k l hh => ∃ (i : Int) (ob : List Ob) (p3 p4 : List Nat), 0 ≤ i ∧ i ≤ l3.length ∧ k = (l3.length - i).toNat ∧ Four h hh b d oa p1 p2 b' d' ob p3 p4 ∧ l = [(2, .slice a3 l3.length n3), (7, ptrV b), (8, ptrV d), (10, ptrV b'), (11, ptrV d'), (13, iV i)]) (n := l3.length) ?_ fun k l hh hI => ?_
                · exact ⟨0, _, _, _, by omega, by omega, by omega, hf, rfl⟩
                · obtain ⟨i, ob, p3, p4, hi0, hi1, rfl, hf, rfl⟩ := hI
                  refine w_seq ?_
                  refine w_seq ?_
                  refine w_region (by kernel_rfl) ?_
                  refine o_move gn rfl rfl ?_
                  refine o_move gn rfl rfl ?_
                  refine o_len gn rfl rfl (by kernel_rfl) ?_
                  refine o_lss gn rfl rfl rfl ?_
                  refine wl_end ?_
                  refine w_cond rfl (fun hb => ?_) fun hb => ?_
                  · skip
                    have hlt : i.toNat < l3.length := by simp at hb; omega
                    obtain ⟨bb, oo, cs, e, m, rfl, hg, hbb, hle, hrow, _⟩ := hs3.at hlt
                    have hg2 := (hf.x.get bb hbb).trans hg
                    refine w_skip ?_
                    refine w_seq ?_
                    refine w_block ?_
                    refine w_seq ?_
                    refine w_region (by kernel_rfl) ?_
                    refine o_move gn rfl rfl ?_
                    refine o_move gn rfl rfl ?_
                    refine o_move gn rfl rfl ?_
                    refine o_move gn rfl rfl ?_
                    refine o_indexAddr (zz := 10) gn rfl rfl rfl (by kernel_rfl) (by omega) (by omega) ?_
                    refine o_loadA (n := 10) gn rfl rfl (by kernel_rfl) (by kernel_rfl) hg2 hle ?_
                    rw [hrow]
                    refine o_call [_, _, _] gn rfl rfl (by kernel_rfl) rfl (C.mono (c33r hf.u hf.un hf.x hs3 hf3 hlt) ?_)
                    rintro v7 h7 ⟨rfl, oc, oc1, oc2, t7, hn7, x7⟩
                    refine ⟨ag0, ?_⟩
                    refine o_not gn rfl rfl ?_
                    refine wl_end ?_
                    refine w_cond rfl (fun hb => ?_) fun hb => ?_
                    · skip
                      cases hb
                    · skip
                      refine w_skip ?_
                      refine w_region (by kernel_rfl) ?_
                      refine o_move gn rfl rfl ?_
                      refine o_add gn rfl rfl rfl (by omega) (by omega) ?_
                      refine o_assign gn rfl rfl ?_
                      refine wl_end ?_
                      exact ⟨(l3.length - (i + 1)).toNat, by omega, _, (by repeat (first | exact trivial | refine ⟨rfl, ?_⟩)), ⟨i + 1, _, _, _, by omega, by omega, rfl, (hf.swap.fst t7 hn7 x7).swap, rfl⟩⟩
                  · skip
                    refine w_exit ?_
                    refine thn_exit ?_
                    refine rnd_exit ?_
                    refine blk_eq ?_
                    obtain ⟨es, sad, Bad, hd1, hoa, _⟩ := hf.t.r
                    obtain ⟨es', sad', Bad', hd2, hob, _⟩ := hf.u.r
                    have htd1 := hd1.top
                    have htd2 := hd2.top
                    refine w_seq ?_
                    refine w_draw [(0, []), (1, []), (2, []), (3, []), (4, []), (5, []), (6, []), (7, []), (8, []), (9, [])] (by kernel_rfl) (by kernel_rfl) (by kernel_rfl) (by kernel_rfl) ?_
                    refine o_move gn rfl rfl ?_
                    refine o_nilCheck gn rfl rfl ?_
                    refine o_fieldAddr (off := 0) gn rfl rfl (by kernel_rfl) ?_
                    refine o_load gn rfl rfl (by kernel_rfl) (by assumption) rfl ?_
                    refine o_move gn rfl rfl ?_
                    refine o_nilCheck gn rfl rfl ?_
                    refine o_fieldAddr (off := 0) gn rfl rfl (by kernel_rfl) ?_
                    refine o_load gn rfl rfl (by kernel_rfl) (by assumption) rfl ?_
                    refine o_call [_, _] gn rfl rfl (by kernel_rfl) rfl (C.mono (c38 hd1 hd2 (hoa ▸ hf.t.ok)) ?_)
                    rintro v8 h8 ⟨x8, t4, rfl, ht4⟩
                    rw [hoa, hob] at ht4
                    replace hf := hf.ext x8
                    refine ⟨ag0, ?_⟩
                    refine o_assign gn rfl rfl ?_
                    refine wl_end ?_
                    refine w_seq ?_
                    refine w_region (by kernel_rfl) ?_
                    refine o_move gn rfl rfl ?_
                    refine o_move gn rfl rfl ?_
                    refine o_call [_, _, _] gn rfl rfl (by kernel_rfl) rfl (C.mono (c34 hf.t) ?_)
                    rintro v9 h9 ⟨rfl, x9⟩
                    replace hf := hf.ext x9
                    refine ⟨ag0, ?_⟩
                    refine o_move gn rfl rfl ?_
                    refine wl_split (dc := 100) rfl (fun hb100 => ?_) fun hb100 => ?_
                    · skip
                      refine o_move (gy rfl rfl rfl hb100) rfl rfl ?_
                      refine o_move (gy rfl rfl rfl hb100) rfl rfl ?_
                      refine o_call [_, _, _] (gy rfl rfl rfl hb100) rfl rfl (by kernel_rfl) rfl (C.mono (c34 hf.u) ?_)
                      rintro v10 h10 ⟨rfl, x10⟩
                      replace hf := hf.ext x10
                      refine ⟨ag0, ?_⟩
                      refine o_pickt gn rfl rfl hb100 rfl ?_
                      refine o_move gn rfl rfl ?_
                      refine wl_split (dc := 105) rfl (fun hb105 => ?_) fun hb105 => ?_
                      · skip
                        refine o_move (gy rfl rfl rfl hb105) rfl rfl ?_
                        refine o_move (gy rfl rfl rfl hb105) rfl rfl ?_
                        refine o_call [_, _] (gy rfl rfl rfl hb105) rfl rfl (by kernel_rfl) rfl (C.mono (c37 hf.t.l hf.u.l hf.t.ok) ?_)
                        rintro v11 h11 ⟨x11, t5, rfl, ht5⟩
                        obtain rfl : t5 = t4 := Bool.eq_iff_iff.2 (ht5.trans ht4.symm)
                        replace hf := hf.ext x11
                        refine ⟨ag0, ?_⟩
                        refine o_move (gy rfl rfl rfl hb105) rfl rfl ?_
                        refine o_eqb (gy rfl rfl rfl hb105) rfl rfl rfl (by kernel_rfl) ?_
                        refine o_pickt gn rfl rfl hb105 rfl ?_
                        refine o_move gn rfl rfl ?_
                        refine wl_split (dc := 112) rfl (fun hb112 => ?_) fun hb112 => ?_
                        · skip
                          refine o_move (gy rfl rfl rfl hb112) rfl rfl ?_
                          refine o_move (gy rfl rfl rfl hb112) rfl rfl ?_
                          refine o_call [_, _] (gy rfl rfl rfl hb112) rfl rfl (by kernel_rfl) rfl (C.mono (c37 hf.u.l hf.t.l hf.u.ok) ?_)
                          rintro v12 h12 ⟨x12, t6, rfl, ht6⟩
                          obtain rfl : t6 = t5 := Bool.eq_iff_iff.2 (ht6.trans (Iff.trans ⟨Eq.symm, Eq.symm⟩ ht5.symm))
                          refine ⟨ag0, ?_⟩
                          refine o_move (gy rfl rfl rfl hb112) rfl rfl ?_
                          refine o_eqb (gy rfl rfl rfl hb112) rfl rfl rfl (by kernel_rfl) ?_
                          refine o_pickt gn rfl rfl hb112 rfl ?_
                          refine o_move gn rfl rfl ?_
                          refine o_and (n := 1) rfl rfl rfl gn rfl (fun hb => by
                              refine o_orc (f := 18) (v := .bool true) (gy rfl rfl rfl hb) rfl (by kernel_rfl) (by kernel_rfl) ag0 ?_
                              exact wl_end ⟨rfl, rfl, 1, rfl, rfl⟩) ?_
                          refine o_assign gn rfl rfl ?_
                          refine wl_end ?_
                          refine w_ret ?_
                          refine ⟨.inl rfl, _, rfl, ?_⟩
                          simp [oneOf]
                        · skip
                          simp at hb112
                      · skip
                        cases hb105
                    · skip
                      cases hb100

end Go.Proofs.Ytkmbfjdmbdpflaa

