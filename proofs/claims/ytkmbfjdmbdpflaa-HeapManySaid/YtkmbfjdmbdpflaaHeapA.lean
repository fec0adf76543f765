/- Chapter 8, the program's side: New, Count, at, add. Conditions: none. -/
import Derived.Test.YtkmbfjdmbdpflaaHeapE
namespace Go.Proofs.Ytkmbfjdmbdpflaa
open Go.X

theorem el99 : El heapE 84 99 7 := ⟨by kernel_rfl, by kernel_rfl, by kernel_rfl, .pointer none, by kernel_rfl, rfl⟩
theorem el2 : El heapE 44 2 7 := ⟨by kernel_rfl, by kernel_rfl, by kernel_rfl, .int .i64 0, by kernel_rfl, rfl⟩
theorem mt : MapT heapE 85 3 3 := ⟨by kernel_rfl, by kernel_rfl⟩

theorem nodup_push {b r p n : Nat} {Ba Ba' ps bs : List Nat} {vb : List (List Nat)} (x : (b :: r :: (Ba ++ ps ++ vb.flatten)).Nodup) (xlt : ∀ i, i ∈ b :: r :: (Ba ++ ps ++ vb.flatten) → i < n)
    (hp : p ∉ b :: r :: (Ba ++ ps ++ vb.flatten)) (hpn : p < n) (hbs : ∀ i, i ∈ bs → i ∉ b :: r :: (Ba ++ ps ++ vb.flatten)) (hbn : ∀ i, i ∈ bs → i < n) (hpb : p ∉ bs) (hn : bs.Nodup) (hBa : ∀ i, i ∈ Ba' → i ∈ Ba ∨ n ≤ i) (hBn : Ba'.Nodup) :
    (b :: r :: (Ba' ++ (ps ++ [p]) ++ (vb ++ [bs]).flatten)).Nodup := by
  rw [List.flatten_append, List.flatten_cons, List.flatten_nil, List.append_nil]
  generalize vb.flatten = F at *
  simp only [List.nodup_cons, List.nodup_append, List.mem_append, List.mem_cons, List.not_mem_nil, or_false] at *
  grind

section
variable {h h' : Hp} {b : Nat} {obs : List Ob} {ps : List Nat} {vb : List (List Nat)} {sa : Value} {Ba : List Nat} {r : Nat} {M : Ms} {cl : Nat}

/-- New -/
theorem c19 : C heapE 19 [] h fun v h' => ∃ b r, v = ptrV b ∧ HeapR h' b [] [] [] (.slice none 0 0) [] r [] 0 ∧ Ext h h' ∧ h.n ≤ b ∧ h.n ≤ r := by
  refine c_enter (fu := Try.f19) (by kernel_rfl) rfl ?_
  refine w_seq ?_
  refine w_region (by kernel_rfl) ?_
  refine o_assign gn rfl rfl ?_
  refine wl_end ?_
  refine w_seq ?_
  refine w_region (by kernel_rfl) ?_
  refine o_makeMap gn rfl ?_
  refine o_build (zv := .agg #[.slice none 0 0, .map none]) (pl := [(0, 1), (1, 1)]) [(1, _)] gn rfl (by kernel_rfl) (by kernel_rfl) rfl rfl ?_
  refine o_box gn rfl rfl ?_
  refine o_assign gn rfl rfl ?_
  refine wl_end ?_
  refine w_ret ?_
  refine ⟨.inl rfl, _, rfl, ?_⟩
  refine ⟨_, _, rfl, ⟨Hp.get_alloc_self _ _, .inl ⟨rfl, rfl, rfl⟩, ?_, fun k => rfl, rfl, rfl, fun i hi => absurd hi (by simp), ?_, ?_⟩, (Ext.alloc _ _).trans (Ext.alloc _ _), ?_, Nat.le_refl _⟩
  · rw [Hp.get_alloc, if_neg (by rw [Hp.n_alloc]; omega)]; exact Hp.get_alloc_self _ _
  · simp [Hp.n_alloc]
  · intro i hi; simp [Hp.n_alloc] at hi ⊢; omega
  · rw [Hp.n_alloc]; omega

/-- Count -/
theorem c22 (hl : HeapR h b obs ps vb sa Ba r M cl) : CP heapE 22 [ptrV b] h (iV obs.length) := by
  obtain ⟨a, rfl⟩ := hl.all.val
  have ht := hl.top
  refine c_enter (fu := Try.f22) (by kernel_rfl) rfl ?_
  refine w_seq ?_
  refine w_region (by kernel_rfl) ?_
  refine o_assign gn rfl rfl ?_
  refine wl_end ?_
  refine w_seq ?_
  refine w_seq ?_
  refine w_region (by kernel_rfl) ?_
  refine o_move gn rfl rfl ?_
  refine o_eqp gn rfl rfl rfl (by kernel_rfl) ?_
  refine wl_end ?_
  refine w_cond rfl (fun hb => ?_) fun hb => ?_
  · skip
    refine w_seq ?_
    refine w_region (by kernel_rfl) ?_
    refine o_assign gn rfl rfl ?_
    refine wl_end ?_
    refine w_ret ?_
    refine ⟨.inl rfl, _, rfl, ?_⟩
    cases hb
  · skip
    refine w_skip ?_
    refine w_seq ?_
    refine w_region (by kernel_rfl) ?_
    refine o_move gn rfl rfl ?_
    refine o_nilCheck gn rfl rfl ?_
    refine o_fieldAddr (off := 0) gn rfl rfl (by kernel_rfl) ?_
    refine o_load gn rfl rfl (by kernel_rfl) (by assumption) rfl ?_
    refine o_len gn rfl rfl (by kernel_rfl) ?_
    refine o_assign gn rfl rfl ?_
    refine wl_end ?_
    refine w_ret ?_
    refine ⟨.inl rfl, _, rfl, ?_⟩
    exact ⟨by simp [oneOf, hl.lps], rfl⟩

/-- at -/
def atV (ps : List Nat) (id : Int) : Value := if 1 ≤ id ∧ id ≤ ps.length then ptrV ((ps[(id - 1).toNat]?).getD 0) else .pointer none

theorem c55 {id : Int} (hl : HeapR h b obs ps vb sa Ba r M cl) (hps : ps.length ≤ 100000) : CP heapE 55 [ptrV b, iV id] h (atV ps id) := by
  obtain ⟨a, rfl⟩ := hl.all.val
  have ht := hl.top
  have hlen : (ps.map ptrV).length = ps.length := by simp
  refine c_enter (fu := Try.f55) (by kernel_rfl) rfl ?_
  refine w_seq ?_
  refine w_region (by kernel_rfl) ?_
  refine o_assign gn rfl rfl ?_
  refine wl_end ?_
  refine w_seq ?_
  refine w_seq ?_
  refine w_region (by kernel_rfl) ?_
  refine o_move gn rfl rfl ?_
  refine o_eqp gn rfl rfl rfl (by kernel_rfl) ?_
  refine o_move gn rfl rfl ?_
  refine o_or (n := 2) rfl rfl rfl gn rfl (fun hb => by
      refine o_move (gy rfl rfl rfl hb) rfl rfl ?_
      refine o_lss (gy rfl rfl rfl hb) rfl rfl rfl ?_
      exact wl_end ⟨rfl, rfl, 2, rfl, rfl⟩) ?_
  refine o_move gn rfl rfl ?_
  refine o_or (n := 7) rfl rfl rfl gn rfl (fun hb => by
      refine o_move (gy rfl rfl rfl hb) rfl rfl ?_
      refine o_move (gy rfl rfl rfl hb) rfl rfl ?_
      refine o_nilCheck (gy rfl rfl rfl hb) rfl rfl ?_
      refine o_fieldAddr (off := 0) (gy rfl rfl rfl hb) rfl rfl (by kernel_rfl) ?_
      refine o_load (gy rfl rfl rfl hb) rfl rfl (by kernel_rfl) (by assumption) rfl ?_
      refine o_len (gy rfl rfl rfl hb) rfl rfl (by kernel_rfl) ?_
      refine o_gtr (gy rfl rfl rfl hb) rfl rfl rfl ?_
      exact wl_end ⟨rfl, rfl, 7, rfl, rfl⟩) ?_
  refine wl_end ?_
  refine w_cond rfl (fun hb => ?_) fun hb => ?_
  · skip
    refine w_seq ?_
    refine w_region (by kernel_rfl) ?_
    refine o_assign gn rfl rfl ?_
    refine wl_end ?_
    refine w_ret ?_
    refine ⟨.inl rfl, _, rfl, ?_⟩
    have hr : ¬ (1 ≤ id ∧ id ≤ ps.length) := by simp at hb; omega
    exact ⟨by rw [atV, if_neg hr]; rfl, rfl⟩
  · skip
    have hr : 1 ≤ id ∧ id ≤ ps.length := by simp at hb; omega
    obtain ⟨bb, m, ea, hbb, hm, hblt, hB⟩ := hl.all.at (by omega)
    cases ea
    refine w_skip ?_
    refine w_seq ?_
    refine w_region (by kernel_rfl) ?_
    refine o_move gn rfl rfl ?_
    refine o_nilCheck gn rfl rfl ?_
    refine o_fieldAddr (off := 0) gn rfl rfl (by kernel_rfl) ?_
    refine o_load gn rfl rfl (by kernel_rfl) (by assumption) rfl ?_
    refine o_move gn rfl rfl ?_
    refine o_sub gn rfl rfl rfl (by omega) (by omega) ?_
    refine o_indexAddr (zz := 1) gn rfl rfl rfl (by kernel_rfl) (by omega) (by omega) ?_
    have hv : (ps.map ptrV)[0 + (id - 1).toNat * 1]? = some (ptrV ((ps[(id - 1).toNat]?).getD 0)) := by
      rw [Nat.zero_add, Nat.mul_one, List.getElem?_map, List.getElem?_eq_getElem (show (id - 1).toNat < ps.length by omega)]; rfl
    refine o_load gn rfl rfl (by kernel_rfl) hbb hv ?_
    refine o_assign gn rfl rfl ?_
    refine wl_end ?_
    refine w_ret ?_
    refine ⟨.inl rfl, _, rfl, ?_⟩
    exact ⟨by rw [atV, if_pos hr]; rfl, rfl⟩

/-- slices.Clone -/
theorem c73 {a : Option Addr} {n c : Nat} {xs : List Value} (hs : Src h (.slice a n c) xs) (hn : xs.length ≤ 100000) :
    C heapE 73 [.slice a n c] h fun v h' => ∃ bs, Sl 2 h' v xs bs ∧ Ext h h' ∧ ∀ i, i ∈ bs → h.n ≤ i := by
  obtain ⟨v', h', bs', h1, h2, h3, h4⟩ := append_new (E := heapE) el2 hs (by omega)
  refine c_enter (fu := Try.f73) (by kernel_rfl) rfl ?_
  refine w_seq ?_
  refine w_region (by kernel_rfl) ?_
  refine o_assign gn rfl rfl ?_
  refine wl_end ?_
  refine w_seq ?_
  refine w_seq ?_
  refine w_region (by kernel_rfl) ?_
  refine o_move gn rfl rfl ?_
  refine o_eqs gn rfl rfl rfl (by kernel_rfl) ?_
  refine wl_end ?_
  refine w_cond rfl (fun hb => ?_) fun hb => ?_
  · skip
    refine w_seq ?_
    refine w_region (by kernel_rfl) ?_
    refine o_assign gn rfl rfl ?_
    refine wl_end ?_
    refine w_ret ?_
    refine ⟨.inl rfl, _, rfl, ?_⟩
    simp only [Option.isNone_iff_eq_none] at hb; subst hb; exact ⟨[], .inl ⟨rfl, hs.nil, rfl⟩, .refl _, by simp⟩
  · skip
    refine w_skip ?_
    refine w_seq ?_
    refine w_region (by kernel_rfl) ?_
    refine o_buildSlice (e := 2) (z := 0) (zv := .int .i64 0) [] gn rfl (by kernel_rfl) (by kernel_rfl) (by kernel_rfl) (by kernel_rfl) rfl rfl ?_
    refine o_move gn rfl rfl ?_
    refine o_append gn rfl rfl rfl h1 ag0 ?_
    refine o_assign gn rfl rfl ?_
    refine wl_end ?_
    refine w_ret ?_
    refine ⟨.inl rfl, _, rfl, ?_⟩
    exact ⟨bs', h2, h3, h4⟩

/-- copied -/
theorem c56 {p : Nat} {o : Ob} {bs : List Nat} (ho : ObAt h p o bs) (hn : o.vals.length ≤ 100000) :
    C heapE 56 [ptrV p] h fun v h' => ∃ sv bs', v = .agg (o.cells sv).toArray ∧ Sl 2 h' sv (isV o.vals) bs' ∧ Ext h h' ∧ ∀ i, i ∈ bs' → h.n ≤ i := by
  obtain ⟨sv, hp, hs⟩ := ho.at'
  obtain ⟨a, rfl⟩ := hs.val
  have hpn := ho.lt
  refine c_enterH (fu := Try.f56) (by kernel_rfl) rfl ?_
  refine w_seq ?_
  refine w_region (by kernel_rfl) ?_
  refine o_alloc (zv := .agg #[.int .i64 0, .int .i64 0, .slice none 0 0, .int .i64 0, .int .i64 0, .int .i64 0]) gn rfl (by kernel_rfl) ?_
  refine wl_end ?_
  refine w_seq ?_
  refine w_region (by kernel_rfl) ?_
  refine o_move gn rfl rfl ?_
  refine o_nilCheck gn rfl rfl ?_
  refine o_loadA (n := 6) gn rfl rfl (by kernel_rfl) (by kernel_rfl) (((Ext.alloc _ _).get _ ho.lt).trans hp) (Nat.le_refl 6) ?_
  refine o_alloc (zv := .agg #[.int .i64 0, .int .i64 0, .slice none 0 0, .int .i64 0, .int .i64 0, .int .i64 0]) gn rfl (by kernel_rfl) ?_
  rw [Hp.n_alloc]
  refine o_storeA (n := 6) gn rfl rfl rfl (by kernel_rfl) rfl ((Hp.get_alloc _ _ _).trans (if_pos (Hp.n_alloc _ _))) (by decide) rfl ag0 ?_
  refine wl_at (fun h3 => h3.get p = some (.cells (o.cells (.slice a (isV o.vals).length (isV o.vals).length)) 46 0) ∧ h3.get (h.n + 1) = some (.cells (o.cells (.slice a (isV o.vals).length (isV o.vals).length)) 46 0) ∧ (∃ cs, h3.get h.n = some (.cells cs 46 0) ∧ cs.length = 6) ∧ Ext h h3 ∧ h3.n = h.n + 2) ⟨?_, ?_, ⟨[.int .i64 0, .int .i64 0, .slice none 0 0, .int .i64 0, .int .i64 0, .int .i64 0], ?_, rfl⟩, ?_, ?_⟩ fun h3 ⟨g1, g2, ⟨cs3, g3, g4⟩, x3, n3⟩ => ?_
  · rw [Hp.get_put, if_neg (by omega), Hp.get_alloc, if_neg (by rw [Hp.n_alloc]; omega), Hp.get_alloc, if_neg (by omega)]; exact hp
  · exact Hp.get_put_self _ _ _
  · rw [Hp.get_put, if_neg (by omega), Hp.get_alloc, if_neg (by rw [Hp.n_alloc]; omega)]; exact Hp.get_alloc_self _ _
  · exact ((Ext.alloc h _).trans (Ext.alloc _ _)).of (ExtB.put _ _ _) (by simp [Hp.n_alloc])
  · rw [Hp.n_put, Hp.n_alloc, Hp.n_alloc]
  refine wl_end ?_
  refine w_seq ?_
  refine w_region (by kernel_rfl) ?_
  refine o_move gn rfl rfl ?_
  refine o_nilCheck gn rfl rfl ?_
  refine o_fieldAddr (off := 2) gn rfl rfl (by kernel_rfl) ?_
  refine o_load gn rfl rfl (by kernel_rfl) g1 rfl ?_
  refine o_call [_] gn rfl rfl (by kernel_rfl) rfl (C.mono (c73 ((hs.ext x3).src (all_int _)) (by simpa using hn)) ?_)
  rintro sv4 h4 ⟨bs', s4, x4, f4⟩
  obtain ⟨a4, rfl⟩ := s4.val
  have g5 := (x4.get (h.n + 1) (by omega)).trans g2
  have g6 := (x4.get h.n (by omega)).trans g3
  refine ⟨ag0, ?_⟩
  refine o_fieldAddr (off := 2) gn rfl rfl (by kernel_rfl) ?_
  refine o_store gn rfl rfl rfl (by kernel_rfl) g5 (by decide) (by simp [Ob.cells]) ag0 ?_
  refine wl_end ?_
  refine w_seq ?_
  refine w_region (by kernel_rfl) ?_
  refine o_loadA (n := 6) gn rfl rfl (by kernel_rfl) (by kernel_rfl) (Hp.get_put_self _ _ _) (Nat.le_refl 6) ?_
  refine o_storeA (n := 6) gn rfl rfl rfl (by kernel_rfl) rfl ((Hp.get_put _ _ _ _).trans ((if_neg (Nat.succ_ne_self _)).trans g6)) (by decide) g4 ag0 ?_
  refine wl_end ?_
  refine w_ret ?_
  refine ⟨.inl rfl, _, (resH_agg rfl (by kernel_rfl) (by kernel_rfl) (Hp.get_put_self _ _ _) rfl rfl), ?_⟩
  have k := ExtB.put2 h4
  exact ⟨_, bs', rfl, s4.keep (k _ _ _ _) (fun i hi hj => by have := f4 i hi; simp [Hp.n_alloc] at hj; omega), (x3.trans x4).of (k _ _ _ _) (by simp [Hp.n_alloc]), fun i hi => by have := f4 i hi; omega⟩

end

end Go.Proofs.Ytkmbfjdmbdpflaa

