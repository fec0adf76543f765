/- Chapter 8, the program's side: add, Make, Object. Conditions: none. -/
import Derived.Test.YtkmbfjdmbdpflaaHeapA
namespace Go.Proofs.Ytkmbfjdmbdpflaa
open Go.X

section
variable {h h' : Hp} {b : Nat} {obs : List Ob} {ps : List Nat} {vb : List (List Nat)} {sa : Value} {Ba : List Nat} {r : Nat} {M : Ms} {cl : Nat}

theorem HeapR.dis (hl : HeapR h b obs ps vb sa Ba r M cl) : b ≠ r ∧ b ∉ Ba ∧ r ∉ Ba ∧ (∀ i, i ∈ ps → i ≠ b ∧ i ≠ r ∧ i ∉ Ba) ∧ (∀ i, i ∈ vb.flatten → i ≠ b ∧ i ≠ r ∧ i ∉ Ba) := by
  have := hl.nodup
  generalize vb.flatten = F at *
  simp only [List.nodup_cons, List.nodup_append, List.mem_append, List.mem_cons, List.not_mem_nil, or_false] at this
  grind

theorem HeapR.push {p : Nat} {o : Ob} {sa' : Value} {bs Ba' : List Nat} {M' : Ms} {cl' : Nat} (hl : HeapR h b obs ps vb sa Ba r M cl) (plt : p < h.n) (hpo : p ∉ HeapR.own b r Ba ps vb) (hbs : ∀ i, i ∈ bs → i ∉ HeapR.own b r Ba ps vb) (hbl : ∀ i, i ∈ bs → i < h.n) (hpb : p ∉ bs) (hbn : bs.Nodup)
    (g : ExtB (p :: b :: r :: Ba) h h') (top : h'.get b = some (.cells [sa', .map (some r)] 87 0)) (all : Sl 99 h' sa' ((ps ++ [p]).map ptrV) Ba') (hBa : ∀ i, i ∈ Ba' → i ∈ Ba ∨ h.n ≤ i) (made : h'.get r = some (.map (M'.map ent) cl'))
    (count : ∀ k, (getI M' k).getD (iV 0) = iV (cnt k (obs ++ [o]))) (ob : ObAt h' p o bs) : HeapR h' b (obs ++ [o]) (ps ++ [p]) (vb ++ [bs]) sa' Ba' r M' cl' := by
  obtain ⟨d1, d2, d3, d4, d5⟩ := hl.dis
  have hown : ∀ i, i ∈ ps ∨ i ∈ vb.flatten → i ∈ HeapR.own b r Ba ps vb := fun i hi => by simp only [HeapR.own, List.mem_cons, List.mem_append]; rcases hi with h1 | h1 <;> simp [h1]
  refine ⟨top, all, made, count, by simp [hl.lps], by simp [hl.lvb], fun i hi => ?_, nodup_push hl.nodup hl.lt hpo plt hbs hbl hpb hbn hBa all.nodup, fun i hi => ?_⟩
  · have e1 := hl.lps; have e2 := hl.lvb
    by_cases hlt : i < obs.length
    · simp only [List.getElem_append_left (show i < ps.length by omega), List.getElem_append_left (show i < vb.length by omega), List.getElem_append_left hlt]
      have hm : ps[i] ∈ ps := List.getElem_mem _
      refine (hl.each i hlt).keep g (fun hx => ?_) fun j hj hx => ?_
      · have := d4 _ hm
        simp only [List.mem_cons] at hx
        rcases hx with hx | hx | hx | hx
        · exact hpo (hx ▸ hown _ (.inl hm))
        · exact this.1 hx
        · exact this.2.1 hx
        · exact this.2.2 hx
      · have hf : j ∈ vb.flatten := List.mem_flatten.2 ⟨_, List.getElem_mem _, hj⟩
        have := d5 _ hf
        simp only [List.mem_cons] at hx
        rcases hx with hx | hx | hx | hx
        · exact hpo (hx ▸ hown _ (.inr hf))
        · exact this.1 hx
        · exact this.2.1 hx
        · exact this.2.2 hx
    · have : i = obs.length := by simp at hi; omega
      subst this
      simp only [List.getElem_append_right (show ps.length ≤ obs.length by omega), List.getElem_append_right (show vb.length ≤ obs.length by omega), List.getElem_append_right (Nat.le_refl obs.length), List.getElem_singleton]
      exact ob
  · have := g.n
    simp only [List.mem_cons, List.mem_append, List.flatten_append, List.flatten_cons, List.flatten_nil, List.append_nil, List.not_mem_nil, or_false] at hi
    have k := fun hi => Nat.lt_of_lt_of_le (hl.lt i hi) this
    rcases hi with rfl | rfl | (hi | hi | hi) | hi | hi
    · exact k (by simp)
    · exact k (by simp)
    · exact all.lt _ hi
    · exact k (by simp [hi])
    · exact Nat.lt_of_lt_of_le (hi ▸ plt) this
    · exact k (by rw [List.mem_cons, List.mem_cons, List.mem_append]; exact .inr (.inr (.inr hi)))
    · exact Nat.lt_of_lt_of_le (hbl i hi) this

/-- add -/
theorem c54 {p : Nat} {o : Ob} {sv : Value} {bs : List Nat} (hl : HeapR h b obs ps vb sa Ba r M cl) (hp : h.get p = some (.cells (o.cells sv) 46 0)) (hs : Sl 2 h sv (isV o.vals) bs) (plt : p < h.n) (hpo : p ∉ HeapR.own b r Ba ps vb)
    (hbs : ∀ i, i ∈ bs → i ∉ HeapR.own b r Ba ps vb) (hpb : p ∉ bs) :
    C heapE 54 [ptrV b, ptrV p] h fun v h' => v = .tuple #[iV (if obs.length < 1024 then (obs.length : Int) + 1 else 0), iV (if obs.length < 1024 then 0 else 11)] ∧
      (obs.length < 1024 → (∃ sa' Ba' M' cl', HeapR h' b (obs ++ [{ o with nth := cnt o.maker obs }]) (ps ++ [p]) (vb ++ [bs]) sa' Ba' r M' cl' ∧ ∀ i, i ∈ Ba' → i ∈ Ba ∨ h.n ≤ i) ∧ ExtB (p :: b :: r :: Ba) h h') ∧
      (1024 ≤ obs.length → h' = h) := by
  obtain ⟨a, rfl⟩ := hl.all.val
  have ht := hl.top
  have hr := hl.made
  have hlen : (ps.map ptrV).length = obs.length := by simp [hl.lps]
  obtain ⟨d1, d2, d3, d4, d5⟩ := hl.dis
  have hbp : p ≠ b := fun e => hpo (by simp [HeapR.own, e])
  have hrp : p ≠ r := fun e => hpo (by simp [HeapR.own, e])
  have hpB : p ∉ Ba := fun e => hpo (by simp [HeapR.own, e])
  have hblt : b < h.n := hl.lt b (by simp)
  have hrlt : r < h.n := hl.lt r (by simp)
  have hcnt := cnt_le o.maker obs
  have hgc := hl.count o.maker
  refine c_enter (fu := Try.f54) (by kernel_rfl) rfl ?_
  refine w_seq ?_
  refine w_region (by kernel_rfl) ?_
  refine o_assign gn rfl rfl ?_
  refine o_assign gn rfl rfl ?_
  refine wl_end ?_
  refine w_seq ?_
  refine w_seq ?_
  refine w_region (by kernel_rfl) ?_
  refine o_move gn rfl rfl ?_
  refine o_nilCheck gn rfl rfl ?_
  refine o_fieldAddr (off := 0) gn rfl rfl (by kernel_rfl) ?_
  refine o_load gn rfl rfl (by kernel_rfl) (by assumption) rfl ?_
  refine o_len gn rfl rfl (by kernel_rfl) ?_
  refine o_geq gn rfl rfl rfl ?_
  refine wl_end ?_
  refine w_cond rfl (fun hb => ?_) fun hb => ?_
  · skip
    refine w_seq ?_
    refine w_region (by kernel_rfl) ?_
    refine o_assign gn rfl rfl ?_
    refine o_assign gn rfl rfl ?_
    refine wl_end ?_
    refine w_ret ?_
    refine ⟨.inl rfl, _, rfl, ?_⟩
    have hge : 1024 ≤ obs.length := by have := hl.lps; simp at hb; omega
    refine ⟨?_, fun hx => absurd hx (by omega), fun _ => rfl⟩
    rw [if_neg (by omega), if_neg (by omega)]; rfl
  · skip
    have hlt : obs.length < 1024 := by have := hl.lps; simp at hb; omega
    refine w_skip ?_
    refine w_seq ?_
    refine w_seq ?_
    refine w_region (by kernel_rfl) ?_
    refine o_move gn rfl rfl ?_
    refine o_nilCheck gn rfl rfl ?_
    refine o_fieldAddr (off := 1) gn rfl rfl (by kernel_rfl) ?_
    refine o_load gn rfl rfl (by kernel_rfl) (by assumption) rfl ?_
    refine o_eqm (kt := 3) (et := 3) gn rfl rfl rfl (by kernel_rfl) ?_
    refine wl_end ?_
    refine w_cond rfl (fun hb => ?_) fun hb => ?_
    · skip
      refine w_region (by kernel_rfl) ?_
      refine o_move gn rfl rfl ?_
      cases hb
    · skip
      refine w_skip ?_
      refine w_seq ?_
      refine w_draw [(0, []), (1, []), (2, []), (3, []), (4, []), (5, []), (6, []), (7, []), (8, []), (9, []), (10, []), (11, []), (12, [])] (by kernel_rfl) (by kernel_rfl) (by kernel_rfl) (by kernel_rfl) ?_
      refine o_move gn rfl rfl ?_
      refine o_move gn rfl rfl ?_
      refine o_nilCheck gn rfl rfl ?_
      refine o_fieldAddr (off := 1) gn rfl rfl (by kernel_rfl) ?_
      refine o_load gn rfl rfl (by kernel_rfl) (by assumption) rfl ?_
      refine o_move gn rfl rfl ?_
      refine o_nilCheck gn rfl rfl ?_
      refine o_fieldAddr (off := 4) gn rfl rfl (by kernel_rfl) ?_
      refine o_load gn rfl rfl (by kernel_rfl) (by assumption) rfl ?_
      refine o_lookup (zv := .int .i64 0) mt gn rfl rfl rfl (by assumption) (by kernel_rfl) ?_
      rw [hgc]
      refine o_nilCheck gn rfl rfl ?_
      refine o_fieldAddr (off := 5) gn rfl rfl (by kernel_rfl) ?_
      refine o_store gn rfl rfl rfl (by kernel_rfl) hp (by decide) (by simp [Ob.cells]) ag0 ?_
      refine wl_at (fun h1 => h1.get b = h.get b ∧ h1.get p = some (.cells (Ob.cells { o with nth := cnt o.maker obs } sv) 46 0) ∧ h1.get r = h.get r ∧ ExtB [p] h h1 ∧ h1.n = h.n) ⟨?_, ?_, ?_, ?_, ?_⟩ fun h1 ⟨f1, f2, f3, x1, n1⟩ => ?_
      · rw [Hp.get_put, if_neg hbp]
      · exact Hp.get_put_self _ _ _
      · rw [Hp.get_put, if_neg hrp]
      · exact ExtB.put _ _ _
      · exact Hp.n_put _ _ _
      rw [ht] at f1
      rw [hr] at f3
      refine wl_end ?_
      refine w_seq ?_
      refine w_draw [(0, []), (1, []), (2, []), (3, []), (4, []), (5, []), (6, []), (7, []), (8, []), (9, []), (10, [])] (by kernel_rfl) (by kernel_rfl) (by kernel_rfl) (by kernel_rfl) ?_
      refine o_move gn rfl rfl ?_
      refine o_nilCheck gn rfl rfl ?_
      refine o_fieldAddr (off := 1) gn rfl rfl (by kernel_rfl) ?_
      refine o_load gn rfl rfl (by kernel_rfl) (by assumption) rfl ?_
      refine o_move gn rfl rfl ?_
      refine o_nilCheck gn rfl rfl ?_
      refine o_fieldAddr (off := 4) gn rfl rfl (by kernel_rfl) ?_
      refine o_load gn rfl rfl (by kernel_rfl) (by assumption) rfl ?_
      refine o_lookup (zv := .int .i64 0) mt gn rfl rfl rfl (by assumption) (by kernel_rfl) ?_
      rw [hgc]
      refine o_add gn rfl rfl rfl (by omega) (by omega) ?_
      refine o_mapUpdate mt gn rfl rfl rfl (by assumption) ag0 ?_
      refine wl_at (fun h2 => h2.get b = h.get b ∧ h2.get p = some (.cells (Ob.cells { o with nth := cnt o.maker obs } sv) 46 0) ∧ h2.get r = some (.map ((putI M o.maker (iV (cnt o.maker obs + 1)) cl).1.map ent) (putI M o.maker (iV (cnt o.maker obs + 1)) cl).2) ∧ ExtB [p, r] h h2 ∧ h2.n = h.n) ⟨?_, ?_, ?_, ?_, ?_⟩ fun h2 ⟨f4, f5, f6, x2, n2⟩ => ?_
      · rw [Hp.get_put, if_neg (fun e => d1 e.symm), f1, ht]
      · rw [Hp.get_put, if_neg (fun e => hrp e.symm), f2]
      · exact Hp.get_put_self _ _ _
      · exact (x1.mono (by simp)).trans ((ExtB.put _ _ _).mono (by simp))
      · rw [Hp.n_put, n1]
      rw [ht] at f4
      refine wl_end ?_
      refine w_seq ?_
      refine w_region (by kernel_rfl) ?_
      refine o_move gn rfl rfl ?_
      refine o_move gn rfl rfl ?_
      refine o_nilCheck gn rfl rfl ?_
      refine o_fieldAddr (off := 0) gn rfl rfl (by kernel_rfl) ?_
      refine o_load gn rfl rfl (by kernel_rfl) (by assumption) rfl ?_
      refine o_move gn rfl rfl ?_
      refine o_buildSlice (e := 99) (z := 0) (zv := .pointer none) [(0, _)] gn rfl (by kernel_rfl) (by kernel_rfl) (by kernel_rfl) (by kernel_rfl) rfl rfl ?_
      have x3 : Ext h2 (h2.alloc (.cells [ptrV p] 99 0)) := Ext.alloc _ _
      have x3' := (x2.trans (x3.b _))
      obtain ⟨v', h4, Ba', a1, a2, a3, a4⟩ := append_own el99 (hl.all.keep x3' (fun i hi hj => by simp at hj; rcases hj with rfl | rfl; exact hpB hi; exact d3 hi)) ((Sl.new (h := h2) (e := 99) (vs := [ptrV p]) (m := 0) (.inl rfl)).src rfl) (by simp; have := hl.lps; omega)
      obtain ⟨a9, rfl⟩ := a2.val
      have f7 : h4.get b = some (.cells [.slice a (ps.map ptrV).length (ps.map ptrV).length, .map (some r)] 87 0) := (a3.get b (by rw [Hp.n_alloc]; omega) d2).trans ((x3.get b (by omega)).trans f4)
      refine o_append gn rfl rfl rfl a1 ag0 ?_
      refine o_nilCheck gn rfl rfl ?_
      refine o_fieldAddr (off := 0) gn rfl rfl (by kernel_rfl) ?_
      refine o_store gn rfl rfl rfl (by kernel_rfl) f7 (by decide) (by simp) ag0 ?_
      refine wl_end ?_
      refine w_seq ?_
      refine w_region (by kernel_rfl) ?_
      refine o_move gn rfl rfl ?_
      refine o_nilCheck gn rfl rfl ?_
      refine o_fieldAddr (off := 0) gn rfl rfl (by kernel_rfl) ?_
      refine o_load gn rfl rfl (by kernel_rfl) (Hp.get_put_self _ _ _) rfl ?_
      refine o_len gn rfl rfl (by kernel_rfl) ?_
      refine o_assign gn rfl rfl ?_
      refine o_assign gn rfl rfl ?_
      refine wl_end ?_
      refine w_ret ?_
      refine ⟨.inl rfl, _, rfl, ?_⟩
      have e5 := ExtB.put h4 b
      have n3 := x3'.n
      have n4 := a3.n
      refine ⟨by rw [if_pos hlt, if_pos hlt]; simp [oneOf, hl.lps], fun _ => ⟨⟨_, Ba', (putI M o.maker (iV (cnt o.maker obs + 1)) cl).1, (putI M o.maker (iV (cnt o.maker obs + 1)) cl).2, HeapR.push hl plt hpo hbs hs.lt hpb hs.nodup ?g (Hp.get_put_self _ _ _) ?all ?hBa ?made ?count ?ob, ?hBa⟩, ?g⟩, fun hx => absurd hx (by omega)⟩
      case g => exact ((x3'.mono (bs := p :: b :: r :: Ba) (fun i hi _ => by simp at hi; rcases hi with rfl | rfl <;> simp)).trans (a3.mono (fun i hi _ => by simp [hi]))).trans ((e5 _).mono (by simp))
      case all => rw [List.map_append]; exact a2.keep (e5 _) (fun i hi hj => by simp at hj; subst hj; rcases a4 i hi with h1 | h1; exact d2 h1; rw [Hp.n_alloc] at h1; omega)
      case hBa => intro i hi; rcases a4 i hi with h1 | h1; exact .inl h1; right; rw [h1, Hp.n_alloc]; omega
      case made => rw [Hp.get_put, if_neg d1, a3.get r (by rw [Hp.n_alloc]; omega) d3, x3.get r (by omega)]; exact f6
      case count =>
        intro k
        rw [get_put, cnt_append]
        by_cases hk : k = o.maker
        · subst hk; simp
        · rw [if_neg hk, hl.count k, if_neg (fun e => hk e.symm)]; simp
      case ob => exact ⟨⟨sv, by rw [Hp.get_put, if_neg (fun e => hbp e.symm), a3.get p (by rw [Hp.n_alloc]; omega) hpB, x3.get p (by omega)]; exact f5, hs.keep (((x3'.mono (bs := p :: b :: r :: Ba) (fun i hi _ => by simp at hi; rcases hi with rfl | rfl <;> simp)).trans (a3.mono (fun i hi _ => by simp [hi]))).trans ((e5 _).mono (by simp))) (fun i hi hj => by
          simp only [List.mem_cons] at hj
          rcases hj with rfl | hj
          · exact hpb hi
          · exact hbs i hi (by simp only [HeapR.own, List.mem_cons, List.mem_append]; rcases hj with h1 | h1 | h1 <;> simp [h1]))⟩, by rw [Hp.n_put]; omega, hpb⟩

end

end Go.Proofs.Ytkmbfjdmbdpflaa

