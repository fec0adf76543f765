/- Chapter 8, the program's side: Make, Object. Conditions: none. -/
import Derived.Test.YtkmbfjdmbdpflaaHeapB
namespace Go.Proofs.Ytkmbfjdmbdpflaa
open Go.X

/-- A heap, and the blocks that are its own. -/
def HAt (h : Hp) (b : Nat) (obs : List Ob) (own : List Nat) : Prop := ∃ ps vb sa Ba r M cl, HeapR h b obs ps vb sa Ba r M cl ∧ own = HeapR.own b r Ba ps vb

theorem HAt.keep {h h' : Hp} {b : Nat} {obs : List Ob} {own cs : List Nat} (x : HAt h b obs own) (g : ExtB cs h h') (hd : ∀ i, i ∈ own → i ∉ cs) : HAt h' b obs own := by
  obtain ⟨ps, vb, sa, Ba, r, M, cl, x, rfl⟩ := x
  exact ⟨ps, vb, sa, Ba, r, M, cl, x.keep g hd, rfl⟩
theorem HAt.ext {h h' : Hp} {b : Nat} {obs : List Ob} {own : List Nat} (x : HAt h b obs own) (g : Ext h h') : HAt h' b obs own := x.keep (g.b []) (by simp)
theorem HAt.lt {h : Hp} {b : Nat} {obs : List Ob} {own : List Nat} (x : HAt h b obs own) : ∀ i, i ∈ own → i < h.n := by
  obtain ⟨ps, vb, sa, Ba, r, M, cl, x, rfl⟩ := x
  exact x.lt

/-- An object laid. -/
def layO (obs : List Ob) (o : Ob) : List Ob := if obs.length < 1024 then obs ++ [{ o with nth := cnt o.maker obs }] else obs
def layN (obs : List Ob) : Int := if obs.length < 1024 then (obs.length : Int) + 1 else 0
def layE (obs : List Ob) : Int := if obs.length < 1024 then 0 else 11

theorem c54' {h h0 : Hp} {b p : Nat} {obs : List Ob} {own : List Nat} {o : Ob} {sv : Value} {bs : List Nat} (hl : HAt h0 b obs own) (x : Ext h0 h) (hp : h.get p = some (.cells (o.cells sv) 46 0)) (hs : Sl 2 h sv (isV o.vals) bs) (plt : p < h.n) (hp0 : h0.n ≤ p)
    (hbs : ∀ i, i ∈ bs → h0.n ≤ i) (hpb : p ∉ bs) :
    C heapE 54 [ptrV b, ptrV p] h fun v h' => v = .tuple #[iV (layN obs), iV (layE obs)] ∧ ∃ own', HAt h' b (layO obs o) own' ∧ (∀ i, i ∈ own' → i ∈ own ∨ h0.n ≤ i) ∧ ExtB own h0 h' := by
  have hlt := hl.lt
  obtain ⟨ps, vb, sa, Ba, r, M, cl, hl, rfl⟩ := hl
  refine C.mono (c54 (hl.ext x) hp hs plt (fun hi => by have := hlt _ hi; omega) (fun i hi hj => by have := hbs i hi; have := hlt _ hj; omega) hpb) ?_
  rintro v h' ⟨rfl, q1, q2⟩
  refine ⟨rfl, ?_⟩
  by_cases hc : obs.length < 1024
  · obtain ⟨⟨sa', Ba', M', cl', k1, k2⟩, k3⟩ := q1 hc
    refine ⟨_, ⟨_, _, _, _, _, _, _, by rw [layO, if_pos hc]; exact k1, rfl⟩, fun i hi => ?_, ?_⟩
    · have n0 := x.n
      simp only [HeapR.own, List.mem_cons, List.mem_append, List.flatten_append, List.flatten_cons, List.flatten_nil, List.append_nil, List.not_mem_nil, or_false] at hi ⊢
      rcases hi with rfl | rfl | (hi | hi | hi) | hi | hi
      · simp
      · simp
      · rcases k2 i hi with h1 | h1
        · simp [h1]
        · right; omega
      · simp [hi]
      · right; omega
      · exact .inl (.inr (.inr (.inr hi)))
      · exact .inr (hbs i hi)
    · refine ⟨Nat.le_trans x.n k3.n, fun i hi hn => (k3.get i (Nat.lt_of_lt_of_le hi x.n) fun hm => ?_).trans (x.get i hi)⟩
      simp only [List.mem_cons] at hm
      rcases hm with rfl | rfl | rfl | hm
      · exact absurd hi (by omega)
      · exact hn (by simp [HeapR.own])
      · exact hn (by simp [HeapR.own])
      · exact hn (by simp [HeapR.own, hm])
  · rw [q2 (by omega)]
    exact ⟨_, ⟨_, _, _, _, _, _, _, by rw [layO, if_neg hc]; exact hl.ext x, rfl⟩, fun i hi => .inl hi, x.b _⟩

section
variable {h h' : Hp} {b : Nat} {obs : List Ob} {own : List Nat}

theorem rep_isV : ∀ m : Nat, repeatCells [Value.int .i64 0] m = isV (List.replicate m 0)
  | 0 => rfl
  | m + 1 => by rw [List.replicate_succ]; show _ :: repeatCells _ m = _ :: _; rw [rep_isV m]

/-- What Make does not take. -/
def mkBad (kind size : Int) : Prop := kind < 1 ∨ 3 < kind ∨ size < 0 ∨ 64 < size ∨ (kind = 3 ∧ size ≠ 1)
instance (kind size : Int) : Decidable (mkBad kind size) := by unfold mkBad; infer_instance

def mkOb (kind of size site by' : Int) : Ob := ⟨kind, of, List.replicate size.toNat 0, site, by', 0⟩
def mkO (obs : List Ob) (kind of size site by' : Int) : List Ob := if mkBad kind size then obs else layO obs (mkOb kind of size site by')
def mkN (obs : List Ob) (kind size : Int) : Int := if mkBad kind size then 0 else layN obs
def mkE (obs : List Ob) (kind size : Int) : Int := if mkBad kind size then 2 else layE obs

/-- Make -/
theorem c20 {kind of size site by' : Int} (hl : HAt h b obs own) :
    C heapE 20 [ptrV b, iV kind, iV of, iV size, iV site, iV by'] h fun v h' => v = .tuple #[iV (mkN obs kind size), iV (mkE obs kind size)] ∧ ∃ own', HAt h' b (mkO obs kind of size site by') own' ∧ (∀ i, i ∈ own' → i ∈ own ∨ h.n ≤ i) ∧ ExtB own h h' := by
  refine c_enter (fu := Try.f20) (by kernel_rfl) rfl ?_
  refine w_seq ?_
  refine w_region (by kernel_rfl) ?_
  refine o_assign gn rfl rfl ?_
  refine o_assign gn rfl rfl ?_
  refine wl_end ?_
  refine w_seq ?_
  refine w_block ?_
  refine w_seq ?_
  refine w_region (by kernel_rfl) ?_
  refine o_move gn rfl rfl ?_
  refine o_eqp gn rfl rfl rfl (by kernel_rfl) ?_
  refine o_assign gn rfl rfl ?_
  refine wl_end ?_
  refine w_cond rfl (fun hb => ?_) fun hb => ?_
  · skip
    refine w_seq ?_
    refine w_region (by kernel_rfl) ?_
    refine o_assign gn rfl rfl ?_
    refine o_assign gn rfl rfl ?_
    refine wl_end ?_
    refine w_ret ?_
    refine ⟨.inl rfl, _, rfl, ?_⟩
    cases hb
  · skip
    refine w_seq ?_
    refine w_region (by kernel_rfl) ?_
    refine o_move gn rfl rfl ?_
    refine o_lss gn rfl rfl rfl ?_
    refine o_move gn rfl rfl ?_
    refine o_or (n := 2) rfl rfl rfl gn rfl (fun hb => by
        refine o_move (gy rfl rfl rfl hb) rfl rfl ?_
        refine o_gtr (gy rfl rfl rfl hb) rfl rfl rfl ?_
        exact wl_end ⟨rfl, rfl, 2, rfl, rfl⟩) ?_
    refine o_move gn rfl rfl ?_
    refine o_or (n := 2) rfl rfl rfl gn rfl (fun hb => by
        refine o_move (gy rfl rfl rfl hb) rfl rfl ?_
        refine o_lss (gy rfl rfl rfl hb) rfl rfl rfl ?_
        exact wl_end ⟨rfl, rfl, 2, rfl, rfl⟩) ?_
    refine o_move gn rfl rfl ?_
    refine o_or (n := 2) rfl rfl rfl gn rfl (fun hb => by
        refine o_move (gy rfl rfl rfl hb) rfl rfl ?_
        refine o_gtr (gy rfl rfl rfl hb) rfl rfl rfl ?_
        exact wl_end ⟨rfl, rfl, 2, rfl, rfl⟩) ?_
    refine o_move gn rfl rfl ?_
    refine o_or (n := 6) rfl rfl rfl gn rfl (fun hb => by
        refine o_move (gy rfl rfl rfl hb) rfl rfl ?_
        refine o_eqi (gy rfl rfl rfl hb) rfl rfl rfl ?_
        refine o_move (gy rfl rfl rfl hb) rfl rfl ?_
        refine o_and (n := 2) rfl rfl rfl (gy rfl rfl rfl hb) rfl (fun hb => by
            refine o_move (gy rfl rfl rfl hb) rfl rfl ?_
            refine o_nei (gy rfl rfl rfl hb) rfl rfl rfl ?_
            exact wl_end ⟨rfl, rfl, 2, rfl, rfl⟩) ?_
        exact wl_end ⟨rfl, rfl, 4, rfl, rfl⟩) ?_
    refine o_assign gn rfl rfl ?_
    refine wl_end ?_
    refine w_cond rfl (fun hb => ?_) fun hb => ?_
    · skip
      refine w_seq ?_
      refine w_region (by kernel_rfl) ?_
      refine o_assign gn rfl rfl ?_
      refine o_assign gn rfl rfl ?_
      refine wl_end ?_
      refine w_ret ?_
      refine ⟨.inl rfl, _, rfl, ?_⟩
      have hbad : mkBad kind size := by unfold mkBad; simp at hb; omega
      exact ⟨by rw [mkN, mkE, if_pos hbad, if_pos hbad]; rfl, own, by rw [mkO, if_pos hbad]; exact hl, fun i hi => .inl hi, .refl _ _⟩
    · skip
      have hbad : ¬ mkBad kind size := by unfold mkBad; simp at hb; omega
      have hbad' := hbad
      unfold mkBad at hbad'
      refine w_skip ?_
      refine w_seq ?_
      refine w_region (by kernel_rfl) ?_
      refine o_move gn rfl rfl ?_
      refine o_move gn rfl rfl ?_
      refine o_move gn rfl rfl ?_
      refine o_move gn rfl rfl ?_
      refine o_makeSlice (e := 2) (z := 0) (zv := .int .i64 0) (by' := 8) gn rfl rfl rfl (by kernel_rfl) (by kernel_rfl) (by kernel_rfl) (by kernel_rfl) (by decide) (by omega) (by omega) (by omega) (by omega) ?_
      refine o_move gn rfl rfl ?_
      refine o_move gn rfl rfl ?_
      refine o_build (zv := .agg #[.int .i64 0, .int .i64 0, .slice none 0 0, .int .i64 0, .int .i64 0, .int .i64 0]) (pl := [(0, 1), (1, 1), (2, 1), (3, 1), (4, 1), (5, 1)]) [(0, _), (1, _), (2, _), (3, _), (4, _)] gn rfl (by kernel_rfl) (by kernel_rfl) rfl rfl ?_
      refine o_box gn rfl rfl ?_
      refine wl_at (fun h2 => h2.get (h.n + 1) = some (.cells ((mkOb kind of size site by').cells (.slice (some ⟨h.n, 0, none⟩) size.toNat size.toNat)) 46 0) ∧ Sl 2 h2 (.slice (some ⟨h.n, 0, none⟩) size.toNat size.toNat) (isV (List.replicate size.toNat 0)) [h.n] ∧ Ext h h2 ∧ h2.n = h.n + 2) ⟨?_, ?_, ?_, ?_⟩ fun h2 ⟨f1, f2, x2, n2⟩ => ?_
      · rw [Hp.get_alloc, if_pos (Hp.n_alloc _ _)]; rfl
      · refine Sl.ext ?_ (Ext.alloc _ _)
        have := Sl.new (h := h) (e := 2) (vs := isV (List.replicate size.toNat 0)) (m := 0) (.inl rfl)
        show Sl 2 (h.alloc (.cells (repeatCells [.int .i64 0] size.toNat) 2 0)) _ _ _
        rw [rep_isV]
        simpa using this
      · exact (Ext.alloc _ _).trans (Ext.alloc _ _)
      · rw [Hp.n_alloc, Hp.n_alloc]
      rw [Hp.n_alloc]
      refine o_call [_, _] gn rfl rfl (by kernel_rfl) rfl (C.mono (c54' (o := mkOb kind of size site by') hl x2 f1 f2 (by omega) (by omega) (by simp) (by simp)) ?_)
      rintro v h' ⟨rfl, own', q1, q2, q3⟩
      refine ⟨ag0, ?_⟩
      refine o_extract gn rfl rfl rfl ?_
      refine o_extract gn rfl rfl rfl ?_
      refine o_assign gn rfl rfl ?_
      refine o_assign gn rfl rfl ?_
      refine wl_end ?_
      refine w_ret ?_
      refine ⟨.inl rfl, _, rfl, ?_⟩
      exact ⟨by rw [mkN, mkE, if_neg hbad, if_neg hbad]; rfl, own', by rw [mkO, if_neg hbad]; exact q1, q2, q3⟩

/-- An object by its number. -/
def obAt (obs : List Ob) (id : Int) : Option Ob := if 1 ≤ id then obs[(id - 1).toNat]? else none

theorem HeapR.at' {ps : List Nat} {vb : List (List Nat)} {sa : Value} {Ba : List Nat} {r : Nat} {M : Ms} {cl : Nat} (hl : HeapR h b obs ps vb sa Ba r M cl) (id : Int) :
    (obAt obs id = none ∧ atV ps id = .pointer none) ∨ ∃ p o bs, obAt obs id = some o ∧ atV ps id = ptrV p ∧ ObAt h p o bs ∧ o ∈ obs ∧ p ∈ ps ∧ (∀ i, i ∈ bs → i ∈ vb.flatten) := by
  have e1 := hl.lps; have e2 := hl.lvb
  unfold obAt atV
  by_cases hr : 1 ≤ id ∧ id ≤ ps.length
  · right
    have hlt : (id - 1).toNat < obs.length := by omega
    refine ⟨ps[(id - 1).toNat], obs[(id - 1).toNat], vb[(id - 1).toNat], by rw [if_pos hr.1, List.getElem?_eq_getElem hlt], ?_, hl.each _ hlt, List.getElem_mem _, List.getElem_mem _, fun i hi => List.mem_flatten.2 ⟨_, List.getElem_mem _, hi⟩⟩
    rw [if_pos hr, List.getElem?_eq_getElem (show (id - 1).toNat < ps.length by omega)]; rfl
  · left
    refine ⟨?_, by rw [if_neg hr]⟩
    split
    · exact List.getElem?_eq_none (by omega)
    · rfl

def obZ : List Value := [.int .i64 0, .int .i64 0, .slice none 0 0, .int .i64 0, .int .i64 0, .int .i64 0]

/-- Object -/
theorem c21 {id : Int} (hl : HAt h b obs own) (hn : obs.length ≤ 1024) (hv : ∀ o, o ∈ obs → o.vals.length ≤ 100000) :
    C heapE 21 [ptrV b, iV id] h fun v h' => Ext h h' ∧ match obAt obs id with
      | some o => ∃ sv bs, v = .tuple #[.agg (o.cells sv).toArray, iV 0] ∧ Sl 2 h' sv (isV o.vals) bs ∧ ∀ i, i ∈ bs → h.n ≤ i
      | none => v = .tuple #[.agg obZ.toArray, iV 13] := by
  obtain ⟨ps, vb, sa, Ba, r, M, cl, hl, rfl⟩ := hl
  have e1 := hl.lps
  have x1 := Ext.alloc h (.cells obZ 46 0)
  have hat := hl.at' id
  refine c_enterH (fu := Try.f21) (by kernel_rfl) rfl ?_
  refine w_seq ?_
  refine w_region (by kernel_rfl) ?_
  refine o_alloc (zv := .agg #[.int .i64 0, .int .i64 0, .slice none 0 0, .int .i64 0, .int .i64 0, .int .i64 0]) gn rfl (by kernel_rfl) ?_
  refine o_assign gn rfl rfl ?_
  refine wl_end ?_
  refine w_seq ?_
  refine w_region (by kernel_rfl) ?_
  refine o_move gn rfl rfl ?_
  refine o_move gn rfl rfl ?_
  refine o_call [_, _] gn rfl rfl (by kernel_rfl) rfl (c_pure (c55 (hl.ext x1) (by omega)) ⟨ag0, ?_⟩)
  obtain ⟨ao, ha⟩ : ∃ ao, atV ps id = .pointer ao := by rcases hat with ⟨_, h2⟩ | ⟨p, o, bs, _, h2, _⟩ <;> exact ⟨_, h2⟩
  rw [ha] at hat ⊢
  refine o_assign gn rfl rfl ?_
  refine wl_end ?_
  refine w_block ?_
  refine w_seq ?_
  refine w_region (by kernel_rfl) ?_
  refine o_move gn rfl rfl ?_
  refine o_eqp gn rfl rfl rfl (by kernel_rfl) ?_
  refine o_assign gn rfl rfl ?_
  refine wl_end ?_
  refine w_cond rfl (fun hb => ?_) fun hb => ?_
  · skip
    refine w_seq ?_
    refine w_region (by kernel_rfl) ?_
    cases hb
  · skip
    refine w_seq ?_
    refine w_region (by kernel_rfl) ?_
    refine o_move gn rfl rfl ?_
    refine o_eqp gn rfl rfl rfl (by kernel_rfl) ?_
    refine o_assign gn rfl rfl ?_
    refine wl_end ?_
    refine w_cond rfl (fun hb => ?_) fun hb => ?_
    · skip
      refine w_seq ?_
      refine w_region (by kernel_rfl) ?_
      have hnone : obAt obs id = none := by
        simp only [Option.isNone_iff_eq_none] at hb; subst hb
        rcases hat with ⟨h1, _⟩ | ⟨p, o, bs, _, h2, _⟩
        · exact h1
        · cases h2
      refine o_build (zv := .agg #[.int .i64 0, .int .i64 0, .slice none 0 0, .int .i64 0, .int .i64 0, .int .i64 0]) (pl := [(0, 1), (1, 1), (2, 1), (3, 1), (4, 1), (5, 1)]) [] gn rfl (by kernel_rfl) (by kernel_rfl) rfl rfl ?_
      refine o_storeA (n := 6) gn rfl rfl rfl (by kernel_rfl) rfl (Hp.get_alloc_self _ _) (by decide) rfl ag0 ?_
      refine o_assign gn rfl rfl ?_
      refine wl_end ?_
      refine w_ret ?_
      refine ⟨.inl rfl, _, (resH_agg rfl (by kernel_rfl) (by kernel_rfl) (Hp.get_put_self _ _ _) rfl (resH_tmp rfl rfl)), ?_⟩
      rw [hnone]
      exact ⟨x1.of (ExtB.put _ _ _) (by simp), rfl⟩
    · skip
      refine w_seq ?_
      refine w_region (by kernel_rfl) ?_
      refine o_move gn rfl rfl ?_
      obtain ⟨p, o, bs, ho, h2, hob, hmem, _, _⟩ : ∃ p o bs, obAt obs id = some o ∧ Value.pointer ao = ptrV p ∧ ObAt h p o bs ∧ o ∈ obs ∧ p ∈ ps ∧ (∀ i, i ∈ bs → i ∈ vb.flatten) := by
        rcases hat with ⟨_, h2⟩ | h2
        · cases h2; cases hb
        · exact h2
      cases h2
      refine o_call [_] gn rfl rfl (by kernel_rfl) rfl (C.mono (c56 (hob.keep (x1.b []) (by simp) (by simp)) (hv o hmem)) ?_)
      rintro v h4 ⟨sv, bs', rfl, s4, x4, f4⟩
      obtain ⟨a4, rfl⟩ := s4.val
      have g4 := (x4.get h.n (by rw [Hp.n_alloc]; omega)).trans (Hp.get_alloc_self h _)
      refine ⟨ag0, ?_⟩
      refine o_storeA (n := 6) gn rfl rfl rfl (by kernel_rfl) rfl g4 (by decide) rfl ag0 ?_
      refine o_assign gn rfl rfl ?_
      refine wl_end ?_
      refine w_ret ?_
      refine ⟨.inl rfl, _, (resH_agg rfl (by kernel_rfl) (by kernel_rfl) (Hp.get_put_self _ _ _) rfl (resH_tmp rfl rfl)), ?_⟩
      rw [ho]
      exact ⟨(x1.trans x4).of (ExtB.put _ _ _) (by simp), _, bs', rfl, s4.keep (ExtB.put _ _ _) (fun i hi hj => by have := f4 i hi; rw [Hp.n_alloc] at this; simp at hj; omega), fun i hi => by have := f4 i hi; rw [Hp.n_alloc] at this; omega⟩

end

end Go.Proofs.Ytkmbfjdmbdpflaa

