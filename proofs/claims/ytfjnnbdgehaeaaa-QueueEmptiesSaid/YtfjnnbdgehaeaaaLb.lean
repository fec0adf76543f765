/- Chapter 7, the document's queue: Of, Put, Copy, Drop. Conditions: none. Chapter 7, the document's queue: First, Due, Next. Conditions: none. Chapter 7, the document's queue: Drop, Take. Conditions: none. Chapter 7, the document's queue: All. Conditions: none. Chapter 7, plainly: an entry that moves up or down leaves a heap. Conditions: none. Chapter 7, plainly: the program's queue and the document's have the same. Conditions: none. Chapter 7, plainly: both All and both Next answer the same. Conditions: none. Chapter 7, the law's same. Conditions: none. Chapter 7, the law's do. Conditions: none. Chapter 7: QueuePlays answers true. Conditions: how the acts lie. Chapter 7: the arguments of its laws, as X has them. Conditions: none. Chapter 7, plainly: what is taken at a time (for QueueTimes). Conditions: none. Chapter 7: QueueTimes answers true. Conditions: how the items and the times lie. Chapter 7, plainly: everything is taken, in All's order (for QueueEmpties). Conditions: none. Chapter 7: QueueEmpties answers true. Conditions: how the items and the tasks lie. Chapter 7: two pairs of queues, apart (for QueueCopies). Conditions: none. -/
import Derived.Test.YtfjnnbdgehaeaaaLa
import Derived.Test.YtfjnnbdgehaeaaaXd
import Derived.Test.YtfjnnbdgehaeaaaXc
namespace Go.Proofs.Ytfjnnbdgehaeaaa
open Go.X

/-- The document's queue. -/
def DA (h : Hp) (b : Nat) (L : List Itm) (own : List Nat) : Prop :=
  ∃ s B, h.get b = some (.cells [s] 45 0) ∧ SlN 30 2 h s (enI L) L.length B ∧ b < h.n ∧ b ∉ B ∧ own = b :: B

def posD (H : List Itm) (t : Int) : Int := if H.findIdx (fun x => decide (x.t = t)) < H.length then (H.findIdx (fun x => decide (x.t = t)) : Nat) else -1
theorem posD_some {H : List Itm} {t : Int} {i : Nat} (hi : i < H.length) (h1 : H[i]!.t = t) (h2 : ∀ j, j < i → H[j]!.t ≠ t) : posD H t = i := by
  have e : H.findIdx (fun x => decide (x.t = t)) = i := by
    rw [List.findIdx_eq hi]
    refine ⟨by have : H[i]! = H[i] := by simp [hi]
               rw [this] at h1; simp [h1], fun j hj => ?_⟩
    have := h2 j hj
    have e2 : H[j]! = H[j]'(by omega) := by simp [show j < H.length by omega]
    rw [e2] at this
    simpa using this
  rw [posD, e, if_pos hi]
theorem posD_none {H : List Itm} {t : Int} (h2 : ∀ j, j < H.length → H[j]!.t ≠ t) : posD H t = -1 := by
  have : ¬ H.findIdx (fun x => decide (x.t = t)) < H.length := by
    rw [List.findIdx_lt_length]
    rintro ⟨x, hx, ht⟩
    obtain ⟨j, hj, rfl⟩ := List.getElem_of_mem hx
    have := h2 j hj
    rw [show H[j]! = H[j] by simp [hj]] at this
    simp at ht
    exact this ht
  rw [posD, if_neg this]
theorem posD_lt {H : List Itm} {t : Int} (h : 0 ≤ posD H t) : (posD H t).toNat < H.length := by
  unfold posD at *
  split at h
  · rename_i h1
    rw [if_pos h1]; simpa using h1
  · omega

def putDE (L : List Itm) (y : Itm) : Int := if y.t < 0 ∨ y.d < 0 then 2 else if 0 ≤ posD L y.t then 7 else 0
def putD (L : List Itm) (y : Itm) : List Itm := if putDE L y = 0 then L ++ [y] else L
def drpDB (L : List Itm) (t : Int) : Bool := decide (0 ≤ posD L t)
def drpD (L : List Itm) (t : Int) : List Itm := if drpDB L t then L.take (posD L t).toNat ++ L.drop ((posD L t).toNat + 1) else L

theorem enI_cell {L : List Itm} {i : Nat} (h : i < L.length) (rest : List Value) : (enI L ++ rest)[i * 3]? = some (iV L[i]!.t) ∧ (enI L ++ rest)[i * 3 + 1]? = some (.bool L[i]!.f) ∧ (enI L ++ rest)[i * 3 + 2]? = some (iV L[i]!.d) := by
  have e := enI_cut h rest
  have g : ∀ j, j < 3 → (enI L ++ rest)[i * 3 + j]? = (itC L[i]!)[j]? := fun j hj => by
    rw [← e, List.getElem?_take, if_pos hj, List.getElem?_drop]
  exact ⟨g 0 (by omega), g 1 (by omega), g 2 (by omega)⟩

section
variable {h h' : Hp} {b q c p o : Nat} {L K : List Itm} {n t : Int} {ds B own : List Nat} {s sv : Value} {i k : Nat} {y : Itm}

theorem DA.keep (x : DA h b L own) (g : ExtB ds h h') (hd : ∀ i, i ∈ own → i ∉ ds) : DA h' b L own := by
  obtain ⟨s, B, x1, x2, x3, x4, rfl⟩ := x
  exact ⟨s, B, by rw [g.get b x3 (hd b (by simp))]; exact x1, x2.keep g fun i hi => hd i (by simp [hi]), Nat.lt_of_lt_of_le x3 g.n, x4, rfl⟩
theorem DA.ext (x : DA h b L own) (g : Ext h h') : DA h' b L own := x.keep (g.b []) (by simp)
theorem DA.lt (x : DA h b L own) : ∀ i, i ∈ own → i < h.n := by
  obtain ⟨s, B, x1, x2, x3, x4, rfl⟩ := x
  intro i hi
  rcases List.mem_cons.1 hi with rfl | hi
  · exact x3
  · exact x2.lt i hi

/-- Of -/
theorem c44 (x : DA h b L own) (hl : L.length ≤ 100000) : CP queE 44 [ptrV b, iV t] h (iV (posD L t)) := by
  obtain ⟨s, B, x1, x2, x3, x4, rfl⟩ := x
  obtain ⟨a, rfl⟩ := x2.val
  refine c_enter (fu := Try.f44) (by kernel_rfl) rfl ?_
  refine w_seq ?_
  refine w_region (by kernel_rfl) ?_
  refine o_assign gn rfl rfl ?_
  refine wl_end ?_
  refine w_seq ?_
  refine w_seq ?_
  refine w_region (by kernel_rfl) ?_
  refine o_assign gn rfl rfl ?_
  refine wl_end ?_
  refine w_block ?_
  refine w_weak [(0, ptrV b), (1, iV t), (5, iV (0 : Nat))] (by repeat (first | exact trivial | refine ⟨rfl, ?_⟩)) ?_
  refine w_loop (fun k l hh => ∃ i : Nat, i ≤ L.length ∧ k = L.length - i ∧ (∀ j, j < i → L[j]!.t ≠ t) ∧ l = [(0, ptrV b), (1, iV t), (5, iV (i : Nat))] ∧ hh = h) (n := L.length) ?_ fun k l hh hI => ?_
  · exact ⟨0, by omega, by omega, fun j hj => by omega, rfl, rfl⟩
  · obtain ⟨i, hi, rfl, hno, rfl, rfl⟩ := hI
    refine w_seq ?_
    refine w_seq ?_
    refine w_region (by kernel_rfl) ?_
    refine o_move gn rfl rfl ?_
    refine o_move gn rfl rfl ?_
    refine o_nilCheck gn rfl rfl ?_
    refine o_fieldAddr (off := 0) gn rfl rfl (by kernel_rfl) ?_
    refine o_load gn rfl rfl (by kernel_rfl) (by assumption) rfl ?_
    refine o_len gn rfl rfl (by kernel_rfl) ?_
    refine o_lss gn rfl rfl rfl ?_
    refine wl_end ?_
    refine w_cond rfl (fun hb => ?_) fun hb => ?_
    · skip
      have hlt : i < L.length := by simpa using hb
      obtain ⟨b1, m1, ea, hg1, _⟩ := x2.at (by omega)
      cases ea
      have t1 := (enI_cell hlt []).1
      rw [List.append_nil] at t1
      refine w_skip ?_
      refine w_seq ?_
      refine w_block ?_
      refine w_seq ?_
      refine w_region (by kernel_rfl) ?_
      refine o_move gn rfl rfl ?_
      refine o_nilCheck gn rfl rfl ?_
      refine o_fieldAddr (off := 0) gn rfl rfl (by kernel_rfl) ?_
      refine o_load gn rfl rfl (by kernel_rfl) (by assumption) rfl ?_
      refine o_move gn rfl rfl ?_
      refine o_indexAddr (zz := 3) gn rfl rfl rfl (by kernel_rfl) (by omega) (by omega) ?_
      rw [Int.toNat_natCast, Nat.zero_add]
      refine o_fieldAddr (off := 0) gn rfl rfl (by kernel_rfl) ?_
      refine o_load gn rfl rfl (by kernel_rfl) hg1 t1 ?_
      refine o_move gn rfl rfl ?_
      refine o_eqi gn rfl rfl rfl ?_
      refine wl_end ?_
      refine w_cond rfl (fun hb => ?_) fun hb => ?_
      · skip
        refine w_seq ?_
        refine w_region (by kernel_rfl) ?_
        refine o_move gn rfl rfl ?_
        refine o_assign gn rfl rfl ?_
        refine wl_end ?_
        refine w_ret ?_
        refine ⟨.inl rfl, _, rfl, ?_⟩
        have ht : L[i]!.t = t := by simpa using hb
        exact ⟨by rw [posD_some hlt ht hno]; rfl, rfl⟩
      · skip
        refine w_skip ?_
        refine w_region (by kernel_rfl) ?_
        refine o_move gn rfl rfl ?_
        refine o_add gn rfl rfl rfl (by omega) (by omega) ?_
        refine o_assign gn rfl rfl ?_
        refine wl_end ?_
        exact ⟨L.length - (i + 1), by omega, _, (by repeat (first | exact trivial | refine ⟨rfl, ?_⟩)), ⟨i + 1, by omega, rfl, fun j hji => by
          by_cases e : j = i
          · subst e; simpa using hb
          · exact hno j (by omega), rfl, rfl⟩⟩
    · skip
      refine w_exit ?_
      refine thn_exit ?_
      refine rnd_exit ?_
      refine blk_eq ?_
      refine w_seq ?_
      refine w_region (by kernel_rfl) ?_
      refine o_assign gn rfl rfl ?_
      refine wl_end ?_
      refine w_ret ?_
      refine ⟨.inl rfl, _, rfl, ?_⟩
      have hge : i = L.length := by simp at hb; omega
      exact ⟨by rw [posD_none (fun j hj => hno j (by omega))]; rfl, rfl⟩

/-- append to nil -/
theorem append_nil {w : Value} {xs : List Value} {m : Nat} (hw : SrcN 2 h w xs m) (hc : xs.all cellV = true) (hm : m ≤ 100000) :
    ∃ v' h' B', appendX queE h 22 22 (.slice none 0 0) w = some (v', h') ∧ SlN 30 2 h' v' xs m B' ∧ Ext h h' ∧ ∀ i, i ∈ B' → h.n ≤ i := by
  obtain ⟨v', h', B', a1, a2, a3, a4⟩ := appendS (E := queE) (t := 22) elI (.inl ⟨rfl, rfl, rfl, rfl⟩) hw hc (by omega)
  rw [List.nil_append, Nat.zero_add] at a2
  exact ⟨v', h', B', a1, a2, a3.nil, fun i hi => (a4 i hi).resolve_left (by simp)⟩

/-- Copy -/
theorem c19 (x : DA h b L own) (hl : L.length ≤ 100000) : C queE 19 [ptrV b] h fun v h' => ∃ b' own', v = ptrV b' ∧ DA h' b' L own' ∧ (∀ i, i ∈ own' → h.n ≤ i) ∧ Ext h h' := by
  obtain ⟨s, B, x1, x2, x3, x4, rfl⟩ := x
  obtain ⟨v2, h2, B2, ea, s2, e2, f2⟩ := append_nil x2.toC.src (enI_all L) hl
  obtain ⟨a2, rfl⟩ := s2.val
  refine c_enter (fu := Try.f19) (by kernel_rfl) rfl ?_
  refine w_seq ?_
  refine w_region (by kernel_rfl) ?_
  refine o_assign gn rfl rfl ?_
  refine wl_end ?_
  refine w_seq ?_
  refine w_region (by kernel_rfl) ?_
  refine o_move gn rfl rfl ?_
  refine o_nilCheck gn rfl rfl ?_
  refine o_fieldAddr (off := 0) gn rfl rfl (by kernel_rfl) ?_
  refine o_load gn rfl rfl (by kernel_rfl) x1 rfl ?_
  refine o_append gn rfl rfl rfl ea ag0 ?_
  refine o_build (zv := .agg #[.slice none 0 0]) (cs := #[.slice a2 L.length L.length]) (pl := [(0, 1)]) [(0, _)] gn rfl (by kernel_rfl) (by kernel_rfl) rfl rfl ?_
  refine o_box gn rfl rfl ?_
  refine o_assign gn rfl rfl ?_
  refine wl_end ?_
  refine w_ret ?_
  refine ⟨.inl rfl, _, rfl, ?_⟩
  have h2n : h2.n ∉ B2 := fun e => by have := s2.lt _ e; omega
  exact ⟨h2.n, h2.n :: B2, rfl, ⟨_, B2, Hp.get_alloc_self _ _, s2.ext (Ext.alloc _ _), by rw [Hp.n_alloc]; omega, h2n, rfl⟩, fun i hi => by
    rcases List.mem_cons.1 hi with rfl | hi
    · exact e2.n
    · exact f2 i hi, e2.trans (Ext.alloc _ _)⟩

theorem same_it (y : Itm) : sameV 20 (itV y) (itV y) = true := by
  show (sameV 19 (iV y.t) (iV y.t) && (sameV 19 (.bool y.f) (.bool y.f) && (sameV 19 (iV y.d) (iV y.d) && true))) = true
  have e : ∀ n : Int, sameV 19 (iV n) (iV n) = true := fun n => by simp [sameV, kindEq_refl]
  have e2 : sameV 19 (.bool y.f) (.bool y.f) = true := by simp [sameV]
  rw [e, e, e2]; rfl

/-- Put -/
theorem c28 (x : DA h b L own) (hl : L.length ≤ 99999) : C queE 28 [ptrV b, itV y] h fun v h' => v = iV (putDE L y) ∧
    ∃ own', DA h' b (putD L y) own' ∧ ExtB own h h' ∧ ∀ i, i ∈ own' → i ∈ own ∨ h.n ≤ i := by
  refine c_enter (fu := Try.f28) (by kernel_rfl) rfl ?_
  refine w_seq ?_
  refine w_region (by kernel_rfl) ?_
  refine o_box gn rfl rfl ?_
  refine wl_at (fun h2 => h2.get h.n = some (.cells [iV y.t, .bool y.f, iV y.d] 30 0) ∧ DA h2 b L own ∧ Ext h h2 ∧ h.n < h2.n) ⟨Hp.get_alloc_self _ _, x.ext (Ext.alloc _ _), Ext.alloc _ _, by rw [Hp.n_alloc]; omega⟩ fun h2 ⟨g1, xA, x2, n2⟩ => ?_
  refine o_assign gn rfl rfl ?_
  refine wl_end ?_
  refine w_seq ?_
  refine w_seq ?_
  refine w_region (by kernel_rfl) ?_
  refine o_fieldAddr (off := 0) gn rfl rfl (by kernel_rfl) ?_
  refine o_load gn rfl rfl (by kernel_rfl) (by assumption) rfl ?_
  refine o_lss gn rfl rfl rfl ?_
  refine o_move gn rfl rfl ?_
  refine o_or (n := 3) rfl rfl rfl gn rfl (fun hb => by
      refine o_fieldAddr (off := 2) (gy rfl rfl rfl hb) rfl rfl (by kernel_rfl) ?_
      refine o_load (gy rfl rfl rfl hb) rfl rfl (by kernel_rfl) (by assumption) rfl ?_
      refine o_lss (gy rfl rfl rfl hb) rfl rfl rfl ?_
      exact wl_end ⟨rfl, rfl, 3, rfl, rfl⟩) ?_
  refine wl_end ?_
  refine w_cond rfl (fun hb => ?_) fun hb => ?_
  · skip
    refine w_seq ?_
    refine w_region (by kernel_rfl) ?_
    refine o_assign gn rfl rfl ?_
    refine wl_end ?_
    refine w_ret ?_
    refine ⟨.inl rfl, _, rfl, ?_⟩
    have hbad : y.t < 0 ∨ y.d < 0 := by simpa using hb
    have e : putDE L y = 2 := by rw [putDE, if_pos hbad]
    have e0 : ¬ putDE L y = 0 := by rw [e]; decide
    exact ⟨by rw [e]; rfl, own, by rw [putD, if_neg e0]; exact xA, x2.b _, fun i hi => .inl hi⟩
  · skip
    have hok : ¬ (y.t < 0 ∨ y.d < 0) := by simp at hb; omega
    refine w_skip ?_
    refine w_seq ?_
    refine w_seq ?_
    refine w_region (by kernel_rfl) ?_
    refine o_move gn rfl rfl ?_
    refine o_fieldAddr (off := 0) gn rfl rfl (by kernel_rfl) ?_
    refine o_load gn rfl rfl (by kernel_rfl) (by assumption) rfl ?_
    refine o_call [_, _] gn rfl rfl (by kernel_rfl) rfl (c_pure (c44 xA (by omega)) ⟨ag0, ?_⟩)
    refine o_geq gn rfl rfl rfl ?_
    refine wl_end ?_
    refine w_cond rfl (fun hb => ?_) fun hb => ?_
    · skip
      refine w_seq ?_
      refine w_region (by kernel_rfl) ?_
      refine o_assign gn rfl rfl ?_
      refine wl_end ?_
      refine w_ret ?_
      refine ⟨.inl rfl, _, rfl, ?_⟩
      have e : putDE L y = 7 := by rw [putDE, if_neg hok, if_pos (by simpa using hb)]
      have e0 : ¬ putDE L y = 0 := by rw [e]; decide
      exact ⟨by rw [e]; rfl, own, by rw [putD, if_neg e0]; exact xA, x2.b _, fun i hi => .inl hi⟩
    · skip
      have e : putDE L y = 0 := by rw [putDE, if_neg hok, if_neg (by simpa using hb)]
      obtain ⟨s, B, t1, t2, t3, t4, rfl⟩ := xA
      refine w_skip ?_
      refine w_seq ?_
      refine w_draw [(0, []), (1, []), (2, []), (3, []), (4, []), (6, []), (7, []), (5, [6]), (8, []), (9, []), (10, []), (11, [])] (by kernel_rfl) (by kernel_rfl) (by kernel_rfl) (by kernel_rfl) ?_
      refine o_move gn rfl rfl ?_
      refine o_move gn rfl rfl ?_
      refine o_nilCheck gn rfl rfl ?_
      refine o_fieldAddr (off := 0) gn rfl rfl (by kernel_rfl) ?_
      refine o_load gn rfl rfl (by kernel_rfl) (by assumption) rfl ?_
      refine o_loadA (n := 3) gn rfl rfl (by kernel_rfl) (by kernel_rfl) g1 (by simp) ?_
      rw [show (([iV y.t, Value.bool y.f, iV y.d].drop 0).take 3).toArray = #[iV y.t, .bool y.f, iV y.d] from rfl]
      refine o_buildSlice (cs := #[iV y.t, .bool y.f, iV y.d]) (e := 30) (z := 2) (zv := .agg #[.int .i64 0, .bool false, .int .i64 0]) [(0, _)] gn rfl (by kernel_rfl) (by kernel_rfl) (by kernel_rfl) (by kernel_rfl) rfl rfl ?_
      refine wl_at (fun h5 => h5.get b = some (.cells [s] 45 0) ∧ h5.get h2.n = some (.cells (itC y) 30 0) ∧ SlN 30 2 h5 s (enI L) L.length B ∧ Ext h2 h5 ∧ h2.n < h5.n) ⟨((Ext.alloc h2 _).get b t3).trans t1, Hp.get_alloc_self _ _, t2.ext (Ext.alloc _ _), Ext.alloc _ _, by rw [Hp.n_alloc]; omega⟩ fun h5 ⟨l1, l2, l3, x5, n5⟩ => ?_
      obtain ⟨v6, h6, B6, ea, s6, x6, hB6⟩ := append_nil l3.toC.src (enI_all L) (by omega)
      have l2' := (x6.get h2.n n5).trans l2
      have g6 := ((x5.trans x6).get h.n n2).trans g1
      obtain ⟨v7, h7, eb, s7, x7⟩ := appendN (E := queE) (t := 22) elI s6 l2' rfl (by rfl) (by omega)
      have m1 := ((x6.b _).trans x7 |>.get b (Nat.lt_of_lt_of_le t3 x5.n) (fun e => by have := hB6 b e; have := x5.n; omega)).trans l1
      obtain ⟨a7, rfl⟩ := s7.val
      refine o_append gn rfl rfl rfl ea (ag1 (ag_loadA (o := 0) (n := 3) gn rfl (by kernel_rfl) (by kernel_rfl) g6 (by simp) rfl (same_it y)) ag0) ?_
      refine o_append gn rfl rfl rfl eb ag0 ?_
      refine o_nilCheck gn rfl rfl ?_
      refine o_fieldAddr (off := 0) gn rfl rfl (by kernel_rfl) ?_
      refine o_store gn rfl rfl rfl (by kernel_rfl) m1 (by decide) (by simp) ag0 ?_
      refine wl_end ?_
      refine w_seq ?_
      refine w_region (by kernel_rfl) ?_
      refine o_assign gn rfl rfl ?_
      refine wl_end ?_
      refine w_ret ?_
      refine ⟨.inl rfl, _, rfl, ?_⟩
      have x6n := x6.n
      have x5n := x5.n
      have x2n := x2.n
      refine ⟨by rw [e]; rfl, [b, h6.n], ?_, ?_, ?_⟩
      · rw [putD, if_pos e]
        refine ⟨_, [h6.n], Hp.get_put_self _ _ _, ?_, by rw [Hp.n_put]; have := x7.n; omega, by simp; omega, rfl⟩
        rw [enI_app, List.length_append]
        have : enI [y] = itC y := by simp [enI]
        rw [this]
        exact s7.keep (ExtB.put _ _ _) (by simp; omega)
      · exact ((((x2.trans x5).trans x6).b _).join x7 (fun i hi => by have := hB6 i hi; omega)).trans ((ExtB.put _ _ _).mono (by simp))
      · intro i hi
        simp at hi
        rcases hi with rfl | rfl
        · simp
        · right; omega
end

end Go.Proofs.Ytfjnnbdgehaeaaa


namespace Go.Proofs.Ytfjnnbdgehaeaaa
open Go.X

/-- Does an item come ahead of the one that was the first so far? -/
def aheD (x f : Itm) : Bool := x.f || (!f.f && decide (x.d < f.d))
/-- The place of what comes first among the first k. -/
def firN (L : List Itm) : Nat → Int
  | 0 => -1
  | k + 1 => if firN L k < 0 then (k : Nat) else if aheD L[k]! L[(firN L k).toNat]! then (k : Nat) else firN L k
theorem firN_lt (L : List Itm) : ∀ k, -1 ≤ firN L k ∧ firN L k < k
  | 0 => by simp [firN]
  | k + 1 => by
    have := firN_lt L k
    simp only [firN]
    split
    · omega
    · split <;> omega
def dueDB (L : List Itm) (now : Int) : Bool := if firN L L.length < 0 then false else !(!L[(firN L L.length).toNat]!.f && decide (now < L[(firN L L.length).toNat]!.d))
def dueDI (L : List Itm) (now : Int) : Itm := if dueDB L now then L[(firN L L.length).toNat]! else itZ
/-- Next, among the first k. -/
def nxtN (L : List Itm) : Nat → Int × Bool
  | 0 => (0, false)
  | k + 1 => if (!L[k]!.f && (!(nxtN L k).2 || decide (L[k]!.d < (nxtN L k).1))) = true then (L[k]!.d, true) else nxtN L k

section
variable {h h' : Hp} {b q c p o : Nat} {L K : List Itm} {n t now : Int} {ds B own : List Nat} {s sv : Value} {i k : Nat} {y : Itm}

/-- First -/
theorem c36 (x : DA h b L own) (hl : L.length ≤ 100000) : C queE 36 [ptrV b] h fun v h' => v = iV (firN L L.length) ∧ Ext h h' := by
  obtain ⟨s, B, x1, x2, x3, x4, rfl⟩ := x
  obtain ⟨a, rfl⟩ := x2.val
  refine c_enter (fu := Try.f36) (by kernel_rfl) rfl ?_
  refine w_seq ?_
  refine w_region (by kernel_rfl) ?_
  refine o_assign gn rfl rfl ?_
  refine wl_end ?_
  refine w_seq ?_
  refine w_region (by kernel_rfl) ?_
  refine o_assign gn rfl rfl ?_
  refine wl_end ?_
  refine w_seq ?_
  refine w_seq ?_
  refine w_region (by kernel_rfl) ?_
  refine o_assign gn rfl rfl ?_
  refine wl_end ?_
  refine w_block ?_
  refine w_weak [(0, ptrV b), (3, iV (-1)), (4, iV (0 : Nat))] (by repeat (first | exact trivial | refine ⟨rfl, ?_⟩)) ?_
  refine w_loop (fun k l hh => ∃ i : Nat, i ≤ L.length ∧ k = L.length - i ∧ Ext h hh ∧ l = [(0, ptrV b), (3, iV (firN L i)), (4, iV (i : Nat))]) (n := L.length) ?_ fun k l hh hI => ?_
  · exact ⟨0, by omega, by omega, .refl _, rfl⟩
  · obtain ⟨i, hi, rfl, g, rfl⟩ := hI
    have k1 := (g.get b x3).trans x1
    have kS := x2.ext g
    refine w_seq ?_
    refine w_seq ?_
    refine w_region (by kernel_rfl) ?_
    refine o_move gn rfl rfl ?_
    refine o_move gn rfl rfl ?_
    refine o_nilCheck gn rfl rfl ?_
    refine o_fieldAddr (off := 0) gn rfl rfl (by kernel_rfl) ?_
    refine o_load gn rfl rfl (by kernel_rfl) k1 rfl ?_
    refine o_len gn rfl rfl (by kernel_rfl) ?_
    refine o_lss gn rfl rfl rfl ?_
    refine wl_end ?_
    refine w_cond rfl (fun hb => ?_) fun hb => ?_
    · skip
      have hlt : i < L.length := by simpa using hb
      obtain ⟨b1, m1, ea, hg1, _, hb1, _⟩ := kS.at (by omega)
      cases ea
      have hel := enI_len L
      have hc1 := enI_cut hlt []
      rw [List.append_nil] at hc1
      have hfl := firN_lt L i
      refine w_skip ?_
      refine w_seq ?_
      refine w_block ?_
      refine w_seq ?_
      refine w_region (by kernel_rfl) ?_
      refine o_move gn rfl rfl ?_
      refine o_nilCheck gn rfl rfl ?_
      refine o_fieldAddr (off := 0) gn rfl rfl (by kernel_rfl) ?_
      refine o_load gn rfl rfl (by kernel_rfl) k1 rfl ?_
      refine o_move gn rfl rfl ?_
      refine o_indexAddr (zz := 3) gn rfl rfl rfl (by kernel_rfl) (by omega) (by omega) ?_
      rw [Int.toNat_natCast, Nat.zero_add]
      refine o_loadA (n := 3) gn rfl rfl (by kernel_rfl) (by kernel_rfl) hg1 (by omega) ?_
      rw [hc1]
      refine o_alloc (zv := .agg #[.int .i64 0, .bool false, .int .i64 0]) gn rfl (by kernel_rfl) ?_
      refine o_storeA (n := 3) gn rfl rfl rfl (by kernel_rfl) rfl (Hp.get_alloc_self _ _) (by decide) rfl ag0 ?_
      refine wl_at (fun h3 => h3.get hh.n = some (.cells [iV L[i]!.t, .bool L[i]!.f, iV L[i]!.d] 30 0) ∧ Ext hh h3 ∧ hh.n < h3.n) ⟨Hp.get_put_self _ _ _, (Ext.alloc _ _).of (ExtB.put _ _ _) (by simp), by rw [Hp.n_put, Hp.n_alloc]; omega⟩ fun h3 ⟨g3, e3, n3⟩ => ?_
      refine wl_end ?_
      refine w_seq ?_
      refine w_seq ?_
      refine w_region (by kernel_rfl) ?_
      refine o_move gn rfl rfl ?_
      refine o_lss gn rfl rfl rfl ?_
      refine wl_end ?_
      refine w_cond rfl (fun hb => ?_) fun hb => ?_
      · skip
        refine w_seq ?_
        refine w_region (by kernel_rfl) ?_
        refine o_move gn rfl rfl ?_
        refine o_assign gn rfl rfl ?_
        refine wl_end ?_
        refine w_exit ?_
        refine thn_exit ?_
        refine blk_eq ?_
        refine w_region (by kernel_rfl) ?_
        refine o_move gn rfl rfl ?_
        refine o_add gn rfl rfl rfl (by omega) (by omega) ?_
        refine o_assign gn rfl rfl ?_
        refine wl_end ?_
        have e9 : firN L (i + 1) = (i : Nat) := by rw [firN, if_pos (by simpa using hb)]
        exact ⟨L.length - (i + 1), by omega, [(0, ptrV b), (3, iV ((i : Nat))), (4, iV ((i + 1 : Nat) : Int))], (by repeat (first | exact trivial | refine ⟨rfl, ?_⟩)), i + 1, by omega, rfl, g.trans e3, by rw [e9]⟩
      · skip
        have hf0 : ¬ firN L i < 0 := by simpa using hb
        have hfn : firN L i = ((firN L i).toNat : Int) := by omega
        have hfl2 : (firN L i).toNat < L.length := by omega
        have hc2 := enI_cut hfl2 []
        rw [List.append_nil] at hc2
        have k2 := (e3.get b (Nat.lt_of_lt_of_le x3 g.n)).trans k1
        have hg2 := (e3.get b1 hb1).trans hg1
        refine w_skip ?_
        refine w_seq ?_
        refine w_region (by kernel_rfl) ?_
        refine o_move gn rfl rfl ?_
        refine o_nilCheck gn rfl rfl ?_
        refine o_fieldAddr (off := 0) gn rfl rfl (by kernel_rfl) ?_
        refine o_load gn rfl rfl (by kernel_rfl) k2 rfl ?_
        refine o_move gn rfl rfl ?_
        refine o_indexAddr (zz := 3) gn rfl rfl rfl (by kernel_rfl) (by omega) (by omega) ?_
        rw [Nat.zero_add]
        refine o_loadA (n := 3) gn rfl rfl (by kernel_rfl) (by kernel_rfl) hg2 (by omega) ?_
        rw [hc2]
        refine o_alloc (zv := .agg #[.int .i64 0, .bool false, .int .i64 0]) gn rfl (by kernel_rfl) ?_
        refine o_storeA (n := 3) gn rfl rfl rfl (by kernel_rfl) rfl (Hp.get_alloc_self _ _) (by decide) rfl ag0 ?_
        refine wl_at (fun h4 => h4.get h3.n = some (.cells [iV L[(firN L i).toNat]!.t, .bool L[(firN L i).toNat]!.f, iV L[(firN L i).toNat]!.d] 30 0) ∧ h4.get hh.n = some (.cells [iV L[i]!.t, .bool L[i]!.f, iV L[i]!.d] 30 0) ∧ Ext hh h4) ⟨Hp.get_put_self _ _ _, by rw [Hp.get_put, if_neg (by omega), Hp.get_alloc, if_neg (by omega)]; exact g3, e3.trans ((Ext.alloc _ _).of (ExtB.put _ _ _) (by simp))⟩ fun h4 ⟨g4, g5, e4⟩ => ?_
        refine wl_end ?_
        refine w_seq ?_
        refine w_region (by kernel_rfl) ?_
        refine o_fieldAddr (off := 1) gn rfl rfl (by kernel_rfl) ?_
        refine o_load gn rfl rfl (by kernel_rfl) g5 rfl ?_
        refine o_move gn rfl rfl ?_
        refine o_or (n := 10) rfl rfl rfl gn rfl (fun hb => by
            refine o_fieldAddr (off := 1) (gy rfl rfl rfl hb) rfl rfl (by kernel_rfl) ?_
            refine o_load (gy rfl rfl rfl hb) rfl rfl (by kernel_rfl) g4 rfl ?_
            refine o_not (gy rfl rfl rfl hb) rfl rfl ?_
            refine o_move (gy rfl rfl rfl hb) rfl rfl ?_
            refine o_and (n := 5) rfl rfl rfl (gy rfl rfl rfl hb) rfl (fun hb => by
                refine o_fieldAddr (off := 2) (gy rfl rfl rfl hb) rfl rfl (by kernel_rfl) ?_
                refine o_load (gy rfl rfl rfl hb) rfl rfl (by kernel_rfl) g5 rfl ?_
                refine o_fieldAddr (off := 2) (gy rfl rfl rfl hb) rfl rfl (by kernel_rfl) ?_
                refine o_load (gy rfl rfl rfl hb) rfl rfl (by kernel_rfl) g4 rfl ?_
                refine o_lss (gy rfl rfl rfl hb) rfl rfl rfl ?_
                exact wl_end ⟨rfl, rfl, 5, rfl, rfl⟩) ?_
            exact wl_end ⟨rfl, rfl, 5, rfl, rfl⟩) ?_
        refine wl_end ?_
        refine w_cond rfl (fun hb => ?_) fun hb => ?_
        · skip
          refine w_region (by kernel_rfl) ?_
          refine o_move gn rfl rfl ?_
          refine o_assign gn rfl rfl ?_
          refine wl_end ?_
          refine w_region (by kernel_rfl) ?_
          refine o_move gn rfl rfl ?_
          refine o_add gn rfl rfl rfl (by omega) (by omega) ?_
          refine o_assign gn rfl rfl ?_
          refine wl_end ?_
          have e9 : firN L (i + 1) = (i : Nat) := by rw [firN, if_neg hf0, if_pos (show aheD L[i]! L[(firN L i).toNat]! = true from hb)]
          exact ⟨L.length - (i + 1), by omega, [(0, ptrV b), (3, iV ((i : Nat))), (4, iV ((i + 1 : Nat) : Int))], (by repeat (first | exact trivial | refine ⟨rfl, ?_⟩)), i + 1, by omega, rfl, g.trans e4, by rw [e9]⟩
        · skip
          refine w_skip ?_
          refine w_region (by kernel_rfl) ?_
          refine o_move gn rfl rfl ?_
          refine o_add gn rfl rfl rfl (by omega) (by omega) ?_
          refine o_assign gn rfl rfl ?_
          refine wl_end ?_
          have e9 : firN L (i + 1) = firN L i := by rw [firN, if_neg hf0, if_neg (by rw [show aheD L[i]! L[(firN L i).toNat]! = false from hb]; decide)]
          exact ⟨L.length - (i + 1), by omega, [(0, ptrV b), (3, iV (firN L i)), (4, iV ((i + 1 : Nat) : Int))], (by repeat (first | exact trivial | refine ⟨rfl, ?_⟩)), i + 1, by omega, rfl, g.trans e4, by rw [e9]⟩
    · skip
      refine w_exit ?_
      refine thn_exit ?_
      refine rnd_exit ?_
      refine blk_eq ?_
      refine w_seq ?_
      refine w_region (by kernel_rfl) ?_
      refine o_move gn rfl rfl ?_
      refine o_assign gn rfl rfl ?_
      refine wl_end ?_
      refine w_ret ?_
      refine ⟨.inl rfl, _, rfl, ?_⟩
      have hge : i = L.length := by simp at hb; omega
      exact ⟨by rw [hge]; rfl, g⟩

/-- Due -/
theorem c31 (x : DA h b L own) (hl : L.length ≤ 100000) : C queE 31 [ptrV b, iV now] h fun v h' => v = .tuple #[itV (dueDI L now), .bool (dueDB L now)] ∧ Ext h h' := by
  have hfl := firN_lt L L.length
  refine c_enterH (fu := Try.f31) (by kernel_rfl) rfl ?_
  refine w_seq ?_
  refine w_region (by kernel_rfl) ?_
  refine o_alloc (zv := .agg #[.int .i64 0, .bool false, .int .i64 0]) gn rfl (by kernel_rfl) ?_
  refine wl_at (fun h2 => h2.get h.n = some (.cells [iV 0, .bool false, iV 0] 30 0) ∧ DA h2 b L own ∧ Ext h h2 ∧ h.n < h2.n) ⟨Hp.get_alloc_self _ _, x.ext (Ext.alloc _ _), Ext.alloc _ _, by rw [Hp.n_alloc]; omega⟩ fun h2 ⟨g1, xA, x2, n2⟩ => ?_
  refine o_assign gn rfl rfl ?_
  refine wl_end ?_
  refine w_seq ?_
  refine w_region (by kernel_rfl) ?_
  refine o_move gn rfl rfl ?_
  refine o_call [_] gn rfl rfl (by kernel_rfl) rfl (C.mono (c36 xA hl) ?_)
  rintro v h3 ⟨rfl, x3⟩
  have xB := xA.ext x3
  have g2 := (x3.get h.n n2).trans g1
  obtain ⟨s, B, t1, t2, t3, t4, rfl⟩ := xB
  obtain ⟨a, rfl⟩ := t2.val
  refine ⟨ag0, ?_⟩
  refine o_assign gn rfl rfl ?_
  refine wl_end ?_
  refine w_seq ?_
  refine w_seq ?_
  refine w_region (by kernel_rfl) ?_
  refine o_move gn rfl rfl ?_
  refine o_lss gn rfl rfl rfl ?_
  refine o_move gn rfl rfl ?_
  refine o_or (B := !L[(firN L L.length).toNat]!.f && decide (now < L[(firN L L.length).toNat]!.d)) (n := 21) rfl rfl rfl gn rfl (fun hb => by
      have h0 : 0 ≤ firN L L.length := by simp at hb; omega
      have hlt : (firN L L.length).toNat < L.length := by omega
      obtain ⟨b1, m1, ea, hg1, _⟩ := t2.at (by omega)
      cases ea
      obtain ⟨_, e1, e2⟩ := enI_cell hlt []
      rw [List.append_nil] at e1 e2
      refine o_move (gy rfl rfl rfl hb) rfl rfl ?_
      refine o_nilCheck (gy rfl rfl rfl hb) rfl rfl ?_
      refine o_fieldAddr (off := 0) (gy rfl rfl rfl hb) rfl rfl (by kernel_rfl) ?_
      refine o_load (gy rfl rfl rfl hb) rfl rfl (by kernel_rfl) t1 rfl ?_
      refine o_move (gy rfl rfl rfl hb) rfl rfl ?_
      refine o_indexAddr (zz := 3) (gy rfl rfl rfl hb) rfl rfl rfl (by kernel_rfl) (by omega) (by omega) ?_
      refine o_fieldAddr (off := 1) (gy rfl rfl rfl hb) rfl rfl (by kernel_rfl) ?_
      refine o_load (gy rfl rfl rfl hb) rfl rfl (by kernel_rfl) hg1 (by rw [Nat.zero_add]; exact e1) ?_
      refine o_not (gy rfl rfl rfl hb) rfl rfl ?_
      refine o_move (gy rfl rfl rfl hb) rfl rfl ?_
      refine o_and (n := 10) rfl rfl rfl (gy rfl rfl rfl hb) rfl (fun hb => by
          refine o_move (gy rfl rfl rfl hb) rfl rfl ?_
          refine o_nilCheck (gy rfl rfl rfl hb) rfl rfl ?_
          refine o_fieldAddr (off := 0) (gy rfl rfl rfl hb) rfl rfl (by kernel_rfl) ?_
          refine o_load (gy rfl rfl rfl hb) rfl rfl (by kernel_rfl) t1 rfl ?_
          refine o_move (gy rfl rfl rfl hb) rfl rfl ?_
          refine o_indexAddr (zz := 3) (gy rfl rfl rfl hb) rfl rfl rfl (by kernel_rfl) (by omega) (by omega) ?_
          refine o_fieldAddr (off := 2) (gy rfl rfl rfl hb) rfl rfl (by kernel_rfl) ?_
          refine o_load (gy rfl rfl rfl hb) rfl rfl (by kernel_rfl) hg1 (by rw [Nat.zero_add]; exact e2) ?_
          refine o_move (gy rfl rfl rfl hb) rfl rfl ?_
          refine o_gtr (gy rfl rfl rfl hb) rfl rfl rfl ?_
          exact wl_end ⟨rfl, rfl, 10, rfl, rfl⟩) ?_
      exact wl_end ⟨rfl, rfl, 11, rfl, rfl⟩) ?_
  refine wl_end ?_
  refine w_cond rfl (fun hb => ?_) fun hb => ?_
  · skip
    refine w_seq ?_
    refine w_region (by kernel_rfl) ?_
    refine o_build (zv := .agg #[.int .i64 0, .bool false, .int .i64 0]) (pl := [(0, 1), (1, 1), (2, 1)]) [] gn rfl (by kernel_rfl) (by kernel_rfl) rfl rfl ?_
    refine o_storeA (n := 3) gn rfl rfl rfl (by kernel_rfl) rfl g2 (by decide) rfl ag0 ?_
    refine o_assign gn rfl rfl ?_
    refine wl_end ?_
    refine w_ret ?_
    refine ⟨.inl rfl, _, (resH_agg rfl (by kernel_rfl) (by kernel_rfl) (Hp.get_put_self _ _ _) rfl (resH_tmp rfl rfl)), ?_⟩
    have e : dueDB L now = false := by
      unfold dueDB
      split
      · rfl
      · rename_i h0
        rw [show decide (firN L L.length < 0) = false by simpa using h0] at hb
        simp only [Bool.false_or] at hb
        rw [hb]; rfl
    exact ⟨by rw [dueDI, e]; rfl, (x2.trans x3).of (ExtB.put _ _ _) (by simp)⟩
  · skip
    simp only [Bool.or_eq_false_iff] at hb
    have h0 : ¬ firN L L.length < 0 := by simpa using hb.1
    have hdue : dueDB L now = true := by
      unfold dueDB
      rw [if_neg h0, hb.2]; rfl
    have hlt : (firN L L.length).toNat < L.length := by omega
    obtain ⟨b1, m1, ea, hg1, _⟩ := t2.at (by omega)
    cases ea
    have hel := enI_len L
    have hc1 := enI_cut hlt []
    rw [List.append_nil] at hc1
    refine w_skip ?_
    refine w_seq ?_
    refine w_region (by kernel_rfl) ?_
    refine o_move gn rfl rfl ?_
    refine o_nilCheck gn rfl rfl ?_
    refine o_fieldAddr (off := 0) gn rfl rfl (by kernel_rfl) ?_
    refine o_load gn rfl rfl (by kernel_rfl) t1 rfl ?_
    refine o_move gn rfl rfl ?_
    refine o_indexAddr (zz := 3) gn rfl rfl rfl (by kernel_rfl) (by omega) (by omega) ?_
    rw [Nat.zero_add]
    refine o_loadA (n := 3) gn rfl rfl (by kernel_rfl) (by kernel_rfl) hg1 (by omega) ?_
    rw [hc1]
    refine o_storeA (n := 3) gn rfl rfl rfl (by kernel_rfl) rfl g2 (by decide) rfl ag0 ?_
    refine o_assign gn rfl rfl ?_
    refine wl_end ?_
    refine w_ret ?_
    refine ⟨.inl rfl, _, (resH_agg rfl (by kernel_rfl) (by kernel_rfl) (Hp.get_put_self _ _ _) rfl (resH_tmp rfl rfl)), ?_⟩
    exact ⟨by rw [dueDI, hdue]; rfl, (x2.trans x3).of (ExtB.put _ _ _) (by simp)⟩

/-- Next -/
theorem c32 (x : DA h b L own) (hl : L.length ≤ 100000) : CP queE 32 [ptrV b] h (.tuple #[iV (nxtN L L.length).1, .bool (nxtN L L.length).2]) := by
  obtain ⟨s, B, x1, x2, x3, x4, rfl⟩ := x
  obtain ⟨a, rfl⟩ := x2.val
  refine c_enter (fu := Try.f32) (by kernel_rfl) rfl ?_
  refine w_seq ?_
  refine w_region (by kernel_rfl) ?_
  refine o_assign gn rfl rfl ?_
  refine o_assign gn rfl rfl ?_
  refine wl_end ?_
  refine w_seq ?_
  refine w_region (by kernel_rfl) ?_
  refine o_assign gn rfl rfl ?_
  refine o_assign gn rfl rfl ?_
  refine wl_end ?_
  refine w_seq ?_
  refine w_seq ?_
  refine w_region (by kernel_rfl) ?_
  refine o_assign gn rfl rfl ?_
  refine wl_end ?_
  refine w_block ?_
  refine w_weak [(0, ptrV b), (4, iV 0), (5, .bool false), (6, iV (0 : Nat))] (by repeat (first | exact trivial | refine ⟨rfl, ?_⟩)) ?_
  refine w_loop (fun k l hh => ∃ i : Nat, i ≤ L.length ∧ k = L.length - i ∧ hh = h ∧ l = [(0, ptrV b), (4, iV (nxtN L i).1), (5, .bool (nxtN L i).2), (6, iV (i : Nat))]) (n := L.length) ?_ fun k l hh hI => ?_
  · exact ⟨0, by omega, by omega, rfl, rfl⟩
  · obtain ⟨i, hi, rfl, rfl, rfl⟩ := hI
    refine w_seq ?_
    refine w_seq ?_
    refine w_region (by kernel_rfl) ?_
    refine o_move gn rfl rfl ?_
    refine o_move gn rfl rfl ?_
    refine o_nilCheck gn rfl rfl ?_
    refine o_fieldAddr (off := 0) gn rfl rfl (by kernel_rfl) ?_
    refine o_load gn rfl rfl (by kernel_rfl) (by assumption) rfl ?_
    refine o_len gn rfl rfl (by kernel_rfl) ?_
    refine o_lss gn rfl rfl rfl ?_
    refine wl_end ?_
    refine w_cond rfl (fun hb => ?_) fun hb => ?_
    · skip
      have hlt : i < L.length := by simpa using hb
      obtain ⟨b1, m1, ea, hg1, _, hb1, _⟩ := x2.at (by omega)
      cases ea
      obtain ⟨_, e1, e2⟩ := enI_cell hlt []
      rw [List.append_nil] at e1 e2
      refine w_skip ?_
      refine w_seq ?_
      refine w_block ?_
      refine w_seq ?_
      refine w_region (by kernel_rfl) ?_
      refine o_move gn rfl rfl ?_
      refine o_nilCheck gn rfl rfl ?_
      refine o_fieldAddr (off := 0) gn rfl rfl (by kernel_rfl) ?_
      refine o_load gn rfl rfl (by kernel_rfl) (by assumption) rfl ?_
      refine o_move gn rfl rfl ?_
      refine o_indexAddr (zz := 3) gn rfl rfl rfl (by kernel_rfl) (by omega) (by omega) ?_
      refine o_fieldAddr (off := 1) gn rfl rfl (by kernel_rfl) ?_
      refine o_load gn rfl rfl (by kernel_rfl) hg1 (by rw [Nat.zero_add, Int.toNat_natCast]; exact e1) ?_
      refine o_not gn rfl rfl ?_
      refine o_move gn rfl rfl ?_
      refine o_and (n := 14) rfl rfl rfl gn rfl (fun hb => by
          refine o_move (gy rfl rfl rfl hb) rfl rfl ?_
          refine o_not (gy rfl rfl rfl hb) rfl rfl ?_
          refine o_move (gy rfl rfl rfl hb) rfl rfl ?_
          refine o_or (n := 10) rfl rfl rfl (gy rfl rfl rfl hb) rfl (fun hb => by
              refine o_move (gy rfl rfl rfl hb) rfl rfl ?_
              refine o_nilCheck (gy rfl rfl rfl hb) rfl rfl ?_
              refine o_fieldAddr (off := 0) (gy rfl rfl rfl hb) rfl rfl (by kernel_rfl) ?_
              refine o_load (gy rfl rfl rfl hb) rfl rfl (by kernel_rfl) (by assumption) rfl ?_
              refine o_move (gy rfl rfl rfl hb) rfl rfl ?_
              refine o_indexAddr (zz := 3) (gy rfl rfl rfl hb) rfl rfl rfl (by kernel_rfl) (by omega) (by omega) ?_
              refine o_fieldAddr (off := 2) (gy rfl rfl rfl hb) rfl rfl (by kernel_rfl) ?_
              refine o_load (gy rfl rfl rfl hb) rfl rfl (by kernel_rfl) hg1 (by rw [Nat.zero_add, Int.toNat_natCast]; exact e2) ?_
              refine o_move (gy rfl rfl rfl hb) rfl rfl ?_
              refine o_lss (gy rfl rfl rfl hb) rfl rfl rfl ?_
              exact wl_end ⟨rfl, rfl, 10, rfl, rfl⟩) ?_
          exact wl_end ⟨rfl, rfl, 4, rfl, rfl⟩) ?_
      refine wl_end ?_
      refine w_cond rfl (fun hb => ?_) fun hb => ?_
      · skip
        refine w_seq ?_
        refine w_region (by kernel_rfl) ?_
        refine o_move gn rfl rfl ?_
        refine o_nilCheck gn rfl rfl ?_
        refine o_fieldAddr (off := 0) gn rfl rfl (by kernel_rfl) ?_
        refine o_load gn rfl rfl (by kernel_rfl) (by assumption) rfl ?_
        refine o_move gn rfl rfl ?_
        refine o_indexAddr (zz := 3) gn rfl rfl rfl (by kernel_rfl) (by omega) (by omega) ?_
        refine o_fieldAddr (off := 2) gn rfl rfl (by kernel_rfl) ?_
        refine o_load gn rfl rfl (by kernel_rfl) hg1 (by rw [Nat.zero_add, Int.toNat_natCast]; exact e2) ?_
        refine o_assign gn rfl rfl ?_
        refine wl_end ?_
        refine w_region (by kernel_rfl) ?_
        refine o_assign gn rfl rfl ?_
        refine wl_end ?_
        refine w_region (by kernel_rfl) ?_
        refine o_move gn rfl rfl ?_
        refine o_add gn rfl rfl rfl (by omega) (by omega) ?_
        refine o_assign gn rfl rfl ?_
        refine wl_end ?_
        have e9 : nxtN L (i + 1) = (L[i]!.d, true) := by rw [nxtN, if_pos hb]
        exact ⟨L.length - (i + 1), by omega, [(0, ptrV b), (4, iV (L[i]!.d)), (5, .bool (true)), (6, iV ((i + 1 : Nat) : Int))], (by repeat (first | exact trivial | refine ⟨rfl, ?_⟩)), i + 1, by omega, rfl, rfl, by rw [e9]⟩
      · skip
        refine w_skip ?_
        refine w_region (by kernel_rfl) ?_
        refine o_move gn rfl rfl ?_
        refine o_add gn rfl rfl rfl (by omega) (by omega) ?_
        refine o_assign gn rfl rfl ?_
        refine wl_end ?_
        have e9 : nxtN L (i + 1) = nxtN L i := by rw [nxtN, if_neg (by rw [show (!L[i]!.f && (!(nxtN L i).2 || decide (L[i]!.d < (nxtN L i).1))) = false from hb]; decide)]
        exact ⟨L.length - (i + 1), by omega, [(0, ptrV b), (4, iV ((nxtN L i).1)), (5, .bool ((nxtN L i).2)), (6, iV ((i + 1 : Nat) : Int))], (by repeat (first | exact trivial | refine ⟨rfl, ?_⟩)), i + 1, by omega, rfl, rfl, by rw [e9]⟩
    · skip
      refine w_exit ?_
      refine thn_exit ?_
      refine rnd_exit ?_
      refine blk_eq ?_
      refine w_seq ?_
      refine w_region (by kernel_rfl) ?_
      refine o_move gn rfl rfl ?_
      refine o_move gn rfl rfl ?_
      refine o_assign gn rfl rfl ?_
      refine o_assign gn rfl rfl ?_
      refine wl_end ?_
      refine w_ret ?_
      refine ⟨.inl rfl, _, rfl, ?_⟩
      have hge : i = L.length := by simp at hb; omega
      exact ⟨by rw [hge]; rfl, rfl⟩
end

end Go.Proofs.Ytfjnnbdgehaeaaa


namespace Go.Proofs.Ytfjnnbdgehaeaaa
open Go.X

def takD (L : List Itm) (now : Int) : List Itm := if dueDB L now then drpD L (dueDI L now).t else L

section
variable {h h' : Hp} {b q c p o : Nat} {L K : List Itm} {n t now : Int} {ds B own : List Nat} {s sv : Value} {i k : Nat} {y : Itm}

/-- Drop -/
theorem c30 (x : DA h b L own) (hl : L.length ≤ 100000) : C queE 30 [ptrV b, iV t] h fun v h' => v = .bool (drpDB L t) ∧
    ∃ own', DA h' b (drpD L t) own' ∧ ExtB own h h' ∧ ∀ i, i ∈ own' → i ∈ own ∨ h.n ≤ i := by
  refine c_enter (fu := Try.f30) (by kernel_rfl) rfl ?_
  refine w_seq ?_
  refine w_region (by kernel_rfl) ?_
  refine o_assign gn rfl rfl ?_
  refine wl_end ?_
  refine w_seq ?_
  refine w_region (by kernel_rfl) ?_
  refine o_move gn rfl rfl ?_
  refine o_move gn rfl rfl ?_
  refine o_call [_, _] gn rfl rfl (by kernel_rfl) rfl (c_pure (c44 x hl) ⟨ag0, ?_⟩)
  refine o_assign gn rfl rfl ?_
  refine wl_end ?_
  refine w_seq ?_
  refine w_seq ?_
  refine w_region (by kernel_rfl) ?_
  refine o_move gn rfl rfl ?_
  refine o_lss gn rfl rfl rfl ?_
  refine wl_end ?_
  refine w_cond rfl (fun hb => ?_) fun hb => ?_
  · skip
    refine w_seq ?_
    refine w_region (by kernel_rfl) ?_
    refine o_assign gn rfl rfl ?_
    refine wl_end ?_
    refine w_ret ?_
    refine ⟨.inl rfl, _, rfl, ?_⟩
    have e : drpDB L t = false := by simp at hb; simp [drpDB]; omega
    exact ⟨by rw [e]; rfl, own, by rw [drpD, e]; exact x, .refl _ _, fun i hi => .inl hi⟩
  · skip
    have h0 : 0 ≤ posD L t := by simpa using hb
    have e : drpDB L t = true := by simp [drpDB]; omega
    have hlt := posD_lt h0
    have hpn : posD L t = ((posD L t).toNat : Int) := by omega
    have hdr : drpD L t = L.take (posD L t).toNat ++ L.drop ((posD L t).toNat + 1) := by rw [drpD, if_pos e]
    rw [hpn, hdr]
    generalize (posD L t).toNat = j at hlt ⊢
    obtain ⟨s, B, t1, t2, t3, t4, rfl⟩ := x
    obtain ⟨b1, m1, rfl, hg1, hm1, hb1, rfl, hlen⟩ := t2.at (by omega)
    have hel := enI_len L
    have s1 := (SlC.first (t2.toC) (k := j) (by omega)).src
    rw [enI_take] at s1
    obtain ⟨v6, h6, B6, ea, s6, x6, f6⟩ := append_nil s1 (enI_all _) (by omega)
    obtain ⟨a', hsf⟩ := sliceF_own (t := 22) (b := b1) (j := j + 1) elI hm1 (by omega) hlen
    have hg6 := (x6.get b1 hb1).trans hg1
    have t6 := (x6.get b t3).trans t1
    obtain ⟨z1, _⟩ := hsf h hg1
    obtain ⟨z2, z3⟩ := hsf h6 hg6
    rw [enI_drop] at z3
    obtain ⟨v7, h7, B7, eb, s7, x7, f7⟩ := appendS (E := queE) (t := 22) elI s6 z3 (enI_all _) (by omega)
    obtain ⟨a7, rfl⟩ := s7.val
    have hbB6 : b ∉ B6 := fun e => by have := f6 b e; omega
    have m7 := (x7.get b (Nat.lt_of_lt_of_le t3 x6.n) hbB6).trans t6
    refine w_skip ?_
    refine w_seq ?_
    refine w_draw [(0, []), (1, []), (2, []), (3, []), (4, []), (5, []), (6, []), (8, []), (9, []), (10, []), (11, []), (12, []), (13, []), (14, []), (7, [11, 13, 14]), (15, []), (16, []), (17, []), (18, [])] (by kernel_rfl) (by kernel_rfl) (by kernel_rfl) (by kernel_rfl) ?_
    refine o_move gn rfl rfl ?_
    refine o_move gn rfl rfl ?_
    refine o_nilCheck gn rfl rfl ?_
    refine o_fieldAddr (off := 0) gn rfl rfl (by kernel_rfl) ?_
    refine o_load gn rfl rfl (by kernel_rfl) t1 rfl ?_
    refine o_move gn rfl rfl ?_
    refine o_sliceToN elI gn rfl rfl rfl hg1 hm1 (by omega) (by omega) ?_
    rw [Int.toNat_natCast]
    refine o_move gn rfl rfl ?_
    refine o_nilCheck gn rfl rfl ?_
    refine o_fieldAddr (off := 0) gn rfl rfl (by kernel_rfl) ?_
    refine o_load gn rfl rfl (by kernel_rfl) t1 rfl ?_
    refine o_move gn rfl rfl ?_
    refine o_add gn rfl rfl rfl (by omega) (by omega) ?_
    rw [show (j : Int) + 1 = ((j + 1 : Nat) : Int) from rfl]
    refine o_sliceF gn rfl rfl rfl z1 ?_
    refine o_append gn rfl rfl rfl ea (ag1 (ag_load gn rfl (by kernel_rfl) t6 rfl rfl same_slice) (ag1 (ag_int2 gn rfl rfl rfl (v := .int .i64 ((j : Int) + 1)) (by simp only [intBin, someI_eq, wrapX_eq]; rw [wrap64 (by omega) (by omega)]) rfl same_int) (ag1 (ag_sliceF gn rfl rfl z2 rfl same_slice) ag0))) ?_
    refine o_append gn rfl rfl rfl eb ag0 ?_
    refine o_nilCheck gn rfl rfl ?_
    refine o_fieldAddr (off := 0) gn rfl rfl (by kernel_rfl) ?_
    refine o_store gn rfl rfl rfl (by kernel_rfl) m7 (by decide) (by simp) ag0 ?_
    refine wl_end ?_
    refine w_seq ?_
    refine w_region (by kernel_rfl) ?_
    refine o_assign gn rfl rfl ?_
    refine wl_end ?_
    refine w_ret ?_
    refine ⟨.inl rfl, _, rfl, ?_⟩
    have x6n := x6.n
    have hB7 : ∀ i, i ∈ B7 → h.n ≤ i := fun i hi => by
      rcases f7 i hi with e | e
      · exact f6 i e
      · omega
    have hbB7 : b ∉ B7 := fun e => by have := hB7 b e; omega
    refine ⟨by rw [e]; rfl, b :: B7, ⟨_, B7, Hp.get_put_self _ _ _, ?_, by rw [Hp.n_put]; have := x7.n; omega, hbB7, rfl⟩, ((x6.b _).join x7 (fun i hi => .inr (f6 i hi))).trans ((ExtB.put _ _ _).mono (by simp)), fun i hi => ?_⟩
    · rw [enI_app, List.length_append]
      have l1 : (L.take j).length = j := by rw [List.length_take]; omega
      have l2 : (L.drop (j + 1)).length = L.length - (j + 1) := by rw [List.length_drop]
      rw [l1, l2]
      exact s7.keep (ExtB.put _ _ _) (fun i hi e => hbB7 (by simp at e; exact e ▸ hi))
    · rcases List.mem_cons.1 hi with rfl | hi
      · simp
      · exact .inr (hB7 i hi)

/-- Take -/
theorem c29 (x : DA h b L own) (hl : L.length ≤ 100000) : C queE 29 [ptrV b, iV now] h fun v h' => v = .tuple #[itV (dueDI L now), .bool (dueDB L now)] ∧
    ∃ own', DA h' b (takD L now) own' ∧ ExtB own h h' ∧ ∀ i, i ∈ own' → i ∈ own ∨ h.n ≤ i := by
  have hn0 : h.n ∉ own := fun e => by have := x.lt _ e; omega
  refine c_enterH (fu := Try.f29) (by kernel_rfl) rfl ?_
  refine w_seq ?_
  refine w_region (by kernel_rfl) ?_
  refine o_alloc (zv := .agg #[.int .i64 0, .bool false, .int .i64 0]) gn rfl (by kernel_rfl) ?_
  refine wl_at (fun h2 => h2.get h.n = some (.cells [iV 0, .bool false, iV 0] 30 0) ∧ DA h2 b L own ∧ Ext h h2 ∧ h.n < h2.n) ⟨Hp.get_alloc_self _ _, x.ext (Ext.alloc _ _), Ext.alloc _ _, by rw [Hp.n_alloc]; omega⟩ fun h2 ⟨g1, xA, x2, n2⟩ => ?_
  refine o_assign gn rfl rfl ?_
  refine wl_end ?_
  refine w_seq ?_
  refine w_region (by kernel_rfl) ?_
  refine o_move gn rfl rfl ?_
  refine o_move gn rfl rfl ?_
  refine o_call [_, _] gn rfl rfl (by kernel_rfl) rfl (C.mono (c31 xA hl) ?_)
  rintro v h3 ⟨rfl, x3⟩
  refine ⟨ag0, ?_⟩
  refine o_move gn rfl rfl ?_
  refine o_extract gn rfl rfl rfl ?_
  refine o_extract gn rfl rfl rfl ?_
  refine o_alloc (zv := .agg #[.int .i64 0, .bool false, .int .i64 0]) gn rfl (by kernel_rfl) ?_
  refine o_storeA (n := 3) gn rfl rfl rfl (by kernel_rfl) rfl (Hp.get_alloc_self _ _) (by decide) rfl ag0 ?_
  refine wl_at (fun h4 => h4.get h.n = some (.cells [iV 0, .bool false, iV 0] 30 0) ∧ h4.get h3.n = some (.cells [iV (dueDI L now).t, .bool (dueDI L now).f, iV (dueDI L now).d] 30 0) ∧ DA h4 b L own ∧ Ext h h4 ∧ h.n < h4.n ∧ h3.n < h4.n ∧ h.n < h3.n) ⟨?_, Hp.get_put_self _ _ _, (xA.ext (x3.trans ((Ext.alloc _ _).of (ExtB.put _ _ _) (by simp)))), x2.trans (x3.trans ((Ext.alloc _ _).of (ExtB.put _ _ _) (by simp))), ?_, ?_, Nat.lt_of_lt_of_le n2 x3.n⟩ fun h4 ⟨k1, k2, xB, x4, n4, m4, hne⟩ => ?_
  · exact ((x3.trans ((Ext.alloc _ _).of (ExtB.put _ _ _) (by simp))).get h.n n2).trans g1
  · rw [Hp.n_put, Hp.n_alloc]; have := x3.n; omega
  · rw [Hp.n_put, Hp.n_alloc]; omega
  refine o_assign gn rfl rfl ?_
  refine wl_end ?_
  refine w_seq ?_
  refine w_seq ?_
  refine w_region (by kernel_rfl) ?_
  refine o_move gn rfl rfl ?_
  refine wl_end ?_
  refine w_cond rfl (fun hb => ?_) fun hb => ?_
  · skip
    refine w_region (by kernel_rfl) ?_
    refine o_move gn rfl rfl ?_
    refine o_fieldAddr (off := 0) gn rfl rfl (by kernel_rfl) ?_
    refine o_load gn rfl rfl (by kernel_rfl) k2 rfl ?_
    refine o_call [_, _] gn rfl rfl (by kernel_rfl) rfl (C.mono (c30 xB hl) ?_)
    rintro v h5 ⟨rfl, own5, x5, e5, f5⟩
    have hn5 : h3.n ∉ own := fun e => by have := x.lt _ e; omega
    have p1 := (e5.get h.n n4 hn0).trans k1
    have p2 := (e5.get h3.n m4 hn5).trans k2
    refine ⟨ag0, ?_⟩
    refine wl_end ?_
    refine w_seq ?_
    refine w_region (by kernel_rfl) ?_
    refine o_loadA (n := 3) gn rfl rfl (by kernel_rfl) (by kernel_rfl) p2 (by simp) ?_
    refine o_move gn rfl rfl ?_
    refine o_storeA (n := 3) gn rfl rfl rfl (by kernel_rfl) rfl p1 (by decide) rfl ag0 ?_
    refine o_assign gn rfl rfl ?_
    refine wl_end ?_
    refine w_ret ?_
    refine ⟨.inl rfl, _, (resH_agg rfl (by kernel_rfl) (by kernel_rfl) (Hp.get_put_self _ _ _) rfl (resH_tmp rfl rfl)), ?_⟩
    have x4n := x4.n
    refine ⟨rfl, own5, ?_, ((x4.b _).trans e5).join (ExtB.put _ _ _) (fun i hi => .inr (by simp at hi; omega)), fun i hi => (f5 i hi).imp id (fun e => by omega)⟩
    rw [takD, if_pos hb]
    exact x5.keep (ExtB.put _ _ _) (fun i hi e => by
      simp at e; subst e
      rcases f5 _ hi with e | e
      · exact hn0 e
      · omega)
  · skip
    refine w_skip ?_
    refine w_seq ?_
    refine w_region (by kernel_rfl) ?_
    refine o_loadA (n := 3) gn rfl rfl (by kernel_rfl) (by kernel_rfl) k2 (by simp) ?_
    refine o_move gn rfl rfl ?_
    refine o_storeA (n := 3) gn rfl rfl rfl (by kernel_rfl) rfl k1 (by decide) rfl ag0 ?_
    refine o_assign gn rfl rfl ?_
    refine wl_end ?_
    refine w_ret ?_
    refine ⟨.inl rfl, _, (resH_agg rfl (by kernel_rfl) (by kernel_rfl) (Hp.get_put_self _ _ _) rfl (resH_tmp rfl rfl)), ?_⟩
    refine ⟨rfl, own, ?_, (x4.b own).join (ExtB.put _ _ _) (fun i hi => .inr (by simp at hi; omega)), fun i hi => .inl hi⟩
    rw [takD, if_neg (by simp [hb])]
    exact xB.keep (ExtB.put _ _ _) (fun i hi e => hn0 (by simp at e; exact e ▸ hi))
end

end Go.Proofs.Ytfjnnbdgehaeaaa


namespace Go.Proofs.Ytfjnnbdgehaeaaa
open Go.X

theorem firN_nn (L : List Itm) : ∀ k, 0 < k → 0 ≤ firN L k
  | 0, h => by omega
  | k + 1, _ => by
    simp only [firN]
    split
    · omega
    · split <;> omega
theorem fir_in {L : List Itm} (h : 0 < L.length) : (firN L L.length).toNat < L.length := by
  have := firN_nn L L.length h
  have := firN_lt L L.length
  omega
/-- What comes first. -/
def firI (L : List Itm) : Itm := L[(firN L L.length).toNat]!
theorem firI_pos {L : List Itm} (h : 0 < L.length) : 0 ≤ posD L (firI L).t := by
  have hf := fir_in h
  unfold posD
  have : L.findIdx (fun x => decide (x.t = (firI L).t)) < L.length := by
    rw [List.findIdx_lt_length]
    refine ⟨L[(firN L L.length).toNat], List.getElem_mem _, ?_⟩
    have : firI L = L[(firN L L.length).toNat] := by simp [firI, hf]
    rw [this]; simp
  rw [if_pos this]; omega
theorem drpD_len {L : List Itm} {t : Int} (h : 0 ≤ posD L t) : (drpD L t).length = L.length - 1 := by
  have hlt := posD_lt h
  have e : drpDB L t = true := by simp [drpDB]; omega
  rw [drpD, if_pos e, List.length_append, List.length_take, List.length_drop]
  omega
/-- All. -/
def allN : Nat → List Itm → List Itm
  | 0, _ => []
  | n + 1, L => if L.length = 0 then [] else firI L :: allN n (drpD L (firI L).t)
theorem allN_len : ∀ (n : Nat) (L : List Itm), (allN n L).length ≤ n
  | 0, _ => by simp [allN]
  | n + 1, L => by
    unfold allN
    split
    · simp
    · have := allN_len n (drpD L (firI L).t)
      simp; omega
def allD (L : List Itm) : List Itm := allN L.length L

section
variable {h h' : Hp} {b q c p o : Nat} {L K : List Itm} {n t now : Int} {ds B own : List Nat} {s sv : Value} {i k : Nat} {y : Itm}

/-- All -/
theorem c22 (x : DA h b L own) (hl : L.length ≤ 100000) : C queE 22 [ptrV b] h fun v h' => ∃ B', SlN 30 2 h' v (enI (allD L)) (allD L).length B' ∧ (∀ i, i ∈ B' → h.n ≤ i) ∧ Ext h h' := by
  refine c_enter (fu := Try.f22) (by kernel_rfl) rfl ?_
  refine w_seq ?_
  refine w_region (by kernel_rfl) ?_
  refine o_assign gn rfl rfl ?_
  refine wl_end ?_
  refine w_seq ?_
  refine w_region (by kernel_rfl) ?_
  refine o_move gn rfl rfl ?_
  refine o_call [_] gn rfl rfl (by kernel_rfl) rfl (C.mono (c19 x hl) ?_)
  rintro v h1 ⟨b1, own1, rfl, y1, f1, x1⟩
  refine ⟨ag0, ?_⟩
  refine o_assign gn rfl rfl ?_
  refine wl_end ?_
  refine w_seq ?_
  refine w_region (by kernel_rfl) ?_
  refine o_assign gn rfl rfl ?_
  refine wl_end ?_
  refine w_seq ?_
  refine w_block ?_
  refine w_weak [(3, ptrV b1), (4, .slice none 0 0)] (by repeat (first | exact trivial | refine ⟨rfl, ?_⟩)) ?_
  refine w_loop (fun k l hh => ∃ (K O : List Itm) (a : Option Addr) (B own' : List Nat), K.length = k ∧ K.length + O.length = L.length ∧ O ++ allN K.length K = allD L ∧ DA hh b1 K own' ∧ (∀ i, i ∈ own' → h.n ≤ i) ∧ SlN 30 2 hh (.slice a O.length O.length) (enI O) O.length B ∧ (∀ i, i ∈ B → h.n ≤ i) ∧ (∀ i, i ∈ own' → i ∉ B) ∧ Ext h hh ∧ l = [(3, ptrV b1), (4, .slice a O.length O.length)]) (n := L.length) ?_ fun k l hh hI => ?_
  · exact ⟨L, [], none, [], own1, rfl, by simp, rfl, y1, f1, .inl ⟨rfl, rfl, rfl, rfl⟩, by simp, by simp, x1, rfl⟩
  · obtain ⟨K, O, a, B, own', rfl, hKO, hall, yK, fK, sO, fO, hdis, g, rfl⟩ := hI
    obtain ⟨s, B1, t1, t2, t3, t4, eo⟩ := id yK
    obtain ⟨a1, rfl⟩ := t2.val
    refine w_seq ?_
    refine w_seq ?_
    refine w_region (by kernel_rfl) ?_
    refine o_move gn rfl rfl ?_
    refine o_nilCheck gn rfl rfl ?_
    refine o_fieldAddr (off := 0) gn rfl rfl (by kernel_rfl) ?_
    refine o_load gn rfl rfl (by kernel_rfl) t1 rfl ?_
    refine o_len gn rfl rfl (by kernel_rfl) ?_
    refine o_gtr gn rfl rfl rfl ?_
    refine wl_end ?_
    refine w_cond rfl (fun hb => ?_) fun hb => ?_
    · skip
      have hpos : 0 < K.length := by simpa using hb
      have hfi := fir_in hpos
      have hf0 := firN_nn K K.length hpos
      have hpd := firI_pos hpos
      have hdl := drpD_len hpd
      refine w_skip ?_
      refine w_block ?_
      refine w_seq ?_
      refine w_draw [(0, []), (1, []), (2, []), (3, []), (4, []), (8, []), (5, [3]), (6, []), (7, []), (9, [])] (by kernel_rfl) (by kernel_rfl) (by kernel_rfl) (by kernel_rfl) ?_
      refine o_move gn rfl rfl ?_
      refine o_nilCheck gn rfl rfl ?_
      refine o_fieldAddr (off := 0) gn rfl rfl (by kernel_rfl) ?_
      refine o_load gn rfl rfl (by kernel_rfl) t1 rfl ?_
      refine o_move gn rfl rfl ?_
      refine o_alloc (zv := .agg #[.int .i64 0, .bool false, .int .i64 0]) gn rfl (by kernel_rfl) ?_
      refine wl_at (fun h2 => h2.get hh.n = some (.cells [iV 0, .bool false, iV 0] 30 0) ∧ Ext hh h2 ∧ hh.n < h2.n) ⟨Hp.get_alloc_self _ _, Ext.alloc _ _, by rw [Hp.n_alloc]; omega⟩ fun h2 ⟨g2, x2, n2⟩ => ?_
      refine o_call [_] gn rfl rfl (by kernel_rfl) rfl (C.mono (c36 (yK.ext x2) (by omega)) ?_)
      rintro v h3 ⟨rfl, x3⟩
      have x23 := x2.trans x3
      have t13 := (x23.get b1 t3).trans t1
      have g3 := (x3.get hh.n n2).trans g2
      obtain ⟨b9, m9, ea9, hg9, _⟩ := (t2.ext x23).at hpos
      cases ea9
      have hel := enI_len K
      have hc1 := enI_cut hfi []
      rw [List.append_nil] at hc1
      have hfe : K[(firN K K.length).toNat]! = firI K := rfl
      rw [hfe] at hc1
      refine ⟨(ag1 (ag_load gn rfl (by kernel_rfl) t13 rfl rfl same_slice) ag0), ?_⟩
      refine o_indexAddr (zz := 3) gn rfl rfl rfl (by kernel_rfl) (by omega) (by omega) ?_
      rw [Nat.zero_add]
      refine o_loadA (n := 3) gn rfl rfl (by kernel_rfl) (by kernel_rfl) hg9 (by omega) ?_
      rw [hc1]
      refine o_storeA (n := 3) gn rfl rfl rfl (by kernel_rfl) rfl g3 (by decide) rfl ag0 ?_
      refine wl_at (fun h4 => h4.get hh.n = some (.cells [iV (firI K).t, .bool (firI K).f, iV (firI K).d] 30 0) ∧ Ext hh h4 ∧ hh.n < h4.n) ⟨Hp.get_put_self _ _ _, x23.of (ExtB.put _ _ _) (by simp), by rw [Hp.n_put]; have := x3.n; omega⟩ fun h4 ⟨g4, x4, n4⟩ => ?_
      refine wl_end ?_
      refine w_seq ?_
      refine w_region (by kernel_rfl) ?_
      refine o_move gn rfl rfl ?_
      refine o_loadA (n := 3) gn rfl rfl (by kernel_rfl) (by kernel_rfl) g4 (by simp) ?_
      rw [show (([iV (firI K).t, Value.bool (firI K).f, iV (firI K).d].drop 0).take 3).toArray = #[iV (firI K).t, .bool (firI K).f, iV (firI K).d] from rfl]
      refine o_buildSlice (cs := #[iV (firI K).t, .bool (firI K).f, iV (firI K).d]) (e := 30) (z := 2) (zv := .agg #[.int .i64 0, .bool false, .int .i64 0]) [(0, _)] gn rfl (by kernel_rfl) (by kernel_rfl) (by kernel_rfl) (by kernel_rfl) rfl rfl ?_
      obtain ⟨a7, h7, B7, p1, p2, p3, p4⟩ := push_it (y := firI K) (L := O) (sO.ext x4) (by omega)
      have hBn := sO.lt
      have hnB : hh.n ∉ B := fun e => by have := hBn _ e; omega
      have g7 := (p3.get hh.n n4 hnB).trans g4
      have y7 := (yK.ext x4).keep p3 hdis
      refine o_append gn rfl rfl rfl p1 ag0 ?_
      refine o_assign gn rfl rfl ?_
      refine wl_end ?_
      refine w_region (by kernel_rfl) ?_
      refine o_move gn rfl rfl ?_
      refine o_fieldAddr (off := 0) gn rfl rfl (by kernel_rfl) ?_
      refine o_load gn rfl rfl (by kernel_rfl) g7 rfl ?_
      refine o_call [_, _] gn rfl rfl (by kernel_rfl) rfl (C.mono (c30 y7 (by omega)) ?_)
      rintro v h8 ⟨rfl, own8, y8, e8, f8⟩
      refine ⟨ag0, ?_⟩
      refine wl_end ?_
      have hex : Ext h h8 := ⟨Nat.le_trans g.n (Nat.le_trans x4.n (Nat.le_trans p3.n e8.n)), fun i hi => by
        have hiK : i ∉ own' := fun e => by have := fK i e; omega
        have hiB : i ∉ B := fun e => by have := fO i e; omega
        have hgn := g.n
        have h4n := x4.n
        have h7n := p3.n
        rw [e8.get i (by omega) hiK, p3.get i (by omega) hiB, x4.get i (by omega)]
        exact g.get i hi⟩
      have hB7 : ∀ i, i ∈ B7 → h.n ≤ i ∧ i < h7.n ∧ i ∉ own' := fun i hi => by
        have hlt := p2.lt i hi
        have hgn := g.n
        have h4n := x4.n
        rcases p4 i hi with e | e
        · exact ⟨fO i e, hlt, fun e2 => hdis i e2 e⟩
        · exact ⟨by omega, hlt, fun e2 => by have := yK.lt i e2; omega⟩
      have hN : allN K.length K = firI K :: allN (drpD K (firI K).t).length (drpD K (firI K).t) := by
        obtain ⟨m, hm⟩ : ∃ m, K.length = m + 1 := ⟨K.length - 1, by omega⟩
        rw [hdl, hm, allN, if_neg (by omega), Nat.add_sub_cancel]
      exact ⟨(drpD K (firI K).t).length, by omega, [(3, ptrV b1), (4, .slice a7 (O.length + 1) (O.length + 1))], (by repeat (first | exact trivial | refine ⟨rfl, ?_⟩)), drpD K (firI K).t, O ++ [firI K], a7, B7, own8, rfl, by rw [hdl, List.length_append]; simp; omega, by rw [← hall, hN, List.append_assoc, List.singleton_append], y8, fun i hi => by
        have hgn := g.n
        have h4n := x4.n
        have h7n := p3.n
        rcases f8 i hi with e | e
        · exact fK i e
        · omega, by
        rw [List.length_append] at p2 ⊢
        exact p2.keep e8 (fun i hi e => (hB7 i hi).2.2 e), fun i hi => (hB7 i hi).1, fun i hi e => by
        obtain ⟨_, q2, q3⟩ := hB7 i e
        rcases f8 i hi with e | e
        · exact q3 e
        · omega, hex, by rw [List.length_append]; rfl⟩
    · skip
      refine w_exit ?_
      refine thn_exit ?_
      refine rnd_exit ?_
      refine blk_eq ?_
      refine w_seq ?_
      refine w_region (by kernel_rfl) ?_
      refine o_move gn rfl rfl ?_
      refine o_assign gn rfl rfl ?_
      refine wl_end ?_
      refine w_ret ?_
      refine ⟨.inl rfl, _, rfl, ?_⟩
      have hK0 : K.length = 0 := by simp at hb; simpa using hb
      rw [hK0, allN, List.append_nil] at hall
      exact ⟨B, by rw [← hall]; exact sO, fO, g⟩
end

end Go.Proofs.Ytfjnnbdgehaeaaa


namespace Go.Proofs.Ytfjnnbdgehaeaaa
open Go.X

/-- An entry does not come ahead of the one above it. -/
def okK (H : List Ent) (k : Nat) : Prop := bef H[k]! H[(k - 1) / 2]! = false
def HeapOk (H : List Ent) : Prop := ∀ k, 0 < k → k < H.length → okK H k
/-- But for one place, and what is behind it. -/
structure GdK (H : List Ent) (j : Nat) : Prop where
  a : ∀ k, 0 < k → k < H.length → k ≠ j → (k - 1) / 2 ≠ j → okK H k
  b : ∀ k, 0 < k → k < H.length → (k - 1) / 2 = j → 0 < j → bef H[k]! H[(j - 1) / 2]! = false
/-- But for what is behind one place. -/
structure DnK (H : List Ent) (j : Nat) : Prop where
  a : ∀ k, 0 < k → k < H.length → (k - 1) / 2 ≠ j → okK H k
  b : ∀ k, 0 < k → k < H.length → (k - 1) / 2 = j → 0 < j → bef H[k]! H[(j - 1) / 2]! = false

theorem HeapOk.dn {H : List Ent} (x : HeapOk H) (j : Nat) : DnK H j := ⟨fun k h1 h2 _ => x k h1 h2, fun k h1 h2 h3 h4 => by
  have e1 := x k h1 h2
  have e2 := x j h4 (by omega)
  unfold okK at e1 e2
  rw [h3] at e1
  exact bef_ntrans e1 e2⟩

/-- One step up. -/
theorem up_step {H : List Ent} {i : Nat} (g : GdK H i) (hi : i < H.length) (h0 : 0 < i) (hb : bef H[i]! H[(i - 1) / 2]! = true) :
    GdK (swapL H i ((i - 1) / 2)) ((i - 1) / 2) ∧ ∀ k, 0 < k → k < H.length → (k - 1) / 2 = (i - 1) / 2 → okK (swapL H i ((i - 1) / 2)) k := by
  have hp : (i - 1) / 2 < H.length := by omega
  have hs := swapL_get hi hp
  generalize hpe : (i - 1) / 2 = p at hb hp hs ⊢
  have hpi : p ≠ i := by omega
  have hsib : ∀ k, 0 < k → k < H.length → (k - 1) / 2 = p → k ≠ i → bef H[k]! H[p]! = false := fun k h1 h2 h3 h4 => by
    have := g.a k h1 h2 h4 (by omega)
    unfold okK at this
    rwa [h3] at this
  refine ⟨⟨fun k h1 h2 h3 h4 => ?_, fun k h1 h2 h3 h4 => ?_⟩, fun k h1 h2 h3 => ?_⟩
  · rw [swapL_len] at h2
    unfold okK
    rw [hs k, hs ((k - 1) / 2), if_neg h3, if_neg h4]
    have hki : k ≠ i := fun e => h4 (by rw [e, hpe])
    rw [if_neg hki]
    by_cases e : (k - 1) / 2 = i
    · rw [if_pos e]
      have := g.b k h1 h2 e h0
      rwa [hpe] at this
    · rw [if_neg e]
      exact g.a k h1 h2 hki e
  · rw [swapL_len] at h2
    have hg : (p - 1) / 2 ≠ i := by omega
    have hg2 : (p - 1) / 2 ≠ p := by omega
    have hkp : k ≠ p := by omega
    rw [hs k, hs ((p - 1) / 2), if_neg hkp, if_neg hg2, if_neg hg]
    have hpok : bef H[p]! H[(p - 1) / 2]! = false := g.a p h4 hp hpi hg
    by_cases e : k = i
    · rw [if_pos e]; exact hpok
    · rw [if_neg e]
      exact bef_ntrans (hsib k h1 h2 h3 e) hpok
  · have hkp : k ≠ p := by omega
    unfold okK
    rw [hs k, h3, hs p, if_neg hkp, if_pos rfl]
    by_cases e : k = i
    · rw [if_pos e]; exact bef_asym hb
    · rw [if_neg e]
      cases hx : bef H[k]! H[i]! with
      | false => rfl
      | true => rw [← hsib k h1 h2 h3 e, bef_trans hx hb]

theorem up_ok (H : List Ent) (i : Nat) (g : GdK H i) (hi : i < H.length) (hc : ∀ k, 0 < k → k < H.length → (k - 1) / 2 = i → okK H k) : HeapOk (upF H i) := by
  induction i using Nat.strongRecOn generalizing H with
  | _ i ih =>
    rw [upF]
    split
    · rename_i hcnd
      obtain ⟨s1, s2⟩ := up_step g hi hcnd.1 hcnd.2
      exact ih ((i - 1) / 2) (by omega) _ s1 (by rw [swapL_len]; omega) (fun k h1 h2 h3 => s2 k h1 (by rwa [swapL_len] at h2) h3)
    · rename_i hcnd
      intro k h1 h2
      by_cases e : k = i
      · subst e
        unfold okK
        cases hx : bef H[k]! H[(k - 1) / 2]! with
        | false => rfl
        | true => exact absurd ⟨h1, hx⟩ hcnd
      · by_cases e2 : (k - 1) / 2 = i
        · exact hc k h1 h2 e2
        · exact g.a k h1 h2 e e2

theorem up_dn {H : List Ent} {i : Nat} (g : GdK H i) (hi : i < H.length) : DnK (upF H i) i := by
  rw [upF]
  split
  · rename_i hcnd
    obtain ⟨s1, s2⟩ := up_step g hi hcnd.1 hcnd.2
    exact (up_ok _ _ s1 (by rw [swapL_len]; omega) (fun k h1 h2 h3 => s2 k h1 (by rwa [swapL_len] at h2) h3)).dn i
  · rename_i hcnd
    refine ⟨fun k h1 h2 h3 => ?_, g.b⟩
    by_cases e : k = i
    · subst e
      unfold okK
      cases hx : bef H[k]! H[(k - 1) / 2]! with
      | false => rfl
      | true => exact absurd ⟨h1, hx⟩ hcnd
    · exact g.a k h1 h2 e h3

theorem child_spec (H : List Ent) (i : Nat) : (childF H i = i ∧ ∀ k, 0 < k → k < H.length → (k - 1) / 2 = i → bef H[k]! H[i]! = false) ∨
    (i < childF H i ∧ childF H i < H.length ∧ (childF H i - 1) / 2 = i ∧ bef H[childF H i]! H[i]! = true ∧ ∀ k, 0 < k → k < H.length → (k - 1) / 2 = i → bef H[k]! H[childF H i]! = false) := by
  have hk : ∀ k, 0 < k → (k - 1) / 2 = i → k = 2 * i + 1 ∨ k = 2 * i + 2 := fun k h1 h2 => by omega
  have hA : (childA H i = i ∧ (2 * i + 1 < H.length → bef H[2 * i + 1]! H[i]! = false)) ∨ (childA H i = 2 * i + 1 ∧ 2 * i + 1 < H.length ∧ bef H[2 * i + 1]! H[i]! = true) := by
    unfold childA
    split
    · rename_i e; exact .inr ⟨rfl, e.1, e.2⟩
    · rename_i e
      refine .inl ⟨rfl, fun h => ?_⟩
      cases hx : bef H[2 * i + 1]! H[i]! with
      | false => rfl
      | true => exact absurd ⟨h, hx⟩ e
  unfold childF
  split
  · rename_i e
    rcases hA with ⟨e1, e2⟩ | ⟨e1, e2, e3⟩
    · rw [e1] at e
      refine .inr ⟨by omega, e.1, by omega, e.2, fun k h1 h2 h3 => ?_⟩
      rcases hk k h1 h3 with rfl | rfl
      · exact bef_ntrans (e2 h2) (bef_asym e.2)
      · exact bef_irr _
    · rw [e1] at e
      refine .inr ⟨by omega, e.1, by omega, bef_trans e.2 e3, fun k h1 h2 h3 => ?_⟩
      rcases hk k h1 h3 with rfl | rfl
      · exact bef_asym e.2
      · exact bef_irr _
  · rename_i e
    rcases hA with ⟨e1, e2⟩ | ⟨e1, e2, e3⟩
    · rw [e1] at e ⊢
      refine .inl ⟨rfl, fun k h1 h2 h3 => ?_⟩
      rcases hk k h1 h3 with rfl | rfl
      · exact e2 h2
      · cases hx : bef H[2 * i + 2]! H[i]! with
        | false => rfl
        | true => exact absurd ⟨h2, hx⟩ e
    · rw [e1] at e ⊢
      refine .inr ⟨by omega, e2, by omega, e3, fun k h1 h2 h3 => ?_⟩
      rcases hk k h1 h3 with rfl | rfl
      · exact bef_irr _
      · cases hx : bef H[2 * i + 2]! H[2 * i + 1]! with
        | false => rfl
        | true => exact absurd ⟨h2, hx⟩ e

theorem dn_step {H : List Ent} {i : Nat} (g : DnK H i) (hi : i < H.length) (h1 : i < childF H i) (h2 : childF H i < H.length) (h3 : (childF H i - 1) / 2 = i) (h4 : bef H[childF H i]! H[i]! = true)
    (h5 : ∀ k, 0 < k → k < H.length → (k - 1) / 2 = i → bef H[k]! H[childF H i]! = false) : DnK (swapL H i (childF H i)) (childF H i) := by
  generalize childF H i = c at *
  have hs := swapL_get hi h2
  refine ⟨fun k k1 k2 k3 => ?_, fun k k1 k2 k3 k4 => ?_⟩
  · rw [swapL_len] at k2
    unfold okK
    rw [hs k, hs ((k - 1) / 2), if_neg k3]
    by_cases e1 : k = c
    · subst e1
      rw [if_pos rfl, h3, if_pos rfl]
      exact bef_asym h4
    · rw [if_neg e1]
      by_cases e2 : k = i
      · subst e2
        have e3 : (k - 1) / 2 ≠ k := by omega
        rw [if_pos rfl, if_neg e3]
        exact g.b c (by omega) h2 h3 k1
      · rw [if_neg e2]
        by_cases e3 : (k - 1) / 2 = i
        · rw [if_pos e3]; exact h5 k k1 k2 e3
        · rw [if_neg e3]; exact g.a k k1 k2 e3
  · rw [swapL_len] at k2
    have e1 : k ≠ c := by omega
    have e2 : k ≠ i := by omega
    have e3 : i ≠ c := by omega
    rw [h3, hs k, hs i, if_neg e1, if_neg e2, if_neg e3, if_pos rfl]
    have := g.a k k1 k2 (by omega)
    unfold okK at this
    rwa [k3] at this

theorem dn_ok (m : Nat) : ∀ (H : List Ent) (i : Nat), H.length - i ≤ m → DnK H i → i < H.length → HeapOk (downF H i) := by
  induction m with
  | zero => intro H i h1 _ h2; omega
  | succ m ih =>
    intro H i hm g hi
    rw [downF]
    rcases child_spec H i with ⟨e1, e2⟩ | ⟨e1, e2, e3, e4, e5⟩
    · rw [dif_pos e1]
      intro k h1 h2
      by_cases e : (k - 1) / 2 = i
      · unfold okK; rw [e]; exact e2 k h1 h2 e
      · exact g.a k h1 h2 e
    · rw [dif_neg (by omega)]
      exact ih _ _ (by rw [swapL_len]; omega) (dn_step g hi e1 e2 e3 e4 e5) (by rw [swapL_len]; exact e2)

/-! Permutations -/

theorem upF_perm (H : List Ent) (i : Nat) (hi : i < H.length) : (upF H i).Perm H := by
  induction i using Nat.strongRecOn generalizing H with
  | _ i ih =>
    rw [upF]
    split
    · rename_i hcnd
      exact (ih ((i - 1) / 2) (by omega) _ (by rw [swapL_len]; omega)).trans (swapL_perm hi (by omega))
    · exact .refl _
theorem downF_perm (m : Nat) : ∀ (H : List Ent) (i : Nat), H.length - i ≤ m → i < H.length → (downF H i).Perm H := by
  induction m with
  | zero => intro H i h1 h2; omega
  | succ m ih =>
    intro H i hm hi
    rw [downF]
    rcases child_spec H i with ⟨e1, _⟩ | ⟨e1, e2, _⟩
    · rw [dif_pos e1]
    · rw [dif_neg (by omega)]
      exact (ih _ _ (by rw [swapL_len]; omega) (by rw [swapL_len]; exact e2)).trans (swapL_perm hi e2)

/-- The first one comes ahead of all. -/
theorem heap_first {H : List Ent} (x : HeapOk H) : ∀ k, k < H.length → bef H[k]! H[0]! = false := by
  intro k
  induction k using Nat.strongRecOn with
  | _ k ih =>
    intro hk
    by_cases e : k = 0
    · subst e; exact bef_irr _
    · exact bef_ntrans (x k (by omega) hk) (ih ((k - 1) / 2) (by omega) (by omega))

/-- Putting -/
theorem put_ok {H : List Ent} (x : HeapOk H) (y : Ent) : HeapOk (upF (H ++ [y]) H.length) := by
  have hg : ∀ k, k < H.length → (H ++ [y])[k]! = H[k]! := fun k hk => by
    rw [getElem!_def, getElem!_def, List.getElem?_append_left hk]
  have hlen : (H ++ [y]).length = H.length + 1 := by simp
  refine up_ok _ _ ⟨fun k h1 h2 h3 h4 => ?_, fun k h1 h2 h3 h4 => ?_⟩ (by omega) (fun k h1 h2 h3 => by omega)
  · unfold okK
    rw [hg k (by omega), hg _ (by omega)]
    exact x k h1 (by omega)
  · omega

theorem cut_perm {H : List Ent} {i : Nat} (hi : i < H.length) : (H[i]! :: (H.set i H[H.length - 1]!).take (H.length - 1)).Perm H := by
  have hl : H.length - 1 < H.length := by omega
  have e : swapL H i (H.length - 1) = (H.set i H[H.length - 1]!).take (H.length - 1) ++ [H[i]!] := by
    unfold swapL
    have hlen : H.length - 1 < (H.set i H[H.length - 1]!).length := by rw [List.length_set]; exact hl
    rw [List.set_eq_take_append_cons_drop, if_pos hlen]
    congr 1
    rw [List.drop_eq_nil_of_le (by rw [List.length_set]; omega)]
  refine List.Perm.trans ?_ (swapL_perm hi hl)
  rw [e]
  exact (List.perm_append_singleton _ _).symm

/-- Taking out -/
theorem out_ok {H : List Ent} (x : HeapOk H) {i : Nat} (hi : i < H.length) : HeapOk (outF H i) ∧ (H[i]! :: outF H i).Perm H := by
  have hcut := cut_perm hi
  have hlen : ((H.set i H[H.length - 1]!).take (H.length - 1)).length = H.length - 1 := by simp
  have hget : ∀ k, k < H.length - 1 → ((H.set i H[H.length - 1]!).take (H.length - 1))[k]! = if k = i then H[H.length - 1]! else H[k]! := fun k hk => by
    rw [getElem!_def, List.getElem?_take, if_pos hk]
    by_cases e : k = i
    · subst e; rw [if_pos rfl, List.getElem?_set_self hi]
    · rw [if_neg e, List.getElem?_set_ne (fun q => e q.symm), ← getElem!_def]
  generalize hL : (H.set i H[H.length - 1]!).take (H.length - 1) = L at hcut hlen hget
  have hof : outF H i = if i < H.length - 1 then downF (upF L i) i else L := by unfold outF; rw [hL]
  rw [hof]
  split
  · rename_i hlt
    have hup := upF_perm L i (by omega)
    have hul : (upF L i).length = H.length - 1 := by rw [hup.length_eq, hlen]
    have hdn := downF_perm _ (upF L i) i (Nat.le_refl _) (by omega)
    refine ⟨dn_ok _ _ _ (Nat.le_refl _) (up_dn ⟨fun k h1 h2 h3 h4 => ?_, fun k h1 h2 h3 h4 => ?_⟩ (by omega)) (by omega), ((hdn.trans hup).cons _).trans hcut⟩
    · unfold okK
      rw [hget k (by omega), hget _ (by omega), if_neg h3, if_neg h4]
      exact x k h1 (by omega)
    · rw [hget k (by omega), hget _ (by omega), if_neg (by omega), if_neg (by omega)]
      have e1 := x k h1 (by omega)
      have e2 := x i h4 hi
      unfold okK at e1 e2
      rw [h3] at e1
      exact bef_ntrans e1 e2
  · rename_i hlt
    refine ⟨fun k h1 h2 => ?_, hcut⟩
    unfold okK
    rw [hget k (by omega), hget _ (by omega), if_neg (by omega), if_neg (by omega)]
    exact x k h1 (by omega)

end Go.Proofs.Ytfjnnbdgehaeaaa

namespace Go.Proofs.Ytfjnnbdgehaeaaa
open Go.X

/-- Both have the same entries E, in the order in which they were put. -/
structure TwoE (E H : List Ent) (n : Int) (L : List Itm) : Prop where
  it : E.map Ent.it = L
  pm : H.Perm E
  up : E.Pairwise fun x y => x.q < y.q
  le : ∀ x, x ∈ E → x.q ≤ n
  td : (E.map (·.t)).Nodup
  ok : HeapOk H

theorem get_mem {α : Type} [Inhabited α] {l : List α} {i : Nat} (h : i < l.length) : l[i]! ∈ l := by
  have : l[i]! = l[i] := by simp [h]
  rw [this]; exact List.getElem_mem h

section
variable {E H : List Ent} {n t now : Int} {L : List Itm} {y : Itm}

theorem TwoE.lenE (x : TwoE E H n L) : E.length = L.length := by rw [← x.it, List.length_map]
theorem TwoE.lenH (x : TwoE E H n L) : H.length = L.length := by rw [x.pm.length_eq, x.lenE]
theorem up_nodup (h : E.Pairwise fun x y => x.q < y.q) : (qs E).Nodup := by
  rw [List.Nodup, qs, List.pairwise_map]
  exact h.imp fun h => by omega
theorem TwoE.qE (x : TwoE E H n L) : (qs E).Nodup := up_nodup x.up
theorem TwoE.qH (x : TwoE E H n L) : (qs H).Nodup := (x.pm.map _).nodup_iff.2 x.qE
theorem TwoE.getL (x : TwoE E H n L) {i : Nat} (h : i < E.length) : L[i]! = E[i]!.it := by
  have h2 : i < L.length := by rw [← x.lenE]; exact h
  have e1 : L[i]! = L[i] := by simp [h2]
  have e2 : E[i]! = E[i] := by simp [h]
  rw [e1, e2]
  have := x.it
  subst this
  simp
theorem idx_inj {l : List Int} (h : l.Nodup) {i j : Nat} (hi : i < l.length) (hj : j < l.length) (e : l[i] = l[j]) : i = j := by
  rcases Nat.lt_trichotomy i j with h1 | h1 | h1
  · exact absurd e (List.pairwise_iff_getElem.1 h i j hi hj h1)
  · exact h1
  · exact absurd e.symm (List.pairwise_iff_getElem.1 h j i hj hi h1)
theorem q_inj (hq : (qs E).Nodup) {a b : Ent} (ha : a ∈ E) (hb : b ∈ E) (e : a.q = b.q) : a = b := by
  obtain ⟨i, hi, rfl⟩ := List.getElem_of_mem ha
  obtain ⟨j, hj, rfl⟩ := List.getElem_of_mem hb
  have : i = j := idx_inj hq (by simpa using hi) (by simpa using hj) (by simpa using e)
  subst this; rfl
theorem t_inj (hq : (E.map (·.t)).Nodup) {i j : Nat} (hi : i < E.length) (hj : j < E.length) (e : E[i]!.t = E[j]!.t) : i = j := by
  have e1 : E[i]! = E[i] := by simp [hi]
  have e2 : E[j]! = E[j] := by simp [hj]
  rw [e1, e2] at e
  exact idx_inj hq (by simpa using hi) (by simpa using hj) (by simpa using e)

theorem posT_iff : 0 ≤ posT H t ↔ ∃ x, x ∈ H ∧ x.t = t := by
  unfold posT
  have : H.findIdx (fun x => decide (x.t = t)) < H.length ↔ ∃ x, x ∈ H ∧ x.t = t := by
    rw [List.findIdx_lt_length]; simp
  rw [← this]
  split <;> omega
theorem posD_iff : 0 ≤ posD L t ↔ ∃ x, x ∈ L ∧ x.t = t := by
  unfold posD
  have : L.findIdx (fun x => decide (x.t = t)) < L.length ↔ ∃ x, x ∈ L ∧ x.t = t := by
    rw [List.findIdx_lt_length]; simp
  rw [← this]
  split <;> omega
theorem posT_at (h : 0 ≤ posT H t) : H[(posT H t).toNat]!.t = t := by
  have hlt := posT_lt h
  unfold posT at *
  split at h
  · rename_i h1
    rw [if_pos h1, Int.toNat_natCast]
    have e1 : H[H.findIdx (fun x => decide (x.t = t))]! = H[H.findIdx (fun x => decide (x.t = t))] := by simp [h1]
    rw [e1]
    have := List.findIdx_getElem (w := h1)
    simpa using this
  · omega
theorem posD_at (h : 0 ≤ posD L t) : L[(posD L t).toNat]!.t = t := by
  have hlt := posD_lt h
  unfold posD at *
  split at h
  · rename_i h1
    rw [if_pos h1, Int.toNat_natCast]
    have e1 : L[L.findIdx (fun x => decide (x.t = t))]! = L[L.findIdx (fun x => decide (x.t = t))] := by simp [h1]
    rw [e1]
    have := List.findIdx_getElem (w := h1)
    simpa using this
  · omega
theorem TwoE.pos (x : TwoE E H n L) : 0 ≤ posT H t ↔ 0 ≤ posD L t := by
  rw [posT_iff, posD_iff, ← x.it]
  constructor
  · rintro ⟨a, ha, rfl⟩
    exact ⟨a.it, List.mem_map.2 ⟨a, x.pm.mem_iff.1 ha, rfl⟩, rfl⟩
  · rintro ⟨b, hb, rfl⟩
    obtain ⟨a, ha, rfl⟩ := List.mem_map.1 hb
    exact ⟨a, x.pm.mem_iff.2 ha, rfl⟩

/-- Put -/
theorem TwoE.put (x : TwoE E H n L) : putE H y = putDE L y ∧ ∃ E', TwoE E' (putF H n y) (putN H n y) (putD L y) := by
  have e : putE H y = putDE L y := by
    unfold putE putDE
    have := x.pos (t := y.t)
    split
    · rfl
    · by_cases h : 0 ≤ posT H y.t
      · rw [if_pos h, if_pos (this.1 h)]
      · rw [if_neg h, if_neg (fun q => h (this.2 q))]
  refine ⟨e, ?_⟩
  unfold putF putN putD
  rw [← e]
  split
  · rename_i h0
    have hno : ¬ 0 ≤ posT H y.t := fun h => by
      unfold putE at h0
      split at h0
      · omega
      · first | omega | (rw [if_pos h] at h0; omega)
    refine ⟨E ++ [y.en (n + 1)], ?_, ?_, ?_, ?_, ?_, put_ok x.ok _⟩
    · rw [List.map_append, x.it]; rfl
    · exact (upF_perm _ _ (by simp)).trans (x.pm.append_right _)
    · rw [List.pairwise_append]
      refine ⟨x.up, by simp, fun a ha b hb => ?_⟩
      simp at hb; subst hb
      have := x.le a ha
      show a.q < n + 1
      omega
    · intro a ha
      rcases List.mem_append.1 ha with ha | ha
      · have := x.le a ha; omega
      · simp at ha; subst ha; exact Int.le_refl _
    · rw [List.map_append, List.nodup_append]
      refine ⟨x.td, by simp, fun a ha b hb => ?_⟩
      simp at hb; subst hb
      intro e
      subst e
      obtain ⟨z, hz, hz2⟩ := List.mem_map.1 ha
      exact hno (posT_iff.2 ⟨z, x.pm.mem_iff.2 hz, hz2⟩)
  · exact ⟨E, x⟩

/-- An entry taken out of both. -/
theorem TwoE.cut (x : TwoE E H n L) {i j : Nat} (hi : i < H.length) (hj : j < E.length) (e : H[i]! = E[j]!) : TwoE (E.take j ++ E.drop (j + 1)) (outF H i) n (L.take j ++ L.drop (j + 1)) := by
  obtain ⟨o1, o2⟩ := out_ok x.ok hi
  have hE : (E[j]! :: (E.take j ++ E.drop (j + 1))).Perm E := by
    have e2 : E[j]! = E[j] := by simp [hj]
    have h3 : E = E.take j ++ E[j] :: E.drop (j + 1) := by
      rw [← List.drop_eq_getElem_cons hj, List.take_append_drop]
    rw [e2]
    conv => rhs; rw [h3]
    exact List.perm_middle.symm
  have hsub : (E.take j ++ E.drop (j + 1)).Sublist E := by
    have h3 : E = E.take j ++ E[j] :: E.drop (j + 1) := by
      rw [← List.drop_eq_getElem_cons hj, List.take_append_drop]
    conv => rhs; rw [h3]
    exact (List.Sublist.refl _).append (List.sublist_cons_self _ _)
  refine ⟨?_, ?_, x.up.sublist hsub, fun a ha => x.le a (hsub.subset ha), x.td.sublist (hsub.map _), o1⟩
  · rw [List.map_append, List.map_take, List.map_drop, x.it]
  · rw [e] at o2
    exact (o2.trans (x.pm.trans hE.symm)).cons_inv

/-- Drop -/
theorem TwoE.drp (x : TwoE E H n L) : drpB H t = drpDB L t ∧ ∃ E', TwoE E' (drpF H t) n (drpD L t) := by
  have e : drpB H t = drpDB L t := by
    unfold drpB drpDB
    rw [decide_eq_decide]; exact x.pos
  refine ⟨e, ?_⟩
  unfold drpF drpD
  rw [← e]
  split
  · rename_i h
    have h1 : 0 ≤ posT H t := by simpa [drpB] using h
    have h2 := x.pos.1 h1
    have i1 := posT_lt h1
    have i2 := posD_lt h2
    rw [← x.lenE] at i2
    refine ⟨_, x.cut i1 i2 ?_⟩
    have m1 := x.pm.mem_iff.1 (get_mem i1)
    obtain ⟨j, hj, hje⟩ := List.getElem_of_mem m1
    have hj2 : E[j]! = H[(posT H t).toNat]! := by rw [← hje]; simp [hj]
    have : j = (posD L t).toNat := t_inj x.td hj i2 (by
      rw [hj2, posT_at h1]
      have := posD_at h2
      rw [x.getL i2] at this
      exact this.symm)
    rw [← this, hj2]
  · exact ⟨E, x⟩

theorem aheD_bef {a b : Ent} (h : b.q < a.q) : aheD a.it b.it = bef a b := by
  rw [Bool.eq_iff_iff, bef_iff]
  unfold aheD Ent.it
  rcases a with ⟨_, f, _, _⟩
  rcases b with ⟨_, g, _, _⟩
  cases f <;> cases g <;> simp at * <;> omega

/-- The document's first one is the one that comes ahead of all. -/
theorem fir_min (hu : E.Pairwise fun x y => x.q < y.q) : ∀ k, 0 < k → k ≤ E.length → ∀ j, j < k → bef E[j]! E[(firN (E.map Ent.it) k).toNat]! = false
  | 0, h, _ => by omega
  | k + 1, _, hk => by
    intro j hj
    have hget : ∀ i, i < E.length → (E.map Ent.it)[i]! = E[i]!.it := fun i hi => by simp [hi]
    have hlt := firN_lt (E.map Ent.it) k
    have hq : ∀ i, i < k → E[i]!.q < E[k]!.q := fun i hi => by
      have := List.pairwise_iff_getElem.1 hu i k (by omega) (by omega) hi
      have e1 : E[i]! = E[i]'(by omega) := by simp [show i < E.length by omega]
      have e2 : E[k]! = E[k]'(by omega) := by simp [show k < E.length by omega]
      rw [e1, e2]; exact this
    simp only [firN]
    by_cases hk0 : k = 0
    · subst hk0
      have : j = 0 := by omega
      subst this
      simp only [firN]
      exact bef_irr _
    · have hnn := firN_nn (E.map Ent.it) k (by omega)
      rw [if_neg (by omega)]
      have hfl : (firN (E.map Ent.it) k).toNat < k := by omega
      have ih := fir_min hu k (by omega) (by omega)
      have hab := aheD_bef (hq _ hfl)
      rw [← hget k (by omega), ← hget _ (by omega)] at hab
      rw [hab]
      by_cases hb : bef E[k]! E[(firN (E.map Ent.it) k).toNat]! = true
      · rw [if_pos hb, Int.toNat_natCast]
        by_cases e : j = k
        · subst e; exact bef_irr _
        · exact bef_ntrans (ih j (by omega)) (bef_asym hb)
      · rw [if_neg hb]
        by_cases e : j = k
        · subst e; simpa using hb
        · exact ih j (by omega)

theorem TwoE.first (x : TwoE E H n L) (h : 0 < H.length) : (firN L L.length).toNat < E.length ∧ H[0]! = E[(firN L L.length).toNat]! := by
  have hl := x.lenH
  have hle := x.lenE
  have hf := fir_in (L := L) (by omega)
  have hf2 : (firN L L.length).toNat < E.length := by omega
  refine ⟨hf2, ?_⟩
  have m1 := x.pm.mem_iff.1 (get_mem h)
  have m2 := get_mem hf2
  have h1 : bef E[(firN L L.length).toNat]! H[0]! = false := by
    have m3 := x.pm.mem_iff.2 m2
    obtain ⟨k, hk, hke⟩ := List.getElem_of_mem m3
    have := heap_first x.ok k hk
    rw [← hke]
    have e : H[k]! = H[k] := by simp [hk]
    rwa [e] at this
  have h2 : bef H[0]! E[(firN L L.length).toNat]! = false := by
    obtain ⟨j, hj, hje⟩ := List.getElem_of_mem m1
    have := fir_min x.up E.length (by omega) (Nat.le_refl _) j hj
    rw [x.it, hle] at this
    rw [← hje]
    have e : E[j]! = E[j] := by simp [hj]
    rwa [e] at this
  refine q_inj x.qE m1 m2 ?_
  by_cases e : H[0]!.q = E[(firN L L.length).toNat]!.q
  · exact e
  · rcases bef_tri e with e | e
    · rw [h2] at e; cases e
    · rw [h1] at e; cases e

/-- Due -/
theorem TwoE.due (x : TwoE E H n L) : dueB H now = dueDB L now ∧ dueI H now = dueDI L now := by
  have hl := x.lenH
  have hB : dueB H now = dueDB L now ∧ (0 < H.length → H[0]!.it = L[(firN L L.length).toNat]!) := by
    by_cases h0 : H.length = 0
    · refine ⟨?_, fun h => by omega⟩
      have : L.length = 0 := by omega
      rw [dueB, if_pos h0, dueDB, this, if_pos (by simp [firN])]
    · obtain ⟨f1, f2⟩ := x.first (by omega)
      have f3 := x.getL f1
      have hnn := firN_nn L L.length (by omega)
      refine ⟨?_, fun _ => by rw [f2, f3]⟩
      rw [dueB, if_neg h0, dueDB, if_neg (by omega), f3, f2]; rfl
  refine ⟨hB.1, ?_⟩
  unfold dueI dueDI
  rw [hB.1]
  split
  · rename_i h
    refine hB.2 ?_
    rcases Nat.eq_zero_or_pos H.length with e | e
    · rw [← hB.1, dueB, if_pos e] at h; cases h
    · exact e
  · rfl

/-- Take -/
theorem TwoE.tak (x : TwoE E H n L) : ∃ E', TwoE E' (takF H now) n (takD L now) := by
  obtain ⟨e1, e2⟩ := x.due (now := now)
  unfold takF takD
  rw [← e1]
  split
  · rename_i h
    have hpos : 0 < H.length := by
      rcases Nat.eq_zero_or_pos H.length with e | e
      · rw [dueB, if_pos e] at h; cases h
      · exact e
    obtain ⟨f1, f2⟩ := x.first hpos
    have f3 := x.getL f1
    have hd : dueDI L now = L[(firN L L.length).toNat]! := by rw [dueDI, ← e1, if_pos h]
    have hp : 0 ≤ posD L (dueDI L now).t := posD_iff.2 ⟨dueDI L now, by rw [hd]; exact get_mem (by have := x.lenE; omega), rfl⟩
    have hi := posD_lt hp
    have he : (posD L (dueDI L now).t).toNat = (firN L L.length).toNat := t_inj x.td (by rw [x.lenE]; exact hi) f1 (by
      have := posD_at hp
      rw [x.getL (by rw [x.lenE]; exact hi)] at this
      rw [hd, f3] at this
      rw [hd, f3]
      exact this)
    have hb : drpDB L (dueDI L now).t = true := by simp [drpDB, hp]
    rw [drpD, if_pos hb, he]
    exact ⟨_, x.cut hpos f1 f2⟩
  · exact ⟨E, x⟩
end

end Go.Proofs.Ytfjnnbdgehaeaaa

namespace Go.Proofs.Ytfjnnbdgehaeaaa
open Go.X

theorem cut_at {E : List Ent} {f : Nat} (hf : f < E.length) : (E[f]! :: (E.take f ++ E.drop (f + 1))).Perm E ∧ (E.take f ++ E.drop (f + 1)).Sublist E := by
  have e2 : E[f]! = E[f] := by simp [hf]
  have h3 : E = E.take f ++ E[f] :: E.drop (f + 1) := by
    rw [← List.drop_eq_getElem_cons hf, List.take_append_drop]
  refine ⟨?_, ?_⟩
  · rw [e2]
    conv => rhs; rw [h3]
    exact List.perm_middle.symm
  · conv => rhs; rw [h3]
    exact (List.Sublist.refl _).append (List.sublist_cons_self _ _)

theorem all_sort : ∀ (n : Nat) (E : List Ent), E.length = n → E.Pairwise (fun x y => x.q < y.q) → (E.map (·.t)).Nodup → allN n (E.map Ent.it) = (sortB E).map Ent.it
  | 0, E, h, _, _ => by
    have : E = [] := List.eq_nil_of_length_eq_zero h
    subst this; rfl
  | n + 1, E, h, hu, ht => by
    have hlen : (E.map Ent.it).length = E.length := by simp
    have hf := fir_in (L := E.map Ent.it) (by omega)
    have hmin := fir_min hu E.length (by omega) (Nat.le_refl _)
    rw [hlen] at hf
    have hget : ∀ i, i < E.length → (E.map Ent.it)[i]! = E[i]!.it := fun i hi => by simp [hi]
    rw [allN, if_neg (by omega)]
    unfold firI
    rw [hlen]
    generalize hfe : (firN (E.map Ent.it) E.length).toNat = f at hf hmin ⊢
    rw [hget f hf]
    have hp : posD (E.map Ent.it) E[f]!.it.t = f := posD_some (by omega) (by rw [hget f hf]) (fun j hj => by
      rw [hget j (by omega)]
      exact fun e => by have := t_inj ht (by omega) hf e; omega)
    have hb : drpDB (E.map Ent.it) E[f]!.it.t = true := by unfold drpDB; rw [hp]; simp
    obtain ⟨c1, c2⟩ := cut_at hf
    rw [drpD, if_pos hb, hp, Int.toNat_natCast, ← List.map_take, ← List.map_drop, ← List.map_append]
    have hl' : (E.take f ++ E.drop (f + 1)).length = n := by
      have := c1.length_eq
      simp only [List.length_cons] at this
      omega
    have hu' := hu.sublist c2
    have ht' : ((E.take f ++ E.drop (f + 1)).map (·.t)).Nodup := ht.sublist (c2.map _)
    rw [all_sort n _ hl' hu' ht']
    generalize E.take f ++ E.drop (f + 1) = E' at c1 c2 hl' hu' ht'
    have hq : (qs (E[f]! :: E')).Nodup := (c1.map _).nodup_iff.2 (up_nodup hu)
    have : sortB E = E[f]! :: sortB E' := by
      refine up_uniq ((sortB_perm E).trans (c1.symm.trans ((sortB_perm E').symm.cons _))) (sortB_up E (up_nodup hu)) ?_
      refine .cons (fun z hz => ?_) (sortB_up E' (up_nodup hu'))
      have hz2 := (sortB_perm E').mem_iff.1 hz
      have hne : E[f]!.q ≠ z.q := fun e => by
        have h1 := (List.nodup_cons.1 hq).1
        exact h1 (List.mem_map.2 ⟨z, hz2, e.symm⟩)
      refine (bef_tri hne).resolve_right ?_
      obtain ⟨j, hj, hje⟩ := List.getElem_of_mem (c2.subset hz2)
      have := hmin j hj
      rw [show E[j]! = z by rw [← hje]; simp [hj]] at this
      rw [this]; simp
    rw [this]; rfl

/-- What Next answers. -/
structure Nx (S : List Ent) (r : Int × Bool) : Prop where
  a : r.2 = true ↔ ∃ x, x ∈ S ∧ x.f = false
  b : r.2 = true → (∃ x, x ∈ S ∧ x.f = false ∧ x.d = r.1) ∧ ∀ x, x ∈ S → x.f = false → r.1 ≤ x.d
  c : r.2 = false → r.1 = 0
theorem Nx.uniq {S S' : List Ent} {r r' : Int × Bool} (h : Nx S r) (h' : Nx S' r') (e : ∀ x, x ∈ S ↔ x ∈ S') : r = r' := by
  have e2 : r.2 = r'.2 := by
    rw [Bool.eq_iff_iff, h.a, h'.a]
    exact ⟨fun ⟨x, h1, h2⟩ => ⟨x, (e x).1 h1, h2⟩, fun ⟨x, h1, h2⟩ => ⟨x, (e x).2 h1, h2⟩⟩
  refine Prod.ext ?_ e2
  cases hr : r.2 with
  | false => rw [h.c hr, h'.c (by rw [← e2, hr])]
  | true =>
    obtain ⟨⟨x, x1, x2, x3⟩, x4⟩ := h.b hr
    obtain ⟨⟨y, y1, y2, y3⟩, y4⟩ := h'.b (by rw [← e2, hr])
    have h1 := x4 y ((e y).2 y1) y2
    have h2 := y4 x ((e x).1 x1) x2
    omega
theorem nxF_spec : ∀ S : List Ent, S.Pairwise (fun x y => bef x y = true) → Nx S (nxF S)
  | [], _ => ⟨by simp [nxF], by simp [nxF], by simp [nxF]⟩
  | x :: r, h => by
    have ih := nxF_spec r h.of_cons
    cases hf : x.f with
    | false =>
      have e : nxF (x :: r) = (x.d, true) := by unfold nxF; rw [List.find?_cons, hf]; rfl
      rw [e]
      refine ⟨⟨fun _ => ⟨x, by simp, hf⟩, fun _ => rfl⟩, fun _ => ⟨⟨x, by simp, hf, rfl⟩, fun y hy hyf => ?_⟩, fun h => by cases h⟩
      rcases List.mem_cons.1 hy with rfl | hy
      · exact Int.le_refl _
      · have := List.rel_of_pairwise_cons h hy
        rw [bef_iff, hf, hyf] at this
        simp at this
        show x.d ≤ y.d
        omega
    | true =>
      have e : nxF (x :: r) = nxF r := by unfold nxF; rw [List.find?_cons, hf]; rfl
      rw [e]
      have hm : ∀ y : Ent, y.f = false → (y ∈ x :: r ↔ y ∈ r) := fun y hy => by
        refine ⟨fun h => ?_, fun h => by simp [h]⟩
        rcases List.mem_cons.1 h with rfl | h
        · rw [hf] at hy; cases hy
        · exact h
      refine ⟨ih.a.trans ⟨fun ⟨y, h1, h2⟩ => ⟨y, (hm y h2).2 h1, h2⟩, fun ⟨y, h1, h2⟩ => ⟨y, (hm y h2).1 h1, h2⟩⟩, fun hr => ?_, ih.c⟩
      obtain ⟨⟨y, y1, y2, y3⟩, y4⟩ := ih.b hr
      exact ⟨⟨y, (hm y y2).2 y1, y2, y3⟩, fun z hz hzf => y4 z ((hm z hzf).1 hz) hzf⟩
theorem nxtN_spec (E : List Ent) : ∀ k, k ≤ E.length → Nx (E.take k) (nxtN (E.map Ent.it) k)
  | 0, _ => ⟨by simp [nxtN], by simp [nxtN], by simp [nxtN]⟩
  | k + 1, hk => by
    have ih := nxtN_spec E k (by omega)
    have hg : (E.map Ent.it)[k]! = E[k]!.it := by simp [show k < E.length by omega]
    have htk : E.take (k + 1) = E.take k ++ [E[k]!] := by
      rw [List.take_add_one, List.getElem?_eq_getElem (by omega)]
      have : E[k]! = E[k] := by simp [show k < E.length by omega]
      rw [this]; rfl
    have hmem : ∀ x, x ∈ E.take (k + 1) ↔ x ∈ E.take k ∨ x = E[k]! := fun x => by rw [htk]; simp
    rw [nxtN, hg]
    generalize nxtN (E.map Ent.it) k = r at ih
    have hif : E[k]!.it.f = E[k]!.f := rfl
    have hid : E[k]!.it.d = E[k]!.d := rfl
    rw [hif, hid]
    by_cases hc : (!E[k]!.f && (!r.2 || decide (E[k]!.d < r.1))) = true
    · rw [if_pos hc]
      simp only [Bool.and_eq_true, Bool.not_eq_true', Bool.or_eq_true, decide_eq_true_eq] at hc
      refine ⟨⟨fun _ => ⟨E[k]!, (hmem _).2 (.inr rfl), hc.1⟩, fun _ => rfl⟩, fun _ => ⟨⟨E[k]!, (hmem _).2 (.inr rfl), hc.1, rfl⟩, fun x hx hxf => ?_⟩, fun h => by cases h⟩
      rcases (hmem x).1 hx with h1 | rfl
      · have hr : r.2 = true := ih.a.2 ⟨x, h1, hxf⟩
        have h2 := (ih.b hr).2 x h1 hxf
        rcases hc.2 with h3 | h3
        · rw [hr] at h3; cases h3
        · show E[k]!.d ≤ x.d
          omega
      · exact Int.le_refl _
    · rw [if_neg hc]
      have hc2 : E[k]!.f = false → r.2 = true ∧ r.1 ≤ E[k]!.d := fun h => by
        rw [h] at hc
        cases hr : r.2 with
        | false => rw [hr] at hc; simp at hc
        | true =>
          refine ⟨rfl, ?_⟩
          have : ¬ E[k]!.d < r.1 := fun q => hc (by rw [decide_eq_true q]; simp)
          omega
      refine ⟨⟨fun h => ?_, fun ⟨x, h1, h2⟩ => ?_⟩, fun hr => ?_, ih.c⟩
      · obtain ⟨x, h1, h2⟩ := ih.a.1 h
        exact ⟨x, (hmem x).2 (.inl h1), h2⟩
      · rcases (hmem x).1 h1 with h3 | rfl
        · exact ih.a.2 ⟨x, h3, h2⟩
        · exact (hc2 h2).1
      · obtain ⟨⟨y, y1, y2, y3⟩, y4⟩ := ih.b hr
        refine ⟨⟨y, (hmem y).2 (.inl y1), y2, y3⟩, fun z hz hzf => ?_⟩
        rcases (hmem z).1 hz with h3 | rfl
        · exact y4 z h3 hzf
        · exact (hc2 hzf).2

section
variable {E H : List Ent} {n t now : Int} {L : List Itm} {y : Itm}
theorem TwoE.all (x : TwoE E H n L) : (sortB H).map Ent.it = allD L := by
  rw [sortB_perm_eq x.pm x.qH, allD, ← x.it, List.length_map]
  exact (all_sort _ E rfl x.up x.td).symm
theorem TwoE.nxt (x : TwoE E H n L) : nxF (sortB H) = nxtN L L.length := by
  have h1 := nxF_spec (sortB H) (sortB_up H x.qH)
  have h2 := nxtN_spec E E.length (Nat.le_refl _)
  rw [x.it, List.take_length, x.lenE] at h2
  exact h1.uniq h2 fun a => by rw [(sortB_perm H).mem_iff, x.pm.mem_iff]
end

end Go.Proofs.Ytfjnnbdgehaeaaa

namespace Go.Proofs.Ytfjnnbdgehaeaaa
open Go.X

section
variable {h h' : Hp} {b bo q c p o : Nat} {E H : List Ent} {L K : List Itm} {n t now : Int} {ds B own oo : List Nat} {s sv : Value} {i k : Nat} {y : Itm}

/-- same -/
theorem c17 (x : QA h b H n own) (z : DA h bo L oo) (w : TwoE E H n L) (hl : L.length ≤ 90000) : C queE 17 [ptrV b, ptrV bo] h fun v h' => v = .bool true ∧ Ext h h' := by
  have hlH := w.lenH
  have hall := w.all
  have htk : takeM ((sortB H).map Ent.it) (-1) = allD L := by rw [takeM, if_neg (by omega), hall]
  have hal : (allD L).length ≤ L.length := allN_len _ _
  refine c_enter (fu := Try.f17) (by kernel_rfl) rfl ?_
  refine w_seq ?_
  refine w_region (by kernel_rfl) ?_
  refine o_assign gn rfl rfl ?_
  refine wl_end ?_
  refine w_seq ?_
  refine w_region (by kernel_rfl) ?_
  refine o_move gn rfl rfl ?_
  refine o_call [_, _] gn rfl rfl (by kernel_rfl) rfl (C.mono (c12 (most := -1) x w.qH (by omega)) ?_)
  rintro v h1 ⟨sv, B1, rfl, s1, f1, x1⟩
  rw [htk] at s1
  have z1 := z.ext x1
  have xA := x.ext x1
  obtain ⟨s, B, t1, t2, t3, t4, rfl⟩ := id z1
  obtain ⟨a, rfl⟩ := t2.val
  refine ⟨ag0, ?_⟩
  refine o_move gn rfl rfl ?_
  refine o_extract gn rfl rfl rfl ?_
  refine o_extract gn rfl rfl rfl ?_
  refine o_assign gn rfl rfl ?_
  refine o_assign gn rfl rfl ?_
  refine wl_end ?_
  refine w_seq ?_
  refine w_draw [(0, []), (1, []), (2, []), (4, []), (5, []), (6, []), (7, []), (8, []), (3, [7, 8]), (9, []), (10, []), (11, []), (12, []), (13, []), (14, []), (15, []), (16, []), (17, [])] (by kernel_rfl) (by kernel_rfl) (by kernel_rfl) (by kernel_rfl) ?_
  refine o_move gn rfl rfl ?_
  refine o_move gn rfl rfl ?_
  refine o_and (n := 8) rfl rfl rfl gn rfl (fun hb => by
      refine o_move (gy rfl rfl rfl hb) rfl rfl ?_
      refine o_move (gy rfl rfl rfl hb) rfl rfl ?_
      refine o_nilCheck (gy rfl rfl rfl hb) rfl rfl ?_
      refine o_fieldAddr (off := 0) (gy rfl rfl rfl hb) rfl rfl (by kernel_rfl) ?_
      refine o_load (gy rfl rfl rfl hb) rfl rfl (by kernel_rfl) t1 rfl ?_
      refine o_len (gy rfl rfl rfl hb) rfl rfl (by kernel_rfl) ?_
      refine o_call [_] (gy rfl rfl rfl hb) rfl rfl (by kernel_rfl) rfl (c_pure (c14 xA) ⟨(ag1 (ag_load (gy rfl rfl rfl hb) rfl (by kernel_rfl) t1 rfl rfl same_slice) (ag1 (ag_len (gy rfl rfl rfl hb) rfl (by kernel_rfl) rfl) ag0)), ?_⟩)
      refine o_eqi (gy rfl rfl rfl hb) rfl rfl rfl ?_
      exact wl_end ⟨rfl, rfl, 8, rfl, rfl⟩) ?_
  refine o_move gn rfl rfl ?_
  refine wl_split (dc := 23) rfl (fun hb23 => ?_) fun hb23 => ?_
  · skip
    refine o_move (gy rfl rfl rfl hb23) rfl rfl ?_
    refine o_move (gy rfl rfl rfl hb23) rfl rfl ?_
    refine o_call [_] (gy rfl rfl rfl hb23) rfl rfl (by kernel_rfl) rfl (C.mono (c22 z1 (by omega)) ?_)
    rintro v2 h2 ⟨B2, s2, f2, x2⟩
    refine ⟨ag0, ?_⟩
    refine o_call [_, _] (gy rfl rfl rfl hb23) rfl rfl (by kernel_rfl) rfl (c_pure (c21 (s1.ext x2).toC s2.toC (by omega)) ⟨ag0, ?_⟩)
    refine o_pickt gn rfl rfl hb23 rfl ?_
    refine o_assign gn rfl rfl ?_
    refine wl_end ?_
    refine w_ret ?_
    refine ⟨.inl rfl, _, rfl, ?_⟩
    exact ⟨by simp [oneOf], x1.trans x2⟩
  · skip
    refine wl_skips (n := 4) (dc := 23) (w := true) rfl hb23 rfl ?_
    refine o_pickf gn rfl rfl hb23 rfl ?_
    refine o_assign gn rfl rfl ?_
    refine wl_end ?_
    refine w_ret ?_
    refine ⟨.inl rfl, _, rfl, ?_⟩
    exfalso
    rw [hlH] at hb23
    simp at hb23
end

end Go.Proofs.Ytfjnnbdgehaeaaa


namespace Go.Proofs.Ytfjnnbdgehaeaaa
open Go.X

/-- Behind an act: both have the same again. -/
def DoAt (h h' : Hp) (b bo : Nat) (own oo : List Nat) (L : List Itm) (n : Int) : Prop :=
  ∃ E' H' n' L' own' oo', TwoE E' H' n' L' ∧ QA h' b H' n' own' ∧ DA h' bo L' oo' ∧ L'.length ≤ L.length + 1 ∧ n ≤ n' ∧ n' ≤ n + 1 ∧ ExtB (own ++ oo) h h' ∧ (∀ i, i ∈ own' → i ∈ own ∨ h.n ≤ i) ∧ (∀ i, i ∈ oo' → i ∈ oo ∨ h.n ≤ i) ∧ ∀ i, i ∈ own' → i ∉ oo'

section
variable {h h' h2 : Hp} {b bo q c p o : Nat} {E H : List Ent} {L K : List Itm} {n t now k m : Int} {ds B own oo : List Nat} {s sv : Value} {i : Nat} {y : Itm}

theorem DoAt.same (x : QA h b H n own) (z : DA h bo L oo) (w : TwoE E H n L) (hd : ∀ i, i ∈ own → i ∉ oo) (g : Ext h h') : DoAt h h' b bo own oo L n :=
  ⟨E, H, n, L, own, oo, w, x.ext g, z.ext g, by omega, by omega, by omega, g.b _, fun i hi => .inl hi, fun i hi => .inl hi, hd⟩
theorem drpD_le (L : List Itm) (t : Int) : (drpD L t).length ≤ L.length := by
  unfold drpD
  split
  · rw [List.length_append, List.length_take, List.length_drop]; omega
  · omega

/-- do -/
theorem c16 (x : QA h b H n own) (z : DA h bo L oo) (w : TwoE E H n L) (hd : ∀ i, i ∈ own → i ∉ oo) (hl : L.length ≤ 90000) (hn : 0 ≤ n ∧ n ≤ 90000) (_hm : -9223372036854775808 ≤ m ∧ m ≤ 9223372036854775807) :
    C queE 16 [ptrV b, ptrV bo, .agg #[iV k, iV y.t, .bool y.f, iV y.d, iV m]] h fun v h' => v = .bool true ∧ DoAt h h' b bo own oo L n := by
  have hlH := w.lenH
  have hn0 : h.n ∉ own := fun e => by have := x.lt _ e; omega
  have hn1 : h.n ∉ oo := fun e => by have := z.lt _ e; omega
  refine c_enter (fu := Try.f16) (by kernel_rfl) rfl ?_
  refine w_seq ?_
  refine w_region (by kernel_rfl) ?_
  refine o_box gn rfl rfl ?_
  refine wl_at (fun h2 => h2.get h.n = some (.cells [iV k, iV y.t, .bool y.f, iV y.d, iV m] 48 0) ∧ QA h2 b H n own ∧ DA h2 bo L oo ∧ Ext h h2 ∧ h.n < h2.n) ⟨Hp.get_alloc_self _ _, x.ext (Ext.alloc _ _), z.ext (Ext.alloc _ _), Ext.alloc _ _, by rw [Hp.n_alloc]; omega⟩ fun h2 ⟨g1, xA, zA, x2, n2⟩ => ?_
  refine o_assign gn rfl rfl ?_
  refine wl_end ?_
  refine w_seq ?_
  refine w_seq ?_
  refine w_region (by kernel_rfl) ?_
  refine o_fieldAddr (off := 0) gn rfl rfl (by kernel_rfl) ?_
  refine o_load gn rfl rfl (by kernel_rfl) (by assumption) rfl ?_
  refine wl_end ?_
  refine w_block ?_
  refine w_seq ?_
  refine w_region (by kernel_rfl) ?_
  refine o_eqi gn rfl rfl rfl ?_
  refine o_assign gn rfl rfl ?_
  refine wl_end ?_
  refine w_cond rfl (fun hb => ?_) fun hb => ?_
  · skip
    refine w_seq ?_
    refine w_draw [(0, []), (1, []), (2, []), (4, []), (5, []), (6, []), (3, [6]), (7, []), (8, []), (9, [])] (by kernel_rfl) (by kernel_rfl) (by kernel_rfl) (by kernel_rfl) ?_
    refine o_move gn rfl rfl ?_
    refine o_fieldAddr (off := 1) gn rfl rfl (by kernel_rfl) ?_
    refine o_loadA (n := 3) gn rfl rfl (by kernel_rfl) (by kernel_rfl) g1 (by simp) ?_
    rw [show (([iV k, iV y.t, Value.bool y.f, iV y.d, iV m].drop (0 + 1)).take 3).toArray = #[iV y.t, .bool y.f, iV y.d] from rfl]
    refine o_move gn rfl rfl ?_
    refine o_fieldAddr (off := 1) gn rfl rfl (by kernel_rfl) ?_
    refine o_loadA (n := 3) gn rfl rfl (by kernel_rfl) (by kernel_rfl) g1 (by simp) ?_
    rw [show (([iV k, iV y.t, Value.bool y.f, iV y.d, iV m].drop (0 + 1)).take 3).toArray = #[iV y.t, .bool y.f, iV y.d] from rfl]
    refine o_call [_, _] gn rfl rfl (by kernel_rfl) rfl (C.mono (c10 (y := y) xA (by omega) (by omega)) ?_)
    rintro v h3 ⟨rfl, own3, x3, e3, f3⟩
    have g3 := (e3.get h.n n2 hn0).trans g1
    have z3 := zA.keep e3 (fun i hi e => hd i e hi)
    obtain ⟨w1, E1, w2⟩ := w.put (y := y)
    refine ⟨(ag1 (ag_loadA (o := 1) (n := 3) gn rfl (by kernel_rfl) (by kernel_rfl) g3 (by simp) rfl (same_it y)) ag0), ?_⟩
    refine o_call [_, _] gn rfl rfl (by kernel_rfl) rfl (C.mono (c28 (y := y) z3 (by omega)) ?_)
    rintro v h4 ⟨rfl, oo4, z4, e4, f4⟩
    rw [w1]
    refine ⟨ag0, ?_⟩
    refine o_eqi gn rfl rfl rfl ?_
    refine o_assign gn rfl rfl ?_
    refine wl_end ?_
    refine w_ret ?_
    refine ⟨.inl rfl, _, rfl, ?_⟩
    have x2n := x2.n
    have e3n := e3.n
    refine ⟨by simp [oneOf], E1, putF H n y, putN H n y, putD L y, own3, oo4, w2, x3.keep e4 (fun i hi e => ?_), z4, by unfold putD; split <;> simp, by unfold putN; split <;> omega, by unfold putN; split <;> omega, ((x2.b _).trans (e3.mono (by simp; grind))).join e4 (fun i hi => .inl (by simp [hi])), fun i hi => (f3 i hi).imp id (by omega), fun i hi => (f4 i hi).imp id (by omega), fun i hi e => ?_⟩
    · rcases f3 i hi with q | q
      · exact hd i q e
      · have := zA.lt i e; omega
    · rcases f4 i e with q2 | q2
      · rcases f3 i hi with q | q
        · exact hd i q q2
        · have := zA.lt i q2; omega
      · have := x3.lt i hi; omega
  · skip
    refine w_seq ?_
    refine w_region (by kernel_rfl) ?_
    refine o_eqi gn rfl rfl rfl ?_
    refine o_assign gn rfl rfl ?_
    refine wl_end ?_
    refine w_cond rfl (fun hb => ?_) fun hb => ?_
    · skip
      refine w_seq ?_
      refine w_region (by kernel_rfl) ?_
      refine o_move gn rfl rfl ?_
      refine o_fieldAddr (off := 4) gn rfl rfl (by kernel_rfl) ?_
      refine o_load gn rfl rfl (by kernel_rfl) (by assumption) rfl ?_
      refine o_call [_, _] gn rfl rfl (by kernel_rfl) rfl (C.mono (c13 xA (by omega)) ?_)
      rintro v h3 ⟨rfl, x3, e3⟩
      have g3 := (e3.get h.n n2 hn0).trans g1
      have z3 := zA.keep e3 (fun i hi e => hd i e hi)
      have n3 := e3.n
      refine ⟨ag0, ?_⟩
      refine o_move gn rfl rfl ?_
      refine o_extract gn rfl rfl rfl ?_
      refine o_extract gn rfl rfl rfl ?_
      refine o_alloc (zv := .agg #[.int .i64 0, .bool false, .int .i64 0]) gn rfl (by kernel_rfl) ?_
      refine o_storeA (n := 3) gn rfl rfl rfl (by kernel_rfl) rfl (Hp.get_alloc_self _ _) (by decide) rfl ag0 ?_
      refine wl_at (fun h4 => h4.get h.n = some (.cells [iV k, iV y.t, .bool y.f, iV y.d, iV m] 48 0) ∧ h4.get h3.n = some (.cells [iV (dueI H m).t, .bool (dueI H m).f, iV (dueI H m).d] 30 0) ∧ QA h4 b (takF H m) n own ∧ DA h4 bo L oo ∧ Ext h3 h4 ∧ h3.n < h4.n) ⟨((Ext.alloc h3 (.cells [iV 0, .bool false, iV 0] 30 0)).of (ExtB.put _ h3.n _) (by simp) |>.get h.n (by omega)).trans g3, Hp.get_put_self _ _ _, x3.ext ((Ext.alloc _ _).of (ExtB.put _ _ _) (by simp)), z3.ext ((Ext.alloc _ _).of (ExtB.put _ _ _) (by simp)), (Ext.alloc _ _).of (ExtB.put _ _ _) (by simp), by rw [Hp.n_put, Hp.n_alloc]; omega⟩ fun h4 ⟨g4, k4, x4, z4, e4, n4⟩ => ?_
      refine o_assign gn rfl rfl ?_
      refine wl_end ?_
      refine w_seq ?_
      refine w_region (by kernel_rfl) ?_
      refine o_move gn rfl rfl ?_
      refine o_fieldAddr (off := 4) gn rfl rfl (by kernel_rfl) ?_
      refine o_load gn rfl rfl (by kernel_rfl) (by assumption) rfl ?_
      refine o_call [_, _] gn rfl rfl (by kernel_rfl) rfl (C.mono (c29 z4 (by omega)) ?_)
      rintro v h5 ⟨rfl, oo5, z5, e5, f5⟩
      have hno : h3.n ∉ oo := fun e => by have := z.lt _ e; have := x2.n; omega
      have k5 := (e5.get h3.n n4 hno).trans k4
      have x5 := x4.keep e5 hd
      have n5 := e5.n
      rw [← (w.due (now := m)).1, ← (w.due (now := m)).2]
      refine ⟨ag0, ?_⟩
      refine o_move gn rfl rfl ?_
      refine o_extract gn rfl rfl rfl ?_
      refine o_extract gn rfl rfl rfl ?_
      refine o_alloc (zv := .agg #[.int .i64 0, .bool false, .int .i64 0]) gn rfl (by kernel_rfl) ?_
      refine o_storeA (n := 3) gn rfl rfl rfl (by kernel_rfl) rfl (Hp.get_alloc_self _ _) (by decide) rfl ag0 ?_
      refine wl_at (fun h6 => h6.get h3.n = some (.cells [iV (dueI H m).t, .bool (dueI H m).f, iV (dueI H m).d] 30 0) ∧ h6.get h5.n = some (.cells [iV (dueI H m).t, .bool (dueI H m).f, iV (dueI H m).d] 30 0) ∧ QA h6 b (takF H m) n own ∧ DA h6 bo (takD L m) oo5 ∧ Ext h5 h6) ⟨((Ext.alloc h5 (.cells [iV 0, .bool false, iV 0] 30 0)).of (ExtB.put _ h5.n _) (by simp) |>.get h3.n (by omega)).trans k5, Hp.get_put_self _ _ _, x5.ext ((Ext.alloc _ _).of (ExtB.put _ _ _) (by simp)), z5.ext ((Ext.alloc _ _).of (ExtB.put _ _ _) (by simp)), (Ext.alloc _ _).of (ExtB.put _ _ _) (by simp)⟩ fun h6 ⟨k6, j6, x6, z6, e6⟩ => ?_
      refine o_assign gn rfl rfl ?_
      refine wl_end ?_
      refine w_seq ?_
      refine w_region (by kernel_rfl) ?_
      refine o_loadA (n := 3) gn rfl rfl (by kernel_rfl) (by kernel_rfl) k6 (by simp) ?_
      rw [show (([iV (dueI H m).t, Value.bool (dueI H m).f, iV (dueI H m).d].drop 0).take 3).toArray = #[iV (dueI H m).t, .bool (dueI H m).f, iV (dueI H m).d] from rfl]
      refine o_loadA (n := 3) gn rfl rfl (by kernel_rfl) (by kernel_rfl) j6 (by simp) ?_
      rw [show (([iV (dueI H m).t, Value.bool (dueI H m).f, iV (dueI H m).d].drop 0).take 3).toArray = #[iV (dueI H m).t, .bool (dueI H m).f, iV (dueI H m).d] from rfl]
      refine o_bin gn rfl rfl rfl (eql30 (dueI H m) (dueI H m)) ?_
      refine o_move gn rfl rfl ?_
      refine o_and (n := 3) rfl rfl rfl gn rfl (fun hb => by
          refine o_move (gy rfl rfl rfl hb) rfl rfl ?_
          refine o_move (gy rfl rfl rfl hb) rfl rfl ?_
          refine o_eqb (gy rfl rfl rfl hb) rfl rfl rfl (by kernel_rfl) ?_
          exact wl_end ⟨rfl, rfl, 3, rfl, rfl⟩) ?_
      refine o_assign gn rfl rfl ?_
      refine wl_end ?_
      refine w_ret ?_
      refine ⟨.inl rfl, _, rfl, ?_⟩
      obtain ⟨E1, w2⟩ := w.tak (now := m)
      have x2n := x2.n
      have e4n := e4.n
      refine ⟨by simp [oneOf], E1, _, n, _, own, oo5, w2, x6, z6, by unfold takD; split <;> first | (have := drpD_le L (dueDI L m).t; omega) | omega, by omega, by omega, (((x2.b _).trans (e3.mono (by simp; grind))).trans (e4.b _)).join (e5.trans (e6.b _)) (fun i hi => .inl (by simp [hi])), fun i hi => .inl hi, fun i hi => (f5 i hi).imp id (by omega), fun i hi e => ?_⟩
      rcases f5 i e with q | q
      · exact hd i hi q
      · have := x4.lt i hi; omega
    · skip
      refine w_seq ?_
      refine w_region (by kernel_rfl) ?_
      refine o_eqi gn rfl rfl rfl ?_
      refine o_assign gn rfl rfl ?_
      refine wl_end ?_
      refine w_cond rfl (fun hb => ?_) fun hb => ?_
      · skip
        refine w_seq ?_
        refine w_draw [(0, []), (1, []), (2, []), (3, []), (5, []), (6, []), (7, []), (8, []), (4, [8]), (9, []), (10, []), (11, [])] (by kernel_rfl) (by kernel_rfl) (by kernel_rfl) (by kernel_rfl) ?_
        refine o_move gn rfl rfl ?_
        refine o_fieldAddr (off := 1) gn rfl rfl (by kernel_rfl) ?_
        refine o_fieldAddr (off := 0) gn rfl rfl (by kernel_rfl) ?_
        refine o_load gn rfl rfl (by kernel_rfl) (by assumption) rfl ?_
        refine o_move gn rfl rfl ?_
        refine o_fieldAddr (off := 1) gn rfl rfl (by kernel_rfl) ?_
        refine o_fieldAddr (off := 0) gn rfl rfl (by kernel_rfl) ?_
        refine o_load gn rfl rfl (by kernel_rfl) (by assumption) rfl ?_
        refine o_call [_, _] gn rfl rfl (by kernel_rfl) rfl (C.mono (c11 (t := y.t) xA (by omega)) ?_)
        rintro v h3 ⟨rfl, x3, e3⟩
        have g3 := (e3.get h.n n2 hn0).trans g1
        have z3 := zA.keep e3 (fun i hi e => hd i e hi)
        obtain ⟨w1, E1, w2⟩ := w.drp (t := y.t)
        refine ⟨(ag1 (ag_load gn rfl (by kernel_rfl) (by assumption) rfl rfl same_int) ag0), ?_⟩
        refine o_call [_, _] gn rfl rfl (by kernel_rfl) rfl (C.mono (c30 (t := y.t) z3 (by omega)) ?_)
        rintro v h4 ⟨rfl, oo4, z4, e4, f4⟩
        rw [w1]
        refine ⟨ag0, ?_⟩
        refine o_eqb gn rfl rfl rfl (by kernel_rfl) ?_
        refine o_assign gn rfl rfl ?_
        refine wl_end ?_
        refine w_ret ?_
        refine ⟨.inl rfl, _, rfl, ?_⟩
        have x2n := x2.n
        have e3n := e3.n
        refine ⟨by simp [oneOf], E1, _, n, _, own, oo4, w2, x3.keep e4 hd, z4, by have := drpD_le L y.t; omega, by omega, by omega, ((x2.b _).trans (e3.mono (by simp; grind))).join e4 (fun i hi => .inl (by simp [hi])), fun i hi => .inl hi, fun i hi => (f4 i hi).imp id (by omega), fun i hi e => ?_⟩
        rcases f4 i e with q | q
        · exact hd i hi q
        · have := x3.lt i hi; omega
      · skip
        refine w_seq ?_
        refine w_region (by kernel_rfl) ?_
        refine o_eqi gn rfl rfl rfl ?_
        refine o_assign gn rfl rfl ?_
        refine wl_end ?_
        refine w_cond rfl (fun hb => ?_) fun hb => ?_
        · skip
          refine w_seq ?_
          refine w_region (by kernel_rfl) ?_
          refine o_move gn rfl rfl ?_
          refine o_fieldAddr (off := 4) gn rfl rfl (by kernel_rfl) ?_
          refine o_load gn rfl rfl (by kernel_rfl) (by assumption) rfl ?_
          refine o_call [_, _] gn rfl rfl (by kernel_rfl) rfl (C.mono (c23 xA (by omega)) ?_)
          rintro v h3 ⟨rfl, e3⟩
          have g3 := (e3.get h.n n2).trans g1
          have n3 := e3.n
          refine ⟨ag0, ?_⟩
          refine o_move gn rfl rfl ?_
          refine o_extract gn rfl rfl rfl ?_
          refine o_extract gn rfl rfl rfl ?_
          refine o_alloc (zv := .agg #[.int .i64 0, .bool false, .int .i64 0]) gn rfl (by kernel_rfl) ?_
          refine o_storeA (n := 3) gn rfl rfl rfl (by kernel_rfl) rfl (Hp.get_alloc_self _ _) (by decide) rfl ag0 ?_
          refine wl_at (fun h4 => h4.get h.n = some (.cells [iV k, iV y.t, .bool y.f, iV y.d, iV m] 48 0) ∧ h4.get h3.n = some (.cells [iV (dueI H m).t, .bool (dueI H m).f, iV (dueI H m).d] 30 0) ∧ Ext h3 h4 ∧ h3.n < h4.n) ⟨((Ext.alloc h3 (.cells [iV 0, .bool false, iV 0] 30 0)).of (ExtB.put _ h3.n _) (by simp) |>.get h.n (by omega)).trans g3, Hp.get_put_self _ _ _, (Ext.alloc _ _).of (ExtB.put _ _ _) (by simp), by rw [Hp.n_put, Hp.n_alloc]; omega⟩ fun h4 ⟨g4, k4, e4, n4⟩ => ?_
          refine o_assign gn rfl rfl ?_
          refine wl_end ?_
          refine w_seq ?_
          refine w_region (by kernel_rfl) ?_
          refine o_move gn rfl rfl ?_
          refine o_fieldAddr (off := 4) gn rfl rfl (by kernel_rfl) ?_
          refine o_load gn rfl rfl (by kernel_rfl) (by assumption) rfl ?_
          refine o_call [_, _] gn rfl rfl (by kernel_rfl) rfl (C.mono (c31 (zA.ext (e3.trans e4)) (by omega)) ?_)
          rintro v h5 ⟨rfl, e5⟩
          have k5 := (e5.get h3.n n4).trans k4
          have n5 := e5.n
          rw [← (w.due (now := m)).1, ← (w.due (now := m)).2]
          refine ⟨ag0, ?_⟩
          refine o_move gn rfl rfl ?_
          refine o_extract gn rfl rfl rfl ?_
          refine o_extract gn rfl rfl rfl ?_
          refine o_alloc (zv := .agg #[.int .i64 0, .bool false, .int .i64 0]) gn rfl (by kernel_rfl) ?_
          refine o_storeA (n := 3) gn rfl rfl rfl (by kernel_rfl) rfl (Hp.get_alloc_self _ _) (by decide) rfl ag0 ?_
          refine wl_at (fun h6 => h6.get h3.n = some (.cells [iV (dueI H m).t, .bool (dueI H m).f, iV (dueI H m).d] 30 0) ∧ h6.get h5.n = some (.cells [iV (dueI H m).t, .bool (dueI H m).f, iV (dueI H m).d] 30 0) ∧ Ext h5 h6) ⟨((Ext.alloc h5 (.cells [iV 0, .bool false, iV 0] 30 0)).of (ExtB.put _ h5.n _) (by simp) |>.get h3.n (by omega)).trans k5, Hp.get_put_self _ _ _, (Ext.alloc _ _).of (ExtB.put _ _ _) (by simp)⟩ fun h6 ⟨k6, j6, e6⟩ => ?_
          refine o_assign gn rfl rfl ?_
          refine wl_end ?_
          refine w_seq ?_
          refine w_region (by kernel_rfl) ?_
          refine o_loadA (n := 3) gn rfl rfl (by kernel_rfl) (by kernel_rfl) k6 (by simp) ?_
          rw [show (([iV (dueI H m).t, Value.bool (dueI H m).f, iV (dueI H m).d].drop 0).take 3).toArray = #[iV (dueI H m).t, .bool (dueI H m).f, iV (dueI H m).d] from rfl]
          refine o_loadA (n := 3) gn rfl rfl (by kernel_rfl) (by kernel_rfl) j6 (by simp) ?_
          rw [show (([iV (dueI H m).t, Value.bool (dueI H m).f, iV (dueI H m).d].drop 0).take 3).toArray = #[iV (dueI H m).t, .bool (dueI H m).f, iV (dueI H m).d] from rfl]
          refine o_bin gn rfl rfl rfl (eql30 (dueI H m) (dueI H m)) ?_
          refine o_move gn rfl rfl ?_
          refine o_and (n := 3) rfl rfl rfl gn rfl (fun hb => by
              refine o_move (gy rfl rfl rfl hb) rfl rfl ?_
              refine o_move (gy rfl rfl rfl hb) rfl rfl ?_
              refine o_eqb (gy rfl rfl rfl hb) rfl rfl rfl (by kernel_rfl) ?_
              exact wl_end ⟨rfl, rfl, 3, rfl, rfl⟩) ?_
          refine o_assign gn rfl rfl ?_
          refine wl_end ?_
          refine w_ret ?_
          refine ⟨.inl rfl, _, rfl, ?_⟩
          exact ⟨by simp [oneOf], DoAt.same x z w hd (x2.trans (e3.trans (e4.trans (e5.trans e6))))⟩
        · skip
          refine w_seq ?_
          refine w_region (by kernel_rfl) ?_
          refine o_eqi gn rfl rfl rfl ?_
          refine o_assign gn rfl rfl ?_
          refine wl_end ?_
          refine w_cond rfl (fun hb => ?_) fun hb => ?_
          · skip
            refine w_seq ?_
            refine w_region (by kernel_rfl) ?_
            refine o_move gn rfl rfl ?_
            refine o_call [_] gn rfl rfl (by kernel_rfl) rfl (C.mono (c15 xA w.qH (by omega)) ?_)
            rintro v h3 ⟨rfl, e3⟩
            refine ⟨ag0, ?_⟩
            refine o_move gn rfl rfl ?_
            refine o_extract gn rfl rfl rfl ?_
            refine o_extract gn rfl rfl rfl ?_
            refine o_assign gn rfl rfl ?_
            refine o_assign gn rfl rfl ?_
            refine wl_end ?_
            refine w_seq ?_
            refine w_region (by kernel_rfl) ?_
            refine o_move gn rfl rfl ?_
            refine o_call [_] gn rfl rfl (by kernel_rfl) rfl (c_pure (c32 (zA.ext e3) (by omega)) ⟨ag0, ?_⟩)
            refine o_move gn rfl rfl ?_
            refine o_extract gn rfl rfl rfl ?_
            refine o_extract gn rfl rfl rfl ?_
            refine o_assign gn rfl rfl ?_
            refine o_assign gn rfl rfl ?_
            refine wl_end ?_
            refine w_seq ?_
            refine w_region (by kernel_rfl) ?_
            refine o_move gn rfl rfl ?_
            refine o_move gn rfl rfl ?_
            refine o_eqi gn rfl rfl rfl ?_
            refine o_move gn rfl rfl ?_
            refine o_and (n := 3) rfl rfl rfl gn rfl (fun hb => by
                refine o_move (gy rfl rfl rfl hb) rfl rfl ?_
                refine o_move (gy rfl rfl rfl hb) rfl rfl ?_
                refine o_eqb (gy rfl rfl rfl hb) rfl rfl rfl (by kernel_rfl) ?_
                exact wl_end ⟨rfl, rfl, 3, rfl, rfl⟩) ?_
            refine o_assign gn rfl rfl ?_
            refine wl_end ?_
            refine w_ret ?_
            refine ⟨.inl rfl, _, rfl, ?_⟩
            have hnx := w.nxt
            exact ⟨by rw [hnx]; simp [oneOf], DoAt.same x z w hd (x2.trans e3)⟩
          · skip
            refine w_seq ?_
            refine w_region (by kernel_rfl) ?_
            refine o_eqi gn rfl rfl rfl ?_
            refine o_assign gn rfl rfl ?_
            refine wl_end ?_
            refine w_cond rfl (fun hb => ?_) fun hb => ?_
            · skip
              refine w_seq ?_
              refine w_region (by kernel_rfl) ?_
              refine o_move gn rfl rfl ?_
              refine o_fieldAddr (off := 4) gn rfl rfl (by kernel_rfl) ?_
              refine o_load gn rfl rfl (by kernel_rfl) (by assumption) rfl ?_
              refine o_rem gn rfl rfl rfl (by omega) ?_
              refine o_call [_, _] gn rfl rfl (by kernel_rfl) rfl (C.mono (c12 (most := m.tmod 100) xA w.qH (by omega)) ?_)
              rintro v h3 ⟨sv, B1, rfl, s1, f1, x3⟩
              rw [w.all] at s1
              have z3 := zA.ext x3
              have hal : (allD L).length ≤ L.length := allN_len _ _
              refine ⟨ag0, ?_⟩
              refine o_move gn rfl rfl ?_
              refine o_extract gn rfl rfl rfl ?_
              refine o_extract gn rfl rfl rfl ?_
              refine o_assign gn rfl rfl ?_
              refine o_assign gn rfl rfl ?_
              refine wl_end ?_
              refine w_seq ?_
              refine w_region (by kernel_rfl) ?_
              refine o_move gn rfl rfl ?_
              refine o_call [_] gn rfl rfl (by kernel_rfl) rfl (C.mono (c22 z3 (by omega)) ?_)
              rintro v2 h4 ⟨B2, s2, f2, x4⟩
              obtain ⟨a2, rfl⟩ := s2.val
              have g4 := ((x3.trans x4).get h.n n2).trans g1
              have s14 := s1.ext x4
              have hlk : (takeM (allD L) (m.tmod 100)).length ≤ 100000 := by unfold takeM; split <;> (try rw [List.length_take]) <;> omega
              refine ⟨ag0, ?_⟩
              refine o_assign gn rfl rfl ?_
              refine wl_end ?_
              refine w_seq ?_
              refine w_seq ?_
              refine w_region (by kernel_rfl) ?_
              refine o_fieldAddr (off := 4) gn rfl rfl (by kernel_rfl) ?_
              refine o_load gn rfl rfl (by kernel_rfl) (by assumption) rfl ?_
              refine o_rem gn rfl rfl rfl (by omega) ?_
              refine o_gtr gn rfl rfl rfl ?_
              refine o_move gn rfl rfl ?_
              refine o_and (n := 6) rfl rfl rfl gn rfl (fun hb => by
                  refine o_fieldAddr (off := 4) (gy rfl rfl rfl hb) rfl rfl (by kernel_rfl) ?_
                  refine o_load (gy rfl rfl rfl hb) rfl rfl (by kernel_rfl) (by assumption) rfl ?_
                  refine o_rem (gy rfl rfl rfl hb) rfl rfl rfl (by omega) ?_
                  refine o_move (gy rfl rfl rfl hb) rfl rfl ?_
                  refine o_len (gy rfl rfl rfl hb) rfl rfl (by kernel_rfl) ?_
                  refine o_lss (gy rfl rfl rfl hb) rfl rfl rfl ?_
                  exact wl_end ⟨rfl, rfl, 6, rfl, rfl⟩) ?_
              refine wl_end ?_
              refine w_cond rfl (fun hb => ?_) fun hb => ?_
              · skip
                refine w_region (by kernel_rfl) ?_
                refine o_move gn rfl rfl ?_
                refine o_fieldAddr (off := 4) gn rfl rfl (by kernel_rfl) ?_
                refine o_load gn rfl rfl (by kernel_rfl) (by assumption) rfl ?_
                refine o_rem gn rfl rfl rfl (by omega) ?_
                obtain ⟨hr0, hr1⟩ : 0 < m.tmod 100 ∧ m.tmod 100 < ((allD L).length : Nat) := by simpa using hb
                obtain ⟨b9, m9, ea9, hg9, hm9, _⟩ := s2.at (by omega)
                cases ea9
                refine o_sliceToN elI gn rfl rfl rfl hg9 hm9 (by omega) (by omega) ?_
                have s5 := SlC.first s2.toC (k := (m.tmod 100).toNat) (by omega)
                rw [enI_take] at s5
                have hlt5 : ((allD L).take (m.tmod 100).toNat).length = (m.tmod 100).toNat := by rw [List.length_take]; omega
                refine o_assign gn rfl rfl ?_
                refine wl_end ?_
                refine w_seq ?_
                refine w_region (by kernel_rfl) ?_
                refine o_move gn rfl rfl ?_
                refine o_move gn rfl rfl ?_
                refine o_and (n := 3) rfl rfl rfl gn rfl (fun hb => by
                    refine o_move (gy rfl rfl rfl hb) rfl rfl ?_
                    refine o_move (gy rfl rfl rfl hb) rfl rfl ?_
                    refine o_call [_, _] (gy rfl rfl rfl hb) rfl rfl (by kernel_rfl) rfl (c_pure (c21 s14.toC (K := (allD L).take (m.tmod 100).toNat) (by rw [hlt5]; exact s5) hlk) ⟨ag0, ?_⟩)
                    exact wl_end ⟨rfl, rfl, 3, rfl, rfl⟩) ?_
                refine o_assign gn rfl rfl ?_
                refine wl_end ?_
                refine w_ret ?_
                refine ⟨.inl rfl, _, rfl, ?_⟩
                have e : takeM (allD L) (m.tmod 100) = (allD L).take (m.tmod 100).toNat := by rw [takeM, if_pos (by omega)]
                exact ⟨by rw [e]; simp [oneOf], DoAt.same x z w hd (x2.trans (x3.trans x4))⟩
              · skip
                refine w_skip ?_
                refine w_seq ?_
                refine w_region (by kernel_rfl) ?_
                refine o_move gn rfl rfl ?_
                refine o_move gn rfl rfl ?_
                refine o_and (n := 3) rfl rfl rfl gn rfl (fun hb => by
                    refine o_move (gy rfl rfl rfl hb) rfl rfl ?_
                    refine o_move (gy rfl rfl rfl hb) rfl rfl ?_
                    refine o_call [_, _] (gy rfl rfl rfl hb) rfl rfl (by kernel_rfl) rfl (c_pure (c21 s14.toC s2.toC hlk) ⟨ag0, ?_⟩)
                    exact wl_end ⟨rfl, rfl, 3, rfl, rfl⟩) ?_
                refine o_assign gn rfl rfl ?_
                refine wl_end ?_
                refine w_ret ?_
                refine ⟨.inl rfl, _, rfl, ?_⟩
                have e : takeM (allD L) (m.tmod 100) = allD L := by
                  unfold takeM
                  split
                  · rename_i h1
                    rw [List.take_of_length_le]
                    have : ¬ (0 < m.tmod 100 ∧ m.tmod 100 < ((allD L).length : Nat)) := by intro q; simp [q.1, q.2] at hb
                    omega
                  · rfl
                exact ⟨by rw [e]; simp [oneOf], DoAt.same x z w hd (x2.trans (x3.trans x4))⟩
            · skip
              refine w_skip ?_
              refine w_seq ?_
              refine w_region (by kernel_rfl) ?_
              refine o_assign gn rfl rfl ?_
              refine wl_end ?_
              refine w_ret ?_
              refine ⟨.inl rfl, _, rfl, ?_⟩
              exact ⟨rfl, DoAt.same x z w hd x2⟩
end

end Go.Proofs.Ytfjnnbdgehaeaaa


namespace Go.Proofs.Ytfjnnbdgehaeaaa
open Go.X

/-- Acts as they lie in the memory. -/
def ActsQ (h : Hp) (a : Option Addr) (n : Nat) : Prop :=
  n = 0 ∨ ∃ bb oo cs e m, a = some ⟨bb, oo, none⟩ ∧ h.get bb = some (.cells cs e m) ∧ bb < h.n ∧
    ∀ i, i < n → oo + i * 5 + 5 ≤ cs.length ∧ ∃ (kd : Int) (y : Itm) (ii : Int), (cs.drop (oo + i * 5)).take 5 = [iV kd, iV y.t, .bool y.f, iV y.d, iV ii] ∧ -9223372036854775808 ≤ ii ∧ ii ≤ 9223372036854775807
theorem ActsQ.ext {h h' : Hp} {a : Option Addr} {n : Nat} (x : ActsQ h a n) (g : Ext h h') : ActsQ h' a n := by
  rcases x with x | ⟨bb, oo, cs, e, m, e1, hg, hb, r⟩
  · exact .inl x
  · exact .inr ⟨bb, oo, cs, e, m, e1, (g.get bb hb).trans hg, Nat.lt_of_lt_of_le hb g.n, r⟩

/-- Both queues, of the same items, behind h. -/
def Both (h hh : Hp) (b bo : Nat) (k : Nat) : Prop :=
  ∃ E H n L own oo, TwoE E H n L ∧ QA hh b H n own ∧ DA hh bo L oo ∧ L.length ≤ k ∧ 0 ≤ n ∧ n ≤ (k : Int) ∧ (∀ i, i ∈ own → h.n ≤ i) ∧ (∀ i, i ∈ oo → h.n ≤ i) ∧ (∀ i, i ∈ own → i ∉ oo) ∧ Ext h hh
theorem Both.act {h hh h3 : Hp} {b bo k : Nat} {n : Int} {L : List Itm} {own oo : List Nat} (hl : L.length ≤ k) (hn : 0 ≤ n) (hn2 : n ≤ (k : Int)) (f1 : ∀ i, i ∈ own → h.n ≤ i) (f2 : ∀ i, i ∈ oo → h.n ≤ i) (g : Ext h hh)
    (d : DoAt hh h3 b bo own oo L n) : Both h h3 b bo (k + 1) := by
  obtain ⟨E', H', n', L', own', oo', w, x, z, l1, l2, l3, e, q1, q2, q3⟩ := d
  have gn := g.n
  refine ⟨E', H', n', L', own', oo', w, x, z, by omega, by omega, by omega, fun i hi => ?_, fun i hi => ?_, q3, ⟨Nat.le_trans g.n e.n, fun i hi => ?_⟩⟩
  · rcases q1 i hi with q | q
    · exact f1 i q
    · omega
  · rcases q2 i hi with q | q
    · exact f2 i q
    · omega
  · rw [e.get i (by omega) (fun hm => by
      rcases List.mem_append.1 hm with q | q
      · have := f1 i q; omega
      · have := f2 i q; omega)]
    exact g.get i hi

/-- QueuePlays -/
theorem c5 {h : Hp} {a : Option Addr} {N c : Nat} (hA : ActsQ h a N) : C queE 5 [.slice a N c] h fun v _ => v = .bool true := by
  refine c_enter (fu := Try.f5) (by kernel_rfl) rfl ?_
  refine w_seq ?_
  refine w_region (by kernel_rfl) ?_
  refine o_assign gn rfl rfl ?_
  refine wl_end ?_
  refine w_seq ?_
  refine w_seq ?_
  refine w_region (by kernel_rfl) ?_
  refine o_move gn rfl rfl ?_
  refine o_len gn rfl rfl (by kernel_rfl) ?_
  refine o_gtr gn rfl rfl rfl ?_
  refine wl_end ?_
  refine w_cond rfl (fun hb => ?_) fun hb => ?_
  · skip
    refine w_seq ?_
    refine w_region (by kernel_rfl) ?_
    refine o_orc (f := 8) (v := .bool true) gn rfl (by kernel_rfl) (by kernel_rfl) ag0 ?_
    refine o_assign gn rfl rfl ?_
    refine wl_end ?_
    refine w_ret ?_
    refine ⟨.inl rfl, _, rfl, ?_⟩
    rfl
  · skip
    have hN : N ≤ 60 := by simp at hb; omega
    refine w_skip ?_
    refine w_seq ?_
    refine w_region (by kernel_rfl) ?_
    refine o_call [] gn rfl rfl (by kernel_rfl) rfl (C.mono c9 ?_)
    rintro v h1 ⟨rfl, xA, x1, n1⟩
    refine ⟨ag0, ?_⟩
    refine o_build (zv := .agg #[.slice none 0 0]) (pl := [(0, 1)]) [] gn rfl (by kernel_rfl) (by kernel_rfl) rfl rfl ?_
    refine o_box gn rfl rfl ?_
    refine wl_at (fun h2 => QA h2 h.n [] 0 [h.n] ∧ DA h2 h1.n [] [h1.n] ∧ Ext h h2) ⟨xA.ext (Ext.alloc _ _), ⟨_, [], Hp.get_alloc_self _ _, .inl ⟨rfl, rfl, rfl, rfl⟩, by rw [Hp.n_alloc]; omega, by simp, rfl⟩, x1.trans (Ext.alloc _ _)⟩ fun h2 ⟨xB, zB, x2⟩ => ?_
    refine o_assign gn rfl rfl ?_
    refine o_assign gn rfl rfl ?_
    refine wl_end ?_
    refine w_seq ?_
    refine w_seq ?_
    refine w_region (by kernel_rfl) ?_
    refine o_assign gn rfl rfl ?_
    refine wl_end ?_
    refine w_block ?_
    refine w_weak [(0, .slice a N c), (3, ptrV h.n), (4, ptrV h1.n), (5, iV (0 : Nat))] (by repeat (first | exact trivial | refine ⟨rfl, ?_⟩)) ?_
    refine w_loop (fun k l hh => ∃ i : Nat, i ≤ N ∧ k = N - i ∧ Both h hh h.n h1.n i ∧ l = [(0, .slice a N c), (3, ptrV h.n), (4, ptrV h1.n), (5, iV (i : Nat))]) (n := N) ?_ fun k l hh hI => ?_
    · exact ⟨0, by omega, by omega, ⟨[], [], 0, [], [h.n], [h1.n], ⟨rfl, .refl _, .nil, by simp, by simp, fun k h1 h2 => by simp at h2⟩, xB, zB, by simp, by omega, by omega, by simp, by simp; omega, by simp; omega, x2⟩, rfl⟩
    · obtain ⟨i, hi, rfl, ⟨E, H, n, L, own, oo, w, x, z, hl, hn, hn2, f1, f2, hd, g⟩, rfl⟩ := hI
      refine w_seq ?_
      refine w_seq ?_
      refine w_region (by kernel_rfl) ?_
      refine o_move gn rfl rfl ?_
      refine o_move gn rfl rfl ?_
      refine o_len gn rfl rfl (by kernel_rfl) ?_
      refine o_lss gn rfl rfl rfl ?_
      refine wl_end ?_
      refine w_cond rfl (fun hb => ?_) fun hb => ?_
      · skip
        have hlt : i < N := by simpa using hb
        obtain ⟨bb, o0, cs, e0, m0, rfl, hg, hbb, hr⟩ := (hA.ext g).resolve_left (by omega)
        obtain ⟨hle, kd, y, ii, hrow, hm1, hm2⟩ := hr i hlt
        refine w_skip ?_
        refine w_seq ?_
        refine w_block ?_
        refine w_seq ?_
        refine w_region (by kernel_rfl) ?_
        refine o_move gn rfl rfl ?_
        refine o_move gn rfl rfl ?_
        refine o_move gn rfl rfl ?_
        refine o_move gn rfl rfl ?_
        refine o_indexAddr (zz := 5) gn rfl rfl rfl (by kernel_rfl) (by omega) (by omega) ?_
        rw [Int.toNat_natCast]
        refine o_loadA (n := 5) gn rfl rfl (by kernel_rfl) (by kernel_rfl) hg hle ?_
        rw [hrow]
        refine o_call [_, _, _] gn rfl rfl (by kernel_rfl) rfl (C.mono (c16 (y := y) x z w hd (by omega) (by omega) ⟨hm1, hm2⟩) ?_)
        rintro v h3 ⟨rfl, dA⟩
        obtain ⟨E', H', n', L', own', oo', w', x', z', l1, l2, l3, e', q1, q2, q3⟩ := Both.act hl hn hn2 f1 f2 g dA
        refine ⟨ag0, ?_⟩
        refine o_not gn rfl rfl ?_
        refine o_move gn rfl rfl ?_
        refine wl_split (dc := 27) rfl (fun hb27 => ?_) fun hb27 => ?_
        · skip
          cases hb27
        · skip
          refine o_move (gy rfl rfl rfl hb27) rfl rfl ?_
          refine o_move (gy rfl rfl rfl hb27) rfl rfl ?_
          refine o_call [_, _] (gy rfl rfl rfl hb27) rfl rfl (by kernel_rfl) rfl (C.mono (c17 x' z' w' (by omega)) ?_)
          rintro v h4 ⟨rfl, x4⟩
          refine ⟨ag0, ?_⟩
          refine o_not (gy rfl rfl rfl hb27) rfl rfl ?_
          refine o_pickf gn rfl rfl hb27 rfl ?_
          refine wl_end ?_
          refine w_cond rfl (fun hb => ?_) fun hb => ?_
          · skip
            cases hb
          · skip
            refine w_skip ?_
            refine w_region (by kernel_rfl) ?_
            refine o_move gn rfl rfl ?_
            refine o_add gn rfl rfl rfl (by omega) (by omega) ?_
            refine o_assign gn rfl rfl ?_
            refine wl_end ?_
            exact ⟨N - (i + 1), by omega, _, (by repeat (first | exact trivial | refine ⟨rfl, ?_⟩)), ⟨i + 1, by omega, rfl, ⟨E', H', n', L', own', oo', w', x'.ext x4, z'.ext x4, l1, l2, l3, e', q1, q2, q3.trans x4⟩, rfl⟩⟩
      · skip
        refine w_exit ?_
        refine thn_exit ?_
        refine rnd_exit ?_
        refine blk_eq ?_
        refine w_seq ?_
        refine w_region (by kernel_rfl) ?_
        refine o_orc (f := 8) (v := .bool true) gn rfl (by kernel_rfl) (by kernel_rfl) ag0 ?_
        refine o_assign gn rfl rfl ?_
        refine wl_end ?_
        refine w_ret ?_
        refine ⟨.inl rfl, _, rfl, ?_⟩
        rfl

end Go.Proofs.Ytfjnnbdgehaeaaa


namespace Go.Proofs.Ytfjnnbdgehaeaaa
open Go.ChangeShapes Go.WideShapes Go.ChangeAt Go.RowKit Go.Deep Go.X

set_option maxRecDepth 100000

theorem que_int : Try.prog.underlying 3 = some (.int .i64) := by kernel_rfl
theorem que_int2 : Try.prog.underlying 2 = some (.int .i64) := by kernel_rfl
theorem que_bool : Try.prog.underlying 4 = some .bool := by kernel_rfl
theorem que_own : ownKnob Try.prog.godebug = none := by kernel_rfl
theorem que_laid : laidOutB Try.prog = true := by kernel_rfl
theorem que_c3 : Try.prog.cellsOf 3 = 1 := by kernel_rfl
theorem que_c2 : Try.prog.cellsOf 2 = 1 := by kernel_rfl
theorem que_c4 : Try.prog.cellsOf 4 = 1 := by kernel_rfl

theorem acts_slice : Try.prog.underlying 42 = some (.slice 48) := by kernel_rfl
theorem act_cells : Try.prog.cellsOf 48 = 5 := by kernel_rfl
noncomputable def actFs : Array Field := match Try.prog.underlying 48 with | some (.struct fs) => fs | _ => #[]
theorem act_struct : Try.prog.underlying 48 = some (.struct actFs) := by kernel_rfl
theorem it_cells : Try.prog.cellsOf 30 = 3 := by kernel_rfl
noncomputable def itFs : Array Field := match Try.prog.underlying 30 with | some (.struct fs) => fs | _ => #[]
theorem it_struct : Try.prog.underlying 30 = some (.struct itFs) := by kernel_rfl

theorem it_rd {h : Hp} {cs : List Value} (x : Rd Try.prog h 30 cs) : ∃ y : Itm, cs = [iV y.t, .bool y.f, iV y.d] := by
  have hl := (x.inv_struct it_struct).1
  rw [it_cells] at hl
  obtain ⟨n0, e0, _⟩ := x.fld_int it_struct 0 0 3 rfl ⟨rfl, rfl⟩ que_int que_c3
  obtain ⟨n1, e1⟩ := x.fld_bool it_struct 1 1 4 rfl ⟨rfl, rfl⟩ que_bool que_c4
  obtain ⟨n2, e2, _⟩ := x.fld_int it_struct 2 2 2 rfl ⟨rfl, rfl⟩ que_int2 que_c2
  match cs, hl with
  | [a0, a1, a2], _ =>
    simp only [List.getElem?_cons_zero, List.getElem?_cons_succ, Option.some.injEq] at e0 e1 e2
    exact ⟨⟨n0, n1, n2⟩, by rw [e0, e1, e2]⟩

theorem act_rd {h : Hp} {cs : List Value} (x : Rd Try.prog h 48 cs) : ∃ (kd : Int) (y : Itm) (ii : Int), cs = [iV kd, iV y.t, .bool y.f, iV y.d, iV ii] ∧ -9223372036854775808 ≤ ii ∧ ii ≤ 9223372036854775807 := by
  have hl := (x.inv_struct act_struct).1
  rw [act_cells] at hl
  obtain ⟨n0, e0, _⟩ := x.fld_int act_struct 0 0 3 rfl ⟨rfl, rfl⟩ que_int que_c3
  obtain ⟨y, ey⟩ := it_rd (x.fld act_struct 1 1 30 rfl ⟨rfl, rfl⟩)
  obtain ⟨n2, e2, m1, m2⟩ := x.fld_int act_struct 2 4 2 rfl ⟨rfl, rfl⟩ que_int2 que_c2
  rw [it_cells] at ey
  match cs, hl with
  | [a0, a1, a2, a3, a4], _ =>
    simp only [List.getElem?_cons_zero, List.getElem?_cons_succ, Option.some.injEq] at e0 e2
    simp only [List.drop_succ_cons, List.drop_zero, List.take_succ_cons, List.take_zero, List.cons.injEq, and_true] at ey
    exact ⟨n0, y, n2, by rw [e0, e2, ey.1, ey.2.1, ey.2.2], m1, m2⟩

theorem acts_in {h : Hp} {v : Value} (x : Rd Try.prog h 42 [v]) : ∃ a n c, v = .slice a n c ∧ ActsQ h a n := by
  obtain ⟨a, n, c, e, _, _, _, _, hrow⟩ := x.inv_slice acts_slice (by rw [act_cells]; omega)
  simp only [List.cons.injEq, and_true] at e
  subst e
  rcases hrow with rfl | ⟨b, o, xs, u, rfl, hb, hg, hl, hr⟩
  · exact ⟨a, 0, c, rfl, .inl rfl⟩
  · rw [act_cells] at hl hr
    refine ⟨_, n, c, rfl, .inr ⟨b, o, xs, u, 1, rfl, hg, hb, fun i hi => ?_⟩⟩
    obtain ⟨kd, y, ii, ha, hm⟩ := act_rd (hr i hi)
    have hlen := congrArg List.length ha
    simp only [List.length_take, List.length_drop, List.length_cons, List.length_nil] at hlen
    exact ⟨by omega, kd, y, ii, ha, hm⟩

theorem acts_at {H : Type} {enc : TypeId × Value → H} {W : World} {r : Reach} {base : Nat} {v : Value} {d : DataW H} {ps : List MemPlace} (hok : Value.okWide Try.prog W r base 42 v) (h : DataW.Trod enc Try.prog W 0 (fun _ => true) true 42 v d ps) :
    ∃ a n c, v = .slice a n c ∧ VRel (Mp.all W) v v ∧ ActsQ (Hp.all W) a n := by
  obtain ⟨hv, _, _, _, _, x⟩ := arg_rd_slice acts_slice hok h
  obtain ⟨a, n, c, rfl, hA⟩ := acts_in x
  exact ⟨a, n, c, rfl, hv, hA⟩

end Go.Proofs.Ytfjnnbdgehaeaaa

namespace Go.Proofs.Ytfjnnbdgehaeaaa
open Go.X

section
variable {E H : List Ent} {n t now : Int} {L : List Itm}

theorem TwoE.head (x : TwoE E H n L) (h : 0 < H.length) : ∃ r, sortB H = H[0]! :: r := by
  have hp := sortB_perm H
  have hu := sortB_up H x.qH
  cases hs : sortB H with
  | nil => rw [hs] at hp; have := hp.length_eq; simp at this; omega
  | cons a r =>
    refine ⟨r, ?_⟩
    rw [hs] at hp hu
    have ha : a ∈ H := hp.mem_iff.1 (by simp)
    have h0 : H[0]! ∈ a :: r := hp.mem_iff.2 (get_mem h)
    rcases List.mem_cons.1 h0 with e | e
    · rw [e]
    · have h1 := List.rel_of_pairwise_cons hu e
      obtain ⟨k, hk, hke⟩ := List.getElem_of_mem ha
      have h2 := heap_first x.ok k hk
      rw [show H[k]! = a by rw [← hke]; simp [hk]] at h2
      rw [h1] at h2; cases h2

/-- What is taken, and is no front one: it is due, and comes at the least time. -/
theorem TwoE.took (x : TwoE E H n L) (h : dueB H now = true) (hf : (dueI H now).f = false) : (dueI H now).d ≤ now ∧ nxF (sortB H) = ((dueI H now).d, true) := by
  have hpos : 0 < H.length := by
    rcases Nat.eq_zero_or_pos H.length with e | e
    · rw [dueB, if_pos e] at h; cases h
    · exact e
  have hi : dueI H now = H[0]!.it := by rw [dueI, if_pos h]
  rw [hi] at hf ⊢
  have hf' : H[0]!.f = false := hf
  obtain ⟨r, hr⟩ := x.head hpos
  refine ⟨?_, ?_⟩
  · rw [dueB, if_neg (by omega), hf'] at h
    have : ¬ now < H[0]!.d := fun q => by rw [decide_eq_true q] at h; simp at h
    show H[0]!.d ≤ now
    omega
  · rw [hr]
    unfold nxF
    rw [List.find?_cons, hf']; rfl
/-- Where nothing is taken, what waits is later. -/
theorem TwoE.waits (x : TwoE E H n L) (h : dueB H now = false) (hw : (nxF (sortB H)).2 = true) : now < (nxF (sortB H)).1 := by
  by_cases e : H.length = 0
  · have : H = [] := List.eq_nil_of_length_eq_zero e
    subst this
    simp [sortB, nxF] at hw
  · obtain ⟨r, hr⟩ := x.head (by omega)
    rw [dueB, if_neg e] at h
    cases hf : H[0]!.f with
    | true => rw [hf] at h; simp at h
    | false =>
      have e2 : nxF (sortB H) = (H[0]!.d, true) := by rw [hr]; unfold nxF; rw [List.find?_cons, hf]; rfl
      rw [e2]
      rw [hf] at h
      by_cases q : now < H[0]!.d
      · exact q
      · rw [decide_eq_false q] at h; simp at h
end

end Go.Proofs.Ytfjnnbdgehaeaaa

namespace Go.Proofs.Ytfjnnbdgehaeaaa
open Go.X

/-- Items as they lie in the memory. -/
def ItsQ (h : Hp) (a : Option Addr) (n : Nat) : Prop :=
  n = 0 ∨ ∃ bb oo cs e m, a = some ⟨bb, oo, none⟩ ∧ h.get bb = some (.cells cs e m) ∧ bb < h.n ∧
    ∀ i, i < n → oo + i * 3 + 3 ≤ cs.length ∧ ∃ y : Itm, (cs.drop (oo + i * 3)).take 3 = [iV y.t, .bool y.f, iV y.d] ∧ y.d ≤ 9223372036854775807
/-- Numbers as they lie in the memory. -/
def IntsQ (h : Hp) (a : Option Addr) (n : Nat) (L : List Int) : Prop :=
  L.length = n ∧ (n = 0 ∨ ∃ bb oo cs e m, a = some ⟨bb, oo, none⟩ ∧ h.get bb = some (.cells cs e m) ∧ bb < h.n ∧
    ∀ i, i < n → cs[oo + i]? = some (iV L[i]!))
theorem ItsQ.ext {h h' : Hp} {a : Option Addr} {n : Nat} (x : ItsQ h a n) (g : Ext h h') : ItsQ h' a n := by
  rcases x with x | ⟨bb, oo, cs, e, m, e1, hg, hb, r⟩
  · exact .inl x
  · exact .inr ⟨bb, oo, cs, e, m, e1, (g.get bb hb).trans hg, Nat.lt_of_lt_of_le hb g.n, r⟩
theorem IntsQ.ext {h h' : Hp} {a : Option Addr} {n : Nat} {L : List Int} (x : IntsQ h a n L) (g : Ext h h') : IntsQ h' a n L := by
  refine ⟨x.1, ?_⟩
  rcases x.2 with x | ⟨bb, oo, cs, e, m, e1, hg, hb, r⟩
  · exact .inl x
  · exact .inr ⟨bb, oo, cs, e, m, e1, (g.get bb hb).trans hg, Nat.lt_of_lt_of_le hb g.n, r⟩

/-- The program's queue, behind h; what it has. -/
structure OneQ (h hh : Hp) (b : Nat) (E H : List Ent) (n : Int) (L : List Itm) (own : List Nat) (k : Nat) : Prop where
  w : TwoE E H n L
  x : QA hh b H n own
  l : L.length ≤ k
  n1 : 0 ≤ n
  n2 : n ≤ (k : Int)
  f1 : ∀ i, i ∈ own → h.n ≤ i
  g : Ext h hh

section
variable {h hh h3 : Hp} {b : Nat} {E H : List Ent} {n : Int} {L : List Itm} {own own' : List Nat} {k : Nat} {y : Itm} {now t : Int}

theorem OneQ.lH (o : OneQ h hh b E H n L own k) : H.length ≤ k := by rw [o.w.lenH]; exact o.l
theorem OneQ.ext (o : OneQ h hh b E H n L own k) (g : Ext hh h3) : OneQ h h3 b E H n L own k := ⟨o.w, o.x.ext g, o.l, o.n1, o.n2, o.f1, o.g.trans g⟩
theorem OneQ.grow (o : OneQ h hh b E H n L own k) (g : ExtB own hh h3) : Ext h h3 := by
  have gn := o.g.n
  refine ⟨Nat.le_trans gn g.n, fun i hi => ?_⟩
  rw [g.get i (by omega) (fun hm => by have := o.f1 i hm; omega)]
  exact o.g.get i hi
theorem OneQ.put (o : OneQ h hh b E H n L own k) (x : QA h3 b (putF H n y) (putN H n y) own') (g : ExtB own hh h3) (f : ∀ i, i ∈ own' → i ∈ own ∨ hh.n ≤ i) : ∃ E', OneQ h h3 b E' (putF H n y) (putN H n y) (putD L y) own' (k + 1) := by
  obtain ⟨_, E', w'⟩ := o.w.put (y := y)
  have gn := o.g.n
  have a1 := o.l
  have a2 := o.n1
  have a3 := o.n2
  refine ⟨E', w', x, by unfold putD; split <;> (try simp) <;> omega, by unfold putN; split <;> omega, by unfold putN; split <;> omega, fun i hi => ?_, o.grow g⟩
  rcases f i hi with q | q
  · exact o.f1 i q
  · omega
theorem takD_le (L : List Itm) (now : Int) : (takD L now).length ≤ L.length := by
  unfold takD
  split
  · exact drpD_le _ _
  · exact Nat.le_refl _
theorem OneQ.tak (o : OneQ h hh b E H n L own k) (x : QA h3 b (takF H now) n own) (g : ExtB own hh h3) : ∃ E', OneQ h h3 b E' (takF H now) n (takD L now) own k := by
  obtain ⟨E', w'⟩ := o.w.tak (now := now)
  exact ⟨E', w', x, Nat.le_trans (takD_le L now) o.l, o.n1, o.n2, o.f1, o.grow g⟩
theorem drpD_le2 (L : List Itm) (t : Int) : (drpD L t).length ≤ L.length := drpD_le L t
theorem OneQ.drp (o : OneQ h hh b E H n L own k) (x : QA h3 b (drpF H t) n own) (g : ExtB own hh h3) : ∃ E', OneQ h h3 b E' (drpF H t) n (drpD L t) own k := by
  obtain ⟨_, E', w'⟩ := o.w.drp (t := t)
  exact ⟨E', w', x, Nat.le_trans (drpD_le L t) o.l, o.n1, o.n2, o.f1, o.grow g⟩
end

/-- QueueTimes -/
theorem c4 {h : Hp} {a a2 : Option Addr} {N c M c2 : Nat} {T : List Int} (hA : ItsQ h a N) (hT : IntsQ h a2 M T) : C queE 4 [.slice a N c, .slice a2 M c2] h fun v _ => v = .bool true := by
  refine c_enter (fu := Try.f4) (by kernel_rfl) rfl ?_
  refine w_seq ?_
  refine w_region (by kernel_rfl) ?_
  refine o_assign gn rfl rfl ?_
  refine wl_end ?_
  refine w_seq ?_
  refine w_seq ?_
  refine w_region (by kernel_rfl) ?_
  refine o_move gn rfl rfl ?_
  refine o_len gn rfl rfl (by kernel_rfl) ?_
  refine o_gtr gn rfl rfl rfl ?_
  refine o_move gn rfl rfl ?_
  refine o_or (n := 3) rfl rfl rfl gn rfl (fun hb => by
      refine o_move (gy rfl rfl rfl hb) rfl rfl ?_
      refine o_len (gy rfl rfl rfl hb) rfl rfl (by kernel_rfl) ?_
      refine o_gtr (gy rfl rfl rfl hb) rfl rfl rfl ?_
      exact wl_end ⟨rfl, rfl, 3, rfl, rfl⟩) ?_
  refine wl_end ?_
  refine w_cond rfl (fun hb => ?_) fun hb => ?_
  · skip
    refine w_seq ?_
    refine w_region (by kernel_rfl) ?_
    refine o_orc (f := 8) (v := .bool true) gn rfl (by kernel_rfl) (by kernel_rfl) ag0 ?_
    refine o_assign gn rfl rfl ?_
    refine wl_end ?_
    refine w_ret ?_
    refine ⟨.inl rfl, _, rfl, ?_⟩
    rfl
  · skip
    have hNM : N ≤ 60 ∧ M ≤ 60 := by simp at hb; omega
    refine w_skip ?_
    refine w_seq ?_
    refine w_region (by kernel_rfl) ?_
    refine o_call [] gn rfl rfl (by kernel_rfl) rfl (C.mono c9 ?_)
    rintro v h1 ⟨rfl, xA, x1, n1⟩
    refine ⟨ag0, ?_⟩
    refine o_assign gn rfl rfl ?_
    refine wl_end ?_
    refine w_seq ?_
    refine w_seq ?_
    refine w_region (by kernel_rfl) ?_
    refine o_assign gn rfl rfl ?_
    refine wl_end ?_
    refine w_block ?_
    refine w_weak [(0, .slice a N c), (1, .slice a2 M c2), (5, ptrV h.n), (6, iV (0 : Nat))] (by repeat (first | exact trivial | refine ⟨rfl, ?_⟩)) ?_
    refine w_loop (fun k l hh => ∃ i : Nat, i ≤ N ∧ k = N - i ∧ (∃ E H n L own, OneQ h hh h.n E H n L own i) ∧ l = [(0, .slice a N c), (1, .slice a2 M c2), (5, ptrV h.n), (6, iV (i : Nat))]) (n := N) ?_ fun k l hh hI => ?_
    · exact ⟨0, by omega, by omega, ⟨[], [], 0, [], [h.n], ⟨rfl, .refl _, .nil, by simp, by simp, fun k h1 h2 => by simp at h2⟩, xA, by simp, by omega, by omega, by simp, x1⟩, rfl⟩
    · obtain ⟨i, hi, rfl, ⟨E, H, n, L, own, o⟩, rfl⟩ := hI
      refine w_seq ?_
      refine w_seq ?_
      refine w_region (by kernel_rfl) ?_
      refine o_move gn rfl rfl ?_
      refine o_move gn rfl rfl ?_
      refine o_len gn rfl rfl (by kernel_rfl) ?_
      refine o_lss gn rfl rfl rfl ?_
      refine wl_end ?_
      refine w_cond rfl (fun hb => ?_) fun hb => ?_
      · skip
        have hlt : i < N := by simpa using hb
        obtain ⟨bb, o0, cs, e0, m0, rfl, hg, hbb, hr⟩ := (hA.ext o.g).resolve_left (by omega)
        obtain ⟨hle, y, hrow, _⟩ := hr i hlt
        have oH := o.lH
        have on := o.n2
        refine w_skip ?_
        refine w_seq ?_
        refine w_block ?_
        refine w_region (by kernel_rfl) ?_
        refine o_move gn rfl rfl ?_
        refine o_move gn rfl rfl ?_
        refine o_move gn rfl rfl ?_
        refine o_indexAddr (zz := 3) gn rfl rfl rfl (by kernel_rfl) (by omega) (by omega) ?_
        rw [Int.toNat_natCast]
        refine o_loadA (n := 3) gn rfl rfl (by kernel_rfl) (by kernel_rfl) hg hle ?_
        rw [hrow]
        refine o_call [_, _] gn rfl rfl (by kernel_rfl) rfl (C.mono (c10 (y := y) o.x (by omega) ⟨o.n1, by omega⟩) ?_)
        rintro v h3 ⟨rfl, own3, x3, e3, f3⟩
        obtain ⟨E3, o3⟩ := o.put x3 e3 f3
        refine ⟨ag0, ?_⟩
        refine wl_end ?_
        refine w_region (by kernel_rfl) ?_
        refine o_move gn rfl rfl ?_
        refine o_add gn rfl rfl rfl (by omega) (by omega) ?_
        refine o_assign gn rfl rfl ?_
        refine wl_end ?_
        exact ⟨N - (i + 1), by omega, _, (by repeat (first | exact trivial | refine ⟨rfl, ?_⟩)), ⟨i + 1, by omega, rfl, ⟨_, _, _, _, _, o3⟩, rfl⟩⟩
      · skip
        refine w_exit ?_
        refine thn_exit ?_
        refine rnd_exit ?_
        refine blk_eq ?_
        refine w_seq ?_
        refine w_seq ?_
        refine w_region (by kernel_rfl) ?_
        refine o_assign gn rfl rfl ?_
        refine wl_end ?_
        refine w_block ?_
        refine w_weak [(0, .slice a N c), (1, .slice a2 M c2), (5, ptrV h.n), (7, iV (0 : Nat))] (by repeat (first | exact trivial | refine ⟨rfl, ?_⟩)) ?_
        refine w_loop (fun k l hh => ∃ j : Nat, j ≤ M ∧ k = M - j ∧ (∃ E H n L own, OneQ h hh h.n E H n L own N) ∧ l = [(0, .slice a N c), (1, .slice a2 M c2), (5, ptrV h.n), (7, iV (j : Nat))]) (n := M) ?_ fun k l hh hI => ?_
        · exact ⟨0, by omega, by omega, ⟨E, H, n, L, own, by
          have hiN : i = N := by { simp at hb; omega }
          rw [← hiN]; exact o⟩, rfl⟩
        · obtain ⟨j, hj, rfl, ⟨E, H, n, L, own, o⟩, rfl⟩ := hI
          refine w_seq ?_
          refine w_seq ?_
          refine w_region (by kernel_rfl) ?_
          refine o_move gn rfl rfl ?_
          refine o_move gn rfl rfl ?_
          refine o_len gn rfl rfl (by kernel_rfl) ?_
          refine o_lss gn rfl rfl rfl ?_
          refine wl_end ?_
          refine w_cond rfl (fun hb => ?_) fun hb => ?_
          · skip
            have hlt : j < M := by simpa using hb
            have oH := o.lH
            have on := o.n2
            refine w_skip ?_
            refine w_seq ?_
            refine w_block ?_
            refine w_seq ?_
            refine w_region (by kernel_rfl) ?_
            refine o_move gn rfl rfl ?_
            refine o_call [_] gn rfl rfl (by kernel_rfl) rfl (C.mono (c15 o.x o.w.qH (by omega)) ?_)
            rintro v h3 ⟨rfl, x3⟩
            have o3 := o.ext x3
            obtain ⟨bb, o0, cs, e0, m0, rfl, hg, hbb, hr⟩ := hT.2.resolve_left (by omega)
            have hcell := hr j hlt
            have hg3 := (o3.g.get bb hbb).trans hg
            refine ⟨ag0, ?_⟩
            refine o_move gn rfl rfl ?_
            refine o_extract gn rfl rfl rfl ?_
            refine o_extract gn rfl rfl rfl ?_
            refine o_assign gn rfl rfl ?_
            refine o_assign gn rfl rfl ?_
            refine wl_end ?_
            refine w_seq ?_
            refine w_region (by kernel_rfl) ?_
            refine o_move gn rfl rfl ?_
            refine o_move gn rfl rfl ?_
            refine o_move gn rfl rfl ?_
            refine o_indexAddr (zz := 1) gn rfl rfl rfl (by kernel_rfl) (by omega) (by omega) ?_
            refine o_load gn rfl rfl (by kernel_rfl) hg3 (by rw [Int.toNat_natCast, Nat.mul_one]; exact hcell) ?_
            refine o_call [_, _] gn rfl rfl (by kernel_rfl) rfl (C.mono (c13 o3.x (by omega)) ?_)
            rintro v h4 ⟨rfl, x4, e4⟩
            obtain ⟨E4, o4⟩ := o3.tak x4 e4
            refine ⟨ag0, ?_⟩
            refine o_move gn rfl rfl ?_
            refine o_extract gn rfl rfl rfl ?_
            refine o_extract gn rfl rfl rfl ?_
            refine o_alloc (zv := .agg #[.int .i64 0, .bool false, .int .i64 0]) gn rfl (by kernel_rfl) ?_
            refine o_storeA (n := 3) gn rfl rfl rfl (by kernel_rfl) rfl (Hp.get_alloc_self _ _) (by decide) rfl ag0 ?_
            refine wl_at (fun h5 => h5.get h4.n = some (.cells [iV (dueI H T[j]!).t, .bool (dueI H T[j]!).f, iV (dueI H T[j]!).d] 30 0) ∧ Ext h4 h5) ⟨Hp.get_put_self _ _ _, (Ext.alloc _ _).of (ExtB.put _ _ _) (by simp)⟩ fun h5 ⟨g5, x5⟩ => ?_
            have o5 := o4.ext x5
            have hg5 := (o5.g.get bb hbb).trans hg
            refine o_assign gn rfl rfl ?_
            refine wl_end ?_
            refine w_seq ?_
            refine w_seq ?_
            refine w_draw [(0, []), (1, []), (2, []), (3, []), (4, []), (5, []), (6, []), (7, []), (8, []), (9, []), (10, []), (11, []), (12, []), (13, []), (14, []), (15, []), (16, []), (17, []), (18, []), (19, []), (20, []), (21, []), (22, []), (23, []), (24, [])] (by kernel_rfl) (by kernel_rfl) (by kernel_rfl) (by kernel_rfl) ?_
            refine o_move gn rfl rfl ?_
            refine o_move gn rfl rfl ?_
            refine o_and (n := 3) rfl rfl rfl gn rfl (fun hb => by
                refine o_fieldAddr (off := 1) (gy rfl rfl rfl hb) rfl rfl (by kernel_rfl) ?_
                refine o_load (gy rfl rfl rfl hb) rfl rfl (by kernel_rfl) g5 rfl ?_
                refine o_not (gy rfl rfl rfl hb) rfl rfl ?_
                exact wl_end ⟨rfl, rfl, 3, rfl, rfl⟩) ?_
            refine o_move gn rfl rfl ?_
            refine o_and (n := 17) rfl rfl rfl gn rfl (fun hb => by
                refine o_fieldAddr (off := 2) (gy rfl rfl rfl hb) rfl rfl (by kernel_rfl) ?_
                refine o_load (gy rfl rfl rfl hb) rfl rfl (by kernel_rfl) g5 rfl ?_
                refine o_move (gy rfl rfl rfl hb) rfl rfl ?_
                refine o_move (gy rfl rfl rfl hb) rfl rfl ?_
                refine o_indexAddr (zz := 1) (gy rfl rfl rfl hb) rfl rfl rfl (by kernel_rfl) (by omega) (by omega) ?_
                refine o_load (gy rfl rfl rfl hb) rfl rfl (by kernel_rfl) hg5 (by rw [Int.toNat_natCast, Nat.mul_one]; exact hcell) ?_
                refine o_gtr (gy rfl rfl rfl hb) rfl rfl rfl ?_
                refine o_move (gy rfl rfl rfl hb) rfl rfl ?_
                refine o_or (n := 2) rfl rfl rfl (gy rfl rfl rfl hb) rfl (fun hb => by
                    refine o_move (gy rfl rfl rfl hb) rfl rfl ?_
                    refine o_not (gy rfl rfl rfl hb) rfl rfl ?_
                    exact wl_end ⟨rfl, rfl, 2, rfl, rfl⟩) ?_
                refine o_move (gy rfl rfl rfl hb) rfl rfl ?_
                refine o_or (n := 4) rfl rfl rfl (gy rfl rfl rfl hb) rfl (fun hb => by
                    refine o_fieldAddr (off := 2) (gy rfl rfl rfl hb) rfl rfl (by kernel_rfl) ?_
                    refine o_load (gy rfl rfl rfl hb) rfl rfl (by kernel_rfl) g5 rfl ?_
                    refine o_move (gy rfl rfl rfl hb) rfl rfl ?_
                    refine o_nei (gy rfl rfl rfl hb) rfl rfl rfl ?_
                    exact wl_end ⟨rfl, rfl, 4, rfl, rfl⟩) ?_
                exact wl_end ⟨rfl, rfl, 11, rfl, rfl⟩) ?_
            refine wl_end ?_
            refine w_cond rfl (fun hb => ?_) fun hb => ?_
            · skip
              refine w_seq ?_
              refine w_region (by kernel_rfl) ?_
              refine o_assign gn rfl rfl ?_
              refine wl_end ?_
              refine w_ret ?_
              refine ⟨.inl rfl, _, rfl, ?_⟩
              exfalso
              cases h1 : dueB H T[j]! with
              | false => rw [h1] at hb; simp at hb
              | true =>
                cases h2 : (dueI H T[j]!).f with
                | true => rw [h2] at hb; simp at hb
                | false =>
                  obtain ⟨q1, q2⟩ := o3.w.took h1 h2
                  rw [h1, h2, q2] at hb
                  generalize T[j]! = tj at q1 hb
                  simp at hb; omega
            · skip
              refine w_skip ?_
              refine w_seq ?_
              refine w_region (by kernel_rfl) ?_
              refine o_move gn rfl rfl ?_
              refine o_not gn rfl rfl ?_
              refine o_move gn rfl rfl ?_
              refine o_and (n := 1) rfl rfl rfl gn rfl (fun hb => by
                  refine o_move (gy rfl rfl rfl hb) rfl rfl ?_
                  exact wl_end ⟨rfl, rfl, 1, rfl, rfl⟩) ?_
              refine o_move gn rfl rfl ?_
              refine o_and (n := 6) rfl rfl rfl gn rfl (fun hb => by
                  refine o_move (gy rfl rfl rfl hb) rfl rfl ?_
                  refine o_move (gy rfl rfl rfl hb) rfl rfl ?_
                  refine o_move (gy rfl rfl rfl hb) rfl rfl ?_
                  refine o_indexAddr (zz := 1) (gy rfl rfl rfl hb) rfl rfl rfl (by kernel_rfl) (by omega) (by omega) ?_
                  refine o_load (gy rfl rfl rfl hb) rfl rfl (by kernel_rfl) hg5 (by rw [Int.toNat_natCast, Nat.mul_one]; exact hcell) ?_
                  refine o_leq (gy rfl rfl rfl hb) rfl rfl rfl ?_
                  exact wl_end ⟨rfl, rfl, 6, rfl, rfl⟩) ?_
              refine wl_end ?_
              refine w_cond rfl (fun hb => ?_) fun hb => ?_
              · skip
                refine w_seq ?_
                refine w_region (by kernel_rfl) ?_
                refine o_assign gn rfl rfl ?_
                refine wl_end ?_
                refine w_ret ?_
                refine ⟨.inl rfl, _, rfl, ?_⟩
                exfalso
                cases h1 : dueB H T[j]! with
                | true => rw [h1] at hb; simp at hb
                | false =>
                  cases h2 : (nxF (sortB H)).2 with
                  | false => rw [h2] at hb; simp at hb
                  | true =>
                    have q := o3.w.waits h1 h2
                    rw [h1, h2] at hb
                    generalize T[j]! = tj at q hb
                    simp at hb; omega
              · skip
                refine w_skip ?_
                refine w_region (by kernel_rfl) ?_
                refine o_move gn rfl rfl ?_
                refine o_add gn rfl rfl rfl (by omega) (by omega) ?_
                refine o_assign gn rfl rfl ?_
                refine wl_end ?_
                exact ⟨M - (j + 1), by omega, _, (by repeat (first | exact trivial | refine ⟨rfl, ?_⟩)), ⟨j + 1, by omega, rfl, ⟨_, _, _, _, _, o5⟩, rfl⟩⟩
          · skip
            refine w_exit ?_
            refine thn_exit ?_
            refine rnd_exit ?_
            refine blk_eq ?_
            refine w_seq ?_
            refine w_region (by kernel_rfl) ?_
            refine o_orc (f := 8) (v := .bool true) gn rfl (by kernel_rfl) (by kernel_rfl) ag0 ?_
            refine o_assign gn rfl rfl ?_
            refine wl_end ?_
            refine w_ret ?_
            refine ⟨.inl rfl, _, rfl, ?_⟩
            rfl

end Go.Proofs.Ytfjnnbdgehaeaaa


namespace Go.Proofs.Ytfjnnbdgehaeaaa
open Go.X

section
variable {E H : List Ent} {n t now : Int} {L : List Itm} {y : Itm}

theorem TwoE.allLen (x : TwoE E H n L) : (allD L).length = L.length := by
  rw [← x.all, List.length_map, (sortB_perm H).length_eq, x.lenH]
theorem TwoE.allMem (x : TwoE E H n L) {z : Itm} (h : z ∈ allD L) : z ∈ L := by
  rw [← x.all] at h
  have h2 : z ∈ H.map Ent.it := ((sortB_perm H).map _).mem_iff.1 h
  have h3 : z ∈ E.map Ent.it := (x.pm.map _).mem_iff.1 h2
  rwa [x.it] at h3
theorem TwoE.tdL (x : TwoE E H n L) : (L.map (·.t)).Nodup := by
  have := x.td
  rw [← x.it, List.map_map]
  exact this
theorem drpD_sub {z : Itm} (h : z ∈ drpD L t) : z ∈ L := by
  unfold drpD at h
  split at h
  · rcases List.mem_append.1 h with h | h
    · exact List.mem_of_mem_take h
    · exact List.mem_of_mem_drop h
  · exact h
theorem drpD_no (hn : (L.map (·.t)).Nodup) {z : Itm} (h : z ∈ drpD L t) : z.t ≠ t := by
  intro e
  have hz := drpD_sub h
  have hp : 0 ≤ posD L t := posD_iff.2 ⟨z, hz, e⟩
  have hlt := posD_lt hp
  have hat := posD_at hp
  have hb : drpDB L t = true := by simp [drpDB]; omega
  rw [drpD, if_pos hb] at h
  have e1 : L[(posD L t).toNat]! = L[(posD L t).toNat] := by simp [hlt]
  rw [e1] at hat
  have key : ∀ j (hj : j < L.length), L[j] = z → j = (posD L t).toNat := fun j hj ej =>
    idx_inj hn (by simpa using hj) (by simpa using hlt) (by simp [ej, e, hat])
  rcases List.mem_append.1 h with q | q
  · obtain ⟨j, hj, ej⟩ := List.getElem_of_mem q
    rw [List.length_take] at hj
    rw [List.getElem_take] at ej
    have := key j (by omega) ej
    omega
  · obtain ⟨j, hj, ej⟩ := List.getElem_of_mem q
    rw [List.length_drop] at hj
    rw [List.getElem_drop] at ej
    have := key _ (by omega) ej
    omega

theorem TwoE.drpLen (x : TwoE E H n L) : (drpD L t).length = if drpB H t then L.length - 1 else L.length := by
  have e := (x.drp (t := t)).1
  rw [e]
  by_cases h : drpDB L t = true
  · rw [if_pos h]
    exact drpD_len (by simpa [drpDB] using h)
  · rw [if_neg h, drpD, if_neg h]
theorem TwoE.drpPos (x : TwoE E H n L) (h : drpB H t = true) : 0 < L.length := by
  rw [(x.drp (t := t)).1] at h
  have h0 : 0 ≤ posD L t := by simpa [drpDB] using h
  have := posD_lt h0
  omega
theorem TwoE.putLen (x : TwoE E H n L) : (putD L y).length = if putE H y = 0 then L.length + 1 else L.length := by
  have e := (x.put (y := y)).1
  rw [e, putD]
  split <;> simp
theorem putD_mem {z : Itm} (h : z ∈ putD L y) : z ∈ L ∨ z = y := by
  unfold putD at h
  split at h
  · rcases List.mem_append.1 h with h | h
    · exact .inl h
    · exact .inr (by simpa using h)
  · exact .inl h

/-- Where something is, and none is later than now, the first one is taken; what is left comes in the order in which it was. -/
theorem TwoE.next (x : TwoE E H n L) (h : 0 < L.length) (hd : ∀ z, z ∈ L → z.d ≤ now) : dueB H now = true ∧ allD L = dueI H now :: allD (takD L now) ∧ (takD L now).length = L.length - 1 ∧ ∀ z, z ∈ takD L now → z ∈ L := by
  obtain ⟨e1, e2⟩ := x.due (now := now)
  have hf := fir_in h
  have hb : dueDB L now = true := by
    have h0 := firN_nn L L.length h
    rw [dueDB, if_neg (by omega)]
    have h1 := hd _ (get_mem hf)
    rw [decide_eq_false (by omega)]; simp
  have hi : dueDI L now = firI L := by rw [dueDI, if_pos hb]; rfl
  have ht : takD L now = drpD L (firI L).t := by rw [takD, if_pos hb, hi]
  have hl := drpD_len (firI_pos h)
  refine ⟨by rw [e1, hb], ?_, by rw [ht, hl], fun z hz => drpD_sub (by rw [ht] at hz; exact hz)⟩
  rw [e2, hi, ht]
  unfold allD
  rw [hl]
  obtain ⟨m, hm⟩ : ∃ m, L.length = m + 1 := ⟨L.length - 1, by omega⟩
  rw [hm, allN, if_neg (by omega)]
  rfl
theorem TwoE.none (x : TwoE E H n L) (h : L.length = 0) : dueB H now = false := by
  rw [dueB, if_pos (by rw [x.lenH]; exact h)]
end

end Go.Proofs.Ytfjnnbdgehaeaaa

namespace Go.Proofs.Ytfjnnbdgehaeaaa
open Go.X

/-- QueueEmpties -/
theorem c3 {h : Hp} {a a2 : Option Addr} {N c M c2 : Nat} {T : List Int} (hA : ItsQ h a N) (hT : IntsQ h a2 M T) : C queE 3 [.slice a N c, .slice a2 M c2] h fun v _ => v = .bool true := by
  refine c_enter (fu := Try.f3) (by kernel_rfl) rfl ?_
  refine w_seq ?_
  refine w_region (by kernel_rfl) ?_
  refine o_assign gn rfl rfl ?_
  refine wl_end ?_
  refine w_seq ?_
  refine w_seq ?_
  refine w_region (by kernel_rfl) ?_
  refine o_move gn rfl rfl ?_
  refine o_len gn rfl rfl (by kernel_rfl) ?_
  refine o_gtr gn rfl rfl rfl ?_
  refine o_move gn rfl rfl ?_
  refine o_or (n := 3) rfl rfl rfl gn rfl (fun hb => by
      refine o_move (gy rfl rfl rfl hb) rfl rfl ?_
      refine o_len (gy rfl rfl rfl hb) rfl rfl (by kernel_rfl) ?_
      refine o_gtr (gy rfl rfl rfl hb) rfl rfl rfl ?_
      exact wl_end ⟨rfl, rfl, 3, rfl, rfl⟩) ?_
  refine wl_end ?_
  refine w_cond rfl (fun hb => ?_) fun hb => ?_
  · skip
    refine w_seq ?_
    refine w_region (by kernel_rfl) ?_
    refine o_orc (f := 8) (v := .bool true) gn rfl (by kernel_rfl) (by kernel_rfl) ag0 ?_
    refine o_assign gn rfl rfl ?_
    refine wl_end ?_
    refine w_ret ?_
    refine ⟨.inl rfl, _, rfl, ?_⟩
    rfl
  · skip
    have hNM : N ≤ 60 ∧ M ≤ 60 := by simp at hb; omega
    refine w_skip ?_
    refine w_seq ?_
    refine w_region (by kernel_rfl) ?_
    refine o_call [] gn rfl rfl (by kernel_rfl) rfl (C.mono c9 ?_)
    rintro v h1 ⟨rfl, xA, x1, n1⟩
    refine ⟨ag0, ?_⟩
    refine o_assign gn rfl rfl ?_
    refine wl_end ?_
    refine w_seq ?_
    refine w_region (by kernel_rfl) ?_
    refine o_assign gn rfl rfl ?_
    refine wl_end ?_
    refine w_seq ?_
    refine w_seq ?_
    refine w_region (by kernel_rfl) ?_
    refine o_assign gn rfl rfl ?_
    refine wl_end ?_
    refine w_block ?_
    refine w_weak [(0, .slice a N c), (1, .slice a2 M c2), (5, ptrV h.n), (6, iV (0 : Nat)), (7, iV (0 : Nat))] (by repeat (first | exact trivial | refine ⟨rfl, ?_⟩)) ?_
    refine w_loop (fun k l hh => ∃ i : Nat, i ≤ N ∧ k = N - i ∧ ∃ E H n L own mm, OneQ h hh h.n E H n L own i ∧ (∀ z, z ∈ L → z.d ≤ 9223372036854775807) ∧ mm = (L.length : Int) ∧ l = [(0, .slice a N c), (1, .slice a2 M c2), (5, ptrV h.n), (6, iV mm), (7, iV (i : Nat))]) (n := N) ?_ fun k l hh hI => ?_
    · exact ⟨0, by omega, by omega, [], [], 0, [], [h.n], 0, ⟨⟨rfl, .refl _, .nil, by simp, by simp, fun k h1 h2 => by simp at h2⟩, xA, by simp, by omega, by omega, by simp, x1⟩, by simp, rfl, rfl⟩
    · obtain ⟨i, hi, rfl, E, H, n, L, own, mm, o, hd, hmm, rfl⟩ := hI
      refine w_seq ?_
      refine w_seq ?_
      refine w_region (by kernel_rfl) ?_
      refine o_move gn rfl rfl ?_
      refine o_move gn rfl rfl ?_
      refine o_len gn rfl rfl (by kernel_rfl) ?_
      refine o_lss gn rfl rfl rfl ?_
      refine wl_end ?_
      refine w_cond rfl (fun hb => ?_) fun hb => ?_
      · skip
        have hlt : i < N := by simpa using hb
        obtain ⟨bb, o0, cs, e0, m0, rfl, hg, hbb, hr⟩ := (hA.ext o.g).resolve_left (by omega)
        obtain ⟨hle, y, hrow, hy⟩ := hr i hlt
        have oH := o.lH
        have oL := o.l
        have on := o.n2
        have hd2 : ∀ z, z ∈ putD L y → z.d ≤ 9223372036854775807 := fun z hz => by
          rcases putD_mem hz with q | q
          · exact hd z q
          · rw [q]; exact hy
        have hlen := o.w.putLen (y := y)
        refine w_skip ?_
        refine w_seq ?_
        refine w_block ?_
        refine w_seq ?_
        refine w_region (by kernel_rfl) ?_
        refine o_move gn rfl rfl ?_
        refine o_move gn rfl rfl ?_
        refine o_move gn rfl rfl ?_
        refine o_indexAddr (zz := 3) gn rfl rfl rfl (by kernel_rfl) (by omega) (by omega) ?_
        rw [Int.toNat_natCast]
        refine o_loadA (n := 3) gn rfl rfl (by kernel_rfl) (by kernel_rfl) hg hle ?_
        rw [hrow]
        refine o_call [_, _] gn rfl rfl (by kernel_rfl) rfl (C.mono (c10 (y := y) o.x (by omega) ⟨o.n1, by omega⟩) ?_)
        rintro v h3 ⟨rfl, own3, x3, e3, f3⟩
        obtain ⟨E3, o3⟩ := o.put x3 e3 f3
        refine ⟨ag0, ?_⟩
        refine o_eqi gn rfl rfl rfl ?_
        refine wl_end ?_
        refine w_cond rfl (fun hb => ?_) fun hb => ?_
        · skip
          refine w_region (by kernel_rfl) ?_
          refine o_move gn rfl rfl ?_
          have he : putE H y = 0 := by simpa using hb
          rw [if_pos he] at hlen
          refine o_add gn rfl rfl rfl (by omega) (by omega) ?_
          refine o_assign gn rfl rfl ?_
          refine wl_end ?_
          refine w_region (by kernel_rfl) ?_
          refine o_move gn rfl rfl ?_
          refine o_add gn rfl rfl rfl (by omega) (by omega) ?_
          refine o_assign gn rfl rfl ?_
          refine wl_end ?_
          exact ⟨N - (i + 1), by omega, _, (by repeat (first | exact trivial | refine ⟨rfl, ?_⟩)), ⟨i + 1, by omega, rfl, _, _, _, _, _, _, o3, hd2, by omega, rfl⟩⟩
        · skip
          have he : ¬ putE H y = 0 := by simpa using hb
          rw [if_neg he] at hlen
          refine w_skip ?_
          refine w_region (by kernel_rfl) ?_
          refine o_move gn rfl rfl ?_
          refine o_add gn rfl rfl rfl (by omega) (by omega) ?_
          refine o_assign gn rfl rfl ?_
          refine wl_end ?_
          exact ⟨N - (i + 1), by omega, _, (by repeat (first | exact trivial | refine ⟨rfl, ?_⟩)), ⟨i + 1, by omega, rfl, _, _, _, _, _, _, o3, hd2, by omega, rfl⟩⟩
      · skip
        refine w_exit ?_
        refine thn_exit ?_
        refine rnd_exit ?_
        refine blk_eq ?_
        refine w_seq ?_
        refine w_seq ?_
        refine w_region (by kernel_rfl) ?_
        refine o_assign gn rfl rfl ?_
        refine wl_end ?_
        refine w_block ?_
        refine w_weak [(0, .slice a N c), (1, .slice a2 M c2), (5, ptrV h.n), (6, iV mm), (8, iV (0 : Nat))] (by repeat (first | exact trivial | refine ⟨rfl, ?_⟩)) ?_
        refine w_loop (fun k l hh => ∃ j : Nat, j ≤ M ∧ k = M - j ∧ ∃ E H n L own mm, OneQ h hh h.n E H n L own N ∧ (∀ z, z ∈ L → z.d ≤ 9223372036854775807) ∧ (∀ z, z ∈ L → ∀ q, q < j → z.t ≠ T[q]!) ∧ mm = (L.length : Int) ∧ l = [(0, .slice a N c), (1, .slice a2 M c2), (5, ptrV h.n), (6, iV mm), (8, iV (j : Nat))]) (n := M) ?_ fun k l hh hI => ?_
        · exact ⟨0, by omega, by omega, E, H, n, L, own, mm, by
          have hiN : i = N := by { simp at hb; omega }
          rw [← hiN]; exact o, hd, fun z _ q hq => by omega, hmm, rfl⟩
        · obtain ⟨j, hj, rfl, E, H, n, L, own, mm, o, hd, hno, hmm, rfl⟩ := hI
          refine w_seq ?_
          refine w_seq ?_
          refine w_region (by kernel_rfl) ?_
          refine o_move gn rfl rfl ?_
          refine o_move gn rfl rfl ?_
          refine o_len gn rfl rfl (by kernel_rfl) ?_
          refine o_lss gn rfl rfl rfl ?_
          refine wl_end ?_
          refine w_cond rfl (fun hb => ?_) fun hb => ?_
          · skip
            have hlt : j < M := by simpa using hb
            obtain ⟨bb, o0, cs, e0, m0, rfl, hg, hbb, hr⟩ := (hT.ext o.g).2.resolve_left (by omega)
            have hcell := hr j hlt
            have oH := o.lH
            have oL := o.l
            have hlen := o.w.drpLen (t := T[j]!)
            have hno2 : ∀ z, z ∈ drpD L T[j]! → ∀ q, q < j + 1 → z.t ≠ T[q]! := fun z hz q hq => by
              by_cases e : q = j
              · subst e; exact drpD_no o.w.tdL hz
              · exact hno z (drpD_sub hz) q (by omega)
            have hd2 : ∀ z, z ∈ drpD L T[j]! → z.d ≤ 9223372036854775807 := fun z hz => hd z (drpD_sub hz)
            refine w_skip ?_
            refine w_seq ?_
            refine w_block ?_
            refine w_seq ?_
            refine w_region (by kernel_rfl) ?_
            refine o_move gn rfl rfl ?_
            refine o_move gn rfl rfl ?_
            refine o_move gn rfl rfl ?_
            refine o_indexAddr (zz := 1) gn rfl rfl rfl (by kernel_rfl) (by omega) (by omega) ?_
            refine o_load gn rfl rfl (by kernel_rfl) hg (by rw [Int.toNat_natCast, Nat.mul_one]; exact hcell) ?_
            refine o_call [_, _] gn rfl rfl (by kernel_rfl) rfl (C.mono (c11 o.x (by omega)) ?_)
            rintro v h3 ⟨rfl, x3, e3⟩
            obtain ⟨E3, o3⟩ := o.drp x3 e3
            refine ⟨ag0, ?_⟩
            refine wl_end ?_
            refine w_cond rfl (fun hb => ?_) fun hb => ?_
            · skip
              refine w_region (by kernel_rfl) ?_
              refine o_move gn rfl rfl ?_
              have hb2 : drpB H T[j]! = true := hb
              have hpos := o.w.drpPos hb2
              rw [if_pos hb2] at hlen
              refine o_sub gn rfl rfl rfl (by omega) (by omega) ?_
              refine o_assign gn rfl rfl ?_
              refine wl_end ?_
              refine w_region (by kernel_rfl) ?_
              refine o_move gn rfl rfl ?_
              refine o_add gn rfl rfl rfl (by omega) (by omega) ?_
              refine o_assign gn rfl rfl ?_
              refine wl_end ?_
              exact ⟨M - (j + 1), by omega, _, (by repeat (first | exact trivial | refine ⟨rfl, ?_⟩)), ⟨j + 1, by omega, rfl, _, _, _, _, _, _, o3, hd2, hno2, by omega, rfl⟩⟩
            · skip
              have hb2 : ¬ drpB H T[j]! = true := by simpa using hb
              rw [if_neg hb2] at hlen
              refine w_skip ?_
              refine w_region (by kernel_rfl) ?_
              refine o_move gn rfl rfl ?_
              refine o_add gn rfl rfl rfl (by omega) (by omega) ?_
              refine o_assign gn rfl rfl ?_
              refine wl_end ?_
              exact ⟨M - (j + 1), by omega, _, (by repeat (first | exact trivial | refine ⟨rfl, ?_⟩)), ⟨j + 1, by omega, rfl, _, _, _, _, _, _, o3, hd2, hno2, by omega, rfl⟩⟩
          · skip
            refine w_exit ?_
            refine thn_exit ?_
            refine rnd_exit ?_
            refine blk_eq ?_
            refine w_seq ?_
            refine w_region (by kernel_rfl) ?_
            refine o_move gn rfl rfl ?_
            refine o_call [_, _] gn rfl rfl (by kernel_rfl) rfl (C.mono (c12 (most := -1) o.x o.w.qH (by have := o.lH; omega)) ?_)
            have hjM : j = M := by simp at hb; omega
            rintro v h3 ⟨sv, B, rfl, hs, hB, x3⟩
            have htk : takeM ((sortB H).map Ent.it) (-1) = allD L := by rw [takeM, if_neg (by omega), o.w.all]
            rw [htk] at hs
            subst hmm
            have hall := o.w.allLen
            have oL := o.l
            have hmem : ∀ z, z ∈ allD L → ∀ q, q < M → z.t ≠ T[q]! := fun z hz q hq => hno z (o.w.allMem hz) q (by omega)
            have o3 := o.ext x3
            have hBo : ∀ i, i ∈ B → i ∉ own := fun i hi e => by have := hB i hi; have := o.x.lt i e; omega
            have hBh : ∀ i, i ∈ B → h.n ≤ i := fun i hi => by have := hB i hi; have := o.g.n; omega
            obtain ⟨sa, sc, rfl⟩ := hs.toC.val
            refine ⟨ag0, ?_⟩
            refine o_move gn rfl rfl ?_
            refine o_extract gn rfl rfl rfl ?_
            refine o_extract gn rfl rfl rfl ?_
            refine o_assign gn rfl rfl ?_
            refine o_assign gn rfl rfl ?_
            refine wl_end ?_
            refine w_seq ?_
            refine w_seq ?_
            refine w_region (by kernel_rfl) ?_
            refine o_move gn rfl rfl ?_
            refine o_not gn rfl rfl ?_
            refine o_move gn rfl rfl ?_
            refine o_or (n := 4) rfl rfl rfl gn rfl (fun hb => by
                refine o_move (gy rfl rfl rfl hb) rfl rfl ?_
                refine o_len (gy rfl rfl rfl hb) rfl rfl (by kernel_rfl) ?_
                refine o_move (gy rfl rfl rfl hb) rfl rfl ?_
                refine o_nei (gy rfl rfl rfl hb) rfl rfl rfl ?_
                exact wl_end ⟨rfl, rfl, 4, rfl, rfl⟩) ?_
            refine wl_end ?_
            refine w_cond rfl (fun hb => ?_) fun hb => ?_
            · skip
              refine w_seq ?_
              refine w_region (by kernel_rfl) ?_
              refine o_assign gn rfl rfl ?_
              refine wl_end ?_
              refine w_ret ?_
              refine ⟨.inl rfl, _, rfl, ?_⟩
              simp [hall] at hb
            · skip
              refine w_skip ?_
              refine w_seq ?_
              refine w_seq ?_
              refine w_region (by kernel_rfl) ?_
              refine o_assign gn rfl rfl ?_
              refine wl_end ?_
              refine w_block ?_
              refine w_weak [(0, .slice a N c), (1, .slice a2 M c2), (5, ptrV h.n), (6, iV (L.length : Nat)), (9, .slice sa (allD L).length sc), (11, iV (0 : Nat))] (by repeat (first | exact trivial | refine ⟨rfl, ?_⟩)) ?_
              refine w_loop (fun k l hh => ∃ i : Nat, i ≤ L.length ∧ k = L.length - i ∧ ∃ E2 H2 n2 L2, OneQ h hh h.n E2 H2 n2 L2 own N ∧ (∀ z, z ∈ L2 → z.d ≤ 9223372036854775807) ∧ L2.length = L.length - i ∧ allD L2 = (allD L).drop i ∧ SlC 30 2 hh (.slice sa (allD L).length sc) (enI (allD L)) (allD L).length B ∧ l = [(0, .slice a N c), (1, .slice a2 M c2), (5, ptrV h.n), (6, iV (L.length : Nat)), (9, .slice sa (allD L).length sc), (11, iV (i : Nat))]) (n := L.length) ?_ fun k l hh hI => ?_
              · exact ⟨0, by omega, by omega, E, H, n, L, o3, hd, by omega, by simp, hs.toC, rfl⟩
              · obtain ⟨i, hi, rfl, E2, H2, n2, L2, o2, hd2, hl2, ha2, hs2, rfl⟩ := hI
                refine w_seq ?_
                refine w_seq ?_
                refine w_region (by kernel_rfl) ?_
                refine o_move gn rfl rfl ?_
                refine o_move gn rfl rfl ?_
                refine o_len gn rfl rfl (by kernel_rfl) ?_
                refine o_lss gn rfl rfl rfl ?_
                refine wl_end ?_
                refine w_cond rfl (fun hb => ?_) fun hb => ?_
                · skip
                  have hlt : i < L.length := by simp [hall] at hb; exact hb
                  obtain ⟨h2, eh2⟩ : ∃ x, x = hh := ⟨_, rfl⟩
                  subst eh2
                  have hlt2 : i < (allD L).length := by omega
                  obtain ⟨b1, m1, cc1, r1, ea, hg1, _⟩ := hs2.at (by omega)
                  cases ea
                  have t1 := enI_cut hlt2 r1
                  have l1 := enI_len (allD L)
                  have hz : (allD L)[i]! ∈ allD L := get_mem hlt2
                  refine w_skip ?_
                  refine w_seq ?_
                  refine w_block ?_
                  refine w_seq ?_
                  refine w_seq ?_
                  refine w_region (by kernel_rfl) ?_
                  refine o_assign gn rfl rfl ?_
                  refine wl_end ?_
                  refine w_block ?_
                  refine w_weak [(0, .slice a N c), (1, .slice a2 M c2), (5, ptrV h.n), (6, iV (L.length : Nat)), (9, .slice (some ⟨b1, 0, none⟩) (allD L).length sc), (11, iV (i : Nat)), (12, iV (0 : Nat))] (by repeat (first | exact trivial | refine ⟨rfl, ?_⟩)) ?_
                  refine w_loop (fun k l hh => ∃ q : Nat, q ≤ M ∧ k = M - q ∧ hh = h2 ∧ l = [(0, .slice a N c), (1, .slice a2 M c2), (5, ptrV h.n), (6, iV (L.length : Nat)), (9, .slice (some ⟨b1, 0, none⟩) (allD L).length sc), (11, iV (i : Nat)), (12, iV (q : Nat))]) (n := M) ?_ fun k l hh hI => ?_
                  · exact ⟨0, by omega, by omega, rfl, rfl⟩
                  · obtain ⟨q, hq, rfl, rfl, rfl⟩ := hI
                    refine w_seq ?_
                    refine w_seq ?_
                    refine w_region (by kernel_rfl) ?_
                    refine o_move gn rfl rfl ?_
                    refine o_move gn rfl rfl ?_
                    refine o_len gn rfl rfl (by kernel_rfl) ?_
                    refine o_lss gn rfl rfl rfl ?_
                    refine wl_end ?_
                    refine w_cond rfl (fun hb => ?_) fun hb => ?_
                    · skip
                      have hltq : q < M := by simpa using hb
                      obtain ⟨bb, o0, cs, e0, m0, rfl, hg, hbb, hr⟩ := (hT.ext o2.g).2.resolve_left (by omega)
                      have hcell := hr q hltq
                      have hne := hmem _ hz q hltq
                      refine w_skip ?_
                      refine w_seq ?_
                      refine w_block ?_
                      refine w_seq ?_
                      refine w_draw [(0, []), (1, []), (2, []), (3, []), (4, []), (5, []), (6, []), (7, []), (8, []), (9, [])] (by kernel_rfl) (by kernel_rfl) (by kernel_rfl) (by kernel_rfl) ?_
                      refine o_move gn rfl rfl ?_
                      refine o_move gn rfl rfl ?_
                      refine o_indexAddr (zz := 3) gn rfl rfl rfl (by kernel_rfl) (by omega) (by omega) ?_
                      rw [Int.toNat_natCast, Nat.zero_add]
                      refine o_fieldAddr (off := 0) gn rfl rfl (by kernel_rfl) ?_
                      refine o_load gn rfl rfl (by kernel_rfl) hg1 (by have := enI_cell hlt2 r1; exact this.1) ?_
                      refine o_move gn rfl rfl ?_
                      refine o_move gn rfl rfl ?_
                      refine o_indexAddr (zz := 1) gn rfl rfl rfl (by kernel_rfl) (by omega) (by omega) ?_
                      refine o_load gn rfl rfl (by kernel_rfl) hg (by rw [Int.toNat_natCast, Nat.mul_one]; exact hcell) ?_
                      refine o_eqi gn rfl rfl rfl ?_
                      refine wl_end ?_
                      refine w_cond rfl (fun hb => ?_) fun hb => ?_
                      · skip
                        refine w_seq ?_
                        refine w_region (by kernel_rfl) ?_
                        refine o_assign gn rfl rfl ?_
                        refine wl_end ?_
                        refine w_ret ?_
                        refine ⟨.inl rfl, _, rfl, ?_⟩
                        exact absurd (by simpa using hb) hne
                      · skip
                        refine w_skip ?_
                        refine w_region (by kernel_rfl) ?_
                        refine o_move gn rfl rfl ?_
                        refine o_add gn rfl rfl rfl (by omega) (by omega) ?_
                        refine o_assign gn rfl rfl ?_
                        refine wl_end ?_
                        exact ⟨M - (q + 1), by omega, _, (by repeat (first | exact trivial | refine ⟨rfl, ?_⟩)), ⟨q + 1, by omega, rfl, rfl, rfl⟩⟩
                    · skip
                      refine w_exit ?_
                      refine thn_exit ?_
                      refine rnd_exit ?_
                      refine blk_eq ?_
                      refine w_seq ?_
                      refine w_region (by kernel_rfl) ?_
                      refine o_move gn rfl rfl ?_
                      refine o_call [_, _] gn rfl rfl (by kernel_rfl) rfl (C.mono (c13 o2.x (by have := o2.lH; omega)) ?_)
                      rintro v h4 ⟨rfl, x4, e4⟩
                      have oH2 := o2.w.lenH
                      obtain ⟨hdue, hnx, hln, hsub⟩ := o2.w.next (now := 9223372036854775807) (by omega) hd2
                      obtain ⟨E4, o4⟩ := o2.tak x4 e4
                      have s4 := hs2.keep e4 hBo
                      have hit : dueI H2 9223372036854775807 = (allD L)[i]! := by
                        have e := ha2.symm.trans hnx
                        rw [List.drop_eq_getElem_cons hlt2] at e
                        have e1 : (allD L)[i]! = (allD L)[i] := by simp [hlt2]
                        rw [e1]; exact (List.cons.inj e).1.symm
                      have ha4 : allD (takD L2 9223372036854775807) = (allD L).drop (i + 1) := by
                        have e := ha2.symm.trans hnx
                        rw [List.drop_eq_getElem_cons hlt2] at e
                        exact (List.cons.inj e).2.symm
                      rw [hit, hdue]
                      refine ⟨ag0, ?_⟩
                      refine o_move gn rfl rfl ?_
                      refine o_extract gn rfl rfl rfl ?_
                      refine o_extract gn rfl rfl rfl ?_
                      refine o_alloc (zv := .agg #[.int .i64 0, .bool false, .int .i64 0]) gn rfl (by kernel_rfl) ?_
                      refine o_storeA (n := 3) gn rfl rfl rfl (by kernel_rfl) rfl (Hp.get_alloc_self _ _) (by decide) rfl ag0 ?_
                      refine wl_at (fun h5 => h5.get h4.n = some (.cells [iV (allD L)[i]!.t, .bool (allD L)[i]!.f, iV (allD L)[i]!.d] 30 0) ∧ Ext h4 h5) ⟨Hp.get_put_self _ _ _, (Ext.alloc _ _).of (ExtB.put _ _ _) (by simp)⟩ fun h5 ⟨g5, x5⟩ => ?_
                      have o5 := o4.ext x5
                      have s5 := s4.ext x5
                      have lH5 := o5.w.lenH
                      obtain ⟨b1', m1', cc1', r1', ea', hg5, _⟩ := s5.at (by omega)
                      cases ea'
                      have t1' := enI_cut hlt2 r1'
                      refine o_assign gn rfl rfl ?_
                      refine wl_end ?_
                      refine w_seq ?_
                      refine w_draw [(0, []), (1, []), (2, []), (3, []), (4, []), (5, []), (6, []), (7, []), (8, []), (9, []), (10, []), (11, []), (13, []), (14, []), (15, []), (16, []), (12, [14, 16]), (17, []), (18, [])] (by kernel_rfl) (by kernel_rfl) (by kernel_rfl) (by kernel_rfl) ?_
                      refine o_move gn rfl rfl ?_
                      refine o_not gn rfl rfl ?_
                      refine o_move gn rfl rfl ?_
                      refine o_or (n := 6) rfl rfl rfl gn rfl (fun hb => by
                          refine o_loadA (n := 3) (gy rfl rfl rfl hb) rfl rfl (by kernel_rfl) (by kernel_rfl) g5 (by simp) ?_
                          refine o_move (gy rfl rfl rfl hb) rfl rfl ?_
                          refine o_move (gy rfl rfl rfl hb) rfl rfl ?_
                          refine o_indexAddr (zz := 3) (gy rfl rfl rfl hb) rfl rfl rfl (by kernel_rfl) (by omega) (by omega) ?_
                          rw [Int.toNat_natCast, Nat.zero_add]
                          refine o_loadA (n := 3) (gy rfl rfl rfl hb) rfl rfl (by kernel_rfl) (by kernel_rfl) hg5 (by rw [List.length_append]; omega) ?_
                          rw [t1']
                          refine o_bin (gy rfl rfl rfl hb) rfl rfl rfl (neq30 (allD L)[i]! (allD L)[i]!) ?_
                          exact wl_end ⟨rfl, rfl, 6, rfl, rfl⟩) ?_
                      refine o_move gn rfl rfl ?_
                      refine o_or (n := 7) rfl rfl rfl gn rfl (fun hb => by
                          refine o_move (gy rfl rfl rfl hb) rfl rfl ?_
                          refine o_move (gy rfl rfl rfl hb) rfl rfl ?_
                          refine o_sub (gy rfl rfl rfl hb) rfl rfl rfl (by omega) (by omega) ?_
                          refine o_move (gy rfl rfl rfl hb) rfl rfl ?_
                          refine o_sub (gy rfl rfl rfl hb) rfl rfl rfl (by omega) (by omega) ?_
                          refine o_call [_] (gy rfl rfl rfl hb) rfl rfl (by kernel_rfl) rfl (c_pure (c14 o5.x) ⟨(ag1 (ag_sub (gy rfl rfl rfl hb) rfl rfl (by omega) (by omega) rfl) (ag1 (ag_sub (gy rfl rfl rfl hb) rfl rfl (by omega) (by omega) rfl) ag0)), ?_⟩)
                          refine o_nei (gy rfl rfl rfl hb) rfl rfl rfl ?_
                          exact wl_end ⟨rfl, rfl, 7, rfl, rfl⟩) ?_
                      refine wl_end ?_
                      refine w_cond rfl (fun hb => ?_) fun hb => ?_
                      · skip
                        refine w_seq ?_
                        refine w_region (by kernel_rfl) ?_
                        refine o_assign gn rfl rfl ?_
                        refine wl_end ?_
                        refine w_ret ?_
                        refine ⟨.inl rfl, _, rfl, ?_⟩
                        exfalso
                        have hq : ((takF H2 9223372036854775807).length : Int) = (L.length : Int) - 1 - (i : Int) := by omega
                        rw [decide_eq_true hq] at hb
                        simp at hb
                      · skip
                        refine w_skip ?_
                        refine w_region (by kernel_rfl) ?_
                        refine o_move gn rfl rfl ?_
                        refine o_add gn rfl rfl rfl (by omega) (by omega) ?_
                        refine o_assign gn rfl rfl ?_
                        refine wl_end ?_
                        exact ⟨L.length - (i + 1), by omega, _, (by repeat (first | exact trivial | refine ⟨rfl, ?_⟩)), ⟨i + 1, by omega, by omega, E4, _, _, _, o5, fun z hz => hd2 z (hsub z hz), by omega, ha4, s5, rfl⟩⟩
                · skip
                  refine w_exit ?_
                  refine thn_exit ?_
                  refine rnd_exit ?_
                  refine blk_eq ?_
                  refine w_seq ?_
                  refine w_region (by kernel_rfl) ?_
                  refine o_move gn rfl rfl ?_
                  refine o_call [_, _] gn rfl rfl (by kernel_rfl) rfl (C.mono (c13 o2.x (by have := o2.lH; omega)) ?_)
                  rintro v h4 ⟨rfl, x4, e4⟩
                  have hnone : dueB H2 9223372036854775807 = false := o2.w.none (by simp [hall] at hb; omega)
                  rw [hnone]
                  refine ⟨ag0, ?_⟩
                  refine o_move gn rfl rfl ?_
                  refine o_extract gn rfl rfl rfl ?_
                  refine o_extract gn rfl rfl rfl ?_
                  refine o_alloc (zv := .agg #[.int .i64 0, .bool false, .int .i64 0]) gn rfl (by kernel_rfl) ?_
                  refine o_storeA (n := 3) gn rfl rfl rfl (by kernel_rfl) rfl (Hp.get_alloc_self _ _) (by decide) rfl ag0 ?_
                  refine o_assign gn rfl rfl ?_
                  refine wl_end ?_
                  refine w_seq ?_
                  refine w_region (by kernel_rfl) ?_
                  refine o_move gn rfl rfl ?_
                  refine o_not gn rfl rfl ?_
                  refine o_move gn rfl rfl ?_
                  refine o_and (n := 1) rfl rfl rfl gn rfl (fun hb => by
                      refine o_orc (f := 8) (v := .bool true) (gy rfl rfl rfl hb) rfl (by kernel_rfl) (by kernel_rfl) ag0 ?_
                      exact wl_end ⟨rfl, rfl, 1, rfl, rfl⟩) ?_
                  refine o_assign gn rfl rfl ?_
                  refine wl_end ?_
                  refine w_ret ?_
                  refine ⟨.inl rfl, _, rfl, ?_⟩
                  rfl

end Go.Proofs.Ytfjnnbdgehaeaaa


namespace Go.Proofs.Ytfjnnbdgehaeaaa
open Go.X

/-- A pair: the program's queue and the document's, of the same items; their blocks. -/
structure PairAt (n0 : Nat) (hh : Hp) (b bo : Nat) (E H : List Ent) (n : Int) (L : List Itm) (own oo : List Nat) (k : Nat) : Prop where
  w : TwoE E H n L
  x : QA hh b H n own
  z : DA hh bo L oo
  l : L.length ≤ k
  n1 : 0 ≤ n
  n2 : n ≤ (k : Int)
  f1 : ∀ i, i ∈ own → n0 ≤ i
  f2 : ∀ i, i ∈ oo → n0 ≤ i
  d : ∀ i, i ∈ own → i ∉ oo

theorem PairAt.keep {n0 : Nat} {hh h3 : Hp} {b bo : Nat} {E H : List Ent} {n : Int} {L : List Itm} {own oo ds : List Nat} {k : Nat} (p : PairAt n0 hh b bo E H n L own oo k) (g : ExtB ds hh h3) (h1 : ∀ i, i ∈ own → i ∉ ds) (h2 : ∀ i, i ∈ oo → i ∉ ds) :
    PairAt n0 h3 b bo E H n L own oo k := ⟨p.w, p.x.keep g h1, p.z.keep g h2, p.l, p.n1, p.n2, p.f1, p.f2, p.d⟩

/-- Two pairs, apart. -/
def Pairs (h hh : Hp) (b bo c co : Nat) (k m : Nat) : Prop :=
  ∃ E H n L own oo E2 H2 p L2 own2 oo2, PairAt h.n hh b bo E H n L own oo k ∧ PairAt h.n hh c co E2 H2 p L2 own2 oo2 m ∧ (∀ i, i ∈ own ++ oo → i ∉ own2 ++ oo2) ∧ Ext h hh
theorem Pairs.swap {h hh : Hp} {b bo c co k m : Nat} (x : Pairs h hh b bo c co k m) : Pairs h hh c co b bo m k := by
  obtain ⟨E, H, n, L, own, oo, E2, H2, p, L2, own2, oo2, p1, p2, d, g⟩ := x
  exact ⟨E2, H2, p, L2, own2, oo2, E, H, n, L, own, oo, p2, p1, fun i hi hj => d i hj hi, g⟩

/-- An act on the first pair leaves the second one. -/
theorem Pairs.act {h hh h3 : Hp} {b bo c co k m : Nat} {E H : List Ent} {n : Int} {L : List Itm} {own oo : List Nat} {E2 H2 : List Ent} {p : Int} {L2 : List Itm} {own2 oo2 : List Nat} (p1 : PairAt h.n hh b bo E H n L own oo k) (p2 : PairAt h.n hh c co E2 H2 p L2 own2 oo2 m)
    (d : ∀ i, i ∈ own ++ oo → i ∉ own2 ++ oo2) (g : Ext h hh) (a : DoAt hh h3 b bo own oo L n) : Pairs h h3 b bo c co (k + 1) m := by
  obtain ⟨E', H', n', L', own', oo', w, x, z, l1, l2, l3, e, q1, q2, q3⟩ := a
  have gn := g.n
  have a1 := p1.l
  have a2 := p1.n1
  have a3 := p1.n2
  have hap : ∀ i, i ∈ own2 ++ oo2 → i ∉ own ++ oo := fun i hi hj => d i hj hi
  refine ⟨E', H', n', L', own', oo', E2, H2, p, L2, own2, oo2, ⟨w, x, z, by omega, by omega, by omega, fun i hi => ?_, fun i hi => ?_, q3⟩, p2.keep e (fun i hi => hap i (List.mem_append.2 (.inl hi))) (fun i hi => hap i (List.mem_append.2 (.inr hi))), fun i hi hj => ?_, ⟨Nat.le_trans g.n e.n, fun i hi => ?_⟩⟩
  · rcases q1 i hi with q | q
    · exact p1.f1 i q
    · omega
  · rcases q2 i hi with q | q
    · exact p1.f2 i q
    · omega
  · have hlt : i < hh.n := by
      rcases List.mem_append.1 hj with q | q
      · exact p2.x.lt i q
      · exact p2.z.lt i q
    refine hap i hj (List.mem_append.2 ?_)
    rcases List.mem_append.1 hi with q | q
    · exact (q1 i q).imp id (fun e => by omega)
    · rcases q2 i q with q | q
      · exact .inr q
      · omega
  · rw [e.get i (by omega) (fun hm => by
      rcases List.mem_append.1 hm with q | q
      · have := p1.f1 i q; omega
      · have := p1.f2 i q; omega)]
    exact g.get i hi

end Go.Proofs.Ytfjnnbdgehaeaaa
