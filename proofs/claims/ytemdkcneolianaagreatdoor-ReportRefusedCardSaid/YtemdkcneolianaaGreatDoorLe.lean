/- Chapter 24: may a program be, as the program has it. Conditions: none. Chapter 24: a program that may not be is refused; the law. Conditions: the table of blanks. Chapter 24: the program that is an argument, and the table of blanks, as X has them. Conditions: none. -/
import Derived.Test.YtemdkcneolianaaGreatDoorLd
import Derived.Test.YtemdkcneolianaaGreatDoorLa
import Derived.Test.YtemdkcneolianaaGreatDoorXc
import Derived.Test.YtemdkcneolianaaGreatDoorTie
import Derived.Test.YtemdkcneolianaaGreatDoorCards
import Derived.SevenTiedAt
import Derived.LaidMore
import Derived.LaidHandle
import Derived.ProofKit
namespace Go.Proofs.YtemdkcneolianaaGreatDoor
open Go.X Go.May

theorem site_eq {a b c d : Int} : (!decide ((a, b) = (c, d))) = true → (a, b) ≠ (c, d) := by
  intro h e
  rw [e] at h
  simp at h
theorem list_ne {α : Type} {l m : List α} {i : Nat} (h1 : i < l.length) (h2 : i < m.length) (h : l[i] ≠ m[i]) : l ≠ m := fun e => by subst e; exact h rfl
/-- A site's cells. -/
def SiteE (c : List Value) (s : Int × Int) : Prop := c = [iV s.1, iV s.2]
theorem sl_sites {h : Hp} {v : Value} {l : List (Int × Int)} {n : Nat} {bs : List Nat} (x : SlC 46 1 h v (siC l) n bs) : RowP 2 SiteE h v l := by
  have hn := SlC.len x
  rw [siC_len] at hn
  rcases x with ⟨h1, h2, h3, _⟩ | ⟨b, m, c, rest, h1, h2, _, h4, _, h5, _⟩
  · have : l = [] := List.eq_nil_of_length_eq_zero (by omega)
    exact .inl ⟨this, none, 0, h1⟩
  have hl : n = l.length := by omega
  subst hl
  refine .inr ⟨b, 0, c, _, 46, m, h1, h2, h4, by rw [List.length_append, siC_len]; omega, fun i hi => ?_⟩
  have := siC_at l i hi
  rw [SiteE, ← this, Nat.zero_add, List.drop_append_of_le_length (by rw [siC_len]; omega), List.take_append_of_le_length (by rw [List.length_drop, siC_len]; omega)]
theorem any_not {l : List Int} {P : Prg} : (l.all fun f => !decide (0 ≤ f) || rootB P f) = !(l.any fun f => decide (0 ≤ f) && !rootB P f) := by
  rw [List.not_any_eq_all_not]
  congr 1
  funext f
  simp
theorem cntF_le {P : Prg} : ∀ (l : List Fun) (n : Nat), allB P n l = true → cntF l ≤ 512 * l.length
  | [], _, _ => Nat.zero_le _
  | F :: l, n, h => by
    rw [allB, Bool.and_eq_true] at h
    have h1 := cntF_le l _ h.2
    have h2 := cnt_le F.code
    have h3 := h.1
    simp only [funB, headB, Bool.and_eq_true, decide_eq_true_eq] at h3
    rw [cntF, List.length_cons]
    omega
section
variable {h : Hp} {v w : Value} {l m : List (Int × Int)}
/-- slices.Equal, of sites -/
theorem c190 (X : RowP 2 SiteE h v l) (Y : RowP 2 SiteE h w m) (hl : l.length ≤ 9223372036854775000) : CP repE 190 [v, w] h (.bool (decide (l = m))) := by
  obtain ⟨ta, tc, rfl⟩ := X.val
  obtain ⟨ua, uc, rfl⟩ := Y.val
  refine c_enter (fu := Tryz.f190) (by kernel_rfl) rfl ?_
  have S := SH.start h
  refine w_seq ?_
  refine w_region (by kernel_rfl) ?_
  refine o_assign gn rfl rfl ?_
  refine wl_end ?_
  refine w_seq ?_
  refine w_seq ?_
  refine w_region (by kernel_rfl) ?_
  refine o_move gn rfl rfl ?_
  refine o_len gn rfl rfl (by kernel_rfl) ?_
  refine o_move gn rfl rfl ?_
  refine o_len gn rfl rfl (by kernel_rfl) ?_
  refine o_nei gn rfl rfl rfl ?_
  refine wl_end ?_
  refine w_cond rfl (fun hb => ?_) fun hb => ?_
  · skip
    refine w_seq ?_
    refine w_region (by kernel_rfl) ?_
    refine o_assign gn rfl rfl ?_
    refine wl_end ?_
    refine w_ret ?_
    refine ⟨.inl rfl, _, rfl, ?_⟩
    exact ⟨by
      have hne : l ≠ m := fun e => by rw [e] at hb; simp at hb
      rw [decide_eq_false hne]; rfl, rfl⟩
  refine w_skip ?_
  refine w_seq ?_
  refine w_seq ?_
  have hlm : l.length = m.length := by simp at hb; omega
  refine w_region (by kernel_rfl) ?_
  refine o_move gn rfl rfl ?_
  refine o_len gn rfl rfl (by kernel_rfl) ?_
  refine o_move gn rfl rfl ?_
  refine wl_end ?_
  refine w_block ?_
  refine w_loopS [(13, _)] [(0, _), (1, _), (12, _)] (by repeat (first | exact trivial | refine ⟨rfl, ?_⟩)) (fun kk lv hh => ∃ j : Nat, lv = [(13, iV j)] ∧ kk = l.length - j ∧ j ≤ l.length ∧ hh = h ∧ l.take j = m.take j) (n := (l.length)) ?_ fun kk lv hh hI => ?_
  · exact ⟨0, rfl, rfl, by omega, rfl, rfl⟩
  obtain ⟨j, rfl, rfl, hj, rfl, hs⟩ := hI
  refine w_seq ?_
  refine w_region (by kernel_rfl) ?_
  refine o_lss gn rfl rfl rfl ?_
  refine wl_end ?_
  refine w_seq ?_
  refine w_cond rfl (fun hb => ?_) fun hb => ?_
  · skip
    refine w_skip ?_
    refine w_seq ?_
    refine w_block ?_
    refine w_seq ?_
    have hj1 : j < l.length := by simp at hb; omega
    obtain ⟨b, o, c, cs, e, q, hv, hg, hlb, hl2, hat⟩ := X.at (by omega)
    have hta : ta = some ⟨b, o, none⟩ := by injection hv
    have hw1 : (cs.drop (o + Int.toNat (j : Int) * 2)).take 2 = [iV l[j].1, iV l[j].2] := by rw [Int.toNat_natCast]; exact hat j hj1
    obtain ⟨b', o', c', cs', e', q', hv', hg', hlb', hl2', hat'⟩ := Y.at (by omega)
    have htb : ua = some ⟨b', o', none⟩ := by injection hv'
    have hw2 : (cs'.drop (o' + Int.toNat (j : Int) * 2)).take 2 = [iV m[j].1, iV m[j].2] := by rw [Int.toNat_natCast]; exact hat' j (by omega)
    refine w_region (by kernel_rfl) ?_
    refine o_move gn rfl rfl ?_
    refine o_assign gn rfl rfl ?_
    refine wl_end ?_
    refine w_seq ?_
    refine w_draw [(0, []), (1, []), (2, []), (3, []), (4, []), (5, []), (6, []), (7, []), (8, [])] (by kernel_rfl) (by kernel_rfl) (by kernel_rfl) (by kernel_rfl) ?_
    refine o_move gn rfl rfl ?_
    refine o_move gn rfl rfl ?_
    rw [hta]
    refine o_indexAddr (zz := 2) gn rfl rfl rfl (by kernel_rfl) (by omega) (by omega) ?_
    refine o_loadA (n := 2) gn rfl rfl (by kernel_rfl) (by kernel_rfl) hg (by rw [Int.toNat_natCast]; omega) ?_
    rw [hw1, ← hta]
    refine o_move gn rfl rfl ?_
    refine o_move gn rfl rfl ?_
    rw [htb]
    refine o_indexAddr (zz := 2) gn rfl rfl rfl (by kernel_rfl) (by omega) (by omega) ?_
    refine o_loadA (n := 2) gn rfl rfl (by kernel_rfl) (by kernel_rfl) hg' (by rw [Int.toNat_natCast]; omega) ?_
    rw [hw2, ← htb]
    refine o_bin gn rfl rfl rfl (neq46 l[j].1 l[j].2 m[j].1 m[j].2) ?_
    refine wl_end ?_
    refine w_cond rfl (fun hb => ?_) fun hb => ?_
    · skip
      refine w_seq ?_
      refine w_region (by kernel_rfl) ?_
      refine o_assign gn rfl rfl ?_
      refine wl_end ?_
      refine w_ret ?_
      refine ⟨.inl rfl, _, rfl, ?_⟩
      exact ⟨by
        rw [decide_eq_false (list_ne hj1 (by omega) (site_eq hb))]; rfl, rfl⟩
    refine w_skip ?_
    refine w_region (by kernel_rfl) ?_
    refine o_add gn rfl rfl rfl (by omega) (by omega) ?_
    refine o_move gn rfl rfl ?_
    refine wl_end ?_
    exact rndS (l.length - (j + 1)) (by omega) [(13, _)] (by repeat (first | exact trivial | refine ⟨rfl, ?_⟩)) ⟨j + 1, rfl, rfl, by omega, rfl, by
      have he : l[j] = m[j]'(by omega) := by simpa [Prod.ext_iff] using hb
      rw [List.take_add_one, List.take_add_one, hs, List.getElem?_eq_getElem hj1, List.getElem?_eq_getElem (by omega), he]⟩
  refine w_exit ?_
  refine thn_exit ?_
  refine rnd_exit ?_
  refine blk_eq ?_
  refine w_seq ?_
  have hje : j = l.length := by simp at hb; omega
  have hee : l = m := by
    have := hs
    rw [hje, List.take_length, hlm, List.take_length] at this; exact this
  refine w_region (by kernel_rfl) ?_
  refine o_assign gn rfl rfl ?_
  refine wl_end ?_
  refine w_ret ?_
  refine ⟨.inl rfl, _, rfl, ?_⟩
  exact ⟨by rw [decide_eq_true hee]; rfl, rfl⟩
end
section
variable {P : Prg} {c : Int × Int}
theorem size_bad (h : (sizeC P || !rootB P P.main) = true) : partsB P = false := by
  rw [Bool.or_eq_true] at h
  rcases h with h | h
  · exact size_no h
  cases hs : sizeC P with
  | true => exact size_no hs
  | false => exact size_root hs (nt h)
theorem size_good (h : (sizeC P || !rootB P P.main) = false) : sizeC P = false ∧ rootB P P.main = true := by
  rw [Bool.or_eq_false_iff] at h
  exact ⟨h.1, nf h.2⟩
theorem ev_no (h : (!inB c.1 P.loopers || !rootB P c.2) = true) : eventB P c = false := by
  rw [eventB]
  revert h
  cases inB c.1 P.loopers <;> cases rootB P c.2 <;> simp
theorem ev_yes (h : (!inB c.1 P.loopers || !rootB P c.2) = false) : eventB P c = true := by
  rw [eventB]
  revert h
  cases inB c.1 P.loopers <;> cases rootB P c.2 <;> simp
end
section
variable {h0 h : Hp} {P : Prg} {lo cl gl fu co ev si sv : Value} {kb : Nat} {L : List Res}
set_option maxHeartbeats 4000000 in
/-- may -/
theorem c118 (X : PrgAt h0 P lo cl gl fu co ev si) (S0 : SH h0 [] (cR kb (.cells (prgC P lo cl gl fu co ev si ++ [.slice none 0 0]) 253 0) :: L) h) :
    C repE 118 [ptrV kb] h fun v h' => v = .bool (mayB P) ∧ Ext h0 h' := by
  obtain ⟨⟨oa, oc, rfl⟩, ⟨ca, cc, rfl⟩, ⟨ga, gc, rfl⟩, ⟨fa, fc, rfl⟩, ⟨pa, pc, rfl⟩, ⟨ea, ec, rfl⟩, ⟨sa, sc, rfl⟩⟩ := X.vals
  have hz1 := X.zcl
  have hz2 := X.zco
  have hz3 := X.zev
  have hz4 := X.zfu
  refine c_enter (fu := Tryz.f118) (by kernel_rfl) rfl ?_
  have S := S0
  refine w_seq ?_
  refine w_region (by kernel_rfl) ?_
  refine s_box S gn rfl rfl fun b1 g nb1 S => ?_
  refine o_assign gn rfl rfl ?_
  refine wl_end ?_
  refine w_seq ?_
  refine w_region (by kernel_rfl) ?_
  refine o_load gn rfl rfl (by kernel_rfl) (by first | exact S.cel 0 rfl | exact S.cel 1 rfl | exact S.cel 2 rfl | exact S.cel 3 rfl) rfl ?_
  refine o_nilCheck gn rfl rfl ?_
  refine o_fieldAddr (off := 0) gn rfl rfl (by kernel_rfl) ?_
  refine o_loadA (n := 8) gn rfl rfl (by kernel_rfl) (by kernel_rfl) (by first | exact S.cel 0 rfl | exact S.cel 1 rfl | exact S.cel 2 rfl | exact S.cel 3 rfl) (by first | decide | exact Nat.le_refl _ | (simp; done)) ?_
  refine s_alloc (zv := .agg #[.slice none 0 0, .slice none 0 0, .slice none 0 0, .slice none 0 0, .slice none 0 0, .slice none 0 0, .int .i64 0, .slice none 0 0]) S gn rfl (by kernel_rfl) fun b2 g nb2 S => ?_
  first | refine s_storeA (n := 8) 0 S gn rfl rfl (by kernel_rfl) (by kernel_rfl) rfl rfl (by decide) rfl (fun g S => ag0) fun g S => ?_ | refine s_storeA (n := 8) 1 S gn rfl rfl (by kernel_rfl) (by kernel_rfl) rfl rfl (by decide) rfl (fun g S => ag0) fun g S => ?_ | refine s_storeA (n := 8) 2 S gn rfl rfl (by kernel_rfl) (by kernel_rfl) rfl rfl (by decide) rfl (fun g S => ag0) fun g S => ?_ | refine s_storeA (n := 8) 3 S gn rfl rfl (by kernel_rfl) (by kernel_rfl) rfl rfl (by decide) rfl (fun g S => ag0) fun g S => ?_ | refine s_storeA (n := 8) 4 S gn rfl rfl (by kernel_rfl) (by kernel_rfl) rfl rfl (by decide) rfl (fun g S => ag0) fun g S => ?_
  refine wl_end ?_
  refine w_seq ?_
  refine w_seq ?_
  refine w_region (by kernel_rfl) ?_
  refine o_fieldAddr (off := 0) gn rfl rfl (by kernel_rfl) ?_
  refine o_load gn rfl rfl (by kernel_rfl) (by first | exact S.cel 0 rfl | exact S.cel 1 rfl | exact S.cel 2 rfl | exact S.cel 3 rfl | exact S.cel 4 rfl) rfl ?_
  refine o_len gn rfl rfl (by kernel_rfl) ?_
  refine o_lss gn rfl rfl rfl ?_
  refine o_move gn rfl rfl ?_
  refine o_or (n := 4) rfl rfl rfl gn rfl (fun hb => by
      refine o_fieldAddr (off := 0) (gy rfl rfl rfl hb) rfl rfl (by kernel_rfl) ?_
      refine o_load (gy rfl rfl rfl hb) rfl rfl (by kernel_rfl) (by first | exact S.cel 0 rfl | exact S.cel 1 rfl | exact S.cel 2 rfl | exact S.cel 3 rfl | exact S.cel 4 rfl) rfl ?_
      refine o_len (gy rfl rfl rfl hb) rfl rfl (by kernel_rfl) ?_
      refine o_gtr (gy rfl rfl rfl hb) rfl rfl rfl ?_
      exact wl_end ⟨rfl, rfl, 4, rfl, rfl⟩) ?_
  refine o_move gn rfl rfl ?_
  refine o_or (n := 4) rfl rfl rfl gn rfl (fun hb => by
      refine o_fieldAddr (off := 1) (gy rfl rfl rfl hb) rfl rfl (by kernel_rfl) ?_
      refine o_load (gy rfl rfl rfl hb) rfl rfl (by kernel_rfl) (by first | exact S.cel 0 rfl | exact S.cel 1 rfl | exact S.cel 2 rfl | exact S.cel 3 rfl | exact S.cel 4 rfl) rfl ?_
      refine o_len (gy rfl rfl rfl hb) rfl rfl (by kernel_rfl) ?_
      refine o_gtr (gy rfl rfl rfl hb) rfl rfl rfl ?_
      exact wl_end ⟨rfl, rfl, 4, rfl, rfl⟩) ?_
  refine o_move gn rfl rfl ?_
  refine o_or (n := 4) rfl rfl rfl gn rfl (fun hb => by
      refine o_fieldAddr (off := 2) (gy rfl rfl rfl hb) rfl rfl (by kernel_rfl) ?_
      refine o_load (gy rfl rfl rfl hb) rfl rfl (by kernel_rfl) (by first | exact S.cel 0 rfl | exact S.cel 1 rfl | exact S.cel 2 rfl | exact S.cel 3 rfl | exact S.cel 4 rfl) rfl ?_
      refine o_len (gy rfl rfl rfl hb) rfl rfl (by kernel_rfl) ?_
      refine o_gtr (gy rfl rfl rfl hb) rfl rfl rfl ?_
      exact wl_end ⟨rfl, rfl, 4, rfl, rfl⟩) ?_
  refine o_move gn rfl rfl ?_
  refine o_or (n := 4) rfl rfl rfl gn rfl (fun hb => by
      refine o_fieldAddr (off := 4) (gy rfl rfl rfl hb) rfl rfl (by kernel_rfl) ?_
      refine o_load (gy rfl rfl rfl hb) rfl rfl (by kernel_rfl) (by first | exact S.cel 0 rfl | exact S.cel 1 rfl | exact S.cel 2 rfl | exact S.cel 3 rfl | exact S.cel 4 rfl) rfl ?_
      refine o_len (gy rfl rfl rfl hb) rfl rfl (by kernel_rfl) ?_
      refine o_gtr (gy rfl rfl rfl hb) rfl rfl rfl ?_
      exact wl_end ⟨rfl, rfl, 4, rfl, rfl⟩) ?_
  refine o_move gn rfl rfl ?_
  refine o_or (n := 4) rfl rfl rfl gn rfl (fun hb => by
      refine o_fieldAddr (off := 5) (gy rfl rfl rfl hb) rfl rfl (by kernel_rfl) ?_
      refine o_load (gy rfl rfl rfl hb) rfl rfl (by kernel_rfl) (by first | exact S.cel 0 rfl | exact S.cel 1 rfl | exact S.cel 2 rfl | exact S.cel 3 rfl | exact S.cel 4 rfl) rfl ?_
      refine o_len (gy rfl rfl rfl hb) rfl rfl (by kernel_rfl) ?_
      refine o_gtr (gy rfl rfl rfl hb) rfl rfl rfl ?_
      exact wl_end ⟨rfl, rfl, 4, rfl, rfl⟩) ?_
  refine o_move gn rfl rfl ?_
  refine o_or (n := 4) rfl rfl rfl gn rfl (fun hb => by
      refine o_fieldAddr (off := 3) (gy rfl rfl rfl hb) rfl rfl (by kernel_rfl) ?_
      refine o_load (gy rfl rfl rfl hb) rfl rfl (by kernel_rfl) (by first | exact S.cel 0 rfl | exact S.cel 1 rfl | exact S.cel 2 rfl | exact S.cel 3 rfl | exact S.cel 4 rfl) rfl ?_
      refine o_len (gy rfl rfl rfl hb) rfl rfl (by kernel_rfl) ?_
      refine o_lss (gy rfl rfl rfl hb) rfl rfl rfl ?_
      exact wl_end ⟨rfl, rfl, 4, rfl, rfl⟩) ?_
  refine o_move gn rfl rfl ?_
  refine o_or (n := 4) rfl rfl rfl gn rfl (fun hb => by
      refine o_fieldAddr (off := 3) (gy rfl rfl rfl hb) rfl rfl (by kernel_rfl) ?_
      refine o_load (gy rfl rfl rfl hb) rfl rfl (by kernel_rfl) (by first | exact S.cel 0 rfl | exact S.cel 1 rfl | exact S.cel 2 rfl | exact S.cel 3 rfl | exact S.cel 4 rfl) rfl ?_
      refine o_len (gy rfl rfl rfl hb) rfl rfl (by kernel_rfl) ?_
      refine o_gtr (gy rfl rfl rfl hb) rfl rfl rfl ?_
      exact wl_end ⟨rfl, rfl, 4, rfl, rfl⟩) ?_
  refine o_move gn rfl rfl ?_
  refine o_or (n := 5) rfl rfl rfl gn rfl (fun hb => by
      refine o_load (gy rfl rfl rfl hb) rfl rfl (by kernel_rfl) (by first | exact S.cel 0 rfl | exact S.cel 1 rfl | exact S.cel 2 rfl | exact S.cel 3 rfl | exact S.cel 4 rfl) rfl ?_
      refine o_fieldAddr (off := 6) (gy rfl rfl rfl hb) rfl rfl (by kernel_rfl) ?_
      refine o_load (gy rfl rfl rfl hb) rfl rfl (by kernel_rfl) (by first | exact S.cel 0 rfl | exact S.cel 1 rfl | exact S.cel 2 rfl | exact S.cel 3 rfl | exact S.cel 4 rfl) rfl ?_
      refine o_call [_, _] (gy rfl rfl rfl hb) rfl rfl (by kernel_rfl) rfl (c_pure (c185 (X.ext S.e0) (S.cel 2 rfl)) ⟨ag0, ?_⟩)
      refine o_not (gy rfl rfl rfl hb) rfl rfl ?_
      exact wl_end ⟨rfl, rfl, 5, rfl, rfl⟩) ?_
  refine wl_end ?_
  refine w_cond rfl (fun hb => ?_) fun hb => ?_
  · skip
    refine w_seq ?_
    refine w_region (by kernel_rfl) ?_
    refine o_assign gn rfl rfl ?_
    refine wl_end ?_
    refine w_ret ?_
    refine ⟨.inl rfl, _, rfl, ?_⟩
    exact ⟨by rw [may_parts (size_bad hb)]; rfl, S.e0⟩
  refine w_skip ?_
  refine w_seq ?_
  refine w_seq ?_
  obtain ⟨hsz, hro⟩ := size_good hb
  have hR := parts_yes hsz hro
  have h64 : P.funs.length ≤ 64 := by
    simp only [sizeC, Bool.or_eq_false_iff, decide_eq_false_iff_not] at hsz; omega
  refine w_region (by kernel_rfl) ?_
  refine o_fieldAddr (off := 1) gn rfl rfl (by kernel_rfl) ?_
  refine o_load gn rfl rfl (by kernel_rfl) (by first | exact S.cel 0 rfl | exact S.cel 1 rfl | exact S.cel 2 rfl | exact S.cel 3 rfl | exact S.cel 4 rfl) rfl ?_
  refine o_len gn rfl rfl (by kernel_rfl) ?_
  refine o_move gn rfl rfl ?_
  refine wl_end ?_
  refine w_block ?_
  refine w_loopS [(72, _)] [(1, _), (3, _), (70, _), (71, _)] (by repeat (first | exact trivial | refine ⟨rfl, ?_⟩)) (fun kk lv hh => ∃ j : Nat, lv = [(72, iV j)] ∧ kk = P.classes.length - j ∧ j ≤ P.classes.length ∧ SH h0 [] (cR b2 (.cells (prgC P (.slice oa P.loopers oc) (.slice ca P.classes.length cc) (.slice ga P.globals gc) (.slice fa P.funs.length fc) (.slice pa P.comps.length pc) (.slice ea P.events.length ec) (.slice sa P.sites.length sc)) 30 0) :: cR b1 (.cells [ptrV kb] 251 0) :: cR kb (.cells ((prgC P (.slice oa P.loopers oc) (.slice ca P.classes.length cc) (.slice ga P.globals gc) (.slice fa P.funs.length fc) (.slice pa P.comps.length pc) (.slice ea P.events.length ec) (.slice sa P.sites.length sc)) ++ [.slice none 0 0]) 253 0) :: L) hh ∧ (P.classes.take j).all classB = true) (n := (P.classes.length)) ?_ fun kk lv hh hI => ?_
  · exact ⟨0, rfl, rfl, by omega, S, rfl⟩
  obtain ⟨j, rfl, rfl, hj, S, hall⟩ := hI
  refine w_seq ?_
  refine w_region (by kernel_rfl) ?_
  refine o_lss gn rfl rfl rfl ?_
  refine wl_end ?_
  refine w_seq ?_
  refine w_cond rfl (fun hb => ?_) fun hb => ?_
  · skip
    refine w_skip ?_
    refine w_seq ?_
    refine w_block ?_
    refine w_seq ?_
    have hj1 : j < P.classes.length := by simp at hb; omega
    obtain ⟨b, o, c, cs, e, m, hv, hg, hlb, hl6, hat⟩ := X.cl.at (by omega)
    have hta : ca = some ⟨b, o, none⟩ := by injection hv
    obtain ⟨s, a1, a2, a3, a4, hw⟩ := (hat j hj1).row
    have hw : (cs.drop (o + Int.toNat (j : Int) * 3)).take 3 = [.string s, .slice a1 (P.classes[j]).1 a2, .slice a3 (P.classes[j]).2 a4] := by rw [Int.toNat_natCast]; exact hw
    refine w_region (by kernel_rfl) ?_
    rw [hta]
    refine o_indexAddr (zz := 3) gn rfl rfl rfl (by kernel_rfl) (by omega) (by omega) ?_
    refine o_loadA (n := 3) gn rfl rfl (by kernel_rfl) (by kernel_rfl) (S.old0 hg hlb) (by rw [Int.toNat_natCast]; omega) ?_
    rw [hw, ← hta]
    refine s_alloc (zv := .agg #[.string .empty, .slice none 0 0, .slice none 0 0]) S gn rfl (by kernel_rfl) fun b3 g nb3 S => ?_
    first | refine s_storeA (n := 3) 0 S gn rfl rfl (by kernel_rfl) (by kernel_rfl) rfl rfl (by decide) rfl (fun g S => ag0) fun g S => ?_ | refine s_storeA (n := 3) 1 S gn rfl rfl (by kernel_rfl) (by kernel_rfl) rfl rfl (by decide) rfl (fun g S => ag0) fun g S => ?_ | refine s_storeA (n := 3) 2 S gn rfl rfl (by kernel_rfl) (by kernel_rfl) rfl rfl (by decide) rfl (fun g S => ag0) fun g S => ?_ | refine s_storeA (n := 3) 3 S gn rfl rfl (by kernel_rfl) (by kernel_rfl) rfl rfl (by decide) rfl (fun g S => ag0) fun g S => ?_ | refine s_storeA (n := 3) 4 S gn rfl rfl (by kernel_rfl) (by kernel_rfl) rfl rfl (by decide) rfl (fun g S => ag0) fun g S => ?_ | refine s_storeA (n := 3) 5 S gn rfl rfl (by kernel_rfl) (by kernel_rfl) rfl rfl (by decide) rfl (fun g S => ag0) fun g S => ?_
    refine wl_end ?_
    refine w_seq ?_
    refine w_region (by kernel_rfl) ?_
    refine o_fieldAddr (off := 2) gn rfl rfl (by kernel_rfl) ?_
    refine o_load gn rfl rfl (by kernel_rfl) (by first | exact S.cel 0 rfl | exact S.cel 1 rfl | exact S.cel 2 rfl | exact S.cel 3 rfl | exact S.cel 4 rfl | exact S.cel 5 rfl) rfl ?_
    refine o_len gn rfl rfl (by kernel_rfl) ?_
    refine o_gtr gn rfl rfl rfl ?_
    refine o_move gn rfl rfl ?_
    refine o_or (n := 7) rfl rfl rfl gn rfl (fun hb => by
        refine o_fieldAddr (off := 1) (gy rfl rfl rfl hb) rfl rfl (by kernel_rfl) ?_
        refine o_load (gy rfl rfl rfl hb) rfl rfl (by kernel_rfl) (by first | exact S.cel 0 rfl | exact S.cel 1 rfl | exact S.cel 2 rfl | exact S.cel 3 rfl | exact S.cel 4 rfl | exact S.cel 5 rfl) rfl ?_
        refine o_len (gy rfl rfl rfl hb) rfl rfl (by kernel_rfl) ?_
        refine o_fieldAddr (off := 2) (gy rfl rfl rfl hb) rfl rfl (by kernel_rfl) ?_
        refine o_load (gy rfl rfl rfl hb) rfl rfl (by kernel_rfl) (by first | exact S.cel 0 rfl | exact S.cel 1 rfl | exact S.cel 2 rfl | exact S.cel 3 rfl | exact S.cel 4 rfl | exact S.cel 5 rfl) rfl ?_
        refine o_len (gy rfl rfl rfl hb) rfl rfl (by kernel_rfl) ?_
        refine o_nei (gy rfl rfl rfl hb) rfl rfl rfl ?_
        exact wl_end ⟨rfl, rfl, 7, rfl, rfl⟩) ?_
    refine wl_end ?_
    refine w_cond rfl (fun hb => ?_) fun hb => ?_
    · skip
      refine w_seq ?_
      refine w_region (by kernel_rfl) ?_
      refine o_assign gn rfl rfl ?_
      refine wl_end ?_
      refine w_ret ?_
      refine ⟨.inl rfl, _, rfl, ?_⟩
      exact ⟨by rw [may_parts (by rw [hR, all_fail hj1 (class_no hb)]; rfl)]; rfl, S.e0⟩
    refine w_skip ?_
    refine w_region (by kernel_rfl) ?_
    refine o_add gn rfl rfl rfl (by omega) (by omega) ?_
    refine o_move gn rfl rfl ?_
    refine wl_end ?_
    exact rndS (P.classes.length - (j + 1)) (by omega) [(72, _)] (by repeat (first | exact trivial | refine ⟨rfl, ?_⟩)) ⟨j + 1, rfl, rfl, by omega, S.drop, by rw [all_step hj1, hall, class_yes hb]; rfl⟩
  refine w_exit ?_
  refine thn_exit ?_
  refine rnd_exit ?_
  refine blk_eq ?_
  refine w_seq ?_
  refine w_seq ?_
  have hje : j = P.classes.length := by simp at hb; omega
  rw [hje, List.take_length] at hall
  rw [hall, Bool.true_and] at hR
  clear hall
  refine w_region (by kernel_rfl) ?_
  refine o_fieldAddr (off := 4) gn rfl rfl (by kernel_rfl) ?_
  refine o_load gn rfl rfl (by kernel_rfl) (by first | exact S.cel 0 rfl | exact S.cel 1 rfl | exact S.cel 2 rfl | exact S.cel 3 rfl | exact S.cel 4 rfl) rfl ?_
  refine o_len gn rfl rfl (by kernel_rfl) ?_
  refine o_move gn rfl rfl ?_
  refine wl_end ?_
  refine w_block ?_
  refine w_loopS [(93, _)] [(1, _), (3, _), (91, _), (92, _)] (by repeat (first | exact trivial | refine ⟨rfl, ?_⟩)) (fun kk lv hh => ∃ j : Nat, lv = [(93, iV j)] ∧ kk = P.comps.length - j ∧ j ≤ P.comps.length ∧ SH h0 [] (cR b2 (.cells (prgC P (.slice oa P.loopers oc) (.slice ca P.classes.length cc) (.slice ga P.globals gc) (.slice fa P.funs.length fc) (.slice pa P.comps.length pc) (.slice ea P.events.length ec) (.slice sa P.sites.length sc)) 30 0) :: cR b1 (.cells [ptrV kb] 251 0) :: cR kb (.cells ((prgC P (.slice oa P.loopers oc) (.slice ca P.classes.length cc) (.slice ga P.globals gc) (.slice fa P.funs.length fc) (.slice pa P.comps.length pc) (.slice ea P.events.length ec) (.slice sa P.sites.length sc)) ++ [.slice none 0 0]) 253 0) :: L) hh ∧ (P.comps.take j).all (compB P) = true) (n := (P.comps.length)) ?_ fun kk lv hh hI => ?_
  · exact ⟨0, rfl, rfl, by omega, S, rfl⟩
  obtain ⟨j, rfl, rfl, hj, S, hall⟩ := hI
  refine w_seq ?_
  refine w_region (by kernel_rfl) ?_
  refine o_lss gn rfl rfl rfl ?_
  refine wl_end ?_
  refine w_seq ?_
  refine w_cond rfl (fun hb => ?_) fun hb => ?_
  · skip
    refine w_skip ?_
    refine w_seq ?_
    refine w_block ?_
    refine w_seq ?_
    have hj1 : j < P.comps.length := by simp at hb; omega
    obtain ⟨b, o, c, cs, e, m, hv, hg, hlb, hl6, hat⟩ := X.co.at (by omega)
    have hta : pa = some ⟨b, o, none⟩ := by injection hv
    obtain ⟨s, f0, f1, f2, f3, hw, hfs⟩ := (hat j hj1).row
    have hw : (cs.drop (o + Int.toNat (j : Int) * 6)).take 6 = [.string s, iV (P.comps[j]).1, iV f0, iV f1, iV f2, iV f3] := by rw [Int.toNat_natCast]; exact hw
    refine w_region (by kernel_rfl) ?_
    rw [hta]
    refine o_indexAddr (zz := 6) gn rfl rfl rfl (by kernel_rfl) (by omega) (by omega) ?_
    refine o_loadA (n := 6) gn rfl rfl (by kernel_rfl) (by kernel_rfl) (S.old0 hg hlb) (by rw [Int.toNat_natCast]; omega) ?_
    rw [hw, ← hta]
    refine s_alloc (zv := .agg #[.string .empty, .int .i64 0, .int .i64 0, .int .i64 0, .int .i64 0, .int .i64 0]) S gn rfl (by kernel_rfl) fun b4 g nb4 S => ?_
    first | refine s_storeA (n := 6) 0 S gn rfl rfl (by kernel_rfl) (by kernel_rfl) rfl rfl (by decide) rfl (fun g S => ag0) fun g S => ?_ | refine s_storeA (n := 6) 1 S gn rfl rfl (by kernel_rfl) (by kernel_rfl) rfl rfl (by decide) rfl (fun g S => ag0) fun g S => ?_ | refine s_storeA (n := 6) 2 S gn rfl rfl (by kernel_rfl) (by kernel_rfl) rfl rfl (by decide) rfl (fun g S => ag0) fun g S => ?_ | refine s_storeA (n := 6) 3 S gn rfl rfl (by kernel_rfl) (by kernel_rfl) rfl rfl (by decide) rfl (fun g S => ag0) fun g S => ?_ | refine s_storeA (n := 6) 4 S gn rfl rfl (by kernel_rfl) (by kernel_rfl) rfl rfl (by decide) rfl (fun g S => ag0) fun g S => ?_ | refine s_storeA (n := 6) 5 S gn rfl rfl (by kernel_rfl) (by kernel_rfl) rfl rfl (by decide) rfl (fun g S => ag0) fun g S => ?_
    refine wl_end ?_
    refine w_seq ?_
    refine w_region (by kernel_rfl) ?_
    refine o_fieldAddr (off := 1) gn rfl rfl (by kernel_rfl) ?_
    refine o_load gn rfl rfl (by kernel_rfl) (by first | exact S.cel 0 rfl | exact S.cel 1 rfl | exact S.cel 2 rfl | exact S.cel 3 rfl | exact S.cel 4 rfl | exact S.cel 5 rfl) rfl ?_
    refine o_fieldAddr (off := 0) gn rfl rfl (by kernel_rfl) ?_
    refine o_load gn rfl rfl (by kernel_rfl) (by first | exact S.cel 0 rfl | exact S.cel 1 rfl | exact S.cel 2 rfl | exact S.cel 3 rfl | exact S.cel 4 rfl | exact S.cel 5 rfl) rfl ?_
    refine o_len gn rfl rfl (by kernel_rfl) ?_
    refine o_call [_, _] gn rfl rfl (by kernel_rfl) rfl (c_pure (c186) ⟨ag0, ?_⟩)
    refine o_not gn rfl rfl ?_
    refine o_move gn rfl rfl ?_
    refine wl_split (dc := 104) rfl (fun hb104 => ?_) fun hb104 => ?_
    · skip
      refine wl_skips (n := 4) (dc := 104) (w := false) rfl hb104 rfl ?_
      refine o_pickt gn rfl rfl hb104 rfl ?_
      refine wl_end ?_
      refine w_cond rfl (fun hb => ?_) fun hb => ?_
      · skip
        refine w_seq ?_
        refine w_region (by kernel_rfl) ?_
        refine o_assign gn rfl rfl ?_
        refine wl_end ?_
        refine w_ret ?_
        refine ⟨.inl rfl, _, rfl, ?_⟩
        exact ⟨by rw [may_parts (by rw [hR, all_fail hj1 (by rw [compB, nt hb104, Bool.and_false])]; rfl)]; rfl, S.e0⟩
      refine w_skip ?_
      exact absurd hb (by decide)
    refine o_fieldAddr (off := 2) (gy rfl rfl rfl hb104) rfl rfl (by kernel_rfl) ?_
    refine o_sliceAll (gy rfl rfl rfl hb104) rfl rfl (slice_array (n := 3) (e := 3) (by kernel_rfl) (by kernel_rfl) (S.cel 0 rfl)) ?_
    refine o_makeFunc1 (gy rfl rfl rfl hb104) rfl rfl ?_
    have hrow : RowV g (.slice (some ⟨b4, 0 + 2, none⟩) 4 4) (isV (P.comps[j]).2) := by
      rw [hfs]
      exact .inr ⟨b4, 2, 4, _, _, _, rfl, S.cel 0 rfl, S.lt1 0 rfl, fun i hi => by
        have hi4 : i < 4 := hi
        match i, hi4 with
        | 0, _ => rfl
        | 1, _ => rfl
        | 2, _ => rfl
        | 3, _ => rfl⟩
    have hpr : PrI g (.func (.func 188) #[] #[ptrV b1]) fun k => decide (0 ≤ k) && !rootB P k := ⟨188, _, rfl, by kernel_rfl, fun h' g' k => c_two (c188 ((X.ext S.e0).ext g') ((g'.get kb (S.lt1 3 rfl)).trans (S.cel 3 rfl)) ((g'.get b1 (S.lt1 2 rfl)).trans (S.cel 2 rfl)))⟩
    refine o_call [_, _] (gy rfl rfl rfl hb104) rfl rfl (by kernel_rfl) rfl (C.mono (c187 hrow (by rw [hfs]; show 4 ≤ 17592186044000; omega) hpr) ?_)
    rintro v g ⟨rfl, x⟩
    have S := S.grow x
    refine ⟨ag0, ?_⟩
    refine o_pickf gn rfl rfl hb104 rfl ?_
    refine wl_end ?_
    refine w_cond rfl (fun hb => ?_) fun hb => ?_
    · skip
      refine w_seq ?_
      refine w_region (by kernel_rfl) ?_
      refine o_assign gn rfl rfl ?_
      refine wl_end ?_
      refine w_ret ?_
      refine ⟨.inl rfl, _, rfl, ?_⟩
      exact ⟨by rw [may_parts (by rw [hR, all_fail hj1 (by rw [compB, any_not, hb]; rfl)]; rfl)]; rfl, S.e0⟩
    refine w_skip ?_
    refine w_region (by kernel_rfl) ?_
    refine o_add gn rfl rfl rfl (by omega) (by omega) ?_
    refine o_move gn rfl rfl ?_
    refine wl_end ?_
    exact rndS (P.comps.length - (j + 1)) (by omega) [(93, _)] (by repeat (first | exact trivial | refine ⟨rfl, ?_⟩)) ⟨j + 1, rfl, rfl, by omega, S.drop, by rw [all_step hj1, hall, compB, any_not, hb, nf hb104]; rfl⟩
  refine w_exit ?_
  refine thn_exit ?_
  refine rnd_exit ?_
  refine blk_eq ?_
  refine w_seq ?_
  refine w_seq ?_
  have hje : j = P.comps.length := by simp at hb; omega
  rw [hje, List.take_length] at hall
  rw [hall, Bool.true_and] at hR
  clear hall
  refine w_region (by kernel_rfl) ?_
  refine o_fieldAddr (off := 5) gn rfl rfl (by kernel_rfl) ?_
  refine o_load gn rfl rfl (by kernel_rfl) (by first | exact S.cel 0 rfl | exact S.cel 1 rfl | exact S.cel 2 rfl | exact S.cel 3 rfl | exact S.cel 4 rfl) rfl ?_
  refine o_len gn rfl rfl (by kernel_rfl) ?_
  refine o_move gn rfl rfl ?_
  refine wl_end ?_
  refine w_block ?_
  refine w_loopS [(114, _)] [(1, _), (3, _), (112, _), (113, _)] (by repeat (first | exact trivial | refine ⟨rfl, ?_⟩)) (fun kk lv hh => ∃ j : Nat, lv = [(114, iV j)] ∧ kk = P.events.length - j ∧ j ≤ P.events.length ∧ SH h0 [] (cR b2 (.cells (prgC P (.slice oa P.loopers oc) (.slice ca P.classes.length cc) (.slice ga P.globals gc) (.slice fa P.funs.length fc) (.slice pa P.comps.length pc) (.slice ea P.events.length ec) (.slice sa P.sites.length sc)) 30 0) :: cR b1 (.cells [ptrV kb] 251 0) :: cR kb (.cells ((prgC P (.slice oa P.loopers oc) (.slice ca P.classes.length cc) (.slice ga P.globals gc) (.slice fa P.funs.length fc) (.slice pa P.comps.length pc) (.slice ea P.events.length ec) (.slice sa P.sites.length sc)) ++ [.slice none 0 0]) 253 0) :: L) hh ∧ (P.events.take j).all (eventB P) = true) (n := (P.events.length)) ?_ fun kk lv hh hI => ?_
  · exact ⟨0, rfl, rfl, by omega, S, rfl⟩
  obtain ⟨j, rfl, rfl, hj, S, hall⟩ := hI
  refine w_seq ?_
  refine w_region (by kernel_rfl) ?_
  refine o_lss gn rfl rfl rfl ?_
  refine wl_end ?_
  refine w_seq ?_
  refine w_cond rfl (fun hb => ?_) fun hb => ?_
  · skip
    refine w_skip ?_
    refine w_seq ?_
    refine w_block ?_
    refine w_seq ?_
    have hj1 : j < P.events.length := by simp at hb; omega
    obtain ⟨b, o, c, cs, e, m, hv, hg, hlb, hl6, hat⟩ := X.ev.at (by omega)
    have hta : ea = some ⟨b, o, none⟩ := by injection hv
    obtain ⟨s, bo, hw⟩ := (hat j hj1).row
    have hw : (cs.drop (o + Int.toNat (j : Int) * 4)).take 4 = [.string s, iV (P.events[j]).1, .bool bo, iV (P.events[j]).2] := by rw [Int.toNat_natCast]; exact hw
    refine w_region (by kernel_rfl) ?_
    rw [hta]
    refine o_indexAddr (zz := 4) gn rfl rfl rfl (by kernel_rfl) (by omega) (by omega) ?_
    refine o_loadA (n := 4) gn rfl rfl (by kernel_rfl) (by kernel_rfl) (S.old0 hg hlb) (by rw [Int.toNat_natCast]; omega) ?_
    rw [hw, ← hta]
    refine s_alloc (zv := .agg #[.string .empty, .int .i64 0, .bool false, .int .i64 0]) S gn rfl (by kernel_rfl) fun b5 g nb5 S => ?_
    first | refine s_storeA (n := 4) 0 S gn rfl rfl (by kernel_rfl) (by kernel_rfl) rfl rfl (by decide) rfl (fun g S => ag0) fun g S => ?_ | refine s_storeA (n := 4) 1 S gn rfl rfl (by kernel_rfl) (by kernel_rfl) rfl rfl (by decide) rfl (fun g S => ag0) fun g S => ?_ | refine s_storeA (n := 4) 2 S gn rfl rfl (by kernel_rfl) (by kernel_rfl) rfl rfl (by decide) rfl (fun g S => ag0) fun g S => ?_ | refine s_storeA (n := 4) 3 S gn rfl rfl (by kernel_rfl) (by kernel_rfl) rfl rfl (by decide) rfl (fun g S => ag0) fun g S => ?_ | refine s_storeA (n := 4) 4 S gn rfl rfl (by kernel_rfl) (by kernel_rfl) rfl rfl (by decide) rfl (fun g S => ag0) fun g S => ?_ | refine s_storeA (n := 4) 5 S gn rfl rfl (by kernel_rfl) (by kernel_rfl) rfl rfl (by decide) rfl (fun g S => ag0) fun g S => ?_
    refine wl_end ?_
    refine w_seq ?_
    refine w_region (by kernel_rfl) ?_
    refine o_fieldAddr (off := 1) gn rfl rfl (by kernel_rfl) ?_
    refine o_load gn rfl rfl (by kernel_rfl) (by first | exact S.cel 0 rfl | exact S.cel 1 rfl | exact S.cel 2 rfl | exact S.cel 3 rfl | exact S.cel 4 rfl | exact S.cel 5 rfl) rfl ?_
    refine o_fieldAddr (off := 0) gn rfl rfl (by kernel_rfl) ?_
    refine o_load gn rfl rfl (by kernel_rfl) (by first | exact S.cel 0 rfl | exact S.cel 1 rfl | exact S.cel 2 rfl | exact S.cel 3 rfl | exact S.cel 4 rfl | exact S.cel 5 rfl) rfl ?_
    refine o_len gn rfl rfl (by kernel_rfl) ?_
    refine o_call [_, _] gn rfl rfl (by kernel_rfl) rfl (c_pure (c186) ⟨ag0, ?_⟩)
    refine o_not gn rfl rfl ?_
    refine o_move gn rfl rfl ?_
    refine o_or (n := 5) rfl rfl rfl gn rfl (fun hb => by
        refine o_load (gy rfl rfl rfl hb) rfl rfl (by kernel_rfl) (by first | exact S.cel 0 rfl | exact S.cel 1 rfl | exact S.cel 2 rfl | exact S.cel 3 rfl | exact S.cel 4 rfl | exact S.cel 5 rfl) rfl ?_
        refine o_fieldAddr (off := 3) (gy rfl rfl rfl hb) rfl rfl (by kernel_rfl) ?_
        refine o_load (gy rfl rfl rfl hb) rfl rfl (by kernel_rfl) (by first | exact S.cel 0 rfl | exact S.cel 1 rfl | exact S.cel 2 rfl | exact S.cel 3 rfl | exact S.cel 4 rfl | exact S.cel 5 rfl) rfl ?_
        refine o_call [_, _] (gy rfl rfl rfl hb) rfl rfl (by kernel_rfl) rfl (c_pure (c185 (X.ext S.e0) (S.cel 3 rfl)) ⟨ag0, ?_⟩)
        refine o_not (gy rfl rfl rfl hb) rfl rfl ?_
        exact wl_end ⟨rfl, rfl, 5, rfl, rfl⟩) ?_
    refine wl_end ?_
    refine w_cond rfl (fun hb => ?_) fun hb => ?_
    · skip
      refine w_seq ?_
      refine w_region (by kernel_rfl) ?_
      refine o_assign gn rfl rfl ?_
      refine wl_end ?_
      refine w_ret ?_
      refine ⟨.inl rfl, _, rfl, ?_⟩
      exact ⟨by rw [may_parts (by rw [hR, all_fail hj1 (ev_no hb)])]; rfl, S.e0⟩
    refine w_skip ?_
    refine w_region (by kernel_rfl) ?_
    refine o_add gn rfl rfl rfl (by omega) (by omega) ?_
    refine o_move gn rfl rfl ?_
    refine wl_end ?_
    exact rndS (P.events.length - (j + 1)) (by omega) [(114, _)] (by repeat (first | exact trivial | refine ⟨rfl, ?_⟩)) ⟨j + 1, rfl, rfl, by omega, S.drop, by rw [all_step hj1, hall, ev_yes hb]; rfl⟩
  refine w_exit ?_
  refine thn_exit ?_
  refine rnd_exit ?_
  refine blk_eq ?_
  refine w_seq ?_
  refine w_seq ?_
  have hje : j = P.events.length := by simp at hb; omega
  rw [hje, List.take_length] at hall
  rw [hall] at hR
  clear hall
  refine w_region (by kernel_rfl) ?_
  refine o_fieldAddr (off := 3) gn rfl rfl (by kernel_rfl) ?_
  refine o_load gn rfl rfl (by kernel_rfl) (by first | exact S.cel 0 rfl | exact S.cel 1 rfl | exact S.cel 2 rfl | exact S.cel 3 rfl | exact S.cel 4 rfl) rfl ?_
  refine o_len gn rfl rfl (by kernel_rfl) ?_
  refine o_move gn rfl rfl ?_
  refine wl_end ?_
  refine w_block ?_
  refine w_loopS [(136, _)] [(1, _), (3, _), (134, _), (135, _)] (by repeat (first | exact trivial | refine ⟨rfl, ?_⟩)) (fun kk lv hh => ∃ (i : Nat) (sv : Value) (bs : List Nat), lv = [(136, iV i)] ∧ kk = P.funs.length - i ∧ i ≤ P.funs.length ∧ SH h0 [] (cR kb (.cells ((prgC P (.slice oa P.loopers oc) (.slice ca P.classes.length cc) (.slice ga P.globals gc) (.slice fa P.funs.length fc) (.slice pa P.comps.length pc) (.slice ea P.events.length ec) (.slice sa P.sites.length sc)) ++ [sv]) 253 0) :: slR 46 1 sv (siC (sitesF 0 (P.funs.take i))) (cntF (P.funs.take i)) bs :: cR b2 (.cells (prgC P (.slice oa P.loopers oc) (.slice ca P.classes.length cc) (.slice ga P.globals gc) (.slice fa P.funs.length fc) (.slice pa P.comps.length pc) (.slice ea P.events.length ec) (.slice sa P.sites.length sc)) 30 0) :: cR b1 (.cells [ptrV kb] 251 0) :: L) hh ∧ allB P 0 (P.funs.take i) = true) (n := (P.funs.length)) ?_ fun kk lv hh hI => ?_
  · exact ⟨0, .slice none 0 0, [], rfl, rfl, by omega, (S.nilSl 46 1).perm (List.perm_append_comm_assoc [_] [_, _, _] _), rfl⟩
  obtain ⟨i, sv, bs, rfl, rfl, hi, S, hall⟩ := hI
  refine w_seq ?_
  refine w_region (by kernel_rfl) ?_
  refine o_lss gn rfl rfl rfl ?_
  refine wl_end ?_
  refine w_seq ?_
  refine w_cond rfl (fun hb => ?_) fun hb => ?_
  · skip
    refine w_skip ?_
    refine w_seq ?_
    refine w_block ?_
    refine w_seq ?_
    have hi1 : i < P.funs.length := by simp at hb; omega
    obtain ⟨b, o, c, cs, e, m, hv, hg, hlb, hl6, hat⟩ := X.fu.at (by omega)
    have hta : fa = some ⟨b, o, none⟩ := by injection hv
    obtain ⟨⟨s, cv, hw, hcode⟩, hcap, hreg, hclen⟩ := hat i hi1
    have hcode' := hcode
    obtain ⟨va, vc, rfl⟩ := hcode.val
    have hw : (cs.drop (o + Int.toNat (i : Int) * 4)).take 4 = funC s P.funs[i] (.slice va (P.funs[i]).code.length vc) := by rw [Int.toNat_natCast]; exact hw
    have hcl := cntF_le _ _ hall
    rw [List.length_take] at hcl
    have hsl := sitesF_len 0 (P.funs.take i)
    refine w_region (by kernel_rfl) ?_
    refine o_move gn rfl rfl ?_
    rw [hta]
    refine o_indexAddr (zz := 4) gn rfl rfl rfl (by kernel_rfl) (by omega) (by omega) ?_
    refine o_loadA (n := 4) gn rfl rfl (by kernel_rfl) (by kernel_rfl) (S.old0 hg hlb) (by rw [Int.toNat_natCast]; omega) ?_
    rw [hw, ← hta]
    refine s_alloc (zv := .agg #[.string .empty, .int .i64 0, .int .i64 0, .slice none 0 0]) S gn rfl (by kernel_rfl) fun b6 g nb6 S => ?_
    refine o_assign gn rfl rfl ?_
    first | refine s_storeA (n := 4) 0 S gn rfl rfl (by kernel_rfl) (by kernel_rfl) rfl rfl (by decide) rfl (fun g S => ag0) fun g S => ?_ | refine s_storeA (n := 4) 1 S gn rfl rfl (by kernel_rfl) (by kernel_rfl) rfl rfl (by decide) rfl (fun g S => ag0) fun g S => ?_ | refine s_storeA (n := 4) 2 S gn rfl rfl (by kernel_rfl) (by kernel_rfl) rfl rfl (by decide) rfl (fun g S => ag0) fun g S => ?_ | refine s_storeA (n := 4) 3 S gn rfl rfl (by kernel_rfl) (by kernel_rfl) rfl rfl (by decide) rfl (fun g S => ag0) fun g S => ?_ | refine s_storeA (n := 4) 4 S gn rfl rfl (by kernel_rfl) (by kernel_rfl) rfl rfl (by decide) rfl (fun g S => ag0) fun g S => ?_ | refine s_storeA (n := 4) 5 S gn rfl rfl (by kernel_rfl) (by kernel_rfl) rfl rfl (by decide) rfl (fun g S => ag0) fun g S => ?_
    refine wl_end ?_
    refine w_seq ?_
    refine w_region (by kernel_rfl) ?_
    refine o_load gn rfl rfl (by kernel_rfl) (by first | exact S.cel 0 rfl | exact S.cel 1 rfl | exact S.cel 2 rfl | exact S.cel 3 rfl | exact S.cel 4 rfl | exact S.cel 5 rfl) rfl ?_
    refine o_move gn rfl rfl ?_
    refine o_loadA (n := 4) gn rfl rfl (by kernel_rfl) (by kernel_rfl) (by first | exact S.cel 0 rfl | exact S.cel 1 rfl | exact S.cel 2 rfl | exact S.cel 3 rfl | exact S.cel 4 rfl | exact S.cel 5 rfl) (by first | decide | exact Nat.le_refl _ | (simp; done)) ?_
    have S := S.perm (A := _ :: _ :: _ :: _) (List.perm_append_comm_assoc [_, _] [_] _)
    refine o_call [_, _, _] gn rfl rfl (by kernel_rfl) rfl (C.mono (c189 X hcode' hreg (st := sitesF 0 (P.funs.take i)) (by omega) (by rw [hsl]; exact S)) ?_)
    rintro v g ⟨rfl, st', sv', bs', S, hst'⟩
    rw [hsl] at hst'
    refine ⟨ag0, ?_⟩
    refine o_not gn rfl rfl ?_
    refine wl_end ?_
    refine w_cond rfl (fun hb => ?_) fun hb => ?_
    · skip
      refine w_seq ?_
      refine w_region (by kernel_rfl) ?_
      refine o_assign gn rfl rfl ?_
      refine wl_end ?_
      refine w_ret ?_
      refine ⟨.inl rfl, _, rfl, ?_⟩
      exact ⟨by rw [may_fun hi1 (by rw [← hsl]; exact nt hb)]; rfl, S.e0⟩
    refine w_skip ?_
    refine w_region (by kernel_rfl) ?_
    refine o_add gn rfl rfl rfl (by omega) (by omega) ?_
    refine o_move gn rfl rfl ?_
    refine wl_end ?_
    exact rndS (P.funs.length - (i + 1)) (by omega) [(136, _)] (by repeat (first | exact trivial | refine ⟨rfl, ?_⟩)) ⟨i + 1, sv', bs', rfl, rfl, by omega, by
      have hf : funB P P.funs[i] (cntF (P.funs.take i)) = true := by rw [← hsl]; exact nf hb
      have e1 := hst' hf
      rw [← sitesF_succ hi1] at e1
      subst e1
      rw [cntF_succ hi1]
      have S2 := S.perm (A := _ :: _ :: _) (List.perm_append_comm_assoc [_] [_, _] _)
      rw [sitesF_len, cntF_succ hi1] at S2
      exact S2.drop, by
      rw [allB_succ hi1, hall, Bool.true_and, Nat.zero_add, ← hsl]; exact nf hb⟩
  refine w_exit ?_
  refine thn_exit ?_
  refine rnd_exit ?_
  refine blk_eq ?_
  refine w_seq ?_
  have hie : i = P.funs.length := by simp at hb; omega
  have hcl := cntF_le _ _ hall
  rw [List.length_take] at hcl
  have hrow1 := sl_sites (S.sl 1 rfl)
  rw [hie, List.take_length] at hrow1 hall hcl
  have hsl := sitesF_len 0 P.funs
  obtain ⟨ua, uc, rfl⟩ := (S.sl 1 rfl).val
  refine w_draw [(0, []), (1, []), (2, []), (3, []), (4, []), (5, []), (6, []), (7, []), (8, []), (9, []), (10, []), (11, []), (12, []), (13, []), (14, []), (15, [])] (by kernel_rfl) (by kernel_rfl) (by kernel_rfl) (by kernel_rfl) ?_
  refine o_load gn rfl rfl (by kernel_rfl) (by first | exact S.cel 0 rfl | exact S.cel 1 rfl | exact S.cel 2 rfl | exact S.cel 3 rfl | exact S.cel 4 rfl) rfl ?_
  refine o_nilCheck gn rfl rfl ?_
  refine o_fieldAddr (off := 8) gn rfl rfl (by kernel_rfl) ?_
  refine o_load gn rfl rfl (by kernel_rfl) (by first | exact S.cel 0 rfl | exact S.cel 1 rfl | exact S.cel 2 rfl | exact S.cel 3 rfl | exact S.cel 4 rfl) rfl ?_
  refine o_len gn rfl rfl (by kernel_rfl) ?_
  refine o_leq gn rfl rfl rfl ?_
  refine o_move gn rfl rfl ?_
  refine o_and (n := 7) rfl rfl rfl gn rfl (fun hb => by
      refine o_load (gy rfl rfl rfl hb) rfl rfl (by kernel_rfl) (by first | exact S.cel 0 rfl | exact S.cel 1 rfl | exact S.cel 2 rfl | exact S.cel 3 rfl | exact S.cel 4 rfl) rfl ?_
      refine o_nilCheck (gy rfl rfl rfl hb) rfl rfl ?_
      refine o_fieldAddr (off := 8) (gy rfl rfl rfl hb) rfl rfl (by kernel_rfl) ?_
      refine o_load (gy rfl rfl rfl hb) rfl rfl (by kernel_rfl) (by first | exact S.cel 0 rfl | exact S.cel 1 rfl | exact S.cel 2 rfl | exact S.cel 3 rfl | exact S.cel 4 rfl) rfl ?_
      refine o_fieldAddr (off := 7) (gy rfl rfl rfl hb) rfl rfl (by kernel_rfl) ?_
      refine o_load (gy rfl rfl rfl hb) rfl rfl (by kernel_rfl) (by first | exact S.cel 0 rfl | exact S.cel 1 rfl | exact S.cel 2 rfl | exact S.cel 3 rfl | exact S.cel 4 rfl) rfl ?_
      refine o_call [_, _] (gy rfl rfl rfl hb) rfl rfl (by kernel_rfl) rfl (c_pure (c190 hrow1 (X.si.ext S.e0 fun _ _ d => d.row) (by omega)) ⟨ag0, ?_⟩)
      exact wl_end ⟨rfl, rfl, 7, rfl, rfl⟩) ?_
  refine o_assign gn rfl rfl ?_
  refine wl_end ?_
  refine w_ret ?_
  refine ⟨.inl rfl, _, rfl, ?_⟩
  exact ⟨by
    rw [may_end hR hall]
    show Value.bool _ = Value.bool _
    congr 1
    rw [hie, List.take_length, Bool.eq_iff_iff]
    simp only [Bool.and_eq_true, decide_eq_true_eq]
    constructor
    · rintro ⟨h1, h2⟩
      exact ⟨h2, by rw [← h2, hsl]; omega⟩
    rintro ⟨h1, h2⟩
    exact ⟨by rw [← h1, hsl] at h2; omega, h1⟩, S.e0⟩
end
end Go.Proofs.YtemdkcneolianaaGreatDoor

namespace Go.Proofs.YtemdkcneolianaaGreatDoor
open Go.X Go.May

def Blk (h : Hp) : Prop := tabThere 0 spaces h = true ∧ 0 < h.n
theorem Blk.ext {h h' : Hp} (B : Blk h) (g : Ext h h') : Blk h' := by
  refine ⟨?_, Nat.lt_of_lt_of_le B.2 g.n⟩
  have := B.1
  unfold tabThere at *
  rw [g.get 0 B.2]; exact this
theorem knows {h : Hp} (B : Blk h) : knownX 0 spaces [] h = some (.bool true, h) := by simp only [knownX, B.1, cond_true]
theorem sm6 : repE.sm 6 = some (knownX 0 spaces) := rfl
section
variable {h : Hp} {P : Prg} {lo cl gl fu co ev si : Value}
/-- Much -/
theorem c4 (X : PrgAt h P lo cl gl fu co ev si) : C repE 4 [prgV P lo cl gl fu co ev si] h fun v h' => (∃ b, v = .bool b) ∧ Ext h h' := by
  obtain ⟨⟨oa, oc, rfl⟩, ⟨ca, cc, rfl⟩, ⟨ga, gc, rfl⟩, ⟨fa, fc, rfl⟩, ⟨pa, pc, rfl⟩, ⟨ea, ec, rfl⟩, ⟨sa, sc, rfl⟩⟩ := X.vals
  refine c_enter (fu := Tryz.f4) (by kernel_rfl) rfl ?_
  have S := SH.start h
  refine w_seq ?_
  refine w_region (by kernel_rfl) ?_
  refine s_box S gn rfl rfl fun b1 g nb1 S => ?_
  refine o_assign gn rfl rfl ?_
  refine wl_end ?_
  refine w_seq ?_
  refine w_region (by kernel_rfl) ?_
  refine o_fieldAddr (off := 0) gn rfl rfl (by kernel_rfl) ?_
  refine o_load gn rfl rfl (by kernel_rfl) (by first | exact S.cel 0 rfl | exact S.cel 1 rfl | exact S.cel 2 rfl) rfl ?_
  refine o_len gn rfl rfl (by kernel_rfl) ?_
  refine o_fieldAddr (off := 1) gn rfl rfl (by kernel_rfl) ?_
  refine o_load gn rfl rfl (by kernel_rfl) (by first | exact S.cel 0 rfl | exact S.cel 1 rfl | exact S.cel 2 rfl) rfl ?_
  refine o_len gn rfl rfl (by kernel_rfl) ?_
  refine o_sumW gn rfl rfl rfl ?_
  refine o_fieldAddr (off := 2) gn rfl rfl (by kernel_rfl) ?_
  refine o_load gn rfl rfl (by kernel_rfl) (by first | exact S.cel 0 rfl | exact S.cel 1 rfl | exact S.cel 2 rfl) rfl ?_
  refine o_len gn rfl rfl (by kernel_rfl) ?_
  refine o_sumW gn rfl rfl rfl ?_
  refine o_fieldAddr (off := 4) gn rfl rfl (by kernel_rfl) ?_
  refine o_load gn rfl rfl (by kernel_rfl) (by first | exact S.cel 0 rfl | exact S.cel 1 rfl | exact S.cel 2 rfl) rfl ?_
  refine o_len gn rfl rfl (by kernel_rfl) ?_
  refine o_sumW gn rfl rfl rfl ?_
  refine o_fieldAddr (off := 5) gn rfl rfl (by kernel_rfl) ?_
  refine o_load gn rfl rfl (by kernel_rfl) (by first | exact S.cel 0 rfl | exact S.cel 1 rfl | exact S.cel 2 rfl) rfl ?_
  refine o_len gn rfl rfl (by kernel_rfl) ?_
  refine o_sumW gn rfl rfl rfl ?_
  refine o_fieldAddr (off := 3) gn rfl rfl (by kernel_rfl) ?_
  refine o_load gn rfl rfl (by kernel_rfl) (by first | exact S.cel 0 rfl | exact S.cel 1 rfl | exact S.cel 2 rfl) rfl ?_
  refine o_len gn rfl rfl (by kernel_rfl) ?_
  refine o_sumW gn rfl rfl rfl ?_
  refine o_fieldAddr (off := 7) gn rfl rfl (by kernel_rfl) ?_
  refine o_load gn rfl rfl (by kernel_rfl) (by first | exact S.cel 0 rfl | exact S.cel 1 rfl | exact S.cel 2 rfl) rfl ?_
  refine o_len gn rfl rfl (by kernel_rfl) ?_
  refine o_sumW gn rfl rfl rfl ?_
  refine o_assign gn rfl rfl ?_
  refine wl_end ?_
  refine w_seq ?_
  refine w_seq ?_
  refine w_region (by kernel_rfl) ?_
  refine o_assign gn rfl rfl ?_
  refine wl_end ?_
  refine w_block ?_
  refine w_loopS [(3, _), (4, _)] [(1, _)] (by repeat (first | exact trivial | refine ⟨rfl, ?_⟩)) (fun kk lv hh => ∃ (i : Nat) (z : Int), lv = [(3, iV z), (4, iV i)] ∧ kk = P.funs.length - i ∧ i ≤ P.funs.length ∧ i ≤ 200 ∧ SH h [] [cR b1 (.cells (prgC P (.slice oa P.loopers oc) (.slice ca P.classes.length cc) (.slice ga P.globals gc) (.slice fa P.funs.length fc) (.slice pa P.comps.length pc) (.slice ea P.events.length ec) (.slice sa P.sites.length sc)) 30 0)] hh) (n := (P.funs.length)) ?_ fun kk lv hh hI => ?_
  · exact ⟨0, _, rfl, rfl, by omega, by omega, S⟩
  obtain ⟨i, z, rfl, rfl, hi, hi2, S⟩ := hI
  refine w_seq ?_
  refine w_seq ?_
  refine w_region (by kernel_rfl) ?_
  refine o_move gn rfl rfl ?_
  refine o_fieldAddr (off := 3) gn rfl rfl (by kernel_rfl) ?_
  refine o_load gn rfl rfl (by kernel_rfl) (by first | exact S.cel 0 rfl | exact S.cel 1 rfl | exact S.cel 2 rfl) rfl ?_
  refine o_len gn rfl rfl (by kernel_rfl) ?_
  refine o_lss gn rfl rfl rfl ?_
  refine o_move gn rfl rfl ?_
  refine o_and (n := 2) rfl rfl rfl gn rfl (fun hb => by
      refine o_move (gy rfl rfl rfl hb) rfl rfl ?_
      refine o_lss (gy rfl rfl rfl hb) rfl rfl rfl ?_
      exact wl_end ⟨rfl, rfl, 2, rfl, rfl⟩) ?_
  refine wl_end ?_
  refine w_cond rfl (fun hb => ?_) fun hb => ?_
  · skip
    refine w_skip ?_
    refine w_seq ?_
    refine w_block ?_
    refine w_seq ?_
    obtain ⟨hi1, hi3⟩ : i < P.funs.length ∧ i < 200 := by simp at hb; omega
    obtain ⟨b, o, c, cs, e, m, hv, hg, hlb, hl6, hat⟩ := X.fu.at (by omega)
    have hta : fa = some ⟨b, o, none⟩ := by injection hv
    obtain ⟨⟨s, cv, hw, hcode⟩, hcap, hreg, hclen⟩ := hat i hi1
    obtain ⟨va, vc, rfl⟩ := hcode.val
    have hw : cs[o + Int.toNat (i : Int) * 4 + 3]? = some (.slice va (P.funs[i]).code.length vc) := by rw [Int.toNat_natCast]; exact cut_at hw (by omega) rfl
    refine w_region (by kernel_rfl) ?_
    refine o_move gn rfl rfl ?_
    refine o_fieldAddr (off := 3) gn rfl rfl (by kernel_rfl) ?_
    refine o_load gn rfl rfl (by kernel_rfl) (by first | exact S.cel 0 rfl | exact S.cel 1 rfl | exact S.cel 2 rfl) rfl ?_
    refine o_move gn rfl rfl ?_
    rw [hta]
    refine o_indexAddr (zz := 4) gn rfl rfl rfl (by kernel_rfl) (by omega) (by omega) ?_
    refine o_fieldAddr (off := 3) gn rfl rfl (by kernel_rfl) ?_
    refine o_load gn rfl rfl (by kernel_rfl) (S.old0 hg hlb) hw ?_
    rw [← hta]
    refine o_len gn rfl rfl (by kernel_rfl) ?_
    refine o_sumW gn rfl rfl rfl ?_
    refine o_assign gn rfl rfl ?_
    refine wl_end ?_
    refine w_seq ?_
    refine w_region (by kernel_rfl) ?_
    refine o_assign gn rfl rfl ?_
    refine wl_end ?_
    refine w_block ?_
    refine w_loopS [(3, _), (5, _)] [(1, _), (4, _)] (by repeat (first | exact trivial | refine ⟨rfl, ?_⟩)) (fun kk lv hh => ∃ (k : Nat) (z : Int), lv = [(3, iV z), (5, iV k)] ∧ kk = (P.funs[i]).code.length - k ∧ k ≤ (P.funs[i]).code.length ∧ k ≤ 3000 ∧ SH h [] [cR b1 (.cells (prgC P (.slice oa P.loopers oc) (.slice ca P.classes.length cc) (.slice ga P.globals gc) (.slice fa P.funs.length fc) (.slice pa P.comps.length pc) (.slice ea P.events.length ec) (.slice sa P.sites.length sc)) 30 0)] hh) (n := ((P.funs[i]).code.length)) ?_ fun kk lv hh hI => ?_
    · exact ⟨0, _, rfl, rfl, by omega, by omega, S⟩
    obtain ⟨k, z, rfl, rfl, hk, hk2, S⟩ := hI
    refine w_seq ?_
    refine w_seq ?_
    refine w_region (by kernel_rfl) ?_
    refine o_move gn rfl rfl ?_
    refine o_fieldAddr (off := 3) gn rfl rfl (by kernel_rfl) ?_
    refine o_load gn rfl rfl (by kernel_rfl) (by first | exact S.cel 0 rfl | exact S.cel 1 rfl | exact S.cel 2 rfl) rfl ?_
    refine o_move gn rfl rfl ?_
    rw [hta]
    refine o_indexAddr (zz := 4) gn rfl rfl rfl (by kernel_rfl) (by omega) (by omega) ?_
    refine o_fieldAddr (off := 3) gn rfl rfl (by kernel_rfl) ?_
    refine o_load gn rfl rfl (by kernel_rfl) (S.old0 hg hlb) hw ?_
    rw [← hta]
    refine o_len gn rfl rfl (by kernel_rfl) ?_
    refine o_lss gn rfl rfl rfl ?_
    refine o_move gn rfl rfl ?_
    refine o_and (n := 2) rfl rfl rfl gn rfl (fun hb => by
        refine o_move (gy rfl rfl rfl hb) rfl rfl ?_
        refine o_lss (gy rfl rfl rfl hb) rfl rfl rfl ?_
        exact wl_end ⟨rfl, rfl, 2, rfl, rfl⟩) ?_
    refine wl_end ?_
    refine w_cond rfl (fun hb => ?_) fun hb => ?_
    · skip
      refine w_skip ?_
      refine w_seq ?_
      refine w_block ?_
      obtain ⟨hk1, hk3⟩ : k < (P.funs[i]).code.length ∧ k < 3000 := by simp at hb; omega
      obtain ⟨b', o', c', cs', e', m', hv', hg', hlb', hl8', hat'⟩ := hcode.at (by omega)
      have htb : va = some ⟨b', o', none⟩ := by injection hv'
      obtain ⟨⟨lv, ln, hw2, hrow⟩, -⟩ := hat' k hk1
      obtain ⟨la, lc, rfl⟩ := hrow.valM
      have hw2 : cs'[o' + Int.toNat (k : Int) * 8 + 5]? = some (.slice la ((P.funs[i]).code[k]).l.length lc) := by rw [Int.toNat_natCast]; exact cut_at hw2 (by omega) rfl
      refine w_region (by kernel_rfl) ?_
      refine o_move gn rfl rfl ?_
      refine o_fieldAddr (off := 3) gn rfl rfl (by kernel_rfl) ?_
      refine o_load gn rfl rfl (by kernel_rfl) (by first | exact S.cel 0 rfl | exact S.cel 1 rfl | exact S.cel 2 rfl) rfl ?_
      refine o_move gn rfl rfl ?_
      rw [hta]
      refine o_indexAddr (zz := 4) gn rfl rfl rfl (by kernel_rfl) (by omega) (by omega) ?_
      refine o_fieldAddr (off := 3) gn rfl rfl (by kernel_rfl) ?_
      refine o_load gn rfl rfl (by kernel_rfl) (S.old0 hg hlb) hw ?_
      rw [← hta]
      refine o_move gn rfl rfl ?_
      rw [htb]
      refine o_indexAddr (zz := 8) gn rfl rfl rfl (by kernel_rfl) (by omega) (by omega) ?_
      refine o_fieldAddr (off := 5) gn rfl rfl (by kernel_rfl) ?_
      refine o_load gn rfl rfl (by kernel_rfl) (S.old0 hg' hlb') hw2 ?_
      rw [← htb]
      refine o_len gn rfl rfl (by kernel_rfl) ?_
      refine o_sumW gn rfl rfl rfl ?_
      refine o_assign gn rfl rfl ?_
      refine wl_end ?_
      refine w_region (by kernel_rfl) ?_
      refine o_move gn rfl rfl ?_
      refine o_add gn rfl rfl rfl (by omega) (by omega) ?_
      refine o_assign gn rfl rfl ?_
      refine wl_end ?_
      exact rndS ((P.funs[i]).code.length - (k + 1)) (by omega) [(3, _), (5, _)] (by repeat (first | exact trivial | refine ⟨rfl, ?_⟩)) ⟨k + 1, _, rfl, rfl, by omega, by omega, S⟩
    refine w_exit ?_
    refine thn_exit ?_
    refine rnd_exit ?_
    refine blk_eq ?_
    refine w_region (by kernel_rfl) ?_
    refine o_move gn rfl rfl ?_
    refine o_add gn rfl rfl rfl (by omega) (by omega) ?_
    refine o_assign gn rfl rfl ?_
    refine wl_end ?_
    exact rndS (P.funs.length - (i + 1)) (by omega) [(3, _), (4, _)] (by repeat (first | exact trivial | refine ⟨rfl, ?_⟩)) ⟨i + 1, _, rfl, rfl, by omega, by omega, S⟩
  refine w_exit ?_
  refine thn_exit ?_
  refine rnd_exit ?_
  refine blk_eq ?_
  refine w_seq ?_
  refine w_region (by kernel_rfl) ?_
  refine o_move gn rfl rfl ?_
  refine o_gtr gn rfl rfl rfl ?_
  refine o_assign gn rfl rfl ?_
  refine wl_end ?_
  refine w_ret ?_
  refine ⟨.inl rfl, _, rfl, ?_⟩
  exact ⟨⟨_, rfl⟩, S.e0⟩
/-- New -/
theorem c65 (X : PrgAt h P lo cl gl fu co ev si) (hno : mayB P = false) : C repE 65 [prgV P lo cl gl fu co ev si] h fun v h' => v = .tuple #[.pointer none, iV 2] ∧ Ext h h' := by
  refine c_enter (fu := Tryz.f65) (by kernel_rfl) rfl ?_
  have S := SH.start h
  refine w_seq ?_
  refine w_region (by kernel_rfl) ?_
  refine s_box S gn rfl rfl fun b1 g nb1 S => ?_
  refine o_assign gn rfl rfl ?_
  refine o_assign gn rfl rfl ?_
  refine wl_end ?_
  refine w_seq ?_
  refine w_seq ?_
  refine w_region (by kernel_rfl) ?_
  refine o_loadA (n := 8) gn rfl rfl (by kernel_rfl) (by kernel_rfl) (by first | exact S.cel 0 rfl | exact S.cel 1 rfl | exact S.cel 2 rfl) (by first | decide | exact Nat.le_refl _ | (simp; done)) ?_
  refine o_build (cs := #[lo, cl, gl, fu, co, ev, iV P.main, si, .slice none 0 0]) (zv := .agg #[.slice none 0 0, .slice none 0 0, .slice none 0 0, .slice none 0 0, .slice none 0 0, .slice none 0 0, .int .i64 0, .slice none 0 0, .slice none 0 0]) (pl := [(0, 8), (8, 1)]) [(0, _)] gn rfl (by kernel_rfl) (by kernel_rfl) rfl (by kernel_rfl) ?_
  refine s_box S gn rfl rfl fun b2 g nb2 S => ?_
  refine o_call [_] gn rfl rfl (by kernel_rfl) rfl (C.mono (c118 (lo := lo) (cl := cl) (gl := gl) (fu := fu) (co := co) (ev := ev) (si := si) X S) ?_)
  rintro v g ⟨rfl, x⟩
  skip
  refine ⟨ag0, ?_⟩
  refine o_not gn rfl rfl ?_
  refine wl_end ?_
  refine w_cond rfl (fun hb => ?_) fun hb => ?_
  · skip
    refine w_seq ?_
    refine w_region (by kernel_rfl) ?_
    refine o_assign gn rfl rfl ?_
    refine o_assign gn rfl rfl ?_
    refine wl_end ?_
    refine w_ret ?_
    refine ⟨.inl rfl, _, rfl, ?_⟩
    exact ⟨rfl, x⟩
  refine w_skip ?_
  refine w_seq ?_
  exact absurd (nf hb) (by rw [hno]; decide)
/-- nodes.New -/
theorem c35 (X : PrgAt h P lo cl gl fu co ev si) (hno : mayB P = false) : C repE 35 [prgV P lo cl gl fu co ev si] h fun v h' => v = .tuple #[.pointer none, iV 2] ∧ Ext h h' := by
  refine c_enter (fu := Tryz.f35) (by kernel_rfl) rfl ?_
  have S := SH.start h
  refine w_seq ?_
  refine w_region (by kernel_rfl) ?_
  refine s_box S gn rfl rfl fun b1 g nb1 S => ?_
  refine o_assign gn rfl rfl ?_
  refine o_assign gn rfl rfl ?_
  refine wl_end ?_
  refine w_seq ?_
  refine w_region (by kernel_rfl) ?_
  refine o_loadA (n := 8) gn rfl rfl (by kernel_rfl) (by kernel_rfl) (by first | exact S.cel 0 rfl | exact S.cel 1 rfl | exact S.cel 2 rfl) (by first | decide | exact Nat.le_refl _ | (simp; done)) ?_
  refine o_call [_] gn rfl rfl (by kernel_rfl) rfl (C.mono (c65 (X.ext S.e0) hno) ?_)
  rintro v g ⟨rfl, x⟩
  have S := S.grow x
  refine ⟨ag0, ?_⟩
  refine o_move gn rfl rfl ?_
  refine o_extract gn rfl rfl rfl ?_
  refine o_extract gn rfl rfl rfl ?_
  refine o_assign gn rfl rfl ?_
  refine o_assign gn rfl rfl ?_
  refine wl_end ?_
  refine w_seq ?_
  refine w_seq ?_
  refine w_region (by kernel_rfl) ?_
  refine o_move gn rfl rfl ?_
  refine o_nei gn rfl rfl rfl ?_
  refine wl_end ?_
  refine w_cond rfl (fun hb => ?_) fun hb => ?_
  · skip
    refine w_seq ?_
    refine w_region (by kernel_rfl) ?_
    refine o_move gn rfl rfl ?_
    refine o_assign gn rfl rfl ?_
    refine o_assign gn rfl rfl ?_
    refine wl_end ?_
    refine w_ret ?_
    refine ⟨.inl rfl, _, rfl, ?_⟩
    exact ⟨rfl, S.e0⟩
  refine w_skip ?_
  refine w_seq ?_
  exact absurd hb (by decide)
/-- order.New -/
theorem c22 (X : PrgAt h P lo cl gl fu co ev si) (hno : mayB P = false) : C repE 22 [prgV P lo cl gl fu co ev si] h fun v h' => v = .tuple #[.pointer none, iV 2] ∧ Ext h h' := by
  refine c_enter (fu := Tryz.f22) (by kernel_rfl) rfl ?_
  have S := SH.start h
  refine w_seq ?_
  refine w_region (by kernel_rfl) ?_
  refine s_box S gn rfl rfl fun b1 g nb1 S => ?_
  refine o_assign gn rfl rfl ?_
  refine o_assign gn rfl rfl ?_
  refine wl_end ?_
  refine w_seq ?_
  refine w_region (by kernel_rfl) ?_
  refine o_loadA (n := 8) gn rfl rfl (by kernel_rfl) (by kernel_rfl) (by first | exact S.cel 0 rfl | exact S.cel 1 rfl | exact S.cel 2 rfl) (by first | decide | exact Nat.le_refl _ | (simp; done)) ?_
  refine o_call [_] gn rfl rfl (by kernel_rfl) rfl (C.mono (c35 (X.ext S.e0) hno) ?_)
  rintro v g ⟨rfl, x⟩
  have S := S.grow x
  refine ⟨ag0, ?_⟩
  refine o_move gn rfl rfl ?_
  refine o_extract gn rfl rfl rfl ?_
  refine o_extract gn rfl rfl rfl ?_
  refine o_assign gn rfl rfl ?_
  refine o_assign gn rfl rfl ?_
  refine wl_end ?_
  refine w_seq ?_
  refine w_seq ?_
  refine w_region (by kernel_rfl) ?_
  refine o_move gn rfl rfl ?_
  refine o_nei gn rfl rfl rfl ?_
  refine wl_end ?_
  refine w_cond rfl (fun hb => ?_) fun hb => ?_
  · skip
    refine w_seq ?_
    refine w_region (by kernel_rfl) ?_
    refine o_move gn rfl rfl ?_
    refine o_assign gn rfl rfl ?_
    refine o_assign gn rfl rfl ?_
    refine wl_end ?_
    refine w_ret ?_
    refine ⟨.inl rfl, _, rfl, ?_⟩
    exact ⟨rfl, S.e0⟩
  refine w_skip ?_
  refine w_seq ?_
  exact absurd hb (by decide)
/-- races.All -/
theorem c13 (X : PrgAt h P lo cl gl fu co ev si) (hno : mayB P = false) : C repE 13 [prgV P lo cl gl fu co ev si] h fun v h' => v = .tuple #[.slice none 0 0, iV 2] ∧ Ext h h' := by
  refine c_enter (fu := Tryz.f13) (by kernel_rfl) rfl ?_
  have S := SH.start h
  refine w_seq ?_
  refine w_region (by kernel_rfl) ?_
  refine s_box S gn rfl rfl fun b1 g nb1 S => ?_
  refine o_assign gn rfl rfl ?_
  refine o_assign gn rfl rfl ?_
  refine wl_end ?_
  refine w_seq ?_
  refine w_region (by kernel_rfl) ?_
  refine o_loadA (n := 8) gn rfl rfl (by kernel_rfl) (by kernel_rfl) (by first | exact S.cel 0 rfl | exact S.cel 1 rfl | exact S.cel 2 rfl) (by first | decide | exact Nat.le_refl _ | (simp; done)) ?_
  refine o_call [_] gn rfl rfl (by kernel_rfl) rfl (C.mono (c22 (X.ext S.e0) hno) ?_)
  rintro v g ⟨rfl, x⟩
  have S := S.grow x
  refine ⟨ag0, ?_⟩
  refine o_move gn rfl rfl ?_
  refine o_extract gn rfl rfl rfl ?_
  refine o_extract gn rfl rfl rfl ?_
  refine o_assign gn rfl rfl ?_
  refine o_assign gn rfl rfl ?_
  refine wl_end ?_
  refine w_seq ?_
  refine w_seq ?_
  refine w_region (by kernel_rfl) ?_
  refine o_move gn rfl rfl ?_
  refine o_nei gn rfl rfl rfl ?_
  refine wl_end ?_
  refine w_cond rfl (fun hb => ?_) fun hb => ?_
  · skip
    refine w_seq ?_
    refine w_region (by kernel_rfl) ?_
    refine o_move gn rfl rfl ?_
    refine o_assign gn rfl rfl ?_
    refine o_assign gn rfl rfl ?_
    refine wl_end ?_
    refine w_ret ?_
    refine ⟨.inl rfl, _, rfl, ?_⟩
    exact ⟨rfl, S.e0⟩
  refine w_skip ?_
  refine w_seq ?_
  exact absurd hb (by decide)
/-- Verdict -/
theorem c7 (X : PrgAt h P lo cl gl fu co ev si) (hno : mayB P = false) : C repE 7 [prgV P lo cl gl fu co ev si] h fun v h' => v = .tuple #[.string ⟨#[]⟩, iV 2] ∧ Ext h h' := by
  refine c_enter (fu := Tryz.f7) (by kernel_rfl) rfl ?_
  have S := SH.start h
  refine w_seq ?_
  refine w_region (by kernel_rfl) ?_
  refine s_box S gn rfl rfl fun b1 g nb1 S => ?_
  refine o_assign gn rfl rfl ?_
  refine o_assign gn rfl rfl ?_
  refine wl_end ?_
  refine w_seq ?_
  refine w_region (by kernel_rfl) ?_
  refine o_loadA (n := 8) gn rfl rfl (by kernel_rfl) (by kernel_rfl) (by first | exact S.cel 0 rfl | exact S.cel 1 rfl | exact S.cel 2 rfl) (by first | decide | exact Nat.le_refl _ | (simp; done)) ?_
  refine o_call [_] gn rfl rfl (by kernel_rfl) rfl (C.mono (c13 (X.ext S.e0) hno) ?_)
  rintro v g ⟨rfl, x⟩
  have S := S.grow x
  refine ⟨ag0, ?_⟩
  refine o_move gn rfl rfl ?_
  refine o_extract gn rfl rfl rfl ?_
  refine o_extract gn rfl rfl rfl ?_
  refine o_assign gn rfl rfl ?_
  refine o_assign gn rfl rfl ?_
  refine wl_end ?_
  refine w_seq ?_
  refine w_seq ?_
  refine w_region (by kernel_rfl) ?_
  refine o_move gn rfl rfl ?_
  refine o_nei gn rfl rfl rfl ?_
  refine wl_end ?_
  refine w_cond rfl (fun hb => ?_) fun hb => ?_
  · skip
    refine w_seq ?_
    refine w_region (by kernel_rfl) ?_
    refine o_move gn rfl rfl ?_
    refine o_assign gn rfl rfl ?_
    refine o_assign gn rfl rfl ?_
    refine wl_end ?_
    refine w_ret ?_
    refine ⟨.inl rfl, _, rfl, ?_⟩
    exact ⟨rfl, S.e0⟩
  refine w_skip ?_
  refine w_seq ?_
  exact absurd hb (by decide)
/-- ReportRefused -/
theorem c3 (B : Blk h) (X : PrgAt h P lo cl gl fu co ev si) : C repE 3 [prgV P lo cl gl fu co ev si] h fun v _ => v = .bool true := by
  refine c_enter (fu := Tryz.f3) (by kernel_rfl) rfl ?_
  have S := SH.start h
  refine w_seq ?_
  refine w_region (by kernel_rfl) ?_
  refine s_box S gn rfl rfl fun b1 g nb1 S => ?_
  refine o_assign gn rfl rfl ?_
  refine wl_end ?_
  refine w_seq ?_
  refine w_seq ?_
  refine w_region (by kernel_rfl) ?_
  refine o_loadA (n := 8) gn rfl rfl (by kernel_rfl) (by kernel_rfl) (by first | exact S.cel 0 rfl | exact S.cel 1 rfl | exact S.cel 2 rfl) (by first | decide | exact Nat.le_refl _ | (simp; done)) ?_
  refine o_call [_] gn rfl rfl (by kernel_rfl) rfl (C.mono (c4 (X.ext S.e0)) ?_)
  rintro v g ⟨⟨mb, rfl⟩, x⟩
  have S := S.grow x
  refine ⟨ag0, ?_⟩
  refine o_move gn rfl rfl ?_
  refine wl_split (dc := 7) rfl (fun hb7 => ?_) fun hb7 => ?_
  · skip
    refine wl_skips (n := 2) (dc := 7) (w := false) rfl hb7 rfl ?_
    refine o_pickt gn rfl rfl hb7 rfl ?_
    refine wl_end ?_
    refine w_cond rfl (fun hb => ?_) fun hb => ?_
    · skip
      refine w_seq ?_
      refine w_region (by kernel_rfl) ?_
      refine o_sm [] gn rfl rfl (by kernel_rfl) (by kernel_rfl) sm6 rfl (knows (B.ext S.e0)) (.refl _) ag0 ?_
      refine o_assign gn rfl rfl ?_
      refine wl_end ?_
      refine w_ret ?_
      refine ⟨.inl rfl, _, rfl, ?_⟩
      exact rfl
    refine w_skip ?_
    refine w_seq ?_
    exact absurd hb (by decide)
  refine o_loadA (n := 8) (gy rfl rfl rfl hb7) rfl rfl (by kernel_rfl) (by kernel_rfl) (by first | exact S.cel 0 rfl | exact S.cel 1 rfl | exact S.cel 2 rfl) (by first | decide | exact Nat.le_refl _ | (simp; done)) ?_
  refine o_call [_] (gy rfl rfl rfl hb7) rfl rfl (by kernel_rfl) rfl (C.mono (c5 (X.ext S.e0)) ?_)
  rintro v g ⟨rfl, x⟩
  have S := S.grow x
  refine ⟨ag0, ?_⟩
  refine o_pickf gn rfl rfl hb7 rfl ?_
  refine wl_end ?_
  refine w_cond rfl (fun hb => ?_) fun hb => ?_
  · skip
    refine w_seq ?_
    refine w_region (by kernel_rfl) ?_
    refine o_sm [] gn rfl rfl (by kernel_rfl) (by kernel_rfl) sm6 rfl (knows (B.ext S.e0)) (.refl _) ag0 ?_
    refine o_assign gn rfl rfl ?_
    refine wl_end ?_
    refine w_ret ?_
    refine ⟨.inl rfl, _, rfl, ?_⟩
    exact rfl
  refine w_skip ?_
  refine w_seq ?_
  refine w_region (by kernel_rfl) ?_
  refine o_loadA (n := 8) gn rfl rfl (by kernel_rfl) (by kernel_rfl) (by first | exact S.cel 0 rfl | exact S.cel 1 rfl | exact S.cel 2 rfl) (by first | decide | exact Nat.le_refl _ | (simp; done)) ?_
  refine o_call [_] gn rfl rfl (by kernel_rfl) rfl (C.mono (c7 (X.ext S.e0) hb) ?_)
  rintro v g ⟨rfl, x⟩
  have S := S.grow x
  refine ⟨ag0, ?_⟩
  refine o_move gn rfl rfl ?_
  refine o_extract gn rfl rfl rfl ?_
  refine o_extract gn rfl rfl rfl ?_
  refine o_assign gn rfl rfl ?_
  refine o_assign gn rfl rfl ?_
  refine wl_end ?_
  refine w_seq ?_
  refine w_region (by kernel_rfl) ?_
  refine o_move gn rfl rfl ?_
  refine o_eqS gn rfl rfl rfl ?_
  refine o_move gn rfl rfl ?_
  refine o_and (n := 2) rfl rfl rfl gn rfl (fun hb => by
      refine o_move (gy rfl rfl rfl hb) rfl rfl ?_
      refine o_eqi (gy rfl rfl rfl hb) rfl rfl rfl ?_
      exact wl_end ⟨rfl, rfl, 2, rfl, rfl⟩) ?_
  refine o_move gn rfl rfl ?_
  refine wl_split (dc := 23) rfl (fun hb23 => ?_) fun hb23 => ?_
  · skip
    refine o_sm [] (gy rfl rfl rfl hb23) rfl rfl (by kernel_rfl) (by kernel_rfl) sm6 rfl (knows (B.ext S.e0)) (.refl _) ag0 ?_
    refine o_pickt gn rfl rfl hb23 rfl ?_
    refine o_assign gn rfl rfl ?_
    refine wl_end ?_
    refine w_ret ?_
    refine ⟨.inl rfl, _, rfl, ?_⟩
    exact rfl
  exact absurd hb23 (by rw [show eqS ⟨#[]⟩ ⟨#[]⟩ = true from by simp [eqS]]; decide)
end
end Go.Proofs.YtemdkcneolianaaGreatDoor

namespace Go.Proofs.YtemdkcneolianaaGreatDoor
open Go.ChangeShapes Go.WideShapes Go.ChangeAt Go.RowKit Go.Deep Go.X Go.May

set_option maxRecDepth 100000

theorem rep_bool : Tryz.prog.underlying 4 = some .bool := by kernel_rfl
theorem rep_own : ownKnob Tryz.prog.godebug = none := by kernel_rfl
theorem rep_laid : laidOutB Tryz.prog = true := by kernel_rfl
theorem rep_named : Tryz.prog.globalNamed "strings.asciiSpace" = some 0 := by kernel_rfl
theorem rep_type : (Tryz.prog.globals[0]?).map (·.type) = some 335 := by kernel_rfl
theorem rep_arr : Tryz.prog.underlying 335 = some (.array 256 5) := by kernel_rfl
theorem rep_u8 : Tryz.prog.underlying 5 = some (.int .u8) := by kernel_rfl
theorem rep_cell : Tryz.prog.cellsOf 5 = 1 := by kernel_rfl
theorem rep_cells : Tryz.prog.cellsOf 335 = 256 := by kernel_rfl

/-- strings.asciiSpace, as numbers -/
def spaceI : List Int := (List.range 256).map fun i => cond (Nat.beq i 32 || (Nat.ble 9 i && Nat.ble i 13)) 1 0
theorem spaceI_eq : spaceI.map (Value.int .u8) = spaces := by unfold spaceI spaces; rw [List.map_map]; apply List.map_congr_left; intro i _; simp only [Function.comp]
theorem blank_of {L : List (String × DataW Unit)} (hb : ((L.filter fun x => x.2.handleName?.isNone).filter fun x => x.1 == "strings.asciiSpace") = [("strings.asciiSpace", Lib.tabData .u8 spaceI)]) {W : World} (h : laidMetH Tryz.prog L W) : tabThere 0 spaces (Hp.all W) = true := by
  have h1 := (laidMetH_iff.1 h).1.filter fun x => x.1 == "strings.asciiSpace"
  rw [hb] at h1
  have hT : Lib.TabIs Tryz.prog W "strings.asciiSpace" .u8 spaceI := Lib.tabIs_of_head rep_named rep_type rep_arr rep_u8 rep_cell rep_cells (rest := []) h1
  obtain ⟨e, fr, hg⟩ := tab_block rep_named hT
  have hget : (Hp.all W).get 0 = some (.cells spaces e 1) := by
    rw [Hp.all_get, allObj, hg]
    simp only [Option.some.injEq, AObj.cells.injEq, and_true]
    rw [← spaceI_eq, List.map_map]
    refine List.map_congr_left fun n _ => ?_
    exact selfX_eq (.int _ _)
  have hs : tabThere 0 spaces (Hp.empty.put 0 (.cells spaces 0 1)) = true := by kernel_rfl
  unfold tabThere at *
  rw [hget]
  rw [Hp.get_put, if_pos rfl] at hs
  exact hs
theorem blk_of {L : List (String × DataW Unit)} (hb : ((L.filter fun x => x.2.handleName?.isNone).filter fun x => x.1 == "strings.asciiSpace") = [("strings.asciiSpace", Lib.tabData .u8 spaceI)]) {W : World} (h : laidMetH Tryz.prog L W) : Blk (Hp.all W) :=
  ⟨blank_of hb h, by have := topB_256 W; show 0 < topB W; omega⟩

theorem rep_ct : Tryz.prog.cellTypes Tryz.prog.depth 30 = some [22, 23, 24, 25, 26, 27, 3, 28] := by kernel_rfl
theorem rep_c30 : Tryz.prog.cellsOf 30 = 8 := by kernel_rfl
theorem rep_int : Tryz.prog.underlying 3 = some (.int .i64) := by kernel_rfl
noncomputable def fsA (s : Nat) : Array Field := match Tryz.prog.underlying s with | some (.struct fs) => fs | _ => #[]
theorem rep_ty : PrgTy Tryz.prog 30 22 23 62 24 249 25 38 36 42 26 65 63 27 68 28 46 3 2 39 9 4 40 60 [(22, 0), (23, 1), (24, 2), (25, 3), (26, 4), (27, 5), (3, 6), (28, 7)] [(9, 0), (22, 1), (60, 2)] [(9, 0), (3, 1), (3, 2), (36, 3)] [(39, 0), (3, 1), (3, 2), (3, 3), (2, 4), (40, 5), (3, 6), (3, 7)] [(9, 0), (3, 1), (63, 2)] [(9, 0), (3, 1), (4, 2), (3, 3)] [(3, 0), (3, 1)] where
  prg := ⟨⟨fsA 30, by kernel_rfl, by kernel_rfl⟩, by kernel_rfl⟩
  l1 := rfl
  cls := ⟨⟨fsA 62, by kernel_rfl, by kernel_rfl⟩, by kernel_rfl⟩
  l2 := rfl
  fn := ⟨⟨fsA 38, by kernel_rfl, by kernel_rfl⟩, by kernel_rfl⟩
  l3 := rfl
  ins := ⟨⟨fsA 42, by kernel_rfl, by kernel_rfl⟩, by kernel_rfl⟩
  l4 := rfl
  co := ⟨⟨fsA 65, by kernel_rfl, by kernel_rfl⟩, by kernel_rfl⟩
  l5 := rfl
  ev := ⟨⟨fsA 68, by kernel_rfl, by kernel_rfl⟩, by kernel_rfl⟩
  l6 := rfl
  si := ⟨⟨fsA 46, by kernel_rfl, by kernel_rfl⟩, by kernel_rfl⟩
  l7 := rfl
  uStrs := ⟨by kernel_rfl, by kernel_rfl⟩
  uCls := ⟨by kernel_rfl, by kernel_rfl⟩
  uGls := ⟨by kernel_rfl, by kernel_rfl⟩
  uFns := ⟨by kernel_rfl, by kernel_rfl⟩
  uCode := ⟨by kernel_rfl, by kernel_rfl⟩
  uCos := ⟨by kernel_rfl, by kernel_rfl⟩
  uEvs := ⟨by kernel_rfl, by kernel_rfl⟩
  uSis := ⟨by kernel_rfl, by kernel_rfl⟩
  uInts := ⟨by kernel_rfl, by kernel_rfl⟩
  uTys := ⟨⟨239, by kernel_rfl, by kernel_rfl⟩, by kernel_rfl⟩
  uArr := ⟨by kernel_rfl, by kernel_rfl⟩
  uInt := ⟨by kernel_rfl, by kernel_rfl⟩
  uI64 := ⟨by kernel_rfl, by kernel_rfl⟩
  uOp := ⟨by kernel_rfl, by kernel_rfl⟩
  uStr := ⟨by kernel_rfl, by kernel_rfl⟩
  uBool := ⟨by kernel_rfl, by kernel_rfl⟩
  bInt := by kernel_rfl
  gl := by kernel_rfl
section
variable {H : Type} {enc : TypeId × Value → H} {W : World} {r : Reach} {base : Nat} {v : Value}
theorem ok_int {t : TypeId} {k : IntKind} (ht : Tryz.prog.underlying t = some (.int k)) (h : Value.okWide Tryz.prog W r base t v) : ∃ k' n, v = .int k' n := by
  simp only [Value.okWide, ht, Cell.okWide] at h
  cases v <;> simp only [Cell.ok, ht] at h <;> first | exact h.elim | exact ⟨_, _, rfl⟩
theorem ok_sl {t e : TypeId} (ht : Tryz.prog.underlying t = some (.slice e)) (h : Value.okWide Tryz.prog W r base t v) : VRel (Mp.all W) v v ∧ refB v ≤ topB W := by
  rcases okSlice ht h with rfl | ⟨a, len, cap, rfl, hb⟩
  · exact ⟨.nils 0 0, by simp [refB]⟩
  refine ⟨all_slice (w := W) a len cap hb, ?_⟩
  have := topB_size W
  simp only [refB]; omega
/-- A program that is an argument. -/
theorem prog_arg {d : DataW H} {ps : List MemPlace} (hok : Value.okWide Tryz.prog W r base 30 v) (ht : DataW.Trod enc Tryz.prog W 0 (fun _ => true) true 30 v d ps) (hB : ∀ n, n ∈ d.weights Tryz.prog 30 → n ≤ 140737488351232) :
    ∃ P lo cl gl fu co ev si, v = prgV P lo cl gl fu co ev si ∧ VRel (Mp.all W) v v ∧ PrgAt (Hp.all W) P lo cl gl fu co ev si := by
  obtain ⟨fs, hst, _⟩ := rep_ty.prg.und
  simp only [Value.okWide, hst] at hok
  obtain ⟨cs, rfl, hsz, ts, hts, _, hc⟩ := hok
  rw [rep_ct, Option.some.injEq] at hts
  subst hts
  rw [rep_c30] at hsz
  obtain ⟨cs⟩ := cs
  match cs, hsz with
  | [f0, f1, f2, f3, f4, f5, f6, f7], _ =>
    obtain ⟨_, e0, h0⟩ := hc 0 f0 rfl
    obtain ⟨_, e1, h1⟩ := hc 1 f1 rfl
    obtain ⟨_, e2, h2⟩ := hc 2 f2 rfl
    obtain ⟨_, e3, h3⟩ := hc 3 f3 rfl
    obtain ⟨_, e4, h4⟩ := hc 4 f4 rfl
    obtain ⟨_, e5, h5⟩ := hc 5 f5 rfl
    obtain ⟨_, e6, h6⟩ := hc 6 f6 rfl
    obtain ⟨_, e7, h7⟩ := hc 7 f7 rfl
    simp at e0 e1 e2 e3 e4 e5 e6 e7
    subst e0; subst e1; subst e2; subst e3; subst e4; subst e5; subst e6; subst e7
    have q0 := ok_sl rep_ty.uStrs.1 (v := f0) (by simp only [Value.okWide, rep_ty.uStrs.1]; exact h0)
    have q1 := ok_sl rep_ty.uCls.1 (v := f1) (by simp only [Value.okWide, rep_ty.uCls.1]; exact h1)
    have q2 := ok_sl rep_ty.uGls.1 (v := f2) (by simp only [Value.okWide, rep_ty.uGls.1]; exact h2)
    have q3 := ok_sl rep_ty.uFns.1 (v := f3) (by simp only [Value.okWide, rep_ty.uFns.1]; exact h3)
    have q4 := ok_sl rep_ty.uCos.1 (v := f4) (by simp only [Value.okWide, rep_ty.uCos.1]; exact h4)
    have q5 := ok_sl rep_ty.uEvs.1 (v := f5) (by simp only [Value.okWide, rep_ty.uEvs.1]; exact h5)
    have q7 := ok_sl rep_ty.uSis.1 (v := f7) (by simp only [Value.okWide, rep_ty.uSis.1]; exact h7)
    obtain ⟨k6, n6, rfl⟩ := ok_int rep_int (v := f6) (by simp only [Value.okWide, rep_int]; exact h6)
    have hv : VsRel (Mp.all W) [f0, f1, f2, f3, f4, f5, .int k6 n6, f7] [f0, f1, f2, f3, f4, f5, .int k6 n6, f7] :=
      .cons q0.1 (.cons q1.1 (.cons q2.1 (.cons q3.1 (.cons q4.1 (.cons q5.1 (.cons (.int _ _) (.cons q7.1 (.nil _))))))))
    obtain ⟨fuel, hf⟩ := ht
    have hcl : (Value.agg #[f0, f1, f2, f3, f4, f5, .int k6 n6, f7]).cells.toList = [f0, f1, f2, f3, f4, f5, .int k6 n6, f7] := rfl
    have hf : DataW.trod enc Tryz.prog W 0 (fun _ => true) true fuel 30 [f0, f1, f2, f3, f4, f5, .int k6 n6, f7] = some (d, ps) := hf
    have href : ∀ v, v ∈ [f0, f1, f2, f3, f4, f5, .int k6 n6, f7] → refB v ≤ topB W := fun v hm => by
      simp only [List.mem_cons, List.not_mem_nil, or_false] at hm
      rcases hm with rfl | rfl | rfl | rfl | rfl | rfl | rfl | rfl
      · exact q0.2
      · exact q1.2
      · exact q2.2
      · exact q3.2
      · exact q4.2
      · exact q5.2
      · simp [refB]
      exact q7.2
    have hself : ([f0, f1, f2, f3, f4, f5, .int k6 n6, f7] : List Value).map (selfX (Mp.all W)) = [f0, f1, f2, f3, f4, f5, .int k6 n6, f7] := by
      simp only [List.map_cons, List.map_nil, selfX_eq q0.1, selfX_eq q1.1, selfX_eq q2.1, selfX_eq q3.1, selfX_eq q4.1, selfX_eq q5.1, selfX_eq q7.1, selfX_eq (.int k6 n6 : VRel (Mp.all W) (.int k6 n6) (.int k6 n6))]
    have hr := rd_of_trod fuel 30 _ _ href hf
    have hz := sz_of_trod (B := 140737488351232) fuel 30 _ _ href hB hf
    rw [hself] at hr hz
    obtain ⟨P, lo, cl, gl, fu, co, ev, si, ee, X⟩ := rep_ty.rd ⟨hr, hz⟩
    simp only [prgC, List.cons.injEq, and_true] at ee
    obtain ⟨rfl, rfl, rfl, rfl, rfl, rfl, e6, rfl⟩ := ee
    exact ⟨P, _, _, _, _, _, _, _, by rw [e6], .agg' hv, X⟩
end
end Go.Proofs.YtemdkcneolianaaGreatDoor
