/- Chapter 12: the document's Of, Text, Same. Conditions: short texts; entries in their range. Chapter 12: the chapter's row; what a text is read as; a script's text. Conditions: the library's variables; entries in their range. Chapter 12: the library's variables, and rows of entries that are arguments, as X has them. Conditions: none. -/
import Derived.Test.YtdgemlcdhobejaaGreatDoorLa
import Derived.Test.YtdgemlcdhobejaaGreatDoorXc
import Derived.Test.YtdgemlcdhobejaaGreatDoorXe
import Derived.Test.YtdgemlcdhobejaaGreatDoorTie
import Derived.Test.YtdgemlcdhobejaaGreatDoorCards
import Derived.SevenTiedAt
import Derived.LaidMore
import Derived.LaidHandle
import Derived.HandedShaped
import Derived.Shelf.Vars
import Derived.ProofKit
namespace Go.Proofs.YtdgemlcdhobejaaGreatDoor
open Go.X Go.Scr

theorem cut_at3 {l : List UInt8} {fr m : Nat} (h1 : fr ≤ m) (h2 : m ≤ l.length) : l.take fr ++ ((l.take m).drop fr ++ l.drop m) = l := by
  rw [← List.drop_append_of_le_length (by rw [List.length_take]; omega), List.take_append_drop, List.take_append_drop]
theorem take_cut {l : List UInt8} {fr m : Nat} (h1 : fr ≤ m) : l.take fr ++ (l.take m).drop fr = l.take m := by
  have := List.take_append_drop fr (l.take m)
  rw [List.take_take, Nat.min_eq_left h1] at this; exact this
noncomputable def fs27 : Array Field := match scpE.und 27 with | some (.struct fs) => fs | _ => #[]
theorem und27 : scpE.und 27 = some (.struct fs27) := by kernel_rfl
theorem len27 : fs27.toList.length = 3 := by kernel_rfl
theorem row27 : fs27.toList = [fs27.toList[0]'(by rw [len27]; omega), fs27.toList[1]'(by rw [len27]; omega), fs27.toList[2]'(by rw [len27]; omega)] := by kernel_rfl
theorem eq27 {h : Hp} (a b : En) : structEq scpE h #[iV a.K, iV a.At, iV a.N] #[iV b.K, iV b.At, iV b.N] fs27.toList = some (decide (a.K = b.K) && (decide (a.At = b.At) && (decide (a.N = b.N) && true))) := by
  rw [row27]
  exact structEq_cons (u := iV a.K) (w := iV b.K) (by kernel_rfl) (by kernel_rfl) (by kernel_rfl) (by kernel_rfl) (structEq_cons (u := iV a.At) (w := iV b.At) (by kernel_rfl) (by kernel_rfl) (by kernel_rfl) (by kernel_rfl) (structEq_cons (u := iV a.N) (w := iV b.N) (by kernel_rfl) (by kernel_rfl) (by kernel_rfl) (by kernel_rfl) rfl))
instance decEn : DecidableEq En := fun a b => decidable_of_iff (a.K = b.K ∧ a.At = b.At ∧ a.N = b.N) ⟨fun ⟨h1, h2, h3⟩ => En.same h1 h2 h3, fun e => by subst e; exact ⟨rfl, rfl, rfl⟩⟩
theorem en_eq (a b : En) : (decide (a.K = b.K) && (decide (a.At = b.At) && (decide (a.N = b.N) && true))) = decide (a = b) := by
  rw [Bool.eq_iff_iff]
  simp only [Bool.and_eq_true, decide_eq_true_eq, and_true]
  exact ⟨fun ⟨h1, h2, h3⟩ => En.same h1 h2 h3, fun e => by subst e; exact ⟨rfl, rfl, rfl⟩⟩
theorem neq27 {h : Hp} {x x' : Operand} (a b : En) : binX scpE h .neq 27 x x' (.agg (enC a).toArray) (.agg (enC b).toArray) = some (.bool (!decide (a = b))) := by
  rw [← en_eq]
  exact binA_neq und27 (by kernel_rfl) (eq27 a b)

section
variable {h : Hp} {s : ByteArray}
set_option maxHeartbeats 1000000 in
/-- Of -/
theorem c12 (hs : s.size ≤ 10000) : C scpE 12 [.string s] h fun v h' => OfAt h' s.toList v ∧ Ext h h' := by
  refine c_enter (fu := Tryz.f12) (by kernel_rfl) rfl ?_
  have S := SH.start h
  refine w_seq ?_
  refine w_region (by kernel_rfl) ?_
  refine o_assign gn rfl rfl ?_
  refine o_assign gn rfl rfl ?_
  refine wl_end ?_
  refine w_seq ?_
  refine w_region (by kernel_rfl) ?_
  refine o_assign gn rfl rfl ?_
  refine wl_end ?_
  refine w_seq ?_
  refine w_region (by kernel_rfl) ?_
  refine o_assign gn rfl rfl ?_
  refine wl_end ?_
  refine w_seq ?_
  refine w_seq ?_
  refine w_region (by kernel_rfl) ?_
  refine o_assign gn rfl rfl ?_
  refine wl_end ?_
  refine w_block ?_
  refine w_loopS [(4, _), (5, _), (6, _)] [(0, _)] (by repeat (first | exact trivial | refine ⟨rfl, ?_⟩)) (fun kk lv hh => ∃ (i fr : Nat) (L : List En) (v : Value) (bs : List Nat), lv = [(4, v), (5, iV fr), (6, iV i)] ∧ kk = s.size - i ∧ i ≤ s.size ∧ fr ≤ i ∧ SH h [] [slR 27 2 v (enCs L) L.length bs] hh ∧ AllE L ∧ linesE L = s.toList.take fr ∧ (10 : UInt8) ∉ (s.toList.take i).drop fr) (n := (s.size)) ?_ fun kk lv hh hI => ?_
  · exact ⟨0, 0, [], .slice none 0 0, [], rfl, rfl, by omega, Nat.le_refl _, S.nilSl 27 2, fun _ hm => absurd hm (by simp), rfl, by simp⟩
  obtain ⟨i, fr, L, v, bs, rfl, rfl, hi, hfr, S, hL, hls, hno⟩ := hI
  refine w_seq ?_
  refine w_seq ?_
  refine w_region (by kernel_rfl) ?_
  refine o_move gn rfl rfl ?_
  refine o_move gn rfl rfl ?_
  refine o_lenstr gn rfl rfl (by kernel_rfl) ?_
  refine o_lss gn rfl rfl rfl ?_
  refine wl_end ?_
  refine w_cond rfl (fun hb => ?_) fun hb => ?_
  · skip
    have hil : i < s.size := by simp at hb; omega
    have htk := take_bA hil
    have hz1 : L.length ≤ 10000 := by
      have := congrArg List.length hls
      have h2 := lines_len L
      rw [List.length_take] at this; omega
    have hsl := size_toList s
    have hcut := cut_at3 (l := s.toList) (fr := fr) (m := i + 1) (by omega) (by omega)
    refine w_skip ?_
    refine w_seq ?_
    refine w_block ?_
    refine w_seq ?_
    refine w_seq ?_
    refine w_region (by kernel_rfl) ?_
    refine o_move gn rfl rfl ?_
    refine o_move gn rfl rfl ?_
    refine o_indexS gn rfl rfl rfl (by kernel_rfl) (by omega) (bA_get hil) ?_
    refine o_nei gn rfl rfl rfl ?_
    refine wl_end ?_
    refine w_cond rfl (fun hb => ?_) fun hb => ?_
    · skip
      refine w_exit ?_
      refine thn_exit ?_
      refine blk_eq ?_
      refine w_region (by kernel_rfl) ?_
      refine o_move gn rfl rfl ?_
      refine o_add gn rfl rfl rfl (by omega) (by omega) ?_
      refine o_assign gn rfl rfl ?_
      refine wl_end ?_
      exact rndS (s.size - (i + 1)) (by omega) [(4, _), (5, _), (6, _)] (by repeat (first | exact trivial | refine ⟨rfl, ?_⟩)) ⟨i + 1, fr, L, v, bs, rfl, rfl, by omega, by omega, S, hL, hls, by
        rw [htk, List.drop_append_of_le_length (by rw [List.length_take]; omega)]
        intro hm
        rcases List.mem_append.1 hm with hm | hm
        · exact hno hm
        rw [List.mem_singleton] at hm
        rw [← hm] at hb
        exact absurd hb (by decide)⟩
    refine w_skip ?_
    have h10 : bA s i = 10 := UInt8.toNat_inj.1 (by have e2 : (10 : UInt8).toNat = 10 := rfl; simp at hb; omega)
    have hpp : (s.toList.take (i + 1)).drop fr = (s.toList.take i).drop fr ++ [10] := by
      rw [htk, List.drop_append_of_le_length (by rw [List.length_take]; omega), h10]
    refine w_seq ?_
    refine w_region (by kernel_rfl) ?_
    refine o_move gn rfl rfl ?_
    refine o_move gn rfl rfl ?_
    refine o_move gn rfl rfl ?_
    refine o_add gn rfl rfl rfl (by omega) (by omega) ?_
    refine o_sliceS (i := fr) (j := i + 1) gn rfl rfl rfl rfl (by kernel_rfl) (by omega) (by omega) ?_
    refine o_call [_] gn rfl rfl (by kernel_rfl) rfl (C.mono (c20 (p := (s.toList.take i).drop fr) (by rw [extract_tl]; exact hpp) hno (by rw [size_toList, extract_tl, List.length_drop, List.length_take]; omega)) ?_)
    rintro v g ⟨rfl, x⟩
    have S := S.grow x
    refine ⟨ag0, ?_⟩
    refine o_move gn rfl rfl ?_
    refine o_extract gn rfl rfl rfl ?_
    refine o_extract gn rfl rfl rfl ?_
    refine s_alloc (zv := .agg #[.int .i64 0, .int .i64 0, .int .i64 0]) S gn rfl (by kernel_rfl) fun b1 g nb1 S => ?_
    first | refine s_storeA (n := 3) 0 S gn rfl rfl (by kernel_rfl) (by kernel_rfl) rfl rfl (by decide) rfl (fun g S => ag0) fun g S => ?_ | refine s_storeA (n := 3) 1 S gn rfl rfl (by kernel_rfl) (by kernel_rfl) rfl rfl (by decide) rfl (fun g S => ag0) fun g S => ?_ | refine s_storeA (n := 3) 2 S gn rfl rfl (by kernel_rfl) (by kernel_rfl) rfl rfl (by decide) rfl (fun g S => ag0) fun g S => ?_
    refine o_assign gn rfl rfl ?_
    refine wl_end ?_
    refine w_seq ?_
    refine w_seq ?_
    refine w_region (by kernel_rfl) ?_
    refine o_move gn rfl rfl ?_
    refine o_not gn rfl rfl ?_
    refine wl_end ?_
    refine w_cond rfl (fun hb => ?_) fun hb => ?_
    · skip
      refine w_seq ?_
      refine w_region (by kernel_rfl) ?_
      refine o_assign gn rfl rfl ?_
      refine o_assign gn rfl rfl ?_
      refine wl_end ?_
      refine w_ret ?_
      refine ⟨.inl rfl, _, rfl, ?_⟩
      exact ⟨⟨_, [], 12, rfl, .inl ⟨rfl, none, 0, rfl⟩, .inr ⟨rfl, rfl, fun M hM e => by
        rw [← hcut, ← hls, hpp, List.append_assoc] at e
        obtain ⟨x, M', rfl, hx, _⟩ := lines_next hL hM hno e.symm
        have hx2 := hM x (by simp)
        have hr := (one_is hx2.1 hx2.2).2
        rw [hx] at hr
        rw [hr] at hb
        cases hb⟩⟩, S.e0⟩
    refine w_skip ?_
    refine w_seq ?_
    refine w_region (by kernel_rfl) ?_
    have hfit : fitsD ((s.toList.take i).drop fr) = true := by simpa using hb
    refine o_move gn rfl rfl ?_
    refine o_loadA (n := 3) gn rfl rfl (by kernel_rfl) (by kernel_rfl) (by first | exact S.cel 0 rfl | exact S.cel 1 rfl | exact S.cel 2 rfl) (by first | decide | exact Nat.le_refl _ | (simp; done)) ?_
    refine s_buildSlice (e := 27) (z := 2) (zv := .agg #[.int .i64 0, .int .i64 0, .int .i64 0]) [(0, _)] S gn rfl (by kernel_rfl) (by kernel_rfl) (by kernel_rfl) (by kernel_rfl) rfl (by rfl) fun b2 g nb2 S => ?_
    refine s_append (e := 27) (z := 2) (by' := 23) 2 0 S el22 gn rfl rfl rfl rfl rfl rfl (by rfl) (by omega) (fun s' bs' g S => ag0) fun s' bs' g S => ?_
    refine o_assign gn rfl rfl ?_
    refine wl_end ?_
    refine w_region (by kernel_rfl) ?_
    refine o_move gn rfl rfl ?_
    refine o_add gn rfl rfl rfl (by omega) (by omega) ?_
    refine o_assign gn rfl rfl ?_
    refine wl_end ?_
    refine w_region (by kernel_rfl) ?_
    refine o_move gn rfl rfl ?_
    refine o_add gn rfl rfl rfl (by omega) (by omega) ?_
    refine o_assign gn rfl rfl ?_
    refine wl_end ?_
    exact rndS (s.size - (i + 1)) (by omega) [(4, _), (5, _), (6, _)] (by repeat (first | exact trivial | refine ⟨rfl, ?_⟩)) ⟨i + 1, i + 1, L ++ [oneE ((s.toList.take i).drop fr)], s', bs', rfl, rfl, by omega, Nat.le_refl _, by rw [List.length_append, ← enCs_add]; exact S.drop.drop, by
      intro e he
      rcases List.mem_append.1 he with he | he
      · exact hL e he
      · rw [List.mem_singleton] at he; subst he
        exact ⟨(fitsD_is hfit).1, (fitsD_is hfit).2.1⟩, by
      have e1 : linesE [oneE ((s.toList.take i).drop fr)] = (s.toList.take i).drop fr ++ [10] := by
        rw [lines_cons, (fitsD_is hfit).2.2]; rfl
      rw [lines_app, e1, hls, ← hpp]
      exact take_cut (by omega), by
      rw [List.drop_of_length_le (by rw [List.length_take]; omega)]; simp⟩
  refine w_exit ?_
  refine thn_exit ?_
  refine rnd_exit ?_
  refine blk_eq ?_
  refine w_seq ?_
  refine w_seq ?_
  refine w_region (by kernel_rfl) ?_
  obtain rfl : i = s.size := by simp at hb; omega
  have hsl := size_toList s
  have htk : s.toList.take s.size = s.toList := List.take_of_length_le (by omega)
  rw [htk] at hno
  refine o_move gn rfl rfl ?_
  refine o_move gn rfl rfl ?_
  refine o_lenstr gn rfl rfl (by kernel_rfl) ?_
  refine o_lss gn rfl rfl rfl ?_
  refine wl_end ?_
  refine w_cond rfl (fun hb => ?_) fun hb => ?_
  · skip
    refine w_seq ?_
    refine w_region (by kernel_rfl) ?_
    refine o_assign gn rfl rfl ?_
    refine o_assign gn rfl rfl ?_
    refine wl_end ?_
    refine w_ret ?_
    refine ⟨.inl rfl, _, rfl, ?_⟩
    exact ⟨⟨_, [], 12, rfl, .inl ⟨rfl, none, 0, rfl⟩, .inr ⟨rfl, rfl, fun M hM e => by
      rw [← List.take_append_drop fr s.toList, ← hls] at e
      refine lines_last hL hM hno (fun e0 => ?_) e.symm
      have := congrArg List.length e0
      rw [List.length_drop, List.length_nil] at this
      simp at hb; omega⟩⟩, S.e0⟩
  refine w_skip ?_
  refine w_seq ?_
  refine w_region (by kernel_rfl) ?_
  refine o_move gn rfl rfl ?_
  refine o_assign gn rfl rfl ?_
  refine o_assign gn rfl rfl ?_
  refine wl_end ?_
  refine w_ret ?_
  refine ⟨.inl rfl, _, rfl, ?_⟩
  exact ⟨⟨_, L, 0, rfl, SlC.en (S.sl 0 rfl), .inl ⟨rfl, hL, by
    have e1 : fr = s.size := by simp at hb; omega
    rw [hls, e1, htk]⟩⟩, S.e0⟩
end
section
variable {h : Hp} {v w : Value} {l m : List En}
/-- Text -/
theorem c9 (X : EnAt h v l) (hl : l.length ≤ 100000) (hi : ∀ e, e ∈ l → inE e) : C scpE 9 [v] h fun v h' => (∃ B, v = .string B ∧ B.toList = if l.all mayE = true then linesE l else []) ∧ Ext h h' := by
  have Y := X
  obtain ⟨ta, tc, rfl⟩ := X.val
  refine c_enter (fu := Tryz.f9) (by kernel_rfl) rfl ?_
  have S := SH.start h
  refine w_seq ?_
  refine w_region (by kernel_rfl) ?_
  refine o_assign gn rfl rfl ?_
  refine wl_end ?_
  refine w_seq ?_
  refine w_region (by kernel_rfl) ?_
  refine o_assign gn rfl rfl ?_
  refine wl_end ?_
  refine w_seq ?_
  refine w_seq ?_
  refine w_region (by kernel_rfl) ?_
  refine o_assign gn rfl rfl ?_
  refine wl_end ?_
  refine w_block ?_
  refine w_loopS [(3, _), (4, _)] [(0, _)] (by repeat (first | exact trivial | refine ⟨rfl, ?_⟩)) (fun kk lv hh => ∃ (i : Nat) (B : ByteArray), lv = [(3, .string B), (4, iV i)] ∧ kk = l.length - i ∧ i ≤ l.length ∧ SH h [] [] hh ∧ B.toList = linesE (l.take i) ∧ (l.take i).all mayE = true) (n := (l.length)) ?_ fun kk lv hh hI => ?_
  · exact ⟨0, ⟨#[]⟩, rfl, rfl, by omega, S, tl_lit [], rfl⟩
  obtain ⟨i, B, rfl, rfl, hi3, S, hB, hall⟩ := hI
  refine w_seq ?_
  refine w_seq ?_
  refine w_region (by kernel_rfl) ?_
  refine o_move gn rfl rfl ?_
  refine o_move gn rfl rfl ?_
  refine o_len gn rfl rfl (by kernel_rfl) ?_
  refine o_lss gn rfl rfl rfl ?_
  refine wl_end ?_
  refine w_cond rfl (fun hb => ?_) fun hb => ?_
  · skip
    refine w_skip ?_
    have hil : i < l.length := by simp at hb; omega
    obtain ⟨b, o, c, cs, e, m, hv, hg, hlb, hl6, hat⟩ := Y.at (by omega)
    have hta : ta = some ⟨b, o, none⟩ := by injection hv
    have hw : (cs.drop (o + Int.toNat (i : Int) * 3)).take 3 = enC l[i] := by rw [Int.toNat_natCast]; exact hat i hil
    have hie := hi _ (List.getElem_mem hil)
    have hz1 := line_le hie
    have hz2 := lines_le (l := l.take i) fun x hx => hi x (List.mem_of_mem_take hx)
    rw [List.length_take, ← hB, ← size_toList] at hz2
    refine w_seq ?_
    refine w_block ?_
    refine w_seq ?_
    refine w_seq ?_
    refine w_region (by kernel_rfl) ?_
    refine o_move gn rfl rfl ?_
    refine o_move gn rfl rfl ?_
    rw [hta]
    refine o_indexAddr (zz := 3) gn rfl rfl rfl (by kernel_rfl) (by omega) (by omega) ?_
    refine o_loadA (n := 3) gn rfl rfl (by kernel_rfl) (by kernel_rfl) (S.old0 hg hlb) (by rw [Int.toNat_natCast]; omega) ?_
    rw [hw, ← hta]
    refine o_call [_] gn rfl rfl (by kernel_rfl) rfl (C.mono (c7 (e := l[i])) ?_)
    rintro v g ⟨rfl, x⟩
    have S := S.grow x
    refine ⟨ag0, ?_⟩
    refine o_not gn rfl rfl ?_
    refine wl_end ?_
    refine w_cond rfl (fun hb => ?_) fun hb => ?_
    · skip
      refine w_seq ?_
      refine w_region (by kernel_rfl) ?_
      refine o_assign gn rfl rfl ?_
      refine wl_end ?_
      refine w_ret ?_
      refine ⟨.inl rfl, _, rfl, ?_⟩
      exact ⟨⟨_, rfl, by
        have hno : ¬ l.all mayE = true := fun h => by
          have := List.all_eq_true.1 h _ (List.getElem_mem hil)
          rw [this] at hb; simp at hb
        rw [if_neg hno]; exact tl_lit _⟩, S.e0⟩
    refine w_skip ?_
    refine w_region (by kernel_rfl) ?_
    have hmi : mayE l[i] = true := by simpa using hb
    refine o_move gn rfl rfl ?_
    refine o_move gn rfl rfl ?_
    refine o_move gn rfl rfl ?_
    rw [hta]
    refine o_indexAddr (zz := 3) gn rfl rfl rfl (by kernel_rfl) (by omega) (by omega) ?_
    refine o_loadA (n := 3) gn rfl rfl (by kernel_rfl) (by kernel_rfl) (S.old0 hg hlb) (by rw [Int.toNat_natCast]; omega) ?_
    rw [hw, ← hta]
    refine o_call [_] gn rfl rfl (by kernel_rfl) rfl (C.mono (c17 (e := l[i]) hie hmi) ?_)
    rintro v g ⟨⟨B2, rfl, hB2⟩, x⟩
    have S := S.grow x
    refine ⟨ag0, ?_⟩
    refine o_addS gn rfl rfl rfl (by
  have := size_toList B2
  rw [hB2] at this; omega) ?_
    refine o_assign gn rfl rfl ?_
    refine wl_end ?_
    refine w_region (by kernel_rfl) ?_
    refine o_move gn rfl rfl ?_
    refine o_add gn rfl rfl rfl (by omega) (by omega) ?_
    refine o_assign gn rfl rfl ?_
    refine wl_end ?_
    exact rndS (l.length - (i + 1)) (by omega) [(3, _), (4, _)] (by repeat (first | exact trivial | refine ⟨rfl, ?_⟩)) ⟨i + 1, B ++ B2, rfl, rfl, by omega, S, by rw [tl_app, hB, hB2, lines_take hil], by
      rw [List.take_add_one, List.getElem?_eq_getElem hil, List.all_append, hall]
      simp [hmi]⟩
  refine w_exit ?_
  refine thn_exit ?_
  refine rnd_exit ?_
  refine blk_eq ?_
  refine w_seq ?_
  have hil : i = l.length := by simp at hb; omega
  subst hil
  rw [List.take_length] at hall hB
  refine w_region (by kernel_rfl) ?_
  refine o_move gn rfl rfl ?_
  refine o_assign gn rfl rfl ?_
  refine wl_end ?_
  refine w_ret ?_
  refine ⟨.inl rfl, _, rfl, ?_⟩
  exact ⟨⟨_, rfl, by rw [if_pos hall]; exact hB⟩, S.e0⟩
theorem en_ext {l m : List En} (hl : l.length = m.length) (h : ∀ i (h1 : i < l.length) (h2 : i < m.length), l[i] = m[i]) : l = m := List.ext_getElem hl h
set_option maxHeartbeats 1000000 in
/-- Same -/
theorem c11 (X : EnAt h v l) (Z : EnAt h w m) (hl : l.length ≤ 100000) (hm : m.length ≤ 100000) : C scpE 11 [v, w] h fun v h' => v = .bool (decide (l = m)) ∧ Ext h h' := by
  have Y := X
  obtain ⟨ta, tc, rfl⟩ := X.val
  have Y2 := Z
  obtain ⟨ua, uc, rfl⟩ := Z.val
  refine c_enter (fu := Tryz.f11) (by kernel_rfl) rfl ?_
  have S := SH.start h
  refine w_seq ?_
  refine w_region (by kernel_rfl) ?_
  refine o_assign gn rfl rfl ?_
  refine wl_end ?_
  refine w_seq ?_
  refine w_seq ?_
  refine w_region (by kernel_rfl) ?_
  refine o_move gn rfl rfl ?_
  refine o_len gn rfl rfl (by kernel_rfl) ?_
  refine o_move gn rfl rfl ?_
  refine o_len gn rfl rfl (by kernel_rfl) ?_
  refine o_nei gn rfl rfl rfl ?_
  refine wl_end ?_
  refine w_cond rfl (fun hb => ?_) fun hb => ?_
  · skip
    refine w_seq ?_
    refine w_region (by kernel_rfl) ?_
    refine o_assign gn rfl rfl ?_
    refine wl_end ?_
    refine w_ret ?_
    refine ⟨.inl rfl, _, rfl, ?_⟩
    exact ⟨by
      have hne : l ≠ m := fun e => by rw [e] at hb; simp at hb
      rw [decide_eq_false hne]; rfl, S.e0⟩
  refine w_skip ?_
  have hlm : l.length = m.length := by simp at hb; omega
  refine w_seq ?_
  refine w_seq ?_
  refine w_region (by kernel_rfl) ?_
  refine o_assign gn rfl rfl ?_
  refine wl_end ?_
  refine w_block ?_
  refine w_loopS [(5, _)] [(0, _), (1, _)] (by repeat (first | exact trivial | refine ⟨rfl, ?_⟩)) (fun kk lv hh => ∃ i : Nat, lv = [(5, iV i)] ∧ kk = l.length - i ∧ i ≤ l.length ∧ SH h [] [] hh ∧ ∀ j (h1 : j < l.length) (h2 : j < m.length), j < i → l[j] = m[j]) (n := (l.length)) ?_ fun kk lv hh hI => ?_
  · exact ⟨0, rfl, rfl, by omega, S, fun j _ _ h3 => by omega⟩
  obtain ⟨i, rfl, rfl, hi3, S, hall⟩ := hI
  refine w_seq ?_
  refine w_seq ?_
  refine w_region (by kernel_rfl) ?_
  refine o_move gn rfl rfl ?_
  refine o_move gn rfl rfl ?_
  refine o_len gn rfl rfl (by kernel_rfl) ?_
  refine o_lss gn rfl rfl rfl ?_
  refine wl_end ?_
  refine w_cond rfl (fun hb => ?_) fun hb => ?_
  · skip
    refine w_skip ?_
    have hil : i < l.length := by simp at hb; omega
    have him : i < m.length := by omega
    obtain ⟨b, o, c, cs, e, q, hv, hg, hlb, hl6, hat⟩ := Y.at (by omega)
    have hta : ta = some ⟨b, o, none⟩ := by injection hv
    have hw : (cs.drop (o + Int.toNat (i : Int) * 3)).take 3 = enC l[i] := by rw [Int.toNat_natCast]; exact hat i hil
    obtain ⟨b2, o2, c2, cs2, e2, q2, hv2, hg2, hlb2, hl62, hat2⟩ := Y2.at (by omega)
    have hua : ua = some ⟨b2, o2, none⟩ := by injection hv2
    have hw2 : (cs2.drop (o2 + Int.toNat (i : Int) * 3)).take 3 = enC m[i] := by rw [Int.toNat_natCast]; exact hat2 i him
    refine w_seq ?_
    refine w_block ?_
    refine w_seq ?_
    refine w_draw [(0, []), (1, []), (2, []), (3, []), (4, []), (5, []), (6, []), (7, []), (8, [])] (by kernel_rfl) (by kernel_rfl) (by kernel_rfl) (by kernel_rfl) ?_
    refine o_move gn rfl rfl ?_
    refine o_move gn rfl rfl ?_
    rw [hta]
    refine o_indexAddr (zz := 3) gn rfl rfl rfl (by kernel_rfl) (by omega) (by omega) ?_
    refine o_loadA (n := 3) gn rfl rfl (by kernel_rfl) (by kernel_rfl) (S.old0 hg hlb) (by rw [Int.toNat_natCast]; omega) ?_
    rw [hw, ← hta]
    refine o_move gn rfl rfl ?_
    refine o_move gn rfl rfl ?_
    rw [hua]
    refine o_indexAddr (zz := 3) gn rfl rfl rfl (by kernel_rfl) (by omega) (by omega) ?_
    refine o_loadA (n := 3) gn rfl rfl (by kernel_rfl) (by kernel_rfl) (S.old0 hg2 hlb2) (by rw [Int.toNat_natCast]; omega) ?_
    rw [hw2, ← hua]
    refine o_bin gn rfl rfl rfl (neq27 l[i] m[i]) ?_
    refine wl_end ?_
    refine w_cond rfl (fun hb => ?_) fun hb => ?_
    · skip
      refine w_seq ?_
      refine w_region (by kernel_rfl) ?_
      refine o_assign gn rfl rfl ?_
      refine wl_end ?_
      refine w_ret ?_
      refine ⟨.inl rfl, _, rfl, ?_⟩
      exact ⟨by
        have hne : l ≠ m := fun e => by subst e; simp at hb
        rw [decide_eq_false hne]; rfl, S.e0⟩
    refine w_skip ?_
    refine w_region (by kernel_rfl) ?_
    refine o_move gn rfl rfl ?_
    refine o_add gn rfl rfl rfl (by omega) (by omega) ?_
    refine o_assign gn rfl rfl ?_
    refine wl_end ?_
    exact rndS (l.length - (i + 1)) (by omega) [(5, _)] (by repeat (first | exact trivial | refine ⟨rfl, ?_⟩)) ⟨i + 1, rfl, rfl, by omega, S, fun j h1 h2 h3 => by
      by_cases e : j = i
      · subst e; simpa using hb
      exact hall j h1 h2 (by omega)⟩
  refine w_exit ?_
  refine thn_exit ?_
  refine rnd_exit ?_
  refine blk_eq ?_
  refine w_seq ?_
  refine w_region (by kernel_rfl) ?_
  refine o_assign gn rfl rfl ?_
  refine wl_end ?_
  refine w_ret ?_
  refine ⟨.inl rfl, _, rfl, ?_⟩
  exact ⟨by
    have hil : i = l.length := by simp at hb; omega
    have he : l = m := en_ext hlm fun j h1 h2 => hall j h1 h2 (by omega)
    rw [decide_eq_true he]; rfl, S.e0⟩
end
end Go.Proofs.YtdgemlcdhobejaaGreatDoor

namespace Go.Proofs.YtdgemlcdhobejaaGreatDoor
open Go.X Go.Scr

theorem known_tl : linesE [⟨1, 0, 0⟩, ⟨3, 0, 5⟩, ⟨4, 1, -7⟩] = [114, 117, 110, 32, 48, 10, 116, 105, 99, 107, 32, 53, 10, 105, 110, 106, 101, 99, 116, 32, 49, 32, 45, 55, 10] := by
  have i0 : Lib.itoa 0 = [48] := by rw [Lib.itoa, if_neg (by omega), Lib.decDigits, dif_pos (by decide)]; rfl
  have i1 : Lib.itoa 1 = [49] := by rw [Lib.itoa, if_neg (by omega), Lib.decDigits, dif_pos (by decide)]; rfl
  have i5 : Lib.itoa 5 = [53] := by rw [Lib.itoa, if_neg (by omega), Lib.decDigits, dif_pos (by decide)]; rfl
  have i7 : Lib.itoa (-7) = [45, 55] := by rw [Lib.itoa, if_pos (by omega), Lib.decDigits, dif_pos (by decide)]; rfl
  simp only [linesE, lineE, bodyE, List.flatMap_cons, List.flatMap_nil, i0, i1, i5, i7]
  rfl
theorem known_may : [⟨1, 0, 0⟩, ⟨3, 0, 5⟩, ⟨4, 1, -7⟩].all mayE = true := by decide
theorem all_take {l : List En} {i : Nat} (hi : i < l.length) : (l.take (i + 1)).all mayE = ((l.take i).all mayE && mayE l[i]) := by
  rw [List.take_add_one, List.getElem?_eq_getElem hi, List.all_append]
  simp
theorem sameE2 (e : En) : sameV 20 (.agg (enC e).toArray) (.agg (enC e).toArray) = true := by
  simp [sameV, sameV.sameL]
  rfl

section
variable {h : Hp}
/-- known -/
theorem c5 (P : Pow h) : C scpE 5 [] h fun v h' => v = .bool true ∧ Ext h h' := by
  refine c_enter (fu := Tryz.f5) (by kernel_rfl) rfl ?_
  have S := SH.start h
  refine w_seq ?_
  refine w_region (by kernel_rfl) ?_
  refine o_assign gn rfl rfl ?_
  refine wl_end ?_
  refine w_seq ?_
  refine w_region (by kernel_rfl) ?_
  refine o_build (zv := .agg #[.int .i64 0, .int .i64 0, .int .i64 0]) (pl := [(0, 1), (1, 1), (2, 1)]) [(0, _)] gn rfl (by kernel_rfl) (by kernel_rfl) rfl (by rfl) ?_
  refine o_build (zv := .agg #[.int .i64 0, .int .i64 0, .int .i64 0]) (pl := [(0, 1), (1, 1), (2, 1)]) [(0, _), (2, _)] gn rfl (by kernel_rfl) (by kernel_rfl) rfl (by rfl) ?_
  refine o_build (zv := .agg #[.int .i64 0, .int .i64 0, .int .i64 0]) (pl := [(0, 1), (1, 1), (2, 1)]) [(0, _), (1, _), (2, _)] gn rfl (by kernel_rfl) (by kernel_rfl) rfl (by rfl) ?_
  refine s_buildSlice (e := 27) (z := 2) (zv := .agg #[.int .i64 0, .int .i64 0, .int .i64 0]) [(0, _), (1, _), (2, _)] S gn rfl (by kernel_rfl) (by kernel_rfl) (by kernel_rfl) (by kernel_rfl) rfl (by rfl) fun b1 g nb1 S => ?_
  refine o_call [_] gn rfl rfl (by kernel_rfl) rfl (C.mono (c8 (l := [⟨1, 0, 0⟩, ⟨3, 0, 5⟩, ⟨4, 1, -7⟩]) (P.ext S.e0) (.inr ⟨b1, 0, 3, _, _, _, rfl, S.cel 0 rfl, S.lt1 0 rfl, Nat.le_refl _, fun i hi => by
  match i, hi with
  | 0, _ => rfl
  | 1, _ => rfl
  | 2, _ => rfl⟩) (by decide) (fun e he => by
  simp only [List.mem_cons, List.not_mem_nil, or_false] at he
  rcases he with rfl | rfl | rfl <;> exact ⟨by constructor <;> decide, by constructor <;> decide⟩)) ?_)  -- detent/script.Text
  rintro v g ⟨⟨B, rfl, hB⟩, x⟩
  have S := S.grow x
  refine ⟨ag0, ?_⟩
  refine o_eqS gn rfl rfl rfl ?_
  refine o_assign gn rfl rfl ?_
  refine wl_end ?_
  refine w_ret ?_
  refine ⟨.inl rfl, _, rfl, ?_⟩
  exact ⟨by
    have e1 : eqS B ⟨#[114, 117, 110, 32, 48, 10, 116, 105, 99, 107, 32, 53, 10, 105, 110, 106, 101, 99, 116, 32, 49, 32, 45, 55, 10]⟩ = true := by
      rw [eqS_dec, hB, if_pos known_may, known_tl, decide_eq_true_eq]; exact (tl_lit _).symm
    rw [e1]; rfl, S.e0⟩
set_option maxHeartbeats 1000000 in
/-- ScriptReads -/
theorem c4 {s : ByteArray} (LO : LibOk h) : C scpE 4 [.string s] h fun v h' => v = .bool true ∧ Ext h h' := by
  refine c_enter (fu := Tryz.f4) (by kernel_rfl) rfl ?_
  have S := SH.start h
  refine w_seq ?_
  refine w_region (by kernel_rfl) ?_
  refine o_assign gn rfl rfl ?_
  refine wl_end ?_
  refine w_seq ?_
  refine w_seq ?_
  refine w_region (by kernel_rfl) ?_
  refine o_move gn rfl rfl ?_
  refine o_lenstr gn rfl rfl (by kernel_rfl) ?_
  refine o_gtr gn rfl rfl rfl ?_
  refine wl_end ?_
  refine w_cond rfl (fun hb => ?_) fun hb => ?_
  · skip
    refine w_seq ?_
    refine w_region (by kernel_rfl) ?_
    refine o_call [] gn rfl rfl (by kernel_rfl) rfl (C.mono (c5 (LO.pow.ext S.e0)) ?_)
    rintro v g ⟨rfl, x⟩
    have S := S.grow x
    refine ⟨ag0, ?_⟩
    refine o_assign gn rfl rfl ?_
    refine wl_end ?_
    refine w_ret ?_
    refine ⟨.inl rfl, _, rfl, ?_⟩
    exact ⟨rfl, S.e0⟩
  refine w_skip ?_
  have hz : s.size ≤ 2000 := by simp at hb; omega
  have hsl := size_toList s
  refine w_seq ?_
  refine w_region (by kernel_rfl) ?_
  refine o_move gn rfl rfl ?_
  refine o_call [_] gn rfl rfl (by kernel_rfl) rfl (C.mono (c10 (s := s) (LO.ext S.e0) (by omega)) ?_)
  rintro v g ⟨⟨sl1, L, k, rfl, hE1, hc1⟩, x⟩
  have S := S.grow x
  refine ⟨ag0, ?_⟩
  refine o_move gn rfl rfl ?_
  refine o_extract gn rfl rfl rfl ?_
  refine o_extract gn rfl rfl rfl ?_
  refine o_assign gn rfl rfl ?_
  refine o_assign gn rfl rfl ?_
  refine wl_end ?_
  refine w_seq ?_
  refine w_region (by kernel_rfl) ?_
  refine o_move gn rfl rfl ?_
  refine o_call [_] gn rfl rfl (by kernel_rfl) rfl (C.mono (c12 (s := s) (by omega)) ?_)
  rintro v g ⟨⟨sl2, L2, k2, rfl, hE2, hc2⟩, x⟩
  obtain ⟨rfl, rfl⟩ := ofR_eq hc1 hc2
  have hE1 := hE1.ext x
  have hll := ofR_len hc1
  have S := S.grow x
  refine ⟨ag0, ?_⟩
  refine o_move gn rfl rfl ?_
  refine o_extract gn rfl rfl rfl ?_
  refine o_extract gn rfl rfl rfl ?_
  refine o_assign gn rfl rfl ?_
  refine o_assign gn rfl rfl ?_
  refine wl_end ?_
  refine w_seq ?_
  refine w_seq ?_
  refine w_region (by kernel_rfl) ?_
  refine o_move gn rfl rfl ?_
  refine o_move gn rfl rfl ?_
  refine o_nei gn rfl rfl rfl ?_
  refine o_move gn rfl rfl ?_
  refine wl_split (dc := 24) rfl (fun hb24 => ?_) fun hb24 => ?_
  · skip
    exact absurd hb24 (by simp)
  refine o_move (gy rfl rfl rfl hb24) rfl rfl ?_
  refine o_move (gy rfl rfl rfl hb24) rfl rfl ?_
  refine o_call [_, _] (gy rfl rfl rfl hb24) rfl rfl (by kernel_rfl) rfl (C.mono (c11 hE1 hE2 (by omega) (by omega)) ?_)
  rintro v g ⟨rfl, x⟩
  have S := S.grow x
  refine ⟨ag0, ?_⟩
  have hE1 := hE1.ext x
  refine o_not (gy rfl rfl rfl hb24) rfl rfl ?_
  refine o_pickf gn rfl rfl hb24 rfl ?_
  refine wl_end ?_
  refine w_cond rfl (fun hb => ?_) fun hb => ?_
  · skip
    refine w_seq ?_
    refine w_region (by kernel_rfl) ?_
    refine o_assign gn rfl rfl ?_
    refine wl_end ?_
    refine w_ret ?_
    refine ⟨.inl rfl, _, rfl, ?_⟩
    exact absurd hb (by simp)
  refine w_skip ?_
  refine w_seq ?_
  refine w_region (by kernel_rfl) ?_
  refine o_move gn rfl rfl ?_
  refine o_nei gn rfl rfl rfl ?_
  refine o_move gn rfl rfl ?_
  refine wl_split (dc := 32) rfl (fun hb32 => ?_) fun hb32 => ?_
  · skip
    refine wl_skips (n := 4) (dc := 32) (w := false) rfl hb32 rfl ?_
    refine o_pickt gn rfl rfl hb32 rfl ?_
    refine o_move gn rfl rfl ?_
    refine wl_split (dc := 38) rfl (fun hb38 => ?_) fun hb38 => ?_
    · skip
      refine o_call [] (gy rfl rfl rfl hb38) rfl rfl (by kernel_rfl) rfl (C.mono (c5 (LO.pow.ext S.e0)) ?_)
      rintro v g ⟨rfl, x⟩
      have S := S.grow x
      refine ⟨ag0, ?_⟩
      refine o_pickt gn rfl rfl hb38 rfl ?_
      refine o_assign gn rfl rfl ?_
      refine wl_end ?_
      refine w_ret ?_
      refine ⟨.inl rfl, _, rfl, ?_⟩
      exact ⟨rfl, S.e0⟩
    exact absurd hb38 (by simp)
  obtain ⟨hall, hlines⟩ : AllE L ∧ linesE L = s.toList := by
    rcases hc1 with ⟨_, h2⟩ | ⟨h1, _⟩
    · exact h2
    rw [h1] at hb32; exact absurd hb32 (by decide)
  refine o_move (gy rfl rfl rfl hb32) rfl rfl ?_
  refine o_call [_] (gy rfl rfl rfl hb32) rfl rfl (by kernel_rfl) rfl (C.mono (c9 hE1 (by omega) fun e he => (hall e he).2) ?_)
  rintro v g ⟨⟨B, rfl, hB⟩, x⟩
  have e1 : eqS B s = true := by
    rw [if_pos (List.all_eq_true.2 fun e he => (hall e he).1), hlines] at hB
    rw [eqS_dec, hB, decide_eq_true rfl]
  have S := S.grow x
  refine ⟨ag0, ?_⟩
  refine o_move (gy rfl rfl rfl hb32) rfl rfl ?_
  refine o_eqS (gy rfl rfl rfl hb32) rfl rfl rfl ?_
  refine o_pickf gn rfl rfl hb32 rfl ?_
  refine o_move gn rfl rfl ?_
  refine wl_split (dc := 38) rfl (fun hb38 => ?_) fun hb38 => ?_
  · skip
    refine o_call [] (gy rfl rfl rfl hb38) rfl rfl (by kernel_rfl) rfl (C.mono (c5 (LO.pow.ext S.e0)) ?_)
    rintro v g ⟨rfl, x⟩
    have S := S.grow x
    refine ⟨ag0, ?_⟩
    refine o_pickt gn rfl rfl hb38 rfl ?_
    refine o_assign gn rfl rfl ?_
    refine wl_end ?_
    refine w_ret ?_
    refine ⟨.inl rfl, _, rfl, ?_⟩
    exact ⟨rfl, S.e0⟩
  exact absurd (hb38.symm.trans e1) (by simp)
set_option maxHeartbeats 2000000 in
/-- ScriptTexts -/
theorem c3 {v : Value} {l : List En} (LO : LibOk h) (X : EnAt h v l) (hi : ∀ e, e ∈ l → inE e) : C scpE 3 [v] h fun v h' => v = .bool true ∧ Ext h h' := by
  have Y := X
  obtain ⟨ta, tc, rfl⟩ := X.val
  refine c_enter (fu := Tryz.f3) (by kernel_rfl) rfl ?_
  have S := SH.start h
  refine w_seq ?_
  refine w_region (by kernel_rfl) ?_
  refine o_assign gn rfl rfl ?_
  refine wl_end ?_
  refine w_seq ?_
  refine w_seq ?_
  refine w_region (by kernel_rfl) ?_
  refine o_move gn rfl rfl ?_
  refine o_len gn rfl rfl (by kernel_rfl) ?_
  refine o_gtr gn rfl rfl rfl ?_
  refine wl_end ?_
  refine w_cond rfl (fun hb => ?_) fun hb => ?_
  · skip
    refine w_seq ?_
    refine w_region (by kernel_rfl) ?_
    refine o_call [] gn rfl rfl (by kernel_rfl) rfl (C.mono (c5 (LO.pow.ext S.e0)) ?_)
    rintro v g ⟨rfl, x⟩
    have S := S.grow x
    refine ⟨ag0, ?_⟩
    refine o_assign gn rfl rfl ?_
    refine wl_end ?_
    refine w_ret ?_
    refine ⟨.inl rfl, _, rfl, ?_⟩
    exact ⟨rfl, S.e0⟩
  refine w_skip ?_
  have hz : l.length ≤ 100 := by simp at hb; omega
  refine w_seq ?_
  refine w_region (by kernel_rfl) ?_
  refine o_assign gn rfl rfl ?_
  refine wl_end ?_
  refine w_seq ?_
  refine w_seq ?_
  refine w_region (by kernel_rfl) ?_
  refine o_assign gn rfl rfl ?_
  refine wl_end ?_
  refine w_block ?_
  refine w_loopS [(3, _), (4, _)] [(0, _)] (by repeat (first | exact trivial | refine ⟨rfl, ?_⟩)) (fun kk lv hh => ∃ i : Nat, lv = [(3, .bool ((l.take i).all mayE)), (4, iV i)] ∧ kk = l.length - i ∧ i ≤ l.length ∧ SH h [] [] hh) (n := (l.length)) ?_ fun kk lv hh hI => ?_
  · exact ⟨0, rfl, rfl, by omega, S⟩
  obtain ⟨i, rfl, rfl, hi3, S⟩ := hI
  refine w_seq ?_
  refine w_seq ?_
  refine w_region (by kernel_rfl) ?_
  refine o_move gn rfl rfl ?_
  refine o_move gn rfl rfl ?_
  refine o_len gn rfl rfl (by kernel_rfl) ?_
  refine o_lss gn rfl rfl rfl ?_
  refine wl_end ?_
  refine w_cond rfl (fun hb => ?_) fun hb => ?_
  · skip
    refine w_skip ?_
    have hil : i < l.length := by simp at hb; omega
    obtain ⟨b, o, c, cs, e, m, hv, hg, hlb, hl6, hat⟩ := Y.at (by omega)
    have hta : ta = some ⟨b, o, none⟩ := by injection hv
    have hw : (cs.drop (o + Int.toNat (i : Int) * 3)).take 3 = enC l[i] := by rw [Int.toNat_natCast]; exact hat i hil
    subst hta
    refine w_seq ?_
    refine w_block ?_
    refine w_seq ?_
    refine w_seq ?_
    refine w_draw [(0, []), (1, []), (2, []), (3, []), (5, []), (6, []), (7, []), (8, []), (4, [8]), (9, []), (10, [])] (by kernel_rfl) (by kernel_rfl) (by kernel_rfl) (by kernel_rfl) ?_
    refine o_move gn rfl rfl ?_
    refine o_move gn rfl rfl ?_
    refine o_indexAddr (zz := 3) gn rfl rfl rfl (by kernel_rfl) (by omega) (by omega) ?_
    refine o_loadA (n := 3) gn rfl rfl (by kernel_rfl) (by kernel_rfl) (S.old0 hg hlb) (by rw [Int.toNat_natCast]; omega) ?_
    rw [hw]
    refine o_move gn rfl rfl ?_
    refine o_move gn rfl rfl ?_
    refine o_indexAddr (zz := 3) gn rfl rfl rfl (by kernel_rfl) (by omega) (by omega) ?_
    refine o_loadA (n := 3) gn rfl rfl (by kernel_rfl) (by kernel_rfl) (S.old0 hg hlb) (by rw [Int.toNat_natCast]; omega) ?_
    rw [hw]
    refine o_call [_] gn rfl rfl (by kernel_rfl) rfl (C.mono (c6 (e := l[i])) ?_)
    rintro v g ⟨rfl, x⟩
    have S := S.grow x
    refine ⟨(ag1 (ag_loadA (n := 3) gn rfl (by kernel_rfl) (by kernel_rfl) (S.old0 hg hlb) (by rw [Int.toNat_natCast]; omega) (by rw [hw]; rfl) (by rw [hw]; exact sameE2 _)) ag0), ?_⟩
    refine o_call [_] gn rfl rfl (by kernel_rfl) rfl (C.mono (c7 (e := l[i])) ?_)
    rintro v g ⟨rfl, x⟩
    have S := S.grow x
    refine ⟨ag0, ?_⟩
    refine o_neb gn rfl rfl rfl (by kernel_rfl) ?_
    refine wl_end ?_
    refine w_cond rfl (fun hb => ?_) fun hb => ?_
    · skip
      refine w_seq ?_
      refine w_region (by kernel_rfl) ?_
      refine o_assign gn rfl rfl ?_
      refine wl_end ?_
      refine w_ret ?_
      refine ⟨.inl rfl, _, rfl, ?_⟩
      exact absurd hb (by simp)
    refine w_skip ?_
    refine w_region (by kernel_rfl) ?_
    refine o_move gn rfl rfl ?_
    refine o_move gn rfl rfl ?_
    refine wl_split (dc := 30) rfl (fun hb30 => ?_) fun hb30 => ?_
    · skip
      refine o_move (gy rfl rfl rfl hb30) rfl rfl ?_
      refine o_move (gy rfl rfl rfl hb30) rfl rfl ?_
      refine o_indexAddr (zz := 3) (gy rfl rfl rfl hb30) rfl rfl rfl (by kernel_rfl) (by omega) (by omega) ?_
      refine o_loadA (n := 3) (gy rfl rfl rfl hb30) rfl rfl (by kernel_rfl) (by kernel_rfl) (S.old0 hg hlb) (by rw [Int.toNat_natCast]; omega) ?_
      rw [hw]
      refine o_call [_] (gy rfl rfl rfl hb30) rfl rfl (by kernel_rfl) rfl (C.mono (c7 (e := l[i])) ?_)
      rintro v g ⟨rfl, x⟩
      have S := S.grow x
      refine ⟨ag0, ?_⟩
      refine o_pickt gn rfl rfl hb30 rfl ?_
      refine o_assign gn rfl rfl ?_
      refine wl_end ?_
      refine w_region (by kernel_rfl) ?_
      refine o_move gn rfl rfl ?_
      refine o_add gn rfl rfl rfl (by omega) (by omega) ?_
      refine o_assign gn rfl rfl ?_
      refine wl_end ?_
      exact rndS (l.length - (i + 1)) (by omega) [(3, _), (4, _)] (by repeat (first | exact trivial | refine ⟨rfl, ?_⟩)) ⟨i + 1, by rw [all_take hil, hb30, Bool.true_and]; rfl, rfl, by omega, S⟩
    refine wl_skips (n := 5) (dc := 30) (w := true) rfl hb30 rfl ?_
    refine o_pickf gn rfl rfl hb30 rfl ?_
    refine o_assign gn rfl rfl ?_
    refine wl_end ?_
    refine w_region (by kernel_rfl) ?_
    refine o_move gn rfl rfl ?_
    refine o_add gn rfl rfl rfl (by omega) (by omega) ?_
    refine o_assign gn rfl rfl ?_
    refine wl_end ?_
    exact rndS (l.length - (i + 1)) (by omega) [(3, _), (4, _)] (by repeat (first | exact trivial | refine ⟨rfl, ?_⟩)) ⟨i + 1, by rw [all_take hil, hb30, Bool.false_and]; rfl, rfl, by omega, S⟩
  refine w_exit ?_
  refine thn_exit ?_
  refine rnd_exit ?_
  refine blk_eq ?_
  refine w_seq ?_
  refine w_region (by kernel_rfl) ?_
  obtain rfl : i = l.length := by simp at hb; omega
  rw [List.take_length]
  refine o_move gn rfl rfl ?_
  refine o_call [_] gn rfl rfl (by kernel_rfl) rfl (C.mono (c8 (LO.pow.ext S.e0) (Y.ext S.e0) (by omega) hi) ?_)
  rintro v g ⟨⟨B1, rfl, hB1⟩, x⟩
  have S := S.grow x
  refine ⟨ag0, ?_⟩
  refine o_assign gn rfl rfl ?_
  refine wl_end ?_
  refine w_seq ?_
  refine w_seq ?_
  refine w_region (by kernel_rfl) ?_
  refine o_move gn rfl rfl ?_
  refine o_move gn rfl rfl ?_
  refine o_call [_] gn rfl rfl (by kernel_rfl) rfl (C.mono (c9 (Y.ext S.e0) (by omega) hi) ?_)
  rintro v g ⟨⟨B2, rfl, hB2⟩, x⟩
  have S := S.grow x
  refine ⟨ag0, ?_⟩
  refine o_neS gn rfl rfl rfl ?_
  refine wl_end ?_
  refine w_cond rfl (fun hb => ?_) fun hb => ?_
  · skip
    refine w_seq ?_
    refine w_region (by kernel_rfl) ?_
    refine o_assign gn rfl rfl ?_
    refine wl_end ?_
    refine w_ret ?_
    refine ⟨.inl rfl, _, rfl, ?_⟩
    exact absurd hb (by rw [eqS_dec, hB1, hB2]; simp)
  refine w_skip ?_
  refine w_seq ?_
  refine w_seq ?_
  refine w_region (by kernel_rfl) ?_
  have hz1 := lines_le hi
  have hz2 : B1.size ≤ 10000 := by
    rw [size_toList, hB1]; split
    · omega
    exact Nat.zero_le _
  refine o_move gn rfl rfl ?_
  refine o_not gn rfl rfl ?_
  refine wl_end ?_
  refine w_cond rfl (fun hb => ?_) fun hb => ?_
  · skip
    refine w_seq ?_
    refine w_region (by kernel_rfl) ?_
    refine o_move gn rfl rfl ?_
    refine o_eqS gn rfl rfl rfl ?_
    refine o_move gn rfl rfl ?_
    refine wl_split (dc := 47) rfl (fun hb47 => ?_) fun hb47 => ?_
    · skip
      refine o_call [] (gy rfl rfl rfl hb47) rfl rfl (by kernel_rfl) rfl (C.mono (c5 (LO.pow.ext S.e0)) ?_)
      rintro v g ⟨rfl, x⟩
      have S := S.grow x
      refine ⟨ag0, ?_⟩
      refine o_pickt gn rfl rfl hb47 rfl ?_
      refine o_assign gn rfl rfl ?_
      refine wl_end ?_
      refine w_ret ?_
      refine ⟨.inl rfl, _, rfl, ?_⟩
      exact ⟨rfl, S.e0⟩
    exact absurd hb47 (by
      have hna : ¬ l.all mayE = true := by simpa using hb
      rw [if_neg hna] at hB1
      rw [eqS_empty, hB1]; simp)
  refine w_skip ?_
  refine w_seq ?_
  refine w_region (by kernel_rfl) ?_
  have hma : l.all mayE = true := by simpa using hb
  rw [if_pos hma] at hB1
  have hAl : AllE l := fun e he => ⟨List.all_eq_true.1 hma e he, hi e he⟩
  refine o_move gn rfl rfl ?_
  refine o_call [_] gn rfl rfl (by kernel_rfl) rfl (C.mono (c10 (s := B1) (LO.ext S.e0) hz2) ?_)
  rintro v g ⟨⟨sl1, L, k, rfl, hE1, hc1⟩, x⟩
  rw [hB1] at hc1
  obtain ⟨rfl, rfl⟩ := ofR_eq hc1 (.inl ⟨rfl, hAl, rfl⟩)
  have S := S.grow x
  refine ⟨ag0, ?_⟩
  refine o_move gn rfl rfl ?_
  refine o_extract gn rfl rfl rfl ?_
  refine o_extract gn rfl rfl rfl ?_
  refine o_assign gn rfl rfl ?_
  refine o_assign gn rfl rfl ?_
  refine wl_end ?_
  refine w_seq ?_
  refine w_region (by kernel_rfl) ?_
  refine o_move gn rfl rfl ?_
  refine o_eqi gn rfl rfl rfl ?_
  refine o_move gn rfl rfl ?_
  refine wl_split (dc := 57) rfl (fun hb57 => ?_) fun hb57 => ?_
  · skip
    refine o_move (gy rfl rfl rfl hb57) rfl rfl ?_
    refine o_move (gy rfl rfl rfl hb57) rfl rfl ?_
    refine o_call [_, _] (gy rfl rfl rfl hb57) rfl rfl (by kernel_rfl) rfl (C.mono (c11 hE1 (Y.ext S.e0) (by omega) (by omega)) ?_)
    rintro v g ⟨rfl, x⟩
    have S := S.grow x
    refine ⟨ag0, ?_⟩
    refine o_pickt gn rfl rfl hb57 rfl ?_
    refine o_move gn rfl rfl ?_
    refine wl_split (dc := 62) rfl (fun hb62 => ?_) fun hb62 => ?_
    · skip
      refine o_call [] (gy rfl rfl rfl hb62) rfl rfl (by kernel_rfl) rfl (C.mono (c5 (LO.pow.ext S.e0)) ?_)
      rintro v g ⟨rfl, x⟩
      have S := S.grow x
      refine ⟨ag0, ?_⟩
      refine o_pickt gn rfl rfl hb62 rfl ?_
      refine o_assign gn rfl rfl ?_
      refine wl_end ?_
      refine w_ret ?_
      refine ⟨.inl rfl, _, rfl, ?_⟩
      exact ⟨rfl, S.e0⟩
    exact absurd hb62 (by simp)
  exact absurd hb57 (by simp)
end
end Go.Proofs.YtdgemlcdhobejaaGreatDoor

namespace Go.Proofs.YtdgemlcdhobejaaGreatDoor
open Go.ChangeShapes Go.WideShapes Go.ChangeAt Go.RowKit Go.Deep Go.X Go.Scr

set_option maxRecDepth 100000

theorem scp_bool : Tryz.prog.underlying 4 = some .bool := by kernel_rfl
theorem scp_own : ownKnob Tryz.prog.godebug = none := by kernel_rfl
theorem scp_laid : laidOutB Tryz.prog = true := by kernel_rfl
theorem scp_int : Tryz.prog.underlying 3 = some (.int .i64) := by kernel_rfl
theorem scp_str : Tryz.prog.underlying 9 = some .string := by kernel_rfl
theorem pow_named : Tryz.prog.globalNamed "internal/strconv.uint64pow10" = some 1 := by kernel_rfl
theorem pow_type : (Tryz.prog.globals[1]?).map (·.type) = some 216 := by kernel_rfl
theorem pow_arr : Tryz.prog.underlying 216 = some (.array 20 121) := by kernel_rfl
theorem pow_u64 : Tryz.prog.underlying 121 = some (.int .u64) := by kernel_rfl
theorem pow_cell : Tryz.prog.cellsOf 121 = 1 := by kernel_rfl
theorem pow_cells : Tryz.prog.cellsOf 216 = 20 := by kernel_rfl
theorem pow_of {L : List (String × DataW Unit)} (hb : ((L.filter fun x => x.2.handleName?.isNone).filter fun x => x.1 == "internal/strconv.uint64pow10") = [("internal/strconv.uint64pow10", Lib.tabData .u64 Lib.pow10Tab)]) {W : World} (h : laidMetH Tryz.prog L W) : Pow (Hp.all W) := by
  refine ⟨?_, by have := topB_256 W; show 1 < topB W; omega⟩
  have h1 := (laidMetH_iff.1 h).1.filter fun x => x.1 == "internal/strconv.uint64pow10"
  rw [hb] at h1
  have hT : Lib.TabIs Tryz.prog W "internal/strconv.uint64pow10" .u64 Lib.pow10Tab := Lib.tabIs_of_head pow_named pow_type pow_arr pow_u64 pow_cell pow_cells (rest := []) h1
  obtain ⟨e, fr, hg⟩ := tab_block pow_named hT
  have hget : (Hp.all W).get 1 = some (.cells (Lib.pow10Tab.map (Value.int .u64)) e 1) := by
    rw [Hp.all_get, allObj, hg]
    simp only [Option.some.injEq, AObj.cells.injEq, and_true]
    rw [List.map_map]
    refine List.map_congr_left fun n _ => ?_
    exact selfX_eq (.int _ _)
  have hs : tabThere 1 (Lib.pow10Tab.map (Value.int .u64)) (Hp.empty.put 1 (.cells (Lib.pow10Tab.map (Value.int .u64)) 0 1)) = true := by kernel_rfl
  unfold tabThere at *
  rw [hget]
  rw [Hp.get_put, if_pos rfl] at hs
  exact hs
noncomputable def errMs : Array (String × TypeId) := match Tryz.prog.underlying 49 with | some (.interface ms) => ms | _ => #[]
theorem err_iface : Tryz.prog.underlying 49 = some (.interface errMs) := by kernel_rfl
theorem err_syn : Tryz.prog.globalNamed "strconv.ErrSyntax" = some 2 := by kernel_rfl
theorem err_ran : Tryz.prog.globalNamed "strconv.ErrRange" = some 3 := by kernel_rfl
theorem ty_syn : (Tryz.prog.globals[2]?).map (·.type) = some 49 := by kernel_rfl
theorem ty_ran : (Tryz.prog.globals[3]?).map (·.type) = some 49 := by kernel_rfl
/-- The library's variables, out of what the row lists, and of the world's shape. -/
theorem lib_of {L : List (String × DataW Unit)} (hp : ((L.filter fun x => x.2.handleName?.isNone).filter fun x => x.1 == "internal/strconv.uint64pow10") = [("internal/strconv.uint64pow10", Lib.tabData .u64 Lib.pow10Tab)])
    (hs : ((L.filter fun x => x.2.handleName?.isNone).filter fun x => x.1 == "strconv.ErrSyntax") = [("strconv.ErrSyntax", Rows.laid_strconv_ErrSyntax)]) (hr : ((L.filter fun x => x.2.handleName?.isNone).filter fun x => x.1 == "strconv.ErrRange") = [("strconv.ErrRange", Rows.laid_strconv_ErrRange)])
    {W : World} (h : laidMetH Tryz.prog L W) (hsh : W.ShapedOpen Tryz.prog) : LibOk (Hp.all W) := by
  have h1 := (laidMetH_iff.1 h).1.filter fun x => x.1 == "strconv.ErrSyntax"
  rw [hs] at h1
  have h2 := (laidMetH_iff.1 h).1.filter fun x => x.1 == "strconv.ErrRange"
  rw [hr] at h2
  obtain ⟨m, hm⟩ := cell_of_shapedOpen_int (P := Tryz.prog) (w := W) (g := 0) (t := 3) (k := .i64) (zero := #[.int .i64 0]) hsh (of_decide_eq_true (by kernel_rfl)) (by kernel_rfl) rfl (by kernel_rfl) (by kernel_rfl) scp_int
  exact ⟨pow_of hp h, int_there hm, err_there err_syn ty_syn err_iface h1, err_there err_ran ty_ran err_iface h2, by have := topB_256 W; show 3 < topB W; omega⟩
/-- The wrap that keeps the world's shape. -/
theorem lifted_shaped {H : Type} {enc : TypeId × Value → H} {a : Assume} {C : Checked} {os : Os} {f : FuncId} {fn : Func} {s : ChangeSpec} {conds : List PathCond} {apart fresh handsOn again : Bool} {X : World → Array Value → Prop}
    (hX : ∀ (w w' : World) (args : Array Value), w.heap = w'.heap → X w args → X w' args)
    (own : ownKnob C.prog.godebug = none) (started : os.Started) (noInit : C.prog.inits.idxOf? f = none) (hfn : C.prog.funcs[f]? = some fn)
    (witness : ∃ (w : World) (tape : Tape) (i : Input), w.os = os ∧ (w.forCall tape i).Shaped C.prog ∧ i.vars = [] ∧ Input.okWide C.prog (w.forCall tape i) .any w.heap.size f i ∧
      ((s.pre enc C.prog fn conds apart (w.forCall tape i).memory i.args ∧ X (w.forCall tape i).memory i.args) ∧ sizedMet enc C.prog fn (OpenSpec.ofChange s) apart (w.forCall tape i).memory i.args) ∧ a.holds C.prog (lone (Frame.enter C.prog f i.args .normal) [] (w.forCall tape i)))
    (contract : ∀ (W : World) (base : Nat) (args : Array Value) (ds gs : List (DataW H)) (before : List MemPlace),
      (∀ (j : Nat) t v, fn.params[j]? = some t → args[j]? = some v → Value.okWide C.prog W .any base t v) →
      DataW.Whole enc C.prog fn.params.toList s.vars apart W args.toList ds gs before →
      X W args → W.ShapedOpen C.prog →
      Calls C.prog f args W fun e W' => ∃ v, e = .returned v ∧ s.post enc C.prog fn apart fresh handsOn again W args v W') :
    ReturnsInHanded a C os f .any (fun w args => (s.pre enc C.prog fn conds apart w args ∧ X w args) ∧ sizedMet enc C.prog fn (OpenSpec.ofChange s) apart w args) (s.post enc C.prog fn apart fresh handsOn again) := by
  refine returnsInHanded_of_calls own started noInit witness ?_
  intro w tape i _ hsh _ hok hpre _
  obtain ⟨_, _, _, fn', hfn', _, _, _, _, hval⟩ := hok
  have e : fn' = fn := Option.some.inj (hfn'.symm.trans hfn)
  subst e
  obtain ⟨⟨⟨ds, gs, before, hw, _⟩, hx⟩, _⟩ := hpre
  have hw' := DataW.Whole.of_heap (w' := w.forCall tape i) (by rfl) hw
  refine (contract (w.forCall tape i) w.heap.size i.args ds gs before hval hw' (hX _ _ _ (by rfl) hx) hsh).mono fun e W' ⟨v, he, hp⟩ => ?_
  subst he
  exact ChangeSpec.post_blind hp
/-- A string that is an argument. -/
theorem str_arg {W : World} {r : Reach} {base : Nat} {v : Value} (hok : Value.okWide Tryz.prog W r base 9 v) : ∃ s, v = .string s := by
  simp only [Value.okWide, scp_str] at hok
  unfold Cell.okWide Cell.ok at hok
  simp only [scp_str] at hok
  cases v <;> first | exact ⟨_, rfl⟩ | exact hok.elim
end Go.Proofs.YtdgemlcdhobejaaGreatDoor
