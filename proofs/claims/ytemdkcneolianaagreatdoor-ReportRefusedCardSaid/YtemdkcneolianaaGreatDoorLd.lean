/- Chapter 24: what instructions name, whether they have sites. Conditions: none. Chapter 24: roots, as the document and the program have them. Conditions: none. Chapter 24: may an instruction be, as the document has it. Conditions: none. Chapter 24: may a program's parts be, as the document has it. Conditions: none. Chapter 24: may a program be, as the document has it. Conditions: none. Chapter 24: rows copied and looked through; the registers that an instruction names, as the program has it. Conditions: an operation that may be; rows in a process's memory. Chapter 24: the registers that an instruction names, as the program has it. Conditions: an operation that may be; rows in a process's memory. Chapter 24: may a function be, as the program has it. Conditions: no more than 100000 sites so far. -/
import Derived.Test.YtemdkcneolianaaGreatDoorLb
import Derived.Test.YtemdkcneolianaaGreatDoorLa
namespace Go.Proofs.YtemdkcneolianaaGreatDoor
open Go.X Go.May

def sharedL : List Int := [9, 10, 23, 24, 25, 26, 27, 28, 29, 30]
def sharedB (o : Int) : Bool := decide (o ∈ sharedL)
def twos : List Int := [2, 12, 13, 15, 16, 17, 20, 23, 24, 28]
/-- Which registers an instruction names, as a text. -/
def partsS (o : Int) : ByteArray := if o ∈ ones then ⟨#[65]⟩ else if o ∈ twos then ⟨#[65, 66]⟩ else if o ∈ threes then ⟨#[65, 66, 67]⟩ else ⟨#[]⟩
theorem site_iff {o : Int} : siteB o = true ↔ 9 ≤ o ∧ o ≤ 30 ∧ o ≠ 20 := by
  simp [siteB, and_assoc]
theorem site_yes {o : Int} (h : o ∈ [11, 12, 13, 14, 15, 16, 17, 18, 19, 21, 22]) : siteB o = true := by
  simp only [List.mem_cons, List.not_mem_nil, or_false] at h
  rw [site_iff]; omega
theorem site_sh {o : Int} (h : o ∉ [11, 12, 13, 14, 15, 16, 17, 18, 19, 21, 22]) : sharedB o = siteB o := by
  simp only [List.mem_cons, List.not_mem_nil, or_false] at h
  rw [Bool.eq_iff_iff, site_iff, sharedB, decide_eq_true_eq, sharedL]
  simp only [List.mem_cons, List.not_mem_nil, or_false]
  omega
theorem parts_size {o : Int} (h1 : 1 ≤ o) (h2 : o ≤ 33) : (partsS o).size = regsN o := by
  have : o = 1 ∨ o = 2 ∨ o = 3 ∨ o = 4 ∨ o = 5 ∨ o = 6 ∨ o = 7 ∨ o = 8 ∨ o = 9 ∨ o = 10 ∨ o = 11 ∨ o = 12 ∨ o = 13 ∨ o = 14 ∨ o = 15 ∨ o = 16 ∨ o = 17 ∨ o = 18 ∨ o = 19 ∨ o = 20 ∨ o = 21 ∨ o = 22 ∨ o = 23 ∨ o = 24 ∨ o = 25 ∨ o = 26 ∨ o = 27 ∨ o = 28 ∨ o = 29 ∨ o = 30 ∨ o = 31 ∨ o = 32 ∨ o = 33 := by omega
  rcases this with h | h | h | h | h | h | h | h | h | h | h | h | h | h | h | h | h | h | h | h | h | h | h | h | h | h | h | h | h | h | h | h | h <;> subst h <;> rfl

section
variable {h : Hp} {n m o : Int}
/-- in -/
theorem c18 : CP repE 18 [iV n, iV m] h (.bool (inB n m)) := by
  refine c_enter (fu := Tryz.f18) (by kernel_rfl) rfl ?_
  refine w_seq ?_
  refine w_region (by kernel_rfl) ?_
  refine o_assign gn rfl rfl ?_
  refine wl_end ?_
  refine w_seq ?_
  refine w_region (by kernel_rfl) ?_
  refine o_move gn rfl rfl ?_
  refine o_geq gn rfl rfl rfl ?_
  refine o_move gn rfl rfl ?_
  refine o_and (n := 3) rfl rfl rfl gn rfl (fun hb => by
      refine o_move (gy rfl rfl rfl hb) rfl rfl ?_
      refine o_move (gy rfl rfl rfl hb) rfl rfl ?_
      refine o_lss (gy rfl rfl rfl hb) rfl rfl rfl ?_
      exact wl_end ⟨rfl, rfl, 3, rfl, rfl⟩) ?_
  refine o_assign gn rfl rfl ?_
  refine wl_end ?_
  refine w_ret ?_
  refine ⟨.inl rfl, _, rfl, ?_⟩
  exact ⟨rfl, rfl⟩
/-- below -/
theorem c186 : CP repE 186 [iV n, iV m] h (.bool (inB n m)) := by
  refine c_enter (fu := Tryz.f186) (by kernel_rfl) rfl ?_
  refine w_seq ?_
  refine w_region (by kernel_rfl) ?_
  refine o_assign gn rfl rfl ?_
  refine wl_end ?_
  refine w_seq ?_
  refine w_region (by kernel_rfl) ?_
  refine o_move gn rfl rfl ?_
  refine o_geq gn rfl rfl rfl ?_
  refine o_move gn rfl rfl ?_
  refine o_and (n := 3) rfl rfl rfl gn rfl (fun hb => by
      refine o_move (gy rfl rfl rfl hb) rfl rfl ?_
      refine o_move (gy rfl rfl rfl hb) rfl rfl ?_
      refine o_lss (gy rfl rfl rfl hb) rfl rfl rfl ?_
      exact wl_end ⟨rfl, rfl, 3, rfl, rfl⟩) ?_
  refine o_assign gn rfl rfl ?_
  refine wl_end ?_
  refine w_ret ?_
  refine ⟨.inl rfl, _, rfl, ?_⟩
  exact ⟨rfl, rfl⟩
/-- Named -/
theorem c19 : CP repE 19 [iV o] h (iV (regsN o)) := by
  refine c_enter (fu := Tryz.f19) (by kernel_rfl) rfl ?_
  have S := SH.start h
  refine w_seq ?_
  refine w_region (by kernel_rfl) ?_
  refine o_assign gn rfl rfl ?_
  refine wl_end ?_
  refine w_seq ?_
  refine w_seq ?_
  refine w_region (by kernel_rfl) ?_
  refine o_move gn rfl rfl ?_
  refine wl_end ?_
  refine w_block ?_
  refine w_switch 3 [(26, 5), (27, 6), (31, 7), (33, 8)] [(3, _)] (by kernel_rfl) rfl (by repeat (first | exact trivial | refine ⟨rfl, ?_⟩)) (by rfl) (fun hb => ?_) fun hb => ?_
  · skip
    refine w_seq ?_
    refine w_region (by kernel_rfl) ?_
    refine o_assign gn rfl rfl ?_
    refine wl_end ?_
    refine w_ret ?_
    refine ⟨.inl rfl, _, rfl, ?_⟩
    exact ⟨by rw [regsN, if_pos (show o ∈ noughts from of_decide_eq_true hb)]; rfl, rfl⟩
  have hb1 : o ∉ noughts := of_decide_eq_false hb
  refine w_switch 3 [(1, 10), (8, 11), (9, 12), (10, 13), (11, 14), (14, 15), (21, 16), (22, 17), (25, 18), (29, 19), (30, 20), (32, 21)] [(3, _)] (by kernel_rfl) rfl (by repeat (first | exact trivial | refine ⟨rfl, ?_⟩)) (by rfl) (fun hb => ?_) fun hb => ?_
  · skip
    refine w_seq ?_
    refine w_region (by kernel_rfl) ?_
    refine o_assign gn rfl rfl ?_
    refine wl_end ?_
    refine w_ret ?_
    refine ⟨.inl rfl, _, rfl, ?_⟩
    exact ⟨by rw [regsN, if_neg hb1, if_pos (show o ∈ ones from of_decide_eq_true hb)]; rfl, rfl⟩
  have hb2 : o ∉ ones := of_decide_eq_false hb
  refine w_switch 3 [(3, 23), (4, 24), (5, 25), (6, 26), (7, 27), (18, 28), (19, 29)] [] (by kernel_rfl) rfl (by repeat (first | exact trivial | refine ⟨rfl, ?_⟩)) (by rfl) (fun hb => ?_) fun hb => ?_
  · skip
    refine w_seq ?_
    refine w_region (by kernel_rfl) ?_
    refine o_assign gn rfl rfl ?_
    refine wl_end ?_
    refine w_ret ?_
    refine ⟨.inl rfl, _, rfl, ?_⟩
    exact ⟨by rw [regsN, if_neg hb1, if_neg hb2, if_pos (show o ∈ threes from of_decide_eq_true hb)]; rfl, rfl⟩
  refine w_skip ?_
  refine w_seq ?_
  refine w_region (by kernel_rfl) ?_
  refine o_assign gn rfl rfl ?_
  refine wl_end ?_
  refine w_ret ?_
  refine ⟨.inl rfl, _, rfl, ?_⟩
  exact ⟨by rw [regsN, if_neg hb1, if_neg hb2, if_neg (show o ∉ threes from of_decide_eq_false hb)]; rfl, rfl⟩
/-- IsSite, the document's -/
theorem c10 : CP repE 10 [iV o] h (.bool (siteB o)) := by
  refine c_enter (fu := Tryz.f10) (by kernel_rfl) rfl ?_
  refine w_seq ?_
  refine w_region (by kernel_rfl) ?_
  refine o_assign gn rfl rfl ?_
  refine wl_end ?_
  refine w_seq ?_
  refine w_region (by kernel_rfl) ?_
  refine o_move gn rfl rfl ?_
  refine o_geq gn rfl rfl rfl ?_
  refine o_move gn rfl rfl ?_
  refine o_and (n := 2) rfl rfl rfl gn rfl (fun hb => by
      refine o_move (gy rfl rfl rfl hb) rfl rfl ?_
      refine o_leq (gy rfl rfl rfl hb) rfl rfl rfl ?_
      exact wl_end ⟨rfl, rfl, 2, rfl, rfl⟩) ?_
  refine o_move gn rfl rfl ?_
  refine o_and (n := 2) rfl rfl rfl gn rfl (fun hb => by
      refine o_move (gy rfl rfl rfl hb) rfl rfl ?_
      refine o_nei (gy rfl rfl rfl hb) rfl rfl rfl ?_
      exact wl_end ⟨rfl, rfl, 2, rfl, rfl⟩) ?_
  refine o_assign gn rfl rfl ?_
  refine wl_end ?_
  refine w_ret ?_
  refine ⟨.inl rfl, _, rfl, ?_⟩
  exact ⟨by rw [siteB, decide_not]; rfl, rfl⟩
/-- Shared -/
theorem c315 : CP repE 315 [iV o] h (.bool (sharedB o)) := by
  refine c_enter (fu := Tryz.f315) (by kernel_rfl) rfl ?_
  have S := SH.start h
  refine w_seq ?_
  refine w_region (by kernel_rfl) ?_
  refine o_assign gn rfl rfl ?_
  refine wl_end ?_
  refine w_seq ?_
  refine w_seq ?_
  refine w_region (by kernel_rfl) ?_
  refine o_move gn rfl rfl ?_
  refine wl_end ?_
  refine w_block ?_
  refine w_switch 3 [(9, 5), (10, 6), (23, 7), (24, 8), (25, 9), (26, 10), (27, 11), (28, 12), (29, 13), (30, 14)] [] (by kernel_rfl) rfl (by repeat (first | exact trivial | refine ⟨rfl, ?_⟩)) (by rfl) (fun hb => ?_) fun hb => ?_
  · skip
    refine w_seq ?_
    refine w_region (by kernel_rfl) ?_
    refine o_assign gn rfl rfl ?_
    refine wl_end ?_
    refine w_ret ?_
    refine ⟨.inl rfl, _, rfl, ?_⟩
    exact ⟨congrArg Value.bool (show _ = sharedB o from hb.symm), rfl⟩
  refine w_skip ?_
  refine w_seq ?_
  refine w_region (by kernel_rfl) ?_
  refine o_assign gn rfl rfl ?_
  refine wl_end ?_
  refine w_ret ?_
  refine ⟨.inl rfl, _, rfl, ?_⟩
  exact ⟨congrArg Value.bool (show _ = sharedB o from hb.symm), rfl⟩
/-- IsSite, the program's -/
theorem c258 : CP repE 258 [iV o] h (.bool (siteB o)) := by
  refine c_enter (fu := Tryz.f258) (by kernel_rfl) rfl ?_
  have S := SH.start h
  refine w_seq ?_
  refine w_region (by kernel_rfl) ?_
  refine o_assign gn rfl rfl ?_
  refine wl_end ?_
  refine w_seq ?_
  refine w_seq ?_
  refine w_region (by kernel_rfl) ?_
  refine o_move gn rfl rfl ?_
  refine wl_end ?_
  refine w_block ?_
  refine w_switch 3 [(11, 5), (12, 6), (13, 7), (14, 8), (15, 9), (16, 10), (17, 11), (18, 12), (19, 13), (21, 14), (22, 15)] [(0, _)] (by kernel_rfl) rfl (by repeat (first | exact trivial | refine ⟨rfl, ?_⟩)) (by rfl) (fun hb => ?_) fun hb => ?_
  · skip
    refine w_seq ?_
    refine w_region (by kernel_rfl) ?_
    refine o_assign gn rfl rfl ?_
    refine wl_end ?_
    refine w_ret ?_
    refine ⟨.inl rfl, _, rfl, ?_⟩
    exact ⟨by rw [site_yes (show o ∈ [11, 12, 13, 14, 15, 16, 17, 18, 19, 21, 22] from of_decide_eq_true hb)]; rfl, rfl⟩
  refine w_skip ?_
  refine w_seq ?_
  refine w_region (by kernel_rfl) ?_
  refine o_move gn rfl rfl ?_
  refine o_call [_] gn rfl rfl (by kernel_rfl) rfl (c_pure (c315) ⟨ag0, ?_⟩)
  refine o_assign gn rfl rfl ?_
  refine wl_end ?_
  refine w_ret ?_
  refine ⟨.inl rfl, _, rfl, ?_⟩
  exact ⟨by rw [site_sh (show o ∉ [11, 12, 13, 14, 15, 16, 17, 18, 19, 21, 22] from of_decide_eq_false hb)]; rfl, rfl⟩
/-- parts -/
theorem c316 : CP repE 316 [iV o] h (.string (partsS o)) := by
  refine c_enter (fu := Tryz.f316) (by kernel_rfl) rfl ?_
  have S := SH.start h
  refine w_seq ?_
  refine w_region (by kernel_rfl) ?_
  refine o_assign gn rfl rfl ?_
  refine wl_end ?_
  refine w_seq ?_
  refine w_seq ?_
  refine w_region (by kernel_rfl) ?_
  refine o_move gn rfl rfl ?_
  refine wl_end ?_
  refine w_block ?_
  refine w_switch 3 [(1, 5), (8, 6), (9, 7), (10, 8), (11, 9), (14, 10), (21, 11), (22, 12), (25, 13), (29, 14), (30, 15), (32, 16)] [(3, _)] (by kernel_rfl) rfl (by repeat (first | exact trivial | refine ⟨rfl, ?_⟩)) (by rfl) (fun hb => ?_) fun hb => ?_
  · skip
    refine w_seq ?_
    refine w_region (by kernel_rfl) ?_
    refine o_assign gn rfl rfl ?_
    refine wl_end ?_
    refine w_ret ?_
    refine ⟨.inl rfl, _, rfl, ?_⟩
    exact ⟨by rw [partsS, if_pos (show o ∈ ones from of_decide_eq_true hb)]; rfl, rfl⟩
  have hb1 : o ∉ ones := of_decide_eq_false hb
  refine w_switch 3 [(2, 18), (12, 19), (13, 20), (15, 21), (16, 22), (17, 23), (20, 24), (23, 25), (24, 26), (28, 27)] [(3, _)] (by kernel_rfl) rfl (by repeat (first | exact trivial | refine ⟨rfl, ?_⟩)) (by rfl) (fun hb => ?_) fun hb => ?_
  · skip
    refine w_seq ?_
    refine w_region (by kernel_rfl) ?_
    refine o_assign gn rfl rfl ?_
    refine wl_end ?_
    refine w_ret ?_
    refine ⟨.inl rfl, _, rfl, ?_⟩
    exact ⟨by rw [partsS, if_neg hb1, if_pos (show o ∈ twos from of_decide_eq_true hb)]; rfl, rfl⟩
  have hb2 : o ∉ twos := of_decide_eq_false hb
  refine w_switch 3 [(3, 29), (4, 30), (5, 31), (6, 32), (7, 33), (18, 34), (19, 35)] [] (by kernel_rfl) rfl (by repeat (first | exact trivial | refine ⟨rfl, ?_⟩)) (by rfl) (fun hb => ?_) fun hb => ?_
  · skip
    refine w_seq ?_
    refine w_region (by kernel_rfl) ?_
    refine o_assign gn rfl rfl ?_
    refine wl_end ?_
    refine w_ret ?_
    refine ⟨.inl rfl, _, rfl, ?_⟩
    exact ⟨by rw [partsS, if_neg hb1, if_neg hb2, if_pos (show o ∈ threes from of_decide_eq_true hb)]; rfl, rfl⟩
  refine w_skip ?_
  refine w_seq ?_
  refine w_region (by kernel_rfl) ?_
  refine o_assign gn rfl rfl ?_
  refine wl_end ?_
  refine w_ret ?_
  refine ⟨.inl rfl, _, rfl, ?_⟩
  exact ⟨by rw [partsS, if_neg hb1, if_neg hb2, if_neg (show o ∉ threes from of_decide_eq_false hb)]; rfl, rfl⟩
end
end Go.Proofs.YtemdkcneolianaaGreatDoor

namespace Go.Proofs.YtemdkcneolianaaGreatDoor
open Go.X Go.May

section
variable {h g : Hp} {P : Prg} {lo cl gl fu co ev si sv : Value} {f : Int} {kb : Nat}
/-- root, the document's -/
theorem c17 (X : PrgAt h P lo cl gl fu co ev si) : C repE 17 [prgV P lo cl gl fu co ev si, iV f] h fun v h' => v = .bool (rootB P f) ∧ Ext h h' := by
  obtain ⟨-, -, -, ⟨fa, fc, rfl⟩, -⟩ := X.vals
  refine c_enter (fu := Tryz.f17) (by kernel_rfl) rfl ?_
  have S := SH.start h
  refine w_seq ?_
  refine w_region (by kernel_rfl) ?_
  refine s_box S gn rfl rfl fun b1 g nb1 S => ?_
  refine o_assign gn rfl rfl ?_
  refine wl_end ?_
  refine w_seq ?_
  refine w_region (by kernel_rfl) ?_
  refine o_move gn rfl rfl ?_
  refine o_fieldAddr (off := 3) gn rfl rfl (by kernel_rfl) ?_
  refine o_load gn rfl rfl (by kernel_rfl) (by first | exact S.cel 0 rfl | exact S.cel 1 rfl | exact S.cel 2 rfl) rfl ?_
  refine o_len gn rfl rfl (by kernel_rfl) ?_
  refine o_call [_, _] gn rfl rfl (by kernel_rfl) rfl (c_pure (c18) ⟨ag0, ?_⟩)
  refine o_move gn rfl rfl ?_
  refine o_and (B := decide (capsAt P f = 0)) (n := 7) rfl rfl rfl gn rfl (fun hb => by
      refine o_fieldAddr (off := 3) (gy rfl rfl rfl hb) rfl rfl (by kernel_rfl) ?_
      refine o_load (gy rfl rfl rfl hb) rfl rfl (by kernel_rfl) (by first | exact S.cel 0 rfl | exact S.cel 1 rfl | exact S.cel 2 rfl) rfl ?_
      refine o_move (gy rfl rfl rfl hb) rfl rfl ?_
      obtain ⟨b, o, c, cs, e, m, hv, hg, hlb, hf0, hf1, hw⟩ := X.caps hb
      have hta : fa = some ⟨b, o, none⟩ := by injection hv
      rw [hta]
      refine o_indexAddr (zz := 4) (gy rfl rfl rfl hb) rfl rfl rfl (by kernel_rfl) (by omega) (by omega) ?_
      refine o_fieldAddr (off := 1) (gy rfl rfl rfl hb) rfl rfl (by kernel_rfl) ?_
      refine o_load (gy rfl rfl rfl hb) rfl rfl (by kernel_rfl) (S.old0 hg hlb) hw ?_
      refine o_eqi (gy rfl rfl rfl hb) rfl rfl rfl ?_
      rw [← hta]
      exact wl_end ⟨rfl, rfl, 7, rfl, rfl⟩) ?_
  refine o_assign gn rfl rfl ?_
  refine wl_end ?_
  refine w_ret ?_
  refine ⟨.inl rfl, _, rfl, ?_⟩
  exact ⟨rfl, S.e0⟩
/-- root, the program's -/
theorem c185 (X : PrgAt h P lo cl gl fu co ev si) (hk : h.get kb = some (.cells (prgC P lo cl gl fu co ev si ++ [sv]) 253 0)) : CP repE 185 [ptrV kb, iV f] h (.bool (rootB P f)) := by
  obtain ⟨-, -, -, ⟨fa, fc, rfl⟩, -⟩ := X.vals
  refine c_enter (fu := Tryz.f185) (by kernel_rfl) rfl ?_
  have S := SH.start h
  refine w_seq ?_
  refine w_region (by kernel_rfl) ?_
  refine o_assign gn rfl rfl ?_
  refine wl_end ?_
  refine w_seq ?_
  refine w_region (by kernel_rfl) ?_
  refine o_move gn rfl rfl ?_
  refine o_move gn rfl rfl ?_
  refine o_nilCheck gn rfl rfl ?_
  refine o_fieldAddr (off := 0) gn rfl rfl (by kernel_rfl) ?_
  refine o_fieldAddr (off := 3) gn rfl rfl (by kernel_rfl) ?_
  refine o_load gn rfl rfl (by kernel_rfl) hk rfl ?_
  refine o_len gn rfl rfl (by kernel_rfl) ?_
  refine o_call [_, _] gn rfl rfl (by kernel_rfl) rfl (c_pure (c186) ⟨ag0, ?_⟩)
  refine o_move gn rfl rfl ?_
  refine o_and (B := decide (capsAt P f = 0)) (n := 10) rfl rfl rfl gn rfl (fun hb => by
      refine o_move (gy rfl rfl rfl hb) rfl rfl ?_
      refine o_nilCheck (gy rfl rfl rfl hb) rfl rfl ?_
      refine o_fieldAddr (off := 0) (gy rfl rfl rfl hb) rfl rfl (by kernel_rfl) ?_
      refine o_fieldAddr (off := 3) (gy rfl rfl rfl hb) rfl rfl (by kernel_rfl) ?_
      refine o_load (gy rfl rfl rfl hb) rfl rfl (by kernel_rfl) hk rfl ?_
      refine o_move (gy rfl rfl rfl hb) rfl rfl ?_
      obtain ⟨b, o, c, cs, e, m, hv, hg, hlb, hf0, hf1, hw⟩ := X.caps hb
      have hta : fa = some ⟨b, o, none⟩ := by injection hv
      rw [hta]
      refine o_indexAddr (zz := 4) (gy rfl rfl rfl hb) rfl rfl rfl (by kernel_rfl) (by omega) (by omega) ?_
      refine o_fieldAddr (off := 1) (gy rfl rfl rfl hb) rfl rfl (by kernel_rfl) ?_
      refine o_load (gy rfl rfl rfl hb) rfl rfl (by kernel_rfl) hg hw ?_
      refine o_eqi (gy rfl rfl rfl hb) rfl rfl rfl ?_
      rw [← hta]
      exact wl_end ⟨rfl, rfl, 10, rfl, rfl⟩) ?_
  refine o_assign gn rfl rfl ?_
  refine wl_end ?_
  refine w_ret ?_
  refine ⟨.inl rfl, _, rfl, ?_⟩
  exact ⟨rfl, rfl⟩
end
end Go.Proofs.YtemdkcneolianaaGreatDoor

namespace Go.Proofs.YtemdkcneolianaaGreatDoor
open Go.X Go.May

section
variable {h : Hp} {P : Prg} {lo cl gl fu co ev si cv lv : Value} {s : ByteArray} {F : Fun} {x : Ins} {ln : Int}
theorem abc_at {a b c : Int} {j : Nat} (hj : j < 3) : ([iV a, iV b, iV c] : List Value)[j]? = some (iV ([a, b, c][j])) := by
  match j, hj with
  | 0, _ => rfl
  | 1, _ => rfl
  | 2, _ => rfl
theorem mem2 {a b o : Int} (h : decide (o ∈ [a, b]) = true) : o = a ∨ o = b := by simpa using h
theorem mem2n {a b o : Int} (h : decide (o ∈ [a, b]) = false) : ¬ (o = a ∨ o = b) := by simpa using h
theorem l_neg {o : Int} {b : Bool} (h : (!decide (o = 21) || !b) = true) : (decide (o = 21) && b) = false := by
  cases b <;> simp_all
theorem l_pos {o : Int} {b : Bool} (h : (!decide (o = 21) || !b) = false) : (decide (o = 21) && b) = true := by
  cases b <;> simp_all
set_option maxHeartbeats 1000000 in
/-- instr -/
theorem c9 (X : PrgAt h P lo cl gl fu co ev si) (hx : RowV h lv (isV x.l)) (hxl : x.l.length ≤ 17592186043904) (hc : ∃ a c, cv = .slice a F.code.length c) : C repE 9 [prgV P lo cl gl fu co ev si, funV s F cv, insV x lv ln] h fun v h' => v = .bool (instrB P F x) ∧ Ext h h' := by
  obtain ⟨⟨oa, oc, rfl⟩, ⟨ca, cc, rfl⟩, ⟨ga, gc, rfl⟩, ⟨fa, fc, rfl⟩, -, ⟨ea, ec, rfl⟩, -⟩ := X.vals
  obtain ⟨va, vc, rfl⟩ := hc
  obtain ⟨la, lc, rfl⟩ := hx.valM
  have hr3 := regs3 x.op
  refine c_enter (fu := Tryz.f9) (by kernel_rfl) rfl ?_
  have S := SH.start h
  refine w_seq ?_
  refine w_region (by kernel_rfl) ?_
  refine s_box S gn rfl rfl fun b1 g nb1 S => ?_
  refine s_box S gn rfl rfl fun b2 g nb2 S => ?_
  refine s_box S gn rfl rfl fun b3 g nb3 S => ?_
  refine o_assign gn rfl rfl ?_
  refine wl_end ?_
  refine w_seq ?_
  refine w_seq ?_
  refine w_region (by kernel_rfl) ?_
  refine o_fieldAddr (off := 0) gn rfl rfl (by kernel_rfl) ?_
  refine o_load gn rfl rfl (by kernel_rfl) (by first | exact S.cel 0 rfl | exact S.cel 1 rfl | exact S.cel 2 rfl | exact S.cel 3 rfl | exact S.cel 4 rfl) rfl ?_
  refine o_lss gn rfl rfl rfl ?_
  refine o_move gn rfl rfl ?_
  refine o_or (n := 3) rfl rfl rfl gn rfl (fun hb => by
      refine o_fieldAddr (off := 0) (gy rfl rfl rfl hb) rfl rfl (by kernel_rfl) ?_
      refine o_load (gy rfl rfl rfl hb) rfl rfl (by kernel_rfl) (by first | exact S.cel 0 rfl | exact S.cel 1 rfl | exact S.cel 2 rfl | exact S.cel 3 rfl | exact S.cel 4 rfl) rfl ?_
      refine o_gtr (gy rfl rfl rfl hb) rfl rfl rfl ?_
      exact wl_end ⟨rfl, rfl, 3, rfl, rfl⟩) ?_
  refine wl_end ?_
  refine w_cond rfl (fun hb => ?_) fun hb => ?_
  · skip
    refine w_seq ?_
    refine w_region (by kernel_rfl) ?_
    refine o_assign gn rfl rfl ?_
    refine wl_end ?_
    refine w_ret ?_
    refine ⟨.inl rfl, _, rfl, ?_⟩
    exact ⟨by rw [instr_no1 (op_out hb)]; rfl, S.e0⟩
  refine w_skip ?_
  refine w_seq ?_
  have hop := op_in hb
  refine w_region (by kernel_rfl) ?_
  refine o_fieldAddr (off := 1) gn rfl rfl (by kernel_rfl) ?_
  refine o_load gn rfl rfl (by kernel_rfl) (by first | exact S.cel 0 rfl | exact S.cel 1 rfl | exact S.cel 2 rfl | exact S.cel 3 rfl | exact S.cel 4 rfl) rfl ?_
  refine o_fieldAddr (off := 2) gn rfl rfl (by kernel_rfl) ?_
  refine o_load gn rfl rfl (by kernel_rfl) (by first | exact S.cel 0 rfl | exact S.cel 1 rfl | exact S.cel 2 rfl | exact S.cel 3 rfl | exact S.cel 4 rfl) rfl ?_
  refine o_fieldAddr (off := 3) gn rfl rfl (by kernel_rfl) ?_
  refine o_load gn rfl rfl (by kernel_rfl) (by first | exact S.cel 0 rfl | exact S.cel 1 rfl | exact S.cel 2 rfl | exact S.cel 3 rfl | exact S.cel 4 rfl) rfl ?_
  refine s_buildSlice (e := 3) (z := 0) (zv := .int .i64 0) [(0, _), (1, _), (2, _)] S gn rfl (by kernel_rfl) (by kernel_rfl) (by kernel_rfl) (by kernel_rfl) rfl (by rfl) fun b4 g nb4 S => ?_
  refine o_assign gn rfl rfl ?_
  refine wl_end ?_
  refine w_seq ?_
  refine w_seq ?_
  refine w_region (by kernel_rfl) ?_
  refine o_assign gn rfl rfl ?_
  refine wl_end ?_
  refine w_block ?_
  refine w_loopS [(8, _)] [(3, _), (4, _), (5, _), (7, _)] (by repeat (first | exact trivial | refine ⟨rfl, ?_⟩)) (fun kk lv hh => ∃ j : Nat, lv = [(8, iV j)] ∧ kk = regsN x.op - j ∧ j ≤ regsN x.op ∧ SH h [] [cR b4 (.cells [iV x.a, iV x.b, iV x.c] 3 0), cR b3 (.cells (insC x (.slice la x.l.length lc) ln) 42 0), cR b2 (.cells (funC s F (.slice va F.code.length vc)) 38 0), cR b1 (.cells (prgC P (.slice oa P.loopers oc) (.slice ca P.classes.length cc) (.slice ga P.globals gc) (.slice fa P.funs.length fc) co (.slice ea P.events.length ec) si) 30 0)] hh ∧ (([x.a, x.b, x.c].take j).all fun r => inB r F.regs) = true) (n := (regsN x.op)) ?_ fun kk lv hh hI => ?_
  · exact ⟨0, rfl, rfl, by omega, S, rfl⟩
  obtain ⟨j, rfl, rfl, hj, S, hall⟩ := hI
  refine w_seq ?_
  refine w_seq ?_
  refine w_region (by kernel_rfl) ?_
  refine o_move gn rfl rfl ?_
  refine o_fieldAddr (off := 0) gn rfl rfl (by kernel_rfl) ?_
  refine o_load gn rfl rfl (by kernel_rfl) (by first | exact S.cel 0 rfl | exact S.cel 1 rfl | exact S.cel 2 rfl | exact S.cel 3 rfl | exact S.cel 4 rfl | exact S.cel 5 rfl) rfl ?_
  refine o_call [_] gn rfl rfl (by kernel_rfl) rfl (c_pure (c19) ⟨ag0, ?_⟩)
  refine o_lss gn rfl rfl rfl ?_
  refine wl_end ?_
  refine w_cond rfl (fun hb => ?_) fun hb => ?_
  · skip
    refine w_skip ?_
    refine w_seq ?_
    refine w_block ?_
    refine w_seq ?_
    have hj1 : j < regsN x.op := by simp at hb; omega
    have hj3 : j < 3 := by omega
    refine w_draw [(0, []), (1, []), (2, []), (3, []), (4, []), (5, []), (6, []), (7, [])] (by kernel_rfl) (by kernel_rfl) (by kernel_rfl) (by kernel_rfl) ?_
    refine o_move gn rfl rfl ?_
    refine o_move gn rfl rfl ?_
    refine o_indexAddr (zz := 1) gn rfl rfl rfl (by kernel_rfl) (by omega) (by omega) ?_
    refine o_load gn rfl rfl (by kernel_rfl) (S.cel 0 rfl) (by rw [Int.toNat_natCast, Nat.mul_one, Nat.zero_add]; exact abc_at hj3) ?_
    refine o_fieldAddr (off := 2) gn rfl rfl (by kernel_rfl) ?_
    refine o_load gn rfl rfl (by kernel_rfl) (by first | exact S.cel 0 rfl | exact S.cel 1 rfl | exact S.cel 2 rfl | exact S.cel 3 rfl | exact S.cel 4 rfl | exact S.cel 5 rfl) rfl ?_
    refine o_call [_, _] gn rfl rfl (by kernel_rfl) rfl (c_pure (c18) ⟨ag0, ?_⟩)
    refine o_not gn rfl rfl ?_
    refine wl_end ?_
    refine w_cond rfl (fun hb => ?_) fun hb => ?_
    · skip
      refine w_seq ?_
      refine w_region (by kernel_rfl) ?_
      refine o_assign gn rfl rfl ?_
      refine wl_end ?_
      refine w_ret ?_
      refine ⟨.inl rfl, _, rfl, ?_⟩
      exact ⟨by rw [instr_no2 (regs_fail hj1 hj3 (by simpa using hb))]; rfl, S.e0⟩
    refine w_skip ?_
    refine w_region (by kernel_rfl) ?_
    refine o_move gn rfl rfl ?_
    refine o_add gn rfl rfl rfl (by omega) (by omega) ?_
    refine o_assign gn rfl rfl ?_
    refine wl_end ?_
    exact rndS (regsN x.op - (j + 1)) (by omega) [(8, _)] (by repeat (first | exact trivial | refine ⟨rfl, ?_⟩)) ⟨j + 1, rfl, rfl, by omega, S, by rw [regs_step hj3, hall, Bool.true_and]; simpa using hb⟩
  refine w_exit ?_
  refine thn_exit ?_
  refine rnd_exit ?_
  refine blk_eq ?_
  refine w_seq ?_
  refine w_seq ?_
  have hje : j = regsN x.op := by simp at hb; omega
  subst hje
  have hregs : regsB F x = true := hall
  refine w_region (by kernel_rfl) ?_
  refine o_assign gn rfl rfl ?_
  refine wl_end ?_
  refine w_block ?_
  refine w_loopS [(9, _)] [(3, _), (4, _), (5, _)] (by repeat (first | exact trivial | refine ⟨rfl, ?_⟩)) (fun kk lv hh => ∃ j : Nat, lv = [(9, iV j)] ∧ kk = x.l.length - j ∧ j ≤ x.l.length ∧ SH h [] [cR b4 (.cells [iV x.a, iV x.b, iV x.c] 3 0), cR b3 (.cells (insC x (.slice la x.l.length lc) ln) 42 0), cR b2 (.cells (funC s F (.slice va F.code.length vc)) 38 0), cR b1 (.cells (prgC P (.slice oa P.loopers oc) (.slice ca P.classes.length cc) (.slice ga P.globals gc) (.slice fa P.funs.length fc) co (.slice ea P.events.length ec) si) 30 0)] hh ∧ ((x.l.take j).all fun r => decide (x.op = 21) && inB r F.regs) = true) (n := (x.l.length)) ?_ fun kk lv hh hI => ?_
  · exact ⟨0, rfl, rfl, by omega, S, rfl⟩
  obtain ⟨j, rfl, rfl, hj, S, hall⟩ := hI
  refine w_seq ?_
  refine w_seq ?_
  refine w_region (by kernel_rfl) ?_
  refine o_move gn rfl rfl ?_
  refine o_fieldAddr (off := 5) gn rfl rfl (by kernel_rfl) ?_
  refine o_load gn rfl rfl (by kernel_rfl) (by first | exact S.cel 0 rfl | exact S.cel 1 rfl | exact S.cel 2 rfl | exact S.cel 3 rfl | exact S.cel 4 rfl | exact S.cel 5 rfl) rfl ?_
  refine o_len gn rfl rfl (by kernel_rfl) ?_
  refine o_lss gn rfl rfl rfl ?_
  refine wl_end ?_
  refine w_cond rfl (fun hb => ?_) fun hb => ?_
  · skip
    refine w_skip ?_
    refine w_seq ?_
    refine w_block ?_
    refine w_seq ?_
    have hj1 : j < x.l.length := by simp at hb; omega
    refine w_draw [(0, []), (1, []), (2, []), (3, []), (4, []), (5, []), (6, []), (7, []), (8, []), (9, []), (10, []), (11, []), (12, []), (13, [])] (by kernel_rfl) (by kernel_rfl) (by kernel_rfl) (by kernel_rfl) ?_
    refine o_fieldAddr (off := 0) gn rfl rfl (by kernel_rfl) ?_
    refine o_load gn rfl rfl (by kernel_rfl) (by first | exact S.cel 0 rfl | exact S.cel 1 rfl | exact S.cel 2 rfl | exact S.cel 3 rfl | exact S.cel 4 rfl | exact S.cel 5 rfl) rfl ?_
    refine o_nei gn rfl rfl rfl ?_
    refine o_move gn rfl rfl ?_
    refine o_or (B := !inB x.l[j] F.regs) (n := 9) rfl rfl rfl gn rfl (fun hb => by
        refine o_fieldAddr (off := 5) (gy rfl rfl rfl hb) rfl rfl (by kernel_rfl) ?_
        refine o_load (gy rfl rfl rfl hb) rfl rfl (by kernel_rfl) (by first | exact S.cel 0 rfl | exact S.cel 1 rfl | exact S.cel 2 rfl | exact S.cel 3 rfl | exact S.cel 4 rfl | exact S.cel 5 rfl) rfl ?_
        refine o_move (gy rfl rfl rfl hb) rfl rfl ?_
        obtain ⟨b, o, c, cs, e, m, hv, hg, hlb, hat⟩ := hx.atM (by omega)
        have hta : la = some ⟨b, o, none⟩ := by injection hv
        rw [hta]
        refine o_indexAddr (zz := 1) (gy rfl rfl rfl hb) rfl rfl rfl (by kernel_rfl) (by omega) (by omega) ?_
        refine o_load (gy rfl rfl rfl hb) rfl rfl (by kernel_rfl) (S.old0 hg hlb) (by rw [Int.toNat_natCast, Nat.mul_one]; exact hat j hj1) ?_
        refine o_fieldAddr (off := 2) (gy rfl rfl rfl hb) rfl rfl (by kernel_rfl) ?_
        refine o_load (gy rfl rfl rfl hb) rfl rfl (by kernel_rfl) (by first | exact S.cel 0 rfl | exact S.cel 1 rfl | exact S.cel 2 rfl | exact S.cel 3 rfl | exact S.cel 4 rfl | exact S.cel 5 rfl) rfl ?_
        rw [← hta]
        refine o_call [_, _] (gy rfl rfl rfl hb) rfl rfl (by kernel_rfl) rfl (c_pure (c18) ⟨ag0, ?_⟩)
        refine o_not (gy rfl rfl rfl hb) rfl rfl ?_
        exact wl_end ⟨rfl, rfl, 9, rfl, rfl⟩) ?_
    refine wl_end ?_
    refine w_cond rfl (fun hb => ?_) fun hb => ?_
    · skip
      refine w_seq ?_
      refine w_region (by kernel_rfl) ?_
      refine o_assign gn rfl rfl ?_
      refine wl_end ?_
      refine w_ret ?_
      refine ⟨.inl rfl, _, rfl, ?_⟩
      exact ⟨by rw [instr_no3 (l_fail hj1 (l_neg hb))]; rfl, S.e0⟩
    refine w_skip ?_
    refine w_region (by kernel_rfl) ?_
    refine o_move gn rfl rfl ?_
    refine o_add gn rfl rfl rfl (by omega) (by omega) ?_
    refine o_assign gn rfl rfl ?_
    refine wl_end ?_
    exact rndS (x.l.length - (j + 1)) (by omega) [(9, _)] (by repeat (first | exact trivial | refine ⟨rfl, ?_⟩)) ⟨j + 1, rfl, rfl, by omega, S, by rw [l_step hj1, hall, Bool.true_and]; exact l_pos hb⟩
  refine w_exit ?_
  refine thn_exit ?_
  refine rnd_exit ?_
  refine blk_eq ?_
  refine w_seq ?_
  refine w_seq ?_
  have hje : j = x.l.length := by simp at hb; omega
  have hl : lB F x = true := by rw [hje, List.take_length] at hall; exact hall
  have hI := instr_yes (P := P) hop hregs hl
  unfold namedB at hI
  refine w_region (by kernel_rfl) ?_
  refine o_fieldAddr (off := 0) gn rfl rfl (by kernel_rfl) ?_
  refine o_load gn rfl rfl (by kernel_rfl) (by first | exact S.cel 0 rfl | exact S.cel 1 rfl | exact S.cel 2 rfl | exact S.cel 3 rfl | exact S.cel 4 rfl | exact S.cel 5 rfl) rfl ?_
  refine wl_end ?_
  refine w_block ?_
  refine w_switch 62 [(9, 64), (10, 65)] [(3, _), (4, _), (5, _), (62, _)] (by kernel_rfl) rfl (by repeat (first | exact trivial | refine ⟨rfl, ?_⟩)) (by rfl) (fun hb => ?_) fun hb => ?_
  · skip
    refine w_seq ?_
    refine w_region (by kernel_rfl) ?_
    refine o_fieldAddr (off := 4) gn rfl rfl (by kernel_rfl) ?_
    refine o_load gn rfl rfl (by kernel_rfl) (by first | exact S.cel 0 rfl | exact S.cel 1 rfl | exact S.cel 2 rfl | exact S.cel 3 rfl | exact S.cel 4 rfl | exact S.cel 5 rfl) rfl ?_
    refine o_fieldAddr (off := 2) gn rfl rfl (by kernel_rfl) ?_
    refine o_load gn rfl rfl (by kernel_rfl) (by first | exact S.cel 0 rfl | exact S.cel 1 rfl | exact S.cel 2 rfl | exact S.cel 3 rfl | exact S.cel 4 rfl | exact S.cel 5 rfl) rfl ?_
    refine o_len gn rfl rfl (by kernel_rfl) ?_
    refine o_call [_, _] gn rfl rfl (by kernel_rfl) rfl (c_pure (c18) ⟨ag0, ?_⟩)
    refine o_assign gn rfl rfl ?_
    refine wl_end ?_
    refine w_ret ?_
    refine ⟨.inl rfl, _, rfl, ?_⟩
    exact ⟨by rw [hI, if_pos (mem2 hb)]; rfl, S.e0⟩
  refine w_seq ?_
  rw [if_neg (mem2n hb)] at hI
  refine w_region (by kernel_rfl) ?_
  refine o_eqi gn rfl rfl rfl ?_
  refine o_assign gn rfl rfl ?_
  refine wl_end ?_
  refine w_cond rfl (fun hb => ?_) fun hb => ?_
  · skip
    refine w_seq ?_
    refine w_region (by kernel_rfl) ?_
    refine o_fieldAddr (off := 4) gn rfl rfl (by kernel_rfl) ?_
    refine o_load gn rfl rfl (by kernel_rfl) (by first | exact S.cel 0 rfl | exact S.cel 1 rfl | exact S.cel 2 rfl | exact S.cel 3 rfl | exact S.cel 4 rfl | exact S.cel 5 rfl) rfl ?_
    refine o_fieldAddr (off := 1) gn rfl rfl (by kernel_rfl) ?_
    refine o_load gn rfl rfl (by kernel_rfl) (by first | exact S.cel 0 rfl | exact S.cel 1 rfl | exact S.cel 2 rfl | exact S.cel 3 rfl | exact S.cel 4 rfl | exact S.cel 5 rfl) rfl ?_
    refine o_len gn rfl rfl (by kernel_rfl) ?_
    refine o_call [_, _] gn rfl rfl (by kernel_rfl) rfl (c_pure (c18) ⟨ag0, ?_⟩)
    refine o_assign gn rfl rfl ?_
    refine wl_end ?_
    refine w_ret ?_
    refine ⟨.inl rfl, _, rfl, ?_⟩
    exact ⟨by rw [hI, if_pos (of_decide_eq_true hb)]; rfl, S.e0⟩
  refine w_seq ?_
  rw [if_neg (of_decide_eq_false hb)] at hI
  refine w_region (by kernel_rfl) ?_
  refine o_eqi gn rfl rfl rfl ?_
  refine o_assign gn rfl rfl ?_
  refine wl_end ?_
  refine w_cond rfl (fun hb => ?_) fun hb => ?_
  · skip
    refine w_seq ?_
    rw [if_pos (of_decide_eq_true hb)] at hI
    refine w_draw [(0, []), (1, []), (2, []), (3, []), (4, []), (5, []), (6, []), (7, []), (8, []), (9, []), (10, []), (11, []), (12, []), (13, []), (14, []), (15, []), (16, []), (17, []), (18, []), (19, [])] (by kernel_rfl) (by kernel_rfl) (by kernel_rfl) (by kernel_rfl) ?_
    refine o_fieldAddr (off := 4) gn rfl rfl (by kernel_rfl) ?_
    refine o_load gn rfl rfl (by kernel_rfl) (by first | exact S.cel 0 rfl | exact S.cel 1 rfl | exact S.cel 2 rfl | exact S.cel 3 rfl | exact S.cel 4 rfl | exact S.cel 5 rfl) rfl ?_
    refine o_fieldAddr (off := 3) gn rfl rfl (by kernel_rfl) ?_
    refine o_load gn rfl rfl (by kernel_rfl) (by first | exact S.cel 0 rfl | exact S.cel 1 rfl | exact S.cel 2 rfl | exact S.cel 3 rfl | exact S.cel 4 rfl | exact S.cel 5 rfl) rfl ?_
    refine o_len gn rfl rfl (by kernel_rfl) ?_
    refine o_call [_, _] gn rfl rfl (by kernel_rfl) rfl (c_pure (c18) ⟨ag0, ?_⟩)
    refine o_move gn rfl rfl ?_
    refine o_and (B := decide (capsAt P x.n = x.l.length)) (n := 11) rfl rfl rfl gn rfl (fun hb => by
        refine o_fieldAddr (off := 3) (gy rfl rfl rfl hb) rfl rfl (by kernel_rfl) ?_
        refine o_load (gy rfl rfl rfl hb) rfl rfl (by kernel_rfl) (by first | exact S.cel 0 rfl | exact S.cel 1 rfl | exact S.cel 2 rfl | exact S.cel 3 rfl | exact S.cel 4 rfl | exact S.cel 5 rfl) rfl ?_
        refine o_fieldAddr (off := 4) (gy rfl rfl rfl hb) rfl rfl (by kernel_rfl) ?_
        refine o_load (gy rfl rfl rfl hb) rfl rfl (by kernel_rfl) (by first | exact S.cel 0 rfl | exact S.cel 1 rfl | exact S.cel 2 rfl | exact S.cel 3 rfl | exact S.cel 4 rfl | exact S.cel 5 rfl) rfl ?_
        obtain ⟨b, o, c, cs, e, m, hv, hg, hlb, hf0, hf1, hw⟩ := X.caps hb
        have hta : fa = some ⟨b, o, none⟩ := by injection hv
        rw [hta]
        refine o_indexAddr (zz := 4) (gy rfl rfl rfl hb) rfl rfl rfl (by kernel_rfl) (by omega) (by omega) ?_
        refine o_fieldAddr (off := 1) (gy rfl rfl rfl hb) rfl rfl (by kernel_rfl) ?_
        refine o_load (gy rfl rfl rfl hb) rfl rfl (by kernel_rfl) (S.old0 hg hlb) hw ?_
        rw [← hta]
        refine o_fieldAddr (off := 5) (gy rfl rfl rfl hb) rfl rfl (by kernel_rfl) ?_
        refine o_load (gy rfl rfl rfl hb) rfl rfl (by kernel_rfl) (by first | exact S.cel 0 rfl | exact S.cel 1 rfl | exact S.cel 2 rfl | exact S.cel 3 rfl | exact S.cel 4 rfl | exact S.cel 5 rfl) rfl ?_
        refine o_len (gy rfl rfl rfl hb) rfl rfl (by kernel_rfl) ?_
        refine o_eqi (gy rfl rfl rfl hb) rfl rfl rfl ?_
        exact wl_end ⟨rfl, rfl, 11, rfl, rfl⟩) ?_
    refine o_assign gn rfl rfl ?_
    refine wl_end ?_
    refine w_ret ?_
    refine ⟨.inl rfl, _, rfl, ?_⟩
    exact ⟨by rw [hI]; rfl, S.e0⟩
  refine w_seq ?_
  rw [if_neg (of_decide_eq_false hb)] at hI
  refine w_region (by kernel_rfl) ?_
  refine o_eqi gn rfl rfl rfl ?_
  refine o_assign gn rfl rfl ?_
  refine wl_end ?_
  refine w_cond rfl (fun hb => ?_) fun hb => ?_
  · skip
    refine w_seq ?_
    refine w_region (by kernel_rfl) ?_
    refine o_fieldAddr (off := 3) gn rfl rfl (by kernel_rfl) ?_
    refine o_load gn rfl rfl (by kernel_rfl) (by first | exact S.cel 0 rfl | exact S.cel 1 rfl | exact S.cel 2 rfl | exact S.cel 3 rfl | exact S.cel 4 rfl | exact S.cel 5 rfl) rfl ?_
    refine o_fieldAddr (off := 0) gn rfl rfl (by kernel_rfl) ?_
    refine o_load gn rfl rfl (by kernel_rfl) (by first | exact S.cel 0 rfl | exact S.cel 1 rfl | exact S.cel 2 rfl | exact S.cel 3 rfl | exact S.cel 4 rfl | exact S.cel 5 rfl) rfl ?_
    refine o_len gn rfl rfl (by kernel_rfl) ?_
    refine o_call [_, _] gn rfl rfl (by kernel_rfl) rfl (c_pure (c18) ⟨ag0, ?_⟩)
    refine o_move gn rfl rfl ?_
    refine o_and (n := 3) rfl rfl rfl gn rfl (fun hb => by
        refine o_fieldAddr (off := 4) (gy rfl rfl rfl hb) rfl rfl (by kernel_rfl) ?_
        refine o_load (gy rfl rfl rfl hb) rfl rfl (by kernel_rfl) (by first | exact S.cel 0 rfl | exact S.cel 1 rfl | exact S.cel 2 rfl | exact S.cel 3 rfl | exact S.cel 4 rfl | exact S.cel 5 rfl) rfl ?_
        refine o_call [_, _] (gy rfl rfl rfl hb) rfl rfl (by kernel_rfl) rfl (c_pure (c18) ⟨ag0, ?_⟩)
        exact wl_end ⟨rfl, rfl, 3, rfl, rfl⟩) ?_
    refine o_assign gn rfl rfl ?_
    refine wl_end ?_
    refine w_ret ?_
    refine ⟨.inl rfl, _, rfl, ?_⟩
    exact ⟨by rw [hI, if_pos (of_decide_eq_true hb)]; rfl, S.e0⟩
  refine w_seq ?_
  rw [if_neg (of_decide_eq_false hb)] at hI
  refine w_region (by kernel_rfl) ?_
  refine o_eqi gn rfl rfl rfl ?_
  refine o_assign gn rfl rfl ?_
  refine wl_end ?_
  refine w_cond rfl (fun hb => ?_) fun hb => ?_
  · skip
    refine w_seq ?_
    refine w_region (by kernel_rfl) ?_
    refine o_fieldAddr (off := 3) gn rfl rfl (by kernel_rfl) ?_
    refine o_load gn rfl rfl (by kernel_rfl) (by first | exact S.cel 0 rfl | exact S.cel 1 rfl | exact S.cel 2 rfl | exact S.cel 3 rfl | exact S.cel 4 rfl | exact S.cel 5 rfl) rfl ?_
    refine o_fieldAddr (off := 0) gn rfl rfl (by kernel_rfl) ?_
    refine o_load gn rfl rfl (by kernel_rfl) (by first | exact S.cel 0 rfl | exact S.cel 1 rfl | exact S.cel 2 rfl | exact S.cel 3 rfl | exact S.cel 4 rfl | exact S.cel 5 rfl) rfl ?_
    refine o_len gn rfl rfl (by kernel_rfl) ?_
    refine o_call [_, _] gn rfl rfl (by kernel_rfl) rfl (c_pure (c18) ⟨ag0, ?_⟩)
    refine o_assign gn rfl rfl ?_
    refine wl_end ?_
    refine w_ret ?_
    refine ⟨.inl rfl, _, rfl, ?_⟩
    exact ⟨by rw [hI, if_pos (of_decide_eq_true hb)]; rfl, S.e0⟩
  rw [if_neg (of_decide_eq_false hb)] at hI
  refine w_switch 62 [(26, 123), (27, 124)] [(3, _), (4, _), (5, _), (62, _)] (by kernel_rfl) rfl (by repeat (first | exact trivial | refine ⟨rfl, ?_⟩)) (by rfl) (fun hb => ?_) fun hb => ?_
  · skip
    refine w_seq ?_
    refine w_region (by kernel_rfl) ?_
    refine o_fieldAddr (off := 4) gn rfl rfl (by kernel_rfl) ?_
    refine o_load gn rfl rfl (by kernel_rfl) (by first | exact S.cel 0 rfl | exact S.cel 1 rfl | exact S.cel 2 rfl | exact S.cel 3 rfl | exact S.cel 4 rfl | exact S.cel 5 rfl) rfl ?_
    refine o_fieldAddr (off := 5) gn rfl rfl (by kernel_rfl) ?_
    refine o_load gn rfl rfl (by kernel_rfl) (by first | exact S.cel 0 rfl | exact S.cel 1 rfl | exact S.cel 2 rfl | exact S.cel 3 rfl | exact S.cel 4 rfl | exact S.cel 5 rfl) rfl ?_
    refine o_len gn rfl rfl (by kernel_rfl) ?_
    refine o_call [_, _] gn rfl rfl (by kernel_rfl) rfl (c_pure (c18) ⟨ag0, ?_⟩)
    refine o_assign gn rfl rfl ?_
    refine wl_end ?_
    refine w_ret ?_
    refine ⟨.inl rfl, _, rfl, ?_⟩
    exact ⟨by rw [hI, if_pos (mem2 hb)]; rfl, S.e0⟩
  rw [if_neg (mem2n hb)] at hI
  refine w_switch 62 [(31, 132), (32, 133)] [(4, _), (5, _)] (by kernel_rfl) rfl (by repeat (first | exact trivial | refine ⟨rfl, ?_⟩)) (by rfl) (fun hb => ?_) fun hb => ?_
  · skip
    refine w_seq ?_
    refine w_region (by kernel_rfl) ?_
    refine o_fieldAddr (off := 4) gn rfl rfl (by kernel_rfl) ?_
    refine o_load gn rfl rfl (by kernel_rfl) (by first | exact S.cel 0 rfl | exact S.cel 1 rfl | exact S.cel 2 rfl | exact S.cel 3 rfl | exact S.cel 4 rfl | exact S.cel 5 rfl) rfl ?_
    refine o_fieldAddr (off := 3) gn rfl rfl (by kernel_rfl) ?_
    refine o_load gn rfl rfl (by kernel_rfl) (by first | exact S.cel 0 rfl | exact S.cel 1 rfl | exact S.cel 2 rfl | exact S.cel 3 rfl | exact S.cel 4 rfl | exact S.cel 5 rfl) rfl ?_
    refine o_len gn rfl rfl (by kernel_rfl) ?_
    refine o_call [_, _] gn rfl rfl (by kernel_rfl) rfl (c_pure (c18) ⟨ag0, ?_⟩)
    refine o_assign gn rfl rfl ?_
    refine wl_end ?_
    refine w_ret ?_
    refine ⟨.inl rfl, _, rfl, ?_⟩
    exact ⟨by rw [hI, if_pos (mem2 hb)]; rfl, S.e0⟩
  refine w_skip ?_
  refine w_seq ?_
  refine w_region (by kernel_rfl) ?_
  refine o_assign gn rfl rfl ?_
  refine wl_end ?_
  refine w_ret ?_
  refine ⟨.inl rfl, _, rfl, ?_⟩
  exact ⟨by rw [hI, if_neg (mem2n hb)]; rfl, S.e0⟩
end
end Go.Proofs.YtemdkcneolianaaGreatDoor

namespace Go.Proofs.YtemdkcneolianaaGreatDoor
open Go.X Go.May

section
variable {h : Hp} {P : Prg} {lo cl gl fu co ev si : Value}
set_option maxHeartbeats 2000000 in
/-- parts -/
theorem c8 (X : PrgAt h P lo cl gl fu co ev si) : C repE 8 [prgV P lo cl gl fu co ev si] h fun v h' => v = .bool (partsB P) ∧ Ext h h' := by
  obtain ⟨⟨oa, oc, rfl⟩, ⟨ca, cc, rfl⟩, ⟨ga, gc, rfl⟩, ⟨fa, fc, rfl⟩, ⟨pa, pc, rfl⟩, ⟨ea, ec, rfl⟩, -⟩ := X.vals
  have hz1 := X.zcl
  have hz2 := X.zco
  have hz3 := X.zev
  refine c_enter (fu := Tryz.f8) (by kernel_rfl) rfl ?_
  have S := SH.start h
  refine w_seq ?_
  refine w_region (by kernel_rfl) ?_
  refine s_box S gn rfl rfl fun b1 g nb1 S => ?_
  refine o_assign gn rfl rfl ?_
  refine wl_end ?_
  refine w_seq ?_
  refine w_seq ?_
  refine w_region (by kernel_rfl) ?_
  refine o_fieldAddr (off := 0) gn rfl rfl (by kernel_rfl) ?_
  refine o_load gn rfl rfl (by kernel_rfl) (by first | exact S.cel 0 rfl | exact S.cel 1 rfl | exact S.cel 2 rfl) rfl ?_
  refine o_len gn rfl rfl (by kernel_rfl) ?_
  refine o_lss gn rfl rfl rfl ?_
  refine o_move gn rfl rfl ?_
  refine o_or (n := 4) rfl rfl rfl gn rfl (fun hb => by
      refine o_fieldAddr (off := 0) (gy rfl rfl rfl hb) rfl rfl (by kernel_rfl) ?_
      refine o_load (gy rfl rfl rfl hb) rfl rfl (by kernel_rfl) (by first | exact S.cel 0 rfl | exact S.cel 1 rfl | exact S.cel 2 rfl) rfl ?_
      refine o_len (gy rfl rfl rfl hb) rfl rfl (by kernel_rfl) ?_
      refine o_gtr (gy rfl rfl rfl hb) rfl rfl rfl ?_
      exact wl_end ⟨rfl, rfl, 4, rfl, rfl⟩) ?_
  refine o_move gn rfl rfl ?_
  refine o_or (n := 4) rfl rfl rfl gn rfl (fun hb => by
      refine o_fieldAddr (off := 1) (gy rfl rfl rfl hb) rfl rfl (by kernel_rfl) ?_
      refine o_load (gy rfl rfl rfl hb) rfl rfl (by kernel_rfl) (by first | exact S.cel 0 rfl | exact S.cel 1 rfl | exact S.cel 2 rfl) rfl ?_
      refine o_len (gy rfl rfl rfl hb) rfl rfl (by kernel_rfl) ?_
      refine o_gtr (gy rfl rfl rfl hb) rfl rfl rfl ?_
      exact wl_end ⟨rfl, rfl, 4, rfl, rfl⟩) ?_
  refine o_move gn rfl rfl ?_
  refine o_or (n := 4) rfl rfl rfl gn rfl (fun hb => by
      refine o_fieldAddr (off := 2) (gy rfl rfl rfl hb) rfl rfl (by kernel_rfl) ?_
      refine o_load (gy rfl rfl rfl hb) rfl rfl (by kernel_rfl) (by first | exact S.cel 0 rfl | exact S.cel 1 rfl | exact S.cel 2 rfl) rfl ?_
      refine o_len (gy rfl rfl rfl hb) rfl rfl (by kernel_rfl) ?_
      refine o_gtr (gy rfl rfl rfl hb) rfl rfl rfl ?_
      exact wl_end ⟨rfl, rfl, 4, rfl, rfl⟩) ?_
  refine o_move gn rfl rfl ?_
  refine o_or (n := 4) rfl rfl rfl gn rfl (fun hb => by
      refine o_fieldAddr (off := 4) (gy rfl rfl rfl hb) rfl rfl (by kernel_rfl) ?_
      refine o_load (gy rfl rfl rfl hb) rfl rfl (by kernel_rfl) (by first | exact S.cel 0 rfl | exact S.cel 1 rfl | exact S.cel 2 rfl) rfl ?_
      refine o_len (gy rfl rfl rfl hb) rfl rfl (by kernel_rfl) ?_
      refine o_gtr (gy rfl rfl rfl hb) rfl rfl rfl ?_
      exact wl_end ⟨rfl, rfl, 4, rfl, rfl⟩) ?_
  refine o_move gn rfl rfl ?_
  refine o_or (n := 4) rfl rfl rfl gn rfl (fun hb => by
      refine o_fieldAddr (off := 5) (gy rfl rfl rfl hb) rfl rfl (by kernel_rfl) ?_
      refine o_load (gy rfl rfl rfl hb) rfl rfl (by kernel_rfl) (by first | exact S.cel 0 rfl | exact S.cel 1 rfl | exact S.cel 2 rfl) rfl ?_
      refine o_len (gy rfl rfl rfl hb) rfl rfl (by kernel_rfl) ?_
      refine o_gtr (gy rfl rfl rfl hb) rfl rfl rfl ?_
      exact wl_end ⟨rfl, rfl, 4, rfl, rfl⟩) ?_
  refine o_move gn rfl rfl ?_
  refine o_or (n := 4) rfl rfl rfl gn rfl (fun hb => by
      refine o_fieldAddr (off := 3) (gy rfl rfl rfl hb) rfl rfl (by kernel_rfl) ?_
      refine o_load (gy rfl rfl rfl hb) rfl rfl (by kernel_rfl) (by first | exact S.cel 0 rfl | exact S.cel 1 rfl | exact S.cel 2 rfl) rfl ?_
      refine o_len (gy rfl rfl rfl hb) rfl rfl (by kernel_rfl) ?_
      refine o_lss (gy rfl rfl rfl hb) rfl rfl rfl ?_
      exact wl_end ⟨rfl, rfl, 4, rfl, rfl⟩) ?_
  refine o_move gn rfl rfl ?_
  refine o_or (n := 4) rfl rfl rfl gn rfl (fun hb => by
      refine o_fieldAddr (off := 3) (gy rfl rfl rfl hb) rfl rfl (by kernel_rfl) ?_
      refine o_load (gy rfl rfl rfl hb) rfl rfl (by kernel_rfl) (by first | exact S.cel 0 rfl | exact S.cel 1 rfl | exact S.cel 2 rfl) rfl ?_
      refine o_len (gy rfl rfl rfl hb) rfl rfl (by kernel_rfl) ?_
      refine o_gtr (gy rfl rfl rfl hb) rfl rfl rfl ?_
      exact wl_end ⟨rfl, rfl, 4, rfl, rfl⟩) ?_
  refine o_move gn rfl rfl ?_
  refine wl_split (dc := 53) rfl (fun hb53 => ?_) fun hb53 => ?_
  · skip
    refine wl_skips (n := 5) (dc := 53) (w := false) rfl hb53 rfl ?_
    refine o_pickt gn rfl rfl hb53 rfl ?_
    refine wl_end ?_
    refine w_cond rfl (fun hb => ?_) fun hb => ?_
    · skip
      refine w_seq ?_
      refine w_region (by kernel_rfl) ?_
      refine o_assign gn rfl rfl ?_
      refine wl_end ?_
      refine w_ret ?_
      refine ⟨.inl rfl, _, rfl, ?_⟩
      exact ⟨by rw [size_no hb53]; rfl, S.e0⟩
    exact absurd hb (by decide)
  refine o_loadA (n := 8) (gy rfl rfl rfl hb53) rfl rfl (by kernel_rfl) (by kernel_rfl) (by first | exact S.cel 0 rfl | exact S.cel 1 rfl | exact S.cel 2 rfl) (by first | decide | exact Nat.le_refl _ | (simp; done)) ?_
  refine o_fieldAddr (off := 6) (gy rfl rfl rfl hb53) rfl rfl (by kernel_rfl) ?_
  refine o_load (gy rfl rfl rfl hb53) rfl rfl (by kernel_rfl) (by first | exact S.cel 0 rfl | exact S.cel 1 rfl | exact S.cel 2 rfl) rfl ?_
  refine o_call [_, _] (gy rfl rfl rfl hb53) rfl rfl (by kernel_rfl) rfl (C.mono (c17 (X.ext S.e0)) ?_)
  rintro v g ⟨rfl, x⟩
  have S := S.grow x
  refine ⟨ag0, ?_⟩
  refine o_not (gy rfl rfl rfl hb53) rfl rfl ?_
  refine o_pickf gn rfl rfl hb53 rfl ?_
  refine wl_end ?_
  refine w_cond rfl (fun hb => ?_) fun hb => ?_
  · skip
    refine w_seq ?_
    refine w_region (by kernel_rfl) ?_
    refine o_assign gn rfl rfl ?_
    refine wl_end ?_
    refine w_ret ?_
    refine ⟨.inl rfl, _, rfl, ?_⟩
    exact ⟨by rw [size_root hb53 (by simpa using hb)]; rfl, S.e0⟩
  refine w_skip ?_
  refine w_seq ?_
  refine w_seq ?_
  have hR := parts_yes hb53 (by simpa using hb)
  refine w_region (by kernel_rfl) ?_
  refine o_assign gn rfl rfl ?_
  refine wl_end ?_
  refine w_block ?_
  refine w_loopS [(3, _)] [(1, _)] (by repeat (first | exact trivial | refine ⟨rfl, ?_⟩)) (fun kk lv hh => ∃ j : Nat, lv = [(3, iV j)] ∧ kk = P.classes.length - j ∧ j ≤ P.classes.length ∧ SH h [] [cR b1 (.cells (prgC P (.slice oa P.loopers oc) (.slice ca P.classes.length cc) (.slice ga P.globals gc) (.slice fa P.funs.length fc) (.slice pa P.comps.length pc) (.slice ea P.events.length ec) si) 30 0)] hh ∧ (P.classes.take j).all classB = true) (n := (P.classes.length)) ?_ fun kk lv hh hI => ?_
  · exact ⟨0, rfl, rfl, by omega, S, rfl⟩
  obtain ⟨j, rfl, rfl, hj, S, hall⟩ := hI
  refine w_seq ?_
  refine w_seq ?_
  refine w_region (by kernel_rfl) ?_
  refine o_move gn rfl rfl ?_
  refine o_fieldAddr (off := 1) gn rfl rfl (by kernel_rfl) ?_
  refine o_load gn rfl rfl (by kernel_rfl) (by first | exact S.cel 0 rfl | exact S.cel 1 rfl | exact S.cel 2 rfl) rfl ?_
  refine o_len gn rfl rfl (by kernel_rfl) ?_
  refine o_lss gn rfl rfl rfl ?_
  refine wl_end ?_
  refine w_cond rfl (fun hb => ?_) fun hb => ?_
  · skip
    refine w_skip ?_
    refine w_seq ?_
    refine w_block ?_
    refine w_seq ?_
    have hj1 : j < P.classes.length := by simp at hb; omega
    obtain ⟨b, o, c, cs, e, m, hv, hg, hlb, hl6, hat⟩ := X.cl.at (by omega)
    have hta : ca = some ⟨b, o, none⟩ := by injection hv
    obtain ⟨a1, a2, a3, a4, hw1, hw2⟩ := (hat j hj1).at
    refine w_draw [(0, []), (1, []), (2, []), (3, []), (4, []), (5, []), (6, []), (7, []), (8, []), (9, []), (10, []), (11, []), (12, []), (13, []), (14, []), (15, []), (16, []), (17, []), (18, []), (19, []), (20, []), (21, []), (22, []), (23, []), (24, [])] (by kernel_rfl) (by kernel_rfl) (by kernel_rfl) (by kernel_rfl) ?_
    refine o_fieldAddr (off := 1) gn rfl rfl (by kernel_rfl) ?_
    refine o_load gn rfl rfl (by kernel_rfl) (by first | exact S.cel 0 rfl | exact S.cel 1 rfl | exact S.cel 2 rfl) rfl ?_
    refine o_move gn rfl rfl ?_
    rw [hta]
    refine o_indexAddr (zz := 3) gn rfl rfl rfl (by kernel_rfl) (by omega) (by omega) ?_
    refine o_fieldAddr (off := 2) gn rfl rfl (by kernel_rfl) ?_
    refine o_load gn rfl rfl (by kernel_rfl) (S.old0 hg hlb) (by rw [Int.toNat_natCast]; exact hw2) ?_
    rw [← hta]
    refine o_len gn rfl rfl (by kernel_rfl) ?_
    refine o_gtr gn rfl rfl rfl ?_
    refine o_move gn rfl rfl ?_
    refine o_or (n := 15) rfl rfl rfl gn rfl (fun hb => by
        refine o_fieldAddr (off := 1) (gy rfl rfl rfl hb) rfl rfl (by kernel_rfl) ?_
        refine o_load (gy rfl rfl rfl hb) rfl rfl (by kernel_rfl) (by first | exact S.cel 0 rfl | exact S.cel 1 rfl | exact S.cel 2 rfl) rfl ?_
        refine o_move (gy rfl rfl rfl hb) rfl rfl ?_
        rw [hta]
        refine o_indexAddr (zz := 3) (gy rfl rfl rfl hb) rfl rfl rfl (by kernel_rfl) (by omega) (by omega) ?_
        refine o_fieldAddr (off := 1) (gy rfl rfl rfl hb) rfl rfl (by kernel_rfl) ?_
        refine o_load (gy rfl rfl rfl hb) rfl rfl (by kernel_rfl) (S.old0 hg hlb) (by rw [Int.toNat_natCast]; exact hw1) ?_
        rw [← hta]
        refine o_len (gy rfl rfl rfl hb) rfl rfl (by kernel_rfl) ?_
        refine o_fieldAddr (off := 1) (gy rfl rfl rfl hb) rfl rfl (by kernel_rfl) ?_
        refine o_load (gy rfl rfl rfl hb) rfl rfl (by kernel_rfl) (by first | exact S.cel 0 rfl | exact S.cel 1 rfl | exact S.cel 2 rfl) rfl ?_
        refine o_move (gy rfl rfl rfl hb) rfl rfl ?_
        rw [hta]
        refine o_indexAddr (zz := 3) (gy rfl rfl rfl hb) rfl rfl rfl (by kernel_rfl) (by omega) (by omega) ?_
        refine o_fieldAddr (off := 2) (gy rfl rfl rfl hb) rfl rfl (by kernel_rfl) ?_
        refine o_load (gy rfl rfl rfl hb) rfl rfl (by kernel_rfl) (S.old0 hg hlb) (by rw [Int.toNat_natCast]; exact hw2) ?_
        rw [← hta]
        refine o_len (gy rfl rfl rfl hb) rfl rfl (by kernel_rfl) ?_
        refine o_nei (gy rfl rfl rfl hb) rfl rfl rfl ?_
        exact wl_end ⟨rfl, rfl, 15, rfl, rfl⟩) ?_
    refine wl_end ?_
    refine w_cond rfl (fun hb => ?_) fun hb => ?_
    · skip
      refine w_seq ?_
      refine w_region (by kernel_rfl) ?_
      refine o_assign gn rfl rfl ?_
      refine wl_end ?_
      refine w_ret ?_
      refine ⟨.inl rfl, _, rfl, ?_⟩
      exact ⟨by rw [hR, all_fail hj1 (class_no hb)]; rfl, S.e0⟩
    refine w_skip ?_
    refine w_region (by kernel_rfl) ?_
    refine o_move gn rfl rfl ?_
    refine o_add gn rfl rfl rfl (by omega) (by omega) ?_
    refine o_assign gn rfl rfl ?_
    refine wl_end ?_
    exact rndS (P.classes.length - (j + 1)) (by omega) [(3, _)] (by repeat (first | exact trivial | refine ⟨rfl, ?_⟩)) ⟨j + 1, rfl, rfl, by omega, S, by rw [all_step hj1, hall, class_yes hb]; rfl⟩
  refine w_exit ?_
  refine thn_exit ?_
  refine rnd_exit ?_
  refine blk_eq ?_
  refine w_seq ?_
  refine w_seq ?_
  have hje : j = P.classes.length := by simp at hb; omega
  rw [hje, List.take_length] at hall
  rw [hall, Bool.true_and] at hR
  clear hall
  refine w_region (by kernel_rfl) ?_
  refine o_assign gn rfl rfl ?_
  refine wl_end ?_
  refine w_block ?_
  refine w_loopS [(4, _)] [(1, _)] (by repeat (first | exact trivial | refine ⟨rfl, ?_⟩)) (fun kk lv hh => ∃ j : Nat, lv = [(4, iV j)] ∧ kk = P.comps.length - j ∧ j ≤ P.comps.length ∧ SH h [] [cR b1 (.cells (prgC P (.slice oa P.loopers oc) (.slice ca P.classes.length cc) (.slice ga P.globals gc) (.slice fa P.funs.length fc) (.slice pa P.comps.length pc) (.slice ea P.events.length ec) si) 30 0)] hh ∧ (P.comps.take j).all (compB P) = true) (n := (P.comps.length)) ?_ fun kk lv hh hI => ?_
  · exact ⟨0, rfl, rfl, by omega, S, rfl⟩
  obtain ⟨j, rfl, rfl, hj, S, hall⟩ := hI
  refine w_seq ?_
  refine w_seq ?_
  refine w_region (by kernel_rfl) ?_
  refine o_move gn rfl rfl ?_
  refine o_fieldAddr (off := 4) gn rfl rfl (by kernel_rfl) ?_
  refine o_load gn rfl rfl (by kernel_rfl) (by first | exact S.cel 0 rfl | exact S.cel 1 rfl | exact S.cel 2 rfl) rfl ?_
  refine o_len gn rfl rfl (by kernel_rfl) ?_
  refine o_lss gn rfl rfl rfl ?_
  refine wl_end ?_
  refine w_cond rfl (fun hb => ?_) fun hb => ?_
  · skip
    refine w_skip ?_
    refine w_seq ?_
    refine w_block ?_
    refine w_seq ?_
    refine w_seq ?_
    have hj1 : j < P.comps.length := by simp at hb; omega
    obtain ⟨b, o, c, cs, e, m, hv, hg, hlb, hl6, hat⟩ := X.co.at (by omega)
    have hta : pa = some ⟨b, o, none⟩ := by injection hv
    have hD := hat j hj1
    have h4 := hD.len
    refine w_region (by kernel_rfl) ?_
    refine o_assign gn rfl rfl ?_
    refine wl_end ?_
    refine w_block ?_
    refine w_loopS [(5, _)] [(1, _), (4, _)] (by repeat (first | exact trivial | refine ⟨rfl, ?_⟩)) (fun kk lv hh => ∃ k : Nat, lv = [(5, iV k)] ∧ kk = 4 - k ∧ k ≤ 4 ∧ SH h [] [cR b1 (.cells (prgC P (.slice oa P.loopers oc) (.slice ca P.classes.length cc) (.slice ga P.globals gc) (.slice fa P.funs.length fc) (.slice pa P.comps.length pc) (.slice ea P.events.length ec) si) 30 0)] hh ∧ ((P.comps[j].2.take k).all fun f => !decide (0 ≤ f) || rootB P f) = true) (n := 4) ?_ fun kk lv hh hI => ?_
    · exact ⟨0, rfl, rfl, by omega, S, rfl⟩
    obtain ⟨k, rfl, rfl, hk, S, hfs⟩ := hI
    refine w_seq ?_
    refine w_seq ?_
    refine w_region (by kernel_rfl) ?_
    refine o_move gn rfl rfl ?_
    refine o_lss gn rfl rfl rfl ?_
    refine wl_end ?_
    refine w_cond rfl (fun hb => ?_) fun hb => ?_
    · skip
      refine w_skip ?_
      refine w_seq ?_
      refine w_block ?_
      refine w_seq ?_
      have hk1 : k < P.comps[j].2.length := by simp at hb; omega
      have hw := hD.fn hk1
      refine w_draw [(0, []), (1, []), (2, []), (3, []), (4, []), (5, []), (6, []), (7, []), (8, []), (9, []), (10, []), (11, []), (12, []), (13, []), (14, []), (15, []), (16, []), (17, []), (18, []), (19, []), (20, []), (21, [])] (by kernel_rfl) (by kernel_rfl) (by kernel_rfl) (by kernel_rfl) ?_
      refine o_fieldAddr (off := 4) gn rfl rfl (by kernel_rfl) ?_
      refine o_load gn rfl rfl (by kernel_rfl) (by first | exact S.cel 0 rfl | exact S.cel 1 rfl | exact S.cel 2 rfl) rfl ?_
      refine o_move gn rfl rfl ?_
      refine o_move gn rfl rfl ?_
      rw [hta]
      refine o_indexAddr (zz := 6) gn rfl rfl rfl (by kernel_rfl) (by omega) (by omega) ?_
      refine o_fieldAddr (off := 2) gn rfl rfl (by kernel_rfl) ?_
      refine o_indexAddrA (n := 4) (e := 3) (zz := 1) gn rfl rfl rfl (by kernel_rfl) (by omega) (by omega) ?_
      refine o_load gn rfl rfl (by kernel_rfl) (S.old0 hg hlb) (by rw [Int.toNat_natCast, Int.toNat_natCast, Nat.mul_one]; exact hw) ?_
      rw [← hta]
      refine o_geq gn rfl rfl rfl ?_
      refine o_move gn rfl rfl ?_
      refine wl_split (dc := 112) rfl (fun hb112 => ?_) fun hb112 => ?_
      · skip
        refine o_loadA (n := 8) (gy rfl rfl rfl hb112) rfl rfl (by kernel_rfl) (by kernel_rfl) (by first | exact S.cel 0 rfl | exact S.cel 1 rfl | exact S.cel 2 rfl) (by first | decide | exact Nat.le_refl _ | (simp; done)) ?_
        refine o_fieldAddr (off := 4) (gy rfl rfl rfl hb112) rfl rfl (by kernel_rfl) ?_
        refine o_load (gy rfl rfl rfl hb112) rfl rfl (by kernel_rfl) (by first | exact S.cel 0 rfl | exact S.cel 1 rfl | exact S.cel 2 rfl) rfl ?_
        refine o_move (gy rfl rfl rfl hb112) rfl rfl ?_
        refine o_move (gy rfl rfl rfl hb112) rfl rfl ?_
        rw [hta]
        refine o_indexAddr (zz := 6) (gy rfl rfl rfl hb112) rfl rfl rfl (by kernel_rfl) (by omega) (by omega) ?_
        refine o_fieldAddr (off := 2) (gy rfl rfl rfl hb112) rfl rfl (by kernel_rfl) ?_
        refine o_indexAddrA (n := 4) (e := 3) (zz := 1) (gy rfl rfl rfl hb112) rfl rfl rfl (by kernel_rfl) (by omega) (by omega) ?_
        refine o_load (gy rfl rfl rfl hb112) rfl rfl (by kernel_rfl) (S.old0 hg hlb) (by rw [Int.toNat_natCast, Int.toNat_natCast, Nat.mul_one]; exact hw) ?_
        rw [← hta]
        refine o_call [_, _] (gy rfl rfl rfl hb112) rfl rfl (by kernel_rfl) rfl (C.mono (c17 (X.ext S.e0)) ?_)
        rintro v g ⟨rfl, x⟩
        have S := S.grow x
        refine ⟨ag0, ?_⟩
        refine o_not (gy rfl rfl rfl hb112) rfl rfl ?_
        refine o_pickt gn rfl rfl hb112 rfl ?_
        refine wl_end ?_
        refine w_cond rfl (fun hb => ?_) fun hb => ?_
        · skip
          refine w_seq ?_
          refine w_region (by kernel_rfl) ?_
          refine o_assign gn rfl rfl ?_
          refine wl_end ?_
          refine w_ret ?_
          refine ⟨.inl rfl, _, rfl, ?_⟩
          exact ⟨by rw [hR, all_fail hj1 (by rw [compB, all_fail hk1 (by rw [hb112]; simpa using hb), Bool.false_and])]; rfl, S.e0⟩
        refine w_skip ?_
        refine w_region (by kernel_rfl) ?_
        refine o_move gn rfl rfl ?_
        refine o_add gn rfl rfl rfl (by omega) (by omega) ?_
        refine o_assign gn rfl rfl ?_
        refine wl_end ?_
        exact rndS (4 - (k + 1)) (by omega) [(5, _)] (by repeat (first | exact trivial | refine ⟨rfl, ?_⟩)) ⟨k + 1, rfl, rfl, by omega, S, by rw [all_step hk1, hfs, Bool.true_and]; simp at hb; rw [hb]; simp⟩
      refine wl_skips (n := 11) (dc := 112) (w := true) rfl hb112 rfl ?_
      refine o_pickf gn rfl rfl hb112 rfl ?_
      refine wl_end ?_
      refine w_cond rfl (fun hb => ?_) fun hb => ?_
      · skip
        refine w_seq ?_
        exact absurd hb (by decide)
      refine w_skip ?_
      refine w_region (by kernel_rfl) ?_
      refine o_move gn rfl rfl ?_
      refine o_add gn rfl rfl rfl (by omega) (by omega) ?_
      refine o_assign gn rfl rfl ?_
      refine wl_end ?_
      exact rndS (4 - (k + 1)) (by omega) [(5, _)] (by repeat (first | exact trivial | refine ⟨rfl, ?_⟩)) ⟨k + 1, rfl, rfl, by omega, S, by
        rw [all_step hk1, hfs, Bool.true_and]
        have : decide (0 ≤ (P.comps[j]).2[k]) = false := hb112
        rw [this]; rfl⟩
    refine w_exit ?_
    refine thn_exit ?_
    refine rnd_exit ?_
    refine blk_eq ?_
    refine w_seq ?_
    have hke : k = 4 := by simp at hb; omega
    have hfs : (P.comps[j].2.all fun f => !decide (0 ≤ f) || rootB P f) = true := by
      rw [hke, ← h4, List.take_length] at hfs; exact hfs
    refine w_draw [(0, []), (1, []), (2, []), (3, []), (4, []), (5, []), (6, []), (7, []), (8, []), (9, []), (10, [])] (by kernel_rfl) (by kernel_rfl) (by kernel_rfl) (by kernel_rfl) ?_
    refine o_fieldAddr (off := 4) gn rfl rfl (by kernel_rfl) ?_
    refine o_load gn rfl rfl (by kernel_rfl) (by first | exact S.cel 0 rfl | exact S.cel 1 rfl | exact S.cel 2 rfl) rfl ?_
    refine o_move gn rfl rfl ?_
    rw [hta]
    refine o_indexAddr (zz := 6) gn rfl rfl rfl (by kernel_rfl) (by omega) (by omega) ?_
    refine o_fieldAddr (off := 1) gn rfl rfl (by kernel_rfl) ?_
    refine o_load gn rfl rfl (by kernel_rfl) (S.old0 hg hlb) (by rw [Int.toNat_natCast]; exact hD.lp) ?_
    rw [← hta]
    refine o_fieldAddr (off := 0) gn rfl rfl (by kernel_rfl) ?_
    refine o_load gn rfl rfl (by kernel_rfl) (by first | exact S.cel 0 rfl | exact S.cel 1 rfl | exact S.cel 2 rfl) rfl ?_
    refine o_len gn rfl rfl (by kernel_rfl) ?_
    refine o_call [_, _] gn rfl rfl (by kernel_rfl) rfl (c_pure (c18) ⟨ag0, ?_⟩)
    refine o_not gn rfl rfl ?_
    refine wl_end ?_
    refine w_cond rfl (fun hb => ?_) fun hb => ?_
    · skip
      refine w_seq ?_
      refine w_region (by kernel_rfl) ?_
      refine o_assign gn rfl rfl ?_
      refine wl_end ?_
      refine w_ret ?_
      refine ⟨.inl rfl, _, rfl, ?_⟩
      exact ⟨by rw [hR, all_fail hj1 (by rw [compB, hfs, Bool.true_and]; simpa using hb)]; rfl, S.e0⟩
    refine w_skip ?_
    refine w_region (by kernel_rfl) ?_
    refine o_move gn rfl rfl ?_
    refine o_add gn rfl rfl rfl (by omega) (by omega) ?_
    refine o_assign gn rfl rfl ?_
    refine wl_end ?_
    exact rndS (P.comps.length - (j + 1)) (by omega) [(4, _)] (by repeat (first | exact trivial | refine ⟨rfl, ?_⟩)) ⟨j + 1, rfl, rfl, by omega, S, by
      rw [all_step hj1, hall, Bool.true_and, compB, hfs, Bool.true_and]; simpa using hb⟩
  refine w_exit ?_
  refine thn_exit ?_
  refine rnd_exit ?_
  refine blk_eq ?_
  refine w_seq ?_
  refine w_seq ?_
  have hje : j = P.comps.length := by simp at hb; omega
  rw [hje, List.take_length] at hall
  rw [hall, Bool.true_and] at hR
  clear hall
  refine w_region (by kernel_rfl) ?_
  refine o_assign gn rfl rfl ?_
  refine wl_end ?_
  refine w_block ?_
  refine w_loopS [(6, _)] [(1, _)] (by repeat (first | exact trivial | refine ⟨rfl, ?_⟩)) (fun kk lv hh => ∃ j : Nat, lv = [(6, iV j)] ∧ kk = P.events.length - j ∧ j ≤ P.events.length ∧ SH h [] [cR b1 (.cells (prgC P (.slice oa P.loopers oc) (.slice ca P.classes.length cc) (.slice ga P.globals gc) (.slice fa P.funs.length fc) (.slice pa P.comps.length pc) (.slice ea P.events.length ec) si) 30 0)] hh ∧ (P.events.take j).all (eventB P) = true) (n := (P.events.length)) ?_ fun kk lv hh hI => ?_
  · exact ⟨0, rfl, rfl, by omega, S, rfl⟩
  obtain ⟨j, rfl, rfl, hj, S, hall⟩ := hI
  refine w_seq ?_
  refine w_seq ?_
  refine w_region (by kernel_rfl) ?_
  refine o_move gn rfl rfl ?_
  refine o_fieldAddr (off := 5) gn rfl rfl (by kernel_rfl) ?_
  refine o_load gn rfl rfl (by kernel_rfl) (by first | exact S.cel 0 rfl | exact S.cel 1 rfl | exact S.cel 2 rfl) rfl ?_
  refine o_len gn rfl rfl (by kernel_rfl) ?_
  refine o_lss gn rfl rfl rfl ?_
  refine wl_end ?_
  refine w_cond rfl (fun hb => ?_) fun hb => ?_
  · skip
    refine w_skip ?_
    refine w_seq ?_
    refine w_block ?_
    refine w_seq ?_
    have hj1 : j < P.events.length := by simp at hb; omega
    obtain ⟨b, o, c, cs, e, m, hv, hg, hlb, hl6, hat⟩ := X.ev.at (by omega)
    have hta : ea = some ⟨b, o, none⟩ := by injection hv
    obtain ⟨hw1, hw3⟩ := (hat j hj1).lp
    refine w_draw [(0, []), (1, []), (2, []), (3, []), (4, []), (5, []), (6, []), (7, []), (8, []), (9, []), (10, []), (11, []), (12, []), (13, []), (14, []), (15, []), (16, []), (17, []), (18, []), (19, []), (20, []), (21, [])] (by kernel_rfl) (by kernel_rfl) (by kernel_rfl) (by kernel_rfl) ?_
    refine o_fieldAddr (off := 5) gn rfl rfl (by kernel_rfl) ?_
    refine o_load gn rfl rfl (by kernel_rfl) (by first | exact S.cel 0 rfl | exact S.cel 1 rfl | exact S.cel 2 rfl) rfl ?_
    refine o_move gn rfl rfl ?_
    rw [hta]
    refine o_indexAddr (zz := 4) gn rfl rfl rfl (by kernel_rfl) (by omega) (by omega) ?_
    refine o_fieldAddr (off := 1) gn rfl rfl (by kernel_rfl) ?_
    refine o_load gn rfl rfl (by kernel_rfl) (S.old0 hg hlb) (by rw [Int.toNat_natCast]; exact hw1) ?_
    rw [← hta]
    refine o_fieldAddr (off := 0) gn rfl rfl (by kernel_rfl) ?_
    refine o_load gn rfl rfl (by kernel_rfl) (by first | exact S.cel 0 rfl | exact S.cel 1 rfl | exact S.cel 2 rfl) rfl ?_
    refine o_len gn rfl rfl (by kernel_rfl) ?_
    refine o_call [_, _] gn rfl rfl (by kernel_rfl) rfl (c_pure (c18) ⟨ag0, ?_⟩)
    refine o_not gn rfl rfl ?_
    refine o_move gn rfl rfl ?_
    refine wl_split (dc := 154) rfl (fun hb154 => ?_) fun hb154 => ?_
    · skip
      refine wl_skips (n := 9) (dc := 154) (w := false) rfl hb154 rfl ?_
      refine o_pickt gn rfl rfl hb154 rfl ?_
      refine wl_end ?_
      refine w_cond rfl (fun hb => ?_) fun hb => ?_
      · skip
        refine w_seq ?_
        refine w_region (by kernel_rfl) ?_
        refine o_assign gn rfl rfl ?_
        refine wl_end ?_
        refine w_ret ?_
        refine ⟨.inl rfl, _, rfl, ?_⟩
        exact ⟨by rw [hR, all_fail hj1 (by rw [eventB]; have : (!inB (P.events[j]).1 P.loopers) = true := hb154; rw [Bool.not_eq_true'] at this; rw [this]; rfl)]; rfl, S.e0⟩
      refine w_skip ?_
      exact absurd hb (by decide)
    refine o_loadA (n := 8) (gy rfl rfl rfl hb154) rfl rfl (by kernel_rfl) (by kernel_rfl) (by first | exact S.cel 0 rfl | exact S.cel 1 rfl | exact S.cel 2 rfl) (by first | decide | exact Nat.le_refl _ | (simp; done)) ?_
    refine o_fieldAddr (off := 5) (gy rfl rfl rfl hb154) rfl rfl (by kernel_rfl) ?_
    refine o_load (gy rfl rfl rfl hb154) rfl rfl (by kernel_rfl) (by first | exact S.cel 0 rfl | exact S.cel 1 rfl | exact S.cel 2 rfl) rfl ?_
    refine o_move (gy rfl rfl rfl hb154) rfl rfl ?_
    rw [hta]
    refine o_indexAddr (zz := 4) (gy rfl rfl rfl hb154) rfl rfl rfl (by kernel_rfl) (by omega) (by omega) ?_
    refine o_fieldAddr (off := 3) (gy rfl rfl rfl hb154) rfl rfl (by kernel_rfl) ?_
    refine o_load (gy rfl rfl rfl hb154) rfl rfl (by kernel_rfl) (S.old0 hg hlb) (by rw [Int.toNat_natCast]; exact hw3) ?_
    rw [← hta]
    refine o_call [_, _] (gy rfl rfl rfl hb154) rfl rfl (by kernel_rfl) rfl (C.mono (c17 (X.ext S.e0)) ?_)
    rintro v g ⟨rfl, x⟩
    have S := S.grow x
    refine ⟨ag0, ?_⟩
    refine o_not (gy rfl rfl rfl hb154) rfl rfl ?_
    refine o_pickf gn rfl rfl hb154 rfl ?_
    refine wl_end ?_
    refine w_cond rfl (fun hb => ?_) fun hb => ?_
    · skip
      refine w_seq ?_
      refine w_region (by kernel_rfl) ?_
      refine o_assign gn rfl rfl ?_
      refine wl_end ?_
      refine w_ret ?_
      refine ⟨.inl rfl, _, rfl, ?_⟩
      exact ⟨by rw [hR, all_fail hj1 (by rw [eventB]; simp only [Bool.not_eq_true'] at hb; rw [hb, Bool.and_false])]; rfl, S.e0⟩
    refine w_skip ?_
    refine w_region (by kernel_rfl) ?_
    refine o_move gn rfl rfl ?_
    refine o_add gn rfl rfl rfl (by omega) (by omega) ?_
    refine o_assign gn rfl rfl ?_
    refine wl_end ?_
    exact rndS (P.events.length - (j + 1)) (by omega) [(6, _)] (by repeat (first | exact trivial | refine ⟨rfl, ?_⟩)) ⟨j + 1, rfl, rfl, by omega, S, by
      have h1 : (!inB (P.events[j]).1 P.loopers) = false := hb154
      rw [Bool.not_eq_false'] at h1
      rw [all_step hj1, hall, Bool.true_and, eventB, h1, Bool.true_and]; simpa using hb⟩
  refine w_exit ?_
  refine thn_exit ?_
  refine rnd_exit ?_
  refine blk_eq ?_
  refine w_seq ?_
  have hje : j = P.events.length := by simp at hb; omega
  rw [hje, List.take_length] at hall
  refine w_region (by kernel_rfl) ?_
  refine o_assign gn rfl rfl ?_
  refine wl_end ?_
  refine w_ret ?_
  refine ⟨.inl rfl, _, rfl, ?_⟩
  exact ⟨by rw [hR, hall]; rfl, S.e0⟩
end
end Go.Proofs.YtemdkcneolianaaGreatDoor

namespace Go.Proofs.YtemdkcneolianaaGreatDoor
open Go.X Go.May

noncomputable def fs46 : Array Field := match repE.und 46 with | some (.struct fs) => fs | _ => #[]
theorem und46 : repE.und 46 = some (.struct fs46) := by kernel_rfl
theorem len46 : fs46.toList.length = 2 := by kernel_rfl
theorem row46 : fs46.toList = [fs46.toList[0]'(by rw [len46]; omega), fs46.toList[1]'(by rw [len46]; omega)] := by kernel_rfl
theorem eq46 {h : Hp} (a b c d : Int) : structEq repE h #[iV a, iV b] #[iV c, iV d] fs46.toList = some (decide (a = c) && (decide (b = d) && true)) := by
  rw [row46]
  exact structEq_cons (u := iV a) (w := iV c) (by kernel_rfl) (by kernel_rfl) (by kernel_rfl) (by kernel_rfl) (structEq_cons (u := iV b) (w := iV d) (by kernel_rfl) (by kernel_rfl) (by kernel_rfl) (by kernel_rfl) rfl)
theorem neq46 {h : Hp} {x x' : Operand} (a b c d : Int) : binX repE h .neq 46 x x' (.agg #[iV a, iV b]) (.agg #[iV c, iV d]) = some (.bool (!decide ((a, b) = (c, d)))) := by
  have e : decide ((a, b) = (c, d)) = (decide (a = c) && (decide (b = d) && true)) := by
    rw [Bool.eq_iff_iff]
    simp
  rw [e]
  exact binA_neq und46 (by kernel_rfl) (eq46 a b c d)
section
variable {F : Fun}
theorem head_no (h : (((((decide (F.regs < 0) || decide (256 < F.regs)) || decide (F.caps < 0)) || decide (F.regs < F.caps)) || decide ((F.code.length : Int) < 1)) || decide ((512 : Int) < F.code.length)) = true) : headB F = false := by
  simp only [Bool.or_eq_true, decide_eq_true_eq] at h
  rw [← Bool.not_eq_true]
  intro h'
  simp only [headB, inB, Bool.and_eq_true, decide_eq_true_eq] at h'
  omega
theorem head_yes (h : (((((decide (F.regs < 0) || decide (256 < F.regs)) || decide (F.caps < 0)) || decide (F.regs < F.caps)) || decide ((F.code.length : Int) < 1)) || decide ((512 : Int) < F.code.length)) = false) : headB F = true := by
  simp only [Bool.or_eq_false_iff, decide_eq_false_iff_not] at h
  simp only [headB, inB, Bool.and_eq_true, decide_eq_true_eq]
  omega
theorem last_no (h : (!decide (lastOp F.code = 33) && !decide (lastOp F.code = 31)) = true) : lastB F = false := by
  rw [lastB]
  simp only [Bool.and_eq_true, Bool.not_eq_true'] at h
  rw [h.1, h.2]; rfl
theorem last_yes (h : (!decide (lastOp F.code = 33) && !decide (lastOp F.code = 31)) = false) : lastB F = true := by
  rw [lastB]
  revert h
  cases decide (lastOp F.code = 33) <;> cases decide (lastOp F.code = 31) <;> simp
theorem site_no {l : List (Int × Int)} {z : Int} {n : Nat} {st : Int × Int} (h : ((!decide (z = n) || decide ((l.length : Int) ≤ n)) || !decide (l[n]? = some st)) = true) : (¬ z = n) ∨ l[n]? ≠ some st := by
  simp only [Bool.or_eq_true, Bool.not_eq_true', decide_eq_false_iff_not, decide_eq_true_eq] at h
  rcases h with (h | h) | h
  · exact .inl h
  · refine .inr ?_
    rw [List.getElem?_eq_none (by omega)]
    intro e; cases e
  exact .inr h
theorem site_ok {l : List (Int × Int)} {z : Int} {n : Nat} {st : Int × Int} (h : ((!decide (z = n) || decide ((l.length : Int) ≤ n)) || !decide (l[n]? = some st)) = false) : z = n ∧ l[n]? = some st ∧ n < l.length := by
  simp only [Bool.or_eq_false_iff, Bool.not_eq_false', decide_eq_false_iff_not, decide_eq_true_eq] at h
  exact ⟨h.1.1, h.2, by omega⟩
theorem neq46o {h : Hp} {x x' : Operand} {a b c d : Int} {o : Option (Int × Int)} (ho : o = some (a, b)) : binX repE h .neq 46 x x' (.agg #[iV a, iV b]) (.agg #[iV c, iV d]) = some (.bool (!decide (o = some (c, d)))) := by
  subst ho
  rw [neq46]
  simp only [Option.some.injEq]
end
section
variable {h : Hp} {P : Prg} {lo cl gl fu co ev si : Value}
set_option maxHeartbeats 2000000 in
/-- May -/
theorem c5 (X : PrgAt h P lo cl gl fu co ev si) : C repE 5 [prgV P lo cl gl fu co ev si] h fun v h' => v = .bool (mayB P) ∧ Ext h h' := by
  obtain ⟨⟨oa, oc, rfl⟩, ⟨ca, cc, rfl⟩, ⟨ga, gc, rfl⟩, ⟨fa, fc, rfl⟩, ⟨pa, pc, rfl⟩, ⟨ea, ec, rfl⟩, ⟨sa, sc, rfl⟩⟩ := X.vals
  have hzs := X.zsi
  have hzf := X.zfu
  refine c_enter (fu := Tryz.f5) (by kernel_rfl) rfl ?_
  have S := SH.start h
  refine w_seq ?_
  refine w_region (by kernel_rfl) ?_
  refine s_box S gn rfl rfl fun b1 g nb1 S => ?_
  refine o_assign gn rfl rfl ?_
  refine wl_end ?_
  refine w_seq ?_
  refine w_seq ?_
  refine w_region (by kernel_rfl) ?_
  refine o_loadA (n := 8) gn rfl rfl (by kernel_rfl) (by kernel_rfl) (by first | exact S.cel 0 rfl | exact S.cel 1 rfl | exact S.cel 2 rfl) (by first | decide | exact Nat.le_refl _ | (simp; done)) ?_
  refine o_call [_] gn rfl rfl (by kernel_rfl) rfl (C.mono (c8 (X.ext S.e0)) ?_)
  rintro v g ⟨rfl, x⟩
  have S := S.grow x
  refine ⟨ag0, ?_⟩
  refine o_not gn rfl rfl ?_
  refine wl_end ?_
  refine w_cond rfl (fun hb => ?_) fun hb => ?_
  · skip
    refine w_seq ?_
    refine w_region (by kernel_rfl) ?_
    refine o_assign gn rfl rfl ?_
    refine wl_end ?_
    refine w_ret ?_
    refine ⟨.inl rfl, _, rfl, ?_⟩
    exact ⟨by rw [may_parts (by simpa using hb)]; rfl, S.e0⟩
  refine w_skip ?_
  refine w_seq ?_
  have hparts : partsB P = true := by simpa using hb
  refine w_region (by kernel_rfl) ?_
  refine o_assign gn rfl rfl ?_
  refine wl_end ?_
  refine w_seq ?_
  refine w_seq ?_
  refine w_region (by kernel_rfl) ?_
  refine o_assign gn rfl rfl ?_
  refine wl_end ?_
  refine w_block ?_
  refine w_loopS [(3, _), (4, _)] [(1, _)] (by repeat (first | exact trivial | refine ⟨rfl, ?_⟩)) (fun kk lv hh => ∃ i : Nat, lv = [(3, iV (cntF (P.funs.take i) : Nat)), (4, iV i)] ∧ kk = P.funs.length - i ∧ i ≤ P.funs.length ∧ SH h [] [cR b1 (.cells (prgC P (.slice oa P.loopers oc) (.slice ca P.classes.length cc) (.slice ga P.globals gc) (.slice fa P.funs.length fc) (.slice pa P.comps.length pc) (.slice ea P.events.length ec) (.slice sa P.sites.length sc)) 30 0)] hh ∧ allB P 0 (P.funs.take i) = true ∧ sitesF 0 (P.funs.take i) = P.sites.take (cntF (P.funs.take i)) ∧ cntF (P.funs.take i) ≤ P.sites.length) (n := (P.funs.length)) ?_ fun kk lv hh hI => ?_
  · exact ⟨0, rfl, rfl, by omega, S, rfl, rfl, Nat.zero_le _⟩
  obtain ⟨i, rfl, rfl, hi, S, hall, hsit, hcn⟩ := hI
  refine w_seq ?_
  refine w_seq ?_
  refine w_region (by kernel_rfl) ?_
  refine o_move gn rfl rfl ?_
  refine o_fieldAddr (off := 3) gn rfl rfl (by kernel_rfl) ?_
  refine o_load gn rfl rfl (by kernel_rfl) (by first | exact S.cel 0 rfl | exact S.cel 1 rfl | exact S.cel 2 rfl) rfl ?_
  refine o_len gn rfl rfl (by kernel_rfl) ?_
  refine o_lss gn rfl rfl rfl ?_
  refine wl_end ?_
  refine w_cond rfl (fun hb => ?_) fun hb => ?_
  · skip
    refine w_skip ?_
    refine w_seq ?_
    refine w_block ?_
    refine w_seq ?_
    have hi1 : i < P.funs.length := by simp at hb; omega
    obtain ⟨b, o, c, cs, e, m, hv, hg, hlb, hl6, hat⟩ := X.fu.at (by omega)
    have hta : fa = some ⟨b, o, none⟩ := by injection hv
    obtain ⟨⟨s, cv, hw, hcode⟩, hcap, hreg, hclen⟩ := hat i hi1
    obtain ⟨va, vc, rfl⟩ := hcode.val
    have hw : (cs.drop (o + Int.toNat (i : Int) * 4)).take 4 = funC s P.funs[i] (.slice va (P.funs[i]).code.length vc) := by rw [Int.toNat_natCast]; exact hw
    refine w_region (by kernel_rfl) ?_
    refine o_fieldAddr (off := 3) gn rfl rfl (by kernel_rfl) ?_
    refine o_load gn rfl rfl (by kernel_rfl) (by first | exact S.cel 0 rfl | exact S.cel 1 rfl | exact S.cel 2 rfl) rfl ?_
    refine o_move gn rfl rfl ?_
    rw [hta]
    refine o_indexAddr (zz := 4) gn rfl rfl rfl (by kernel_rfl) (by omega) (by omega) ?_
    refine o_loadA (n := 4) gn rfl rfl (by kernel_rfl) (by kernel_rfl) (S.old0 hg hlb) (by rw [Int.toNat_natCast]; omega) ?_
    rw [hw, ← hta]
    refine s_alloc (zv := .agg #[.string .empty, .int .i64 0, .int .i64 0, .slice none 0 0]) S gn rfl (by kernel_rfl) fun b2 g nb2 S => ?_
    first | refine s_storeA (n := 4) 0 S gn rfl rfl (by kernel_rfl) (by kernel_rfl) rfl rfl (by decide) rfl (fun g S => ag0) fun g S => ?_ | refine s_storeA (n := 4) 1 S gn rfl rfl (by kernel_rfl) (by kernel_rfl) rfl rfl (by decide) rfl (fun g S => ag0) fun g S => ?_ | refine s_storeA (n := 4) 2 S gn rfl rfl (by kernel_rfl) (by kernel_rfl) rfl rfl (by decide) rfl (fun g S => ag0) fun g S => ?_ | refine s_storeA (n := 4) 3 S gn rfl rfl (by kernel_rfl) (by kernel_rfl) rfl rfl (by decide) rfl (fun g S => ag0) fun g S => ?_
    refine wl_end ?_
    refine w_seq ?_
    refine w_seq ?_
    refine w_region (by kernel_rfl) ?_
    refine o_fieldAddr (off := 2) gn rfl rfl (by kernel_rfl) ?_
    refine o_load gn rfl rfl (by kernel_rfl) (by first | exact S.cel 0 rfl | exact S.cel 1 rfl | exact S.cel 2 rfl | exact S.cel 3 rfl) rfl ?_
    refine o_lss gn rfl rfl rfl ?_
    refine o_move gn rfl rfl ?_
    refine o_or (n := 3) rfl rfl rfl gn rfl (fun hb => by
        refine o_fieldAddr (off := 2) (gy rfl rfl rfl hb) rfl rfl (by kernel_rfl) ?_
        refine o_load (gy rfl rfl rfl hb) rfl rfl (by kernel_rfl) (by first | exact S.cel 0 rfl | exact S.cel 1 rfl | exact S.cel 2 rfl | exact S.cel 3 rfl) rfl ?_
        refine o_gtr (gy rfl rfl rfl hb) rfl rfl rfl ?_
        exact wl_end ⟨rfl, rfl, 3, rfl, rfl⟩) ?_
    refine o_move gn rfl rfl ?_
    refine o_or (n := 3) rfl rfl rfl gn rfl (fun hb => by
        refine o_fieldAddr (off := 1) (gy rfl rfl rfl hb) rfl rfl (by kernel_rfl) ?_
        refine o_load (gy rfl rfl rfl hb) rfl rfl (by kernel_rfl) (by first | exact S.cel 0 rfl | exact S.cel 1 rfl | exact S.cel 2 rfl | exact S.cel 3 rfl) rfl ?_
        refine o_lss (gy rfl rfl rfl hb) rfl rfl rfl ?_
        exact wl_end ⟨rfl, rfl, 3, rfl, rfl⟩) ?_
    refine o_move gn rfl rfl ?_
    refine o_or (n := 5) rfl rfl rfl gn rfl (fun hb => by
        refine o_fieldAddr (off := 1) (gy rfl rfl rfl hb) rfl rfl (by kernel_rfl) ?_
        refine o_load (gy rfl rfl rfl hb) rfl rfl (by kernel_rfl) (by first | exact S.cel 0 rfl | exact S.cel 1 rfl | exact S.cel 2 rfl | exact S.cel 3 rfl) rfl ?_
        refine o_fieldAddr (off := 2) (gy rfl rfl rfl hb) rfl rfl (by kernel_rfl) ?_
        refine o_load (gy rfl rfl rfl hb) rfl rfl (by kernel_rfl) (by first | exact S.cel 0 rfl | exact S.cel 1 rfl | exact S.cel 2 rfl | exact S.cel 3 rfl) rfl ?_
        refine o_gtr (gy rfl rfl rfl hb) rfl rfl rfl ?_
        exact wl_end ⟨rfl, rfl, 5, rfl, rfl⟩) ?_
    refine o_move gn rfl rfl ?_
    refine o_or (n := 4) rfl rfl rfl gn rfl (fun hb => by
        refine o_fieldAddr (off := 3) (gy rfl rfl rfl hb) rfl rfl (by kernel_rfl) ?_
        refine o_load (gy rfl rfl rfl hb) rfl rfl (by kernel_rfl) (by first | exact S.cel 0 rfl | exact S.cel 1 rfl | exact S.cel 2 rfl | exact S.cel 3 rfl) rfl ?_
        refine o_len (gy rfl rfl rfl hb) rfl rfl (by kernel_rfl) ?_
        refine o_lss (gy rfl rfl rfl hb) rfl rfl rfl ?_
        exact wl_end ⟨rfl, rfl, 4, rfl, rfl⟩) ?_
    refine o_move gn rfl rfl ?_
    refine o_or (n := 4) rfl rfl rfl gn rfl (fun hb => by
        refine o_fieldAddr (off := 3) (gy rfl rfl rfl hb) rfl rfl (by kernel_rfl) ?_
        refine o_load (gy rfl rfl rfl hb) rfl rfl (by kernel_rfl) (by first | exact S.cel 0 rfl | exact S.cel 1 rfl | exact S.cel 2 rfl | exact S.cel 3 rfl) rfl ?_
        refine o_len (gy rfl rfl rfl hb) rfl rfl (by kernel_rfl) ?_
        refine o_gtr (gy rfl rfl rfl hb) rfl rfl rfl ?_
        exact wl_end ⟨rfl, rfl, 4, rfl, rfl⟩) ?_
    refine wl_end ?_
    refine w_cond rfl (fun hb => ?_) fun hb => ?_
    · skip
      refine w_seq ?_
      refine w_region (by kernel_rfl) ?_
      refine o_assign gn rfl rfl ?_
      refine wl_end ?_
      refine w_ret ?_
      refine ⟨.inl rfl, _, rfl, ?_⟩
      exact ⟨by rw [may_head hi1 (head_no hb)]; rfl, S.e0⟩
    refine w_skip ?_
    refine w_seq ?_
    refine w_seq ?_
    have hhead := head_yes hb
    have hpos := head_one hhead
    refine w_region (by kernel_rfl) ?_
    refine o_assign gn rfl rfl ?_
    refine wl_end ?_
    refine w_block ?_
    refine w_loopS [(3, _), (6, _)] [(1, _), (4, _), (5, _)] (by repeat (first | exact trivial | refine ⟨rfl, ?_⟩)) (fun kk lv hh => ∃ k : Nat, lv = [(3, iV (cntF (P.funs.take i) + cnt ((P.funs[i]).code.take k) : Nat)), (6, iV k)] ∧ kk = (P.funs[i]).code.length - k ∧ k ≤ (P.funs[i]).code.length ∧ SH h [] [cR b2 (.cells (funC s P.funs[i] (.slice va (P.funs[i]).code.length vc)) 38 0), cR b1 (.cells (prgC P (.slice oa P.loopers oc) (.slice ca P.classes.length cc) (.slice ga P.globals gc) (.slice fa P.funs.length fc) (.slice pa P.comps.length pc) (.slice ea P.events.length ec) (.slice sa P.sites.length sc)) 30 0)] hh ∧ codeB P P.funs[i] (cntF (P.funs.take i)) ((P.funs[i]).code.take k) = true ∧ sitesF 0 (P.funs.take i) ++ sitesC i 0 ((P.funs[i]).code.take k) = P.sites.take (cntF (P.funs.take i) + cnt ((P.funs[i]).code.take k)) ∧ cntF (P.funs.take i) + cnt ((P.funs[i]).code.take k) ≤ P.sites.length) (n := ((P.funs[i]).code.length)) ?_ fun kk lv hh hI => ?_
    · exact ⟨0, rfl, rfl, by omega, S, rfl, by rw [List.take_zero]; simpa [sitesC, cnt] using hsit, by simpa [cnt] using hcn⟩
    obtain ⟨k, rfl, rfl, hk, S, hcode2, hsit2, hcn2⟩ := hI
    refine w_seq ?_
    refine w_seq ?_
    refine w_region (by kernel_rfl) ?_
    refine o_move gn rfl rfl ?_
    refine o_fieldAddr (off := 3) gn rfl rfl (by kernel_rfl) ?_
    refine o_load gn rfl rfl (by kernel_rfl) (by first | exact S.cel 0 rfl | exact S.cel 1 rfl | exact S.cel 2 rfl | exact S.cel 3 rfl) rfl ?_
    refine o_len gn rfl rfl (by kernel_rfl) ?_
    refine o_lss gn rfl rfl rfl ?_
    refine wl_end ?_
    refine w_cond rfl (fun hb => ?_) fun hb => ?_
    · skip
      refine w_skip ?_
      refine w_seq ?_
      refine w_block ?_
      refine w_seq ?_
      have hk1 : k < (P.funs[i]).code.length := by simp at hb; omega
      obtain ⟨b', o', c', cs', e', m', hv', hg', hlb', hl8', hat'⟩ := hcode.at (by omega)
      have htb : va = some ⟨b', o', none⟩ := by injection hv'
      obtain ⟨⟨lv, ln, hw2, hrow⟩, hr1, hr2, hr3, hr4, hr5, hr6, hr7, hr8⟩ := hat' k hk1
      obtain ⟨la, lc, rfl⟩ := hrow.valM
      have hw2 : (cs'.drop (o' + Int.toNat (k : Int) * 8)).take 8 = insC (P.funs[i]).code[k] (.slice la ((P.funs[i]).code[k]).l.length lc) ln := by rw [Int.toNat_natCast]; exact hw2
      refine w_region (by kernel_rfl) ?_
      refine o_fieldAddr (off := 3) gn rfl rfl (by kernel_rfl) ?_
      refine o_load gn rfl rfl (by kernel_rfl) (by first | exact S.cel 0 rfl | exact S.cel 1 rfl | exact S.cel 2 rfl | exact S.cel 3 rfl) rfl ?_
      refine o_move gn rfl rfl ?_
      rw [htb]
      refine o_indexAddr (zz := 8) gn rfl rfl rfl (by kernel_rfl) (by omega) (by omega) ?_
      refine o_loadA (n := 8) gn rfl rfl (by kernel_rfl) (by kernel_rfl) (S.old0 hg' hlb') (by rw [Int.toNat_natCast]; omega) ?_
      rw [hw2, ← htb]
      refine s_alloc (zv := .agg #[.int .i64 0, .int .i64 0, .int .i64 0, .int .i64 0, .int .i64 0, .slice none 0 0, .int .i64 0, .int .i64 0]) S gn rfl (by kernel_rfl) fun b3 g nb3 S => ?_
      first | refine s_storeA (n := 8) 0 S gn rfl rfl (by kernel_rfl) (by kernel_rfl) rfl rfl (by decide) rfl (fun g S => ag0) fun g S => ?_ | refine s_storeA (n := 8) 1 S gn rfl rfl (by kernel_rfl) (by kernel_rfl) rfl rfl (by decide) rfl (fun g S => ag0) fun g S => ?_ | refine s_storeA (n := 8) 2 S gn rfl rfl (by kernel_rfl) (by kernel_rfl) rfl rfl (by decide) rfl (fun g S => ag0) fun g S => ?_ | refine s_storeA (n := 8) 3 S gn rfl rfl (by kernel_rfl) (by kernel_rfl) rfl rfl (by decide) rfl (fun g S => ag0) fun g S => ?_ | refine s_storeA (n := 8) 4 S gn rfl rfl (by kernel_rfl) (by kernel_rfl) rfl rfl (by decide) rfl (fun g S => ag0) fun g S => ?_
      refine wl_end ?_
      refine w_seq ?_
      refine w_seq ?_
      refine w_region (by kernel_rfl) ?_
      refine o_loadA (n := 8) gn rfl rfl (by kernel_rfl) (by kernel_rfl) (by first | exact S.cel 0 rfl | exact S.cel 1 rfl | exact S.cel 2 rfl | exact S.cel 3 rfl | exact S.cel 4 rfl) (by first | decide | exact Nat.le_refl _ | (simp; done)) ?_
      refine o_loadA (n := 4) gn rfl rfl (by kernel_rfl) (by kernel_rfl) (by first | exact S.cel 0 rfl | exact S.cel 1 rfl | exact S.cel 2 rfl | exact S.cel 3 rfl | exact S.cel 4 rfl) (by first | decide | exact Nat.le_refl _ | (simp; done)) ?_
      refine o_loadA (n := 8) gn rfl rfl (by kernel_rfl) (by kernel_rfl) (by first | exact S.cel 0 rfl | exact S.cel 1 rfl | exact S.cel 2 rfl | exact S.cel 3 rfl | exact S.cel 4 rfl) (by first | decide | exact Nat.le_refl _ | (simp; done)) ?_
      refine o_call [_, _, _] gn rfl rfl (by kernel_rfl) rfl (C.mono (c9 (X.ext S.e0) (hrow.ext S.e0) hr6 ⟨_, _, rfl⟩) ?_)
      rintro v g ⟨rfl, x⟩
      have S := S.grow x
      refine ⟨ag0, ?_⟩
      refine o_not gn rfl rfl ?_
      refine wl_end ?_
      refine w_cond rfl (fun hb => ?_) fun hb => ?_
      · skip
        refine w_seq ?_
        refine w_region (by kernel_rfl) ?_
        refine o_assign gn rfl rfl ?_
        refine wl_end ?_
        refine w_ret ?_
        refine ⟨.inl rfl, _, rfl, ?_⟩
        exact ⟨by rw [may_ins hi1 hk1 (by rw [okI]; simp only [Bool.not_eq_true'] at hb; rw [hb, Bool.false_and])]; rfl, S.e0⟩
      refine w_skip ?_
      refine w_seq ?_
      refine w_seq ?_
      have hins : instrB P P.funs[i] (P.funs[i]).code[k] = true := by simpa using hb
      refine w_region (by kernel_rfl) ?_
      refine o_fieldAddr (off := 0) gn rfl rfl (by kernel_rfl) ?_
      refine o_load gn rfl rfl (by kernel_rfl) (by first | exact S.cel 0 rfl | exact S.cel 1 rfl | exact S.cel 2 rfl | exact S.cel 3 rfl | exact S.cel 4 rfl) rfl ?_
      refine o_call [_] gn rfl rfl (by kernel_rfl) rfl (c_pure (c10) ⟨ag0, ?_⟩)
      refine o_not gn rfl rfl ?_
      refine wl_end ?_
      refine w_cond rfl (fun hb => ?_) fun hb => ?_
      · skip
        refine w_seq ?_
        refine w_seq ?_
        have hns : siteB ((P.funs[i]).code[k]).op = false := by simpa using hb
        refine w_region (by kernel_rfl) ?_
        refine o_fieldAddr (off := 6) gn rfl rfl (by kernel_rfl) ?_
        refine o_load gn rfl rfl (by kernel_rfl) (by first | exact S.cel 0 rfl | exact S.cel 1 rfl | exact S.cel 2 rfl | exact S.cel 3 rfl | exact S.cel 4 rfl) rfl ?_
        refine o_nei gn rfl rfl rfl ?_
        refine wl_end ?_
        refine w_cond rfl (fun hb => ?_) fun hb => ?_
        · skip
          refine w_seq ?_
          refine w_region (by kernel_rfl) ?_
          refine o_assign gn rfl rfl ?_
          refine wl_end ?_
          refine w_ret ?_
          refine ⟨.inl rfl, _, rfl, ?_⟩
          exact ⟨by rw [may_ins hi1 hk1 (by rw [okI, hns, if_neg (by simp), Bool.and_eq_false_iff]; right; simpa using hb)]; rfl, S.e0⟩
        refine w_skip ?_
        refine w_exit ?_
        refine thn_exit ?_
        refine blk_eq ?_
        have hcs : cnt ((P.funs[i]).code.take (k + 1)) = cnt ((P.funs[i]).code.take k) := by rw [cnt_succ hk1, hns, if_neg (by simp), Nat.add_zero]
        have hss : sitesC i 0 ((P.funs[i]).code.take (k + 1)) = sitesC i 0 ((P.funs[i]).code.take k) := by rw [sitesC_succ hk1, hns, if_neg (by simp), List.append_nil]
        refine w_region (by kernel_rfl) ?_
        refine o_move gn rfl rfl ?_
        refine o_add gn rfl rfl rfl (by omega) (by omega) ?_
        refine o_assign gn rfl rfl ?_
        refine wl_end ?_
        exact rndS ((P.funs[i]).code.length - (k + 1)) (by omega) [(3, _), (6, _)] (by repeat (first | exact trivial | refine ⟨rfl, ?_⟩)) ⟨k + 1, by rw [hcs]; rfl, rfl, by omega, S.drop, by
          rw [codeB_succ hk1, hcode2, Bool.true_and, okI, hins, Bool.true_and, hns, if_neg (by simp)]; simpa using hb, by rw [hss, hcs]; exact hsit2, by rw [hcs]; exact hcn2⟩
      refine w_skip ?_
      refine w_seq ?_
      refine w_seq ?_
      have hns : siteB ((P.funs[i]).code[k]).op = true := by simpa using hb
      refine w_region (by kernel_rfl) ?_
      refine o_fieldAddr (off := 6) gn rfl rfl (by kernel_rfl) ?_
      refine o_load gn rfl rfl (by kernel_rfl) (by first | exact S.cel 0 rfl | exact S.cel 1 rfl | exact S.cel 2 rfl | exact S.cel 3 rfl | exact S.cel 4 rfl) rfl ?_
      refine o_move gn rfl rfl ?_
      refine o_nei gn rfl rfl rfl ?_
      refine o_move gn rfl rfl ?_
      refine o_or (n := 5) rfl rfl rfl gn rfl (fun hb => by
          refine o_move (gy rfl rfl rfl hb) rfl rfl ?_
          refine o_fieldAddr (off := 7) (gy rfl rfl rfl hb) rfl rfl (by kernel_rfl) ?_
          refine o_load (gy rfl rfl rfl hb) rfl rfl (by kernel_rfl) (by first | exact S.cel 0 rfl | exact S.cel 1 rfl | exact S.cel 2 rfl | exact S.cel 3 rfl | exact S.cel 4 rfl) rfl ?_
          refine o_len (gy rfl rfl rfl hb) rfl rfl (by kernel_rfl) ?_
          refine o_geq (gy rfl rfl rfl hb) rfl rfl rfl ?_
          exact wl_end ⟨rfl, rfl, 5, rfl, rfl⟩) ?_
      refine o_move gn rfl rfl ?_
      refine o_or (B := !decide (P.sites[cntF (P.funs.take i) + cnt ((P.funs[i]).code.take k)]? = some ((i : Int), (k : Int)))) (n := 9) rfl rfl rfl gn rfl (fun hb => by
          refine o_fieldAddr (off := 7) (gy rfl rfl rfl hb) rfl rfl (by kernel_rfl) ?_
          refine o_load (gy rfl rfl rfl hb) rfl rfl (by kernel_rfl) (by first | exact S.cel 0 rfl | exact S.cel 1 rfl | exact S.cel 2 rfl | exact S.cel 3 rfl | exact S.cel 4 rfl) rfl ?_
          refine o_move (gy rfl rfl rfl hb) rfl rfl ?_
          have hn : cntF (P.funs.take i) + cnt ((P.funs[i]).code.take k) < P.sites.length := by
            simp only [Bool.or_eq_false_iff, decide_eq_false_iff_not] at hb; omega
          obtain ⟨b3, o3, c3, cs3, e3, m3, hv3, hg3, hlb3, hl3, hat3⟩ := X.si.at (by omega)
          have htc : sa = some ⟨b3, o3, none⟩ := by injection hv3
          have hw3 : (cs3.drop (o3 + Int.toNat ((cntF (P.funs.take i) + cnt ((P.funs[i]).code.take k) : Nat) : Int) * 2)).take 2 = [iV (P.sites[cntF (P.funs.take i) + cnt ((P.funs[i]).code.take k)]).1, iV (P.sites[cntF (P.funs.take i) + cnt ((P.funs[i]).code.take k)]).2] := by rw [Int.toNat_natCast]; exact (hat3 _ hn).row
          rw [htc]
          refine o_indexAddr (zz := 2) (gy rfl rfl rfl hb) rfl rfl rfl (by kernel_rfl) (by omega) (by omega) ?_
          refine o_loadA (n := 2) (gy rfl rfl rfl hb) rfl rfl (by kernel_rfl) (by kernel_rfl) (S.old0 hg3 hlb3) (by rw [Int.toNat_natCast]; omega) ?_
          rw [hw3, ← htc]
          refine o_move (gy rfl rfl rfl hb) rfl rfl ?_
          refine o_move (gy rfl rfl rfl hb) rfl rfl ?_
          refine o_build (zv := .agg #[.int .i64 0, .int .i64 0]) (pl := [(0, 1), (1, 1)]) [(0, _), (1, _)] (gy rfl rfl rfl hb) rfl (by kernel_rfl) (by kernel_rfl) rfl (by rfl) ?_
          refine o_bin (gy rfl rfl rfl hb) rfl rfl rfl (neq46o (List.getElem?_eq_getElem hn)) ?_
          exact wl_end ⟨rfl, rfl, 9, rfl, rfl⟩) ?_
      refine wl_end ?_
      refine w_cond rfl (fun hb => ?_) fun hb => ?_
      · skip
        refine w_seq ?_
        refine w_region (by kernel_rfl) ?_
        refine o_assign gn rfl rfl ?_
        refine wl_end ?_
        refine w_ret ?_
        refine ⟨.inl rfl, _, rfl, ?_⟩
        exact ⟨by
          rcases site_no hb with h1 | h1
          · rw [may_ins hi1 hk1 (by rw [okI, if_pos hns, decide_eq_false h1, Bool.and_false])]; rfl
          rw [may_site hi1 hk1 hns h1]; rfl, S.e0⟩
      refine w_skip ?_
      obtain ⟨hz1, hz2, hz3⟩ := site_ok hb
      refine w_region (by kernel_rfl) ?_
      refine o_move gn rfl rfl ?_
      refine o_add gn rfl rfl rfl (by omega) (by omega) ?_
      refine o_assign gn rfl rfl ?_
      refine wl_end ?_
      have hcs : cnt ((P.funs[i]).code.take (k + 1)) = cnt ((P.funs[i]).code.take k) + 1 := by rw [cnt_succ hk1, if_pos hns]
      have hss : sitesC i 0 ((P.funs[i]).code.take (k + 1)) = sitesC i 0 ((P.funs[i]).code.take k) ++ [((i : Int), (k : Int))] := by rw [sitesC_succ hk1, if_pos hns]
      refine w_region (by kernel_rfl) ?_
      refine o_move gn rfl rfl ?_
      refine o_add gn rfl rfl rfl (by omega) (by omega) ?_
      refine o_assign gn rfl rfl ?_
      refine wl_end ?_
      exact rndS ((P.funs[i]).code.length - (k + 1)) (by omega) [(3, _), (6, _)] (by repeat (first | exact trivial | refine ⟨rfl, ?_⟩)) ⟨k + 1, by rw [hcs, ← Nat.add_assoc]; rfl, rfl, by omega, S.drop, by
        rw [codeB_succ hk1, hcode2, Bool.true_and, okI, hins, Bool.true_and, if_pos hns, decide_eq_true hz1], by
        rw [hss, ← List.append_assoc, hsit2, hcs, ← Nat.add_assoc, List.take_add_one, hz2]; rfl, by rw [hcs]; omega⟩
    refine w_exit ?_
    refine thn_exit ?_
    refine rnd_exit ?_
    refine blk_eq ?_
    refine w_seq ?_
    have hke : k = (P.funs[i]).code.length := by simp at hb; omega
    rw [hke, List.take_length] at hcode2 hsit2 hcn2
    obtain ⟨b', o', c', cs', e', m', hv', hg', hlb', hl8', hat'⟩ := hcode.at (by omega)
    have htb : va = some ⟨b', o', none⟩ := by injection hv'
    obtain ⟨⟨lv, ln, hw2, hrow⟩, -⟩ := hat' ((P.funs[i]).code.length - 1) (by omega)
    have hlo := last_at (F := P.funs[i]) (by omega)
    have hw2 : cs'[o' + Int.toNat (((P.funs[i]).code.length : Int) - 1) * 8 + 0]? = some (iV (lastOp (P.funs[i]).code)) := by
      rw [hlo, show Int.toNat (((P.funs[i]).code.length : Int) - 1) = (P.funs[i]).code.length - 1 by omega]; exact cut_at hw2 (by omega) rfl
    refine w_region (by kernel_rfl) ?_
    refine o_fieldAddr (off := 3) gn rfl rfl (by kernel_rfl) ?_
    refine o_load gn rfl rfl (by kernel_rfl) (by first | exact S.cel 0 rfl | exact S.cel 1 rfl | exact S.cel 2 rfl | exact S.cel 3 rfl) rfl ?_
    refine o_fieldAddr (off := 3) gn rfl rfl (by kernel_rfl) ?_
    refine o_load gn rfl rfl (by kernel_rfl) (by first | exact S.cel 0 rfl | exact S.cel 1 rfl | exact S.cel 2 rfl | exact S.cel 3 rfl) rfl ?_
    refine o_len gn rfl rfl (by kernel_rfl) ?_
    refine o_sub gn rfl rfl rfl (by omega) (by omega) ?_
    rw [htb]
    refine o_indexAddr (zz := 8) gn rfl rfl rfl (by kernel_rfl) (by omega) (by omega) ?_
    refine o_fieldAddr (off := 0) gn rfl rfl (by kernel_rfl) ?_
    refine o_load gn rfl rfl (by kernel_rfl) (S.old0 hg' hlb') hw2 ?_
    rw [← htb]
    refine o_assign gn rfl rfl ?_
    refine wl_end ?_
    refine w_seq ?_
    refine w_region (by kernel_rfl) ?_
    refine o_move gn rfl rfl ?_
    refine o_nei gn rfl rfl rfl ?_
    refine o_move gn rfl rfl ?_
    refine o_and (n := 2) rfl rfl rfl gn rfl (fun hb => by
        refine o_move (gy rfl rfl rfl hb) rfl rfl ?_
        refine o_nei (gy rfl rfl rfl hb) rfl rfl rfl ?_
        exact wl_end ⟨rfl, rfl, 2, rfl, rfl⟩) ?_
    refine wl_end ?_
    refine w_cond rfl (fun hb => ?_) fun hb => ?_
    · skip
      refine w_seq ?_
      refine w_region (by kernel_rfl) ?_
      refine o_assign gn rfl rfl ?_
      refine wl_end ?_
      refine w_ret ?_
      refine ⟨.inl rfl, _, rfl, ?_⟩
      exact ⟨by rw [may_last hi1 (last_no hb)]; rfl, S.e0⟩
    refine w_skip ?_
    have hlast := last_yes hb
    refine w_region (by kernel_rfl) ?_
    refine o_move gn rfl rfl ?_
    refine o_add gn rfl rfl rfl (by omega) (by omega) ?_
    refine o_assign gn rfl rfl ?_
    refine wl_end ?_
    exact rndS (P.funs.length - (i + 1)) (by omega) [(3, _), (4, _)] (by repeat (first | exact trivial | refine ⟨rfl, ?_⟩)) ⟨i + 1, by rw [cntF_succ hi1, hke, List.take_length]; rfl, rfl, by omega, S.drop, by
      rw [allB_succ hi1, hall, Bool.true_and, funB, hhead, Bool.true_and, Nat.zero_add, hcode2, hlast]; rfl, by
      rw [sitesF_succ hi1, cntF_succ hi1]; exact hsit2, by rw [cntF_succ hi1]; exact hcn2⟩
  refine w_exit ?_
  refine thn_exit ?_
  refine rnd_exit ?_
  refine blk_eq ?_
  refine w_seq ?_
  have hie : i = P.funs.length := by simp at hb; omega
  rw [hie, List.take_length] at hall hsit hcn
  refine w_region (by kernel_rfl) ?_
  refine o_move gn rfl rfl ?_
  refine o_fieldAddr (off := 7) gn rfl rfl (by kernel_rfl) ?_
  refine o_load gn rfl rfl (by kernel_rfl) (by first | exact S.cel 0 rfl | exact S.cel 1 rfl | exact S.cel 2 rfl) rfl ?_
  refine o_len gn rfl rfl (by kernel_rfl) ?_
  refine o_eqi gn rfl rfl rfl ?_
  refine o_move gn rfl rfl ?_
  refine o_and (n := 2) rfl rfl rfl gn rfl (fun hb => by
      refine o_move (gy rfl rfl rfl hb) rfl rfl ?_
      refine o_leq (gy rfl rfl rfl hb) rfl rfl rfl ?_
      exact wl_end ⟨rfl, rfl, 2, rfl, rfl⟩) ?_
  refine o_assign gn rfl rfl ?_
  refine wl_end ?_
  refine w_ret ?_
  refine ⟨.inl rfl, _, rfl, ?_⟩
  exact ⟨by
    rw [hie, List.take_length, may_end hparts hall, hsit]
    show Value.bool _ = Value.bool _
    congr 1
    rw [Bool.eq_iff_iff]
    simp only [Bool.and_eq_true, decide_eq_true_eq]
    constructor
    · rintro ⟨h1, h2⟩
      have h1 : cntF P.funs = P.sites.length := by omega
      exact ⟨by rw [h1, List.take_length], by omega⟩
    rintro ⟨h1, h2⟩
    have := congrArg List.length h1
    rw [List.length_take] at this
    omega, S.e0⟩
end
end Go.Proofs.YtemdkcneolianaaGreatDoor

namespace Go.Proofs.YtemdkcneolianaaGreatDoor
open Go.X Go.May

/-- A function value that says of numbers what p says. -/
def PrI (h : Hp) (v : Value) (p : Int → Bool) : Prop := ∃ f cap, v = .func (.func f) #[] cap ∧ callOk repE f = true ∧ ∀ h', Ext h h' → ∀ k, C repE f ((#[] : Array Value).toList ++ [iV k] ++ cap.toList) h' fun v h'' => v = .bool (p k) ∧ Ext h' h''
theorem PrI.ext {h h' : Hp} {v : Value} {p : Int → Bool} (x : PrI h v p) (g : Ext h h') : PrI h' v p := by
  obtain ⟨f, cap, h1, h2, h3⟩ := x
  exact ⟨f, cap, h1, h2, fun h'' g' => h3 h'' (g.trans g')⟩
theorem el40 : ElN repE 40 3 0 7 := ⟨by kernel_rfl, by kernel_rfl, by kernel_rfl, ⟨.int .i64 0, by kernel_rfl, by kernel_rfl⟩⟩
theorem isV_cells (l : List Int) : (isV l).all cellV = true := by
  rw [List.all_eq_true]
  intro v hv
  obtain ⟨n, _, rfl⟩ := List.mem_map.1 hv
  rfl
theorem isV_len (l : List Int) : (isV l).length = l.length := by simp
theorem post_b {c n : Int} {l : Nat} : ((inB c l && decide (0 ≤ n)) && decide (n ≤ 1000000)) = (inB c l && inB n 1000001) := by
  have : inB n 1000001 = (decide (0 ≤ n) && decide (n ≤ 1000000)) := by
    rw [inB]; congr 1; exact decide_eq_decide.2 (by omega)
  rw [this, Bool.and_assoc]
theorem any_step {α : Type} {p : α → Bool} {l : List α} {j : Nat} (hj : j < l.length) : (l.take (j + 1)).any p = ((l.take j).any p || p l[j]) := by
  rw [List.take_add_one, List.getElem?_eq_getElem hj, List.any_append]
  simp
section
variable {h : Hp} {v fv cv : Value} {l : List Int} {p : Int → Bool} {qb : Nat} {s : ByteArray} {F : Fun} {k : Int} {m : Nat}
/-- slices.Clone -/
theorem c85 (R : RowV h v (isV l)) (hl : l.length ≤ 17592186043904) : C repE 85 [v] h fun w h' => ∃ bs, SlC 3 0 h' w (isV l) l.length bs ∧ Ext h h' ∧ ∀ i, i ∈ bs → h.n ≤ i := by
  obtain ⟨a, c, rfl⟩ := R.valM
  refine c_enter (fu := Tryz.f85) (by kernel_rfl) rfl ?_
  have S := SH.start h
  refine w_seq ?_
  refine w_region (by kernel_rfl) ?_
  refine o_assign gn rfl rfl ?_
  refine wl_end ?_
  refine w_seq ?_
  refine w_seq ?_
  refine w_region (by kernel_rfl) ?_
  refine o_move gn rfl rfl ?_
  refine o_eqs gn rfl rfl rfl (by kernel_rfl) ?_
  refine wl_end ?_
  refine w_cond rfl (fun hb => ?_) fun hb => ?_
  · skip
    refine w_seq ?_
    refine w_region (by kernel_rfl) ?_
    refine o_assign gn rfl rfl ?_
    refine wl_end ?_
    refine w_ret ?_
    refine ⟨.inl rfl, _, rfl, ?_⟩
    exact ⟨[], by
      have e0 : l = [] := by
        rcases R with ⟨h1, _⟩ | ⟨b, o, c', cs, e, m, h1, _⟩
        · exact List.map_eq_nil_iff.1 h1
        cases a with
        | none => cases h1
        | some a => cases hb
      subst e0
      exact .inl ⟨rfl, rfl, rfl, rfl⟩, S.e0, by simp⟩
  refine w_skip ?_
  refine w_seq ?_
  refine w_region (by kernel_rfl) ?_
  refine s_buildSlice (e := 3) (z := 0) (zv := .int .i64 0) [] S gn rfl (by kernel_rfl) (by kernel_rfl) (by kernel_rfl) (by kernel_rfl) rfl (by rfl) fun b1 g nb1 S => ?_
  refine o_move gn rfl rfl ?_
  have hsrc := (R.ext S.e0).src
  rw [isV_len] at hsrc
  obtain ⟨v', h', bs', q1, q2, q3, q4⟩ := appendS2 (n := 0) el40 (.inr ⟨b1, 0, rfl, S.cel 0 rfl, .inl rfl, S.lt1 0 rfl, rfl, rfl⟩) hsrc (isV_cells l) (by omega)
  rw [Nat.zero_add] at q2
  have q2 : SlN 3 0 h' v' (isV l) l.length bs' := q2
  have S' := S.upd (r' := slR 3 0 v' (isV l) l.length bs') 0 rfl q3 q2.toC q2.toC.lt q4 q2.nodup
  refine o_append gn rfl rfl rfl q1 (fun _ hq => by cases hq) ?_
  refine o_assign gn rfl rfl ?_
  refine wl_end ?_
  refine w_ret ?_
  refine ⟨.inl rfl, _, rfl, ?_⟩
  exact ⟨bs', q2.toC, S'.e0, fun i hi => (S'.new i (by simp [owns, slR]; exact hi)).resolve_left (by simp)⟩
/-- slices.IndexFunc -/
theorem c257 (R : RowV h v (isV l)) (hl : l.length ≤ 17592186044000) (hp : PrI h fv p) : C repE 257 [v, fv] h fun w h' => ∃ r, w = iV r ∧ Ext h h' ∧ (0 ≤ r ↔ l.any p = true) := by
  obtain ⟨a, c, rfl⟩ := R.valM
  have hp0 := hp
  obtain ⟨f, cap, rfl, hf, -⟩ := hp
  refine c_enter (fu := Tryz.f257) (by kernel_rfl) rfl ?_
  have S := SH.start h
  refine w_seq ?_
  refine w_region (by kernel_rfl) ?_
  refine o_assign gn rfl rfl ?_
  refine wl_end ?_
  refine w_seq ?_
  refine w_seq ?_
  refine w_region (by kernel_rfl) ?_
  refine o_move gn rfl rfl ?_
  refine o_len gn rfl rfl (by kernel_rfl) ?_
  refine o_move gn rfl rfl ?_
  refine wl_end ?_
  refine w_block ?_
  refine w_loopS [(8, _)] [(0, _), (1, _), (7, _)] (by repeat (first | exact trivial | refine ⟨rfl, ?_⟩)) (fun kk lv hh => ∃ j : Nat, lv = [(8, iV j)] ∧ kk = l.length - j ∧ j ≤ l.length ∧ SH h [] [] hh ∧ (l.take j).any p = false) (n := (l.length)) ?_ fun kk lv hh hI => ?_
  · exact ⟨0, rfl, rfl, by omega, S, rfl⟩
  obtain ⟨j, rfl, rfl, hj, S, hs⟩ := hI
  refine w_seq ?_
  refine w_region (by kernel_rfl) ?_
  refine o_lss gn rfl rfl rfl ?_
  refine wl_end ?_
  refine w_seq ?_
  refine w_cond rfl (fun hb => ?_) fun hb => ?_
  · skip
    refine w_skip ?_
    refine w_seq ?_
    refine w_block ?_
    refine w_seq ?_
    have hj1 : j < l.length := by simp at hb; omega
    obtain ⟨b, o, c', cs, e, m, hv, hg, hlt, hat⟩ := R.atM (by omega)
    have hta : a = some ⟨b, o, none⟩ := by injection hv
    refine w_region (by kernel_rfl) ?_
    refine o_move gn rfl rfl ?_
    refine o_assign gn rfl rfl ?_
    refine wl_end ?_
    refine w_seq ?_
    refine w_region (by kernel_rfl) ?_
    refine o_move gn rfl rfl ?_
    refine o_move gn rfl rfl ?_
    refine o_move gn rfl rfl ?_
    rw [hta]
    refine o_indexAddr (zz := 1) gn rfl rfl rfl (by kernel_rfl) (by omega) (by omega) ?_
    refine o_load gn rfl rfl (by kernel_rfl) (S.old0 hg hlt) (by rw [Int.toNat_natCast, Nat.mul_one]; exact hat j hj1) ?_
    rw [← hta]
    obtain ⟨f', cap', hfv, hf', hc⟩ := hp0.ext S.e0
    cases hfv
    refine o_call [_] gn rfl rfl hf' rfl (C.mono (hc _ (.refl _) l[j]) ?_)
    rintro v g ⟨rfl, x⟩
    have S := S.grow x
    refine ⟨ag0, ?_⟩
    refine wl_end ?_
    refine w_cond rfl (fun hb => ?_) fun hb => ?_
    · skip
      refine w_seq ?_
      refine w_region (by kernel_rfl) ?_
      refine o_move gn rfl rfl ?_
      refine o_assign gn rfl rfl ?_
      refine wl_end ?_
      refine w_ret ?_
      refine ⟨.inl rfl, _, rfl, ?_⟩
      exact ⟨j, rfl, S.e0, ⟨fun _ => List.any_eq_true.2 ⟨l[j], List.getElem_mem hj1, hb⟩, fun _ => by omega⟩⟩
    refine w_skip ?_
    refine w_region (by kernel_rfl) ?_
    refine o_add gn rfl rfl rfl (by omega) (by omega) ?_
    refine o_move gn rfl rfl ?_
    refine wl_end ?_
    exact rndS (l.length - (j + 1)) (by omega) [(8, _)] (by repeat (first | exact trivial | refine ⟨rfl, ?_⟩)) ⟨j + 1, rfl, rfl, by omega, S, by rw [any_step hj1, hs, Bool.false_or]; exact hb⟩
  refine w_exit ?_
  refine thn_exit ?_
  refine rnd_exit ?_
  refine blk_eq ?_
  refine w_seq ?_
  have hje : j = l.length := by simp at hb; omega
  rw [hje, List.take_length] at hs
  refine w_region (by kernel_rfl) ?_
  refine o_assign gn rfl rfl ?_
  refine wl_end ?_
  refine w_ret ?_
  refine ⟨.inl rfl, _, rfl, ?_⟩
  exact ⟨-1, rfl, S.e0, ⟨fun h => by omega, fun h => by rw [hs] at h; cases h⟩⟩
/-- slices.ContainsFunc -/
theorem c187 (R : RowV h v (isV l)) (hl : l.length ≤ 17592186044000) (hp : PrI h fv p) : C repE 187 [v, fv] h fun w h' => w = .bool (l.any p) ∧ Ext h h' := by
  refine c_enter (fu := Tryz.f187) (by kernel_rfl) rfl ?_
  have S := SH.start h
  refine w_seq ?_
  refine w_region (by kernel_rfl) ?_
  refine o_assign gn rfl rfl ?_
  refine wl_end ?_
  refine w_seq ?_
  refine w_region (by kernel_rfl) ?_
  refine o_move gn rfl rfl ?_
  refine o_move gn rfl rfl ?_
  refine o_call [_, _] gn rfl rfl (by kernel_rfl) rfl (C.mono (c257 R hl hp) ?_)
  rintro v g ⟨r, rfl, x, hr⟩
  have S := S.grow x
  refine ⟨ag0, ?_⟩
  refine o_geq gn rfl rfl rfl ?_
  refine o_assign gn rfl rfl ?_
  refine wl_end ?_
  refine w_ret ?_
  refine ⟨.inl rfl, _, rfl, ?_⟩
  exact ⟨by rw [show decide (0 ≤ r) = l.any p from Bool.eq_iff_iff.2 (by rw [decide_eq_true_eq, hr])]; rfl, S.e0⟩
/-- registers: its closure -/
theorem c317 (hq : h.get qb = some (.cells (funC s F cv) 38 m)) : CP repE 317 [iV k, ptrV qb] h (.bool (!inB k F.regs)) := by
  refine c_enter (fu := Tryz.f317) (by kernel_rfl) rfl ?_
  have S := SH.start h
  refine w_seq ?_
  refine w_region (by kernel_rfl) ?_
  refine o_assign gn rfl rfl ?_
  refine wl_end ?_
  refine w_seq ?_
  refine w_region (by kernel_rfl) ?_
  refine o_move gn rfl rfl ?_
  refine o_fieldAddr (off := 2) gn rfl rfl (by kernel_rfl) ?_
  refine o_load gn rfl rfl (by kernel_rfl) hq rfl ?_
  refine o_call [_, _] gn rfl rfl (by kernel_rfl) rfl (c_pure (c186) ⟨ag0, ?_⟩)
  refine o_not gn rfl rfl ?_
  refine o_assign gn rfl rfl ?_
  refine wl_end ?_
  refine w_ret ?_
  refine ⟨.inl rfl, _, rfl, ?_⟩
  exact ⟨rfl, rfl⟩
end
section
variable {h : Hp} {P : Prg} {lo cl gl fu co ev si sv cv lv : Value} {kb tb : Nat} {k : Int} {m m2 : Nat} {s : ByteArray} {F : Fun} {x : Ins} {ln : Int}
/-- may: its closure -/
theorem c188 (X : PrgAt h P lo cl gl fu co ev si) (hk : h.get kb = some (.cells (prgC P lo cl gl fu co ev si ++ [sv]) 253 0)) (ht : h.get tb = some (.cells [ptrV kb] 251 m)) : CP repE 188 [iV k, ptrV tb] h (.bool (decide (0 ≤ k) && !rootB P k)) := by
  refine c_enter (fu := Tryz.f188) (by kernel_rfl) rfl ?_
  have S := SH.start h
  refine w_seq ?_
  refine w_region (by kernel_rfl) ?_
  refine o_assign gn rfl rfl ?_
  refine wl_end ?_
  refine w_seq ?_
  refine w_region (by kernel_rfl) ?_
  refine o_move gn rfl rfl ?_
  refine o_geq gn rfl rfl rfl ?_
  refine o_move gn rfl rfl ?_
  refine o_and (n := 4) rfl rfl rfl gn rfl (fun hb => by
      refine o_load (gy rfl rfl rfl hb) rfl rfl (by kernel_rfl) ht rfl ?_
      refine o_move (gy rfl rfl rfl hb) rfl rfl ?_
      refine o_call [_, _] (gy rfl rfl rfl hb) rfl rfl (by kernel_rfl) rfl (c_pure (c185 X hk) ⟨ag0, ?_⟩)
      refine o_not (gy rfl rfl rfl hb) rfl rfl ?_
      exact wl_end ⟨rfl, rfl, 4, rfl, rfl⟩) ?_
  refine o_assign gn rfl rfl ?_
  refine wl_end ?_
  refine w_ret ?_
  refine ⟨.inl rfl, _, rfl, ?_⟩
  exact ⟨rfl, rfl⟩
set_option maxHeartbeats 1000000 in
/-- named -/
theorem c260 (X : PrgAt h P lo cl gl fu co ev si) (hk : h.get kb = some (.cells (prgC P lo cl gl fu co ev si ++ [sv]) 253 0)) (hkl : kb < h.n) (hx : ∃ a c, lv = .slice a x.l.length c) (hc : ∃ a c, cv = .slice a F.code.length c) : C repE 260 [ptrV kb, insV x lv ln, funV s F cv] h fun v h' => v = .bool (namedB P F x) ∧ Ext h h' := by
  obtain ⟨⟨oa, oc, rfl⟩, ⟨ca, cc, rfl⟩, ⟨ga, gc, rfl⟩, ⟨fa, fc, rfl⟩, -, ⟨ea, ec, rfl⟩, -⟩ := X.vals
  obtain ⟨va, vc, rfl⟩ := hc
  obtain ⟨la, lc, rfl⟩ := hx
  refine c_enter (fu := Tryz.f260) (by kernel_rfl) rfl ?_
  have S := SH.start h
  refine w_seq ?_
  refine w_region (by kernel_rfl) ?_
  refine s_box S gn rfl rfl fun b1 g nb1 S => ?_
  refine s_box S gn rfl rfl fun b2 g nb2 S => ?_
  refine o_assign gn rfl rfl ?_
  refine wl_end ?_
  refine w_seq ?_
  refine w_seq ?_
  refine w_region (by kernel_rfl) ?_
  refine o_fieldAddr (off := 0) gn rfl rfl (by kernel_rfl) ?_
  refine o_load gn rfl rfl (by kernel_rfl) (by first | exact S.cel 0 rfl | exact S.cel 1 rfl | exact S.cel 2 rfl | exact S.cel 3 rfl | exact S.old0 hk hkl) rfl ?_
  refine wl_end ?_
  refine w_block ?_
  have hI : namedB P F x = namedB P F x := rfl
  conv at hI => rhs; unfold namedB
  refine w_switch 8 [(9, 10), (10, 11)] [(0, _), (4, _), (5, _), (8, _)] (by kernel_rfl) rfl (by repeat (first | exact trivial | refine ⟨rfl, ?_⟩)) (by rfl) (fun hb => ?_) fun hb => ?_
  · skip
    refine w_seq ?_
    refine w_draw [(0, []), (1, []), (2, []), (3, []), (4, []), (5, []), (6, []), (7, []), (8, []), (9, [])] (by kernel_rfl) (by kernel_rfl) (by kernel_rfl) (by kernel_rfl) ?_
    refine o_fieldAddr (off := 4) gn rfl rfl (by kernel_rfl) ?_
    refine o_load gn rfl rfl (by kernel_rfl) (by first | exact S.cel 0 rfl | exact S.cel 1 rfl | exact S.cel 2 rfl | exact S.cel 3 rfl | exact S.old0 hk hkl) rfl ?_
    refine o_move gn rfl rfl ?_
    refine o_nilCheck gn rfl rfl ?_
    refine o_fieldAddr (off := 0) gn rfl rfl (by kernel_rfl) ?_
    refine o_fieldAddr (off := 2) gn rfl rfl (by kernel_rfl) ?_
    refine o_load gn rfl rfl (by kernel_rfl) (by first | exact S.cel 0 rfl | exact S.cel 1 rfl | exact S.cel 2 rfl | exact S.cel 3 rfl | exact S.old0 hk hkl) rfl ?_
    refine o_len gn rfl rfl (by kernel_rfl) ?_
    refine o_call [_, _] gn rfl rfl (by kernel_rfl) rfl (c_pure (c186) ⟨ag0, ?_⟩)
    refine o_assign gn rfl rfl ?_
    refine wl_end ?_
    refine w_ret ?_
    refine ⟨.inl rfl, _, rfl, ?_⟩
    exact ⟨by rw [hI, if_pos (mem2 hb)]; rfl, S.e0⟩
  refine w_seq ?_
  rw [if_neg (mem2n hb)] at hI
  refine w_region (by kernel_rfl) ?_
  refine o_eqi gn rfl rfl rfl ?_
  refine o_assign gn rfl rfl ?_
  refine wl_end ?_
  refine w_cond rfl (fun hb => ?_) fun hb => ?_
  · skip
    refine w_seq ?_
    refine w_draw [(0, []), (1, []), (2, []), (3, []), (4, []), (5, []), (6, []), (7, []), (8, []), (9, [])] (by kernel_rfl) (by kernel_rfl) (by kernel_rfl) (by kernel_rfl) ?_
    refine o_fieldAddr (off := 4) gn rfl rfl (by kernel_rfl) ?_
    refine o_load gn rfl rfl (by kernel_rfl) (by first | exact S.cel 0 rfl | exact S.cel 1 rfl | exact S.cel 2 rfl | exact S.cel 3 rfl | exact S.old0 hk hkl) rfl ?_
    refine o_move gn rfl rfl ?_
    refine o_nilCheck gn rfl rfl ?_
    refine o_fieldAddr (off := 0) gn rfl rfl (by kernel_rfl) ?_
    refine o_fieldAddr (off := 1) gn rfl rfl (by kernel_rfl) ?_
    refine o_load gn rfl rfl (by kernel_rfl) (by first | exact S.cel 0 rfl | exact S.cel 1 rfl | exact S.cel 2 rfl | exact S.cel 3 rfl | exact S.old0 hk hkl) rfl ?_
    refine o_len gn rfl rfl (by kernel_rfl) ?_
    refine o_call [_, _] gn rfl rfl (by kernel_rfl) rfl (c_pure (c186) ⟨ag0, ?_⟩)
    refine o_assign gn rfl rfl ?_
    refine wl_end ?_
    refine w_ret ?_
    refine ⟨.inl rfl, _, rfl, ?_⟩
    exact ⟨by rw [hI, if_pos (of_decide_eq_true hb)]; rfl, S.e0⟩
  refine w_seq ?_
  rw [if_neg (of_decide_eq_false hb)] at hI
  refine w_region (by kernel_rfl) ?_
  refine o_eqi gn rfl rfl rfl ?_
  refine o_assign gn rfl rfl ?_
  refine wl_end ?_
  refine w_cond rfl (fun hb => ?_) fun hb => ?_
  · skip
    refine w_seq ?_
    rw [if_pos (of_decide_eq_true hb)] at hI
    refine w_draw [(0, []), (1, []), (2, []), (3, []), (4, []), (5, []), (6, []), (7, []), (8, []), (9, []), (10, []), (11, []), (12, []), (13, []), (14, []), (15, []), (16, []), (17, []), (18, []), (19, []), (20, []), (21, []), (22, []), (23, []), (24, []), (25, [])] (by kernel_rfl) (by kernel_rfl) (by kernel_rfl) (by kernel_rfl) ?_
    refine o_fieldAddr (off := 4) gn rfl rfl (by kernel_rfl) ?_
    refine o_load gn rfl rfl (by kernel_rfl) (by first | exact S.cel 0 rfl | exact S.cel 1 rfl | exact S.cel 2 rfl | exact S.cel 3 rfl | exact S.old0 hk hkl) rfl ?_
    refine o_move gn rfl rfl ?_
    refine o_nilCheck gn rfl rfl ?_
    refine o_fieldAddr (off := 0) gn rfl rfl (by kernel_rfl) ?_
    refine o_fieldAddr (off := 3) gn rfl rfl (by kernel_rfl) ?_
    refine o_load gn rfl rfl (by kernel_rfl) (by first | exact S.cel 0 rfl | exact S.cel 1 rfl | exact S.cel 2 rfl | exact S.cel 3 rfl | exact S.old0 hk hkl) rfl ?_
    refine o_len gn rfl rfl (by kernel_rfl) ?_
    refine o_call [_, _] gn rfl rfl (by kernel_rfl) rfl (c_pure (c186) ⟨ag0, ?_⟩)
    refine o_move gn rfl rfl ?_
    refine o_and (B := decide (((x.l.length : Nat) : Int) = capsAt P x.n)) (n := 14) rfl rfl rfl gn rfl (fun hb => by
        refine o_fieldAddr (off := 5) (gy rfl rfl rfl hb) rfl rfl (by kernel_rfl) ?_
        refine o_load (gy rfl rfl rfl hb) rfl rfl (by kernel_rfl) (by first | exact S.cel 0 rfl | exact S.cel 1 rfl | exact S.cel 2 rfl | exact S.cel 3 rfl | exact S.old0 hk hkl) rfl ?_
        refine o_len (gy rfl rfl rfl hb) rfl rfl (by kernel_rfl) ?_
        refine o_move (gy rfl rfl rfl hb) rfl rfl ?_
        refine o_nilCheck (gy rfl rfl rfl hb) rfl rfl ?_
        refine o_fieldAddr (off := 0) (gy rfl rfl rfl hb) rfl rfl (by kernel_rfl) ?_
        refine o_fieldAddr (off := 3) (gy rfl rfl rfl hb) rfl rfl (by kernel_rfl) ?_
        refine o_load (gy rfl rfl rfl hb) rfl rfl (by kernel_rfl) (by first | exact S.cel 0 rfl | exact S.cel 1 rfl | exact S.cel 2 rfl | exact S.cel 3 rfl | exact S.old0 hk hkl) rfl ?_
        refine o_fieldAddr (off := 4) (gy rfl rfl rfl hb) rfl rfl (by kernel_rfl) ?_
        refine o_load (gy rfl rfl rfl hb) rfl rfl (by kernel_rfl) (by first | exact S.cel 0 rfl | exact S.cel 1 rfl | exact S.cel 2 rfl | exact S.cel 3 rfl | exact S.old0 hk hkl) rfl ?_
        obtain ⟨b, o, c, cs, e, m, hv, hg, hlb, hf0, hf1, hw⟩ := X.caps hb
        have hta : fa = some ⟨b, o, none⟩ := by injection hv
        rw [hta]
        refine o_indexAddr (zz := 4) (gy rfl rfl rfl hb) rfl rfl rfl (by kernel_rfl) (by omega) (by omega) ?_
        refine o_fieldAddr (off := 1) (gy rfl rfl rfl hb) rfl rfl (by kernel_rfl) ?_
        refine o_load (gy rfl rfl rfl hb) rfl rfl (by kernel_rfl) (S.old0 hg hlb) hw ?_
        rw [← hta]
        refine o_eqi (gy rfl rfl rfl hb) rfl rfl rfl ?_
        exact wl_end ⟨rfl, rfl, 14, rfl, rfl⟩) ?_
    refine o_assign gn rfl rfl ?_
    refine wl_end ?_
    refine w_ret ?_
    refine ⟨.inl rfl, _, rfl, ?_⟩
    exact ⟨by rw [hI, decide_eq_decide.2 (eq_comm (a := capsAt P x.n))]; rfl, S.e0⟩
  refine w_seq ?_
  rw [if_neg (of_decide_eq_false hb)] at hI
  refine w_region (by kernel_rfl) ?_
  refine o_eqi gn rfl rfl rfl ?_
  refine o_assign gn rfl rfl ?_
  refine wl_end ?_
  refine w_cond rfl (fun hb => ?_) fun hb => ?_
  · skip
    refine w_seq ?_
    refine w_draw [(0, []), (1, []), (2, []), (3, []), (4, []), (5, []), (6, []), (7, []), (8, []), (9, []), (10, []), (11, []), (12, []), (13, []), (14, []), (15, []), (16, []), (17, []), (18, []), (19, [])] (by kernel_rfl) (by kernel_rfl) (by kernel_rfl) (by kernel_rfl) ?_
    refine o_fieldAddr (off := 3) gn rfl rfl (by kernel_rfl) ?_
    refine o_load gn rfl rfl (by kernel_rfl) (by first | exact S.cel 0 rfl | exact S.cel 1 rfl | exact S.cel 2 rfl | exact S.cel 3 rfl | exact S.old0 hk hkl) rfl ?_
    refine o_move gn rfl rfl ?_
    refine o_nilCheck gn rfl rfl ?_
    refine o_fieldAddr (off := 0) gn rfl rfl (by kernel_rfl) ?_
    refine o_fieldAddr (off := 0) gn rfl rfl (by kernel_rfl) ?_
    refine o_load gn rfl rfl (by kernel_rfl) (by first | exact S.cel 0 rfl | exact S.cel 1 rfl | exact S.cel 2 rfl | exact S.cel 3 rfl | exact S.old0 hk hkl) rfl ?_
    refine o_len gn rfl rfl (by kernel_rfl) ?_
    refine o_call [_, _] gn rfl rfl (by kernel_rfl) rfl (c_pure (c186) ⟨ag0, ?_⟩)
    refine o_move gn rfl rfl ?_
    refine o_and (n := 3) rfl rfl rfl gn rfl (fun hb => by
        refine o_fieldAddr (off := 4) (gy rfl rfl rfl hb) rfl rfl (by kernel_rfl) ?_
        refine o_load (gy rfl rfl rfl hb) rfl rfl (by kernel_rfl) (by first | exact S.cel 0 rfl | exact S.cel 1 rfl | exact S.cel 2 rfl | exact S.cel 3 rfl | exact S.old0 hk hkl) rfl ?_
        refine o_geq (gy rfl rfl rfl hb) rfl rfl rfl ?_
        exact wl_end ⟨rfl, rfl, 3, rfl, rfl⟩) ?_
    refine o_move gn rfl rfl ?_
    refine o_and (n := 3) rfl rfl rfl gn rfl (fun hb => by
        refine o_fieldAddr (off := 4) (gy rfl rfl rfl hb) rfl rfl (by kernel_rfl) ?_
        refine o_load (gy rfl rfl rfl hb) rfl rfl (by kernel_rfl) (by first | exact S.cel 0 rfl | exact S.cel 1 rfl | exact S.cel 2 rfl | exact S.cel 3 rfl | exact S.old0 hk hkl) rfl ?_
        refine o_leq (gy rfl rfl rfl hb) rfl rfl rfl ?_
        exact wl_end ⟨rfl, rfl, 3, rfl, rfl⟩) ?_
    refine o_assign gn rfl rfl ?_
    refine wl_end ?_
    refine w_ret ?_
    refine ⟨.inl rfl, _, rfl, ?_⟩
    exact ⟨by rw [hI, if_pos (of_decide_eq_true hb), ← post_b]; rfl, S.e0⟩
  refine w_seq ?_
  rw [if_neg (of_decide_eq_false hb)] at hI
  refine w_region (by kernel_rfl) ?_
  refine o_eqi gn rfl rfl rfl ?_
  refine o_assign gn rfl rfl ?_
  refine wl_end ?_
  refine w_cond rfl (fun hb => ?_) fun hb => ?_
  · skip
    refine w_seq ?_
    refine w_draw [(0, []), (1, []), (2, []), (3, []), (4, []), (5, []), (6, []), (7, []), (8, []), (9, [])] (by kernel_rfl) (by kernel_rfl) (by kernel_rfl) (by kernel_rfl) ?_
    refine o_fieldAddr (off := 3) gn rfl rfl (by kernel_rfl) ?_
    refine o_load gn rfl rfl (by kernel_rfl) (by first | exact S.cel 0 rfl | exact S.cel 1 rfl | exact S.cel 2 rfl | exact S.cel 3 rfl | exact S.old0 hk hkl) rfl ?_
    refine o_move gn rfl rfl ?_
    refine o_nilCheck gn rfl rfl ?_
    refine o_fieldAddr (off := 0) gn rfl rfl (by kernel_rfl) ?_
    refine o_fieldAddr (off := 0) gn rfl rfl (by kernel_rfl) ?_
    refine o_load gn rfl rfl (by kernel_rfl) (by first | exact S.cel 0 rfl | exact S.cel 1 rfl | exact S.cel 2 rfl | exact S.cel 3 rfl | exact S.old0 hk hkl) rfl ?_
    refine o_len gn rfl rfl (by kernel_rfl) ?_
    refine o_call [_, _] gn rfl rfl (by kernel_rfl) rfl (c_pure (c186) ⟨ag0, ?_⟩)
    refine o_assign gn rfl rfl ?_
    refine wl_end ?_
    refine w_ret ?_
    refine ⟨.inl rfl, _, rfl, ?_⟩
    exact ⟨by rw [hI, if_pos (of_decide_eq_true hb)]; rfl, S.e0⟩
  rw [if_neg (of_decide_eq_false hb)] at hI
  refine w_switch 8 [(26, 92), (27, 93)] [(0, _), (4, _), (5, _), (8, _)] (by kernel_rfl) rfl (by repeat (first | exact trivial | refine ⟨rfl, ?_⟩)) (by rfl) (fun hb => ?_) fun hb => ?_
  · skip
    refine w_seq ?_
    refine w_draw [(0, []), (1, []), (2, []), (3, []), (4, []), (5, []), (6, []), (7, []), (8, []), (9, [])] (by kernel_rfl) (by kernel_rfl) (by kernel_rfl) (by kernel_rfl) ?_
    refine o_fieldAddr (off := 4) gn rfl rfl (by kernel_rfl) ?_
    refine o_load gn rfl rfl (by kernel_rfl) (by first | exact S.cel 0 rfl | exact S.cel 1 rfl | exact S.cel 2 rfl | exact S.cel 3 rfl | exact S.old0 hk hkl) rfl ?_
    refine o_move gn rfl rfl ?_
    refine o_nilCheck gn rfl rfl ?_
    refine o_fieldAddr (off := 0) gn rfl rfl (by kernel_rfl) ?_
    refine o_fieldAddr (off := 5) gn rfl rfl (by kernel_rfl) ?_
    refine o_load gn rfl rfl (by kernel_rfl) (by first | exact S.cel 0 rfl | exact S.cel 1 rfl | exact S.cel 2 rfl | exact S.cel 3 rfl | exact S.old0 hk hkl) rfl ?_
    refine o_len gn rfl rfl (by kernel_rfl) ?_
    refine o_call [_, _] gn rfl rfl (by kernel_rfl) rfl (c_pure (c186) ⟨ag0, ?_⟩)
    refine o_assign gn rfl rfl ?_
    refine wl_end ?_
    refine w_ret ?_
    refine ⟨.inl rfl, _, rfl, ?_⟩
    exact ⟨by rw [hI, if_pos (mem2 hb)]; rfl, S.e0⟩
  rw [if_neg (mem2n hb)] at hI
  refine w_switch 8 [(31, 104), (32, 105)] [(4, _), (5, _)] (by kernel_rfl) rfl (by repeat (first | exact trivial | refine ⟨rfl, ?_⟩)) (by rfl) (fun hb => ?_) fun hb => ?_
  · skip
    refine w_seq ?_
    refine w_region (by kernel_rfl) ?_
    refine o_fieldAddr (off := 4) gn rfl rfl (by kernel_rfl) ?_
    refine o_load gn rfl rfl (by kernel_rfl) (by first | exact S.cel 0 rfl | exact S.cel 1 rfl | exact S.cel 2 rfl | exact S.cel 3 rfl | exact S.old0 hk hkl) rfl ?_
    refine o_fieldAddr (off := 3) gn rfl rfl (by kernel_rfl) ?_
    refine o_load gn rfl rfl (by kernel_rfl) (by first | exact S.cel 0 rfl | exact S.cel 1 rfl | exact S.cel 2 rfl | exact S.cel 3 rfl | exact S.old0 hk hkl) rfl ?_
    refine o_len gn rfl rfl (by kernel_rfl) ?_
    refine o_call [_, _] gn rfl rfl (by kernel_rfl) rfl (c_pure (c186) ⟨ag0, ?_⟩)
    refine o_assign gn rfl rfl ?_
    refine wl_end ?_
    refine w_ret ?_
    refine ⟨.inl rfl, _, rfl, ?_⟩
    exact ⟨by rw [hI, if_pos (mem2 hb)]; rfl, S.e0⟩
  refine w_skip ?_
  refine w_seq ?_
  refine w_region (by kernel_rfl) ?_
  refine o_assign gn rfl rfl ?_
  refine wl_end ?_
  refine w_ret ?_
  refine ⟨.inl rfl, _, rfl, ?_⟩
  exact ⟨by rw [hI, if_neg (mem2n hb)]; rfl, S.e0⟩
end
end Go.Proofs.YtemdkcneolianaaGreatDoor

namespace Go.Proofs.YtemdkcneolianaaGreatDoor
open Go.X Go.May

theorem parts_dec {o : Int} {j : Nat} (h : j < (partsS o).size) : (Utf8.decode (partsS o) j).2 = 1 := by
  have key : ∀ (s : ByteArray), s = ⟨#[65]⟩ ∨ s = ⟨#[65, 66]⟩ ∨ s = ⟨#[65, 66, 67]⟩ ∨ s = ⟨#[]⟩ → j < s.size → (Utf8.decode s j).2 = 1 := by
    intro s hs hj
    rcases hs with rfl | rfl | rfl | rfl
    · have hj : j < 1 := hj
      match j, hj with
      | 0, _ => rfl
    · have hj : j < 2 := hj
      match j, hj with
      | 0, _ => rfl
      | 1, _ => rfl
    · have hj : j < 3 := hj
      match j, hj with
      | 0, _ => rfl
      | 1, _ => rfl
      | 2, _ => rfl
    have hj : j < 0 := hj
    omega
  refine key _ ?_ h
  unfold partsS
  split
  · exact .inl rfl
  split
  · exact .inr (.inl rfl)
  split
  · exact .inr (.inr (.inl rfl))
  exact .inr (.inr (.inr rfl))
theorem c_two {f : Nat} {args : List Value} {h : Hp} {v : Value} (x : CP repE f args h v) : C repE f args h fun w h' => w = v ∧ Ext h h' := C.mono x fun w h' ⟨e1, e2⟩ => ⟨e1, by rw [e2]; exact .refl _⟩
section
variable {h : Hp} {lv cv : Value} {s : ByteArray} {F : Fun} {x : Ins} {ln : Int}
/-- registers -/
theorem c259 (hx : RowV h lv (isV x.l)) (hl : x.l.length ≤ 17592186043904) (h1 : 1 ≤ x.op) (h2 : x.op ≤ 33) : C repE 259 [insV x lv ln, funV s F cv] h fun v h' => v = .bool ((x.l ++ [x.a, x.b, x.c].take (regsN x.op)).all fun r => inB r F.regs) ∧ Ext h h' := by
  obtain ⟨la, lc, rfl⟩ := hx.valM
  have hps := parts_size h1 h2
  have hr3 := regs3 x.op
  refine c_enter (fu := Tryz.f259) (by kernel_rfl) rfl ?_
  have S := SH.start h
  refine w_seq ?_
  refine w_region (by kernel_rfl) ?_
  refine s_box S gn rfl rfl fun b1 g nb1 S => ?_
  refine s_box S gn rfl rfl fun b2 g nb2 S => ?_
  refine o_assign gn rfl rfl ?_
  refine wl_end ?_
  refine w_seq ?_
  refine w_region (by kernel_rfl) ?_
  refine o_fieldAddr (off := 5) gn rfl rfl (by kernel_rfl) ?_
  refine o_load gn rfl rfl (by kernel_rfl) (S.cel 1 rfl) rfl ?_
  refine o_call [_] gn rfl rfl (by kernel_rfl) rfl (C.mono (c85 (hx.ext S.e0) hl) ?_)
  rintro v g ⟨bs, q1, q2, q3⟩
  have S := S.push (r := slR 3 0 v (isV x.l) x.l.length bs) q2 q1 q1.lt q3 q1.nodup
  refine ⟨ag0, ?_⟩
  refine o_assign gn rfl rfl ?_
  refine wl_end ?_
  refine w_seq ?_
  refine w_seq ?_
  refine w_region (by kernel_rfl) ?_
  refine o_fieldAddr (off := 0) gn rfl rfl (by kernel_rfl) ?_
  refine o_load gn rfl rfl (by kernel_rfl) (S.cel 2 rfl) rfl ?_
  refine o_call [_] gn rfl rfl (by kernel_rfl) rfl (c_pure (c316) ⟨ag0, ?_⟩)
  refine s_rangeS S gn rfl rfl (by kernel_rfl) fun b3 g nb3 S => ?_
  refine wl_end ?_
  refine w_block ?_
  refine w_loopS [(5, _)] [(2, _), (3, _), (13, _)] (by repeat (first | exact trivial | refine ⟨rfl, ?_⟩)) (fun kk lv' hh => ∃ (j : Nat) (tv : Value) (bs : List Nat), lv' = [(5, tv)] ∧ kk = regsN x.op - j ∧ j ≤ regsN x.op ∧ SH h [] [cR b3 (.str (partsS x.op) j), slR 3 0 tv (isV (x.l ++ [x.a, x.b, x.c].take j)) (x.l.length + j) bs, cR b2 (.cells (funC s F cv) 38 0), cR b1 (.cells (insC x (.slice la x.l.length lc) ln) 42 0)] hh) (n := regsN x.op) ?_ fun kk lv' hh hI => ?_
  · exact ⟨0, v, bs, rfl, rfl, by omega, by rw [List.take_zero, List.append_nil]; exact S⟩
  obtain ⟨j, tv, bs, rfl, rfl, hj, S⟩ := hI
  refine w_seq ?_
  refine w_region (by kernel_rfl) ?_
  refine s_nextS 0 S gn rfl rfl rfl (fun hlt g S => ?_) fun hge => ?_
  · refine o_extract gn rfl rfl rfl ?_
    refine wl_end ?_
    refine w_seq ?_
    refine w_cond rfl (fun hb => ?_) fun hb => absurd hb (by decide)
    have hdec := parts_dec hlt
    rw [hdec] at S
    have hj1 : j < regsN x.op := by omega
    have hj3 : j < 3 := by omega
    refine w_skip ?_
    refine w_block ?_
    refine w_seq ?_
    refine w_region (by kernel_rfl) ?_
    refine o_extract gn rfl rfl rfl ?_
    refine o_assign gn rfl rfl ?_
    refine wl_end ?_
    refine w_region (by kernel_rfl) ?_
    refine o_move gn rfl rfl ?_
    refine o_fieldAddr (off := 1) gn rfl rfl (by kernel_rfl) ?_
    refine o_load gn rfl rfl (by kernel_rfl) (S.cel 3 rfl) rfl ?_
    refine o_fieldAddr (off := 2) gn rfl rfl (by kernel_rfl) ?_
    refine o_load gn rfl rfl (by kernel_rfl) (S.cel 3 rfl) rfl ?_
    refine o_fieldAddr (off := 3) gn rfl rfl (by kernel_rfl) ?_
    refine o_load gn rfl rfl (by kernel_rfl) (S.cel 3 rfl) rfl ?_
    refine s_buildSlice (cs := #[iV x.a, iV x.b, iV x.c]) (e := 3) (z := 0) (zv := .int .i64 0) [(0, _), (1, _), (2, _)] S gn rfl (by kernel_rfl) (by kernel_rfl) (by kernel_rfl) (by kernel_rfl) rfl (by kernel_rfl) fun b4 g nb4 S => ?_
    refine o_move gn rfl rfl ?_
    refine o_indexAddr (zz := 1) gn rfl rfl rfl (by kernel_rfl) (by omega) (by omega) ?_
    refine o_load gn rfl rfl (by kernel_rfl) (S.cel 0 rfl) (by rw [Int.toNat_natCast, Nat.mul_one, Nat.zero_add]; exact abc_at hj3) ?_
    refine s_buildSlice (cs := #[iV ([x.a, x.b, x.c][j])]) (e := 3) (z := 0) (zv := .int .i64 0) [(0, _)] S gn rfl (by kernel_rfl) (by kernel_rfl) (by kernel_rfl) (by kernel_rfl) rfl (by kernel_rfl) fun b5 g nb5 S => ?_
    refine s_append2 (e := 3) (z := 0) (by' := 7) 3 0 S el40 gn rfl rfl rfl rfl rfl rfl (by rfl) (by omega) (fun s' bs' g S => ag0) fun s' bs' g S => ?_
    refine o_assign gn rfl rfl ?_
    refine wl_end ?_
    refine blk_next ?_
    have hcs : isV (x.l ++ [x.a, x.b, x.c].take (j + 1)) = isV (x.l ++ [x.a, x.b, x.c].take j) ++ [iV ([x.a, x.b, x.c][j])] := by
      rw [List.take_add_one, List.getElem?_eq_getElem hj3, ← List.append_assoc, isV, List.map_append]; rfl
    exact rndS (regsN x.op - (j + 1)) (by omega) [(5, _)] (by repeat (first | exact trivial | refine ⟨rfl, ?_⟩)) ⟨j + 1, s', bs', rfl, rfl, by omega, by rw [hcs]; exact S.drop.drop⟩
  refine o_extract gn rfl rfl rfl ?_
  refine wl_end ?_
  refine w_seq ?_
  refine w_cond rfl (fun hb => absurd hb (by decide)) fun hb => ?_
  have hje : j = regsN x.op := by omega
  subst hje
  refine w_exit ?_
  refine thn_exit ?_
  refine rnd_exit ?_
  refine blk_eq ?_
  refine w_seq ?_
  refine w_region (by kernel_rfl) ?_
  refine o_move gn rfl rfl ?_
  refine o_makeFunc1 gn rfl rfl ?_
  have hzl : (x.l ++ [x.a, x.b, x.c].take (regsN x.op)).length = x.l.length + regsN x.op := by rw [List.length_append, List.length_take]; simp; omega
  have hsl := S.sl 1 rfl
  have hrow : RowV hh tv (isV (x.l ++ [x.a, x.b, x.c].take (regsN x.op))) := hsl.row
  have hpr : PrI hh (.func (.func 317) #[] #[ptrV b2]) fun k => !inB k F.regs := ⟨317, _, rfl, by kernel_rfl, fun h' g' k => c_two (c317 (s := s) (cv := cv) (m := 0) ((g'.get b2 (S.lt1 2 rfl)).trans (S.cel 2 rfl)))⟩
  refine o_call [_, _] gn rfl rfl (by kernel_rfl) rfl (C.mono (c187 hrow (by omega) hpr) ?_)
  rintro v g ⟨rfl, y⟩
  have S := S.grow y
  refine ⟨ag0, ?_⟩
  refine o_not gn rfl rfl ?_
  refine o_assign gn rfl rfl ?_
  refine wl_end ?_
  refine w_ret ?_
  refine ⟨.inl rfl, _, rfl, ?_⟩
  exact ⟨by rw [List.not_any_eq_all_not]; simp only [Bool.not_not]; rfl, S.e0⟩
end
end Go.Proofs.YtemdkcneolianaaGreatDoor

namespace Go.Proofs.YtemdkcneolianaaGreatDoor
open Go.X Go.May

theorem el28 : ElN repE 28 46 1 15 := ⟨by kernel_rfl, by kernel_rfl, by kernel_rfl, ⟨.agg #[.int .i64 0, .int .i64 0], by kernel_rfl, by kernel_rfl⟩⟩
theorem nt {b : Bool} (h : (!b) = true) : b = false := by simpa using h
theorem nf {b : Bool} (h : (!b) = false) : b = true := by simpa using h
theorem cnt_le : ∀ l : List Ins, cnt l ≤ l.length
  | [] => Nat.le_refl _
  | x :: l => by
    have := cnt_le l
    rw [cnt, List.length_cons]
    split <;> omega
section
variable {F : Fun} {x : Ins} {P : Prg} {n : Nat}
theorem head_no2 (h : (((!inB F.regs 257 || !inB F.caps (F.regs + 1)) || decide ((F.code.length : Int) = 0)) || decide ((512 : Int) < F.code.length)) = true) : headB F = false := by
  rw [← Bool.not_eq_true]
  intro h'
  simp only [headB, Bool.and_eq_true, decide_eq_true_eq] at h'
  rw [h'.1.1, h'.1.2] at h
  simp only [Bool.not_true, Bool.false_or, Bool.or_eq_true, decide_eq_true_eq] at h
  omega
theorem head_yes2 (h : (((!inB F.regs 257 || !inB F.caps (F.regs + 1)) || decide ((F.code.length : Int) = 0)) || decide ((512 : Int) < F.code.length)) = false) : headB F = true := by
  simp only [Bool.or_eq_false_iff, Bool.not_eq_false', decide_eq_false_iff_not] at h
  rw [headB, h.1.1.1, h.1.1.2, decide_eq_true (by omega : 1 ≤ F.code.length), decide_eq_true (by omega : F.code.length ≤ 512)]; rfl
/-- The site that an instruction must have. -/
def siteOf (x : Ins) (n : Nat) : Int := if siteB x.op = true then (n : Int) else -1
def badI (x : Ins) (n : Nat) : Bool := (((decide (x.op < 1) || decide (33 < x.op)) || !decide (x.site = siteOf x n)) || (!decide (x.op = 21) && decide ((0 : Int) < x.l.length)))
theorem ok_no1 (h : badI x n = true) : okI P F x n = false := by
  rw [← Bool.not_eq_true]
  intro h'
  simp only [okI, instrB, Bool.and_eq_true, decide_eq_true_eq] at h'
  obtain ⟨⟨⟨h1, h2⟩, h3, h4, h5⟩, h6⟩ := h'
  simp only [badI, siteOf, Bool.or_eq_true, Bool.and_eq_true, decide_eq_true_eq, Bool.not_eq_true', decide_eq_false_iff_not] at h
  rcases h with ((h | h) | h) | ⟨h7, h8⟩
  · omega
  · omega
  · exact absurd h6 (of_decide_eq_false h)
  have h9 : 0 < x.l.length := by omega
  have := List.all_eq_true.1 h4 _ (List.getElem_mem h9)
  rw [decide_eq_false h7] at this
  simp at this
theorem bad_no (h : badI x n = false) : 1 ≤ x.op ∧ x.op ≤ 33 ∧ x.site = siteOf x n ∧ (x.op = 21 ∨ x.l = []) := by
  simp only [badI, Bool.or_eq_false_iff, decide_eq_false_iff_not, Bool.not_eq_false', decide_eq_true_eq, Bool.and_eq_false_iff] at h
  obtain ⟨⟨⟨h1, h2⟩, h3⟩, h4⟩ := h
  refine ⟨by omega, by omega, h3, h4.imp id fun h => List.eq_nil_of_length_eq_zero (by omega)⟩
theorem regs_all (h : x.op = 21 ∨ x.l = []) : ((x.l ++ [x.a, x.b, x.c].take (regsN x.op)).all fun r => inB r F.regs) = (regsB F x && lB F x) := by
  rw [List.all_append, Bool.and_comm]
  congr 1
  unfold lB
  rcases h with h | h
  · rw [h]; simp
  rw [h]; rfl
theorem ok_is (h : badI x n = false) : okI P F x n = ((regsB F x && lB F x) && namedB P F x) := by
  obtain ⟨h1, h2, h3, _⟩ := bad_no h
  have e : decide (x.site = if siteB x.op = true then (n : Int) else -1) = true := decide_eq_true h3
  rw [okI, e, instrB, decide_eq_true h1, decide_eq_true h2, Bool.and_true, Bool.true_and, Bool.true_and, Bool.and_assoc]
theorem fun_no (hk : n < F.code.length) {m : Nat} (h : okI P F F.code[n] (m + cnt (F.code.take n)) = false) : funB P F m = false := by
  rw [funB, codeB_fail hk h, Bool.false_and, Bool.and_false]
end
section
variable {h0 h : Hp} {P : Prg} {lo cl gl fu co ev si sv cv : Value} {kb i : Nat} {s : ByteArray} {F : Fun} {st : List (Int × Int)} {bs : List Nat} {L : List Res}
set_option maxHeartbeats 2000000 in
/-- function -/
theorem c189 (X : PrgAt h0 P lo cl gl fu co ev si) (hcode : RowP 8 (InsD h0) h0 cv F.code) (hcap : I64 F.regs) (hst : st.length ≤ 100000) (S0 : SH h0 [] (cR kb (.cells (prgC P lo cl gl fu co ev si ++ [sv]) 253 0) :: slR 46 1 sv (siC st) st.length bs :: L) h) :
    C repE 189 [ptrV kb, iV i, funV s F cv] h fun v h' => v = .bool (funB P F st.length) ∧ ∃ st' sv' bs', SH h0 [] (cR kb (.cells (prgC P lo cl gl fu co ev si ++ [sv']) 253 0) :: slR 46 1 sv' (siC st') st'.length bs' :: L) h' ∧ (funB P F st.length = true → st' = st ++ sitesC i 0 F.code) := by
  obtain ⟨va, vc, rfl⟩ := hcode.val
  refine c_enter (fu := Tryz.f189) (by kernel_rfl) rfl ?_
  have S := S0
  refine w_seq ?_
  refine w_region (by kernel_rfl) ?_
  refine s_box S gn rfl rfl fun b1 g nb1 S => ?_
  refine o_assign gn rfl rfl ?_
  refine wl_end ?_
  refine w_seq ?_
  refine w_seq ?_
  refine w_region (by kernel_rfl) ?_
  refine o_fieldAddr (off := 2) gn rfl rfl (by kernel_rfl) ?_
  refine o_load gn rfl rfl (by kernel_rfl) (by first | exact S.cel 0 rfl | exact S.cel 1 rfl | exact S.cel 2 rfl | exact S.cel 3 rfl | exact S.cel 4 rfl) rfl ?_
  refine o_call [_, _] gn rfl rfl (by kernel_rfl) rfl (c_pure (c186) ⟨ag0, ?_⟩)
  refine o_not gn rfl rfl ?_
  refine o_move gn rfl rfl ?_
  refine o_or (n := 7) rfl rfl rfl gn rfl (fun hb => by
      refine o_fieldAddr (off := 1) (gy rfl rfl rfl hb) rfl rfl (by kernel_rfl) ?_
      refine o_load (gy rfl rfl rfl hb) rfl rfl (by kernel_rfl) (by first | exact S.cel 0 rfl | exact S.cel 1 rfl | exact S.cel 2 rfl | exact S.cel 3 rfl | exact S.cel 4 rfl) rfl ?_
      refine o_fieldAddr (off := 2) (gy rfl rfl rfl hb) rfl rfl (by kernel_rfl) ?_
      refine o_load (gy rfl rfl rfl hb) rfl rfl (by kernel_rfl) (by first | exact S.cel 0 rfl | exact S.cel 1 rfl | exact S.cel 2 rfl | exact S.cel 3 rfl | exact S.cel 4 rfl) rfl ?_
      refine o_add (gy rfl rfl rfl hb) rfl rfl rfl (by have := inB_iff.1 (by simpa using hb); omega) (by have := inB_iff.1 (by simpa using hb); omega) ?_
      refine o_call [_, _] (gy rfl rfl rfl hb) rfl rfl (by kernel_rfl) rfl (c_pure (c186) ⟨ag0, ?_⟩)
      refine o_not (gy rfl rfl rfl hb) rfl rfl ?_
      exact wl_end ⟨rfl, rfl, 7, rfl, rfl⟩) ?_
  refine o_move gn rfl rfl ?_
  refine o_or (n := 4) rfl rfl rfl gn rfl (fun hb => by
      refine o_fieldAddr (off := 3) (gy rfl rfl rfl hb) rfl rfl (by kernel_rfl) ?_
      refine o_load (gy rfl rfl rfl hb) rfl rfl (by kernel_rfl) (by first | exact S.cel 0 rfl | exact S.cel 1 rfl | exact S.cel 2 rfl | exact S.cel 3 rfl | exact S.cel 4 rfl) rfl ?_
      refine o_len (gy rfl rfl rfl hb) rfl rfl (by kernel_rfl) ?_
      refine o_eqi (gy rfl rfl rfl hb) rfl rfl rfl ?_
      exact wl_end ⟨rfl, rfl, 4, rfl, rfl⟩) ?_
  refine o_move gn rfl rfl ?_
  refine o_or (n := 4) rfl rfl rfl gn rfl (fun hb => by
      refine o_fieldAddr (off := 3) (gy rfl rfl rfl hb) rfl rfl (by kernel_rfl) ?_
      refine o_load (gy rfl rfl rfl hb) rfl rfl (by kernel_rfl) (by first | exact S.cel 0 rfl | exact S.cel 1 rfl | exact S.cel 2 rfl | exact S.cel 3 rfl | exact S.cel 4 rfl) rfl ?_
      refine o_len (gy rfl rfl rfl hb) rfl rfl (by kernel_rfl) ?_
      refine o_gtr (gy rfl rfl rfl hb) rfl rfl rfl ?_
      exact wl_end ⟨rfl, rfl, 4, rfl, rfl⟩) ?_
  refine wl_end ?_
  refine w_cond rfl (fun hb => ?_) fun hb => ?_
  · skip
    refine w_seq ?_
    refine w_region (by kernel_rfl) ?_
    refine o_assign gn rfl rfl ?_
    refine wl_end ?_
    refine w_ret ?_
    refine ⟨.inl rfl, _, rfl, ?_⟩
    exact ⟨by rw [funB, head_no2 hb]; rfl, st, sv, bs, S.drop, fun hf => by rw [funB, head_no2 hb] at hf; cases hf⟩
  refine w_skip ?_
  refine w_seq ?_
  refine w_seq ?_
  have hhead := head_yes2 hb
  have hpos := head_one hhead
  have hc512 : F.code.length ≤ 512 := by
    simp only [headB, Bool.and_eq_true, decide_eq_true_eq] at hhead; omega
  refine w_region (by kernel_rfl) ?_
  refine o_fieldAddr (off := 3) gn rfl rfl (by kernel_rfl) ?_
  refine o_load gn rfl rfl (by kernel_rfl) (by first | exact S.cel 0 rfl | exact S.cel 1 rfl | exact S.cel 2 rfl | exact S.cel 3 rfl | exact S.cel 4 rfl) rfl ?_
  refine o_len gn rfl rfl (by kernel_rfl) ?_
  refine o_move gn rfl rfl ?_
  refine wl_end ?_
  refine w_block ?_
  refine w_loopS [(39, _)] [(0, _), (1, _), (5, _), (37, _), (38, _)] (by repeat (first | exact trivial | refine ⟨rfl, ?_⟩)) (fun kk lv hh => ∃ (k : Nat) (sv : Value) (bs : List Nat), lv = [(39, iV k)] ∧ kk = F.code.length - k ∧ k ≤ F.code.length ∧ SH h0 [] (cR b1 (.cells (funC s F (.slice va F.code.length vc)) 38 0) :: cR kb (.cells (prgC P lo cl gl fu co ev si ++ [sv]) 253 0) :: slR 46 1 sv (siC (st ++ sitesC i 0 (F.code.take k))) (st ++ sitesC i 0 (F.code.take k)).length bs :: L) hh ∧ codeB P F st.length (F.code.take k) = true) (n := (F.code.length)) ?_ fun kk lv hh hI => ?_
  · exact ⟨0, sv, bs, rfl, rfl, by omega, by rw [List.take_zero, sitesC, List.append_nil]; exact S, rfl⟩
  obtain ⟨k, sv, bs, rfl, rfl, hk, S, hall⟩ := hI
  refine w_seq ?_
  refine w_region (by kernel_rfl) ?_
  refine o_lss gn rfl rfl rfl ?_
  refine wl_end ?_
  refine w_seq ?_
  refine w_cond rfl (fun hb => ?_) fun hb => ?_
  · skip
    refine w_skip ?_
    refine w_seq ?_
    refine w_block ?_
    refine w_seq ?_
    have hk1 : k < F.code.length := by simp at hb; omega
    obtain ⟨b', o', c', cs', e', m', hv', hg', hlb', hl8', hat'⟩ := hcode.at (by omega)
    have htb : va = some ⟨b', o', none⟩ := by injection hv'
    obtain ⟨⟨lv, ln, hw2, hrow⟩, hr1, hr2, hr3, hr4, hr5, hr6, hr7, hr8⟩ := hat' k hk1
    obtain ⟨la, lc, rfl⟩ := hrow.valM
    have hw2 : (cs'.drop (o' + Int.toNat (k : Int) * 8)).take 8 = insC F.code[k] (.slice la (F.code[k]).l.length lc) ln := by rw [Int.toNat_natCast]; exact hw2
    obtain ⟨sa, sc, rfl⟩ := (S.sl 2 rfl).val
    have hcnt := cnt_le (F.code.take k)
    have hsl : (st ++ sitesC i 0 (F.code.take k)).length = st.length + cnt (F.code.take k) := by rw [List.length_append, sitesC_len]
    rw [List.length_take] at hcnt
    refine w_region (by kernel_rfl) ?_
    refine o_move gn rfl rfl ?_
    rw [htb]
    refine o_indexAddr (zz := 8) gn rfl rfl rfl (by kernel_rfl) (by omega) (by omega) ?_
    refine o_loadA (n := 8) gn rfl rfl (by kernel_rfl) (by kernel_rfl) (S.old0 hg' hlb') (by rw [Int.toNat_natCast]; omega) ?_
    rw [hw2, ← htb]
    refine s_alloc (zv := .agg #[.int .i64 0, .int .i64 0, .int .i64 0, .int .i64 0, .int .i64 0, .slice none 0 0, .int .i64 0, .int .i64 0]) S gn rfl (by kernel_rfl) fun b2 g nb2 S => ?_
    refine o_assign gn rfl rfl ?_
    first | refine s_storeA (n := 8) 0 S gn rfl rfl (by kernel_rfl) (by kernel_rfl) rfl rfl (by decide) rfl (fun g S => ag0) fun g S => ?_ | refine s_storeA (n := 8) 1 S gn rfl rfl (by kernel_rfl) (by kernel_rfl) rfl rfl (by decide) rfl (fun g S => ag0) fun g S => ?_ | refine s_storeA (n := 8) 2 S gn rfl rfl (by kernel_rfl) (by kernel_rfl) rfl rfl (by decide) rfl (fun g S => ag0) fun g S => ?_ | refine s_storeA (n := 8) 3 S gn rfl rfl (by kernel_rfl) (by kernel_rfl) rfl rfl (by decide) rfl (fun g S => ag0) fun g S => ?_ | refine s_storeA (n := 8) 4 S gn rfl rfl (by kernel_rfl) (by kernel_rfl) rfl rfl (by decide) rfl (fun g S => ag0) fun g S => ?_ | refine s_storeA (n := 8) 5 S gn rfl rfl (by kernel_rfl) (by kernel_rfl) rfl rfl (by decide) rfl (fun g S => ag0) fun g S => ?_
    refine wl_end ?_
    refine w_seq ?_
    refine w_region (by kernel_rfl) ?_
    refine o_assign gn rfl rfl ?_
    refine wl_end ?_
    refine w_cutS [(0, ptrV kb), (1, iV i), (5, ptrV b1), (7, iV k), (8, ptrV b2), (37, .slice va F.code.length vc), (38, iV F.code.length), (39, iV k)] (fun lv hh => lv = [(9, iV (siteOf F.code[k] (st.length + cnt (F.code.take k))))] ∧ ∃ sv' bs', SH h0 [] (cR b2 (.cells (insC F.code[k] (.slice la (F.code[k]).l.length lc) ln) 42 0) :: cR b1 (.cells (funC s F (.slice va F.code.length vc)) 38 0) :: cR kb (.cells (prgC P lo cl gl fu co ev si ++ [sv']) 253 0) :: slR 46 1 sv' (siC (st ++ sitesC i 0 (F.code.take (k + 1)))) (st ++ sitesC i 0 (F.code.take (k + 1))).length bs' :: L) hh) ?_ fun lv hh hJ => ?_
    · skip
      refine w_seq ?_
      refine w_region (by kernel_rfl) ?_
      refine o_fieldAddr (off := 0) gn rfl rfl (by kernel_rfl) ?_
      refine o_load gn rfl rfl (by kernel_rfl) (by first | exact S.cel 0 rfl | exact S.cel 1 rfl | exact S.cel 2 rfl | exact S.cel 3 rfl | exact S.cel 4 rfl | exact S.cel 5 rfl) rfl ?_
      refine o_call [_] gn rfl rfl (by kernel_rfl) rfl (c_pure (c258) ⟨ag0, ?_⟩)
      refine wl_end ?_
      refine w_cond rfl (fun hb => ?_) fun hb => ?_
      · skip
        refine w_seq ?_
        refine w_region (by kernel_rfl) ?_
        refine o_move gn rfl rfl ?_
        refine o_nilCheck gn rfl rfl ?_
        refine o_fieldAddr (off := 8) gn rfl rfl (by kernel_rfl) ?_
        refine o_load gn rfl rfl (by kernel_rfl) (by first | exact S.cel 0 rfl | exact S.cel 1 rfl | exact S.cel 2 rfl | exact S.cel 3 rfl | exact S.cel 4 rfl | exact S.cel 5 rfl) rfl ?_
        refine o_len gn rfl rfl (by kernel_rfl) ?_
        refine o_assign gn rfl rfl ?_
        refine wl_end ?_
        refine w_region (by kernel_rfl) ?_
        refine o_move gn rfl rfl ?_
        refine o_move gn rfl rfl ?_
        refine o_nilCheck gn rfl rfl ?_
        refine o_fieldAddr (off := 8) gn rfl rfl (by kernel_rfl) ?_
        refine o_load gn rfl rfl (by kernel_rfl) (by first | exact S.cel 0 rfl | exact S.cel 1 rfl | exact S.cel 2 rfl | exact S.cel 3 rfl | exact S.cel 4 rfl | exact S.cel 5 rfl) rfl ?_
        refine o_move gn rfl rfl ?_
        refine o_move gn rfl rfl ?_
        refine o_build (zv := .agg #[.int .i64 0, .int .i64 0]) (pl := [(0, 1), (1, 1)]) [(0, _), (1, _)] gn rfl (by kernel_rfl) (by kernel_rfl) rfl (by rfl) ?_
        refine s_buildSlice (e := 46) (z := 1) (zv := .agg #[.int .i64 0, .int .i64 0]) [(0, _)] S gn rfl (by kernel_rfl) (by kernel_rfl) (by kernel_rfl) (by kernel_rfl) rfl (by rfl) fun b3 g nb3 S => ?_
        refine s_append (e := 46) (z := 1) (by' := 15) 4 0 S el28 gn rfl rfl rfl rfl rfl rfl (by rfl) (by omega) (fun s' bs' g S => ag0) fun s' bs' g S => ?_
        refine o_nilCheck gn rfl rfl ?_
        refine o_fieldAddr (off := 8) gn rfl rfl (by kernel_rfl) ?_
        refine s_store 3 S gn rfl rfl (S.sl 4 rfl).cellV (by kernel_rfl) rfl (by decide) (by simp) (fun g S => ag0) fun g S => ?_
        refine wl_end ?_
        exact cutS [(9, _)] (by repeat (first | exact trivial | refine ⟨rfl, ?_⟩)) ⟨by rw [siteOf, if_pos hb, hsl], s', bs', by
          have e2 : sitesC i 0 (F.code.take (k + 1)) = sitesC i 0 (F.code.take k) ++ [((i : Int), (k : Int))] := by rw [sitesC_succ hk1, if_pos hb]
          have e3 : siC (st ++ sitesC i 0 (F.code.take (k + 1))) = siC (st ++ sitesC i 0 (F.code.take k)) ++ [iV i, iV k] := by rw [e2, ← List.append_assoc, siC_app]; rfl
          have e4 : (st ++ sitesC i 0 (F.code.take (k + 1))).length = (st ++ sitesC i 0 (F.code.take k)).length + 1 := by rw [e2, ← List.append_assoc, List.length_append]; rfl
          rw [e3, e4]; exact S.drop⟩
      refine w_skip ?_
      exact cutS [(9, _)] (by repeat (first | exact trivial | refine ⟨rfl, ?_⟩)) ⟨by rw [siteOf, if_neg (by rw [hb]; simp)], _, bs, by
        have e2 : sitesC i 0 (F.code.take (k + 1)) = sitesC i 0 (F.code.take k) := by rw [sitesC_succ hk1, if_neg (by rw [hb]; simp), List.append_nil]
        rw [e2]; exact S⟩
    obtain ⟨rfl, sv', bs', S⟩ := hJ
    refine w_seq ?_
    refine w_region (by kernel_rfl) ?_
    refine o_fieldAddr (off := 0) gn rfl rfl (by kernel_rfl) ?_
    refine o_load gn rfl rfl (by kernel_rfl) (by first | exact S.cel 0 rfl | exact S.cel 1 rfl | exact S.cel 2 rfl | exact S.cel 3 rfl | exact S.cel 4 rfl | exact S.cel 5 rfl) rfl ?_
    refine o_lss gn rfl rfl rfl ?_
    refine o_move gn rfl rfl ?_
    refine o_or (n := 3) rfl rfl rfl gn rfl (fun hb => by
        refine o_fieldAddr (off := 0) (gy rfl rfl rfl hb) rfl rfl (by kernel_rfl) ?_
        refine o_load (gy rfl rfl rfl hb) rfl rfl (by kernel_rfl) (by first | exact S.cel 0 rfl | exact S.cel 1 rfl | exact S.cel 2 rfl | exact S.cel 3 rfl | exact S.cel 4 rfl | exact S.cel 5 rfl) rfl ?_
        refine o_gtr (gy rfl rfl rfl hb) rfl rfl rfl ?_
        exact wl_end ⟨rfl, rfl, 3, rfl, rfl⟩) ?_
    refine o_move gn rfl rfl ?_
    refine o_or (n := 4) rfl rfl rfl gn rfl (fun hb => by
        refine o_fieldAddr (off := 6) (gy rfl rfl rfl hb) rfl rfl (by kernel_rfl) ?_
        refine o_load (gy rfl rfl rfl hb) rfl rfl (by kernel_rfl) (by first | exact S.cel 0 rfl | exact S.cel 1 rfl | exact S.cel 2 rfl | exact S.cel 3 rfl | exact S.cel 4 rfl | exact S.cel 5 rfl) rfl ?_
        refine o_move (gy rfl rfl rfl hb) rfl rfl ?_
        refine o_nei (gy rfl rfl rfl hb) rfl rfl rfl ?_
        exact wl_end ⟨rfl, rfl, 4, rfl, rfl⟩) ?_
    refine o_move gn rfl rfl ?_
    refine o_or (B := !decide ((F.code[k]).op = 21) && decide ((0 : Int) < (F.code[k]).l.length)) (n := 9) rfl rfl rfl gn rfl (fun hb => by
        refine o_fieldAddr (off := 0) (gy rfl rfl rfl hb) rfl rfl (by kernel_rfl) ?_
        refine o_load (gy rfl rfl rfl hb) rfl rfl (by kernel_rfl) (by first | exact S.cel 0 rfl | exact S.cel 1 rfl | exact S.cel 2 rfl | exact S.cel 3 rfl | exact S.cel 4 rfl | exact S.cel 5 rfl) rfl ?_
        refine o_nei (gy rfl rfl rfl hb) rfl rfl rfl ?_
        refine o_move (gy rfl rfl rfl hb) rfl rfl ?_
        refine o_and (n := 4) rfl rfl rfl (gy rfl rfl rfl hb) rfl (fun hb => by
            refine o_fieldAddr (off := 5) (gy rfl rfl rfl hb) rfl rfl (by kernel_rfl) ?_
            refine o_load (gy rfl rfl rfl hb) rfl rfl (by kernel_rfl) (by first | exact S.cel 0 rfl | exact S.cel 1 rfl | exact S.cel 2 rfl | exact S.cel 3 rfl | exact S.cel 4 rfl | exact S.cel 5 rfl) rfl ?_
            refine o_len (gy rfl rfl rfl hb) rfl rfl (by kernel_rfl) ?_
            refine o_gtr (gy rfl rfl rfl hb) rfl rfl rfl ?_
            exact wl_end ⟨rfl, rfl, 4, rfl, rfl⟩) ?_
        exact wl_end ⟨rfl, rfl, 5, rfl, rfl⟩) ?_
    refine o_move gn rfl rfl ?_
    refine wl_split (dc := 89) rfl (fun hb89 => ?_) fun hb89 => ?_
    · skip
      refine wl_skips (n := 4) (dc := 89) (w := false) rfl hb89 rfl ?_
      refine o_pickt gn rfl rfl hb89 rfl ?_
      refine o_move gn rfl rfl ?_
      refine wl_split (dc := 95) rfl (fun hb95 => ?_) fun hb95 => ?_
      · skip
        refine wl_skips (n := 5) (dc := 95) (w := false) rfl hb95 rfl ?_
        refine o_pickt gn rfl rfl hb95 rfl ?_
        refine wl_end ?_
        refine w_cond rfl (fun hb => ?_) fun hb => ?_
        · skip
          refine w_seq ?_
          refine w_region (by kernel_rfl) ?_
          refine o_assign gn rfl rfl ?_
          refine wl_end ?_
          refine w_ret ?_
          refine ⟨.inl rfl, _, rfl, ?_⟩
          exact ⟨by rw [fun_no hk1 (ok_no1 hb89)]; rfl, _, _, _, S.drop.drop, fun hf => by rw [fun_no hk1 (ok_no1 hb89)] at hf; cases hf⟩
        refine w_skip ?_
        exact absurd hb (by decide)
      refine o_move (gy rfl rfl rfl hb95) rfl rfl ?_
      exact absurd hb95 (by simp)
    refine o_loadA (n := 8) (gy rfl rfl rfl hb89) rfl rfl (by kernel_rfl) (by kernel_rfl) (by first | exact S.cel 0 rfl | exact S.cel 1 rfl | exact S.cel 2 rfl | exact S.cel 3 rfl | exact S.cel 4 rfl | exact S.cel 5 rfl) (by first | decide | exact Nat.le_refl _ | (simp; done)) ?_
    refine o_loadA (n := 4) (gy rfl rfl rfl hb89) rfl rfl (by kernel_rfl) (by kernel_rfl) (by first | exact S.cel 0 rfl | exact S.cel 1 rfl | exact S.cel 2 rfl | exact S.cel 3 rfl | exact S.cel 4 rfl | exact S.cel 5 rfl) (by first | decide | exact Nat.le_refl _ | (simp; done)) ?_
    refine o_call [_, _] (gy rfl rfl rfl hb89) rfl rfl (by kernel_rfl) rfl (C.mono (c259 (s := s) (F := F) (x := F.code[k]) (hrow.ext S.e0) hr6 (bad_no hb89).1 (bad_no hb89).2.1) ?_)
    rintro v g ⟨rfl, x⟩
    have S := S.grow x
    refine ⟨ag0, ?_⟩
    refine o_not (gy rfl rfl rfl hb89) rfl rfl ?_
    refine o_pickf gn rfl rfl hb89 rfl ?_
    refine o_move gn rfl rfl ?_
    have hok := ok_is (P := P) (F := F) hb89
    rw [← regs_all (F := F) (bad_no hb89).2.2.2] at hok
    refine wl_split (dc := 95) rfl (fun hb95 => ?_) fun hb95 => ?_
    · skip
      refine wl_skips (n := 5) (dc := 95) (w := false) rfl hb95 rfl ?_
      refine o_pickt gn rfl rfl hb95 rfl ?_
      refine wl_end ?_
      refine w_cond rfl (fun hb => ?_) fun hb => ?_
      · skip
        refine w_seq ?_
        refine w_region (by kernel_rfl) ?_
        refine o_assign gn rfl rfl ?_
        refine wl_end ?_
        refine w_ret ?_
        refine ⟨.inl rfl, _, rfl, ?_⟩
        exact ⟨by rw [fun_no hk1 (by rw [hok, nt hb95, Bool.false_and])]; rfl, _, _, _, S.drop.drop, fun hf => by rw [fun_no hk1 (by rw [hok, nt hb95, Bool.false_and])] at hf; cases hf⟩
      refine w_skip ?_
      exact absurd hb (by decide)
    refine o_move (gy rfl rfl rfl hb95) rfl rfl ?_
    refine o_loadA (n := 8) (gy rfl rfl rfl hb95) rfl rfl (by kernel_rfl) (by kernel_rfl) (by first | exact S.cel 0 rfl | exact S.cel 1 rfl | exact S.cel 2 rfl | exact S.cel 3 rfl | exact S.cel 4 rfl | exact S.cel 5 rfl) (by first | decide | exact Nat.le_refl _ | (simp; done)) ?_
    refine o_loadA (n := 4) (gy rfl rfl rfl hb95) rfl rfl (by kernel_rfl) (by kernel_rfl) (by first | exact S.cel 0 rfl | exact S.cel 1 rfl | exact S.cel 2 rfl | exact S.cel 3 rfl | exact S.cel 4 rfl | exact S.cel 5 rfl) (by first | decide | exact Nat.le_refl _ | (simp; done)) ?_
    refine o_call [_, _, _] (gy rfl rfl rfl hb95) rfl rfl (by kernel_rfl) rfl (C.mono (c260 (s := s) (F := F) (x := F.code[k]) (ln := ln) (X.ext S.e0) (S.cel 2 rfl) (S.lt1 2 rfl) ⟨_, _, rfl⟩ ⟨_, _, rfl⟩) ?_)
    rintro v g ⟨rfl, x⟩
    have S := S.grow x
    refine ⟨ag0, ?_⟩
    refine o_not (gy rfl rfl rfl hb95) rfl rfl ?_
    refine o_pickf gn rfl rfl hb95 rfl ?_
    refine wl_end ?_
    refine w_cond rfl (fun hb => ?_) fun hb => ?_
    · skip
      refine w_seq ?_
      refine w_region (by kernel_rfl) ?_
      refine o_assign gn rfl rfl ?_
      refine wl_end ?_
      refine w_ret ?_
      refine ⟨.inl rfl, _, rfl, ?_⟩
      exact ⟨by rw [fun_no hk1 (by rw [hok, nt hb, Bool.and_false])]; rfl, _, _, _, S.drop.drop, fun hf => by rw [fun_no hk1 (by rw [hok, nt hb, Bool.and_false])] at hf; cases hf⟩
    refine w_skip ?_
    refine w_region (by kernel_rfl) ?_
    refine o_add gn rfl rfl rfl (by omega) (by omega) ?_
    refine o_move gn rfl rfl ?_
    refine wl_end ?_
    exact rndS (F.code.length - (k + 1)) (by omega) [(39, _)] (by repeat (first | exact trivial | refine ⟨rfl, ?_⟩)) ⟨k + 1, sv', bs', rfl, rfl, by omega, S.drop, by rw [codeB_succ hk1, hall, Bool.true_and, hok, nf hb95, nf hb]; rfl⟩
  refine w_exit ?_
  refine thn_exit ?_
  refine rnd_exit ?_
  refine blk_eq ?_
  refine w_seq ?_
  have hke : k = F.code.length := by simp at hb; omega
  rw [hke, List.take_length] at hall S
  obtain ⟨b', o', c', cs', e', m', hv', hg', hlb', hl8', hat'⟩ := hcode.at (by omega)
  have htb : va = some ⟨b', o', none⟩ := by injection hv'
  obtain ⟨⟨lv, ln, hw2, hrow⟩, -⟩ := hat' (F.code.length - 1) (by omega)
  have hlo := last_at (F := F) (by omega)
  have hw2 : cs'[o' + Int.toNat ((F.code.length : Int) - 1) * 8 + 0]? = some (iV (lastOp F.code)) := by
    rw [hlo, show Int.toNat ((F.code.length : Int) - 1) = F.code.length - 1 by omega]; exact cut_at hw2 (by omega) rfl
  refine w_region (by kernel_rfl) ?_
  refine o_fieldAddr (off := 3) gn rfl rfl (by kernel_rfl) ?_
  refine o_load gn rfl rfl (by kernel_rfl) (by first | exact S.cel 0 rfl | exact S.cel 1 rfl | exact S.cel 2 rfl | exact S.cel 3 rfl | exact S.cel 4 rfl) rfl ?_
  refine o_fieldAddr (off := 3) gn rfl rfl (by kernel_rfl) ?_
  refine o_load gn rfl rfl (by kernel_rfl) (by first | exact S.cel 0 rfl | exact S.cel 1 rfl | exact S.cel 2 rfl | exact S.cel 3 rfl | exact S.cel 4 rfl) rfl ?_
  refine o_len gn rfl rfl (by kernel_rfl) ?_
  refine o_sub gn rfl rfl rfl (by omega) (by omega) ?_
  rw [htb]
  refine o_indexAddr (zz := 8) gn rfl rfl rfl (by kernel_rfl) (by omega) (by omega) ?_
  refine o_fieldAddr (off := 0) gn rfl rfl (by kernel_rfl) ?_
  refine o_load gn rfl rfl (by kernel_rfl) (S.old0 hg' hlb') hw2 ?_
  rw [← htb]
  refine o_assign gn rfl rfl ?_
  refine wl_end ?_
  refine w_seq ?_
  refine w_region (by kernel_rfl) ?_
  refine o_move gn rfl rfl ?_
  refine o_eqi gn rfl rfl rfl ?_
  refine o_move gn rfl rfl ?_
  refine o_or (n := 2) rfl rfl rfl gn rfl (fun hb => by
      refine o_move (gy rfl rfl rfl hb) rfl rfl ?_
      refine o_eqi (gy rfl rfl rfl hb) rfl rfl rfl ?_
      exact wl_end ⟨rfl, rfl, 2, rfl, rfl⟩) ?_
  refine o_assign gn rfl rfl ?_
  refine wl_end ?_
  refine w_ret ?_
  refine ⟨.inl rfl, _, rfl, ?_⟩
  exact ⟨by rw [funB, hhead, Bool.true_and, hall, Bool.true_and]; rfl, _, _, _, S.drop, fun _ => rfl⟩
end
end Go.Proofs.YtemdkcneolianaaGreatDoor

