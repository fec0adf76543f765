/- Chapter 4: what kinds, and texts, are among some. Conditions: the table of blanks, for names. Chapter 4: how tightly kids must bind; how much more nest they have. Conditions: none. Chapter 4: what each kind of twigs has: the program's map of forms, as it lies there. Conditions: the table of blanks, for names. Chapter 4: has a twig what its kind has? Conditions: the table of blanks, for names. Chapter 4: trees, as they lie; the program's walk over one. Conditions: the table of blanks, for names. Chapter 4: may a tree be, as the program has it. Conditions: the table of blanks, for names. Chapter 4: the document's texts, numbers, letters of kinds. Conditions: texts shorter than 9223372036854775000 bytes. Chapter 4: the document's kids of a kind. -/
import Derived.Test.YtkidomfnmpnmaaaGreatDoorLa
import Derived.Test.YtkidomfnmpnmaaaGreatDoorXd
namespace Go.Proofs.YtkidomfnmpnmaaaGreatDoor
open Go.X
abbrev isV (l : List Int) : List Value := l.map fun n => .int .i64 n
abbrev ssV (l : List ByteArray) : List Value := l.map Value.string
def Qeq : List ByteArray := [JV [105, 110, 116], JV [102, 110], JV [116, 111, 107], JV [104, 97, 110, 100], JV [97, 114, 114]]
def opL : List ByteArray := [JV [43], JV [45], JV [42], JV [60], JV [61, 61]]
def Q4c (l : List ByteArray) (s : ByteArray) : Bool := l.any fun w => eqS s w
def Q0U (K : Int) : Bool := decide (K ∈ [2, 3, 6, 7, 8, 10, 11])
def Q4a (K : Int) : Bool := decide (K ∈ [29, 30, 31])
def Q1J (K : Int) : Bool := decide (13 ≤ K) && decide (K ≤ 25)
def typS (s : ByteArray) : Bool := Za s || Q4c Qeq s
theorem QaG {s : ByteArray} (h : (eqS s (JV [105, 110, 116]) || eqS s (JV [102, 110]) || eqS s (JV [116, 111, 107]) || eqS s (JV [104, 97, 110, 100]) || eqS s (JV [97, 114, 114])) = true) : typS s = true := by
  simp only [typS, Q4c, Qeq, List.any_cons, List.any_nil, Bool.or_false]; simp only [Bool.or_assoc] at h; rw [h, Bool.or_true]
theorem QcC {s : ByteArray} (h : (eqS s (JV [105, 110, 116]) || eqS s (JV [102, 110]) || eqS s (JV [116, 111, 107]) || eqS s (JV [104, 97, 110, 100]) || eqS s (JV [97, 114, 114])) = false) : typS s = Za s := by
  simp only [typS, Q4c, Qeq, List.any_cons, List.any_nil, Bool.or_false]; simp only [Bool.or_assoc] at h; rw [h, Bool.or_false]
section
variable {h : Hp} {K : Int} {s : ByteArray} {v : Value} {ks : List Int} {ws : List ByteArray}
theorem c77 (R : RowV h v (isV ks)) (hl : ks.length < 1000000) : C nmE 109 [v, iV K] h fun v h' => ∃ r, v = iV r ∧ Ext h h' ∧ (0 ≤ r ↔ K ∈ ks) := by
  obtain ⟨a, c, rfl⟩ := R.valM; refine Qf (fu := Tryz.f109) (by kernel_rfl) rfl ?_; have S := SH.start h; refine Qd ?_; refine Q3 gn rfl rfl ?_; refine Kz ?_; refine Q4 gn rfl rfl ?_; refine QI gn rfl rfl (by kernel_rfl) ?_; refine Q4 gn rfl rfl ?_; refine Q5 ?_; refine Qg ?_; refine QH [(8, _)] [(0, _), (1, _), (7, _)] (by repeat (first | exact trivial | refine ⟨rfl, ?_⟩)) (fun kk lv hh => ∃ j : Nat, lv = [(8, iV j)] ∧ kk = ks.length - j ∧ j ≤ ks.length ∧ SH h [] [] hh ∧ ∀ i (hi : i < ks.length), i < j → ks[i] ≠ K) (n := (ks.length)) ?_ fun kk lv hh hI => ?_
  · exact ⟨0, rfl, rfl, by omega, S, fun i _ hi => by omega⟩
  obtain ⟨j, rfl, hk, hj, S, hs⟩ := hI; refine Qd ?_; refine Z9 gn rfl rfl rfl ?_; refine Q5 ?_; refine Qj ?_; refine Qa rfl (fun hb => ?_) fun hb => ?_
  · skip
    refine Qe ?_; have hj : j < ks.length := by simp at hb; omega
    obtain ⟨b, o, c', cs, e, m, hv, hg, hlt, hat⟩ := R.atM (by omega); cases hv; have hc := hat j hj; refine Qj ?_; refine Qg ?_; refine Qd ?_; refine Q4 gn rfl rfl ?_; refine Q3 gn rfl rfl ?_; refine Zw ?_; refine Q4 gn rfl rfl ?_; refine Q4 gn rfl rfl ?_; refine Q4 gn rfl rfl ?_; refine Q7 (zz := 1) gn rfl rfl rfl (by kernel_rfl) (by omega) (by omega) ?_; refine Q6 gn rfl rfl (by kernel_rfl) (S.old0 hg hlt) (by rw [Int.toNat_natCast, Nat.mul_one]; exact hc) ?_; refine Qq gn rfl rfl rfl ?_; refine Q5 ?_; refine Qa rfl (fun hb => ?_) fun hb => ?_
    · skip
      refine Qd ?_; refine Q4 gn rfl rfl ?_; refine Q3 gn rfl rfl ?_; refine Q5 ?_; refine Qc ?_; refine ⟨.inl rfl, _, rfl, ?_⟩; exact ⟨j, rfl, S.e0, by simp at hb; exact ⟨fun _ => hb ▸ List.getElem_mem hj, fun _ => by omega⟩⟩
    refine Qe ?_; refine Q8 (by kernel_rfl) ?_; refine QO gn rfl rfl rfl (by omega) (by omega) ?_; refine Q4 gn rfl rfl ?_; refine Q5 ?_
    exact Kc (ks.length - (j + 1)) (by omega) [(8, _)] (by repeat (first | exact trivial | refine ⟨rfl, ?_⟩)) ⟨j + 1, rfl, rfl, by omega, S, fun i hi h => by
      by_cases e : i = j
      · subst e; simp at hb; exact fun x => hb x.symm
      exact hs i hi (by omega)⟩
  refine QZ ?_; refine Qt ?_; refine Qu ?_; refine QY ?_; refine Qd ?_; refine Q3 gn rfl rfl ?_; refine Q5 ?_; refine Qc ?_; refine ⟨.inl rfl, _, rfl, ?_⟩
  exact ⟨-1, rfl, S.e0, ⟨fun h => by omega, fun hm => by
    obtain ⟨i, hi, e⟩ := List.mem_iff_getElem.1 hm
    exact absurd e (hs i hi (by simp at hb; omega))⟩⟩
theorem c61 (R : RowV h v (isV ks)) (hl : ks.length < 1000000) : C nmE 80 [v, iV K] h fun v h' => v = .bool (decide (K ∈ ks)) ∧ Ext h h' := by
  refine Qf (fu := Tryz.f80) (by kernel_rfl) rfl ?_; have S := SH.start h; refine Qd ?_; refine Q3 gn rfl rfl ?_; refine Zw ?_; refine Q4 gn rfl rfl ?_; refine Q4 gn rfl rfl ?_; refine Qb [_, _] gn rfl rfl (by kernel_rfl) rfl (C.mono (c77 R hl) ?_); rintro v g ⟨r, rfl, x, hr⟩; have S := S.grow x; refine ⟨ag0, ?_⟩; refine Y5 gn rfl rfl rfl ?_; refine Q3 gn rfl rfl ?_; refine Q5 ?_; refine Qc ?_; refine ⟨.inl rfl, _, rfl, ?_⟩; exact ⟨by rw [show decide (0 ≤ r) = decide (K ∈ ks) from decide_eq_decide.2 hr]; rfl, S.e0⟩
theorem c60 {q : Nat} (hq : h.get q = some (.cells [v] 71 0)) (R : RowV h v (isV ks)) (hl : ks.length < 1000000) : C nmE 102 [iV K, Zx q] h fun v h' => v = .bool (decide (K ∈ ks)) ∧ Ext h h' := by
  refine Qf (fu := Tryz.f102) (by kernel_rfl) rfl ?_; have S := SH.start h; refine Qd ?_; refine Q3 gn rfl rfl ?_; refine Zw ?_; refine Q6 gn rfl rfl (by kernel_rfl) (by first | exact S.cel 0 rfl | exact S.cel 1 rfl | exact hq) rfl ?_; refine Q4 gn rfl rfl ?_; refine Qb [_, _] gn rfl rfl (by kernel_rfl) rfl (C.mono (c61 R hl) ?_); rintro v g ⟨rfl, x⟩; have S := S.grow x; refine ⟨ag0, ?_⟩; refine Q3 gn rfl rfl ?_; refine Q5 ?_; refine Qc ?_; refine ⟨.inl rfl, _, rfl, ?_⟩; exact ⟨rfl, S.e0⟩
theorem c40 : CP nmE 71 [iV K] h (.bool (Q1J K)) := by
  refine Qf (fu := Tryz.f71) (by kernel_rfl) rfl ?_; refine Qd ?_; refine Q3 gn rfl rfl ?_; refine Zw ?_; refine Q4 gn rfl rfl ?_; refine Y5 gn rfl rfl rfl ?_; refine Q4 gn rfl rfl ?_
  refine ZU (n := 2) rfl rfl rfl gn rfl (fun hb => by
      refine Q4 (gy rfl rfl rfl hb) rfl rfl ?_; refine Q0F (gy rfl rfl rfl hb) rfl rfl rfl ?_
      exact Q5 ⟨rfl, rfl, 2, rfl, rfl⟩) ?_
  refine Q3 gn rfl rfl ?_; refine Q5 ?_; refine Qc ?_; refine ⟨.inl rfl, _, rfl, ?_⟩; exact ⟨rfl, rfl⟩
theorem c54 : CP nmE 89 [iV K] h (.bool (Q1J K)) := by
  refine Qf (fu := Tryz.f89) (by kernel_rfl) rfl ?_; refine Qd ?_; refine Q3 gn rfl rfl ?_; refine Zw ?_; refine Q4 gn rfl rfl ?_; refine Y5 gn rfl rfl rfl ?_; refine Q4 gn rfl rfl ?_
  refine ZU (n := 2) rfl rfl rfl gn rfl (fun hb => by
      refine Q4 (gy rfl rfl rfl hb) rfl rfl ?_; refine Q0F (gy rfl rfl rfl hb) rfl rfl rfl ?_
      exact Q5 ⟨rfl, rfl, 2, rfl, rfl⟩) ?_
  refine Q3 gn rfl rfl ?_; refine Q5 ?_; refine Qc ?_; refine ⟨.inl rfl, _, rfl, ?_⟩; exact ⟨rfl, rfl⟩
theorem c35 : C nmE 65 [v] h fun u h' => ∃ q, u = .func (.func 102) #[] #[Zx q] ∧ h'.get q = some (.cells v.cells.toList 71 0) ∧ q < h'.n ∧ Ext h h' := by
  refine Qf (fu := Tryz.f65) (by kernel_rfl) rfl ?_; have S := SH.start h; refine Qd ?_; refine Yh S gn rfl rfl fun b1 g nb1 S => ?_; refine Q3 gn rfl rfl ?_; refine Zw ?_; refine KH gn rfl rfl ?_; refine Q3 gn rfl rfl ?_; refine Q5 ?_; refine Qc ?_; refine ⟨.inl rfl, _, rfl, ?_⟩; exact ⟨b1, rfl, S.cel 0 rfl, S.lt1 0 rfl, S.e0⟩
theorem c37 : C nmE 68 [iV K] h fun v h' => v = .bool (Q0U K) ∧ Ext h h' := by
  refine Qf (fu := Tryz.f68) (by kernel_rfl) rfl ?_; have S := SH.start h; refine Qd ?_; refine Q3 gn rfl rfl ?_; refine Zw ?_; refine Qn (cs := (isV [2, 3, 6, 7, 8, 10, 11]).toArray) (e := 39) (z := 0) (zv := .int .i64 0) [(0, _), (1, _), (2, _), (3, _), (4, _), (5, _), (6, _)] S gn rfl (by kernel_rfl) (by kernel_rfl) (by kernel_rfl) (by kernel_rfl) rfl (by kernel_rfl) fun b1 g nb1 S => ?_; refine Qb [_] gn rfl rfl (by kernel_rfl) rfl (C.mono (c35) ?_); rintro v g ⟨q, rfl, hq, lq, x⟩; have S := S.grow x; refine ⟨ag0, ?_⟩; refine Q4 gn rfl rfl ?_
  refine Qb [_] gn rfl rfl (by kernel_rfl) rfl (C.mono (c60 (ks := [2, 3, 6, 7, 8, 10, 11]) hq (RowV.of (S.cel 0 rfl) (S.lt1 0 rfl) rfl) (by decide)) ?_); rintro v g ⟨rfl, x⟩; have S := S.grow x; refine ⟨ag0, ?_⟩; refine Q3 gn rfl rfl ?_; refine Q5 ?_; refine Qc ?_; refine ⟨.inl rfl, _, rfl, ?_⟩; exact ⟨rfl, S.e0⟩
theorem c41 : C nmE 72 [iV K] h fun v h' => v = .bool (Q4a K) ∧ Ext h h' := by
  refine Qf (fu := Tryz.f72) (by kernel_rfl) rfl ?_; have S := SH.start h; refine Qd ?_; refine Q3 gn rfl rfl ?_; refine Zw ?_; refine Qn (cs := (isV [29, 30, 31]).toArray) (e := 39) (z := 0) (zv := .int .i64 0) [(0, _), (1, _), (2, _)] S gn rfl (by kernel_rfl) (by kernel_rfl) (by kernel_rfl) (by kernel_rfl) rfl (by kernel_rfl) fun b1 g nb1 S => ?_; refine Qb [_] gn rfl rfl (by kernel_rfl) rfl (C.mono (c35) ?_); rintro v g ⟨q, rfl, hq, lq, x⟩; have S := S.grow x; refine ⟨ag0, ?_⟩; refine Q4 gn rfl rfl ?_; refine Qb [_] gn rfl rfl (by kernel_rfl) rfl (C.mono (c60 (ks := [29, 30, 31]) hq (RowV.of (S.cel 0 rfl) (S.lt1 0 rfl) rfl) (by decide)) ?_); rintro v g ⟨rfl, x⟩; have S := S.grow x
  refine ⟨ag0, ?_⟩; refine Q3 gn rfl rfl ?_; refine Q5 ?_; refine Qc ?_; refine ⟨.inl rfl, _, rfl, ?_⟩; exact ⟨rfl, S.e0⟩
theorem c81 (R : RowV h v (ssV ws)) (hl : ws.length < 1000000) : C nmE 108 [v, .string s] h fun v h' => ∃ r, v = iV r ∧ Ext h h' ∧ (0 ≤ r ↔ Q4c ws s = true) := by
  obtain ⟨a, c, rfl⟩ := R.valM; refine Qf (fu := Tryz.f108) (by kernel_rfl) rfl ?_; have S := SH.start h; refine Qd ?_; refine Q3 gn rfl rfl ?_; refine Kz ?_; refine Q4 gn rfl rfl ?_; refine QI gn rfl rfl (by kernel_rfl) ?_; refine Q4 gn rfl rfl ?_; refine Q5 ?_; refine Qg ?_; refine QH [(8, _)] [(0, _), (1, _), (7, _)] (by repeat (first | exact trivial | refine ⟨rfl, ?_⟩)) (fun kk lv hh => ∃ j : Nat, lv = [(8, iV j)] ∧ kk = ws.length - j ∧ j ≤ ws.length ∧ SH h [] [] hh ∧ ∀ i (hi : i < ws.length), i < j → eqS s ws[i] = false) (n := (ws.length)) ?_ fun kk lv hh hI => ?_
  · exact ⟨0, rfl, rfl, by omega, S, fun i _ hi => by omega⟩
  obtain ⟨j, rfl, hk, hj, S, hs⟩ := hI; refine Qd ?_; refine Z9 gn rfl rfl rfl ?_; refine Q5 ?_; refine Qj ?_; refine Qa rfl (fun hb => ?_) fun hb => ?_
  · skip
    refine Qe ?_; have hj : j < ws.length := by simp at hb; omega
    obtain ⟨b, o, c', cs, e, m, hv, hg, hlt, hat⟩ := R.atM (by omega); cases hv; have hc := hat j hj; refine Qj ?_; refine Qg ?_; refine Qd ?_; refine Q4 gn rfl rfl ?_; refine Q3 gn rfl rfl ?_; refine Zw ?_; refine Q4 gn rfl rfl ?_; refine Q4 gn rfl rfl ?_; refine Q4 gn rfl rfl ?_; refine Q7 (zz := 1) gn rfl rfl rfl (by kernel_rfl) (by omega) (by omega) ?_; refine Q6 gn rfl rfl (by kernel_rfl) (S.old0 hg hlt) (by rw [Int.toNat_natCast, Nat.mul_one]; exact hc) ?_; refine Yp gn rfl rfl rfl ?_; refine Q5 ?_; refine Qa rfl (fun hb => ?_) fun hb => ?_
    · skip
      refine Qd ?_; refine Q4 gn rfl rfl ?_; refine Q3 gn rfl rfl ?_; refine Q5 ?_; refine Qc ?_; refine ⟨.inl rfl, _, rfl, ?_⟩; exact ⟨j, rfl, S.e0, ⟨fun _ => List.any_eq_true.2 ⟨ws[j], List.getElem_mem hj, hb⟩, fun _ => by omega⟩⟩
    refine Qe ?_; refine Q8 (by kernel_rfl) ?_; refine QO gn rfl rfl rfl (by omega) (by omega) ?_; refine Q4 gn rfl rfl ?_; refine Q5 ?_
    exact Kc (ws.length - (j + 1)) (by omega) [(8, _)] (by repeat (first | exact trivial | refine ⟨rfl, ?_⟩)) ⟨j + 1, rfl, rfl, by omega, S, fun i hi h => by
      by_cases e : i = j
      · subst e; exact hb
      exact hs i hi (by omega)⟩
  refine QZ ?_; refine Qt ?_; refine Qu ?_; refine QY ?_; refine Qd ?_; refine Q3 gn rfl rfl ?_; refine Q5 ?_; refine Qc ?_; refine ⟨.inl rfl, _, rfl, ?_⟩
  exact ⟨-1, rfl, S.e0, ⟨fun h => by omega, fun hm => by
    obtain ⟨w, hw, e⟩ := List.any_eq_true.1 hm; obtain ⟨i, hi, rfl⟩ := List.mem_iff_getElem.1 hw
    rw [hs i hi (by simp at hb; omega)] at e; cases e⟩⟩
theorem c63 (R : RowV h v (ssV ws)) (hl : ws.length < 1000000) : C nmE 79 [v, .string s] h fun v h' => v = .bool (Q4c ws s) ∧ Ext h h' := by
  refine Qf (fu := Tryz.f79) (by kernel_rfl) rfl ?_; have S := SH.start h; refine Qd ?_; refine Q3 gn rfl rfl ?_; refine Zw ?_; refine Q4 gn rfl rfl ?_; refine Q4 gn rfl rfl ?_; refine Qb [_, _] gn rfl rfl (by kernel_rfl) rfl (C.mono (c81 R hl) ?_); rintro v g ⟨r, rfl, x, hr⟩; have S := S.grow x; refine ⟨ag0, ?_⟩; refine Y5 gn rfl rfl rfl ?_; refine Q3 gn rfl rfl ?_; refine Q5 ?_; refine Qc ?_; refine ⟨.inl rfl, _, rfl, ?_⟩; exact ⟨by rw [show decide (0 ≤ r) = Q4c ws s from Bool.eq_iff_iff.2 (by rw [decide_eq_true_eq]; exact hr)]; rfl, S.e0⟩
theorem c42 : C nmE 73 [.string s] h fun v h' => v = .bool (Q4c opL s) ∧ Ext h h' := by
  refine Qf (fu := Tryz.f73) (by kernel_rfl) rfl ?_; have S := SH.start h; refine Qd ?_; refine Q3 gn rfl rfl ?_; refine Zw ?_; refine Qn (cs := (ssV opL).toArray) (e := 9) (z := 0) (zv := .string .empty) [(0, _), (1, _), (2, _), (3, _), (4, _)] S gn rfl (by kernel_rfl) (by kernel_rfl) (by kernel_rfl) (by kernel_rfl) rfl (by kernel_rfl) fun b1 g nb1 S => ?_; refine Q4 gn rfl rfl ?_; refine Qb [_, _] gn rfl rfl (by kernel_rfl) rfl (C.mono (c63 (ws := opL) (RowV.of (S.cel 0 rfl) (S.lt1 0 rfl) rfl) (by decide)) ?_); rintro v g ⟨rfl, x⟩; have S := S.grow x; refine ⟨ag0, ?_⟩; refine Q3 gn rfl rfl ?_; refine Q5 ?_; refine Qc ?_; refine ⟨.inl rfl, _, rfl, ?_⟩; exact ⟨rfl, S.e0⟩
theorem c38 (B : Blk h) (hsz : s.toList.length < 9223372036854775000) : C nmE 69 [.string s] h fun v h' => v = .bool (Za s) ∧ Ext h h' := by
  refine Qf (fu := Tryz.f69) (by kernel_rfl) rfl ?_; have S := SH.start h; refine Qd ?_; refine Q3 gn rfl rfl ?_; refine Zw ?_; refine Q4 gn rfl rfl ?_; refine Qb [_] gn rfl rfl (by kernel_rfl) rfl (C.mono (c62 B hsz) ?_); rintro v g ⟨rfl, x⟩; have S := S.grow x; refine ⟨ag0, ?_⟩; refine Q3 gn rfl rfl ?_; refine Q5 ?_; refine Qc ?_; refine ⟨.inl rfl, _, rfl, ?_⟩; exact ⟨rfl, S.e0⟩
theorem c39 (B : Blk h) (hsz : s.toList.length < 9223372036854775000) : C nmE 70 [.string s] h fun v h' => v = .bool (typS s) ∧ Ext h h' := by
  refine Qf (fu := Tryz.f70) (by kernel_rfl) rfl ?_; have S := SH.start h; refine Qd ?_; refine Q3 gn rfl rfl ?_; refine Zw ?_; refine Q4 gn rfl rfl ?_; refine Qb [_] gn rfl rfl (by kernel_rfl) rfl (C.mono (c62 B hsz) ?_); rintro v g ⟨rfl, x⟩; have S := S.grow x; refine ⟨ag0, ?_⟩; refine Q4 gn rfl rfl ?_; refine QM (dc := 5) rfl (fun hb5 => ?_) fun hb5 => ?_
  · skip
    refine QU (n := 3) (dc := 5) (w := false) rfl hb5 rfl ?_; refine Zd gn rfl rfl hb5 rfl ?_; refine Q3 gn rfl rfl ?_; refine Q5 ?_; refine Qc ?_; refine ⟨.inl rfl, _, rfl, ?_⟩; exact ⟨by rw [typS, hb5]; rfl, S.e0⟩
  refine Qn (cs := (ssV Qeq).toArray) (e := 9) (z := 0) (zv := .string .empty) [(0, _), (1, _), (2, _), (3, _), (4, _)] S (gy rfl rfl rfl hb5) rfl (by kernel_rfl) (by kernel_rfl) (by kernel_rfl) (by kernel_rfl) rfl (by kernel_rfl) fun b1 g nb1 S => ?_; refine Q4 (gy rfl rfl rfl hb5) rfl rfl ?_; refine Qb [_, _] (gy rfl rfl rfl hb5) rfl rfl (by kernel_rfl) rfl (C.mono (c63 (ws := Qeq) (RowV.of (S.cel 0 rfl) (S.lt1 0 rfl) rfl) (by decide)) ?_); rintro v g ⟨rfl, x⟩; have S := S.grow x; refine ⟨ag0, ?_⟩; refine Z2 gn rfl rfl hb5 rfl ?_; refine Q3 gn rfl rfl ?_; refine Q5 ?_; refine Qc ?_; refine ⟨.inl rfl, _, rfl, ?_⟩; exact ⟨by rw [typS, hb5]; rfl, S.e0⟩
theorem c64 (hsz : s.toList.length < 9223372036854775000) : C nmE 53 [.string s] h fun v h' => v = .bool (typS s) ∧ Ext h h' := by
  refine Qf (fu := Tryz.f53) (by kernel_rfl) rfl ?_; have S := SH.start h; refine Qd ?_; refine Q3 gn rfl rfl ?_; refine Zw ?_; refine Q4 gn rfl rfl ?_; refine Yp gn rfl rfl rfl ?_; refine Q4 gn rfl rfl ?_
  refine Yo (n := 2) rfl rfl rfl gn rfl (fun hb => by
      refine Q4 (gy rfl rfl rfl hb) rfl rfl ?_; refine Yp (gy rfl rfl rfl hb) rfl rfl rfl ?_
      exact Q5 ⟨rfl, rfl, 2, rfl, rfl⟩) ?_
  refine Q4 gn rfl rfl ?_
  refine Yo (n := 2) rfl rfl rfl gn rfl (fun hb => by
      refine Q4 (gy rfl rfl rfl hb) rfl rfl ?_; refine Yp (gy rfl rfl rfl hb) rfl rfl rfl ?_
      exact Q5 ⟨rfl, rfl, 2, rfl, rfl⟩) ?_
  refine Q4 gn rfl rfl ?_
  refine Yo (n := 2) rfl rfl rfl gn rfl (fun hb => by
      refine Q4 (gy rfl rfl rfl hb) rfl rfl ?_; refine Yp (gy rfl rfl rfl hb) rfl rfl rfl ?_
      exact Q5 ⟨rfl, rfl, 2, rfl, rfl⟩) ?_
  refine Q4 gn rfl rfl ?_
  refine Yo (n := 2) rfl rfl rfl gn rfl (fun hb => by
      refine Q4 (gy rfl rfl rfl hb) rfl rfl ?_; refine Yp (gy rfl rfl rfl hb) rfl rfl rfl ?_
      exact Q5 ⟨rfl, rfl, 2, rfl, rfl⟩) ?_
  refine Q4 gn rfl rfl ?_; refine QM (dc := 21) rfl (fun hb21 => ?_) fun hb21 => ?_
  · skip
    refine QU (n := 2) (dc := 21) (w := false) rfl hb21 rfl ?_; refine Zd gn rfl rfl hb21 rfl ?_; refine Q3 gn rfl rfl ?_; refine Q5 ?_; refine Qc ?_; refine ⟨.inl rfl, _, rfl, ?_⟩; exact ⟨by rw [QaG hb21]; rfl, S.e0⟩
  refine Q4 (gy rfl rfl rfl hb21) rfl rfl ?_; refine Qb [_] (gy rfl rfl rfl hb21) rfl rfl (by kernel_rfl) rfl (C.mono (c65 hsz) ?_); rintro v g ⟨rfl, x⟩; have S := S.grow x; refine ⟨ag0, ?_⟩; refine Z2 gn rfl rfl hb21 rfl ?_; refine Q3 gn rfl rfl ?_; refine Q5 ?_; refine Qc ?_; refine ⟨.inl rfl, _, rfl, ?_⟩; exact ⟨by rw [QcC hb21]; rfl, S.e0⟩
end
end Go.Proofs.YtkidomfnmpnmaaaGreatDoor
namespace Go.Proofs.YtkidomfnmpnmaaaGreatDoor
open Go.X
def ZW (K : Int) (s : ByteArray) (i : Int) : Int := if K = 32 then (if QC K s = 1 then 2 else QC K s + i) else if K = 34 ∨ K = 35 then 4 else if K = 30 ∨ (K = 31 ∧ i = 0) then 5 else 0
def Q1k (K : Int) (s : ByteArray) (i : Int) : Int := if K = 31 then 5 - 5 * i else ZW K s i
def Ko (K : Int) (s : ByteArray) (i : Int) (K' : Int) (s' : ByteArray) : Bool := Qw K' && decide (QC K' s' < ZW K s i)
def b2i (b : Bool) : Int := if b then 1 else 0
def Kv (K : Int) (s : ByteArray) (i : Int) (K' : Int) (s' : ByteArray) : Int := b2i (decide (K' = 12)) + b2i (Ko K s i K' s') + b2i (decide (K = 31) && decide (i = 1)) + b2i (decide (K = 34) || decide (K = 35))
theorem Q7p {K : Int} {s : ByteArray} (h : K = 32) : 1 ≤ QC K s ∧ QC K s ≤ 3 := by
  subst h; unfold QC; rw [if_pos rfl]
  split
  · omega
  split <;> omega
theorem Q2q {K : Int} {s : ByteArray} : decide (0 < QC K s) = Qw K := by
  by_cases h : K = 32
  · have := Q7p (s := s) h; rw [decide_eq_true (by omega), h]; rfl
  unfold QC; rw [if_neg h]
  split
  · rename_i h2; rcases h2 with rfl | rfl <;> rfl
  split
  · rename_i h3; rw [h3]; rfl
  rename_i h3; rw [Bool.not_eq_true] at h3; rw [h3]; rfl
theorem Q7q (K : Int) (s : ByteArray) : 0 ≤ QC K s ∧ QC K s ≤ 5 := by
  unfold QC
  (repeat' split) <;> simp
def Q8e (l : List Bool) (j : Nat) : Int := (((l.take j).map b2i).sum)
theorem Q2o {l : List Bool} {j : Nat} (h : j < l.length) : Q8e l (j + 1) = Q8e l j + b2i l[j] := by
  unfold Q8e; rw [List.take_add_one, List.getElem?_eq_getElem h, List.map_append, List.sum_append]; simp only [Option.toList_some, List.map_cons, List.map_nil, List.sum_cons, List.sum_nil, Int.add_zero]
theorem Qad (l : List Bool) (j : Nat) : 0 ≤ Q8e l j ∧ Q8e l j ≤ j := by
  induction j with
  | zero => simp [Q8e]
  | succ j ih =>
    by_cases h : j < l.length
    · rw [Q2o h]; unfold b2i
      split <;> omega
    have : Q8e l (j + 1) = Q8e l j := by unfold Q8e; rw [List.take_of_length_le (by omega), List.take_of_length_le (by omega)]
    omega
theorem Q8U {K N L Co : Int} {s : ByteArray} {ks : Value} (hk : sameV 19 ks ks = true) : sameV 20 (twV K s N L Co ks) (twV K s N L Co ks) = true := by
  simp [sameV, sameV.sameL, K5, hk]
theorem cnt4 (a b c d : Bool) : Q8e [a, b, c, d] 4 = b2i a + b2i b + b2i c + b2i d := by simp [Q8e]; omega
section
variable {h : Hp} {K N L Co K' N' L' Co' i : Int} {s s' : ByteArray} {ks ks' : Value}
theorem c57 (h0 : 0 ≤ i) (h1 : i ≤ 1000000) : C nmE 99 [twV K s N L Co ks, iV i] h fun v h' => v = iV (ZW K s i) ∧ Ext h h' := by
  have hbl := Q7q K s; refine Qf (fu := Tryz.f99) (by kernel_rfl) rfl ?_; have S := SH.start h; refine Qd ?_; refine Yh S gn rfl rfl fun b1 g nb1 S => ?_; refine Q3 gn rfl rfl ?_; refine Q5 ?_; refine Qj ?_; refine Qg ?_; refine Qd ?_; refine Q0 (off := 0) gn rfl rfl (by kernel_rfl) ?_; refine Q6 gn rfl rfl (by kernel_rfl) (S.cel 0 rfl) rfl ?_; refine Qq gn rfl rfl rfl ?_; refine Q4 gn rfl rfl ?_; refine QM (dc := 9) rfl (fun hb9 => ?_) fun hb9 => ?_
  · skip
    refine Qs (n := 6) (gy rfl rfl rfl hb9) rfl rfl (by kernel_rfl) (by kernel_rfl) (S.cel 0 rfl) (Nat.le_refl _) ?_; refine Qb [_] (gy rfl rfl rfl hb9) rfl rfl (by kernel_rfl) rfl (C.mono (c18) ?_); rintro v g ⟨rfl, x⟩; have S := S.grow x; refine ⟨ag0, ?_⟩; refine Qq (gy rfl rfl rfl hb9) rfl rfl rfl ?_; refine Zd gn rfl rfl hb9 rfl ?_; refine Q3 gn rfl rfl ?_; refine Q5 ?_; refine Qa rfl (fun hb => ?_) fun hb => ?_
    · skip
      refine Qd ?_; refine Q3 gn rfl rfl ?_; refine Q5 ?_; refine Qc ?_; refine ⟨.inl rfl, _, rfl, ?_⟩; exact ⟨congrArg iV (by unfold ZW; (repeat' split) <;> simp_all <;> omega), S.e0⟩
    refine Qd ?_; refine Q0 (off := 0) gn rfl rfl (by kernel_rfl) ?_; refine Q6 gn rfl rfl (by kernel_rfl) (S.cel 0 rfl) rfl ?_; refine Qq gn rfl rfl rfl ?_; refine Q3 gn rfl rfl ?_; refine Q5 ?_; refine Qa rfl (fun hb => ?_) fun hb => ?_
    · skip
      refine Qd ?_; refine Qs (n := 6) gn rfl rfl (by kernel_rfl) (by kernel_rfl) (S.cel 0 rfl) (Nat.le_refl _) ?_; refine Qb [_] gn rfl rfl (by kernel_rfl) rfl (C.mono (c18) ?_); rintro v g ⟨rfl, x⟩; have S := S.grow x; refine ⟨ag0, ?_⟩; refine Q4 gn rfl rfl ?_; refine QO gn rfl rfl rfl (by omega) (by omega) ?_; refine Q3 gn rfl rfl ?_; refine Q5 ?_; refine Qc ?_; refine ⟨.inl rfl, _, rfl, ?_⟩; exact ⟨congrArg iV (by unfold ZW; (repeat' split) <;> simp_all <;> omega), S.e0⟩
    refine Qd ?_; refine Q0 (off := 0) gn rfl rfl (by kernel_rfl) ?_; refine Q6 gn rfl rfl (by kernel_rfl) (S.cel 0 rfl) rfl ?_; refine Qq gn rfl rfl rfl ?_; refine Q4 gn rfl rfl ?_
    refine Yo (n := 3) rfl rfl rfl gn rfl (fun hb => by
        refine Q0 (off := 0) (gy rfl rfl rfl hb) rfl rfl (by kernel_rfl) ?_; refine Q6 (gy rfl rfl rfl hb) rfl rfl (by kernel_rfl) (S.cel 0 rfl) rfl ?_; refine Qq (gy rfl rfl rfl hb) rfl rfl rfl ?_
        exact Q5 ⟨rfl, rfl, 3, rfl, rfl⟩) ?_
    refine Q3 gn rfl rfl ?_; refine Q5 ?_; refine Qa rfl (fun hb => ?_) fun hb => ?_
    · skip
      refine Qd ?_; refine Q3 gn rfl rfl ?_; refine Q5 ?_; refine Qc ?_; refine ⟨.inl rfl, _, rfl, ?_⟩; exact ⟨congrArg iV (by unfold ZW; (repeat' split) <;> simp_all <;> omega), S.e0⟩
    refine Qd ?_; refine Q0 (off := 0) gn rfl rfl (by kernel_rfl) ?_; refine Q6 gn rfl rfl (by kernel_rfl) (S.cel 0 rfl) rfl ?_; refine Qq gn rfl rfl rfl ?_; refine Q4 gn rfl rfl ?_
    refine Yo (n := 7) rfl rfl rfl gn rfl (fun hb => by
        refine Q0 (off := 0) (gy rfl rfl rfl hb) rfl rfl (by kernel_rfl) ?_; refine Q6 (gy rfl rfl rfl hb) rfl rfl (by kernel_rfl) (S.cel 0 rfl) rfl ?_; refine Qq (gy rfl rfl rfl hb) rfl rfl rfl ?_; refine Q4 (gy rfl rfl rfl hb) rfl rfl ?_
        refine ZU (n := 2) rfl rfl rfl (gy rfl rfl rfl hb) rfl (fun hb => by
            refine Q4 (gy rfl rfl rfl hb) rfl rfl ?_; refine Qq (gy rfl rfl rfl hb) rfl rfl rfl ?_
            exact Q5 ⟨rfl, rfl, 2, rfl, rfl⟩) ?_
        exact Q5 ⟨rfl, rfl, 5, rfl, rfl⟩) ?_
    refine Q3 gn rfl rfl ?_; refine Q5 ?_; refine Qa rfl (fun hb => ?_) fun hb => ?_
    · skip
      refine Qd ?_; refine Q3 gn rfl rfl ?_; refine Q5 ?_; refine Qc ?_; refine ⟨.inl rfl, _, rfl, ?_⟩; exact ⟨congrArg iV (by unfold ZW; (repeat' split) <;> simp_all <;> omega), S.e0⟩
    refine Qe ?_; refine Qd ?_; refine Q3 gn rfl rfl ?_; refine Q5 ?_; refine Qc ?_; refine ⟨.inl rfl, _, rfl, ?_⟩; exact ⟨congrArg iV (by unfold ZW; (repeat' split) <;> simp_all <;> omega), S.e0⟩
  refine QU (n := 3) (dc := 9) (w := true) rfl hb9 rfl ?_; refine Z2 gn rfl rfl hb9 rfl ?_; refine Q3 gn rfl rfl ?_; refine Q5 ?_; refine Qa rfl (fun hb => ?_) fun hb => ?_
  · skip
    refine Qd ?_; refine Q3 gn rfl rfl ?_; refine Q5 ?_; refine Qc ?_; refine ⟨.inl rfl, _, rfl, ?_⟩; exact ⟨congrArg iV (by unfold ZW; (repeat' split) <;> simp_all <;> omega), S.e0⟩
  refine Qd ?_; refine Q0 (off := 0) gn rfl rfl (by kernel_rfl) ?_; refine Q6 gn rfl rfl (by kernel_rfl) (S.cel 0 rfl) rfl ?_; refine Qq gn rfl rfl rfl ?_; refine Q3 gn rfl rfl ?_; refine Q5 ?_; refine Qa rfl (fun hb => ?_) fun hb => ?_
  · skip
    refine Qd ?_; refine Qs (n := 6) gn rfl rfl (by kernel_rfl) (by kernel_rfl) (S.cel 0 rfl) (Nat.le_refl _) ?_; refine Qb [_] gn rfl rfl (by kernel_rfl) rfl (C.mono (c18) ?_); rintro v g ⟨rfl, x⟩; have S := S.grow x; refine ⟨ag0, ?_⟩; refine Q4 gn rfl rfl ?_; refine QO gn rfl rfl rfl (by omega) (by omega) ?_; refine Q3 gn rfl rfl ?_; refine Q5 ?_; refine Qc ?_; refine ⟨.inl rfl, _, rfl, ?_⟩; exact ⟨congrArg iV (by unfold ZW; (repeat' split) <;> simp_all <;> omega), S.e0⟩
  refine Qd ?_; refine Q0 (off := 0) gn rfl rfl (by kernel_rfl) ?_; refine Q6 gn rfl rfl (by kernel_rfl) (S.cel 0 rfl) rfl ?_; refine Qq gn rfl rfl rfl ?_; refine Q4 gn rfl rfl ?_
  refine Yo (n := 3) rfl rfl rfl gn rfl (fun hb => by
      refine Q0 (off := 0) (gy rfl rfl rfl hb) rfl rfl (by kernel_rfl) ?_; refine Q6 (gy rfl rfl rfl hb) rfl rfl (by kernel_rfl) (S.cel 0 rfl) rfl ?_; refine Qq (gy rfl rfl rfl hb) rfl rfl rfl ?_
      exact Q5 ⟨rfl, rfl, 3, rfl, rfl⟩) ?_
  refine Q3 gn rfl rfl ?_; refine Q5 ?_; refine Qa rfl (fun hb => ?_) fun hb => ?_
  · skip
    refine Qd ?_; refine Q3 gn rfl rfl ?_; refine Q5 ?_; refine Qc ?_; refine ⟨.inl rfl, _, rfl, ?_⟩; exact ⟨congrArg iV (by unfold ZW; (repeat' split) <;> simp_all <;> omega), S.e0⟩
  refine Qd ?_; refine Q0 (off := 0) gn rfl rfl (by kernel_rfl) ?_; refine Q6 gn rfl rfl (by kernel_rfl) (S.cel 0 rfl) rfl ?_; refine Qq gn rfl rfl rfl ?_; refine Q4 gn rfl rfl ?_
  refine Yo (n := 7) rfl rfl rfl gn rfl (fun hb => by
      refine Q0 (off := 0) (gy rfl rfl rfl hb) rfl rfl (by kernel_rfl) ?_; refine Q6 (gy rfl rfl rfl hb) rfl rfl (by kernel_rfl) (S.cel 0 rfl) rfl ?_; refine Qq (gy rfl rfl rfl hb) rfl rfl rfl ?_; refine Q4 (gy rfl rfl rfl hb) rfl rfl ?_
      refine ZU (n := 2) rfl rfl rfl (gy rfl rfl rfl hb) rfl (fun hb => by
          refine Q4 (gy rfl rfl rfl hb) rfl rfl ?_; refine Qq (gy rfl rfl rfl hb) rfl rfl rfl ?_
          exact Q5 ⟨rfl, rfl, 2, rfl, rfl⟩) ?_
      exact Q5 ⟨rfl, rfl, 5, rfl, rfl⟩) ?_
  refine Q3 gn rfl rfl ?_; refine Q5 ?_; refine Qa rfl (fun hb => ?_) fun hb => ?_
  · skip
    refine Qd ?_; refine Q3 gn rfl rfl ?_; refine Q5 ?_; refine Qc ?_; refine ⟨.inl rfl, _, rfl, ?_⟩; exact ⟨congrArg iV (by unfold ZW; (repeat' split) <;> simp_all <;> omega), S.e0⟩
  refine Qe ?_; refine Qd ?_; refine Q3 gn rfl rfl ?_; refine Q5 ?_; refine Qc ?_; refine ⟨.inl rfl, _, rfl, ?_⟩; exact ⟨congrArg iV (by unfold ZW; (repeat' split) <;> simp_all <;> omega), S.e0⟩
theorem c66 (hk : sameV 19 ks ks = true) (h0 : 0 ≤ i) (h1 : i ≤ 1000000) : C nmE 56 [twV K s N L Co ks, iV i] h fun v h' => v = iV (Q1k K s i) ∧ Ext h h' := by
  have hbl := Q7q K s; refine Qf (fu := Tryz.f56) (by kernel_rfl) rfl ?_; have S := SH.start h; refine Qd ?_; refine Yh S gn rfl rfl fun b1 g nb1 S => ?_; refine Q3 gn rfl rfl ?_; refine Kz ?_; refine Q0 (off := 0) gn rfl rfl (by kernel_rfl) ?_; refine Q6 gn rfl rfl (by kernel_rfl) (S.cel 0 rfl) rfl ?_; refine Q5 ?_; refine Qg ?_; refine Qd ?_; refine Qq gn rfl rfl rfl ?_; refine Q3 gn rfl rfl ?_; refine Q5 ?_; refine Qa rfl (fun hb => ?_) fun hb => ?_
  · skip
    refine Qj ?_; have hK : K = 32 := by simpa using hb
    have hbo := Q7p (s := s) hK; obtain ⟨q, hq, hq1, hq3⟩ : ∃ q : Nat, QC K s = q ∧ 1 ≤ q ∧ q ≤ 3 := ⟨(QC K s).toNat, by omega, by omega, by omega⟩
    have e1 : ([iV 0, iV 2, iV 2, iV 3] : List Value)[0 + (QC K s).toNat * 1]? = some (iV (if q = 1 then 2 else q)) := by
      rw [hq]; rcases (show q = 1 ∨ q = 2 ∨ q = 3 by omega) with rfl | rfl | rfl <;> rfl
    have e2 : ([iV 0, iV 0, iV i, iV i] : List Value)[0 + (QC K s).toNat * 1]? = some (iV (if q = 1 then 0 else i)) := by
      rw [hq]; rcases (show q = 1 ∨ q = 2 ∨ q = 3 by omega) with rfl | rfl | rfl <;> rfl
    refine Z3 [(0, []), (1, []), (5, []), (6, []), (7, []), (8, []), (2, [8]), (3, []), (4, []), (9, [4]), (10, []), (11, []), (12, []), (13, [])] (by kernel_rfl) (by kernel_rfl) (by kernel_rfl) (by kernel_rfl) ?_; refine Qn (cs := #[iV 0, iV 2, iV 2, iV 3]) (e := 3) (z := 0) (zv := .int .i64 0) [(0, _), (1, _), (2, _), (3, _)] S gn rfl (by kernel_rfl) (by kernel_rfl) (by kernel_rfl) (by kernel_rfl) rfl (by kernel_rfl) fun b2 g nb2 S => ?_; refine Qs (n := 6) gn rfl rfl (by kernel_rfl) (by kernel_rfl) (S.cel 1 rfl) (Nat.le_refl _) ?_; refine Q4 gn rfl rfl ?_; refine Q4 gn rfl rfl ?_
    refine Qn (cs := #[iV 0, iV 0, iV i, iV i]) (e := 3) (z := 0) (zv := .int .i64 0) [(0, _), (1, _), (2, _), (3, _)] S gn rfl (by kernel_rfl) (by kernel_rfl) (by kernel_rfl) (by kernel_rfl) rfl (by kernel_rfl) fun b3 g nb3 S => ?_; refine Qs (n := 6) gn rfl rfl (by kernel_rfl) (by kernel_rfl) (S.cel 2 rfl) (Nat.le_refl _) ?_; refine Qb [_] gn rfl rfl (by kernel_rfl) rfl (C.mono (c19) ?_); rintro v g ⟨rfl, x⟩; have S := S.grow x; refine ⟨(ag1 (JA (n := 6) gn rfl (by kernel_rfl) (by kernel_rfl) (S.cel 2 rfl) (Nat.le_refl _) rfl (Q8U hk)) ag0), ?_⟩; refine Q7 (zz := 1) gn rfl rfl rfl (by kernel_rfl) (by omega) (by omega) ?_; refine Q6 gn rfl rfl (by kernel_rfl) (S.cel 1 rfl) e1 ?_
    refine Qb [_] gn rfl rfl (by kernel_rfl) rfl (C.mono (c19) ?_); rintro v g ⟨rfl, x⟩; have S := S.grow x; refine ⟨(ag1 (Zr gn rfl (by kernel_rfl) (S.cel 1 rfl) e1 rfl Yc) ag0), ?_⟩; refine Q7 (zz := 1) gn rfl rfl rfl (by kernel_rfl) (by omega) (by omega) ?_; refine Q6 gn rfl rfl (by kernel_rfl) (S.cel 0 rfl) e2 ?_; refine QO gn rfl rfl rfl (by omega) (by omega) ?_; refine Q3 gn rfl rfl ?_; refine Q5 ?_; refine Qc ?_; refine ⟨.inl rfl, _, rfl, ?_⟩; exact ⟨congrArg iV (by unfold Q1k ZW; (repeat' split) <;> simp_all <;> omega), S.e0⟩
  refine Qj ?_; refine Qd ?_; refine Qq gn rfl rfl rfl ?_; refine Q3 gn rfl rfl ?_; refine Q5 ?_; refine Qa rfl (fun hb => ?_) fun hb => ?_
  · skip
    refine Qe ?_; refine Qa rfl (fun hb => ?_) fun hb => ?_
    · skip
      refine Qd ?_; refine Q3 gn rfl rfl ?_; refine Q5 ?_; refine Qc ?_; refine ⟨.inl rfl, _, rfl, ?_⟩; exact ⟨congrArg iV (by unfold Q1k ZW; (repeat' split) <;> simp_all <;> omega), S.e0⟩
    refine Qd ?_; refine Qq gn rfl rfl rfl ?_; refine Q3 gn rfl rfl ?_; refine Q5 ?_; refine Qa rfl (fun hb => ?_) fun hb => ?_
    · skip
      refine Qd ?_; refine Q3 gn rfl rfl ?_; refine Q5 ?_; refine Qc ?_; refine ⟨.inl rfl, _, rfl, ?_⟩; exact ⟨congrArg iV (by unfold Q1k ZW; (repeat' split) <;> simp_all <;> omega), S.e0⟩
    refine Qd ?_; refine Qq gn rfl rfl rfl ?_; refine Q3 gn rfl rfl ?_; refine Q5 ?_; refine Qa rfl (fun hb => ?_) fun hb => ?_
    · skip
      refine Qd ?_; refine Q4 gn rfl rfl ?_; refine o_mul gn rfl rfl rfl (by omega) (by omega) ?_; refine Q7T gn rfl rfl rfl (by omega) (by omega) ?_; refine Q3 gn rfl rfl ?_; refine Q5 ?_; refine Qc ?_; refine ⟨.inl rfl, _, rfl, ?_⟩; exact ⟨congrArg iV (by unfold Q1k ZW; (repeat' split) <;> simp_all <;> omega), S.e0⟩
    refine Qe ?_; refine Qd ?_; refine Q3 gn rfl rfl ?_; refine Q5 ?_; refine Qc ?_; refine ⟨.inl rfl, _, rfl, ?_⟩; exact ⟨congrArg iV (by unfold Q1k ZW; (repeat' split) <;> simp_all <;> omega), S.e0⟩
  refine Q8 (by kernel_rfl) ?_; refine Qq gn rfl rfl rfl ?_; refine Q3 gn rfl rfl ?_; refine Q5 ?_; refine Qa rfl (fun hb => ?_) fun hb => ?_
  · skip
    refine Qd ?_; refine Q3 gn rfl rfl ?_; refine Q5 ?_; refine Qc ?_; refine ⟨.inl rfl, _, rfl, ?_⟩; exact ⟨congrArg iV (by unfold Q1k ZW; (repeat' split) <;> simp_all <;> omega), S.e0⟩
  refine Qd ?_; refine Qq gn rfl rfl rfl ?_; refine Q3 gn rfl rfl ?_; refine Q5 ?_; refine Qa rfl (fun hb => ?_) fun hb => ?_
  · skip
    refine Qd ?_; refine Q3 gn rfl rfl ?_; refine Q5 ?_; refine Qc ?_; refine ⟨.inl rfl, _, rfl, ?_⟩; exact ⟨congrArg iV (by unfold Q1k ZW; (repeat' split) <;> simp_all <;> omega), S.e0⟩
  refine Qd ?_; refine Qq gn rfl rfl rfl ?_; refine Q3 gn rfl rfl ?_; refine Q5 ?_; refine Qa rfl (fun hb => ?_) fun hb => ?_
  · skip
    refine Qd ?_; refine Q4 gn rfl rfl ?_; refine o_mul gn rfl rfl rfl (by omega) (by omega) ?_; refine Q7T gn rfl rfl rfl (by omega) (by omega) ?_; refine Q3 gn rfl rfl ?_; refine Q5 ?_; refine Qc ?_; refine ⟨.inl rfl, _, rfl, ?_⟩; exact ⟨congrArg iV (by unfold Q1k ZW; (repeat' split) <;> simp_all <;> omega), S.e0⟩
  refine Qe ?_; refine Qd ?_; refine Q3 gn rfl rfl ?_; refine Q5 ?_; refine Qc ?_; refine ⟨.inl rfl, _, rfl, ?_⟩; exact ⟨congrArg iV (by unfold Q1k ZW; (repeat' split) <;> simp_all <;> omega), S.e0⟩
theorem c33 (hk : sameV 19 ks ks = true) (_ : sameV 19 ks' ks' = true) (h0 : 0 ≤ i) (h1 : i ≤ 1000000) : C nmE 63 [twV K s N L Co ks, iV i, twV K' s' N' L' Co' ks'] h fun v h' => v = iV (Kv K s i K' s') ∧ Ext h h' := by
  refine Qf (fu := Tryz.f63) (by kernel_rfl) rfl ?_; have S := SH.start h; refine Qd ?_; refine Yh S gn rfl rfl fun b1 g nb1 S => ?_; refine Yh S gn rfl rfl fun b2 g nb2 S => ?_; refine Q3 gn rfl rfl ?_; refine Q5 ?_; refine Qj ?_; refine Qj ?_; refine Z3 [(0, []), (1, []), (2, []), (3, []), (4, []), (14, []), (15, []), (16, []), (21, []), (22, []), (23, []), (31, []), (5, [1, 2, 15, 16, 22, 23]), (6, []), (7, []), (9, []), (10, []), (8, [1, 2, 9, 15, 16, 22, 23]), (11, [1, 2, 15, 16, 22, 23]), (12, []), (13, []), (17, []), (18, []), (19, []), (20, []), (24, []), (25, []), (26, []), (27, []), (28, []), (29, []), (30, [])] (by kernel_rfl) (by kernel_rfl) (by kernel_rfl) (by kernel_rfl) ?_
  refine Q0 (off := 0) gn rfl rfl (by kernel_rfl) ?_; refine Q6 gn rfl rfl (by kernel_rfl) (S.cel 0 rfl) rfl ?_; refine Qq gn rfl rfl rfl ?_; refine Q0 (off := 0) gn rfl rfl (by kernel_rfl) ?_; refine Q6 gn rfl rfl (by kernel_rfl) (S.cel 0 rfl) rfl ?_; refine Q0 (off := 0) gn rfl rfl (by kernel_rfl) ?_; refine Q6 gn rfl rfl (by kernel_rfl) (S.cel 1 rfl) rfl ?_; refine Qq gn rfl rfl rfl ?_; refine Q0 (off := 0) gn rfl rfl (by kernel_rfl) ?_; refine Q6 gn rfl rfl (by kernel_rfl) (S.cel 1 rfl) rfl ?_; refine Qq gn rfl rfl rfl ?_; refine Q4 gn rfl rfl ?_
  refine Qb [_] gn rfl rfl (by kernel_rfl) rfl (K8 (c16 (K := K')) ⟨(ag1 (Zr gn rfl (by kernel_rfl) (S.cel 0 rfl) rfl rfl Yc) (ag1 (Q0r gn rfl rfl rfl) (ag1 (Zr gn rfl (by kernel_rfl) (S.cel 1 rfl) rfl rfl Yc) (ag1 (Q0r gn rfl rfl rfl) (ag1 (Zr gn rfl (by kernel_rfl) (S.cel 1 rfl) rfl rfl Yc) (ag1 (Q0r gn rfl rfl rfl) ag0)))))), ?_⟩); refine Q4 gn rfl rfl ?_; refine QM (dc := 15) rfl (fun hb15 => ?_) fun hb15 => ?_
  · skip
    refine Qs (n := 6) (gy rfl rfl rfl hb15) rfl rfl (by kernel_rfl) (by kernel_rfl) (S.cel 0 rfl) (Nat.le_refl _) ?_; refine Qs (n := 6) (gy rfl rfl rfl hb15) rfl rfl (by kernel_rfl) (by kernel_rfl) (S.cel 1 rfl) (Nat.le_refl _) ?_; refine Q4 (gy rfl rfl rfl hb15) rfl rfl ?_; refine Qb [_] (gy rfl rfl rfl hb15) rfl rfl (by kernel_rfl) rfl (C.mono (c18) ?_); rintro v g ⟨rfl, x⟩; have S := S.grow x
    refine ⟨(ag1 (Zr gn rfl (by kernel_rfl) (S.cel 0 rfl) rfl rfl Yc) (ag1 (Q0r gn rfl rfl rfl) (ag1 (JA (n := 6) (gy rfl rfl rfl hb15) rfl (by kernel_rfl) (by kernel_rfl) (S.cel 1 rfl) (Nat.le_refl _) rfl (Q8U hk)) (ag1 (Zr gn rfl (by kernel_rfl) (S.cel 1 rfl) rfl rfl Yc) (ag1 (Q0r gn rfl rfl rfl) (ag1 (Zr gn rfl (by kernel_rfl) (S.cel 1 rfl) rfl rfl Yc) (ag1 (Q0r gn rfl rfl rfl) ag0))))))), ?_⟩; refine Qb [_, _] (gy rfl rfl rfl hb15) rfl rfl (by kernel_rfl) rfl (C.mono (c57 h0 h1) ?_); rintro v g ⟨rfl, x⟩; have S := S.grow x
    refine ⟨(ag1 (Zr gn rfl (by kernel_rfl) (S.cel 0 rfl) rfl rfl Yc) (ag1 (Q0r gn rfl rfl rfl) (ag1 (Zr gn rfl (by kernel_rfl) (S.cel 1 rfl) rfl rfl Yc) (ag1 (Q0r gn rfl rfl rfl) (ag1 (Zr gn rfl (by kernel_rfl) (S.cel 1 rfl) rfl rfl Yc) (ag1 (Q0r gn rfl rfl rfl) ag0)))))), ?_⟩; refine Z9 (gy rfl rfl rfl hb15) rfl rfl rfl ?_; refine Zd gn rfl rfl hb15 rfl ?_; refine Q4 gn rfl rfl ?_
    refine ZU (n := 2) rfl rfl rfl gn rfl (fun hb => by
        refine Q4 (gy rfl rfl rfl hb) rfl rfl ?_; refine Qq (gy rfl rfl rfl hb) rfl rfl rfl ?_
        exact Q5 ⟨rfl, rfl, 2, rfl, rfl⟩) ?_
    refine Q4 gn rfl rfl ?_
    refine Yo (n := 3) rfl rfl rfl gn rfl (fun hb => by
        refine Q0 (off := 0) (gy rfl rfl rfl hb) rfl rfl (by kernel_rfl) ?_; refine Q6 (gy rfl rfl rfl hb) rfl rfl (by kernel_rfl) (S.cel 1 rfl) rfl ?_; refine Qq (gy rfl rfl rfl hb) rfl rfl rfl ?_
        exact Q5 ⟨rfl, rfl, 3, rfl, rfl⟩) ?_
    refine Qn (cs := (([decide (K' = 12), decide (QC K' s' < ZW K s i), decide (K = 31) && decide (i = 1), decide (K = 34) || decide (K = 35)] : List Bool).map Value.bool).toArray) (e := 4) (z := 0) (zv := .bool false) [(0, _), (1, _), (2, _), (3, _)] S gn rfl (by kernel_rfl) (by kernel_rfl) (by kernel_rfl) (by kernel_rfl) rfl (by kernel_rfl) fun b3 g nb3 S => ?_; refine QI gn rfl rfl (by kernel_rfl) ?_; refine Q5 ?_; refine Qg ?_
    refine QH [(6, _), (40, _)] [(38, _), (39, _)] (by repeat (first | exact trivial | refine ⟨rfl, ?_⟩)) (fun kk lv hh => ∃ j : Nat, lv = [(6, iV (Q8e [decide (K' = 12), decide (QC K' s' < ZW K s i), decide (K = 31) && decide (i = 1), decide (K = 34) || decide (K = 35)] j)), (40, iV j)] ∧ kk = 4 - j ∧ j ≤ 4 ∧ SH h [] [cR b3 (.cells (([decide (K' = 12), decide (QC K' s' < ZW K s i), decide (K = 31) && decide (i = 1), decide (K = 34) || decide (K = 35)] : List Bool).map Value.bool) 4 0), cR b2 (.cells (twC K' s' N' L' Co' ks') 41 0), cR b1 (.cells (twC K s N L Co ks) 41 0)] hh) (n := 4) ?_ fun kk lv hh hI => ?_
    · exact ⟨0, rfl, rfl, by omega, S⟩
    obtain ⟨j, rfl, hk', hj, S⟩ := hI; refine Qd ?_; refine Z9 gn rfl rfl rfl ?_; refine Q5 ?_; refine Qj ?_; refine Qa rfl (fun hb => ?_) fun hb => ?_
    · skip
      refine Qe ?_; have hj : j < 4 := by simp at hb; omega
      have hcl := Qad [decide (K' = 12), decide (QC K' s' < ZW K s i), decide (K = 31) && decide (i = 1), decide (K = 34) || decide (K = 35)] j; have hcs := Q2o (l := [decide (K' = 12), decide (QC K' s' < ZW K s i), decide (K = 31) && decide (i = 1), decide (K = 34) || decide (K = 35)]) (j := j) hj; refine Qj ?_; refine Qg ?_; refine Qd ?_; refine Q7 (zz := 1) gn rfl rfl rfl (by kernel_rfl) (by omega) (by omega) ?_; refine Q6 gn rfl rfl (by kernel_rfl) (S.cel 0 rfl) (by rw [Int.toNat_natCast, Nat.mul_one, Nat.zero_add, List.getElem?_map, List.getElem?_eq_getElem hj]; rfl) ?_; refine Q3 gn rfl rfl ?_; refine Zw ?_; refine Q4 gn rfl rfl ?_; refine Q5 ?_; refine Qa rfl (fun hb => ?_) fun hb => ?_
      · skip
        refine Q8 (by kernel_rfl) ?_; refine Q4 gn rfl rfl ?_; refine QO gn rfl rfl rfl (by omega) (by omega) ?_; refine Q3 gn rfl rfl ?_; refine Q5 ?_; refine Q8 (by kernel_rfl) ?_; refine QO gn rfl rfl rfl (by omega) (by omega) ?_; refine Q4 gn rfl rfl ?_; refine Q5 ?_; exact Kc (4 - (j + 1)) (by omega) [(6, _), (40, _)] (by repeat (first | exact trivial | refine ⟨rfl, ?_⟩)) ⟨j + 1, by rw [hcs, hb]; rfl, rfl, by omega, S⟩
      refine Qe ?_; refine Q8 (by kernel_rfl) ?_; refine QO gn rfl rfl rfl (by omega) (by omega) ?_; refine Q4 gn rfl rfl ?_; refine Q5 ?_; exact Kc (4 - (j + 1)) (by omega) [(6, _), (40, _)] (by repeat (first | exact trivial | refine ⟨rfl, ?_⟩)) ⟨j + 1, by rw [hcs, hb]; simp [b2i], rfl, by omega, S⟩
    refine QZ ?_; refine Qt ?_; refine Qu ?_; refine QY ?_; refine Qd ?_; refine Q4 gn rfl rfl ?_; refine Q3 gn rfl rfl ?_; refine Q5 ?_; refine Qc ?_; refine ⟨.inl rfl, _, rfl, ?_⟩
    exact ⟨congrArg iV (by
      have hj2 : j = 4 := by simp at hb; omega
      subst hj2
      rw [cnt4, Kv, Ko, hb15, Bool.true_and]), S.e0⟩
  refine QU (n := 6) (dc := 15) (w := true) rfl hb15 rfl ?_; refine Z2 gn rfl rfl hb15 rfl ?_; refine Q4 gn rfl rfl ?_
  refine ZU (n := 2) rfl rfl rfl gn rfl (fun hb => by
      refine Q4 (gy rfl rfl rfl hb) rfl rfl ?_; refine Qq (gy rfl rfl rfl hb) rfl rfl rfl ?_
      exact Q5 ⟨rfl, rfl, 2, rfl, rfl⟩) ?_
  refine Q4 gn rfl rfl ?_
  refine Yo (n := 3) rfl rfl rfl gn rfl (fun hb => by
      refine Q0 (off := 0) (gy rfl rfl rfl hb) rfl rfl (by kernel_rfl) ?_; refine Q6 (gy rfl rfl rfl hb) rfl rfl (by kernel_rfl) (S.cel 1 rfl) rfl ?_; refine Qq (gy rfl rfl rfl hb) rfl rfl rfl ?_
      exact Q5 ⟨rfl, rfl, 3, rfl, rfl⟩) ?_
  refine Qn (cs := (([decide (K' = 12), false, decide (K = 31) && decide (i = 1), decide (K = 34) || decide (K = 35)] : List Bool).map Value.bool).toArray) (e := 4) (z := 0) (zv := .bool false) [(0, _), (1, _), (2, _), (3, _)] S gn rfl (by kernel_rfl) (by kernel_rfl) (by kernel_rfl) (by kernel_rfl) rfl (by kernel_rfl) fun b4 g nb4 S => ?_; refine QI gn rfl rfl (by kernel_rfl) ?_; refine Q5 ?_; refine Qg ?_
  refine QH [(6, _), (40, _)] [(38, _), (39, _)] (by repeat (first | exact trivial | refine ⟨rfl, ?_⟩)) (fun kk lv hh => ∃ j : Nat, lv = [(6, iV (Q8e [decide (K' = 12), false, decide (K = 31) && decide (i = 1), decide (K = 34) || decide (K = 35)] j)), (40, iV j)] ∧ kk = 4 - j ∧ j ≤ 4 ∧ SH h [] [cR b4 (.cells (([decide (K' = 12), false, decide (K = 31) && decide (i = 1), decide (K = 34) || decide (K = 35)] : List Bool).map Value.bool) 4 0), cR b2 (.cells (twC K' s' N' L' Co' ks') 41 0), cR b1 (.cells (twC K s N L Co ks) 41 0)] hh) (n := 4) ?_ fun kk lv hh hI => ?_
  · exact ⟨0, rfl, rfl, by omega, S⟩
  obtain ⟨j, rfl, hk', hj, S⟩ := hI; refine Qd ?_; refine Z9 gn rfl rfl rfl ?_; refine Q5 ?_; refine Qj ?_; refine Qa rfl (fun hb => ?_) fun hb => ?_
  · skip
    refine Qe ?_; have hj : j < 4 := by simp at hb; omega
    have hcl := Qad [decide (K' = 12), false, decide (K = 31) && decide (i = 1), decide (K = 34) || decide (K = 35)] j; have hcs := Q2o (l := [decide (K' = 12), false, decide (K = 31) && decide (i = 1), decide (K = 34) || decide (K = 35)]) (j := j) hj; refine Qj ?_; refine Qg ?_; refine Qd ?_; refine Q7 (zz := 1) gn rfl rfl rfl (by kernel_rfl) (by omega) (by omega) ?_; refine Q6 gn rfl rfl (by kernel_rfl) (S.cel 0 rfl) (by rw [Int.toNat_natCast, Nat.mul_one, Nat.zero_add, List.getElem?_map, List.getElem?_eq_getElem hj]; rfl) ?_; refine Q3 gn rfl rfl ?_; refine Zw ?_; refine Q4 gn rfl rfl ?_; refine Q5 ?_; refine Qa rfl (fun hb => ?_) fun hb => ?_
    · skip
      refine Q8 (by kernel_rfl) ?_; refine Q4 gn rfl rfl ?_; refine QO gn rfl rfl rfl (by omega) (by omega) ?_; refine Q3 gn rfl rfl ?_; refine Q5 ?_; refine Q8 (by kernel_rfl) ?_; refine QO gn rfl rfl rfl (by omega) (by omega) ?_; refine Q4 gn rfl rfl ?_; refine Q5 ?_; exact Kc (4 - (j + 1)) (by omega) [(6, _), (40, _)] (by repeat (first | exact trivial | refine ⟨rfl, ?_⟩)) ⟨j + 1, by rw [hcs, hb]; rfl, rfl, by omega, S⟩
    refine Qe ?_; refine Q8 (by kernel_rfl) ?_; refine QO gn rfl rfl rfl (by omega) (by omega) ?_; refine Q4 gn rfl rfl ?_; refine Q5 ?_; exact Kc (4 - (j + 1)) (by omega) [(6, _), (40, _)] (by repeat (first | exact trivial | refine ⟨rfl, ?_⟩)) ⟨j + 1, by rw [hcs, hb]; simp [b2i], rfl, by omega, S⟩
  refine QZ ?_; refine Qt ?_; refine Qu ?_; refine QY ?_; refine Qd ?_; refine Q4 gn rfl rfl ?_; refine Q3 gn rfl rfl ?_; refine Q5 ?_; refine Qc ?_; refine ⟨.inl rfl, _, rfl, ?_⟩
  exact ⟨congrArg iV (by
    have hj2 : j = 4 := by simp at hb; omega
    subst hj2
    rw [cnt4, Kv, Ko, hb15, Bool.false_and]), S.e0⟩
end
end Go.Proofs.YtkidomfnmpnmaaaGreatDoor
namespace Go.Proofs.YtkidomfnmpnmaaaGreatDoor
open Go.X
def Y4 (l : List Int) : Int → Bool := fun K => decide (K ∈ l)
structure FS where
  text : Option (ByteArray → Bool)
  least : Int
  most : Int
  kids : List (Int → Bool)
  maybe : Option (Int → Bool)
  more : Option (Int → Bool)
def PrK (h : Hp) (v : Value) (P : Int → Bool) : Prop := ∃ f cap, v = .func (.func f) #[] cap ∧ ZK nmE f = true ∧ ∀ h', Ext h h' → ∀ K, C nmE f ((#[] : Array Value).toList ++ [iV K] ++ cap.toList) h' fun v h'' => v = .bool (P K) ∧ Ext h' h''
def PrS (h : Hp) (v : Value) (P : ByteArray → Bool) : Prop := ∃ f cap, v = .func (.func f) #[] cap ∧ ZK nmE f = true ∧ ∀ h', Ext h h' → Blk h' → ∀ s : ByteArray, s.toList.length < 9223372036854775000 → C nmE f ((#[] : Array Value).toList ++ [.string s] ++ cap.toList) h' fun v h'' => v = .bool (P s) ∧ Ext h' h''
def OptK (h : Hp) (v : Value) : Option (Int → Bool) → Prop
  | none => v = .nilFunc
  | some P => PrK h v P
def OptS (h : Hp) (v : Value) : Option (ByteArray → Bool) → Prop
  | none => v = .nilFunc
  | some P => PrS h v P
def RowK (h : Hp) (v : Value) (l : List (Int → Bool)) : Prop := (l = [] ∧ v = .slice none 0 0) ∨ ∃ b e m cs, v = .slice (some ⟨b, 0, none⟩) l.length l.length ∧ h.get b = some (.cells cs e m) ∧ b < h.n ∧ ∀ i (hi : i < l.length), ∃ u, cs[i]? = some u ∧ PrK h u l[i]
def FormV (h : Hp) (v : Value) (F : FS) : Prop := ∃ ft ks fm fo, v = .agg #[ft, iV F.least, iV F.most, ks, fm, fo] ∧ OptS h ft F.text ∧ RowK h ks F.kids ∧ OptK h fm F.maybe ∧ OptK h fo F.more
def Fits2 (h : Hp) : MsK Int → List (Int × FS) → Prop
  | [], [] => True
  | (k, v, _) :: M, (k', F) :: T => k = k' ∧ FormV h v F ∧ Fits2 h M T
  | _, _ => False
theorem PrK.ext {h h' : Hp} {v : Value} {P : Int → Bool} (x : PrK h v P) (g : Ext h h') : PrK h' v P := by
  obtain ⟨f, cap, h1, h2, h3⟩ := x; exact ⟨f, cap, h1, h2, fun h'' g' K => h3 h'' (g.trans g') K⟩
theorem PrS.ext {h h' : Hp} {v : Value} {P : ByteArray → Bool} (x : PrS h v P) (g : Ext h h') : PrS h' v P := by
  obtain ⟨f, cap, h1, h2, h3⟩ := x; exact ⟨f, cap, h1, h2, fun h'' g' => h3 h'' (g.trans g')⟩
theorem OptK.ext {h h' : Hp} {v : Value} {P : Option (Int → Bool)} (x : OptK h v P) (g : Ext h h') : OptK h' v P := by
  cases P with
  | none => exact x
  | some P => exact PrK.ext x g
theorem OptS.ext {h h' : Hp} {v : Value} {P : Option (ByteArray → Bool)} (x : OptS h v P) (g : Ext h h') : OptS h' v P := by
  cases P with
  | none => exact x
  | some P => exact PrS.ext x g
theorem RowK.ext {h h' : Hp} {v : Value} {l : List (Int → Bool)} (x : RowK h v l) (g : Ext h h') : RowK h' v l := by
  rcases x with x | ⟨b, e, m, cs, h1, h2, h3, h4⟩
  · exact .inl x
  refine .inr ⟨b, e, m, cs, h1, (g.get b h3).trans h2, Nat.lt_of_lt_of_le h3 g.n, fun i hi => ?_⟩; obtain ⟨u, q1, q2⟩ := h4 i hi; exact ⟨u, q1, q2.ext g⟩
theorem RowK.val {h : Hp} {v : Value} {l : List (Int → Bool)} (x : RowK h v l) : ∃ a, v = .slice a l.length l.length := by
  rcases x with ⟨rfl, h1⟩ | ⟨b, e, m, cs, h1, _⟩
  · exact ⟨none, h1⟩
  exact ⟨_, h1⟩
theorem RowK.at {h : Hp} {v : Value} {l : List (Int → Bool)} (x : RowK h v l) (hn : 0 < l.length) : ∃ b e m cs, v = .slice (some ⟨b, 0, none⟩) l.length l.length ∧ h.get b = some (.cells cs e m) ∧ b < h.n ∧ ∀ i (hi : i < l.length), ∃ u, cs[i]? = some u ∧ PrK h u l[i] := by
  rcases x with ⟨rfl, _⟩ | x
  · simp at hn
  exact x
theorem FormV.ext {h h' : Hp} {v : Value} {F : FS} (x : FormV h v F) (g : Ext h h') : FormV h' v F := by
  obtain ⟨ft, ks, fm, fo, h1, h2, h3, h4, h5⟩ := x; exact ⟨ft, ks, fm, fo, h1, h2.ext g, h3.ext g, h4.ext g, h5.ext g⟩
theorem Fits2.ext {h h' : Hp} (g : Ext h h') : ∀ {M : MsK Int} {T : List (Int × FS)}, Fits2 h M T → Fits2 h' M T
  | [], [], _ => trivial
  | [], _ :: _, x => x.elim
  | _ :: _, [], x => x.elim
  | _ :: _, _ :: _, x => ⟨x.1, x.2.1.ext g, Fits2.ext g x.2.2⟩
def YP (T : List (Int × FS)) (K : Int) : Option FS := match T with
  | [] => none
  | (k, F) :: T => if K = k then some F else YP T K
theorem Fits2.get {h : Hp} {K : Int} : ∀ {M : MsK Int} {T : List (Int × FS)} (i : Nat), Fits2 h M T → match YP T K with
    | some F => ∃ v, (fK K M i).map (·.2) = some v ∧ FormV h v F
    | none => fK K M i = none
  | [], [], _, _ => rfl
  | [], _ :: _, _, x => x.elim
  | _ :: _, [], _, x => x.elim
  | (k, v, b) :: M, (k', F) :: T, i, x => by
    obtain ⟨rfl, x1, x2⟩ := x; by_cases e : K = k
    · simp only [YP, if_pos e, fK]; exact ⟨v, rfl, x1⟩
    simp only [YP, if_neg e, fK]; exact Fits2.get (i + 1) x2
theorem PrK.of16 {h : Hp} : PrK h (.func (.func 67) #[] #[]) Qw := ⟨67, #[], rfl, by kernel_rfl, fun h' _ K => K8 c16 ⟨rfl, .refl _⟩⟩
theorem PrK.of40 {h : Hp} : PrK h (.func (.func 71) #[] #[]) Q1J := ⟨71, #[], rfl, by kernel_rfl, fun h' _ K => K8 c40 ⟨rfl, .refl _⟩⟩
theorem PrK.of37 {h : Hp} : PrK h (.func (.func 68) #[] #[]) Q0U := ⟨68, #[], rfl, by kernel_rfl, fun h' _ K => c37⟩
theorem PrK.of41 {h : Hp} : PrK h (.func (.func 72) #[] #[]) Q4a := ⟨72, #[], rfl, by kernel_rfl, fun h' _ K => c41⟩
theorem PrK.of60 {h : Hp} {q b : Nat} {k : Int} (hq : h.get q = some (.cells [.slice (some ⟨b, 0, none⟩) 1 1] 71 0)) (lq : q < h.n) (hb : h.get b = some (.cells [iV k] 39 0)) (lb : b < h.n) : PrK h (.func (.func 102) #[] #[Zx q]) (Y4 [k]) :=
  ⟨102, #[Zx q], rfl, by kernel_rfl, fun h' g K => c60 (ks := [k]) ((g.get q lq).trans hq) (RowV.of ((g.get b lb).trans hb) (Nat.lt_of_lt_of_le lb g.n) rfl) (by simp)⟩
theorem PrS.of38 {h : Hp} : PrS h (.func (.func 69) #[] #[]) Za := ⟨69, #[], rfl, by kernel_rfl, fun h' _ B s hs => c38 B hs⟩
theorem PrS.of39 {h : Hp} : PrS h (.func (.func 70) #[] #[]) typS := ⟨70, #[], rfl, by kernel_rfl, fun h' _ B s hs => c39 B hs⟩
theorem PrS.of42 {h : Hp} : PrS h (.func (.func 73) #[] #[]) (Q4c opL) := ⟨73, #[], rfl, by kernel_rfl, fun h' _ _ s _ => c42⟩
theorem RowK.of1 {h : Hp} {b e m : Nat} {u : Value} {P : Int → Bool} (hg : h.get b = some (.cells [u] e m)) (hb : b < h.n) (p : PrK h u P) : RowK h (.slice (some ⟨b, 0, none⟩) 1 1) [P] :=
  .inr ⟨b, e, m, _, rfl, hg, hb, fun i hi => match i, hi with | 0, _ => ⟨u, rfl, p⟩⟩
theorem RowK.of2 {h : Hp} {b e m : Nat} {u w : Value} {P Q : Int → Bool} (hg : h.get b = some (.cells [u, w] e m)) (hb : b < h.n) (p : PrK h u P) (q : PrK h w Q) : RowK h (.slice (some ⟨b, 0, none⟩) 2 2) [P, Q] :=
  .inr ⟨b, e, m, _, rfl, hg, hb, fun i hi => match i, hi with | 0, _ => ⟨u, rfl, p⟩ | 1, _ => ⟨w, rfl, q⟩⟩
theorem RowK.of3 {h : Hp} {b e m : Nat} {u w x : Value} {P Q R : Int → Bool} (hg : h.get b = some (.cells [u, w, x] e m)) (hb : b < h.n) (p : PrK h u P) (q : PrK h w Q) (r : PrK h x R) : RowK h (.slice (some ⟨b, 0, none⟩) 3 3) [P, Q, R] :=
  .inr ⟨b, e, m, _, rfl, hg, hb, fun i hi => match i, hi with | 0, _ => ⟨u, rfl, p⟩ | 1, _ => ⟨w, rfl, q⟩ | 2, _ => ⟨x, rfl, r⟩⟩
def formT : List (Int × FS) := [
  (1, ⟨none, 0, 0, [], none, (some Q0U)⟩),
  (2, ⟨(some Za), 0, 0, [], none, none⟩),
  (3, ⟨(some Za), 0, 0, [], none, (some (Y4 [4]))⟩),
  (4, ⟨(some Za), 0, 0, [(Y4 [5])], none, none⟩),
  (5, ⟨(some typS), 0, 0, [], none, none⟩),
  (6, ⟨(some Za), 0, 0, [(Y4 [5])], none, none⟩),
  (7, ⟨(some Za), 0, 0, [(Y4 [12])], none, none⟩),
  (8, ⟨(some Za), 0, 0, [(Y4 [29])], none, (some (Y4 [9]))⟩),
  (9, ⟨none, 0, 3, [(Y4 [12])], none, none⟩),
  (10, ⟨(some Za), 0, 1, [(Y4 [29]), (Y4 [12])], none, none⟩),
  (11, ⟨none, 0, 0, [(Y4 [12])], none, none⟩),
  (12, ⟨none, 0, 0, [], none, (some Q1J)⟩),
  (13, ⟨(some Za), 0, 0, [(Y4 [5]), Qw], none, none⟩),
  (14, ⟨none, 0, 0, [Q4a, Qw], none, none⟩),
  (19, ⟨(some Za), -1, 2147483647, [Qw], (some Q4a), none⟩),
  (20, ⟨none, 0, 0, [Qw], (some Q4a), none⟩),
  (21, ⟨(some Za), 0, 0, [], none, none⟩),
  (22, ⟨(some Za), 0, 0, [], none, none⟩),
  (23, ⟨none, 0, 0, [Qw, (Y4 [12]), (Y4 [12])], none, none⟩),
  (24, ⟨none, 0, 0, [Qw, (Y4 [12])], none, none⟩),
  (25, ⟨none, 0, 0, [], none, none⟩),
  (26, ⟨none, 0, 2147483647, [], none, none⟩),
  (27, ⟨none, 0, 0, [], none, none⟩),
  (28, ⟨none, 0, 0, [], none, none⟩),
  (29, ⟨(some Za), 0, 0, [], none, none⟩),
  (30, ⟨(some Za), 0, 0, [Qw], none, none⟩),
  (31, ⟨none, 0, 0, [Qw, Qw], none, none⟩),
  (32, ⟨(some (Q4c opL)), 0, 0, [Qw, Qw], none, none⟩),
  (33, ⟨(some Za), 0, 0, [], none, none⟩),
  (36, ⟨none, 0, 0, [(Y4 [12])], none, none⟩),
  (15, ⟨none, 0, 0, [Qw], none, none⟩),
  (16, ⟨none, 0, 0, [Qw], none, none⟩),
  (17, ⟨none, 0, 0, [Qw], none, none⟩),
  (18, ⟨none, 0, 0, [Qw], none, none⟩),
  (34, ⟨none, 0, 0, [Qw], none, none⟩),
  (35, ⟨none, 0, 0, [Qw], none, none⟩)]
def Forms (h : Hp) (r : Nat) : Prop := ∃ M cl, h.get r = some (.map (M.map (Q1n fun k => .int .i64 k)) cl) ∧ r < h.n ∧ Fits2 h M formT
def Qcn (n : Nat) : MsK Int := [
  (1, .agg #[.nilFunc, .int .i64 (0), .int .i64 (0), .slice none 0 0, .nilFunc, .func (.func 68) #[] #[]], 0),
  (2, .agg #[.func (.func 69) #[] #[], .int .i64 (0), .int .i64 (0), .slice none 0 0, .nilFunc, .nilFunc], 1),
  (3, .agg #[.func (.func 69) #[] #[], .int .i64 (0), .int .i64 (0), .slice none 0 0, .nilFunc, .func (.func 102) #[] #[.pointer (some ⟨n + 10, 0, none⟩)]], 2),
  (4, .agg #[.func (.func 69) #[] #[], .int .i64 (0), .int .i64 (0), .slice (some ⟨n + 11, 0, none⟩) 1 1, .nilFunc, .nilFunc], 3),
  (5, .agg #[.func (.func 70) #[] #[], .int .i64 (0), .int .i64 (0), .slice none 0 0, .nilFunc, .nilFunc], 4),
  (6, .agg #[.func (.func 69) #[] #[], .int .i64 (0), .int .i64 (0), .slice (some ⟨n + 12, 0, none⟩) 1 1, .nilFunc, .nilFunc], 5),
  (7, .agg #[.func (.func 69) #[] #[], .int .i64 (0), .int .i64 (0), .slice (some ⟨n + 13, 0, none⟩) 1 1, .nilFunc, .nilFunc], 6),
  (8, .agg #[.func (.func 69) #[] #[], .int .i64 (0), .int .i64 (0), .slice (some ⟨n + 14, 0, none⟩) 1 1, .nilFunc, .func (.func 102) #[] #[.pointer (some ⟨n + 16, 0, none⟩)]], 7),
  (9, .agg #[.nilFunc, .int .i64 (0), .int .i64 (3), .slice (some ⟨n + 17, 0, none⟩) 1 1, .nilFunc, .nilFunc], 8),
  (10, .agg #[.func (.func 69) #[] #[], .int .i64 (0), .int .i64 (1), .slice (some ⟨n + 18, 0, none⟩) 2 2, .nilFunc, .nilFunc], 9),
  (11, .agg #[.nilFunc, .int .i64 (0), .int .i64 (0), .slice (some ⟨n + 19, 0, none⟩) 1 1, .nilFunc, .nilFunc], 10),
  (12, .agg #[.nilFunc, .int .i64 (0), .int .i64 (0), .slice none 0 0, .nilFunc, .func (.func 71) #[] #[]], 11),
  (13, .agg #[.func (.func 69) #[] #[], .int .i64 (0), .int .i64 (0), .slice (some ⟨n + 20, 0, none⟩) 2 2, .nilFunc, .nilFunc], 12),
  (14, .agg #[.nilFunc, .int .i64 (0), .int .i64 (0), .slice (some ⟨n + 21, 0, none⟩) 2 2, .nilFunc, .nilFunc], 13),
  (19, .agg #[.func (.func 69) #[] #[], .int .i64 (-1), .int .i64 (2147483647), .slice (some ⟨n + 22, 0, none⟩) 1 1, .func (.func 72) #[] #[], .nilFunc], 14),
  (20, .agg #[.nilFunc, .int .i64 (0), .int .i64 (0), .slice (some ⟨n + 23, 0, none⟩) 1 1, .func (.func 72) #[] #[], .nilFunc], 15),
  (21, .agg #[.func (.func 69) #[] #[], .int .i64 (0), .int .i64 (0), .slice none 0 0, .nilFunc, .nilFunc], 16),
  (22, .agg #[.func (.func 69) #[] #[], .int .i64 (0), .int .i64 (0), .slice none 0 0, .nilFunc, .nilFunc], 17),
  (23, .agg #[.nilFunc, .int .i64 (0), .int .i64 (0), .slice (some ⟨n + 24, 0, none⟩) 3 3, .nilFunc, .nilFunc], 18),
  (24, .agg #[.nilFunc, .int .i64 (0), .int .i64 (0), .slice (some ⟨n + 25, 0, none⟩) 2 2, .nilFunc, .nilFunc], 19),
  (25, .agg #[.nilFunc, .int .i64 (0), .int .i64 (0), .slice none 0 0, .nilFunc, .nilFunc], 20),
  (26, .agg #[.nilFunc, .int .i64 (0), .int .i64 (2147483647), .slice none 0 0, .nilFunc, .nilFunc], 21),
  (27, .agg #[.nilFunc, .int .i64 (0), .int .i64 (0), .slice none 0 0, .nilFunc, .nilFunc], 22),
  (28, .agg #[.nilFunc, .int .i64 (0), .int .i64 (0), .slice none 0 0, .nilFunc, .nilFunc], 23),
  (29, .agg #[.func (.func 69) #[] #[], .int .i64 (0), .int .i64 (0), .slice none 0 0, .nilFunc, .nilFunc], 24),
  (30, .agg #[.func (.func 69) #[] #[], .int .i64 (0), .int .i64 (0), .slice (some ⟨n + 26, 0, none⟩) 1 1, .nilFunc, .nilFunc], 25),
  (31, .agg #[.nilFunc, .int .i64 (0), .int .i64 (0), .slice (some ⟨n + 27, 0, none⟩) 2 2, .nilFunc, .nilFunc], 26),
  (32, .agg #[.func (.func 73) #[] #[], .int .i64 (0), .int .i64 (0), .slice (some ⟨n + 28, 0, none⟩) 2 2, .nilFunc, .nilFunc], 27),
  (33, .agg #[.func (.func 69) #[] #[], .int .i64 (0), .int .i64 (0), .slice none 0 0, .nilFunc, .nilFunc], 28),
  (36, .agg #[.nilFunc, .int .i64 (0), .int .i64 (0), .slice (some ⟨n + 29, 0, none⟩) 1 1, .nilFunc, .nilFunc], 29),
  (15, .agg #[.nilFunc, .int .i64 (0), .int .i64 (0), .slice (some ⟨n + 6, 0, none⟩) 1 1, .nilFunc, .nilFunc], 30),
  (16, .agg #[.nilFunc, .int .i64 (0), .int .i64 (0), .slice (some ⟨n + 6, 0, none⟩) 1 1, .nilFunc, .nilFunc], 31),
  (17, .agg #[.nilFunc, .int .i64 (0), .int .i64 (0), .slice (some ⟨n + 6, 0, none⟩) 1 1, .nilFunc, .nilFunc], 32),
  (18, .agg #[.nilFunc, .int .i64 (0), .int .i64 (0), .slice (some ⟨n + 6, 0, none⟩) 1 1, .nilFunc, .nilFunc], 33),
  (34, .agg #[.nilFunc, .int .i64 (0), .int .i64 (0), .slice (some ⟨n + 6, 0, none⟩) 1 1, .nilFunc, .nilFunc], 34),
  (35, .agg #[.nilFunc, .int .i64 (0), .int .i64 (0), .slice (some ⟨n + 6, 0, none⟩) 1 1, .nilFunc, .nilFunc], 35)]
def Qco (n : Nat) : List AObj := [
  .cells [.int .i64 (12)] 39 0,
  .cells [.slice (some ⟨n + 0, 0, none⟩) 1 1] 71 0,
  .cells [.int .i64 (29)] 39 0,
  .cells [.slice (some ⟨n + 2, 0, none⟩) 1 1] 71 0,
  .cells [.int .i64 (5)] 39 0,
  .cells [.slice (some ⟨n + 4, 0, none⟩) 1 1] 71 0,
  .cells [.func (.func 67) #[] #[]] 82 0,
  .dead,
  .map ((Qcn n).map (Q1n fun k => .int .i64 k)) 36,
  .cells [.int .i64 (4)] 39 0,
  .cells [.slice (some ⟨n + 9, 0, none⟩) 1 1] 71 0,
  .cells [.func (.func 102) #[] #[.pointer (some ⟨n + 5, 0, none⟩)]] 82 0,
  .cells [.func (.func 102) #[] #[.pointer (some ⟨n + 5, 0, none⟩)]] 82 0,
  .cells [.func (.func 102) #[] #[.pointer (some ⟨n + 1, 0, none⟩)]] 82 0,
  .cells [.func (.func 102) #[] #[.pointer (some ⟨n + 3, 0, none⟩)]] 82 0,
  .cells [.int .i64 (9)] 39 0,
  .cells [.slice (some ⟨n + 15, 0, none⟩) 1 1] 71 0,
  .cells [.func (.func 102) #[] #[.pointer (some ⟨n + 1, 0, none⟩)]] 82 0,
  .cells [.func (.func 102) #[] #[.pointer (some ⟨n + 3, 0, none⟩)], .func (.func 102) #[] #[.pointer (some ⟨n + 1, 0, none⟩)]] 82 0,
  .cells [.func (.func 102) #[] #[.pointer (some ⟨n + 1, 0, none⟩)]] 82 0,
  .cells [.func (.func 102) #[] #[.pointer (some ⟨n + 5, 0, none⟩)], .func (.func 67) #[] #[]] 82 0,
  .cells [.func (.func 72) #[] #[], .func (.func 67) #[] #[]] 82 0,
  .cells [.func (.func 67) #[] #[]] 82 0,
  .cells [.func (.func 67) #[] #[]] 82 0,
  .cells [.func (.func 67) #[] #[], .func (.func 102) #[] #[.pointer (some ⟨n + 1, 0, none⟩)], .func (.func 102) #[] #[.pointer (some ⟨n + 1, 0, none⟩)]] 82 0,
  .cells [.func (.func 67) #[] #[], .func (.func 102) #[] #[.pointer (some ⟨n + 1, 0, none⟩)]] 82 0,
  .cells [.func (.func 67) #[] #[]] 82 0,
  .cells [.func (.func 67) #[] #[], .func (.func 67) #[] #[]] 82 0,
  .cells [.func (.func 67) #[] #[], .func (.func 67) #[] #[]] 82 0,
  .cells [.func (.func 102) #[] #[.pointer (some ⟨n + 1, 0, none⟩)]] 82 0,
  .dead]
def Qcp : List Nat := [0, 1, 2, 3, 4, 5, 6, 8, 9, 10, 11, 12, 13, 14, 15, 16, 17, 18, 19, 20, 21, 22, 23, 24, 25, 26, 27, 28, 29]
theorem QdF (n : Nat) : shV 400 n Q5a = some (.map (some (n + 8))) := by kernel_rfl
theorem QdG (n : Nat) : Q7z n Q5b = some (Qco n) := by kernel_rfl
theorem QbI {h0 g : Hp} {ds : List Nat} {L : List Res} {n : Nat} (S : SH h0 ds (pcs n (Qco n) Qcp ++ L) g) : Forms g (n + 8) := by
  have p16 : PrK g (.func (.func 67) #[] #[]) Qw := PrK.of16; have p37 : PrK g (.func (.func 68) #[] #[]) Q0U := PrK.of37; have p40 : PrK g (.func (.func 71) #[] #[]) Q1J := PrK.of40; have p41 : PrK g (.func (.func 72) #[] #[]) Q4a := PrK.of41; have s38 : PrS g (.func (.func 69) #[] #[]) Za := PrS.of38; have s39 : PrS g (.func (.func 70) #[] #[]) typS := PrS.of39; have s42 : PrS g (.func (.func 73) #[] #[]) (Q4c opL) := PrS.of42; have q1 := PrK.of60 (k := 12) (S.cel 1 rfl) (S.lt1 1 rfl) (S.cel 0 rfl) (S.lt1 0 rfl); have q3 := PrK.of60 (k := 29) (S.cel 3 rfl) (S.lt1 3 rfl) (S.cel 2 rfl) (S.lt1 2 rfl); have q5 := PrK.of60 (k := 5) (S.cel 5 rfl) (S.lt1 5 rfl) (S.cel 4 rfl) (S.lt1 4 rfl)
  have q10 := PrK.of60 (k := 4) (S.cel 9 rfl) (S.lt1 9 rfl) (S.cel 8 rfl) (S.lt1 8 rfl); have q16 := PrK.of60 (k := 9) (S.cel 15 rfl) (S.lt1 15 rfl) (S.cel 14 rfl) (S.lt1 14 rfl); have r6 := RowK.of1 (S.cel 6 rfl) (S.lt1 6 rfl) p16; have r11 := RowK.of1 (S.cel 10 rfl) (S.lt1 10 rfl) q5; have r12 := RowK.of1 (S.cel 11 rfl) (S.lt1 11 rfl) q5; have r13 := RowK.of1 (S.cel 12 rfl) (S.lt1 12 rfl) q1; have r14 := RowK.of1 (S.cel 13 rfl) (S.lt1 13 rfl) q3; have r17 := RowK.of1 (S.cel 16 rfl) (S.lt1 16 rfl) q1; have r18 := RowK.of2 (S.cel 17 rfl) (S.lt1 17 rfl) q3 q1; have r19 := RowK.of1 (S.cel 18 rfl) (S.lt1 18 rfl) q1; have r20 := RowK.of2 (S.cel 19 rfl) (S.lt1 19 rfl) q5 p16
  have r21 := RowK.of2 (S.cel 20 rfl) (S.lt1 20 rfl) p41 p16; have r22 := RowK.of1 (S.cel 21 rfl) (S.lt1 21 rfl) p16; have r23 := RowK.of1 (S.cel 22 rfl) (S.lt1 22 rfl) p16; have r24 := RowK.of3 (S.cel 23 rfl) (S.lt1 23 rfl) p16 q1 q1; have r25 := RowK.of2 (S.cel 24 rfl) (S.lt1 24 rfl) p16 q1; have r26 := RowK.of1 (S.cel 25 rfl) (S.lt1 25 rfl) p16; have r27 := RowK.of2 (S.cel 26 rfl) (S.lt1 26 rfl) p16 p16; have r28 := RowK.of2 (S.cel 27 rfl) (S.lt1 27 rfl) p16 p16; have r29 := RowK.of1 (S.cel 28 rfl) (S.lt1 28 rfl) q1
  exact ⟨Qcn n, 36, S.cel 7 rfl, S.lt1 7 rfl, rfl, ⟨_, _, _, _, rfl, rfl, .inl ⟨rfl, rfl⟩, rfl, p37⟩, rfl, ⟨_, _, _, _, rfl, s38, .inl ⟨rfl, rfl⟩, rfl, rfl⟩, rfl, ⟨_, _, _, _, rfl, s38, .inl ⟨rfl, rfl⟩, rfl, q10⟩, rfl, ⟨_, _, _, _, rfl, s38, r11, rfl, rfl⟩, rfl, ⟨_, _, _, _, rfl, s39, .inl ⟨rfl, rfl⟩, rfl, rfl⟩, rfl, ⟨_, _, _, _, rfl, s38, r12, rfl, rfl⟩, rfl, ⟨_, _, _, _, rfl, s38, r13, rfl, rfl⟩, rfl, ⟨_, _, _, _, rfl, s38, r14, rfl, q16⟩, rfl, ⟨_, _, _, _, rfl, rfl, r17, rfl, rfl⟩, rfl, ⟨_, _, _, _, rfl, s38, r18, rfl, rfl⟩, rfl, ⟨_, _, _, _, rfl, rfl, r19, rfl, rfl⟩, rfl, ⟨_, _, _, _, rfl, rfl, .inl ⟨rfl, rfl⟩, rfl, p40⟩, rfl, ⟨_, _, _, _, rfl, s38, r20, rfl, rfl⟩, rfl, ⟨_, _, _, _, rfl, rfl, r21, rfl, rfl⟩, rfl, ⟨_, _, _, _, rfl, s38, r22, p41, rfl⟩, rfl, ⟨_, _, _, _, rfl, rfl, r23, p41, rfl⟩, rfl, ⟨_, _, _, _, rfl, s38, .inl ⟨rfl, rfl⟩, rfl, rfl⟩, rfl, ⟨_, _, _, _, rfl, s38, .inl ⟨rfl, rfl⟩, rfl, rfl⟩, rfl, ⟨_, _, _, _, rfl, rfl, r24, rfl, rfl⟩, rfl, ⟨_, _, _, _, rfl, rfl, r25, rfl, rfl⟩, rfl, ⟨_, _, _, _, rfl, rfl, .inl ⟨rfl, rfl⟩, rfl, rfl⟩, rfl, ⟨_, _, _, _, rfl, rfl, .inl ⟨rfl, rfl⟩, rfl, rfl⟩, rfl, ⟨_, _, _, _, rfl, rfl, .inl ⟨rfl, rfl⟩, rfl, rfl⟩, rfl, ⟨_, _, _, _, rfl, rfl, .inl ⟨rfl, rfl⟩, rfl, rfl⟩, rfl, ⟨_, _, _, _, rfl, s38, .inl ⟨rfl, rfl⟩, rfl, rfl⟩, rfl, ⟨_, _, _, _, rfl, s38, r26, rfl, rfl⟩, rfl, ⟨_, _, _, _, rfl, rfl, r27, rfl, rfl⟩, rfl, ⟨_, _, _, _, rfl, s42, r28, rfl, rfl⟩, rfl, ⟨_, _, _, _, rfl, s38, .inl ⟨rfl, rfl⟩, rfl, rfl⟩, rfl, ⟨_, _, _, _, rfl, rfl, r29, rfl, rfl⟩, rfl, ⟨_, _, _, _, rfl, rfl, r6, rfl, rfl⟩, rfl, ⟨_, _, _, _, rfl, rfl, r6, rfl, rfl⟩, rfl, ⟨_, _, _, _, rfl, rfl, r6, rfl, rfl⟩, rfl, ⟨_, _, _, _, rfl, rfl, r6, rfl, rfl⟩, rfl, ⟨_, _, _, _, rfl, rfl, r6, rfl, rfl⟩, rfl, ⟨_, _, _, _, rfl, rfl, r6, rfl, rfl⟩, trivial⟩
theorem Forms.ext {h h' : Hp} {r : Nat} (x : Forms h r) (g : Ext h h') : Forms h' r := by
  obtain ⟨M, cl, h1, h2, h3⟩ := x; exact ⟨M, cl, (g.get r h2).trans h1, Nat.lt_of_lt_of_le h2 g.n, h3.ext g⟩
end Go.Proofs.YtkidomfnmpnmaaaGreatDoor
namespace Go.Proofs.YtkidomfnmpnmaaaGreatDoor
open Go.X
def KS : Option (ByteArray → Bool) → ByteArray → Bool
  | none, s => s.toList.isEmpty
  | some P, s => P s
def Q16 (F : FS) (s : ByteArray) (N : Int) (n : Nat) : Bool := KS F.text s && decide (F.least ≤ N) && decide (N ≤ F.most) && decide (F.kids.length ≤ n)
def Qx : List (Int → Bool) → List Int → Bool
  | [], _ => true
  | _ :: _, [] => false
  | P :: l, k :: ks => P k && Qx l ks
def YX (F : FS) (r : List Int) : Bool := match F.more with
  | some P => r.all P
  | none => match F.maybe, r with
    | some P, [k] => P k
    | _, [] => true
    | _, _ => false
def Q0Q (F : FS) (s : ByteArray) (N : Int) (ks : List Int) : Bool := Q16 F s N ks.length && (Qx F.kids ks && YX F (ks.drop F.kids.length))
theorem Jz : ∀ {l : List (Int → Bool)} {ks : List Int}, Qx l ks = true ↔ l.length ≤ ks.length ∧ ∀ i (h1 : i < l.length) (h2 : i < ks.length), l[i] ks[i] = true
  | [], ks => by simp [Qx]
  | P :: l, [] => by simp [Qx]
  | P :: l, k :: ks => by
    simp only [Qx, Bool.and_eq_true, Jz (l := l) (ks := ks), List.length_cons]; constructor
    · rintro ⟨h1, h2, h3⟩; refine ⟨by omega, fun i h4 h5 => ?_⟩; cases i with
      | zero => exact h1
      | succ i => exact h3 i (by omega) (by omega)
    rintro ⟨h1, h2⟩; exact ⟨h2 0 (by omega) (by omega), by omega, fun i h4 h5 => h2 (i + 1) (by omega) (by omega)⟩
theorem OptK.nf {h : Hp} {v : Value} {o : Option (Int → Bool)} (x : OptK h v o) : (v = .nilFunc ∨ ∃ f a b, v = .func f a b) ∧ JI v = o.isNone := by
  cases o with
  | none => have e : v = .nilFunc := x; subst e; exact ⟨.inl rfl, rfl⟩
  | some P => obtain ⟨f, cap, rfl, _⟩ := x; exact ⟨.inr ⟨_, _, _, rfl⟩, rfl⟩
theorem OptS.nf {h : Hp} {v : Value} {o : Option (ByteArray → Bool)} (x : OptS h v o) : (v = .nilFunc ∨ ∃ f a b, v = .func f a b) ∧ JI v = o.isNone := by
  cases o with
  | none => have e : v = .nilFunc := x; subst e; exact ⟨.inl rfl, rfl⟩
  | some P => obtain ⟨f, cap, rfl, _⟩ := x; exact ⟨.inr ⟨_, _, _, rfl⟩, rfl⟩
theorem el58 : ElN nmE 71 39 0 7 := ⟨by kernel_rfl, by kernel_rfl, by kernel_rfl, .int .i64 0, by kernel_rfl, rfl⟩
theorem Ks (F : FS) (s : ByteArray) (N : Int) (n : Nat) : Q16 F s N n = !(((!(KS F.text s) || decide (N < F.least)) || decide (F.most < N)) || decide ((n : Int) < (F.kids.length : Nat))) := by
  unfold Q16; rw [Bool.eq_iff_iff]; simp
theorem Q6g {F : FS} {s : ByteArray} {N : Int} {ks : List Int} (h : Q16 F s N ks.length = false) : Q0Q F s N ks = false := by rw [Q0Q, h, Bool.false_and]
theorem Qb7 {F : FS} {r : List Int} (h1 : F.more = none) (h2 : F.maybe = none ∨ r.length ≠ 1) : YX F r = decide (r.length = 0) := by
  unfold YX; rw [h1]; rcases h2 with h2 | h2
  · rw [h2]; cases r <;> rfl
  cases hm : F.maybe with
  | none => cases r <;> rfl
  | some P =>
    match r, h2 with
    | [], _ => rfl
    | [k], h => exact absurd rfl h
    | _ :: _ :: _, _ => rfl
theorem Q96 {F : FS} {r : List Int} {P : Int → Bool} (h : F.more = some P) : YX F r = r.all P := by unfold YX; rw [h]
theorem Qb6 {F : FS} {k : Int} {P : Int → Bool} (h1 : F.more = none) (h2 : F.maybe = some P) : YX F [k] = P k := by unfold YX; rw [h1, h2]
theorem Q3F {α : Type} {v : Value} {o : Option α} (h : JI v = o.isNone) (hb : (!JI v) = true) : ∃ P, o = some P := by
  rw [h] at hb; cases o with
  | none => simp at hb
  | some P => exact ⟨P, rfl⟩
theorem Q6c {α : Type} {v : Value} {o : Option α} (h : JI v = o.isNone) (hb : (!JI v) = false) : o = none := by
  rw [h] at hb; cases o with
  | none => rfl
  | some P => simp at hb
section
variable {h : Hp} {K N L Co : Int} {s : ByteArray} {ks v ft fm fo kv : Value} {kinds : List Int} {F : FS} {P : Int → Bool} {q : Nat} {bs : List Nat} {a b : Int}
theorem c59 (hq : h.get q = some (.cells [ft, iV a, iV b, ks, fm, fo] 111 0)) (p : PrK h fo P) : C nmE 101 [iV K, Zx q] h fun v h' => v = .bool (!P K) ∧ Ext h h' := by
  obtain ⟨f, cap, rfl, hf, hc⟩ := p; refine Qf (fu := Tryz.f101) (by kernel_rfl) rfl ?_; have S := SH.start h; refine Qd ?_; refine Q3 gn rfl rfl ?_; refine Zw ?_; refine Q0 (off := 5) gn rfl rfl (by kernel_rfl) ?_; refine Q6 gn rfl rfl (by kernel_rfl) (by first | exact S.cel 0 rfl | exact S.cel 1 rfl | exact hq) rfl ?_; refine Q4 gn rfl rfl ?_; refine Qb [_] gn rfl rfl hf rfl (C.mono (hc _ (.refl _) K) ?_); rintro v g ⟨rfl, x⟩; have S := S.grow x; refine ⟨ag0, ?_⟩; refine ZT gn rfl rfl ?_; refine Q3 gn rfl rfl ?_; refine Q5 ?_; refine Qc ?_; refine ⟨.inl rfl, _, rfl, ?_⟩; exact ⟨rfl, S.e0⟩
theorem c76 (R : RowV h v (isV kinds)) (hl : kinds.length < 1000000) (hq : h.get q = some (.cells [ft, iV a, iV b, ks, fm, fo] 111 0)) (lq : q < h.n) (p : PrK h fo P) :
    C nmE 116 [v, .func (.func 101) #[] #[Zx q]] h fun v h' => ∃ r, v = iV r ∧ Ext h h' ∧ (0 ≤ r ↔ kinds.all P = false) := by
  obtain ⟨a, c, rfl⟩ := R.valM; refine Qf (fu := Tryz.f116) (by kernel_rfl) rfl ?_; have S := SH.start h; refine Qd ?_; refine Q3 gn rfl rfl ?_; refine Kz ?_; refine Q4 gn rfl rfl ?_; refine QI gn rfl rfl (by kernel_rfl) ?_; refine Q4 gn rfl rfl ?_; refine Q5 ?_; refine Qg ?_; refine QH [(8, _)] [(0, _), (1, _), (7, _)] (by repeat (first | exact trivial | refine ⟨rfl, ?_⟩)) (fun kk lv hh => ∃ j : Nat, lv = [(8, iV j)] ∧ kk = kinds.length - j ∧ j ≤ kinds.length ∧ SH h [] [] hh ∧ ∀ i (hi : i < kinds.length), i < j → P kinds[i] = true) (n := (kinds.length)) ?_ fun kk lv hh hI => ?_
  · exact ⟨0, rfl, rfl, by omega, S, fun i _ hi => by omega⟩
  obtain ⟨j, rfl, hk, hj, S, hs⟩ := hI; refine Qd ?_; refine Z9 gn rfl rfl rfl ?_; refine Q5 ?_; refine Qj ?_; refine Qa rfl (fun hb => ?_) fun hb => ?_
  · skip
    refine Qe ?_; have hj : j < kinds.length := by simp at hb; omega
    obtain ⟨b, o, c', cs, e, m, hv, hg, hlt, hat⟩ := R.atM (by omega); cases hv; have hc := hat j hj; refine Qj ?_; refine Qg ?_; refine Qd ?_; refine Q4 gn rfl rfl ?_; refine Q3 gn rfl rfl ?_; refine Zw ?_; refine Q4 gn rfl rfl ?_; refine Q4 gn rfl rfl ?_; refine Q4 gn rfl rfl ?_; refine Q7 (zz := 1) gn rfl rfl rfl (by kernel_rfl) (by omega) (by omega) ?_; refine Q6 gn rfl rfl (by kernel_rfl) (S.old0 hg hlt) (by rw [Int.toNat_natCast, Nat.mul_one]; exact hc) ?_; refine Qb [_] gn rfl rfl (by kernel_rfl) rfl (C.mono (c59 (K := kinds[j]) (S.old0 hq lq) (p.ext S.e0)) ?_); rintro v g ⟨rfl, x⟩; have S := S.grow x; refine ⟨ag0, ?_⟩; refine Q5 ?_; refine Qa rfl (fun hb => ?_) fun hb => ?_
    · skip
      refine Qd ?_; refine Q4 gn rfl rfl ?_; refine Q3 gn rfl rfl ?_; refine Q5 ?_; refine Qc ?_; refine ⟨.inl rfl, _, rfl, ?_⟩; exact ⟨j, rfl, S.e0, ⟨fun _ => List.all_eq_false.2 ⟨kinds[j], List.getElem_mem hj, by rw [Bool.not_eq_true'] at hb; rw [hb]; simp⟩, fun _ => by omega⟩⟩
    refine Qe ?_; refine Q8 (by kernel_rfl) ?_; refine QO gn rfl rfl rfl (by omega) (by omega) ?_; refine Q4 gn rfl rfl ?_; refine Q5 ?_
    exact Kc (kinds.length - (j + 1)) (by omega) [(8, _)] (by repeat (first | exact trivial | refine ⟨rfl, ?_⟩)) ⟨j + 1, rfl, rfl, by omega, S, fun i hi h => by
      by_cases e : i = j
      · subst e; rw [Bool.not_eq_false'] at hb; exact hb
      exact hs i hi (by omega)⟩
  refine QZ ?_; refine Qt ?_; refine Qu ?_; refine QY ?_; refine Qd ?_; refine Q3 gn rfl rfl ?_; refine Q5 ?_; refine Qc ?_; refine ⟨.inl rfl, _, rfl, ?_⟩
  exact ⟨-1, rfl, S.e0, ⟨fun h => by omega, fun hm => by
    obtain ⟨w, hw, e⟩ := List.all_eq_false.1 hm; obtain ⟨i, hi, rfl⟩ := List.mem_iff_getElem.1 hw
    rw [hs i hi (by simp at hb; omega)] at e; simp at e⟩⟩
theorem c58 (R : RowV h v (isV kinds)) (hl : kinds.length < 1000000) (hq : h.get q = some (.cells [ft, iV a, iV b, ks, fm, fo] 111 0)) (lq : q < h.n) (p : PrK h fo P) :
    C nmE 100 [v, .func (.func 101) #[] #[Zx q]] h fun v h' => v = .bool (!kinds.all P) ∧ Ext h h' := by
  refine Qf (fu := Tryz.f100) (by kernel_rfl) rfl ?_; have S := SH.start h; refine Qd ?_; refine Q3 gn rfl rfl ?_; refine Zw ?_; refine Q4 gn rfl rfl ?_; refine Q4 gn rfl rfl ?_; refine Qb [_, _] gn rfl rfl (by kernel_rfl) rfl (C.mono (c76 R hl hq lq p) ?_); rintro v g ⟨r, rfl, x, hr⟩; have S := S.grow x; refine ⟨ag0, ?_⟩; refine Y5 gn rfl rfl rfl ?_; refine Q3 gn rfl rfl ?_; refine Q5 ?_; refine Qc ?_; refine ⟨.inl rfl, _, rfl, ?_⟩; exact ⟨by rw [show decide (0 ≤ r) = !kinds.all P from Bool.eq_iff_iff.2 (by rw [decide_eq_true_eq, hr, Bool.not_eq_true'])]; rfl, S.e0⟩
theorem c34 (B : Blk h) (hsz : s.toList.length < 9223372036854775000) (x : FormV h v F) (R : SlC 39 0 h kv (isV kinds) kinds.length bs) (hl : kinds.length < 1000000) :
    C nmE 64 [v, twV K s N L Co ks, kv] h fun v h' => v = .bool (Q0Q F s N kinds) ∧ Ext h h' := by
  obtain ⟨ft, ks', fm, fo, rfl, x1, x2, x3, x4⟩ := x; obtain ⟨nf1, nn1⟩ := x1.nf; obtain ⟨nf3, nn3⟩ := x3.nf; obtain ⟨nf4, nn4⟩ := x4.nf; obtain ⟨ra, rfl⟩ := x2.val; obtain ⟨ka, kc, rfl⟩ := R.val; refine Qf (fu := Tryz.f64) (by kernel_rfl) rfl ?_; have S := SH.start h; refine Qd ?_; refine Yh S gn rfl rfl fun b1 g nb1 S => ?_; refine Yh S gn rfl rfl fun b2 g nb2 S => ?_; refine Q3 gn rfl rfl ?_; refine Q5 ?_; refine KW [(2, .slice ka kinds.length kc), (3, Zx b1)] (fun lv hh => lv = [] ∧ SH h [] [cR b2 (.cells (twC K s N L Co ks) 41 0), cR b1 (.cells [ft, iV F.least, iV F.most, .slice ra F.kids.length F.kids.length, fm, fo] 111 0)] hh ∧ Q16 F s N kinds.length = true) ?_ fun lv hh hJ => ?_
  · skip
    refine Qd ?_; refine Q0 (off := 0) gn rfl rfl (by kernel_rfl) ?_; refine Q6 gn rfl rfl (by kernel_rfl) (S.cel 1 rfl) rfl ?_; refine o_eqfN gn rfl rfl rfl (by kernel_rfl) nf1 ?_; refine Q4 gn rfl rfl ?_
    refine ZU (n := 3) rfl rfl rfl gn rfl (fun hb => by
        refine Q0 (off := 1) (gy rfl rfl rfl hb) rfl rfl (by kernel_rfl) ?_; refine Q6 (gy rfl rfl rfl hb) rfl rfl (by kernel_rfl) (S.cel 0 rfl) rfl ?_; refine Qdi (gy rfl rfl rfl hb) rfl rfl rfl ?_
        exact Q5 ⟨rfl, rfl, 3, rfl, rfl⟩) ?_
    refine Q4 gn rfl rfl ?_; refine QM (dc := 18) rfl (fun hb18 => ?_) fun hb18 => ?_
    · skip
      refine QU (n := 11) (dc := 18) (w := false) rfl hb18 rfl ?_; refine Zd gn rfl rfl hb18 rfl ?_; refine Q4 gn rfl rfl ?_
      refine Yo (n := 5) rfl rfl rfl gn rfl (fun hb => by
          refine Q0 (off := 2) (gy rfl rfl rfl hb) rfl rfl (by kernel_rfl) ?_; refine Q6 (gy rfl rfl rfl hb) rfl rfl (by kernel_rfl) (S.cel 0 rfl) rfl ?_; refine Q0 (off := 1) (gy rfl rfl rfl hb) rfl rfl (by kernel_rfl) ?_; refine Q6 (gy rfl rfl rfl hb) rfl rfl (by kernel_rfl) (S.cel 1 rfl) rfl ?_; refine Z9 (gy rfl rfl rfl hb) rfl rfl rfl ?_
          exact Q5 ⟨rfl, rfl, 5, rfl, rfl⟩) ?_
      refine Q4 gn rfl rfl ?_
      refine Yo (n := 5) rfl rfl rfl gn rfl (fun hb => by
          refine Q0 (off := 2) (gy rfl rfl rfl hb) rfl rfl (by kernel_rfl) ?_; refine Q6 (gy rfl rfl rfl hb) rfl rfl (by kernel_rfl) (S.cel 0 rfl) rfl ?_; refine Q0 (off := 2) (gy rfl rfl rfl hb) rfl rfl (by kernel_rfl) ?_; refine Q6 (gy rfl rfl rfl hb) rfl rfl (by kernel_rfl) (S.cel 1 rfl) rfl ?_; refine JB (gy rfl rfl rfl hb) rfl rfl rfl ?_
          exact Q5 ⟨rfl, rfl, 5, rfl, rfl⟩) ?_
      refine Q4 gn rfl rfl ?_
      refine Yo (n := 6) rfl rfl rfl gn rfl (fun hb => by
          refine Q4 (gy rfl rfl rfl hb) rfl rfl ?_; refine QI (gy rfl rfl rfl hb) rfl rfl (by kernel_rfl) ?_; refine Q0 (off := 3) (gy rfl rfl rfl hb) rfl rfl (by kernel_rfl) ?_; refine Q6 (gy rfl rfl rfl hb) rfl rfl (by kernel_rfl) (S.cel 1 rfl) rfl ?_; refine QI (gy rfl rfl rfl hb) rfl rfl (by kernel_rfl) ?_; refine Z9 (gy rfl rfl rfl hb) rfl rfl rfl ?_
          exact Q5 ⟨rfl, rfl, 6, rfl, rfl⟩) ?_
      refine Q5 ?_; refine Qa rfl (fun hb => ?_) fun hb => ?_
      · skip
        refine Qd ?_; refine Q3 gn rfl rfl ?_; refine Q5 ?_; refine Qc ?_; refine ⟨.inl rfl, _, rfl, ?_⟩
        exact ⟨by
          rw [Q6g]; rfl; rw [Bool.and_eq_true, nn1] at hb18; rw [Ks]; have : F.text = none := by cases hx : F.text <;> simp_all
          have h2 : KS F.text s = false := by
            rw [this]; have := hb18.2; rw [Jf, Bool.not_eq_true'] at this; exact this
          rw [h2]; simp, S.e0⟩
      exact absurd hb (by simp)
    refine Q0 (off := 0) (gy rfl rfl rfl hb18) rfl rfl (by kernel_rfl) ?_; refine Q6 (gy rfl rfl rfl hb18) rfl rfl (by kernel_rfl) (S.cel 1 rfl) rfl ?_; refine Q9g (gy rfl rfl rfl hb18) rfl rfl rfl (by kernel_rfl) nf1 ?_; refine Q4 (gy rfl rfl rfl hb18) rfl rfl ?_; have hnn := nn1; refine QM (dc := 22) rfl (fun hb22 => ?_) fun hb22 => ?_
    skip
    · skip
      obtain ⟨P0, hP⟩ := Q3F nn1 hb22; rw [hP] at x1; obtain ⟨f, cap, hft, hf, hc⟩ := x1; subst hft; refine Q0 (off := 0) (gy rfl rfl rfl hb22) rfl rfl (by kernel_rfl) ?_; refine Q6 (gy rfl rfl rfl hb22) rfl rfl (by kernel_rfl) (S.cel 1 rfl) rfl ?_; refine Q0 (off := 1) (gy rfl rfl rfl hb22) rfl rfl (by kernel_rfl) ?_; refine Q6 (gy rfl rfl rfl hb22) rfl rfl (by kernel_rfl) (S.cel 0 rfl) rfl ?_; refine Qb [_] (gy rfl rfl rfl hb22) rfl rfl hf rfl (C.mono (hc _ S.e0 (B.ext S.e0) s hsz) ?_); rintro v g ⟨rfl, x⟩; have S := S.grow x; refine ⟨ag0, ?_⟩; refine ZT (gy rfl rfl rfl hb22) rfl rfl ?_; refine Zd (gy rfl rfl rfl hb18) rfl rfl hb22 rfl ?_; refine Z2 gn rfl rfl hb18 rfl ?_
      refine Q4 gn rfl rfl ?_
      refine Yo (n := 5) rfl rfl rfl gn rfl (fun hb => by
          refine Q0 (off := 2) (gy rfl rfl rfl hb) rfl rfl (by kernel_rfl) ?_; refine Q6 (gy rfl rfl rfl hb) rfl rfl (by kernel_rfl) (S.cel 0 rfl) rfl ?_; refine Q0 (off := 1) (gy rfl rfl rfl hb) rfl rfl (by kernel_rfl) ?_; refine Q6 (gy rfl rfl rfl hb) rfl rfl (by kernel_rfl) (S.cel 1 rfl) rfl ?_; refine Z9 (gy rfl rfl rfl hb) rfl rfl rfl ?_
          exact Q5 ⟨rfl, rfl, 5, rfl, rfl⟩) ?_
      refine Q4 gn rfl rfl ?_
      refine Yo (n := 5) rfl rfl rfl gn rfl (fun hb => by
          refine Q0 (off := 2) (gy rfl rfl rfl hb) rfl rfl (by kernel_rfl) ?_; refine Q6 (gy rfl rfl rfl hb) rfl rfl (by kernel_rfl) (S.cel 0 rfl) rfl ?_; refine Q0 (off := 2) (gy rfl rfl rfl hb) rfl rfl (by kernel_rfl) ?_; refine Q6 (gy rfl rfl rfl hb) rfl rfl (by kernel_rfl) (S.cel 1 rfl) rfl ?_; refine JB (gy rfl rfl rfl hb) rfl rfl rfl ?_
          exact Q5 ⟨rfl, rfl, 5, rfl, rfl⟩) ?_
      refine Q4 gn rfl rfl ?_
      refine Yo (n := 6) rfl rfl rfl gn rfl (fun hb => by
          refine Q4 (gy rfl rfl rfl hb) rfl rfl ?_; refine QI (gy rfl rfl rfl hb) rfl rfl (by kernel_rfl) ?_; refine Q0 (off := 3) (gy rfl rfl rfl hb) rfl rfl (by kernel_rfl) ?_; refine Q6 (gy rfl rfl rfl hb) rfl rfl (by kernel_rfl) (S.cel 1 rfl) rfl ?_; refine QI (gy rfl rfl rfl hb) rfl rfl (by kernel_rfl) ?_; refine Z9 (gy rfl rfl rfl hb) rfl rfl rfl ?_
          exact Q5 ⟨rfl, rfl, 6, rfl, rfl⟩) ?_
      refine Q5 ?_; refine Qa rfl (fun hb => ?_) fun hb => ?_
      · skip
        refine Qd ?_; refine Q3 gn rfl rfl ?_; refine Q5 ?_; refine Qc ?_; refine ⟨.inl rfl, _, rfl, ?_⟩
        exact ⟨by
          rw [Q6g]; rfl; rw [Ks, hP]; have e : KS (some P0) s = P0 s := rfl
          rw [e, hb]; rfl, S.e0⟩
      refine Qe ?_
      exact Q1o [] (by repeat (first | exact trivial | refine ⟨rfl, ?_⟩)) ⟨rfl, S, by
        rw [Ks, hP]; have e : KS (some P0) s = P0 s := rfl
        rw [e, hb]; rfl⟩
    have hP := Q6c nn1 hb22
    have ht : KS F.text s = true := by
      rw [hP]; rw [nn1, hP] at hb18; rw [Jf] at hb18; show s.toList.isEmpty = true
      revert hb18; cases s.toList.isEmpty <;> simp
    refine QU (n := 6) (dc := 22) (w := true) rfl hb22 rfl ?_; refine Z2 (gy rfl rfl rfl hb18) rfl rfl hb22 rfl ?_; refine Z2 gn rfl rfl hb18 rfl ?_; refine Q4 gn rfl rfl ?_
    refine Yo (n := 5) rfl rfl rfl gn rfl (fun hb => by
        refine Q0 (off := 2) (gy rfl rfl rfl hb) rfl rfl (by kernel_rfl) ?_; refine Q6 (gy rfl rfl rfl hb) rfl rfl (by kernel_rfl) (S.cel 0 rfl) rfl ?_; refine Q0 (off := 1) (gy rfl rfl rfl hb) rfl rfl (by kernel_rfl) ?_; refine Q6 (gy rfl rfl rfl hb) rfl rfl (by kernel_rfl) (S.cel 1 rfl) rfl ?_; refine Z9 (gy rfl rfl rfl hb) rfl rfl rfl ?_
        exact Q5 ⟨rfl, rfl, 5, rfl, rfl⟩) ?_
    refine Q4 gn rfl rfl ?_
    refine Yo (n := 5) rfl rfl rfl gn rfl (fun hb => by
        refine Q0 (off := 2) (gy rfl rfl rfl hb) rfl rfl (by kernel_rfl) ?_; refine Q6 (gy rfl rfl rfl hb) rfl rfl (by kernel_rfl) (S.cel 0 rfl) rfl ?_; refine Q0 (off := 2) (gy rfl rfl rfl hb) rfl rfl (by kernel_rfl) ?_; refine Q6 (gy rfl rfl rfl hb) rfl rfl (by kernel_rfl) (S.cel 1 rfl) rfl ?_; refine JB (gy rfl rfl rfl hb) rfl rfl rfl ?_
        exact Q5 ⟨rfl, rfl, 5, rfl, rfl⟩) ?_
    refine Q4 gn rfl rfl ?_
    refine Yo (n := 6) rfl rfl rfl gn rfl (fun hb => by
        refine Q4 (gy rfl rfl rfl hb) rfl rfl ?_; refine QI (gy rfl rfl rfl hb) rfl rfl (by kernel_rfl) ?_; refine Q0 (off := 3) (gy rfl rfl rfl hb) rfl rfl (by kernel_rfl) ?_; refine Q6 (gy rfl rfl rfl hb) rfl rfl (by kernel_rfl) (S.cel 1 rfl) rfl ?_; refine QI (gy rfl rfl rfl hb) rfl rfl (by kernel_rfl) ?_; refine Z9 (gy rfl rfl rfl hb) rfl rfl rfl ?_
        exact Q5 ⟨rfl, rfl, 6, rfl, rfl⟩) ?_
    refine Q5 ?_; refine Qa rfl (fun hb => ?_) fun hb => ?_
    · skip
      refine Qd ?_; refine Q3 gn rfl rfl ?_; refine Q5 ?_; refine Qc ?_; refine ⟨.inl rfl, _, rfl, ?_⟩
      exact ⟨by
        rw [Q6g]; rfl; rw [Ks, ht]; have e : (!true) = false := rfl
        rw [e, hb]; rfl, S.e0⟩
    refine Qe ?_
    exact Q1o [] (by repeat (first | exact trivial | refine ⟨rfl, ?_⟩)) ⟨rfl, S, by
      rw [Ks, ht]; have e : (!true) = false := rfl
      rw [e, hb]; rfl⟩
  obtain ⟨rfl, S, hd⟩ := hJ
  have hkl : F.kids.length ≤ kinds.length := by
    unfold Q16 at hd; simp only [Bool.and_eq_true, decide_eq_true_eq] at hd; exact hd.2
  refine Qj ?_; refine Qd ?_; refine Q0 (off := 3) gn rfl rfl (by kernel_rfl) ?_; refine Q6 gn rfl rfl (by kernel_rfl) (S.cel 1 rfl) rfl ?_; refine QI gn rfl rfl (by kernel_rfl) ?_; refine Q4 gn rfl rfl ?_; refine Q5 ?_; refine Qg ?_
  refine QH [(56, _)] [(2, _), (3, _), (54, _), (55, _)] (by repeat (first | exact trivial | refine ⟨rfl, ?_⟩)) (fun kk lv hh => ∃ i : Nat, lv = [(56, iV i)] ∧ kk = F.kids.length - i ∧ i ≤ F.kids.length ∧ SH h [] [cR b2 (.cells (twC K s N L Co ks) 41 0), cR b1 (.cells [ft, iV F.least, iV F.most, .slice ra F.kids.length F.kids.length, fm, fo] 111 0)] hh ∧ ∀ p (h1 : p < F.kids.length) (h2 : p < kinds.length), p < i → F.kids[p] kinds[p] = true) (n := (F.kids.length)) ?_ fun kk lv hh hI => ?_
  · exact ⟨0, rfl, rfl, by omega, S, fun p h1 h2 hp => by omega⟩
  obtain ⟨i, rfl, hk, hi, S, hs⟩ := hI; refine Qd ?_; refine Z9 gn rfl rfl rfl ?_; refine Q5 ?_; refine Qj ?_; refine Qa rfl (fun hb => ?_) fun hb => ?_
  · skip
    refine Qe ?_; have hi : i < F.kids.length := by simp at hb; omega
    obtain ⟨rb, re, rm, rcs, hv, hg, hlt, hat⟩ := x2.at (by omega); cases hv; obtain ⟨u, hu, pu⟩ := hat i hi; obtain ⟨f, cap, hfu, hf, hc⟩ := pu; subst hfu; obtain ⟨kb, ko, kc', kcs, ke, km, hv2, hg2, hlt2, hat2⟩ := R.row.atM (by omega); cases hv2; refine Qj ?_; refine Qg ?_; refine Qd ?_; refine Q4 gn rfl rfl ?_; refine Q7 (zz := 1) gn rfl rfl rfl (by kernel_rfl) (by omega) (by omega) ?_; refine Q6 gn rfl rfl (by kernel_rfl) (S.old0 hg hlt) (by rw [Int.toNat_natCast, Nat.mul_one, Nat.zero_add]; exact hu) ?_; refine Q3 gn rfl rfl ?_; refine Q3 gn rfl rfl ?_; refine Zw ?_; refine Q4 gn rfl rfl ?_; refine Q4 gn rfl rfl ?_; refine Q4 gn rfl rfl ?_
    refine Q7 (zz := 1) gn rfl rfl rfl (by kernel_rfl) (by omega) (by omega) ?_; refine Q6 gn rfl rfl (by kernel_rfl) (S.old0 hg2 hlt2) (by rw [Int.toNat_natCast, Nat.mul_one]; exact hat2 i (by omega)) ?_; refine Qb [_] gn rfl rfl hf rfl (C.mono (hc _ S.e0 _) ?_); rintro v g ⟨rfl, x⟩; have S := S.grow x; refine ⟨ag0, ?_⟩; refine ZT gn rfl rfl ?_; refine Q5 ?_; refine Qa rfl (fun hb => ?_) fun hb => ?_
    · skip
      refine Qd ?_; refine Q3 gn rfl rfl ?_; refine Q5 ?_; refine Qc ?_; refine ⟨.inl rfl, _, rfl, ?_⟩
      exact ⟨by
        rw [show Q0Q F s N kinds = false from ?_]; rfl
        have : Qx F.kids kinds = false := by
          cases he : Qx F.kids kinds with
          | false => rfl
          | true => rw [(Jz.1 he).2 i hi (by omega)] at hb; simp at hb
        rw [Q0Q, this]; simp, S.e0⟩
    refine Qe ?_; refine Q8 (by kernel_rfl) ?_; refine QO gn rfl rfl rfl (by omega) (by omega) ?_; refine Q4 gn rfl rfl ?_; refine Q5 ?_
    exact Kc (F.kids.length - (i + 1)) (by omega) [(56, _)] (by repeat (first | exact trivial | refine ⟨rfl, ?_⟩)) ⟨i + 1, rfl, rfl, by omega, S, fun p h1 h2 hp => by
      by_cases e : p = i
      · subst e; rw [Bool.not_eq_false'] at hb; exact hb
      exact hs p h1 h2 (by omega)⟩
  refine QZ ?_; refine Qt ?_; refine Qu ?_; refine QY ?_; refine Qj ?_; have hii : i = F.kids.length := by simp at hb; omega
  subst hii; have hea : Qx F.kids kinds = true := Jz.2 ⟨hkl, fun p h1 h2 => hs p h1 h2 h1⟩; have hfit : Q0Q F s N kinds = YX F (kinds.drop F.kids.length) := by rw [Q0Q, hd, hea, Bool.true_and, Bool.true_and]
  obtain ⟨rv, hrv, hrow⟩ := QaV el58 (R.ext S.e0) hkl; rw [← List.map_drop] at hrow; generalize hrr : kinds.drop F.kids.length = rr at hrow hfit; have hrl : rr.length < 1000000 := by rw [← hrr, List.length_drop]; omega
  obtain ⟨qa, qc, rfl⟩ := hrow.valM; refine Q8 (by kernel_rfl) ?_; refine Q4 gn rfl rfl ?_; refine Q0 (off := 3) gn rfl rfl (by kernel_rfl) ?_; refine Q6 gn rfl rfl (by kernel_rfl) (S.cel 1 rfl) rfl ?_; refine QI gn rfl rfl (by kernel_rfl) ?_; refine Q3D gn rfl rfl rfl hrv ?_; refine Q3 gn rfl rfl ?_; refine Q5 ?_; refine Qj ?_; refine Qg ?_; refine Qd ?_; refine Q0 (off := 5) gn rfl rfl (by kernel_rfl) ?_; refine Q6 gn rfl rfl (by kernel_rfl) (S.cel 1 rfl) rfl ?_; refine Q9g gn rfl rfl rfl (by kernel_rfl) nf4 ?_; refine Q3 gn rfl rfl ?_; refine Q5 ?_; refine Qa rfl (fun hb => ?_) fun hb => ?_
  · skip
    refine Qj ?_; obtain ⟨P0, hP⟩ := Q3F nn4 hb; rw [hP] at x4; refine Q8 (by kernel_rfl) ?_; refine Q4 gn rfl rfl ?_; refine KH gn rfl rfl ?_; refine Qb [_, _] gn rfl rfl (by kernel_rfl) rfl (C.mono (c58 hrow hrl (S.cel 1 rfl) (S.lt1 1 rfl) (PrK.ext x4 S.e0)) ?_); rintro v g ⟨rfl, x⟩; have S := S.grow x; refine ⟨ag0, ?_⟩; refine ZT gn rfl rfl ?_; refine Q3 gn rfl rfl ?_; refine Q5 ?_; refine Qc ?_; refine ⟨.inl rfl, _, rfl, ?_⟩; exact ⟨by rw [hfit, Q96 hP, Bool.not_not]; rfl, S.e0⟩
  refine Qj ?_; have hmo := Q6c nn4 hb; refine Q8 (by kernel_rfl) ?_; refine Q0 (off := 4) gn rfl rfl (by kernel_rfl) ?_; refine Q6 gn rfl rfl (by kernel_rfl) (S.cel 1 rfl) rfl ?_; refine Q9g gn rfl rfl rfl (by kernel_rfl) nf3 ?_; refine Q4 gn rfl rfl ?_
  refine ZU (n := 3) rfl rfl rfl gn rfl (fun hb => by
      refine Q4 (gy rfl rfl rfl hb) rfl rfl ?_; refine QI (gy rfl rfl rfl hb) rfl rfl (by kernel_rfl) ?_; refine Qq (gy rfl rfl rfl hb) rfl rfl rfl ?_
      exact Q5 ⟨rfl, rfl, 3, rfl, rfl⟩) ?_
  refine Q3 gn rfl rfl ?_; refine Q5 ?_; refine Qa rfl (fun hb => ?_) fun hb => ?_
  · skip
    refine Qj ?_; rw [Bool.and_eq_true, decide_eq_true_eq] at hb; obtain ⟨P0, hP⟩ := Q3F nn3 hb.1; rw [hP] at x3; obtain ⟨f, cap, hfu, hf, hc⟩ := x3; subst hfu
    obtain ⟨k1, rfl⟩ : ∃ k, rr = [k] := by
      match rr, hb.2 with
      | [k], _ => exact ⟨k, rfl⟩
      | [], h => simp at h
      | _ :: _ :: _, h => simp at h; omega
    obtain ⟨kb, ko, kc', kcs, ke, km, hv2, hg2, hlt2, hat2⟩ := hrow.atM (by simp); cases hv2; refine Z3 [(0, []), (1, []), (2, []), (3, []), (4, []), (5, []), (6, [])] (by kernel_rfl) (by kernel_rfl) (by kernel_rfl) (by kernel_rfl) ?_; refine Q0 (off := 4) gn rfl rfl (by kernel_rfl) ?_; refine Q6 gn rfl rfl (by kernel_rfl) (S.cel 1 rfl) rfl ?_; refine Q4 gn rfl rfl ?_; refine Q7 (zz := 1) gn rfl rfl rfl (by kernel_rfl) (by omega) (by omega) ?_; refine Q6 gn rfl rfl (by kernel_rfl) hg2 (hat2 0 (by simp)) ?_; refine Qb [_] gn rfl rfl hf rfl (C.mono (hc _ S.e0 _) ?_); rintro v g ⟨rfl, x⟩; have S := S.grow x; refine ⟨ag0, ?_⟩; refine Q3 gn rfl rfl ?_; refine Q5 ?_; refine Qc ?_
    refine ⟨.inl rfl, _, rfl, ?_⟩; exact ⟨by rw [hfit, Qb6 hmo hP]; rfl, S.e0⟩
  refine Qe ?_; refine Qd ?_; refine Q4 gn rfl rfl ?_; refine QI gn rfl rfl (by kernel_rfl) ?_; refine Qq gn rfl rfl rfl ?_; refine Q3 gn rfl rfl ?_; refine Q5 ?_; refine Qc ?_; refine ⟨.inl rfl, _, rfl, ?_⟩
  exact ⟨by
    have h2 : F.maybe = none ∨ rr.length ≠ 1 := by
      rcases Bool.and_eq_false_iff.1 hb with e | e
      · exact .inl (Q6c nn3 e)
      exact .inr (by simp at e; omega)
    rw [hfit, Qb7 hmo h2, show decide (rr.length = 0) = decide ((rr.length : Int) = 0) from decide_eq_decide.2 (by omega)]; rfl, S.e0⟩
end
end Go.Proofs.YtkidomfnmpnmaaaGreatDoor
namespace Go.Proofs.YtkidomfnmpnmaaaGreatDoor
open Go.X
structure Tw where
  K : Int
  s : ByteArray
  N : Int
  L : Int
  C : Int
  ks : Value
  kids : List Int
abbrev Tw.cells (w : Tw) : List Value := twC w.K w.s w.N w.L w.C w.ks
abbrev Tw.val (w : Tw) : Value := twV w.K w.s w.N w.L w.C w.ks
def TreeAt (h : Hp) (sv : Value) (T : List Tw) : Prop := ((T = [] ∧ ∃ a c, sv = .slice a 0 c) ∨ ∃ b o c cs e m, sv = .slice (some ⟨b, o, none⟩) T.length c ∧ h.get b = some (.cells cs e m) ∧ b < h.n ∧ o + T.length * 6 ≤ cs.length ∧ ∀ i (hi : i < T.length), (cs.drop (o + i * 6)).take 6 = T[i].cells) ∧ ∀ t, t ∈ T → RowV h t.ks (isV t.kids)
theorem TreeAt.ext {h h' : Hp} {sv : Value} {T : List Tw} (x : TreeAt h sv T) (g : Ext h h') : TreeAt h' sv T := by
  refine ⟨?_, fun t ht => (x.2 t ht).ext g⟩; rcases x.1 with x | ⟨b, o, c, cs, e, m, h1, h2, h3, h4⟩
  · exact .inl x
  exact .inr ⟨b, o, c, cs, e, m, h1, (g.get b h3).trans h2, Nat.lt_of_lt_of_le h3 g.n, h4⟩
theorem TreeAt.val {h : Hp} {sv : Value} {T : List Tw} (x : TreeAt h sv T) : ∃ a c, sv = .slice a T.length c := by
  rcases x.1 with ⟨rfl, a, c, h1⟩ | ⟨b, o, c, cs, e, m, h1, _⟩
  · exact ⟨a, c, h1⟩
  exact ⟨_, c, h1⟩
theorem TreeAt.at {h : Hp} {sv : Value} {T : List Tw} (x : TreeAt h sv T) {i : Nat} (hi : i < T.length) : ∃ b o c cs e m, sv = .slice (some ⟨b, o, none⟩) T.length c ∧ h.get b = some (.cells cs e m) ∧ b < h.n ∧ o + T.length * 6 ≤ cs.length ∧ ∀ i (hi : i < T.length), (cs.drop (o + i * 6)).take 6 = T[i].cells := by
  rcases x.1 with ⟨rfl, _⟩ | x
  · simp at hi
  exact x
theorem RowV.same {h : Hp} {v : Value} {xs : List Value} (x : RowV h v xs) : sameV 19 v v = true := by
  obtain ⟨a, c, rfl⟩ := x.val; cases a <;> simp [sameV]
theorem RowV.cellV {h : Hp} {v : Value} {xs : List Value} (x : RowV h v xs) : Go.X.cellV v = true := by
  obtain ⟨a, c, rfl⟩ := x.val; rfl
def Z8 (T : List Tw) (l : List Int) : List Int := l.map fun k => ((T[k.toNat]?).map Tw.K).getD 0
def YB (rec : Nat → Int → Option Nat) (T : List Tw) (w : Tw) (nest : Int) : List Int → Nat → Nat → Option Nat
  | [], _, next => some next
  | k :: ks, i, next => if k = (next : Int) then (match T[next]? with
    | some kid => (match rec next (nest + Kv w.K w.s i kid.K kid.s) with
      | some n => YB rec T w nest ks (i + 1) n
      | none => none)
    | none => none) else none
def Ql (K : Int) (s : ByteArray) (N : Int) (kinds : List Int) : Bool := match YP formT K with
  | some F => Q0Q F s N kinds
  | none => false
def Qed (ok : Bool) : Option Nat → Option Nat
  | some n => if ok = true then some n else none
  | none => none
theorem same1 (a : Option Addr) (n c : Nat) : sameV 20 (.agg #[.slice a n c]) (.agg #[.slice a n c]) = true := by
  cases a <;> simp [sameV, sameV.sameL]
def ZG (T : List Tw) : Nat → Nat → Int → Option Nat
  | 0, _, _ => none
  | f + 1, at', nest => match T[at']? with
    | some w => if 64 < nest then none else Qed (Ql w.K w.s w.N (Z8 T w.kids)) (YB (ZG T f) T w nest w.kids 0 (at' + 1))
    | none => none
def enc (o : Option Nat) : Int := match o with
  | some n => n
  | none => -1
theorem Q79 {rec : Nat → Int → Option Nat} {T : List Tw} {w : Tw} {nest : Int} (hr : ∀ at' nest n, rec at' nest = some n → at' < n ∧ n ≤ T.length) : ∀ {l : List Int} {i next n : Nat}, next ≤ T.length → YB rec T w nest l i next = some n → next ≤ n ∧ n ≤ T.length
  | [], _, next, n, hn, e => by simp [YB] at e; omega
  | k :: l, i, next, n, hn, e => by
    simp only [YB] at e
    split at e
    · split at e
      · split at e
        · rename_i q hq; have := hr _ _ _ hq; have := Q79 hr (by omega) e; omega
        cases e
      cases e
    cases e
theorem Q1r {T : List Tw} : ∀ {f at' : Nat} {nest : Int} {n : Nat}, ZG T f at' nest = some n → at' < n ∧ n ≤ T.length
  | 0, _, _, _, e => by simp [ZG] at e
  | f + 1, at', nest, n, e => by
    simp only [ZG] at e
    split at e
    · rename_i w hw; have hlt := (List.getElem?_eq_some_iff.1 hw).1
      split at e
      · cases e
      cases hq : YB (ZG T f) T w nest w.kids 0 (at' + 1) with
      | none => rw [hq] at e; cases e
      | some q =>
        rw [hq] at e; simp only [Qed] at e
        split at e
        · cases e; have := Q79 (fun _ _ _ h => Q1r (f := f) h) (by omega) hq; omega
        cases e
    cases e
theorem Q36 (b : Bool) : 0 ≤ b2i b ∧ b2i b ≤ 1 := by cases b <;> simp [b2i]
theorem Q7h (K : Int) (s : ByteArray) (i K' : Int) (s' : ByteArray) : 0 ≤ Kv K s i K' s' ∧ Kv K s i K' s' ≤ 4 := by
  unfold Kv; have := Q36 (decide (K' = 12)); have := Q36 (Ko K s i K' s'); have := Q36 (decide (K = 31) && decide (i = 1)); have := Q36 (decide (K = 34) || decide (K = 35)); omega
theorem Q4f {T : List Tw} {f at' : Nat} {nest : Int} (h : (decide ((T.length : Int) ≤ at') || decide (64 < nest)) = true) : ZG T (f + 1) at' nest = none := by
  simp only [Bool.or_eq_true, decide_eq_true_eq] at h; simp only [ZG]; rcases h with h | h
  · rw [List.getElem?_eq_none (by omega)]
  cases T[at']? with
  | none => rfl
  | some w => simp [h]
theorem Q9E {rec : Nat → Int → Option Nat} {T : List Tw} {w : Tw} {nest k : Int} {l : List Int} {i next : Nat} (h : (!decide (k = (next : Int)) || decide ((T.length : Int) ≤ k)) = true) : YB rec T w nest (k :: l) i next = none := by
  simp only [YB]
  split
  · rename_i e; subst e; simp at h; rw [List.getElem?_eq_none (by omega)]
  rfl
theorem key43 : KeyT nmE 79 39 111 (fun k : Int => Value.int .i64 k) := KeyT.int (by kernel_rfl) (by kernel_rfl)
theorem Q9V {h : Hp} {M : MsK Int} {K : Int} (x : Fits2 h M formT) : ∃ ft a1 a2 k3 fm fo, (Q0e M K).getD (.agg #[.nilFunc, .int .i64 0, .int .i64 0, .slice none 0 0, .nilFunc, .nilFunc]) = .agg #[ft, iV a1, iV a2, k3, fm, fo] ∧ [ft, iV a1, iV a2, k3, fm, fo].all cellV = true ∧
    ((YP formT K = none ∧ (Q0e M K).isSome = false) ∨ ∃ F, YP formT K = some F ∧ (Q0e M K).isSome = true ∧ FormV h (.agg #[ft, iV a1, iV a2, k3, fm, fo]) F) := by
  have hx := Fits2.get (K := K) 0 x; unfold Q0e; cases hf : YP formT K with
  | none =>
    rw [hf] at hx; rw [hx]; exact ⟨_, _, _, _, _, _, rfl, rfl, .inl ⟨rfl, rfl⟩⟩
  | some F =>
    rw [hf] at hx; obtain ⟨v, h1, h2⟩ := hx; rw [h1]; have h3 := h2; obtain ⟨ft, ks, fm, fo, rfl, x1, x2, x3, x4⟩ := h3; refine ⟨ft, F.least, F.most, ks, fm, fo, rfl, ?_, .inr ⟨F, rfl, rfl, h2⟩⟩; obtain ⟨ra, rfl⟩ := x2.val; have e1 : cellV ft = true := by rcases x1.nf.1 with rfl | ⟨_, _, _, rfl⟩ <;> rfl
    have e2 : cellV fm = true := by rcases x3.nf.1 with rfl | ⟨_, _, _, rfl⟩ <;> rfl
    have e3 : cellV fo = true := by rcases x4.nf.1 with rfl | ⟨_, _, _, rfl⟩ <;> rfl
    simp [e1, e2, e3]; exact ⟨rfl, rfl, rfl⟩
section
variable {h : Hp} {sv : Value} {T : List Tw} {r : Nat}
theorem c24 (B : Blk h) (X : TreeAt h sv T) (hT : T.length ≤ 1000) (hs : ∀ t, t ∈ T → t.s.toList.length ≤ 100) (hF : Forms h r) : ∀ (f : Nat) (at' : Nat) (nest : Int) (g : Hp), Ext h g → T.length - at' < f → at' ≤ 1000 → 0 ≤ nest → nest ≤ 1000 →
    C nmE 34 [.agg #[sv], iV at', iV nest, .map (some r)] g fun v g' => v = iV (enc (ZG T f at' nest)) ∧ Ext g g' := by
  obtain ⟨ta, tc, rfl⟩ := X.val; intro f
  induction f with
  | zero => intro at' nest g _ hf; omega
  | succ f ih =>
  intro at' nest h2 x2 hf hat0 hn0 hn1; have B2 := B.ext x2; have X2 := X.ext x2; have F2 := hF.ext x2; refine Qf (fu := Tryz.f34) (by kernel_rfl) rfl ?_; have S := SH.start h2; refine Qd ?_; refine Yh S gn rfl rfl fun b1 g nb1 S => ?_; refine Q3 gn rfl rfl ?_; refine Kz ?_; refine Q4 gn rfl rfl ?_; refine Q0 (off := 0) gn rfl rfl (by kernel_rfl) ?_; refine Q6 gn rfl rfl (by kernel_rfl) (by first | exact S.cel 0 rfl | exact S.cel 1 rfl | exact S.cel 2 rfl | exact S.old0 hM lr) rfl ?_; refine QI gn rfl rfl (by kernel_rfl) ?_; refine Y5 gn rfl rfl rfl ?_; refine Q4 gn rfl rfl ?_
  refine Yo (n := 2) rfl rfl rfl gn rfl (fun hb => by
      refine Q4 (gy rfl rfl rfl hb) rfl rfl ?_; refine JB (gy rfl rfl rfl hb) rfl rfl rfl ?_
      exact Q5 ⟨rfl, rfl, 2, rfl, rfl⟩) ?_
  refine Q5 ?_; refine Qa rfl (fun hb => ?_) fun hb => ?_
  · skip
    refine Qd ?_; refine Q3 gn rfl rfl ?_; refine Q5 ?_; refine Qc ?_; refine ⟨.inl rfl, _, rfl, ?_⟩; exact ⟨by rw [Q4f hb]; rfl, S.e0⟩
  refine Qe ?_
  obtain ⟨hlt, hne⟩ : at' < T.length ∧ ¬ 64 < nest := by
    simp only [Bool.or_eq_false_iff, decide_eq_false_iff_not] at hb; exact ⟨by omega, hb.2⟩
  obtain ⟨b, o, c, cs, e, m, hv, hg, hlb, hl6, hat⟩ := X2.at hlt; have hta : ta = some ⟨b, o, none⟩ := by injection hv
  have hw := hat at' hlt; have hm := X2.2 _ (List.getElem_mem hlt); have hq : T[at']? = some T[at'] := List.getElem?_eq_getElem hlt; have hsz := hs _ (List.getElem_mem hlt); generalize T[at'] = w at hw hm hq hsz; obtain ⟨K, s, N, L, Co, ks, kids⟩ := w; simp only at hm hsz; obtain ⟨ka, kc, rfl⟩ := hm.valM; have hw2 : (cs.drop (o + Int.toNat (at' : Int) * 6)).take 6 = [iV K, .string s, iV N, iV L, iV Co, .slice ka kids.length kc] := by rw [Int.toNat_natCast]; exact hw
  obtain ⟨R0, hR0⟩ : ∃ R, R = YB (ZG T f) T ⟨K, s, N, L, Co, .slice ka kids.length kc, kids⟩ nest kids 0 (at' + 1) := ⟨_, rfl⟩
  have hWalk : ZG T (f + 1) at' nest = Qed (Ql K s N (Z8 T kids)) R0 := by
    simp only [ZG, hq, if_neg hne, ← hR0]
  refine Qd ?_; refine Q0 (off := 0) gn rfl rfl (by kernel_rfl) ?_; refine Q6 gn rfl rfl (by kernel_rfl) (by first | exact S.cel 0 rfl | exact S.cel 1 rfl | exact S.cel 2 rfl | exact S.old0 hM lr) rfl ?_; refine Q4 gn rfl rfl ?_; rw [hta]; refine Q7 (zz := 6) gn rfl rfl rfl (by kernel_rfl) (by omega) (by omega) ?_; refine Qs (n := 6) gn rfl rfl (by kernel_rfl) (by kernel_rfl) (S.old0 hg hlb) (by rw [Int.toNat_natCast]; omega) ?_; rw [hw2, ← hta]; refine Zz (zv := .agg #[.int .i64 0, .string .empty, .int .i64 0, .int .i64 0, .int .i64 0, .slice none 0 0]) S gn rfl (by kernel_rfl) fun b2 g nb2 S => ?_
  refine QV (n := 6) 0 S gn rfl rfl (by kernel_rfl) (by kernel_rfl) rfl rfl (by decide) rfl (fun g S => ag0) fun g S => ?_; refine Zw ?_; refine Q4 gn rfl rfl ?_; refine QO gn rfl rfl rfl (by omega) (by omega) ?_; refine Q3 gn rfl rfl ?_; refine Zw ?_; refine Q3 gn rfl rfl ?_; refine Kz ?_; refine Q0 (off := 5) gn rfl rfl (by kernel_rfl) ?_; refine Q6 gn rfl rfl (by kernel_rfl) (by first | exact S.cel 0 rfl | exact S.cel 1 rfl | exact S.cel 2 rfl | exact S.cel 3 rfl | exact S.old0 hM lr) rfl ?_; refine QI gn rfl rfl (by kernel_rfl) ?_; refine Q4 gn rfl rfl ?_; refine Q5 ?_; refine Qg ?_
  refine QH [(10, _), (11, _), (36, _)] [(2, _), (3, _), (4, _), (9, _), (34, _), (35, _)] (by repeat (first | exact trivial | refine ⟨rfl, ?_⟩)) (fun kk lv hh => ∃ (i next : Nat) (kv : Value) (bs : List Nat), lv = [(10, iV next), (11, kv), (36, iV i)] ∧ kk = kids.length - i ∧ i ≤ kids.length ∧ SH h2 [] [slR 39 0 kv (isV (Z8 T (kids.take i))) i bs, cR b2 (.cells (twC K s N L Co (.slice ka kids.length kc)) 41 0), cR b1 (.cells [.slice ta T.length tc] 24 0)] hh ∧ at' + 1 + i ≤ next ∧ next ≤ T.length ∧ YB (ZG T f) T ⟨K, s, N, L, Co, .slice ka kids.length kc, kids⟩ nest (kids.drop i) i next = R0) (n := (kids.length)) ?_ fun kk lv hh hI => ?_
  · exact ⟨0, at' + 1, .slice none 0 0, [], rfl, rfl, by omega, S.nilSl 39 0, by omega, by omega, by rw [List.drop_zero, hR0]⟩
  obtain ⟨i, next, kv, bs, rfl, hk, hi, S, hnx, hnl, hR⟩ := hI; refine Qd ?_; refine Z9 gn rfl rfl rfl ?_; refine Q5 ?_; refine Qj ?_; refine Qa rfl (fun hb => ?_) fun hb => ?_
  · skip
    refine Qe ?_; have hi : i < kids.length := by simp at hb; omega
    obtain ⟨kb, ko, kc', kcs, ke, km, hv2, hg2, hlt2, hat2⟩ := hm.atM (by omega); have hka : ka = some ⟨kb, ko, none⟩ := by injection hv2
    rw [List.drop_eq_getElem_cons hi] at hR; refine Qj ?_; refine Qg ?_; refine Qd ?_; refine Q4 gn rfl rfl ?_; rw [hka]; refine Q7 (zz := 1) gn rfl rfl rfl (by kernel_rfl) (by omega) (by omega) ?_; rw [← hka]; refine Q6 gn rfl rfl (by kernel_rfl) (S.old0 hg2 hlt2) (by rw [Int.toNat_natCast, Nat.mul_one]; exact hat2 i hi) ?_; refine Q3 gn rfl rfl ?_; refine Q3 gn rfl rfl ?_; refine Kz ?_; refine Q4 gn rfl rfl ?_; refine Q4 gn rfl rfl ?_; refine Q60 gn rfl rfl rfl ?_; refine Q4 gn rfl rfl ?_
    refine Yo (n := 5) rfl rfl rfl gn rfl (fun hb => by
        refine Q4 (gy rfl rfl rfl hb) rfl rfl ?_; refine Q0 (off := 0) (gy rfl rfl rfl hb) rfl rfl (by kernel_rfl) ?_; refine Q6 (gy rfl rfl rfl hb) rfl rfl (by kernel_rfl) (by first | exact S.cel 0 rfl | exact S.cel 1 rfl | exact S.cel 2 rfl | exact S.cel 3 rfl | exact S.old0 hM lr) rfl ?_; refine QI (gy rfl rfl rfl hb) rfl rfl (by kernel_rfl) ?_; refine Y5 (gy rfl rfl rfl hb) rfl rfl rfl ?_
        exact Q5 ⟨rfl, rfl, 5, rfl, rfl⟩) ?_
    refine Q5 ?_; refine Qa rfl (fun hb => ?_) fun hb => ?_
    · skip
      refine Qd ?_; refine Q3 gn rfl rfl ?_; refine Q5 ?_; refine Qc ?_; refine ⟨.inl rfl, _, rfl, ?_⟩; exact ⟨by rw [hWalk, ← hR, Q9E hb]; rfl, S.e0⟩
    refine Qe ?_
    obtain ⟨hkn, hnl2⟩ : kids[i] = (next : Int) ∧ next < T.length := by
      simp at hb; omega
    rw [hkn]; have hw3 := hat next hnl2; have hm3 := X2.2 _ (List.getElem_mem hnl2); have hq3 : T[next]? = some T[next] := List.getElem?_eq_getElem hnl2; generalize T[next] = w3 at hw3 hm3 hq3; obtain ⟨K3, s3, N3, L3, C3, ks3, kids3⟩ := w3; simp only at hm3; obtain ⟨ka3, kc3, rfl⟩ := hm3.valM; have hw4 : (cs.drop (o + Int.toNat (next : Int) * 6)).take 6 = [iV K3, .string s3, iV N3, iV L3, iV C3, .slice ka3 kids3.length kc3] := by rw [Int.toNat_natCast]; exact hw3
    have hdl := Q7h K s i K3 s3; rw [hkn] at hR; simp only [YB, if_true, hq3] at hR; refine Qd ?_; refine Q0 (off := 0) gn rfl rfl (by kernel_rfl) ?_; refine Q6 gn rfl rfl (by kernel_rfl) (by first | exact S.cel 0 rfl | exact S.cel 1 rfl | exact S.cel 2 rfl | exact S.cel 3 rfl | exact S.old0 hM lr) rfl ?_; refine Q4 gn rfl rfl ?_; rw [hta]; refine Q7 (zz := 6) gn rfl rfl rfl (by kernel_rfl) (by omega) (by omega) ?_; refine Qs (n := 6) gn rfl rfl (by kernel_rfl) (by kernel_rfl) (S.old0 hg hlb) (by rw [Int.toNat_natCast]; omega) ?_; rw [hw4, ← hta]
    refine Zz (zv := .agg #[.int .i64 0, .string .empty, .int .i64 0, .int .i64 0, .int .i64 0, .slice none 0 0]) S gn rfl (by kernel_rfl) fun b3 g nb3 S => ?_; refine QV (n := 6) 0 S gn rfl rfl (by kernel_rfl) (by kernel_rfl) rfl rfl (by decide) rfl (fun g S => ag0) fun g S => ?_; refine Zw ?_; refine Q4 gn rfl rfl ?_; refine Q0 (off := 0) gn rfl rfl (by kernel_rfl) ?_; refine Q6 gn rfl rfl (by kernel_rfl) (by first | exact S.cel 0 rfl | exact S.cel 1 rfl | exact S.cel 2 rfl | exact S.cel 3 rfl | exact S.cel 4 rfl | exact S.old0 hM lr) rfl ?_
    refine Qn (cs := #[iV K3]) (e := 39) (z := 0) (zv := .int .i64 0) [(0, _)] S gn rfl (by kernel_rfl) (by kernel_rfl) (by kernel_rfl) (by kernel_rfl) rfl (by kernel_rfl) fun b4 g nb4 S => ?_; refine KC (e := 39) (z := 0) (by' := 7) 2 0 S el58 gn rfl rfl rfl rfl rfl rfl (by rfl) (by omega) (fun s' bs' g S => ag0) fun s' bs' g S => ?_; refine Q3 gn rfl rfl ?_; refine Q5 ?_; refine Qj ?_; refine Z3 [(0, []), (1, []), (2, []), (3, []), (4, []), (5, []), (8, []), (6, [0]), (7, []), (9, []), (10, [])] (by kernel_rfl) (by kernel_rfl) (by kernel_rfl) (by kernel_rfl) ?_
    refine Qs (n := 1) gn rfl rfl (by kernel_rfl) (by kernel_rfl) (by first | exact S.cel 0 rfl | exact S.cel 1 rfl | exact S.cel 2 rfl | exact S.cel 3 rfl | exact S.cel 4 rfl | exact S.cel 5 rfl | exact S.old0 hM lr) (Nat.le_refl _) ?_; refine Q4 gn rfl rfl ?_; refine Q4 gn rfl rfl ?_; refine Qs (n := 6) gn rfl rfl (by kernel_rfl) (by kernel_rfl) (by first | exact S.cel 0 rfl | exact S.cel 1 rfl | exact S.cel 2 rfl | exact S.cel 3 rfl | exact S.cel 4 rfl | exact S.cel 5 rfl | exact S.old0 hM lr) (Nat.le_refl _) ?_; refine Q4 gn rfl rfl ?_
    refine Qs (n := 6) gn rfl rfl (by kernel_rfl) (by kernel_rfl) (by first | exact S.cel 0 rfl | exact S.cel 1 rfl | exact S.cel 2 rfl | exact S.cel 3 rfl | exact S.cel 4 rfl | exact S.cel 5 rfl | exact S.old0 hM lr) (Nat.le_refl _) ?_; refine Q4 gn rfl rfl ?_; refine Qb [_, _, _] gn rfl rfl (by kernel_rfl) rfl (C.mono (c33 (RowV.same hm) (RowV.same hm3) (by omega) (by omega)) ?_); rintro v g ⟨rfl, x⟩; have S := S.grow x; refine ⟨(ag1 (JA (n := 1) gn rfl (by kernel_rfl) (by kernel_rfl) (by first | exact S.cel 0 rfl | exact S.cel 1 rfl | exact S.cel 2 rfl | exact S.cel 3 rfl | exact S.cel 4 rfl | exact S.cel 5 rfl | exact S.old0 hM lr) (Nat.le_refl _) rfl (same1 _ _ _)) ag0), ?_⟩
    refine QO gn rfl rfl rfl (by omega) (by omega) ?_; refine Qb [_, _, _, _] gn rfl rfl (by kernel_rfl) rfl (C.mono (ih next (nest + Kv K s i K3 s3) _ (x2.trans S.e0) (by omega) (by omega) (by omega) (by omega)) ?_); rintro v g ⟨rfl, x⟩; have S := S.grow x; refine ⟨ag0, ?_⟩; refine Q3 gn rfl rfl ?_; refine Zw ?_; refine Q4 gn rfl rfl ?_; refine Z9 gn rfl rfl rfl ?_; refine Q5 ?_; refine Qa rfl (fun hb => ?_) fun hb => ?_
    · skip
      refine Qd ?_; refine Q3 gn rfl rfl ?_; refine Q5 ?_; refine Qc ?_; refine ⟨.inl rfl, _, rfl, ?_⟩
      exact ⟨by
        cases hx : ZG T f next (nest + Kv K s i K3 s3) with
        | none => rw [hx] at hR; rw [hWalk, ← hR]; rfl
        | some n => rw [hx] at hb; exact absurd (of_decide_eq_true hb) (show ¬ ((n : Int) < 0) by omega), S.e0⟩
    refine Qe ?_
    obtain ⟨n3, hn3⟩ : ∃ n, ZG T f next (nest + Kv K s i K3 s3) = some n := by
      cases hx : ZG T f next (nest + Kv K s i K3 s3) with
      | none => rw [hx] at hb; exact absurd hb (by decide)
      | some n => exact ⟨n, rfl⟩
    have hn4 := Q1r hn3; rw [hn3]; rw [hn3] at hR
    have hkinds : isV (Z8 T (kids.take (i + 1))) = isV (Z8 T (kids.take i)) ++ [iV K3] := by
      rw [List.take_add_one, List.getElem?_eq_getElem hi, hkn]; simp [Z8, hq3]
    refine Q8 (by kernel_rfl) ?_; refine QO gn rfl rfl rfl (by omega) (by omega) ?_; refine Q4 gn rfl rfl ?_; refine Q5 ?_; exact Kc (kids.length - (i + 1)) (by omega) [(10, _), (11, _), (36, _)] (by repeat (first | exact trivial | refine ⟨rfl, ?_⟩)) ⟨i + 1, n3, s', bs', rfl, rfl, by omega, by rw [hkinds]; exact S.drop.drop, by omega, by omega, hR⟩
  refine QZ ?_; refine Qt ?_; refine Qu ?_; refine QY ?_; refine Qj ?_; have hii : i = kids.length := by simp at hb; omega
  subst hii; rw [List.drop_length] at hR; have hR1 : R0 = some next := hR.symm; rw [hR1] at hWalk; obtain ⟨M, cl, hM, lr, hfit⟩ := F2; obtain ⟨ft, a1, a2, k3, fm, fo, hu, hcv, hcase⟩ := Q9V (K := K) hfit; refine Q8 (by kernel_rfl) ?_; refine Q4 gn rfl rfl ?_; refine Q0 (off := 0) gn rfl rfl (by kernel_rfl) ?_; refine Q6 gn rfl rfl (by kernel_rfl) (by first | exact S.cel 0 rfl | exact S.cel 1 rfl | exact S.cel 2 rfl | exact S.cel 3 rfl | exact S.old0 hM lr) rfl ?_
  refine YI (zv := .agg #[.nilFunc, .int .i64 0, .int .i64 0, .slice none 0 0, .nilFunc, .nilFunc]) key43 gn rfl rfl rfl (by first | exact S.cel 0 rfl | exact S.cel 1 rfl | exact S.cel 2 rfl | exact S.cel 3 rfl | exact S.old0 hM lr) (by kernel_rfl) ?_; rw [hu]; refine Q4 gn rfl rfl ?_; refine Zu gn rfl rfl rfl ?_; refine Zu gn rfl rfl rfl ?_; refine Zz (zv := .agg #[.nilFunc, .int .i64 0, .int .i64 0, .slice none 0 0, .nilFunc, .nilFunc]) S gn rfl (by kernel_rfl) fun b5 g nb5 S => ?_; refine QV (n := 6) 0 S gn rfl rfl hcv (by kernel_rfl) rfl rfl (by decide) rfl (fun g S => ag0) fun g S => ?_; refine Q3 gn rfl rfl ?_; refine Kz ?_; refine Q4 gn rfl rfl ?_; refine ZT gn rfl rfl ?_
  refine Q4 gn rfl rfl ?_; refine QM (dc := 83) rfl (fun hb83 => ?_) fun hb83 => ?_
  · skip
    refine QU (n := 5) (dc := 83) (w := false) rfl hb83 rfl ?_; refine Zd gn rfl rfl hb83 rfl ?_; refine Q5 ?_; refine Qa rfl (fun hb => ?_) fun hb => ?_
    · skip
      refine Qd ?_; refine Q3 gn rfl rfl ?_; refine Q5 ?_; refine Qc ?_; refine ⟨.inl rfl, _, rfl, ?_⟩; refine ⟨?_, S.e0⟩; rcases hcase with ⟨h1, h2⟩ | ⟨F, h1, h2, h3⟩
      · rw [hWalk, Ql, h1]; rfl
      rw [h2] at hb83; cases hb83
    exact absurd hb (by decide)
  obtain ⟨F, hfo, hfv⟩ : ∃ F, YP formT K = some F ∧ FormV h2 (.agg #[ft, iV a1, iV a2, k3, fm, fo]) F := by
    rcases hcase with ⟨h1, h2⟩ | ⟨F, h1, h2, h3⟩
    · rw [h2] at hb83; cases hb83
    exact ⟨F, h1, h3⟩
  have hkl : (Z8 T kids).length = kids.length := by simp [Z8]
  have hsl : SlC 39 0 g kv (isV (Z8 T kids)) (Z8 T kids).length bs := by
    have := S.sl 1 rfl; rw [List.take_length] at this; rw [hkl]; exact this
  refine Qs (n := 6) (gy rfl rfl rfl hb83) rfl rfl (by kernel_rfl) (by kernel_rfl) (by first | exact S.cel 0 rfl | exact S.cel 1 rfl | exact S.cel 2 rfl | exact S.cel 3 rfl | exact S.cel 4 rfl | exact S.old0 hM lr) (Nat.le_refl _) ?_; refine Qs (n := 6) (gy rfl rfl rfl hb83) rfl rfl (by kernel_rfl) (by kernel_rfl) (by first | exact S.cel 0 rfl | exact S.cel 1 rfl | exact S.cel 2 rfl | exact S.cel 3 rfl | exact S.cel 4 rfl | exact S.old0 hM lr) (Nat.le_refl _) ?_; refine Q4 (gy rfl rfl rfl hb83) rfl rfl ?_; refine Qb [_, _, _] (gy rfl rfl rfl hb83) rfl rfl (by kernel_rfl) rfl (C.mono (c34 (B2.ext S.e0) (by omega) (hfv.ext S.e0) hsl (by omega)) ?_); rintro v g ⟨rfl, x⟩; have S := S.grow x
  refine ⟨ag0, ?_⟩; refine ZT (gy rfl rfl rfl hb83) rfl rfl ?_; refine Z2 gn rfl rfl hb83 rfl ?_; refine Q5 ?_; refine Qa rfl (fun hb => ?_) fun hb => ?_
  · skip
    refine Qd ?_; refine Q3 gn rfl rfl ?_; refine Q5 ?_; refine Qc ?_; refine ⟨.inl rfl, _, rfl, ?_⟩; exact ⟨by rw [hWalk, Ql, hfo]; rw [Bool.not_eq_true'] at hb; simp only [hb]; rfl, S.e0⟩
  refine Qe ?_; refine Qd ?_; refine Q4 gn rfl rfl ?_; refine Q3 gn rfl rfl ?_; refine Q5 ?_; refine Qc ?_; refine ⟨.inl rfl, _, rfl, ?_⟩; exact ⟨by rw [hWalk, Ql, hfo]; rw [Bool.not_eq_false'] at hb; simp only [hb]; rfl, S.e0⟩
end
end Go.Proofs.YtkidomfnmpnmaaaGreatDoor
namespace Go.Proofs.YtkidomfnmpnmaaaGreatDoor
open Go.X
theorem Y0 {cs r : List Value} {p z f : Nat} {v : Value} (h : (cs.drop p).take z = r) (hf : f < z) (hr : r[f]? = some v) : cs[p + f]? = some v := by
  rw [← List.getElem?_drop, ← List.getElem?_take_of_lt hf, h]; exact hr
def Q84 (T : List Tw) : Int := match T with
  | [] => 0
  | t :: _ => t.K
def Q4b (T : List Tw) : Bool := decide (0 < (T.length : Int)) && decide (Q84 T = 1) && decide (enc (ZG T (T.length + 1) 0 0) = T.length)
theorem Q3O {T : List Tw} (h : 0 < T.length) : Q84 T = T[0].K := by
  cases T with
  | nil => simp at h
  | cons t T => rfl
section
variable {h : Hp} {sv : Value} {T : List Tw}
theorem c10 (B : Blk h) (X : TreeAt h sv T) (hT : T.length ≤ 1000) (hs : ∀ t, t ∈ T → t.s.toList.length ≤ 100) : C nmE 16 [.agg #[sv]] h fun v h' => v = .bool (Q4b T) ∧ Ext h h' := by
  obtain ⟨ta, tc, rfl⟩ := X.val; refine Qf (fu := Tryz.f16) (by kernel_rfl) rfl ?_; have S := SH.start h; refine Qd ?_; refine Yh S gn rfl rfl fun b1 g nb1 S => ?_; refine Q3 gn rfl rfl ?_; refine Q5 ?_; refine Qj ?_; refine Z3 [(0, []), (1, []), (2, []), (3, []), (4, []), (5, []), (6, []), (7, []), (8, []), (9, []), (10, []), (11, []), (12, []), (13, []), (16, []), (17, []), (18, []), (14, [13, 17, 18]), (15, [17, 18]), (19, []), (20, []), (21, [])] (by kernel_rfl) (by kernel_rfl) (by kernel_rfl) (by kernel_rfl) ?_; refine Q0 (off := 0) gn rfl rfl (by kernel_rfl) ?_; refine Q6 gn rfl rfl (by kernel_rfl) (S.cel 0 rfl) rfl ?_; refine QI gn rfl rfl (by kernel_rfl) ?_; refine JB gn rfl rfl rfl ?_
  refine Q4 gn rfl rfl ?_
  refine ZU (B := decide (Q84 T = 1)) (n := 6) rfl rfl rfl gn rfl (fun hb => by
      refine Q0 (off := 0) (gy rfl rfl rfl hb) rfl rfl (by kernel_rfl) ?_; refine Q6 (gy rfl rfl rfl hb) rfl rfl (by kernel_rfl) (S.cel 0 rfl) rfl ?_; have hlt : 0 < T.length := by simpa using hb
      obtain ⟨b, o, c, cs, e, m, hv, hg, hlb, hl6, hat⟩ := X.at hlt; have hta : ta = some ⟨b, o, none⟩ := by injection hv
      have hw : cs[o + 0 * 6 + 0]? = some (iV (Q84 T)) := by rw [Q3O hlt]; exact Y0 (hat 0 hlt) (by omega) rfl
      rw [hta]; refine Q7 (zz := 6) (gy rfl rfl rfl hb) rfl rfl rfl (by kernel_rfl) (by omega) (by omega) ?_; refine Q0 (off := 0) (gy rfl rfl rfl hb) rfl rfl (by kernel_rfl) ?_; refine Q6 (gy rfl rfl rfl hb) rfl rfl (by kernel_rfl) (S.old0 hg hlb) hw ?_; refine Qq (gy rfl rfl rfl hb) rfl rfl rfl ?_
      exact Q5 ⟨rfl, rfl, 6, rfl, rfl⟩) ?_
  refine Q4 gn rfl rfl ?_; refine QM (dc := 15) rfl (fun hb15 => ?_) fun hb15 => ?_
  · skip
    refine Qs (n := 1) (gy rfl rfl rfl hb15) rfl rfl (by kernel_rfl) (by kernel_rfl) (S.cel 0 rfl) (Nat.le_refl _) ?_; refine Q0 (off := 0) (gy rfl rfl rfl hb15) rfl rfl (by kernel_rfl) ?_; refine Q6 (gy rfl rfl rfl hb15) rfl rfl (by kernel_rfl) (S.cel 0 rfl) rfl ?_; refine QI (gy rfl rfl rfl hb15) rfl rfl (by kernel_rfl) ?_
    refine Q5O Qcp S (gy rfl rfl rfl hb15) rfl (by kernel_rfl) (by kernel_rfl) sm25 QdF QdG (fun _ => by kernel_rfl) (by decide) (fun n g nn S => (ag1 (JA (n := 1) (gy rfl rfl rfl hb15) rfl (by kernel_rfl) (by kernel_rfl) (S.cel 29 rfl) (Nat.le_refl _) rfl (same1 _ _ _)) (ag1 (Zr (gy rfl rfl rfl hb15) rfl (by kernel_rfl) (S.cel 29 rfl) rfl rfl ZO) (ag1 (Q38 (gy rfl rfl rfl hb15) rfl (by kernel_rfl) rfl) ag0)))) fun n2 g nn2 S => ?_; have F := QbI S; refine Qb [_, _, _, _] (gy rfl rfl rfl hb15) rfl rfl (by kernel_rfl) rfl (C.mono (c24 (B.ext S.e0) (X.ext S.e0) hT hs F (T.length + 1) 0 0 _ (.refl _) (by omega) (by omega) (by omega) (by omega)) ?_); rintro v g ⟨rfl, x⟩; have S := S.grow x
    refine ⟨(ag1 (Zr (gy rfl rfl rfl hb15) rfl (by kernel_rfl) (S.cel 29 rfl) rfl rfl ZO) (ag1 (Q38 (gy rfl rfl rfl hb15) rfl (by kernel_rfl) rfl) ag0)), ?_⟩; refine Qq (gy rfl rfl rfl hb15) rfl rfl rfl ?_; refine Zd gn rfl rfl hb15 rfl ?_; refine Q3 gn rfl rfl ?_; refine Q5 ?_; refine Qc ?_; refine ⟨.inl rfl, _, rfl, ?_⟩; exact ⟨by rw [Q4b, hb15, Bool.true_and]; rfl, S.e0⟩
  refine QU (n := 7) (dc := 15) (w := true) rfl hb15 rfl ?_; refine Z2 gn rfl rfl hb15 rfl ?_; refine Q3 gn rfl rfl ?_; refine Q5 ?_; refine Qc ?_; refine ⟨.inl rfl, _, rfl, ?_⟩; exact ⟨by rw [Q4b, hb15, Bool.false_and]; rfl, S.e0⟩
end
end Go.Proofs.YtkidomfnmpnmaaaGreatDoor
namespace Go.Proofs.YtkidomfnmpnmaaaGreatDoor
open Go.X
def Yr (K N : Int) : Bool := if K = 9 then decide (0 ≤ N) && decide (N ≤ 3) else if K = 10 then decide (N = 0) || decide (N = 1) else if K = 19 then decide (-1 ≤ N) && decide (N ≤ 2147483647) else if K = 26 then decide (0 ≤ N) && decide (N ≤ 2147483647) else decide (N = 0)
def Kf (K : Int) (b : Int) : Bool := if b = 121 then decide (K = 5) else if b = 98 then decide (K = 12) else if b = 117 then decide (K = 29) else if b = 101 then Qw K else if b = 118 then Q4a K else if b = 115 then Q1J K else if b = 100 then Q0U K else if b = 109 then decide (K = 4) else decide (K = 9)
def Z4 (K : Int) (s : ByteArray) : Bool := if K = 5 then typS s else if K = 32 then opS s else if K ∈ [2, 3, 4, 6, 7, 8, 10, 13, 19, 21, 22, 29, 30, 33] then Za s else eqS s ⟨#[]⟩
def Qh (K : Int) : ByteArray :=
  if K ∈ [1] then ⟨#[42, 100]⟩ else
  if K ∈ [3] then ⟨#[42, 109]⟩ else
  if K ∈ [4, 6] then ⟨#[121]⟩ else
  if K ∈ [7, 9, 11, 36] then ⟨#[98]⟩ else
  if K ∈ [8] then ⟨#[117, 42, 108]⟩ else
  if K ∈ [10] then ⟨#[117, 98]⟩ else
  if K ∈ [12] then ⟨#[42, 115]⟩ else
  if K ∈ [13] then ⟨#[121, 101]⟩ else
  if K ∈ [14] then ⟨#[118, 101]⟩ else
  if K ∈ [15, 16, 17, 18, 30, 34, 35] then ⟨#[101]⟩ else
  if K ∈ [19, 20] then ⟨#[101, 63, 118]⟩ else
  if K ∈ [23] then ⟨#[101, 98, 98]⟩ else
  if K ∈ [24] then ⟨#[101, 98]⟩ else
  if K ∈ [31, 32] then ⟨#[101, 101]⟩ else
  ⟨#[]⟩
section
variable {h : Hp} {s : ByteArray} {K N : Int} {b : UInt8}
theorem c85 : CP nmE 88 [iV K] h (.bool (Q4a K)) := by
  refine Qf (fu := Tryz.f88) (by kernel_rfl) rfl ?_; refine Qd ?_; refine Q3 gn rfl rfl ?_; refine Zw ?_; refine Q4 gn rfl rfl ?_; refine Qq gn rfl rfl rfl ?_; refine Q4 gn rfl rfl ?_
  refine Yo (n := 2) rfl rfl rfl gn rfl (fun hb => by
      refine Q4 (gy rfl rfl rfl hb) rfl rfl ?_; refine Qq (gy rfl rfl rfl hb) rfl rfl rfl ?_
      exact Q5 ⟨rfl, rfl, 2, rfl, rfl⟩) ?_
  refine Q4 gn rfl rfl ?_
  refine Yo (n := 2) rfl rfl rfl gn rfl (fun hb => by
      refine Q4 (gy rfl rfl rfl hb) rfl rfl ?_; refine Qq (gy rfl rfl rfl hb) rfl rfl rfl ?_
      exact Q5 ⟨rfl, rfl, 2, rfl, rfl⟩) ?_
  refine Q3 gn rfl rfl ?_; refine Q5 ?_; refine Qc ?_; refine ⟨.inl rfl, _, rfl, ?_⟩; exact ⟨congrArg Value.bool (by unfold Q4a; simp [Bool.or_assoc]), rfl⟩
theorem c86 : C nmE 90 [iV K] h fun v h' => v = .bool (Q0U K) ∧ Ext h h' := by
  refine Qf (fu := Tryz.f90) (by kernel_rfl) rfl ?_; have S := SH.start h; refine Qd ?_; refine Q3 gn rfl rfl ?_; refine Kz ?_; refine Q4 gn rfl rfl ?_; refine Q5 ?_; refine Qg ?_; refine Ky 3 [(2, 5), (3, 6), (6, 7), (7, 8), (8, 9), (10, 10), (11, 11)] [] (by kernel_rfl) rfl (by repeat (first | exact trivial | refine ⟨rfl, ?_⟩)) (by rfl) (fun hb => ?_) fun hb => ?_
  · skip
    refine Qd ?_; refine Q3 gn rfl rfl ?_; refine Q5 ?_; refine Qc ?_; refine ⟨.inl rfl, _, rfl, ?_⟩; exact ⟨congrArg Value.bool (by unfold Q0U; simp_all), S.e0⟩
  refine Qe ?_; refine Qd ?_; refine Q3 gn rfl rfl ?_; refine Q5 ?_; refine Qc ?_; refine ⟨.inl rfl, _, rfl, ?_⟩; exact ⟨congrArg Value.bool (by unfold Q0U; simp_all), S.e0⟩
theorem c44 : C nmE 29 [iV K, iV N] h fun v h' => v = .bool (Yr K N) ∧ Ext h h' := by
  refine Qf (fu := Tryz.f29) (by kernel_rfl) rfl ?_; have S := SH.start h; refine Qd ?_; refine Q3 gn rfl rfl ?_; refine Kz ?_; refine Q4 gn rfl rfl ?_; refine Q5 ?_; refine Qg ?_; refine Qd ?_; refine Qq gn rfl rfl rfl ?_; refine Q3 gn rfl rfl ?_; refine Q5 ?_; refine Qa rfl (fun hb => ?_) fun hb => ?_
  · skip
    refine Qd ?_; refine Q4 gn rfl rfl ?_; refine Y5 gn rfl rfl rfl ?_; refine Q4 gn rfl rfl ?_
    refine ZU (n := 2) rfl rfl rfl gn rfl (fun hb => by
        refine Q4 (gy rfl rfl rfl hb) rfl rfl ?_; refine Q0F (gy rfl rfl rfl hb) rfl rfl rfl ?_
        exact Q5 ⟨rfl, rfl, 2, rfl, rfl⟩) ?_
    refine Q3 gn rfl rfl ?_; refine Q5 ?_; refine Qc ?_; refine ⟨.inl rfl, _, rfl, ?_⟩; exact ⟨congrArg Value.bool (by unfold Yr; simp_all), S.e0⟩
  refine Qd ?_; refine Qq gn rfl rfl rfl ?_; refine Q3 gn rfl rfl ?_; refine Q5 ?_; refine Qa rfl (fun hb => ?_) fun hb => ?_
  · skip
    refine Qd ?_; refine Q4 gn rfl rfl ?_; refine Qq gn rfl rfl rfl ?_; refine Q4 gn rfl rfl ?_
    refine Yo (n := 2) rfl rfl rfl gn rfl (fun hb => by
        refine Q4 (gy rfl rfl rfl hb) rfl rfl ?_; refine Qq (gy rfl rfl rfl hb) rfl rfl rfl ?_
        exact Q5 ⟨rfl, rfl, 2, rfl, rfl⟩) ?_
    refine Q3 gn rfl rfl ?_; refine Q5 ?_; refine Qc ?_; refine ⟨.inl rfl, _, rfl, ?_⟩; exact ⟨congrArg Value.bool (by unfold Yr; simp_all), S.e0⟩
  refine Qd ?_; refine Qq gn rfl rfl rfl ?_; refine Q3 gn rfl rfl ?_; refine Q5 ?_; refine Qa rfl (fun hb => ?_) fun hb => ?_
  · skip
    refine Qd ?_; refine Q4 gn rfl rfl ?_; refine Y5 gn rfl rfl rfl ?_; refine Q4 gn rfl rfl ?_
    refine ZU (n := 2) rfl rfl rfl gn rfl (fun hb => by
        refine Q4 (gy rfl rfl rfl hb) rfl rfl ?_; refine Q0F (gy rfl rfl rfl hb) rfl rfl rfl ?_
        exact Q5 ⟨rfl, rfl, 2, rfl, rfl⟩) ?_
    refine Q3 gn rfl rfl ?_; refine Q5 ?_; refine Qc ?_; refine ⟨.inl rfl, _, rfl, ?_⟩; exact ⟨congrArg Value.bool (by unfold Yr; simp_all), S.e0⟩
  refine Qd ?_; refine Qq gn rfl rfl rfl ?_; refine Q3 gn rfl rfl ?_; refine Q5 ?_; refine Qa rfl (fun hb => ?_) fun hb => ?_
  · skip
    refine Qd ?_; refine Q4 gn rfl rfl ?_; refine Y5 gn rfl rfl rfl ?_; refine Q4 gn rfl rfl ?_
    refine ZU (n := 2) rfl rfl rfl gn rfl (fun hb => by
        refine Q4 (gy rfl rfl rfl hb) rfl rfl ?_; refine Q0F (gy rfl rfl rfl hb) rfl rfl rfl ?_
        exact Q5 ⟨rfl, rfl, 2, rfl, rfl⟩) ?_
    refine Q3 gn rfl rfl ?_; refine Q5 ?_; refine Qc ?_; refine ⟨.inl rfl, _, rfl, ?_⟩; exact ⟨congrArg Value.bool (by unfold Yr; simp_all), S.e0⟩
  refine Qe ?_; refine Qd ?_; refine Q4 gn rfl rfl ?_; refine Qq gn rfl rfl rfl ?_; refine Q3 gn rfl rfl ?_; refine Q5 ?_; refine Qc ?_; refine ⟨.inl rfl, _, rfl, ?_⟩; exact ⟨congrArg Value.bool (by unfold Yr; simp_all), S.e0⟩
theorem c67 : C nmE 57 [iV K] h fun v h' => v = .string (Qh K) ∧ Ext h h' := by
  refine Qf (fu := Tryz.f57) (by kernel_rfl) rfl ?_; have S := SH.start h; refine Qd ?_; refine Q3 gn rfl rfl ?_; refine Kz ?_; refine Q4 gn rfl rfl ?_; refine Q5 ?_; refine Qg ?_; refine Qd ?_; refine Qq gn rfl rfl rfl ?_; refine Q3 gn rfl rfl ?_; refine Q5 ?_; refine Qa rfl (fun hb => ?_) fun hb => ?_
  · skip
    refine Qd ?_; refine Q3 gn rfl rfl ?_; refine Q5 ?_; refine Qc ?_; refine ⟨.inl rfl, _, rfl, ?_⟩; exact ⟨congrArg Value.string (by unfold Qh; simp_all), S.e0⟩
  refine Qd ?_; refine Qq gn rfl rfl rfl ?_; refine Q3 gn rfl rfl ?_; refine Q5 ?_; refine Qa rfl (fun hb => ?_) fun hb => ?_
  · skip
    refine Qd ?_; refine Q3 gn rfl rfl ?_; refine Q5 ?_; refine Qc ?_; refine ⟨.inl rfl, _, rfl, ?_⟩; exact ⟨congrArg Value.string (by unfold Qh; simp_all), S.e0⟩
  refine Ky 3 [(4, 9), (6, 10)] [(3, _)] (by kernel_rfl) rfl (by repeat (first | exact trivial | refine ⟨rfl, ?_⟩)) (by rfl) (fun hb => ?_) fun hb => ?_
  · skip
    refine Qd ?_; refine Q3 gn rfl rfl ?_; refine Q5 ?_; refine Qc ?_; refine ⟨.inl rfl, _, rfl, ?_⟩; exact ⟨congrArg Value.string (by unfold Qh; simp_all), S.e0⟩
  refine Ky 3 [(7, 12), (9, 13), (11, 14), (36, 15)] [(3, _)] (by kernel_rfl) rfl (by repeat (first | exact trivial | refine ⟨rfl, ?_⟩)) (by rfl) (fun hb => ?_) fun hb => ?_
  · skip
    refine Qd ?_; refine Q3 gn rfl rfl ?_; refine Q5 ?_; refine Qc ?_; refine ⟨.inl rfl, _, rfl, ?_⟩; exact ⟨congrArg Value.string (by unfold Qh; simp_all), S.e0⟩
  refine Qd ?_; refine Qq gn rfl rfl rfl ?_; refine Q3 gn rfl rfl ?_; refine Q5 ?_; refine Qa rfl (fun hb => ?_) fun hb => ?_
  · skip
    refine Qd ?_; refine Q3 gn rfl rfl ?_; refine Q5 ?_; refine Qc ?_; refine ⟨.inl rfl, _, rfl, ?_⟩; exact ⟨congrArg Value.string (by unfold Qh; simp_all), S.e0⟩
  refine Qd ?_; refine Qq gn rfl rfl rfl ?_; refine Q3 gn rfl rfl ?_; refine Q5 ?_; refine Qa rfl (fun hb => ?_) fun hb => ?_
  · skip
    refine Qd ?_; refine Q3 gn rfl rfl ?_; refine Q5 ?_; refine Qc ?_; refine ⟨.inl rfl, _, rfl, ?_⟩; exact ⟨congrArg Value.string (by unfold Qh; simp_all), S.e0⟩
  refine Qd ?_; refine Qq gn rfl rfl rfl ?_; refine Q3 gn rfl rfl ?_; refine Q5 ?_; refine Qa rfl (fun hb => ?_) fun hb => ?_
  · skip
    refine Qd ?_; refine Q3 gn rfl rfl ?_; refine Q5 ?_; refine Qc ?_; refine ⟨.inl rfl, _, rfl, ?_⟩; exact ⟨congrArg Value.string (by unfold Qh; simp_all), S.e0⟩
  refine Qd ?_; refine Qq gn rfl rfl rfl ?_; refine Q3 gn rfl rfl ?_; refine Q5 ?_; refine Qa rfl (fun hb => ?_) fun hb => ?_
  · skip
    refine Qd ?_; refine Q3 gn rfl rfl ?_; refine Q5 ?_; refine Qc ?_; refine ⟨.inl rfl, _, rfl, ?_⟩; exact ⟨congrArg Value.string (by unfold Qh; simp_all), S.e0⟩
  refine Qd ?_; refine Qq gn rfl rfl rfl ?_; refine Q3 gn rfl rfl ?_; refine Q5 ?_; refine Qa rfl (fun hb => ?_) fun hb => ?_
  · skip
    refine Qd ?_; refine Q3 gn rfl rfl ?_; refine Q5 ?_; refine Qc ?_; refine ⟨.inl rfl, _, rfl, ?_⟩; exact ⟨congrArg Value.string (by unfold Qh; simp_all), S.e0⟩
  refine Ky 3 [(15, 27), (16, 28), (17, 29), (18, 30), (30, 31), (34, 32), (35, 33)] [(3, _)] (by kernel_rfl) rfl (by repeat (first | exact trivial | refine ⟨rfl, ?_⟩)) (by rfl) (fun hb => ?_) fun hb => ?_
  · skip
    refine Qd ?_; refine Q3 gn rfl rfl ?_; refine Q5 ?_; refine Qc ?_; refine ⟨.inl rfl, _, rfl, ?_⟩; exact ⟨congrArg Value.string (by unfold Qh; simp_all), S.e0⟩
  refine Ky 3 [(19, 35), (20, 36)] [(3, _)] (by kernel_rfl) rfl (by repeat (first | exact trivial | refine ⟨rfl, ?_⟩)) (by rfl) (fun hb => ?_) fun hb => ?_
  · skip
    refine Qd ?_; refine Q3 gn rfl rfl ?_; refine Q5 ?_; refine Qc ?_; refine ⟨.inl rfl, _, rfl, ?_⟩; exact ⟨congrArg Value.string (by unfold Qh; simp_all), S.e0⟩
  refine Qd ?_; refine Qq gn rfl rfl rfl ?_; refine Q3 gn rfl rfl ?_; refine Q5 ?_; refine Qa rfl (fun hb => ?_) fun hb => ?_
  · skip
    refine Qd ?_; refine Q3 gn rfl rfl ?_; refine Q5 ?_; refine Qc ?_; refine ⟨.inl rfl, _, rfl, ?_⟩; exact ⟨congrArg Value.string (by unfold Qh; simp_all), S.e0⟩
  refine Qd ?_; refine Qq gn rfl rfl rfl ?_; refine Q3 gn rfl rfl ?_; refine Q5 ?_; refine Qa rfl (fun hb => ?_) fun hb => ?_
  · skip
    refine Qd ?_; refine Q3 gn rfl rfl ?_; refine Q5 ?_; refine Qc ?_; refine ⟨.inl rfl, _, rfl, ?_⟩; exact ⟨congrArg Value.string (by unfold Qh; simp_all), S.e0⟩
  refine Ky 3 [(31, 42), (32, 43)] [] (by kernel_rfl) rfl (by repeat (first | exact trivial | refine ⟨rfl, ?_⟩)) (by rfl) (fun hb => ?_) fun hb => ?_
  · skip
    refine Qd ?_; refine Q3 gn rfl rfl ?_; refine Q5 ?_; refine Qc ?_; refine ⟨.inl rfl, _, rfl, ?_⟩; exact ⟨congrArg Value.string (by unfold Qh; simp_all), S.e0⟩
  refine Qe ?_; refine Qd ?_; refine Q3 gn rfl rfl ?_; refine Q5 ?_; refine Qc ?_; refine ⟨.inl rfl, _, rfl, ?_⟩; exact ⟨congrArg Value.string (by unfold Qh; simp_all), S.e0⟩
theorem c68 : C nmE 58 [iV K, .int .u8 (b.toNat : Nat)] h fun v h' => v = .bool (Kf K (b.toNat : Nat)) ∧ Ext h h' := by
  refine Qf (fu := Tryz.f58) (by kernel_rfl) rfl ?_; have S := SH.start h; refine Qd ?_; refine Q3 gn rfl rfl ?_; refine Kz ?_; refine Q4 gn rfl rfl ?_; refine Q5 ?_; refine Qg ?_; refine Qd ?_; refine Qq gn rfl rfl rfl ?_; refine Q3 gn rfl rfl ?_; refine Q5 ?_; refine Qa rfl (fun hb => ?_) fun hb => ?_
  · skip
    refine Qd ?_; refine Q4 gn rfl rfl ?_; refine Qq gn rfl rfl rfl ?_; refine Q3 gn rfl rfl ?_; refine Q5 ?_; refine Qc ?_; refine ⟨.inl rfl, _, rfl, ?_⟩; exact ⟨congrArg Value.bool (by unfold Kf; simp_all), S.e0⟩
  refine Qd ?_; refine Qq gn rfl rfl rfl ?_; refine Q3 gn rfl rfl ?_; refine Q5 ?_; refine Qa rfl (fun hb => ?_) fun hb => ?_
  · skip
    refine Qd ?_; refine Q4 gn rfl rfl ?_; refine Qq gn rfl rfl rfl ?_; refine Q3 gn rfl rfl ?_; refine Q5 ?_; refine Qc ?_; refine ⟨.inl rfl, _, rfl, ?_⟩; exact ⟨congrArg Value.bool (by unfold Kf; simp_all), S.e0⟩
  refine Qd ?_; refine Qq gn rfl rfl rfl ?_; refine Q3 gn rfl rfl ?_; refine Q5 ?_; refine Qa rfl (fun hb => ?_) fun hb => ?_
  · skip
    refine Qd ?_; refine Q4 gn rfl rfl ?_; refine Qq gn rfl rfl rfl ?_; refine Q3 gn rfl rfl ?_; refine Q5 ?_; refine Qc ?_; refine ⟨.inl rfl, _, rfl, ?_⟩; exact ⟨congrArg Value.bool (by unfold Kf; simp_all), S.e0⟩
  refine Qd ?_; refine Qq gn rfl rfl rfl ?_; refine Q3 gn rfl rfl ?_; refine Q5 ?_; refine Qa rfl (fun hb => ?_) fun hb => ?_
  · skip
    refine Qd ?_; refine Q4 gn rfl rfl ?_; refine Qb [_] gn rfl rfl (by kernel_rfl) rfl (K8 (c17) ⟨ag0, ?_⟩); refine Q3 gn rfl rfl ?_; refine Q5 ?_; refine Qc ?_; refine ⟨.inl rfl, _, rfl, ?_⟩; exact ⟨congrArg Value.bool (by unfold Kf; simp_all), S.e0⟩
  refine Qd ?_; refine Qq gn rfl rfl rfl ?_; refine Q3 gn rfl rfl ?_; refine Q5 ?_; refine Qa rfl (fun hb => ?_) fun hb => ?_
  · skip
    refine Qd ?_; refine Q4 gn rfl rfl ?_; refine Qb [_] gn rfl rfl (by kernel_rfl) rfl (K8 (c85) ⟨ag0, ?_⟩); refine Q3 gn rfl rfl ?_; refine Q5 ?_; refine Qc ?_; refine ⟨.inl rfl, _, rfl, ?_⟩; exact ⟨congrArg Value.bool (by unfold Kf; simp_all), S.e0⟩
  refine Qd ?_; refine Qq gn rfl rfl rfl ?_; refine Q3 gn rfl rfl ?_; refine Q5 ?_; refine Qa rfl (fun hb => ?_) fun hb => ?_
  · skip
    refine Qd ?_; refine Q4 gn rfl rfl ?_; refine Qb [_] gn rfl rfl (by kernel_rfl) rfl (K8 (c54) ⟨ag0, ?_⟩); refine Q3 gn rfl rfl ?_; refine Q5 ?_; refine Qc ?_; refine ⟨.inl rfl, _, rfl, ?_⟩; exact ⟨congrArg Value.bool (by unfold Kf; simp_all), S.e0⟩
  refine Qd ?_; refine Qq gn rfl rfl rfl ?_; refine Q3 gn rfl rfl ?_; refine Q5 ?_; refine Qa rfl (fun hb => ?_) fun hb => ?_
  · skip
    refine Qd ?_; refine Q4 gn rfl rfl ?_; refine Qb [_] gn rfl rfl (by kernel_rfl) rfl (C.mono (c86) ?_); rintro v g ⟨rfl, x⟩; have S := S.grow x; refine ⟨ag0, ?_⟩; refine Q3 gn rfl rfl ?_; refine Q5 ?_; refine Qc ?_; refine ⟨.inl rfl, _, rfl, ?_⟩; exact ⟨congrArg Value.bool (by unfold Kf; simp_all), S.e0⟩
  refine Qd ?_; refine Qq gn rfl rfl rfl ?_; refine Q3 gn rfl rfl ?_; refine Q5 ?_; refine Qa rfl (fun hb => ?_) fun hb => ?_
  · skip
    refine Qd ?_; refine Q4 gn rfl rfl ?_; refine Qq gn rfl rfl rfl ?_; refine Q3 gn rfl rfl ?_; refine Q5 ?_; refine Qc ?_; refine ⟨.inl rfl, _, rfl, ?_⟩; exact ⟨congrArg Value.bool (by unfold Kf; simp_all), S.e0⟩
  refine Qe ?_; refine Qd ?_; refine Q4 gn rfl rfl ?_; refine Qq gn rfl rfl rfl ?_; refine Q3 gn rfl rfl ?_; refine Q5 ?_; refine Qc ?_; refine ⟨.inl rfl, _, rfl, ?_⟩; exact ⟨congrArg Value.bool (by unfold Kf; simp_all), S.e0⟩
theorem c43 (hsz : s.toList.length < 9223372036854775000) : C nmE 28 [iV K, .string s] h fun v h' => v = .bool (Z4 K s) ∧ Ext h h' := by
  refine Qf (fu := Tryz.f28) (by kernel_rfl) rfl ?_; have S := SH.start h; refine Qd ?_; refine Q3 gn rfl rfl ?_; refine Kz ?_; refine Q4 gn rfl rfl ?_; refine Q5 ?_; refine Qg ?_; refine Qd ?_; refine Qq gn rfl rfl rfl ?_; refine Q3 gn rfl rfl ?_; refine Q5 ?_; refine Qa rfl (fun hb => ?_) fun hb => ?_
  · skip
    refine Qd ?_; refine Q4 gn rfl rfl ?_; refine Qb [_] gn rfl rfl (by kernel_rfl) rfl (C.mono (c64 hsz) ?_); rintro v g ⟨rfl, x⟩; have S := S.grow x; refine ⟨ag0, ?_⟩; refine Q3 gn rfl rfl ?_; refine Q5 ?_; refine Qc ?_; refine ⟨.inl rfl, _, rfl, ?_⟩; exact ⟨congrArg Value.bool (by unfold Z4; simp_all), S.e0⟩
  refine Qd ?_; refine Qq gn rfl rfl rfl ?_; refine Q3 gn rfl rfl ?_; refine Q5 ?_; refine Qa rfl (fun hb => ?_) fun hb => ?_
  · skip
    refine Qd ?_; refine Q4 gn rfl rfl ?_; refine Qb [_] gn rfl rfl (by kernel_rfl) rfl (K8 (c15) ⟨ag0, ?_⟩); refine Q3 gn rfl rfl ?_; refine Q5 ?_; refine Qc ?_; refine ⟨.inl rfl, _, rfl, ?_⟩; exact ⟨congrArg Value.bool (by unfold Z4; simp_all), S.e0⟩
  refine Ky 5 [(2, 15), (3, 16), (4, 17), (6, 18), (7, 19), (8, 20), (10, 21), (13, 22), (19, 23), (21, 24), (22, 25), (29, 26), (30, 27), (33, 28)] [(1, _)] (by kernel_rfl) rfl (by repeat (first | exact trivial | refine ⟨rfl, ?_⟩)) (by rfl) (fun hb => ?_) fun hb => ?_
  · skip
    refine Qd ?_; refine Q4 gn rfl rfl ?_; refine Qb [_] gn rfl rfl (by kernel_rfl) rfl (C.mono (c65 hsz) ?_); rintro v g ⟨rfl, x⟩; have S := S.grow x; refine ⟨ag0, ?_⟩; refine Q3 gn rfl rfl ?_; refine Q5 ?_; refine Qc ?_; refine ⟨.inl rfl, _, rfl, ?_⟩; exact ⟨congrArg Value.bool (by unfold Z4; simp_all), S.e0⟩
  refine Qe ?_; refine Qd ?_; refine Q4 gn rfl rfl ?_; refine Yp gn rfl rfl rfl ?_; refine Q3 gn rfl rfl ?_; refine Q5 ?_; refine Qc ?_; refine ⟨.inl rfl, _, rfl, ?_⟩; exact ⟨congrArg Value.bool (by unfold Z4; simp_all), S.e0⟩
end
end Go.Proofs.YtkidomfnmpnmaaaGreatDoor
namespace Go.Proofs.YtkidomfnmpnmaaaGreatDoor
open Go.X
def Ji (c : UInt8) : List Int → List Int
  | [] => []
  | k :: l => if Kf k (c.toNat : Nat) = true then l else k :: l
def QD : List UInt8 → List Int → Bool
  | [], l => l.isEmpty
  | [a], l => match l with
    | k :: l => Kf k (a.toNat : Nat) && l.isEmpty
    | [] => false
  | a :: c :: r, l => if a.toNat = 42 then QD r (l.dropWhile fun k => Kf k (c.toNat : Nat)) else if a.toNat = 63 then QD r (Ji c l) else match l with
    | k :: l => Kf k (a.toNat : Nat) && QD (c :: r) l
    | [] => false
def wfL : List UInt8 → Bool
  | [] => true
  | [a] => decide (a.toNat ≠ 42) && decide (a.toNat ≠ 63)
  | a :: c :: r => if a.toNat = 42 ∨ a.toNat = 63 then wfL r else wfL (c :: r)
theorem Q9K {P : ByteArray → Prop} {c : Prop} [Decidable c] {a b : ByteArray} (ha : P a) (hb : P b) : P (if c then a else b) := by split <;> assumption
theorem Q7x (K : Int) : wfL (Qh K).toList = true := by
  unfold Qh
  repeat (refine Q9K (P := fun s => wfL s.toList = true) (by rw [ByteArray.toList_eq]; decide) ?_)
  rw [ByteArray.toList_eq]; decide
theorem Q80 (K : Int) : (Qh K).toList.length ≤ 3 := by
  unfold Qh
  repeat (refine Q9K (P := fun s => s.toList.length ≤ 3) (by rw [ByteArray.toList_eq]; decide) ?_)
  rw [ByteArray.toList_eq]; decide
theorem Q0K {a : UInt8} {r : List UInt8} {k : Int} {l : List Int} (h1 : a.toNat ≠ 42) (h2 : a.toNat ≠ 63) : QD (a :: r) (k :: l) = (Kf k (a.toNat : Nat) && QD r l) := by
  cases r with
  | nil => simp [QD]
  | cons c r => simp [QD, h1, h2]
theorem Q4W {a : UInt8} {r : List UInt8} (h1 : a.toNat ≠ 42) (h2 : a.toNat ≠ 63) : QD (a :: r) [] = false := by
  cases r with
  | nil => simp [QD]
  | cons c r => simp [QD, h1, h2]
theorem Q4V {a c : UInt8} {r : List UInt8} {l : List Int} (h : a.toNat = 42) : QD (a :: c :: r) l = QD r (l.dropWhile fun k => Kf k (c.toNat : Nat)) := by simp [QD, h]
theorem Q78 {a c : UInt8} {r : List UInt8} {l : List Int} (h : a.toNat = 63) : QD (a :: c :: r) l = QD r (Ji c l) := by simp [QD, h]
theorem QaD {a : UInt8} {r : List UInt8} (h1 : a.toNat ≠ 42) (h2 : a.toNat ≠ 63) (h : wfL (a :: r) = true) : wfL r = true := by
  cases r with
  | nil => rfl
  | cons c r => simpa [wfL, h1, h2] using h
theorem wf_two {a : UInt8} {r : List UInt8} (h1 : a.toNat = 42 ∨ a.toNat = 63) (h : wfL (a :: r) = true) : ∃ c r', r = c :: r' ∧ wfL r' = true := by
  cases r with
  | nil => simp [wfL] at h; omega
  | cons c r => exact ⟨c, r, rfl, by simpa [wfL, h1] using h⟩
theorem Q33 {s : ByteArray} {p : Nat} (h : p < s.toList.length) : s.toList.drop p = bAt s p :: s.toList.drop (p + 1) := by
  rw [List.drop_eq_getElem_cons h]
  congr 1
  simp [bAt, h]
theorem Qcd {s : ByteArray} {p : Nat} (hp : p < s.toList.length) (h : (bAt s p).toNat = 42 ∨ (bAt s p).toNat = 63) (w : wfL (s.toList.drop p) = true) : p + 1 < s.toList.length ∧ wfL (s.toList.drop (p + 2)) = true ∧ s.toList.drop p = bAt s p :: bAt s (p + 1) :: s.toList.drop (p + 2) := by
  rw [Q33 hp] at w; obtain ⟨c, r, e, w2⟩ := wf_two h w
  have h1 : p + 1 < s.toList.length := by
    have := congrArg List.length e; simp at this; omega
  rw [Q33 h1] at e; injection e with e1 e2
  exact ⟨h1, e2 ▸ w2, by rw [Q33 hp, Q33 h1]⟩
theorem Q8b {l : List Int} {i : Nat} (h : i ≤ l.length) : decide ((i : Int) = l.length) = (l.drop i).isEmpty := by
  by_cases e : i = l.length
  · subst e; simp
  have h1 : ¬ (i : Int) = l.length := by omega
  rw [decide_eq_false h1, List.drop_eq_getElem_cons (by omega)]; rfl
section
variable {h : Hp} {K : Int} {v : Value} {kinds : List Int}
theorem c46 (R : RowV h v (isV kinds)) (hl : kinds.length < 1000000) : C nmE 31 [iV K, v] h fun v h' => v = .bool (QD (Qh K).toList kinds) ∧ Ext h h' := by
  obtain ⟨ka, kc, rfl⟩ := R.valM; have hw0 := Q7x K; have hle := Q80 K; refine Qf (fu := Tryz.f31) (by kernel_rfl) rfl ?_; have S := SH.start h; refine Qd ?_; refine Q3 gn rfl rfl ?_; refine Zw ?_; refine Q4 gn rfl rfl ?_; refine Qb [_] gn rfl rfl (by kernel_rfl) rfl (C.mono (c67) ?_); rintro v g ⟨rfl, x⟩; have S := S.grow x; refine ⟨ag0, ?_⟩; refine Q3 gn rfl rfl ?_; refine Q5 ?_; refine Qj ?_; generalize Qh K = s at hw0 hle; obtain ⟨R0, hR0⟩ : ∃ R0, R0 = QD s.toList kinds := ⟨_, rfl⟩; refine Q8 (by kernel_rfl) ?_; refine Q3 gn rfl rfl ?_; refine Kz ?_; refine Q3 gn rfl rfl ?_; refine Q5 ?_; refine Qg ?_
  refine QH [(6, _), (7, _)] [(1, _), (5, _)] (by repeat (first | exact trivial | refine ⟨rfl, ?_⟩)) (fun kk lv hh => ∃ i p : Nat, lv = [(6, iV i), (7, iV p)] ∧ kk = s.toList.length - p ∧ i ≤ kinds.length ∧ p ≤ s.toList.length ∧ SH h [] [] hh ∧ wfL (s.toList.drop p) = true ∧ QD (s.toList.drop p) (kinds.drop i) = R0) (n := (s.toList.length)) ?_ fun kk lv hh hI => ?_
  · exact ⟨0, 0, rfl, rfl, by omega, by omega, S, hw0, hR0.symm⟩
  obtain ⟨i, p, rfl, hk, hi, hp0, S, hW, hR⟩ := hI; refine Qj ?_; refine Qd ?_; refine Q4 gn rfl rfl ?_; refine Q4 gn rfl rfl ?_; refine Jv gn rfl rfl (by kernel_rfl) ?_; rw [Jo]; refine Z9 gn rfl rfl rfl ?_; refine Q5 ?_; refine Qa rfl (fun hb => ?_) fun hb => ?_
  · skip
    refine Qe ?_; have hp : p < s.toList.length := by simp at hb; omega
    refine Qj ?_; refine Qg ?_; refine Qd ?_; refine Q4 gn rfl rfl ?_; refine Q4 gn rfl rfl ?_; refine Yz gn rfl rfl rfl (by kernel_rfl) (by omega) (KR hp) ?_; refine Q5 ?_; refine Qg ?_; refine Qd ?_; refine Qq gn rfl rfl rfl ?_; refine Q3 gn rfl rfl ?_; refine Q5 ?_; refine Qa rfl (fun hb => ?_) fun hb => ?_
    · skip
      refine Qj ?_; have hb1 : (bAt s p).toNat = 42 := by simp at hb; omega
      obtain ⟨hp1, hW2, hD⟩ := Qcd hp (.inl hb1) hW; rw [hD, Q4V hb1] at hR; refine Q8 (by kernel_rfl) ?_; refine Q4 gn rfl rfl ?_; refine QO gn rfl rfl rfl (by omega) (by omega) ?_; refine Q3 gn rfl rfl ?_; refine Q5 ?_; refine Qg ?_; refine QH [(6, _)] [(1, _), (5, _), (7, _)] (by repeat (first | exact trivial | refine ⟨rfl, ?_⟩)) (fun kk lv hh => ∃ i : Nat, lv = [(6, iV i)] ∧ kk = kinds.length - i ∧ i ≤ kinds.length ∧ SH h [] [] hh ∧ QD (s.toList.drop (p + 2)) ((kinds.drop i).dropWhile fun k => Kf k ((bAt s (p + 1)).toNat : Nat)) = R0) (n := (kinds.length - i)) ?_ fun kk lv hh hI => ?_
      · exact ⟨i, rfl, rfl, by omega, S, hR⟩
      obtain ⟨i2, rfl, hk2, hi2, S, hR2⟩ := hI; refine Qj ?_; refine Qj ?_; refine Z3 [(0, []), (1, []), (2, []), (3, []), (4, []), (5, []), (6, []), (7, []), (8, []), (9, []), (10, []), (11, []), (12, []), (13, [])] (by kernel_rfl) (by kernel_rfl) (by kernel_rfl) (by kernel_rfl) ?_; refine Q4 gn rfl rfl ?_; refine Q4 gn rfl rfl ?_; refine QI gn rfl rfl (by kernel_rfl) ?_; refine Z9 gn rfl rfl rfl ?_; refine Q4 gn rfl rfl ?_; refine QM (dc := 44) rfl (fun hb44 => ?_) fun hb44 => ?_
      · skip
        refine Q4 (gy rfl rfl rfl hb44) rfl rfl ?_; refine Q4 (gy rfl rfl rfl hb44) rfl rfl ?_; have hi3 : i2 < kinds.length := by simp at hb44; omega
        obtain ⟨kb, ko, kc', kcs, ke, km, hv2, hg2, hlt2, hat2⟩ := R.atM (by omega); have hka : ka = some ⟨kb, ko, none⟩ := by injection hv2
        rw [hka]; refine Q7 (zz := 1) (gy rfl rfl rfl hb44) rfl rfl rfl (by kernel_rfl) (by omega) (by omega) ?_; rw [← hka]; refine Q6 (gy rfl rfl rfl hb44) rfl rfl (by kernel_rfl) (S.old0 hg2 hlt2) (by rw [Int.toNat_natCast, Nat.mul_one]; exact hat2 i2 hi3) ?_; refine Q4 (gy rfl rfl rfl hb44) rfl rfl ?_; refine Q4 (gy rfl rfl rfl hb44) rfl rfl ?_; refine Yz (gy rfl rfl rfl hb44) rfl rfl rfl (by kernel_rfl) (by omega) (KR hp1) ?_; refine Qb [_, _] (gy rfl rfl rfl hb44) rfl rfl (by kernel_rfl) rfl (C.mono (c68 (b := bAt s (p + 1))) ?_); rintro v g ⟨rfl, x⟩; have S := S.grow x; refine ⟨ag0, ?_⟩; refine Zd gn rfl rfl hb44 rfl ?_; refine Q5 ?_; refine Qa rfl (fun hb => ?_) fun hb => ?_
        · skip
          refine Qe ?_; refine Qg ?_; refine Q8 (by kernel_rfl) ?_; refine Q4 gn rfl rfl ?_; refine QO gn rfl rfl rfl (by omega) (by omega) ?_; refine Q3 gn rfl rfl ?_; refine Q5 ?_; refine Zq ?_
          exact Kc (kinds.length - (i2 + 1)) (by omega) [(6, _)] (by repeat (first | exact trivial | refine ⟨rfl, ?_⟩)) ⟨i2 + 1, rfl, rfl, by omega, S, by
            rw [List.drop_eq_getElem_cons hi3] at hR2; simp only [List.dropWhile_cons, hb, if_true] at hR2
            exact hR2⟩
        refine QZ ?_; refine Qt ?_; refine Qu ?_; refine QY ?_; refine Zq ?_; refine Q8 (by kernel_rfl) ?_; refine Q4 gn rfl rfl ?_; refine QO gn rfl rfl rfl (by omega) (by omega) ?_; refine Q3 gn rfl rfl ?_; refine Q5 ?_
        exact Kc (s.toList.length - (p + 2)) (by omega) [(6, _), (7, _)] (by repeat (first | exact trivial | refine ⟨rfl, ?_⟩)) ⟨i2, p + 2, rfl, rfl, by omega, by omega, S, hW2, by
          rw [List.drop_eq_getElem_cons hi3] at hR2 ⊢; simp only [List.dropWhile_cons, hb, Bool.false_eq_true, if_false] at hR2
          exact hR2⟩
      refine QU (n := 8) (dc := 44) (w := true) rfl hb44 rfl ?_; refine Z2 gn rfl rfl hb44 rfl ?_; refine Q5 ?_; refine Qa rfl (fun hb => ?_) fun hb => ?_
      · skip
        exact absurd hb (by decide)
      refine QZ ?_; refine Qt ?_; refine Qu ?_; refine QY ?_; refine Zq ?_; refine Q8 (by kernel_rfl) ?_; refine Q4 gn rfl rfl ?_; refine QO gn rfl rfl rfl (by omega) (by omega) ?_; refine Q3 gn rfl rfl ?_; refine Q5 ?_
      exact Kc (s.toList.length - (p + 2)) (by omega) [(6, _), (7, _)] (by repeat (first | exact trivial | refine ⟨rfl, ?_⟩)) ⟨i2, p + 2, rfl, rfl, by omega, by omega, S, hW2, by
        have he : kinds.drop i2 = [] := List.drop_eq_nil_of_le (by simp at hb44; omega)
        rw [he] at hR2 ⊢; exact hR2⟩
    refine Qj ?_; have h42 : (bAt s p).toNat ≠ 42 := by simp at hb; omega
    refine Q8 (by kernel_rfl) ?_; refine Qq gn rfl rfl rfl ?_; refine Q3 gn rfl rfl ?_; refine Q5 ?_; refine Qa rfl (fun hb => ?_) fun hb => ?_
    · skip
      refine Qj ?_; have hb2 : (bAt s p).toNat = 63 := by simp at hb; omega
      obtain ⟨hp1, hW2, hD⟩ := Qcd hp (.inr hb2) hW; rw [hD, Q78 hb2] at hR; refine Q8 (by kernel_rfl) ?_; refine Q4 gn rfl rfl ?_; refine QO gn rfl rfl rfl (by omega) (by omega) ?_; refine Q3 gn rfl rfl ?_; refine Q5 ?_; refine Qj ?_; refine Z3 [(0, []), (1, []), (2, []), (3, []), (4, []), (5, []), (6, []), (7, []), (8, []), (9, []), (10, []), (11, []), (12, []), (13, [])] (by kernel_rfl) (by kernel_rfl) (by kernel_rfl) (by kernel_rfl) ?_; refine Q4 gn rfl rfl ?_; refine Q4 gn rfl rfl ?_; refine QI gn rfl rfl (by kernel_rfl) ?_; refine Z9 gn rfl rfl rfl ?_; refine Q4 gn rfl rfl ?_; refine QM (dc := 64) rfl (fun hb64 => ?_) fun hb64 => ?_
      · skip
        refine Q4 (gy rfl rfl rfl hb64) rfl rfl ?_; refine Q4 (gy rfl rfl rfl hb64) rfl rfl ?_; have hi3 : i < kinds.length := by simp at hb64; omega
        obtain ⟨kb, ko, kc', kcs, ke, km, hv2, hg2, hlt2, hat2⟩ := R.atM (by omega); have hka : ka = some ⟨kb, ko, none⟩ := by injection hv2
        rw [hka]; refine Q7 (zz := 1) (gy rfl rfl rfl hb64) rfl rfl rfl (by kernel_rfl) (by omega) (by omega) ?_; rw [← hka]; refine Q6 (gy rfl rfl rfl hb64) rfl rfl (by kernel_rfl) (S.old0 hg2 hlt2) (by rw [Int.toNat_natCast, Nat.mul_one]; exact hat2 i hi3) ?_; refine Q4 (gy rfl rfl rfl hb64) rfl rfl ?_; refine Q4 (gy rfl rfl rfl hb64) rfl rfl ?_; refine Yz (gy rfl rfl rfl hb64) rfl rfl rfl (by kernel_rfl) (by omega) (KR hp1) ?_; refine Qb [_, _] (gy rfl rfl rfl hb64) rfl rfl (by kernel_rfl) rfl (C.mono (c68 (b := bAt s (p + 1))) ?_); rintro v g ⟨rfl, x⟩; have S := S.grow x; refine ⟨ag0, ?_⟩; refine Zd gn rfl rfl hb64 rfl ?_; refine Q5 ?_; refine Qa rfl (fun hb => ?_) fun hb => ?_
        · skip
          refine Q8 (by kernel_rfl) ?_; refine Q4 gn rfl rfl ?_; refine QO gn rfl rfl rfl (by omega) (by omega) ?_; refine Q3 gn rfl rfl ?_; refine Q5 ?_; refine Zq ?_; refine Q8 (by kernel_rfl) ?_; refine Q4 gn rfl rfl ?_; refine QO gn rfl rfl rfl (by omega) (by omega) ?_; refine Q3 gn rfl rfl ?_; refine Q5 ?_
          exact Kc (s.toList.length - (p + 2)) (by omega) [(6, _), (7, _)] (by repeat (first | exact trivial | refine ⟨rfl, ?_⟩)) ⟨i + 1, p + 2, rfl, rfl, by omega, by omega, S, hW2, by
            rw [List.drop_eq_getElem_cons hi3] at hR; simpa [Ji, hb] using hR⟩
        refine Qe ?_; refine Zq ?_; refine Q8 (by kernel_rfl) ?_; refine Q4 gn rfl rfl ?_; refine QO gn rfl rfl rfl (by omega) (by omega) ?_; refine Q3 gn rfl rfl ?_; refine Q5 ?_
        exact Kc (s.toList.length - (p + 2)) (by omega) [(6, _), (7, _)] (by repeat (first | exact trivial | refine ⟨rfl, ?_⟩)) ⟨i, p + 2, rfl, rfl, by omega, by omega, S, hW2, by
          rw [List.drop_eq_getElem_cons hi3] at hR ⊢; simpa [Ji, hb] using hR⟩
      refine QU (n := 8) (dc := 64) (w := true) rfl hb64 rfl ?_; refine Z2 gn rfl rfl hb64 rfl ?_; refine Q5 ?_; refine Qa rfl (fun hb => ?_) fun hb => ?_
      · skip
        exact absurd hb (by decide)
      refine Qe ?_; refine Zq ?_; refine Q8 (by kernel_rfl) ?_; refine Q4 gn rfl rfl ?_; refine QO gn rfl rfl rfl (by omega) (by omega) ?_; refine Q3 gn rfl rfl ?_; refine Q5 ?_
      exact Kc (s.toList.length - (p + 2)) (by omega) [(6, _), (7, _)] (by repeat (first | exact trivial | refine ⟨rfl, ?_⟩)) ⟨i, p + 2, rfl, rfl, by omega, by omega, S, hW2, by
        have he : kinds.drop i = [] := List.drop_eq_nil_of_le (by simp at hb64; omega)
        rw [he] at hR ⊢; exact hR⟩
    refine Qj ?_; refine Qj ?_; have h63 : (bAt s p).toNat ≠ 63 := by simp at hb; omega
    have hW3 : wfL (s.toList.drop (p + 1)) = true := by rw [Q33 hp] at hW; exact QaD h42 h63 hW
    rw [Q33 hp] at hR; refine Z3 [(0, []), (1, []), (2, []), (3, []), (4, []), (5, []), (6, []), (7, []), (8, []), (9, []), (10, []), (11, []), (12, []), (13, []), (14, [])] (by kernel_rfl) (by kernel_rfl) (by kernel_rfl) (by kernel_rfl) ?_; refine Q4 gn rfl rfl ?_; refine Q4 gn rfl rfl ?_; refine QI gn rfl rfl (by kernel_rfl) ?_; refine Qq gn rfl rfl rfl ?_; refine Q4 gn rfl rfl ?_; refine QM (dc := 23) rfl (fun hb23 => ?_) fun hb23 => ?_
    · skip
      refine QU (n := 9) (dc := 23) (w := false) rfl hb23 rfl ?_; refine Zd gn rfl rfl hb23 rfl ?_; refine Q5 ?_; refine Qa rfl (fun hb => ?_) fun hb => ?_
      · skip
        refine Qd ?_; refine Q3 gn rfl rfl ?_; refine Q5 ?_; refine Qc ?_; refine ⟨.inl rfl, _, rfl, ?_⟩
        exact ⟨by
          have he : kinds.drop i = [] := List.drop_eq_nil_of_le (by simp at hb23; omega); rw [he, Q4W h42 h63] at hR
          rw [← hR0, ← hR]; rfl, S.e0⟩
      exact absurd hb (by decide)
    refine Q4 (gy rfl rfl rfl hb23) rfl rfl ?_; refine Q4 (gy rfl rfl rfl hb23) rfl rfl ?_; have hi3 : i < kinds.length := by simp at hb23; omega
    obtain ⟨kb, ko, kc', kcs, ke, km, hv2, hg2, hlt2, hat2⟩ := R.atM (by omega); have hka : ka = some ⟨kb, ko, none⟩ := by injection hv2
    rw [hka]; refine Q7 (zz := 1) (gy rfl rfl rfl hb23) rfl rfl rfl (by kernel_rfl) (by omega) (by omega) ?_; rw [← hka]; refine Q6 (gy rfl rfl rfl hb23) rfl rfl (by kernel_rfl) (S.old0 hg2 hlt2) (by rw [Int.toNat_natCast, Nat.mul_one]; exact hat2 i hi3) ?_; refine Q4 (gy rfl rfl rfl hb23) rfl rfl ?_; refine Q4 (gy rfl rfl rfl hb23) rfl rfl ?_; refine Yz (gy rfl rfl rfl hb23) rfl rfl rfl (by kernel_rfl) (by omega) (KR hp) ?_; refine Qb [_, _] (gy rfl rfl rfl hb23) rfl rfl (by kernel_rfl) rfl (C.mono (c68 (b := bAt s p)) ?_); rintro v g ⟨rfl, x⟩; have S := S.grow x; refine ⟨ag0, ?_⟩; refine ZT (gy rfl rfl rfl hb23) rfl rfl ?_; refine Z2 gn rfl rfl hb23 rfl ?_; refine Q5 ?_
    refine Qa rfl (fun hb => ?_) fun hb => ?_
    · skip
      refine Qd ?_; refine Q3 gn rfl rfl ?_; refine Q5 ?_; refine Qc ?_; refine ⟨.inl rfl, _, rfl, ?_⟩
      exact ⟨by
        rw [List.drop_eq_getElem_cons hi3, Q0K h42 h63, (show Kf _ _ = false by simpa using hb)] at hR
        rw [← hR0, ← hR]; rfl, S.e0⟩
    refine Qe ?_; refine Q8 (by kernel_rfl) ?_; refine Q4 gn rfl rfl ?_; refine QO gn rfl rfl rfl (by omega) (by omega) ?_; refine Q3 gn rfl rfl ?_; refine Q5 ?_; refine Zq ?_; refine Q8 (by kernel_rfl) ?_; refine Q4 gn rfl rfl ?_; refine QO gn rfl rfl rfl (by omega) (by omega) ?_; refine Q3 gn rfl rfl ?_; refine Q5 ?_
    exact Kc (s.toList.length - (p + 1)) (by omega) [(6, _), (7, _)] (by repeat (first | exact trivial | refine ⟨rfl, ?_⟩)) ⟨i + 1, p + 1, rfl, rfl, by omega, by omega, S, hW3, by
      rw [List.drop_eq_getElem_cons hi3, Q0K h42 h63, (show Kf _ _ = true by simpa using hb)] at hR
      exact hR⟩
  refine QZ ?_; refine Qt ?_; refine Qu ?_; refine QY ?_; refine Qd ?_; refine Q4 gn rfl rfl ?_; refine Q4 gn rfl rfl ?_; refine QI gn rfl rfl (by kernel_rfl) ?_; refine Qq gn rfl rfl rfl ?_; refine Q3 gn rfl rfl ?_; refine Q5 ?_; refine Qc ?_; refine ⟨.inl rfl, _, rfl, ?_⟩
  exact ⟨by
    have he : s.toList.drop p = [] := List.drop_eq_nil_of_le (by simp at hb; omega); rw [he] at hR; rw [← hR0, ← hR]; show Value.bool _ = Value.bool (kinds.drop i).isEmpty
    rw [← Q8b hi], S.e0⟩
end
end Go.Proofs.YtkidomfnmpnmaaaGreatDoor
