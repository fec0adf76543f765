/- Chapter 4: names that are the same. Conditions: none. Chapter 4: names turned to others: trees that may be stay so (plain). Conditions: names of at most 28 bytes. Chapter 4: twigs as rows; what Resolve gives, taken as names. Conditions: none. Chapter 4: the law of other names. Conditions: the tables; the argument's rows. Chapter 4: what is below a twig. Conditions: the tree lies in the memory. Chapter 4: the law of what names mean. Conditions: the tables; the argument's rows. Chapter 4: trees that are arguments, their rows of any capacity; the library's tables, as X has them. Conditions: none. -/
import Derived.Test.YtkidomfnmpnmaaaGreatDoorLd
import Derived.Test.YtkidomfnmpnmaaaGreatDoorXc
import Derived.Test.YtkidomfnmpnmaaaGreatDoorXd
import Derived.Test.YtkidomfnmpnmaaaGreatDoorTie
import Derived.Test.YtkidomfnmpnmaaaGreatDoorCards
import Derived.SevenTiedAt
import Derived.LaidMore
import Derived.LaidHandle
import Derived.ProofKit
namespace Go.Proofs.YtkidomfnmpnmaaaGreatDoor
open Go.X Go.Nam
structure Nv where
  me : Value
  ow : Value
  lo : Value
  cl : Value
  gl : Value
  co : Value
  ev : Value
  fu : Value
  cv : List (Value × List Nat)
abbrev Nv.v (x : Nv) (main : Int) : Value := .agg #[x.me, x.ow, x.lo, x.cl, x.gl, x.co, x.ev, x.fu, iV main]
structure NmAt (h : Hp) (st : Nst) (x : Nv) : Prop where
  me : ∃ bs, SlC 38 1 h x.me (meC st.means) st.means.length bs
  ow : RowV h x.ow (isV st.owners)
  lo : RowV h x.lo (isV st.lo)
  cl : RowV h x.cl (isV st.cl)
  gl : RowV h x.gl (isV st.gl)
  co : RowV h x.co (isV st.cp)
  ev : RowV h x.ev (isV st.ev)
  fu : ∃ bs, SlC 45 3 h x.fu (fuC st.funcs x.cv) st.funcs.length bs
  cv : x.cv.length = st.funcs.length
  cp : ∀ (j : Nat) f y, st.funcs[j]? = some f → x.cv[j]? = some y → RowV h y.1 (isV f.caps)
structure LessN (st : Nst) : Prop where
  means : st.means.length ≤ 1000000
  owners : st.owners.length ≤ 1000000
  lo : st.lo.length ≤ 1000000
  cl : st.cl.length ≤ 1000000
  gl : st.gl.length ≤ 1000000
  cp : st.cp.length ≤ 1000000
  ev : st.ev.length ≤ 1000000
  funcs : st.funcs.length ≤ 1000000
  caps : ∀ f, f ∈ st.funcs → f.caps.length ≤ 1000000
theorem Qcm : ∀ (l : List (Int × Int)) (rest : List Value) (i : Nat) (x : Int × Int), l[i]? = some x → ((meC l ++ rest).drop (i * 2)).take 2 = [iV x.1, iV x.2]
  | x :: l, rest, 0, x', h => by
    simp only [List.getElem?_cons_zero, Option.some.injEq] at h; subst h; rfl
  | x :: l, rest, i + 1, x', h => by
    have e : meC (x :: l) ++ rest = iV x.1 :: iV x.2 :: (meC l ++ rest) := rfl; rw [e, show (i + 1) * 2 = i * 2 + 1 + 1 by omega, List.drop_succ_cons, List.drop_succ_cons]; exact Qcm l rest i x' (by simpa using h)
  | [], _, _, _, h => by simp at h
section
variable {h : Hp} {st su : Nst} {x y : Nv}
end
end Go.Proofs.YtkidomfnmpnmaaaGreatDoor
namespace Go.Proofs.YtkidomfnmpnmaaaGreatDoor
open Go.X Go.Nam
section
variable {T : List Tw}
end
end Go.Proofs.YtkidomfnmpnmaaaGreatDoor
namespace Go.Proofs.YtkidomfnmpnmaaaGreatDoor
open Go.X Go.Nam
def st00 : Nst := ⟨[], [], [], [], [], [], [], [], 0, [], fun _ => none, [], 0, 0, 0⟩
def stN (st : Nst) : Nst := if st.wrong = [] then st else st00
end Go.Proofs.YtkidomfnmpnmaaaGreatDoor
namespace Go.Proofs.YtkidomfnmpnmaaaGreatDoor
open Go.X Go.Nam
theorem knows {h : Hp} (ht : QS 1 ZR h = true) : Q23 1 ZR [] h = some (.bool true, h) := by
  simp only [Q23, ht, cond_true]
theorem Q97 {T : List Tw} (M : MayV T) : ∃ n, n ≤ T.length ∧ Inv (vw T) (Z0 (vw T)) n [] (2 + (4 * (n - 0) - 1)) := by
  obtain ⟨n, hs⟩ := M.s; exact ⟨n, sub_le hs, (Q3c M.P (T.length + 1) (T.length + 1) (Nat.le_refl _) 0 n (Q1K (vw T)) [] 2 hs ⟨Q6B n, fun x hx => (by cases hx), ⟨fun h => absurd h M.r.1, fun h => absurd h M.r.2.1, fun h => absurd h M.r.2.2⟩⟩).1⟩
theorem Qdk {h : Hp} {st : Nst} {x : Nv} (N : NmAt h st x) (m : Int) : ([x.me, x.ow, x.lo, x.cl, x.gl, x.co, x.ev, x.fu, iV m] : List Value).all cellV = true := by
  obtain ⟨_, n1⟩ := N.me; obtain ⟨_, n8⟩ := N.fu; simp only [List.all_cons, List.all_nil, n1.cellV, n8.cellV, RowV.cellV N.ow, RowV.cellV N.lo, RowV.cellV N.cl, RowV.cellV N.gl, RowV.cellV N.co, RowV.cellV N.ev, Bool.true_and, Bool.and_true]; rfl
theorem got {h h' : Hp} {sv v : Value} {T : List Tw} (r : ResAt h h' sv T v) (hm : Q4b T = true) (hT : T.length ≤ 1000) (M : MayV T) : ∃ (x : Nv) (dg : Value) (bs : List Nat), v = .tuple #[x.v (stN (Z0 (vw T))).main, dg] ∧ NmAt h' (stN (Z0 (vw T))) x ∧ SlC 55 2 h' dg (wrC (Z0 (vw T)).wrong) (Z0 (vw T)).wrong.length bs ∧ LessN (stN (Z0 (vw T))) ∧ (Z0 (vw T)).wrong.length ≤ 1000000 := by
  obtain ⟨n, hn, I⟩ := Q97 M; have hbw := I.bw; have hbf := I.bf; have hlm := I.lm; have hlw := I.lw; have hTn : (vw T).n = T.length := rfl; rcases r with ⟨hf, _⟩ | ⟨_, rb, rs, w, E, S, hv⟩
  · rw [hm] at hf; cases hf
  unfold stN; generalize hst : Z0 (vw T) = st at *; rcases hv with ⟨hw, rfl⟩ | ⟨hw, rfl⟩
  · rw [if_neg hw]; refine ⟨⟨.slice none 0 0, .slice none 0 0, .slice none 0 0, .slice none 0 0, .slice none 0 0, .slice none 0 0, .slice none 0 0, .slice none 0 0, []⟩, w.wr.v, w.wr.b, rfl, ?_, ?_, ?_, by omega⟩
    · exact ⟨⟨[], .inl ⟨rfl, rfl, rfl, rfl⟩⟩, .inl ⟨rfl, _, _, rfl⟩, .inl ⟨rfl, _, _, rfl⟩, .inl ⟨rfl, _, _, rfl⟩, .inl ⟨rfl, _, _, rfl⟩, .inl ⟨rfl, _, _, rfl⟩, .inl ⟨rfl, _, _, rfl⟩, ⟨[], .inl ⟨rfl, rfl, rfl, rfl⟩⟩, rfl, fun j f y h1 _ => by simp [st00] at h1⟩
    · have := S.sl 9 rfl; rw [E.wr, E.wrn] at this; exact this
    exact ⟨Nat.zero_le _, Nat.zero_le _, Nat.zero_le _, Nat.zero_le _, Nat.zero_le _, Nat.zero_le _, Nat.zero_le _, Nat.zero_le _, fun f h => by cases h⟩
  rw [if_pos hw]; refine ⟨⟨w.me.v, w.ow.v, w.lo.v, w.cl.v, w.gl.v, w.co.v, w.ev.v, w.fu.v, w.cv⟩, .slice none 0 0, [], rfl, ?_, ?_, ?_, by omega⟩
  · refine ⟨⟨w.me.b, ?_⟩, ?_, ?_, ?_, ?_, ?_, ?_, ⟨w.fu.b, ?_⟩, E.cv, fun j f y h1 h2 => ?_⟩
    · have := S.sl 1 rfl; rw [E.me, E.men] at this; exact this
    · have := (S.sl 2 rfl).row; rw [E.ow] at this; exact this
    · have := (S.sl 3 rfl).row; rw [E.lo] at this; exact this
    · have := (S.sl 4 rfl).row; rw [E.cl] at this; exact this
    · have := (S.sl 5 rfl).row; rw [E.gl] at this; exact this
    · have := (S.sl 6 rfl).row; rw [E.co] at this; exact this
    · have := (S.sl 7 rfl).row; rw [E.ev] at this; exact this
    · have := S.sl 8 rfl; rw [E.fu, E.fun'] at this; exact this
    have hpc : w.cp[j]? = some (slR 3 0 y.1 (isV f.caps) f.caps.length y.2) := by rw [E.cp]; exact Qaj _ _ _ _ _ h1 h2
    exact (S.sl _ (Q44 (F := [_, _, _, _, _, _, _, _, _, _, _, _, _]) (B := w.sp) hpc)).row
  · rw [hw]; exact .inl ⟨rfl, rfl, rfl, rfl⟩
  obtain ⟨k1, k2, k3, k4⟩ := E.lsb; exact ⟨by omega, by omega, k1, k2, k3, E.cpb, k4, by omega, fun f hf => by have := I.bc f hf; omega⟩
section
variable {h : Hp} {sv : Value} {T : List Tw}
end
end Go.Proofs.YtkidomfnmpnmaaaGreatDoor
namespace Go.Proofs.YtkidomfnmpnmaaaGreatDoor
open Go.X Go.Nam
theorem vw_ks {T : List Tw} {j : Nat} {t : Tw} (h : T[j]? = some t) : (vw T).ks j = t.kids := by
  simp only [vw, Int.toNat_natCast, h]
theorem Qbm {T : List Tw} {ta : Option Addr} {tc : Nat} (hT : T.length ≤ 1000) {k a n : Nat} {h : Hp} (ih : ∀ {a n : Nat} {h : Hp}, TreeAt h (.slice ta T.length tc) T → sub (vw T) k a n → C nmE 23 [.agg #[.slice ta T.length tc], iV a] h fun v h' => v = iV n ∧ Ext h h') (X : TreeAt h (.slice ta T.length tc) T) (hs : sub (vw T) (k + 1) a n) : C nmE 23 [.agg #[.slice ta T.length tc], iV a] h fun v h' => v = iV n ∧ Ext h h' := by
  have hn : n ≤ T.length := sub_le hs; obtain ⟨ha, hk⟩ := hs; have ha : a < T.length := ha; rw [vw_ks (List.getElem?_eq_getElem ha)] at hk; obtain ⟨b, o, c, cs, e, m, hv, hg, hlb, hl6, hat⟩ := X.at (by omega); obtain ⟨rfl, rfl⟩ : ta = some ⟨b, o, none⟩ ∧ tc = c := by simp only [Value.slice.injEq, true_and] at hv; exact hv
  have hm := X.2 _ (List.getElem_mem ha); have hw := hat a ha; generalize T[a] = w at hm hw hk; obtain ⟨K, s, N, L, Co, ks, kids⟩ := w; simp only at hm hk; obtain ⟨ka, kc, rfl⟩ := hm.valM; have hkl : a + 1 + kids.length ≤ T.length := (Q3M (fun h => sub_le h) hk (show a + 1 ≤ T.length by omega)).2; have hw5 : cs[o + Int.toNat (a : Int) * 6 + 5]? = some (.slice ka kids.length kc) := by rw [Int.toNat_natCast]; exact Y0 hw (by omega) rfl
  refine Qf (fu := Tryz.f23) (by kernel_rfl) rfl ?_; have S := SH.start h; refine Qd ?_; refine Yh S gn rfl rfl fun b1 g nb1 S => ?_; refine Q3 gn rfl rfl ?_; refine Zw ?_; refine Q4 gn rfl rfl ?_; refine QO gn rfl rfl rfl (by omega) (by omega) ?_; refine Q3 gn rfl rfl ?_; refine Kz ?_; refine Q3 gn rfl rfl ?_; refine Q5 ?_; refine Qg ?_; refine QH [(5, _), (6, _)] [(1, _), (2, _)] (by repeat (first | exact trivial | refine ⟨rfl, ?_⟩)) (fun kk lv hh => ∃ (j p : Nat), lv = [(5, iV p), (6, iV j)] ∧ kk = kids.length - j ∧ j ≤ kids.length ∧ SH h [] [cR b1 (.cells [.slice (some ⟨b, o, none⟩) T.length tc] 24 0)] hh ∧ kds (sub (vw T) k) (kids.drop j) p n) (n := kids.length) ?_ fun kk lv hh hI => ?_
  · exact ⟨0, a + 1, rfl, rfl, Nat.zero_le _, S, hk⟩
  obtain ⟨j, p, rfl, hkk, hj, S, hp⟩ := hI; refine Qj ?_; refine Qd ?_; refine Q4 gn rfl rfl ?_; refine Q0 (off := 0) gn rfl rfl (by kernel_rfl) ?_; refine Q6 gn rfl rfl (by kernel_rfl) (S.cel 0 rfl) rfl ?_; refine Q4 gn rfl rfl ?_; refine Q7 (zz := 6) gn rfl rfl rfl (by kernel_rfl) (by omega) (by omega) ?_; refine Q0 (off := 5) gn rfl rfl (by kernel_rfl) ?_; refine Q6 gn rfl rfl (by kernel_rfl) (S.old0 hg hlb) hw5 ?_; refine QI gn rfl rfl (by kernel_rfl) ?_; refine Z9 gn rfl rfl rfl ?_; refine Q5 ?_; refine Qa rfl (fun hb => ?_) fun hb => ?_
  · skip
    refine Qe ?_; have hjl : j < kids.length := by simp at hb; omega
    rw [List.drop_eq_getElem_cons hjl] at hp; obtain ⟨hkp, q, hq1, hq2⟩ := hp; obtain ⟨kb, ko, kc', kcs, ke, km, hv2, hg2, hlt2, hat2⟩ := hm.atM (by omega); obtain rfl : ka = some ⟨kb, ko, none⟩ := by injection hv2
    refine Qj ?_; refine Qg ?_; refine Z3 [(0, []), (1, []), (2, []), (3, []), (4, []), (5, []), (6, []), (7, []), (8, []), (9, []), (10, []), (11, [])] (by kernel_rfl) (by kernel_rfl) (by kernel_rfl) (by kernel_rfl) ?_; refine Qs (n := 1) gn rfl rfl (by kernel_rfl) (by kernel_rfl) (S.cel 0 rfl) (Nat.le_refl _) ?_; refine Q0 (off := 0) gn rfl rfl (by kernel_rfl) ?_; refine Q6 gn rfl rfl (by kernel_rfl) (S.cel 0 rfl) rfl ?_; refine Q4 gn rfl rfl ?_; refine Q7 (zz := 6) gn rfl rfl rfl (by kernel_rfl) (by omega) (by omega) ?_; refine Q0 (off := 5) gn rfl rfl (by kernel_rfl) ?_; refine Q6 gn rfl rfl (by kernel_rfl) (S.old0 hg hlb) hw5 ?_; refine Q4 gn rfl rfl ?_
    refine Q7 (zz := 1) gn rfl rfl rfl (by kernel_rfl) (by omega) (by omega) ?_; refine Q6 gn rfl rfl (by kernel_rfl) (S.old0 hg2 hlt2) (by rw [Int.toNat_natCast, Nat.mul_one, hat2 j hjl, hkp]) ?_; refine Qb [_, _] gn rfl rfl (by kernel_rfl) rfl (C.mono (ih (X.ext S.e0) hq1) ?_); rintro v g ⟨rfl, x⟩; have S := S.grow x; refine ⟨ag0, ?_⟩; refine Q3 gn rfl rfl ?_; refine Q5 ?_; refine Q8 (by kernel_rfl) ?_; refine Q4 gn rfl rfl ?_; refine QO gn rfl rfl rfl (by omega) (by omega) ?_; refine Q3 gn rfl rfl ?_; refine Q5 ?_; exact Kc (kids.length - (j + 1)) (by omega) [(5, _), (6, _)] (by repeat (first | exact trivial | refine ⟨rfl, ?_⟩)) ⟨j + 1, q, rfl, rfl, by omega, S, hq2⟩
  refine QZ ?_; refine Qt ?_; refine Qu ?_; refine QY ?_; have hjl : kids.length ≤ j := by simp at hb; omega
  rw [List.drop_eq_nil_of_le hjl] at hp; obtain rfl : p = n := hp; refine Qd ?_; refine Q4 gn rfl rfl ?_; refine Q3 gn rfl rfl ?_; refine Q5 ?_; refine Qc ?_; refine ⟨.inl rfl, _, rfl, ?_⟩; exact ⟨rfl, S.e0⟩
theorem n23 {T : List Tw} {ta : Option Addr} {tc : Nat} (hT : T.length ≤ 1000) : ∀ (k : Nat) {a n : Nat} {h : Hp}, TreeAt h (.slice ta T.length tc) T → sub (vw T) k a n → C nmE 23 [.agg #[.slice ta T.length tc], iV a] h fun v h' => v = iV n ∧ Ext h h'
  | 0, _, _, _, _, hs => hs.elim
  | k + 1, _, _, _, X, hs => Qbm hT (n23 hT k) X hs
section
variable {T : List Tw} {ta : Option Addr} {tc : Nat} {h : Hp}
theorem n9 (hT : T.length ≤ 1000) (X : TreeAt h (.slice ta T.length tc) T) {i a n : Nat} (hs : Sb (vw T) a n) : C nmE 9 [.agg #[.slice ta T.length tc], iV i, iV a] h fun v h' => v = .bool (decide (a < i) && decide (i < n)) ∧ Ext h h' := by
  obtain ⟨k, hs⟩ := hs; refine Qf (fu := Tryz.f9) (by kernel_rfl) rfl ?_; have S := SH.start h; refine Qd ?_; refine Yh S gn rfl rfl fun b1 g nb1 S => ?_; refine Q3 gn rfl rfl ?_; refine Zw ?_; refine Q4 gn rfl rfl ?_; refine Q4 gn rfl rfl ?_; refine JB gn rfl rfl rfl ?_; refine Q4 gn rfl rfl ?_; refine QM (dc := 10) rfl (fun hb10 => ?_) fun hb10 => ?_
  · skip
    refine Q4 (gy rfl rfl rfl hb10) rfl rfl ?_; refine Qs (n := 1) (gy rfl rfl rfl hb10) rfl rfl (by kernel_rfl) (by kernel_rfl) (S.cel 0 rfl) (Nat.le_refl _) ?_; refine Q4 (gy rfl rfl rfl hb10) rfl rfl ?_; refine Qb [_, _] (gy rfl rfl rfl hb10) rfl rfl (by kernel_rfl) rfl (C.mono (n23 hT k (X.ext S.e0) hs) ?_); rintro v g ⟨rfl, x⟩; have S := S.grow x; refine ⟨ag0, ?_⟩; refine Z9 (gy rfl rfl rfl hb10) rfl rfl rfl ?_; refine Zd gn rfl rfl hb10 rfl ?_; refine Q3 gn rfl rfl ?_; refine Q5 ?_; refine Qc ?_; refine ⟨.inl rfl, _, rfl, ?_⟩
    exact ⟨by
      have h1 : ¬ i ≤ a := by simp at hb10; omega
      simp [show a < i by omega]; rfl, S.e0⟩
  refine QU (n := 5) (dc := 10) (w := true) rfl hb10 rfl ?_; refine Z2 gn rfl rfl hb10 rfl ?_; refine Q3 gn rfl rfl ?_; refine Q5 ?_; refine Qc ?_; refine ⟨.inl rfl, _, rfl, ?_⟩
  exact ⟨by
    have h1 : i ≤ a := by simp at hb10; omega
    simp [show ¬ a < i by omega]; rfl, S.e0⟩
end
end Go.Proofs.YtkidomfnmpnmaaaGreatDoor
namespace Go.Proofs.YtkidomfnmpnmaaaGreatDoor
open Go.X Go.Nam
theorem up_one {T : List Tw} (h : Q4b T = true) {u b : Nat} (hb : (u : Int) ∈ (vw T).ks b) (hbl : b < T.length) : b < u ∧ u < T.length ∧ IsUp T u b := by
  obtain ⟨_, o1, o2, _⟩ := Qdq h
  have hk : (u : Int) ∈ Yt T b := by
    rw [vw_ks (List.getElem?_eq_getElem hbl)] at hb; rw [Q24 (List.getElem?_eq_getElem hbl)]; exact hb
  have h1 := o1 b (Nat.zero_le _) hbl _ hk; refine ⟨by omega, by omega, .inl ⟨b, rfl, by omega, hbl, hk, fun i' hi' hm => ?_⟩⟩; have := o2 i' b _ (Nat.zero_le _) (by omega) (Nat.zero_le _) hbl hm hk; omega
theorem QcO {l : List Int} {v : Int} {q : Nat} (hq : q < l.length) (a : Bool) : ((a || decide (v ∈ l.take q)) || decide (l[q] = v)) = (a || decide (v ∈ l.take (q + 1))) := by
  rw [List.take_add_one, List.getElem?_eq_getElem hq]; simp only [Option.toList_some, List.mem_append, List.mem_singleton, Bool.or_assoc, ← Bool.decide_or]
  congr 2
  simp only [eq_comm]
section
variable {h : Hp} {sv : Value} {T : List Tw}
set_option maxHeartbeats 8000000 in
theorem n3 (B : Blk h) (Pw : Pow h) (X : TreeAt h sv T) (G : ∀ t, t ∈ T → RowG h t.ks (isV t.kids)) (hN : ∀ t, t ∈ T → -9223372036854775808 ≤ t.N ∧ t.N ≤ 9223372036854775807) (hk9 : ∀ t, t ∈ T → t.kids.length ≤ 9223372036854775807) : C nmE 3 [.agg #[sv]] h fun v _ => v = .bool true := by
  have Y := X; obtain ⟨ta, tc, rfl⟩ := X.val; refine Qf (fu := Tryz.f3) (by kernel_rfl) rfl ?_; have S := SH.start h; refine Qd ?_; refine Yh S gn rfl rfl fun b1 g nb1 S => ?_; refine Q3 gn rfl rfl ?_; refine Q5 ?_; refine KW [(1, Zx b1)] (fun lv hh => lv = [] ∧ SH h [] [cR b1 (.cells [.slice ta T.length tc] 24 0)] hh ∧ Q4O T 300 = false ∧ Q4b T = true) ?_ fun lv hh hJ => ?_
  · skip
    refine Qd ?_; refine Qs (n := 1) gn rfl rfl (by kernel_rfl) (by kernel_rfl) (S.cel 0 rfl) (Nat.le_refl _) ?_; refine Qb [_, _] gn rfl rfl (by kernel_rfl) rfl (C.mono (c8 (Y.ext S.e0)) ?_); rintro v g ⟨rfl, x⟩; have S := S.grow x; refine ⟨ag0, ?_⟩; refine Q4 gn rfl rfl ?_; refine QM (dc := 15) rfl (fun hb15 => ?_) fun hb15 => ?_
    · skip
      refine QU (n := 3) (dc := 15) (w := false) rfl hb15 rfl ?_; refine Zd gn rfl rfl hb15 rfl ?_; refine Q5 ?_; refine Qa rfl (fun hb => ?_) fun hb => ?_
      · skip
        refine Qd ?_; refine Qcl [] gn rfl rfl (by kernel_rfl) (by kernel_rfl) sm7 rfl (knows (B.ext S.e0).t) (.refl _) ag0 ?_; refine Q3 gn rfl rfl ?_; refine Q5 ?_; refine Qc ?_; refine ⟨.inl rfl, _, rfl, ?_⟩; exact rfl
      exact absurd hb (by decide)
    refine Qs (n := 1) (gy rfl rfl rfl hb15) rfl rfl (by kernel_rfl) (by kernel_rfl) (S.cel 0 rfl) (Nat.le_refl _) ?_; refine Qb [_] (gy rfl rfl rfl hb15) rfl rfl (by kernel_rfl) rfl (C.mono (c11 (Y.ext S.e0) (by have := (Q65 hb15).1; omega) (Q65 hb15).2) ?_); rintro v g ⟨rfl, x⟩; have S := S.grow x; refine ⟨ag0, ?_⟩; refine ZT (gy rfl rfl rfl hb15) rfl rfl ?_; refine Z2 gn rfl rfl hb15 rfl ?_; refine Q5 ?_; refine Qa rfl (fun hb => ?_) fun hb => ?_
    · skip
      refine Qd ?_; refine Qcl [] gn rfl rfl (by kernel_rfl) (by kernel_rfl) sm7 rfl (knows (B.ext S.e0).t) (.refl _) ag0 ?_; refine Q3 gn rfl rfl ?_; refine Q5 ?_; refine Qc ?_; refine ⟨.inl rfl, _, rfl, ?_⟩; exact rfl
    refine Qe ?_; exact Q1o [] (by repeat (first | exact trivial | refine ⟨rfl, ?_⟩)) ⟨rfl, S, hb15, by simpa using hb⟩
  obtain ⟨rfl, S, hmuch, hmay⟩ := hJ; obtain ⟨l1, s1⟩ := Q65 hmuch; have M := may_v hmay (by omega) s1; have hp := M.p; obtain ⟨b, o, c, cs, ee, m, hv, hg, hlb, hl6, hat⟩ := X.at hp; obtain ⟨rfl, rfl⟩ : ta = some ⟨b, o, none⟩ ∧ tc = c := by simp only [Value.slice.injEq, true_and] at hv; exact hv
  refine Qd ?_; refine Qs (n := 1) gn rfl rfl (by kernel_rfl) (by kernel_rfl) (S.cel 0 rfl) (Nat.le_refl _) ?_; refine Qb [_] gn rfl rfl (by kernel_rfl) rfl (C.mono (n8 (Y.ext S.e0) (fun t ht => (G t ht).ext S.e0) hN (B.ext S.e0) (Pw.ext S.e0) (by omega) s1 (fun _ => M)) ?_); rintro v gq ⟨x, r⟩; have S := S.grow x; obtain ⟨x1, dg1, bs1, rfl, N1, D1, L1, l1'⟩ := got r hmay (by omega) M; obtain ⟨da, dc, rfl⟩ := YV D1; have Sa := S; have k1 := Sa.cel 0 rfl; have kl := Sa.lt1 0 rfl; have B2 := B.ext S.e0; have Y2 := Y.ext S.e0; have hgT := (Sa.e0.get _ hlb).trans hg; have hlT := Nat.lt_of_lt_of_le hlb Sa.e0.n; have S := SH.start gq; refine ⟨ag0, ?_⟩; refine Q4 gn rfl rfl ?_
  refine Zu gn rfl rfl rfl ?_; refine Zu gn rfl rfl rfl ?_; refine Zz (zv := .agg #[.slice none 0 0, .slice none 0 0, .slice none 0 0, .slice none 0 0, .slice none 0 0, .slice none 0 0, .slice none 0 0, .slice none 0 0, .int .i64 0]) S gn rfl (by kernel_rfl) fun b2 g nb2 S => ?_; refine QV (n := 9) 0 S gn rfl rfl (Qdk N1 _) (by kernel_rfl) rfl rfl (by decide) rfl (fun g S => ag0) fun g S => ?_; refine Q3 gn rfl rfl ?_; refine Kz ?_; refine Q4 gn rfl rfl ?_; refine QI gn rfl rfl (by kernel_rfl) ?_; refine JB gn rfl rfl rfl ?_; refine Q5 ?_; refine Qa rfl (fun hb => ?_) fun hb => ?_
  · skip
    refine Qd ?_; refine Qcl [] gn rfl rfl (by kernel_rfl) (by kernel_rfl) sm7 rfl (knows (B2.ext S.e0).t) (.refl _) ag0 ?_; refine Q3 gn rfl rfl ?_; refine Q5 ?_; refine Qc ?_; refine ⟨.inl rfl, _, rfl, ?_⟩; exact rfl
  refine Qe ?_
  have hw : (Z0 (vw T)).wrong = [] := by
    have : ¬ 0 < (Z0 (vw T)).wrong.length := by simpa using hb
    exact List.eq_nil_of_length_eq_zero (by omega)
  have hst : stN (Z0 (vw T)) = Z0 (vw T) := if_pos hw; rw [hst] at N1 L1 S; obtain ⟨np, hnp, I⟩ := Q97 M; clear hst hw r; generalize Z0 (vw T) = st at *; obtain ⟨xme, xow, xlo, xcl, xgl, xco, xev, xfu, xcv⟩ := x1; obtain ⟨⟨xb1, x1⟩, x2, x3, x4, x5, x6, x7, ⟨xb8, x8⟩, x9, x10⟩ := N1; simp only at x1 x2 x8 x9 x10; obtain ⟨xma, xmc, rfl⟩ := YV x1; obtain ⟨xoa, xoc, rfl⟩ := x2.valM; obtain ⟨xfa, xfc, rfl⟩ := YV x8; have lm : st.means.length = T.length := I.lm; have lw : st.owners.length = T.length := I.lw; have l8 := L1.funcs
  have S : SH _ [] [cR b2 (.cells [.slice xma st.means.length xmc, .slice xoa st.owners.length xoc, xlo, xcl, xgl, xco, xev, .slice xfa st.funcs.length xfc, iV st.main] 32 0)] g := S; refine Qj ?_; refine Qd ?_; refine Q0 (off := 0) gn rfl rfl (by kernel_rfl) ?_; refine Q6 gn rfl rfl (by kernel_rfl) (S.cel 0 rfl) rfl ?_; refine QI gn rfl rfl (by kernel_rfl) ?_; refine Q0 (off := 0) gn rfl rfl (by kernel_rfl) ?_; refine Q6 gn rfl rfl (by kernel_rfl) (S.old0 k1 kl) rfl ?_; refine QI gn rfl rfl (by kernel_rfl) ?_; refine Q60 gn rfl rfl rfl ?_; refine Q4 gn rfl rfl ?_
  refine Yo (n := 7) rfl rfl rfl gn rfl (fun hb => by
      refine Q0 (off := 1) (gy rfl rfl rfl hb) rfl rfl (by kernel_rfl) ?_; refine Q6 (gy rfl rfl rfl hb) rfl rfl (by kernel_rfl) (S.cel 0 rfl) rfl ?_; refine QI (gy rfl rfl rfl hb) rfl rfl (by kernel_rfl) ?_; refine Q0 (off := 0) (gy rfl rfl rfl hb) rfl rfl (by kernel_rfl) ?_; refine Q6 (gy rfl rfl rfl hb) rfl rfl (by kernel_rfl) (S.old0 k1 kl) rfl ?_; refine QI (gy rfl rfl rfl hb) rfl rfl (by kernel_rfl) ?_; refine Q60 (gy rfl rfl rfl hb) rfl rfl rfl ?_
      exact Q5 ⟨rfl, rfl, 7, rfl, rfl⟩) ?_
  refine Q5 ?_; refine Qa rfl (fun hb => ?_) fun hb => ?_
  · skip
    refine Qd ?_; simp [lm, lw] at hb
  refine Qe ?_; refine Qj ?_; refine Qd ?_; refine Q3 gn rfl rfl ?_; refine Q5 ?_; refine Qg ?_; refine QH [(5, _)] [(1, _), (3, _)] (by repeat (first | exact trivial | refine ⟨rfl, ?_⟩)) (fun kk lv hh => ∃ i : Nat, lv = [(5, iV i)] ∧ kk = T.length - i ∧ i ≤ T.length ∧ SH gq [] [cR b2 (.cells [.slice xma st.means.length xmc, .slice xoa st.owners.length xoc, xlo, xcl, xgl, xco, xev, .slice xfa st.funcs.length xfc, iV st.main] 32 0)] hh) (n := T.length) ?_ fun kk lv hh hI => ?_
  · exact ⟨0, rfl, rfl, Nat.zero_le _, S⟩
  obtain ⟨i, rfl, hkk, hi, S⟩ := hI; refine Qj ?_; refine Qd ?_; refine Q4 gn rfl rfl ?_; refine Q0 (off := 0) gn rfl rfl (by kernel_rfl) ?_; refine Q6 gn rfl rfl (by kernel_rfl) (S.old0 k1 kl) rfl ?_; refine QI gn rfl rfl (by kernel_rfl) ?_; refine Z9 gn rfl rfl rfl ?_; refine Q5 ?_; refine Qa rfl (fun hb => ?_) fun hb => ?_
  · skip
    refine Qe ?_; have hi : i < T.length := by simp at hb; omega
    obtain ⟨fb1, fc1, hv1, hb1, hl1⟩ := Kl x1 (by omega); obtain ⟨rfl, rfl⟩ : xma = some ⟨fb1, 0, none⟩ ∧ xmc = fc1 := by simp only [Value.slice.injEq, true_and] at hv1; exact hv1
    obtain ⟨r1, m1, hg1⟩ := JE x1; have lt1 := x1.lt fb1 (by rw [hb1]; simp); obtain ⟨⟨mk, mv⟩, hmi⟩ : ∃ p, st.means[i]? = some p := ⟨_, List.getElem?_eq_getElem (by omega)⟩; have q1 : ((meC st.means ++ r1).drop (0 + Int.toNat (i : Int) * 2)).take 2 = [iV mk, iV mv] := by rw [Int.toNat_natCast, Nat.zero_add]; exact Qcm _ _ _ _ hmi
    refine Qj ?_; refine Qg ?_; refine Qd ?_; refine Q0 (off := 0) gn rfl rfl (by kernel_rfl) ?_; refine Q6 gn rfl rfl (by kernel_rfl) (S.cel 0 rfl) rfl ?_; refine Q4 gn rfl rfl ?_; refine Q7 (zz := 2) gn rfl rfl rfl (by kernel_rfl) (by omega) (by omega) ?_; refine Qs (n := 2) gn rfl rfl (by kernel_rfl) (by kernel_rfl) (S.old0 hg1 lt1) (by rw [List.length_append, hl1]; omega) ?_; rw [q1]; refine Zz (zv := .agg #[.int .i64 0, .int .i64 0]) S gn rfl (by kernel_rfl) fun b3 g nb3 S => ?_; refine QV (n := 2) 0 S gn rfl rfl (by kernel_rfl) (by kernel_rfl) rfl rfl (by decide) rfl (fun g S => ag0) fun g S => ?_; refine Kz ?_; refine Q0 (off := 0) gn rfl rfl (by kernel_rfl) ?_
    refine Q6 gn rfl rfl (by kernel_rfl) (S.cel 0 rfl) rfl ?_; refine Q60 gn rfl rfl rfl ?_; refine Q5 ?_; refine Qa rfl (fun hb => ?_) fun hb => ?_
    · skip
      refine QZ ?_; refine Qt ?_; refine QY ?_; refine Q8 (by kernel_rfl) ?_; refine Q4 gn rfl rfl ?_; refine QO gn rfl rfl rfl (by omega) (by omega) ?_; refine Q3 gn rfl rfl ?_; refine Q5 ?_; exact Kc (T.length - (i + 1)) (by omega) [(5, _)] (by repeat (first | exact trivial | refine ⟨rfl, ?_⟩)) ⟨i + 1, rfl, rfl, by omega, S.drop⟩
    refine Qe ?_; obtain rfl : mk = 1 := by simpa using hb
    obtain ⟨u, rfl, Mu⟩ := I.mn i mv hmi; obtain ⟨e1, hs1, he1⟩ := Mu.en; obtain ⟨bB, e2, hs2, hKB, hmB, hlB, hle⟩ := Mu.blk; have hu : u < T.length := by have := Mu.lt; omega
    have hu0 := Mu.lo; have hui := Mu.lt; obtain ⟨hBu, _, hup⟩ := up_one hmay hmB (by omega); have wK : T[u].K = 13 := by rw [← (Q3b (List.getElem?_eq_getElem hu)).2.1]; exact Mu.K
    have ws : T[u].s = T[i].s := by rw [← (Q3b (List.getElem?_eq_getElem hu)).1, ← (Q3b (List.getElem?_eq_getElem hi)).1]; exact Mu.s
    have c0 : cs[o + Int.toNat (u : Int) * 6 + 0]? = some (iV 13) := by rw [Int.toNat_natCast, ← wK]; exact Y0 (hat u hu) (by omega) rfl
    have c1 : cs[o + Int.toNat (u : Int) * 6 + 1]? = some (.string T[i].s) := by rw [Int.toNat_natCast, ← ws]; exact Y0 (hat u hu) (by omega) rfl
    have c2 : cs[o + Int.toNat (i : Int) * 6 + 1]? = some (.string T[i].s) := by rw [Int.toNat_natCast]; exact Y0 (hat i hi) (by omega) rfl
    refine Qj ?_; refine Z3 [(0, []), (1, []), (2, []), (3, []), (4, []), (5, []), (6, []), (7, []), (8, []), (9, []), (10, []), (11, []), (12, []), (13, []), (14, []), (15, []), (16, []), (17, []), (18, []), (19, []), (20, []), (21, []), (22, []), (23, []), (24, []), (25, []), (26, []), (27, []), (28, []), (29, []), (30, []), (31, []), (32, []), (33, []), (34, []), (35, []), (36, []), (37, []), (38, []), (39, []), (40, []), (41, []), (42, []), (43, []), (44, []), (45, []), (46, []), (47, []), (48, [43]), (49, []), (50, []), (51, [])] (by kernel_rfl) (by kernel_rfl) (by kernel_rfl) (by kernel_rfl) ?_; refine Q0 (off := 1) gn rfl rfl (by kernel_rfl) ?_
    refine Q6 gn rfl rfl (by kernel_rfl) (S.cel 0 rfl) rfl ?_; refine Z9 gn rfl rfl rfl ?_; refine Q4 gn rfl rfl ?_
    refine Yo (n := 4) rfl rfl rfl gn rfl (fun hb => by
        refine Q0 (off := 1) (gy rfl rfl rfl hb) rfl rfl (by kernel_rfl) ?_; refine Q6 (gy rfl rfl rfl hb) rfl rfl (by kernel_rfl) (S.cel 0 rfl) rfl ?_; refine Q4 (gy rfl rfl rfl hb) rfl rfl ?_; refine Y5 (gy rfl rfl rfl hb) rfl rfl rfl ?_
        exact Q5 ⟨rfl, rfl, 4, rfl, rfl⟩) ?_
    refine Q4 gn rfl rfl ?_
    refine Yo (n := 8) rfl rfl rfl gn rfl (fun hb => by
        refine Q0 (off := 0) (gy rfl rfl rfl hb) rfl rfl (by kernel_rfl) ?_; refine Q6 (gy rfl rfl rfl hb) rfl rfl (by kernel_rfl) (S.old0 k1 kl) rfl ?_; refine Q0 (off := 1) (gy rfl rfl rfl hb) rfl rfl (by kernel_rfl) ?_; refine Q6 (gy rfl rfl rfl hb) rfl rfl (by kernel_rfl) (S.cel 0 rfl) rfl ?_; refine Q7 (zz := 6) (gy rfl rfl rfl hb) rfl rfl rfl (by kernel_rfl) (by omega) (by omega) ?_; refine Q0 (off := 0) (gy rfl rfl rfl hb) rfl rfl (by kernel_rfl) ?_; refine Q6 (gy rfl rfl rfl hb) rfl rfl (by kernel_rfl) (S.old0 hgT hlT) c0 ?_; refine Q60 (gy rfl rfl rfl hb) rfl rfl rfl ?_
        exact Q5 ⟨rfl, rfl, 8, rfl, rfl⟩) ?_
    refine Q4 gn rfl rfl ?_
    refine Yo (n := 14) rfl rfl rfl gn rfl (fun hb => by
        refine Q0 (off := 0) (gy rfl rfl rfl hb) rfl rfl (by kernel_rfl) ?_; refine Q6 (gy rfl rfl rfl hb) rfl rfl (by kernel_rfl) (S.old0 k1 kl) rfl ?_; refine Q0 (off := 1) (gy rfl rfl rfl hb) rfl rfl (by kernel_rfl) ?_; refine Q6 (gy rfl rfl rfl hb) rfl rfl (by kernel_rfl) (S.cel 0 rfl) rfl ?_; refine Q7 (zz := 6) (gy rfl rfl rfl hb) rfl rfl rfl (by kernel_rfl) (by omega) (by omega) ?_; refine Q0 (off := 1) (gy rfl rfl rfl hb) rfl rfl (by kernel_rfl) ?_; refine Q6 (gy rfl rfl rfl hb) rfl rfl (by kernel_rfl) (S.old0 hgT hlT) c1 ?_; refine Q0 (off := 0) (gy rfl rfl rfl hb) rfl rfl (by kernel_rfl) ?_; refine Q6 (gy rfl rfl rfl hb) rfl rfl (by kernel_rfl) (S.old0 k1 kl) rfl ?_
        refine Q4 (gy rfl rfl rfl hb) rfl rfl ?_; refine Q7 (zz := 6) (gy rfl rfl rfl hb) rfl rfl rfl (by kernel_rfl) (by omega) (by omega) ?_; refine Q0 (off := 1) (gy rfl rfl rfl hb) rfl rfl (by kernel_rfl) ?_; refine Q6 (gy rfl rfl rfl hb) rfl rfl (by kernel_rfl) (S.old0 hgT hlT) c2 ?_; refine Qdi (gy rfl rfl rfl hb) rfl rfl rfl ?_
        exact Q5 ⟨rfl, rfl, 14, rfl, rfl⟩) ?_
    refine Q4 gn rfl rfl ?_; refine QM (dc := 96) rfl (fun hb96 => ?_) fun hb96 => ?_
    · skip
      exact absurd hb96 (by simp; omega)
    refine Qs (n := 1) (gy rfl rfl rfl hb96) rfl rfl (by kernel_rfl) (by kernel_rfl) (S.old0 k1 kl) (Nat.le_refl _) ?_; refine Q4 (gy rfl rfl rfl hb96) rfl rfl ?_; refine Q0 (off := 1) (gy rfl rfl rfl hb96) rfl rfl (by kernel_rfl) ?_; refine Q6 (gy rfl rfl rfl hb96) rfl rfl (by kernel_rfl) (S.cel 0 rfl) rfl ?_; refine Qb [_, _, _] (gy rfl rfl rfl hb96) rfl rfl (by kernel_rfl) rfl (C.mono (n9 (by omega) (Y2.ext S.e0) hs1) ?_); rintro v g ⟨rfl, x⟩; have S := S.grow x; refine ⟨ag0, ?_⟩; refine Z2 gn rfl rfl hb96 rfl ?_; refine Q4 gn rfl rfl ?_; refine QM (dc := 103) rfl (fun hb103 => ?_) fun hb103 => ?_
    · skip
      exact absurd hb103 (by simp; omega)
    refine Qs (n := 1) (gy rfl rfl rfl hb103) rfl rfl (by kernel_rfl) (by kernel_rfl) (S.old0 k1 kl) (Nat.le_refl _) ?_; refine Q4 (gy rfl rfl rfl hb103) rfl rfl ?_; refine Qs (n := 1) (gy rfl rfl rfl hb103) rfl rfl (by kernel_rfl) (by kernel_rfl) (S.old0 k1 kl) (Nat.le_refl _) ?_; refine Q0 (off := 1) (gy rfl rfl rfl hb103) rfl rfl (by kernel_rfl) ?_; refine Q6 (gy rfl rfl rfl hb103) rfl rfl (by kernel_rfl) (S.cel 0 rfl) rfl ?_; refine Qb [_, _] (gy rfl rfl rfl hb103) rfl rfl (by kernel_rfl) rfl (C.mono (c23 (Y2.ext S.e0) (by omega) hu hk9) ?_); rintro v g ⟨⟨r, rfl, hr⟩, x⟩; obtain rfl := hr.one hup; have S := S.grow x
    refine ⟨(ag1 (JA (n := 1) (gy rfl rfl rfl hb103) rfl (by kernel_rfl) (by kernel_rfl) (S.old0 k1 kl) (Nat.le_refl _) rfl Q6I) ag0), ?_⟩; refine Qb [_, _, _] (gy rfl rfl rfl hb103) rfl rfl (by kernel_rfl) rfl (C.mono (n9 (by omega) (Y2.ext S.e0) hs2) ?_); rintro v g ⟨rfl, x⟩; have S := S.grow x; refine ⟨ag0, ?_⟩; refine ZT (gy rfl rfl rfl hb103) rfl rfl ?_; refine Z2 gn rfl rfl hb103 rfl ?_; refine Q5 ?_; refine Qa rfl (fun hb => ?_) fun hb => ?_
    · skip
      refine Qd ?_; exact absurd hb (by simp; omega)
    refine Qe ?_; refine Q8 (by kernel_rfl) ?_; refine Q4 gn rfl rfl ?_; refine QO gn rfl rfl rfl (by omega) (by omega) ?_; refine Q3 gn rfl rfl ?_; refine Q5 ?_; exact Kc (T.length - (i + 1)) (by omega) [(5, _)] (by repeat (first | exact trivial | refine ⟨rfl, ?_⟩)) ⟨i + 1, rfl, rfl, by omega, S.drop⟩
  refine QZ ?_; refine Qt ?_; refine Qu ?_; refine QY ?_; refine Qj ?_; refine Qd ?_; refine Q3 gn rfl rfl ?_; refine Q5 ?_; refine Qg ?_; refine QH [(7, _)] [(3, _)] (by repeat (first | exact trivial | refine ⟨rfl, ?_⟩)) (fun kk lv hh => ∃ i : Nat, lv = [(7, iV i)] ∧ kk = st.funcs.length - i ∧ i ≤ st.funcs.length ∧ SH gq [] [cR b2 (.cells [.slice xma st.means.length xmc, .slice xoa st.owners.length xoc, xlo, xcl, xgl, xco, xev, .slice xfa st.funcs.length xfc, iV st.main] 32 0)] hh) (n := st.funcs.length) ?_ fun kk lv hh hI => ?_
  · exact ⟨0, rfl, rfl, Nat.zero_le _, S⟩
  obtain ⟨i, rfl, hkk, hi, S⟩ := hI; refine Qj ?_; refine Qd ?_; refine Q4 gn rfl rfl ?_; refine Q0 (off := 7) gn rfl rfl (by kernel_rfl) ?_; refine Q6 gn rfl rfl (by kernel_rfl) (S.cel 0 rfl) rfl ?_; refine QI gn rfl rfl (by kernel_rfl) ?_; refine Z9 gn rfl rfl rfl ?_; refine Q5 ?_; refine Qa rfl (fun hb => ?_) fun hb => ?_
  · skip
    refine Qe ?_; have hi : i < st.funcs.length := by simp at hb; omega
    obtain ⟨fb1, fc1, hv1, hb1, hl1⟩ := Kl x8 (by omega); obtain ⟨rfl, rfl⟩ : xfa = some ⟨fb1, 0, none⟩ ∧ xfc = fc1 := by simp only [Value.slice.injEq, true_and] at hv1; exact hv1
    obtain ⟨r1, m1, hg1⟩ := JE x8; have lt1 : fb1 < gq.n := x8.lt fb1 (by rw [hb1]; simp); obtain ⟨f, hf⟩ : ∃ f, st.funcs[i]? = some f := ⟨_, List.getElem?_eq_getElem hi⟩; obtain ⟨cx, hcx⟩ : ∃ c, xcv[i]? = some c := ⟨_, List.getElem?_eq_getElem (by omega)⟩; have rx := x10 i f cx hf hcx; have lcp := L1.caps f (List.mem_of_getElem? hf); have fup := I.up i f hf; have q1 : ((fuC st.funcs xcv ++ r1).drop (0 + Int.toNat (i : Int) * 4)).take 4 = [iV f.tw, iV f.up, .string f.nm, cx.1] := by rw [Int.toNat_natCast, Nat.zero_add]; exact Q0g _ _ _ _ _ _ hf hcx
    obtain ⟨ca, cc, hca⟩ := rx.valM; rw [hca] at q1 rx; refine Qj ?_; refine Qg ?_; refine Qd ?_; refine Q0 (off := 7) gn rfl rfl (by kernel_rfl) ?_; refine Q6 gn rfl rfl (by kernel_rfl) (S.cel 0 rfl) rfl ?_; refine Q4 gn rfl rfl ?_; refine Q7 (zz := 4) gn rfl rfl rfl (by kernel_rfl) (by omega) (by omega) ?_; refine Qs (n := 4) gn rfl rfl (by kernel_rfl) (by kernel_rfl) (S.old0 hg1 lt1) (by rw [List.length_append, hl1]; omega) ?_; rw [q1]; refine Zz (zv := .agg #[.int .i64 0, .int .i64 0, .string .empty, .slice none 0 0]) S gn rfl (by kernel_rfl) fun b4 g nb4 S => ?_; refine QV (n := 4) 0 S gn rfl rfl (by kernel_rfl) (by kernel_rfl) rfl rfl (by decide) rfl (fun g S => ag0) fun g S => ?_
    refine Zw ?_; refine Q3 gn rfl rfl ?_; refine Q5 ?_; refine Qg ?_; refine QH [(9, _)] [(3, _), (7, _), (8, _)] (by repeat (first | exact trivial | refine ⟨rfl, ?_⟩)) (fun kk lv hh => ∃ k : Nat, lv = [(9, iV k)] ∧ kk = f.caps.length - k ∧ k ≤ f.caps.length ∧ SH gq [] [cR b4 (.cells [iV f.tw, iV f.up, .string f.nm, .slice ca f.caps.length cc] 45 0), cR b2 (.cells [.slice xma st.means.length xmc, .slice xoa st.owners.length xoc, xlo, xcl, xgl, xco, xev, .slice (some ⟨fb1, 0, none⟩) st.funcs.length xfc, iV st.main] 32 0)] hh) (n := f.caps.length) ?_ fun kk lv hh hI => ?_
    · exact ⟨0, rfl, rfl, Nat.zero_le _, S⟩
    obtain ⟨k, rfl, hkk2, hk, S⟩ := hI; refine Qj ?_; refine Qd ?_; refine Q4 gn rfl rfl ?_; refine Q0 (off := 3) gn rfl rfl (by kernel_rfl) ?_; refine Q6 gn rfl rfl (by kernel_rfl) (S.cel 0 rfl) rfl ?_; refine QI gn rfl rfl (by kernel_rfl) ?_; refine Z9 gn rfl rfl rfl ?_; refine Q5 ?_; refine Qa rfl (fun hb => ?_) fun hb => ?_
    · skip
      refine Qe ?_; have hk : k < f.caps.length := by simp at hb; omega
      obtain ⟨kb, ko, kc, kcs, ke, km, hv3, hg3, lt3, hat3⟩ := rx.atM (by omega); obtain rfl : ca = some ⟨kb, ko, none⟩ := by injection hv3
      have q3 := hat3 k hk; have CK := I.cf i f hf f.caps[k] (List.getElem_mem hk); obtain ⟨hup0, u, hvu, _, ow, how, hown, hcap⟩ := CK; rw [hvu] at q3; have hul : u < st.owners.length := (List.getElem?_eq_some_iff.1 how).1; obtain ⟨ob, oo, oc, ocs, oe, om, hv4, hg4, lt4, hat4⟩ := x2.atM (by omega); obtain rfl : xoa = some ⟨ob, oo, none⟩ := by injection hv4
      have q4 : ocs[oo + Int.toNat (u : Int) * 1]? = some (iV ow) := by rw [Int.toNat_natCast, Nat.mul_one, hat4 u hul]; rw [List.getElem?_eq_getElem hul] at how; injection how with how; rw [how]
      obtain ⟨gf, hgf⟩ : ∃ g, st.funcs[f.up.toNat]? = some g := ⟨_, List.getElem?_eq_getElem (by omega)⟩; obtain ⟨gx, hgx⟩ : ∃ c, xcv[f.up.toNat]? = some c := ⟨_, List.getElem?_eq_getElem (by omega)⟩; have rg := x10 f.up.toNat gf gx hgf hgx; have lgp := L1.caps gf (List.mem_of_getElem? hgf); obtain ⟨da', dc', hda⟩ := rg.valM
      have q5 : (fuC st.funcs xcv ++ r1)[0 + Int.toNat f.up * 4 + 3]? = some (.slice da' gf.caps.length dc') := by
        rw [Nat.zero_add]; exact Y0 (p := Int.toNat f.up * 4) (z := 4) (f := 3) (r := [iV gf.tw, iV gf.up, .string gf.nm, gx.1]) (Q0g _ _ _ _ _ _ hgf hgx) (by omega) (by rw [hda]; rfl)
      refine Qj ?_; refine Qg ?_; refine Qd ?_; refine Q0 (off := 3) gn rfl rfl (by kernel_rfl) ?_; refine Q6 gn rfl rfl (by kernel_rfl) (S.cel 0 rfl) rfl ?_; refine Q4 gn rfl rfl ?_; refine Q7 (zz := 1) gn rfl rfl rfl (by kernel_rfl) (by omega) (by omega) ?_; refine Q6 gn rfl rfl (by kernel_rfl) (S.old0 hg3 lt3) (by rw [Int.toNat_natCast, Nat.mul_one]; exact q3) ?_; refine Q3 gn rfl rfl ?_; refine Kz ?_; refine Q0 (off := 1) gn rfl rfl (by kernel_rfl) ?_; refine Q6 gn rfl rfl (by kernel_rfl) (S.cel 0 rfl) rfl ?_; refine Z9 gn rfl rfl rfl ?_; refine Q4 gn rfl rfl ?_
      refine Yo (n := 4) rfl rfl rfl gn rfl (fun hb => by
          refine Q0 (off := 1) (gy rfl rfl rfl hb) rfl rfl (by kernel_rfl) ?_; refine Q6 (gy rfl rfl rfl hb) rfl rfl (by kernel_rfl) (S.cel 0 rfl) rfl ?_; refine Q4 (gy rfl rfl rfl hb) rfl rfl ?_; refine Y5 (gy rfl rfl rfl hb) rfl rfl rfl ?_
          exact Q5 ⟨rfl, rfl, 4, rfl, rfl⟩) ?_
      refine Q4 gn rfl rfl ?_
      refine Yo (n := 2) rfl rfl rfl gn rfl (fun hb => by
          refine Q4 (gy rfl rfl rfl hb) rfl rfl ?_; refine Z9 (gy rfl rfl rfl hb) rfl rfl rfl ?_
          exact Q5 ⟨rfl, rfl, 2, rfl, rfl⟩) ?_
      refine Q4 gn rfl rfl ?_
      refine Yo (n := 5) rfl rfl rfl gn rfl (fun hb => by
          refine Q4 (gy rfl rfl rfl hb) rfl rfl ?_; refine Q0 (off := 1) (gy rfl rfl rfl hb) rfl rfl (by kernel_rfl) ?_; refine Q6 (gy rfl rfl rfl hb) rfl rfl (by kernel_rfl) (S.cel 1 rfl) rfl ?_; refine QI (gy rfl rfl rfl hb) rfl rfl (by kernel_rfl) ?_; refine Y5 (gy rfl rfl rfl hb) rfl rfl rfl ?_
          exact Q5 ⟨rfl, rfl, 5, rfl, rfl⟩) ?_
      refine Q5 ?_; refine Qa rfl (fun hb => ?_) fun hb => ?_
      · skip
        refine Qd ?_; exact absurd hb (by simp; omega)
      refine Qe ?_; refine Qj ?_; refine Z3 [(0, []), (1, []), (2, []), (3, []), (4, []), (5, []), (6, []), (7, []), (8, [])] (by kernel_rfl) (by kernel_rfl) (by kernel_rfl) (by kernel_rfl) ?_; refine Q0 (off := 1) gn rfl rfl (by kernel_rfl) ?_; refine Q6 gn rfl rfl (by kernel_rfl) (S.cel 1 rfl) rfl ?_; refine Q4 gn rfl rfl ?_; refine Q7 (zz := 1) gn rfl rfl rfl (by kernel_rfl) (by omega) (by omega) ?_; refine Q6 gn rfl rfl (by kernel_rfl) (S.old0 hg4 lt4) q4 ?_; refine Q0 (off := 1) gn rfl rfl (by kernel_rfl) ?_; refine Q6 gn rfl rfl (by kernel_rfl) (S.cel 0 rfl) rfl ?_; refine Qq gn rfl rfl rfl ?_; refine Q3 gn rfl rfl ?_; refine Kz ?_; refine Q3 gn rfl rfl ?_; refine Q5 ?_; refine Qg ?_
      refine QH [(11, _), (12, _)] [(3, _), (7, _), (8, _), (9, _), (10, _)] (by repeat (first | exact trivial | refine ⟨rfl, ?_⟩)) (fun kk lv hh => ∃ q : Nat, lv = [(11, .bool (decide (ow = f.up) || decide ((u : Int) ∈ gf.caps.take q))), (12, iV q)] ∧ kk = gf.caps.length - q ∧ q ≤ gf.caps.length ∧ SH gq [] [cR b4 (.cells [iV f.tw, iV f.up, .string f.nm, .slice (some ⟨kb, ko, none⟩) f.caps.length cc] 45 0), cR b2 (.cells [.slice xma st.means.length xmc, .slice (some ⟨ob, oo, none⟩) st.owners.length xoc, xlo, xcl, xgl, xco, xev, .slice (some ⟨fb1, 0, none⟩) st.funcs.length xfc, iV st.main] 32 0)] hh) (n := gf.caps.length) ?_ fun kk lv hh hI => ?_
      · exact ⟨0, by simp, rfl, Nat.zero_le _, S⟩
      obtain ⟨q, rfl, hkk3, hq, S⟩ := hI; refine Qj ?_; refine Qd ?_; refine Q4 gn rfl rfl ?_; refine Q0 (off := 7) gn rfl rfl (by kernel_rfl) ?_; refine Q6 gn rfl rfl (by kernel_rfl) (S.cel 1 rfl) rfl ?_; refine Q0 (off := 1) gn rfl rfl (by kernel_rfl) ?_; refine Q6 gn rfl rfl (by kernel_rfl) (S.cel 0 rfl) rfl ?_; refine Q7 (zz := 4) gn rfl rfl rfl (by kernel_rfl) (by omega) (by omega) ?_; refine Q0 (off := 3) gn rfl rfl (by kernel_rfl) ?_; refine Q6 gn rfl rfl (by kernel_rfl) (S.old0 hg1 lt1) q5 ?_; refine QI gn rfl rfl (by kernel_rfl) ?_; refine Z9 gn rfl rfl rfl ?_; refine Q5 ?_; refine Qa rfl (fun hb => ?_) fun hb => ?_
      · skip
        refine Qe ?_; have hq : q < gf.caps.length := by simp at hb; omega
        obtain ⟨gb, go, gc, gcs, ge, gm, hv5, hg5, lt5, hat5⟩ := rg.atM (by omega); rw [hda] at hv5; obtain rfl : da' = some ⟨gb, go, none⟩ := by injection hv5
        have q6 : gcs[go + Int.toNat (q : Int) * 1]? = some (iV gf.caps[q]) := by rw [Int.toNat_natCast, Nat.mul_one]; exact hat5 q hq
        refine Qj ?_; refine Qg ?_; refine Q8 (by kernel_rfl) ?_; refine Q4 gn rfl rfl ?_; refine Q4 gn rfl rfl ?_
        refine Yo (n := 12) rfl rfl rfl gn rfl (fun hb => by
            refine Q0 (off := 7) (gy rfl rfl rfl hb) rfl rfl (by kernel_rfl) ?_; refine Q6 (gy rfl rfl rfl hb) rfl rfl (by kernel_rfl) (S.cel 1 rfl) rfl ?_; refine Q0 (off := 1) (gy rfl rfl rfl hb) rfl rfl (by kernel_rfl) ?_; refine Q6 (gy rfl rfl rfl hb) rfl rfl (by kernel_rfl) (S.cel 0 rfl) rfl ?_; refine Q7 (zz := 4) (gy rfl rfl rfl hb) rfl rfl rfl (by kernel_rfl) (by omega) (by omega) ?_; refine Q0 (off := 3) (gy rfl rfl rfl hb) rfl rfl (by kernel_rfl) ?_; refine Q6 (gy rfl rfl rfl hb) rfl rfl (by kernel_rfl) (S.old0 hg1 lt1) q5 ?_; refine Q4 (gy rfl rfl rfl hb) rfl rfl ?_; refine Q7 (zz := 1) (gy rfl rfl rfl hb) rfl rfl rfl (by kernel_rfl) (by omega) (by omega) ?_
            refine Q6 (gy rfl rfl rfl hb) rfl rfl (by kernel_rfl) (S.old0 hg5 lt5) q6 ?_; refine Q4 (gy rfl rfl rfl hb) rfl rfl ?_; refine Qq (gy rfl rfl rfl hb) rfl rfl rfl ?_
            exact Q5 ⟨rfl, rfl, 12, rfl, rfl⟩) ?_
        refine Q3 gn rfl rfl ?_; refine Q5 ?_; refine Q8 (by kernel_rfl) ?_; refine Q4 gn rfl rfl ?_; refine QO gn rfl rfl rfl (by omega) (by omega) ?_; refine Q3 gn rfl rfl ?_; refine Q5 ?_; exact Kc (gf.caps.length - (q + 1)) (by omega) [(11, _), (12, _)] (by repeat (first | exact trivial | refine ⟨rfl, ?_⟩)) ⟨q + 1, by rw [← QcO hq]; rfl, rfl, by omega, S⟩
      refine QZ ?_; refine Qt ?_; refine Qu ?_; refine QY ?_; refine Qj ?_; have hqe : gf.caps.length ≤ q := by simp at hb; omega
      rw [List.take_of_length_le hqe]
      have hthere : (decide (ow = f.up) || decide ((u : Int) ∈ gf.caps)) = true := by
        rcases hcap with e | ⟨g', h1, h2⟩
        · rw [e]; simp
        rw [hgf] at h1; cases h1; rw [hvu] at h2; simp [h2]
      rw [hthere]; refine Q8 (by kernel_rfl) ?_; refine Q4 gn rfl rfl ?_; refine ZT gn rfl rfl ?_; refine Q4 gn rfl rfl ?_
      refine Yo (n := 7) rfl rfl rfl gn rfl (fun hb => by
          refine Q0 (off := 1) (gy rfl rfl rfl hb) rfl rfl (by kernel_rfl) ?_; refine Q6 (gy rfl rfl rfl hb) rfl rfl (by kernel_rfl) (S.cel 1 rfl) rfl ?_; refine Q4 (gy rfl rfl rfl hb) rfl rfl ?_; refine Q7 (zz := 1) (gy rfl rfl rfl hb) rfl rfl rfl (by kernel_rfl) (by omega) (by omega) ?_; refine Q6 (gy rfl rfl rfl hb) rfl rfl (by kernel_rfl) (S.old0 hg4 lt4) q4 ?_; refine Q4 (gy rfl rfl rfl hb) rfl rfl ?_; refine Qq (gy rfl rfl rfl hb) rfl rfl rfl ?_
          exact Q5 ⟨rfl, rfl, 7, rfl, rfl⟩) ?_
      refine Q5 ?_; refine Qa rfl (fun hb => ?_) fun hb => ?_
      · skip
        refine Qd ?_; exact absurd hb (by simp; omega)
      refine Qe ?_; refine Q8 (by kernel_rfl) ?_; refine Q4 gn rfl rfl ?_; refine QO gn rfl rfl rfl (by omega) (by omega) ?_; refine Q3 gn rfl rfl ?_; refine Q5 ?_; exact Kc (f.caps.length - (k + 1)) (by omega) [(9, _)] (by repeat (first | exact trivial | refine ⟨rfl, ?_⟩)) ⟨k + 1, rfl, rfl, by omega, S⟩
    refine QZ ?_; refine Qt ?_; refine Qu ?_; refine QY ?_; refine Q8 (by kernel_rfl) ?_; refine Q4 gn rfl rfl ?_; refine QO gn rfl rfl rfl (by omega) (by omega) ?_; refine Q3 gn rfl rfl ?_; refine Q5 ?_; exact Kc (st.funcs.length - (i + 1)) (by omega) [(7, _)] (by repeat (first | exact trivial | refine ⟨rfl, ?_⟩)) ⟨i + 1, rfl, rfl, by omega, S.drop⟩
  refine QZ ?_; refine Qt ?_; refine Qu ?_; refine QY ?_; refine Qd ?_; refine Qcl [] gn rfl rfl (by kernel_rfl) (by kernel_rfl) sm7 rfl (knows (B2.ext S.e0).t) (.refl _) ag0 ?_; refine Q3 gn rfl rfl ?_; refine Q5 ?_; refine Qc ?_; refine ⟨.inl rfl, _, rfl, ?_⟩; exact rfl
end
end Go.Proofs.YtkidomfnmpnmaaaGreatDoor
namespace Go.Proofs.YtkidomfnmpnmaaaGreatDoor
open Go.ChangeShapes Go.WideShapes Go.ChangeAt Go.RowKit Go.Deep Go.X
set_option maxRecDepth 100000
theorem QaQ : Tryz.prog.underlying 4 = some .bool := by kernel_rfl
theorem QcH : ownKnob Tryz.prog.godebug = none := by kernel_rfl
theorem QaL : laidOutB Tryz.prog = true := by kernel_rfl
theorem Q5D : Tryz.prog.underlying 3 = some (.int .i64) := by kernel_rfl
theorem QcI : Tryz.prog.underlying 2 = some (.int .i64) := by kernel_rfl
theorem QaM : Tryz.prog.underlying 39 = some (.int .i64) := by kernel_rfl
theorem QcG : Tryz.prog.underlying 9 = some .string := by kernel_rfl
theorem QaN : Tryz.prog.underlying 29 = some (.slice 3) := by kernel_rfl
theorem Q1G : Tryz.prog.underlying 22 = some (.slice 41) := by kernel_rfl
theorem QcL : Tryz.prog.cellsOf 24 = 1 := by kernel_rfl
theorem QaO : Tryz.prog.cellTypes Tryz.prog.depth 24 = some [22] := by kernel_rfl
theorem QcM : Tryz.prog.cellsOf 22 = 1 := by kernel_rfl
theorem Q5E : Tryz.prog.cellsOf 41 = 6 := by kernel_rfl
theorem QcK : Tryz.prog.cellsOf 39 = 1 := by kernel_rfl
theorem tre_c9 : Tryz.prog.cellsOf 9 = 1 := by kernel_rfl
theorem tre_c2 : Tryz.prog.cellsOf 2 = 1 := by kernel_rfl
theorem Q6x : Tryz.prog.cellsOf 3 = 1 := by kernel_rfl
theorem QcJ : Tryz.prog.cellsOf 29 = 1 := by kernel_rfl
noncomputable def treeFs : Array Field := match Tryz.prog.underlying 24 with | some (.struct fs) => fs | _ => #[]
theorem Q1F : Tryz.prog.underlying 24 = some (.struct treeFs) := by kernel_rfl
noncomputable def twigFs : Array Field := match Tryz.prog.underlying 41 with | some (.struct fs) => fs | _ => #[]
theorem ZL : Tryz.prog.underlying 41 = some (.struct twigFs) := by kernel_rfl
theorem Q4j : Tryz.prog.globalNamed "strings.asciiSpace" = some 1 := by kernel_rfl
theorem QaK : (Tryz.prog.globals[1]?).map (·.type) = some 172 := by kernel_rfl
theorem QcN : Tryz.prog.underlying 172 = some (.array 256 5) := by kernel_rfl
theorem tre_u8 : Tryz.prog.underlying 5 = some (.int .u8) := by kernel_rfl
theorem QaP : Tryz.prog.cellsOf 5 = 1 := by kernel_rfl
theorem Q8z : Tryz.prog.cellsOf 172 = 256 := by kernel_rfl
def spaceI : List Int := (List.range 256).map fun i => cond (Nat.beq i 32 || (Nat.ble 9 i && Nat.ble i 13)) 1 0
theorem Q8I : spaceI.map (Value.int .u8) = ZR := by unfold spaceI ZR; rw [List.map_map]; apply List.map_congr_left; intro i _; simp only [Function.comp]
theorem Qc5 {L : List (String × DataW Unit)} (hb : ((L.filter fun x => x.2.handleName?.isNone).filter fun x => x.1 == "strings.asciiSpace") = [("strings.asciiSpace", Lib.tabData .u8 spaceI)]) {W : World} (h : laidMetH Tryz.prog L W) : QS 1 ZR (Hp.all W) = true := by
  have h1 := (laidMetH_iff.1 h).1.filter fun x => x.1 == "strings.asciiSpace"; rw [hb] at h1; have hT : Lib.TabIs Tryz.prog W "strings.asciiSpace" .u8 spaceI := Lib.tabIs_of_head Q4j QaK QcN tre_u8 QaP Q8z (rest := []) h1; obtain ⟨e, fr, hg⟩ := Q4m Q4j hT
  have hget : (Hp.all W).get 1 = some (.cells ZR e 1) := by
    rw [Hp.all_get, Jl, hg]; simp only [Option.some.injEq, AObj.cells.injEq, and_true]; rw [← Q8I, List.map_map]; refine List.map_congr_left fun n _ => ?_; exact Q3i (.int _ _)
  have hs : QS 1 ZR (Hp.empty.put 1 (.cells ZR 0 1)) = true := by kernel_rfl
  unfold QS at *; rw [hget]; rw [Hp.get_put, if_pos rfl] at hs; exact hs
theorem blk_of {L : List (String × DataW Unit)} (hb : ((L.filter fun x => x.2.handleName?.isNone).filter fun x => x.1 == "strings.asciiSpace") = [("strings.asciiSpace", Lib.tabData .u8 spaceI)]) {W : World} (h : laidMetH Tryz.prog L W) : Blk (Hp.all W) :=
  ⟨Qc5 hb h, by have := Q3d W; show 1 < Q4k W; omega⟩
theorem Q4h : Tryz.prog.globalNamed "internal/strconv.uint64pow10" = some 0 := by kernel_rfl
theorem QaI : (Tryz.prog.globals[0]?).map (·.type) = some 164 := by kernel_rfl
theorem QcF : Tryz.prog.underlying 164 = some (.array 20 153) := by kernel_rfl
theorem QcE : Tryz.prog.underlying 153 = some (.int .u64) := by kernel_rfl
theorem QaJ : Tryz.prog.cellsOf 153 = 1 := by kernel_rfl
theorem Q8w : Tryz.prog.cellsOf 164 = 20 := by kernel_rfl
theorem pow_of {L : List (String × DataW Unit)} (hb : ((L.filter fun x => x.2.handleName?.isNone).filter fun x => x.1 == "internal/strconv.uint64pow10") = [("internal/strconv.uint64pow10", Lib.tabData .u64 Lib.pow10Tab)]) {W : World} (h : laidMetH Tryz.prog L W) : Pow (Hp.all W) := by
  refine ⟨?_, by have := Q3d W; show 0 < Q4k W; omega⟩; have h1 := (laidMetH_iff.1 h).1.filter fun x => x.1 == "internal/strconv.uint64pow10"; rw [hb] at h1; have hT : Lib.TabIs Tryz.prog W "internal/strconv.uint64pow10" .u64 Lib.pow10Tab := Lib.tabIs_of_head Q4h QaI QcF QcE QaJ Q8w (rest := []) h1; obtain ⟨e, fr, hg⟩ := Q4m Q4h hT
  have hget : (Hp.all W).get 0 = some (.cells (Lib.pow10Tab.map (Value.int .u64)) e 1) := by
    rw [Hp.all_get, Jl, hg]; simp only [Option.some.injEq, AObj.cells.injEq, and_true]; rw [List.map_map]; refine List.map_congr_left fun n _ => ?_; exact Q3i (.int _ _)
  have hs : QS 0 (Lib.pow10Tab.map (Value.int .u64)) (Hp.empty.put 0 (.cells (Lib.pow10Tab.map (Value.int .u64)) 0 1)) = true := by kernel_rfl
  unfold QS at *; rw [hget]; rw [Hp.get_put, if_pos rfl] at hs; exact hs
theorem Qbx {h : Hp} {cs : List Value} (x : Rd Tryz.prog h 29 cs) : ∃ v kids, cs = [v] ∧ RowG h v (isV kids) ∧ kids.length ≤ 9223372036854775807 := by
  obtain ⟨a, n, c, rfl, hn, hc, hnil, _, hrow⟩ := x.inv_slice QaN (by rw [Q6x]; omega)
  have hm : n ≤ 9223372036854775807 := by have : maxLen = 9223372036854775807 := by decide
                                          omega
  rcases hrow with rfl | ⟨b, o, xs, u, rfl, hb, hg, hl, hr⟩
  · refine ⟨_, [], rfl, .inl ⟨rfl, ?_⟩, by simp⟩; cases a with
    | none => rw [(hnil rfl).2]; exact .inl rfl
    | some a => exact .inr ⟨a, c, rfl⟩
  rw [Q6x] at hl hr
  obtain ⟨kids, hkl, hk⟩ := Q92 (Q := fun i (k : Int) => (xs.drop (o + i * 1)).take 1 = [.int .i64 k]) fun i hi => by
    obtain ⟨k, e, _⟩ := (hr i hi).inv_int Q5D; exact ⟨k, e⟩
  refine ⟨_, kids, rfl, .inr ⟨b, o, c, xs, u, 1, by rw [List.length_map, hkl], by rw [List.length_map, hkl]; exact hn, hg, hb, .inr (.inl rfl), fun i hi => ?_⟩, by omega⟩; have hi' : i < kids.length := by simpa using hi
  have := Q9e (hk i hi'); rw [Nat.mul_one] at this; rw [this, List.getElem_map]
theorem QaH {h : Hp} {cs : List Value} (x : Rd Tryz.prog h 41 cs) : ∃ w : Tw, cs = w.cells ∧ RowG h w.ks (isV w.kids) ∧ w.kids.length ≤ 9223372036854775807 ∧ -9223372036854775808 ≤ w.N ∧ w.N ≤ 9223372036854775807 := by
  have hl := (x.inv_struct ZL).1; rw [Q5E] at hl; obtain ⟨K, e0, _⟩ := x.fld_int ZL 0 0 39 rfl ⟨rfl, rfl⟩ QaM QcK; obtain ⟨s, e1, _⟩ := x.fld_string ZL 1 1 9 rfl ⟨rfl, rfl⟩ QcG tre_c9; obtain ⟨N, e2, hN1, hN2⟩ := x.fld_int ZL 2 2 2 rfl ⟨rfl, rfl⟩ QcI tre_c2; obtain ⟨L, e3, _⟩ := x.fld_int ZL 3 3 3 rfl ⟨rfl, rfl⟩ Q5D Q6x; obtain ⟨Co, e4, _⟩ := x.fld_int ZL 4 4 3 rfl ⟨rfl, rfl⟩ Q5D Q6x; have h5 := x.fld ZL 5 5 29 rfl ⟨rfl, rfl⟩; rw [QcJ] at h5; obtain ⟨v, kids, e5, hk, hkl⟩ := Qbx h5
  match cs, hl with
  | [c0, c1, c2, c3, c4, c5], _ =>
    simp only [List.getElem?_cons_zero, List.getElem?_cons_succ, Option.some.injEq] at e0 e1 e2 e3 e4; simp only [List.drop_succ_cons, List.drop_zero, List.take_succ_cons, List.take_zero, List.cons.injEq, and_true] at e5; subst e0; subst e1; subst e2; subst e3; subst e4; subst e5; exact ⟨⟨K, s, N, L, Co, c5, kids⟩, rfl, hk, hkl, hN1, hN2⟩
theorem Q8u {h : Hp} {v : Value} (x : Rd Tryz.prog h 22 [v]) : ∃ T, TreeAt h v T ∧ ∀ t, t ∈ T → (t.kids.length ≤ 9223372036854775807 ∧ -9223372036854775808 ≤ t.N ∧ t.N ≤ 9223372036854775807) ∧ RowG h t.ks (isV t.kids) := by
  obtain ⟨a, n, c, e, _, _, _, _, hrow⟩ := x.inv_slice Q1G (by rw [Q5E]; omega); simp only [List.cons.injEq, and_true] at e; subst e; rcases hrow with rfl | ⟨b, o, xs, u, rfl, hb, hg, hl, hr⟩
  · exact ⟨[], ⟨.inl ⟨rfl, a, c, rfl⟩, by simp⟩, by simp⟩
  rw [Q5E] at hl hr; obtain ⟨T, hTl, hT⟩ := Q92 (Q := fun i (w : Tw) => (xs.drop (o + i * 6)).take 6 = w.cells ∧ RowG h w.ks (isV w.kids) ∧ w.kids.length ≤ 9223372036854775807 ∧ -9223372036854775808 ≤ w.N ∧ w.N ≤ 9223372036854775807) fun i hi => QaH (hr i hi); refine ⟨T, ⟨.inr ⟨b, o, c, xs, u, 1, by rw [hTl], hg, hb, by rw [hTl]; exact hl, fun i hi => (hT i hi).1⟩, fun t ht => ?_⟩, fun t ht => ?_⟩
  · obtain ⟨i, hi, rfl⟩ := List.mem_iff_getElem.1 ht; exact (hT i hi).2.1.row
  obtain ⟨i, hi, rfl⟩ := List.mem_iff_getElem.1 ht; exact ⟨(hT i hi).2.2, (hT i hi).2.1⟩
theorem Q8x {H : Type} {enc : TypeId × Value → H} {W : World} {r : Reach} {base : Nat} {v : Value} {d : DataW H} {ps : List MemPlace} (hok : Value.okWide Tryz.prog W r base 24 v) (ht : DataW.Trod enc Tryz.prog W 0 (fun _ => true) true 24 v d ps) :
    ∃ sv T, v = .agg #[sv] ∧ VRel (Mp.all W) sv sv ∧ TreeAt (Hp.all W) sv T ∧ ∀ t, t ∈ T → (t.kids.length ≤ 9223372036854775807 ∧ -9223372036854775808 ≤ t.N ∧ t.N ≤ 9223372036854775807) ∧ RowG (Hp.all W) t.ks (isV t.kids) := by
  simp only [Value.okWide, Q1F] at hok; obtain ⟨cs, rfl, hsz, ts, hts, _, hc⟩ := hok; rw [QaO, Option.some.injEq] at hts; subst hts; rw [QcL] at hsz; obtain ⟨cs⟩ := cs
  match cs, hsz with
  | [f], _ =>
    obtain ⟨_, e0, h0⟩ := hc 0 f rfl; simp at e0; subst e0; have h6 : Value.okWide Tryz.prog W r base 22 f := by simp only [Value.okWide, Q1G]; exact h0
    obtain ⟨fuel, hf⟩ := ht; have hcl : (Value.agg #[f]).cells.toList = [f] := rfl; rw [hcl] at hf
    have hv : VRel (Mp.all W) f f ∧ Qav f ≤ Q4k W := by
      rcases Qdg Q1G h6 with rfl | ⟨a, len, cap, rfl, hb⟩
      · exact ⟨.nils 0 0, by simp [Qav]⟩
      refine ⟨Qas (w := W) a len cap hb, ?_⟩; have := Q01 W; simp only [Qav]; omega
    have hr := Js fuel 24 _ _ (fun v hv' => by
      simp only [List.mem_singleton] at hv'
      subst hv'; exact hv.2) hf
    rw [Jp hv.1] at hr; have h7 := hr.fld Q1F 0 0 22 rfl ⟨rfl, rfl⟩; rw [QcM] at h7; obtain ⟨T, hT, hk⟩ := Q8u (v := f) h7; exact ⟨f, T, rfl, hv.1, hT, hk⟩
end Go.Proofs.YtkidomfnmpnmaaaGreatDoor
