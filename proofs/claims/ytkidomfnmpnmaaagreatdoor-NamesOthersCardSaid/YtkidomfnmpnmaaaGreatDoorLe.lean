/- Chapter 4: names that are the same. Conditions: none. Chapter 4: names turned to others: trees that may be stay so (plain). Conditions: names of at most 28 bytes. Chapter 4: twigs as rows; what Resolve gives, taken as names. Conditions: none. Chapter 4: the law of other names. Conditions: the tables; the argument's rows. Chapter 4: trees that are arguments, their rows of any capacity; the library's tables, as X has them. Conditions: none. -/
import Derived.Test.YtkidomfnmpnmaaaGreatDoorLd
import Derived.Test.YtkidomfnmpnmaaaGreatDoorXc
import Derived.Test.YtkidomfnmpnmaaaGreatDoorXd
import Derived.Test.YtkidomfnmpnmaaaGreatDoorTie
import Derived.Test.YtkidomfnmpnmaaaGreatDoorCards
import Derived.SevenTiedAt
import Derived.LaidMore
import Derived.LaidHandle
import Derived.ProofKit
namespace Go.Proofs.YtkidomfnmpnmaaaGreatDoor
open Go.X Go.Nam
structure Nv where
  me : Value
  ow : Value
  lo : Value
  cl : Value
  gl : Value
  co : Value
  ev : Value
  fu : Value
  cv : List (Value × List Nat)
abbrev Nv.v (x : Nv) (main : Int) : Value := .agg #[x.me, x.ow, x.lo, x.cl, x.gl, x.co, x.ev, x.fu, iV main]
structure NmAt (h : Hp) (st : Nst) (x : Nv) : Prop where
  me : ∃ bs, SlC 38 1 h x.me (meC st.means) st.means.length bs
  ow : RowV h x.ow (isV st.owners)
  lo : RowV h x.lo (isV st.lo)
  cl : RowV h x.cl (isV st.cl)
  gl : RowV h x.gl (isV st.gl)
  co : RowV h x.co (isV st.cp)
  ev : RowV h x.ev (isV st.ev)
  fu : ∃ bs, SlC 45 3 h x.fu (fuC st.funcs x.cv) st.funcs.length bs
  cv : x.cv.length = st.funcs.length
  cp : ∀ (j : Nat) f y, st.funcs[j]? = some f → x.cv[j]? = some y → RowV h y.1 (isV f.caps)
theorem Q1f {e z n : Nat} {h h' : Hp} {s : Value} {cs : List Value} {bs : List Nat} (x : SlC e z h s cs n bs) (g : Ext h h') : SlC e z h' s cs n bs :=
  (slR e z s cs n bs).st h h' (fun i hi => ⟨x.lt i hi, g.get i (x.lt i hi)⟩) g.n x
theorem NmAt.ext {h h' : Hp} {st : Nst} {x : Nv} (N : NmAt h st x) (g : Ext h h') : NmAt h' st x :=
  ⟨N.me.imp fun _ s => Q1f s g, N.ow.ext g, N.lo.ext g, N.cl.ext g, N.gl.ext g, N.co.ext g, N.ev.ext g, N.fu.imp fun _ s => Q1f s g, N.cv, fun j f y h1 h2 => (N.cp j f y h1 h2).ext g⟩
structure SameN (st su : Nst) : Prop where
  means : su.means = st.means
  owners : su.owners = st.owners
  lo : su.lo = st.lo
  cl : su.cl = st.cl
  gl : su.gl = st.gl
  cp : su.cp = st.cp
  ev : su.ev = st.ev
  main : su.main = st.main
  fl : su.funcs.length = st.funcs.length
  fu : ∀ (j : Nat) f g, st.funcs[j]? = some f → su.funcs[j]? = some g → g.tw = f.tw ∧ g.up = f.up ∧ g.caps = f.caps
structure LessN (st : Nst) : Prop where
  means : st.means.length ≤ 1000000
  owners : st.owners.length ≤ 1000000
  lo : st.lo.length ≤ 1000000
  cl : st.cl.length ≤ 1000000
  gl : st.gl.length ≤ 1000000
  cp : st.cp.length ≤ 1000000
  ev : st.ev.length ≤ 1000000
  funcs : st.funcs.length ≤ 1000000
  caps : ∀ f, f ∈ st.funcs → f.caps.length ≤ 1000000
theorem Qa1 : ∀ (l : List (Int × Int)) (rest : List Value) (i : Nat) (x : Int × Int), l[i]? = some x → ((meC l ++ rest).drop (i * 2)).take 2 = [iV x.1, iV x.2]
  | x :: l, rest, 0, x', h => by
    simp only [List.getElem?_cons_zero, Option.some.injEq] at h; subst h; rfl
  | x :: l, rest, i + 1, x', h => by
    have e : meC (x :: l) ++ rest = iV x.1 :: iV x.2 :: (meC l ++ rest) := rfl; rw [e, show (i + 1) * 2 = i * 2 + 1 + 1 by omega, List.drop_succ_cons, List.drop_succ_cons]; exact Qa1 l rest i x' (by simpa using h)
  | [], _, _, _, h => by simp at h
theorem QdR {a b : Int} {s : ByteArray} {p : Option Addr} {n c : Nat} : sameV 20 (.agg #[iV a, iV b, .string s, .slice p n c]) (.agg #[iV a, iV b, .string s, .slice p n c]) = true := by
  cases p <;> simp [sameV, sameV.sameL, YV]
section
variable {h : Hp} {st su : Nst} {x y : Nv}
set_option maxHeartbeats 4000000 in
theorem n13 (N1 : NmAt h st x) (N2 : NmAt h su y) (Q : SameN st su) (L : LessN st) : C nmE 13 [x.v st.main, y.v su.main, .bool false] h fun v h' => v = .bool true ∧ Ext h h' := by
  obtain ⟨xme, xow, xlo, xcl, xgl, xco, xev, xfu, xcv⟩ := x; obtain ⟨yme, yow, ylo, ycl, ygl, yco, yev, yfu, ycv⟩ := y; obtain ⟨⟨xb1, x1⟩, x2, x3, x4, x5, x6, x7, ⟨xb8, x8⟩, x9, x10⟩ := N1; obtain ⟨⟨yb1, y1⟩, y2, y3, y4, y5, y6, y7, ⟨yb8, y8⟩, y9, y10⟩ := N2; rw [Q.means] at y1; rw [Q.owners] at y2; rw [Q.lo] at y3; rw [Q.cl] at y4; rw [Q.gl] at y5; rw [Q.cp] at y6; rw [Q.ev] at y7; have hmain := Q.main; simp only at x1 x2 x3 x4 x5 x6 x7 x8 x9 x10 y1 y2 y3 y4 y5 y6 y7 y8 y9 y10; obtain ⟨xma, xmc, rfl⟩ := Y4 x1; obtain ⟨yma, ymc, rfl⟩ := Y4 y1; obtain ⟨xfa, xfc, rfl⟩ := Y4 x8; obtain ⟨yfa, yfc, rfl⟩ := Y4 y8; have hQl := Q.fl; have l1 := L.means; have l8 := L.funcs
  refine Qf (fu := Tryz.f13) (by kernel_rfl) rfl ?_; have S := SH.start h; refine Qd ?_; refine Yu S gn rfl rfl fun b1 g nb1 S => ?_; refine Yu S gn rfl rfl fun b2 g nb2 S => ?_; refine Q3 gn rfl rfl ?_; refine J0 ?_; refine Q0 (off := 0) gn rfl rfl (by kernel_rfl) ?_; refine Q6 gn rfl rfl (by kernel_rfl) (by exact S.cel 1 rfl) rfl ?_; refine QJ gn rfl rfl (by kernel_rfl) ?_; refine Q0 (off := 0) gn rfl rfl (by kernel_rfl) ?_; refine Q6 gn rfl rfl (by kernel_rfl) (by exact S.cel 0 rfl) rfl ?_; refine QJ gn rfl rfl (by kernel_rfl) ?_; refine Q2h gn rfl rfl rfl ?_; refine Q4 gn rfl rfl ?_
  refine Yq (n := 7) rfl rfl rfl gn rfl (fun hb => by
      refine Q0 (off := 7) (gy rfl rfl rfl hb) rfl rfl (by kernel_rfl) ?_; refine Q6 (gy rfl rfl rfl hb) rfl rfl (by kernel_rfl) (by exact S.cel 1 rfl) rfl ?_; refine QJ (gy rfl rfl rfl hb) rfl rfl (by kernel_rfl) ?_; refine Q0 (off := 7) (gy rfl rfl rfl hb) rfl rfl (by kernel_rfl) ?_; refine Q6 (gy rfl rfl rfl hb) rfl rfl (by kernel_rfl) (by exact S.cel 0 rfl) rfl ?_; refine QJ (gy rfl rfl rfl hb) rfl rfl (by kernel_rfl) ?_; refine Q2h (gy rfl rfl rfl hb) rfl rfl rfl ?_
      exact Q5 ⟨rfl, rfl, 7, rfl, rfl⟩) ?_
  refine Q4 gn rfl rfl ?_
  refine Yq (n := 5) rfl rfl rfl gn rfl (fun hb => by
      refine Q0 (off := 8) (gy rfl rfl rfl hb) rfl rfl (by kernel_rfl) ?_; refine Q6 (gy rfl rfl rfl hb) rfl rfl (by kernel_rfl) (by exact S.cel 1 rfl) rfl ?_; refine Q0 (off := 8) (gy rfl rfl rfl hb) rfl rfl (by kernel_rfl) ?_; refine Q6 (gy rfl rfl rfl hb) rfl rfl (by kernel_rfl) (by exact S.cel 0 rfl) rfl ?_; refine Q2h (gy rfl rfl rfl hb) rfl rfl rfl ?_
      exact Q5 ⟨rfl, rfl, 5, rfl, rfl⟩) ?_
  refine Q4 gn rfl rfl ?_
  refine Yq (n := 6) rfl rfl rfl gn rfl (fun hb => by
      refine Q0 (off := 1) (gy rfl rfl rfl hb) rfl rfl (by kernel_rfl) ?_; refine Q6 (gy rfl rfl rfl hb) rfl rfl (by kernel_rfl) (by exact S.cel 1 rfl) rfl ?_; refine Q0 (off := 1) (gy rfl rfl rfl hb) rfl rfl (by kernel_rfl) ?_; refine Q6 (gy rfl rfl rfl hb) rfl rfl (by kernel_rfl) (by exact S.cel 0 rfl) rfl ?_; refine Qb [_, _] (gy rfl rfl rfl hb) rfl rfl (by kernel_rfl) rfl (ZR (n27 (x2.ext S.e0) (y2.ext S.e0) L.owners) ⟨ag0, ?_⟩); refine ZN (gy rfl rfl rfl hb) rfl rfl ?_
      exact Q5 ⟨rfl, rfl, 6, rfl, rfl⟩) ?_
  refine Q4 gn rfl rfl ?_
  refine Yq (n := 6) rfl rfl rfl gn rfl (fun hb => by
      refine Q0 (off := 2) (gy rfl rfl rfl hb) rfl rfl (by kernel_rfl) ?_; refine Q6 (gy rfl rfl rfl hb) rfl rfl (by kernel_rfl) (by exact S.cel 1 rfl) rfl ?_; refine Q0 (off := 2) (gy rfl rfl rfl hb) rfl rfl (by kernel_rfl) ?_; refine Q6 (gy rfl rfl rfl hb) rfl rfl (by kernel_rfl) (by exact S.cel 0 rfl) rfl ?_; refine Qb [_, _] (gy rfl rfl rfl hb) rfl rfl (by kernel_rfl) rfl (ZR (n27 (x3.ext S.e0) (y3.ext S.e0) L.lo) ⟨ag0, ?_⟩); refine ZN (gy rfl rfl rfl hb) rfl rfl ?_
      exact Q5 ⟨rfl, rfl, 6, rfl, rfl⟩) ?_
  refine Q4 gn rfl rfl ?_
  refine Yq (n := 6) rfl rfl rfl gn rfl (fun hb => by
      refine Q0 (off := 3) (gy rfl rfl rfl hb) rfl rfl (by kernel_rfl) ?_; refine Q6 (gy rfl rfl rfl hb) rfl rfl (by kernel_rfl) (by exact S.cel 1 rfl) rfl ?_; refine Q0 (off := 3) (gy rfl rfl rfl hb) rfl rfl (by kernel_rfl) ?_; refine Q6 (gy rfl rfl rfl hb) rfl rfl (by kernel_rfl) (by exact S.cel 0 rfl) rfl ?_; refine Qb [_, _] (gy rfl rfl rfl hb) rfl rfl (by kernel_rfl) rfl (ZR (n27 (x4.ext S.e0) (y4.ext S.e0) L.cl) ⟨ag0, ?_⟩); refine ZN (gy rfl rfl rfl hb) rfl rfl ?_
      exact Q5 ⟨rfl, rfl, 6, rfl, rfl⟩) ?_
  refine Q4 gn rfl rfl ?_
  refine Yq (n := 6) rfl rfl rfl gn rfl (fun hb => by
      refine Q0 (off := 4) (gy rfl rfl rfl hb) rfl rfl (by kernel_rfl) ?_; refine Q6 (gy rfl rfl rfl hb) rfl rfl (by kernel_rfl) (by exact S.cel 1 rfl) rfl ?_; refine Q0 (off := 4) (gy rfl rfl rfl hb) rfl rfl (by kernel_rfl) ?_; refine Q6 (gy rfl rfl rfl hb) rfl rfl (by kernel_rfl) (by exact S.cel 0 rfl) rfl ?_; refine Qb [_, _] (gy rfl rfl rfl hb) rfl rfl (by kernel_rfl) rfl (ZR (n27 (x5.ext S.e0) (y5.ext S.e0) L.gl) ⟨ag0, ?_⟩); refine ZN (gy rfl rfl rfl hb) rfl rfl ?_
      exact Q5 ⟨rfl, rfl, 6, rfl, rfl⟩) ?_
  refine Q4 gn rfl rfl ?_
  refine Yq (n := 6) rfl rfl rfl gn rfl (fun hb => by
      refine Q0 (off := 5) (gy rfl rfl rfl hb) rfl rfl (by kernel_rfl) ?_; refine Q6 (gy rfl rfl rfl hb) rfl rfl (by kernel_rfl) (by exact S.cel 1 rfl) rfl ?_; refine Q0 (off := 5) (gy rfl rfl rfl hb) rfl rfl (by kernel_rfl) ?_; refine Q6 (gy rfl rfl rfl hb) rfl rfl (by kernel_rfl) (by exact S.cel 0 rfl) rfl ?_; refine Qb [_, _] (gy rfl rfl rfl hb) rfl rfl (by kernel_rfl) rfl (ZR (n27 (x6.ext S.e0) (y6.ext S.e0) L.cp) ⟨ag0, ?_⟩); refine ZN (gy rfl rfl rfl hb) rfl rfl ?_
      exact Q5 ⟨rfl, rfl, 6, rfl, rfl⟩) ?_
  refine Q4 gn rfl rfl ?_
  refine Yq (n := 6) rfl rfl rfl gn rfl (fun hb => by
      refine Q0 (off := 6) (gy rfl rfl rfl hb) rfl rfl (by kernel_rfl) ?_; refine Q6 (gy rfl rfl rfl hb) rfl rfl (by kernel_rfl) (by exact S.cel 1 rfl) rfl ?_; refine Q0 (off := 6) (gy rfl rfl rfl hb) rfl rfl (by kernel_rfl) ?_; refine Q6 (gy rfl rfl rfl hb) rfl rfl (by kernel_rfl) (by exact S.cel 0 rfl) rfl ?_; refine Qb [_, _] (gy rfl rfl rfl hb) rfl rfl (by kernel_rfl) rfl (ZR (n27 (x7.ext S.e0) (y7.ext S.e0) L.ev) ⟨ag0, ?_⟩); refine ZN (gy rfl rfl rfl hb) rfl rfl ?_
      exact Q5 ⟨rfl, rfl, 6, rfl, rfl⟩) ?_
  refine Q5 ?_; refine Qa rfl (fun hb => ?_) fun hb => ?_
  · skip
    refine Qd ?_; simp [hQl, hmain] at hb
  refine Qe ?_; refine Qk ?_; refine Qd ?_; refine Q3 gn rfl rfl ?_; refine Q5 ?_; refine Qh ?_; refine QV [(7, _)] [(2, _), (3, _), (4, _)] (by repeat (first | exact trivial | refine ⟨rfl, ?_⟩)) (fun kk lv hh => ∃ i : Nat, lv = [(7, iV i)] ∧ kk = st.means.length - i ∧ i ≤ st.means.length ∧ SH h [] [cR b2 (.cells [.slice yma st.means.length ymc, yow, ylo, ycl, ygl, yco, yev, .slice yfa su.funcs.length yfc, iV su.main] 32 0), cR b1 (.cells [.slice xma st.means.length xmc, xow, xlo, xcl, xgl, xco, xev, .slice xfa st.funcs.length xfc, iV st.main] 32 0)] hh) (n := st.means.length) ?_ fun kk lv hh hI => ?_
  · exact ⟨0, rfl, rfl, Nat.zero_le _, S⟩
  obtain ⟨i, rfl, hkk, hi, S⟩ := hI; refine Qk ?_; refine Qd ?_; refine Q4 gn rfl rfl ?_; refine Q0 (off := 0) gn rfl rfl (by kernel_rfl) ?_; refine Q6 gn rfl rfl (by kernel_rfl) (by exact S.cel 1 rfl) rfl ?_; refine QJ gn rfl rfl (by kernel_rfl) ?_; refine Zo gn rfl rfl rfl ?_; refine Q5 ?_; refine Qa rfl (fun hb => ?_) fun hb => ?_
  · skip
    refine Qe ?_; have hi : i < st.means.length := by simp at hb; omega
    obtain ⟨fb1, fc1, hv1, hb1, hl1⟩ := Y3 x1 (by omega); obtain ⟨fb2, fc2, hv2, hb2, hl2⟩ := Y3 y1 (by omega); obtain ⟨rfl, rfl⟩ : xma = some ⟨fb1, 0, none⟩ ∧ xmc = fc1 := by simp only [Value.slice.injEq, true_and] at hv1; exact hv1
    obtain ⟨rfl, rfl⟩ : yma = some ⟨fb2, 0, none⟩ ∧ ymc = fc2 := by simp only [Value.slice.injEq, true_and] at hv2; exact hv2
    obtain ⟨r1, m1, hg1⟩ := YA (Q1f x1 S.e0); obtain ⟨r2, m2, hg2⟩ := YA (Q1f y1 S.e0); have k1 : ((meC st.means ++ r1).drop (0 + Int.toNat (i : Int) * 2)).take 2 = [iV st.means[i].1, iV st.means[i].2] := by rw [Int.toNat_natCast, Nat.zero_add]; exact Qa1 _ _ _ _ (List.getElem?_eq_getElem hi)
    have k2 : ((meC st.means ++ r2).drop (0 + Int.toNat (i : Int) * 2)).take 2 = [iV st.means[i].1, iV st.means[i].2] := by rw [Int.toNat_natCast, Nat.zero_add]; exact Qa1 _ _ _ _ (List.getElem?_eq_getElem hi)
    refine Qk ?_; refine Qh ?_; refine Qk ?_; refine Z2 [(0, []), (1, []), (2, []), (3, []), (4, []), (5, []), (6, []), (7, []), (8, []), (9, []), (10, [])] (by kernel_rfl) (by kernel_rfl) (by kernel_rfl) (by kernel_rfl) ?_; refine Q0 (off := 0) gn rfl rfl (by kernel_rfl) ?_; refine Q6 gn rfl rfl (by kernel_rfl) (by exact S.cel 1 rfl) rfl ?_; refine Q4 gn rfl rfl ?_; refine Q8 (zz := 2) gn rfl rfl rfl (by kernel_rfl) (by omega) (by omega) ?_; refine Qs (n := 2) gn rfl rfl (by kernel_rfl) (by kernel_rfl) hg1 (by rw [List.length_append, hl1]; omega) ?_; rw [k1]; refine Q0 (off := 0) gn rfl rfl (by kernel_rfl) ?_; refine Q6 gn rfl rfl (by kernel_rfl) (by exact S.cel 0 rfl) rfl ?_
    refine Q4 gn rfl rfl ?_; refine Q8 (zz := 2) gn rfl rfl rfl (by kernel_rfl) (by omega) (by omega) ?_; refine Qs (n := 2) gn rfl rfl (by kernel_rfl) (by kernel_rfl) hg2 (by rw [List.length_append, hl2]; omega) ?_; rw [k2]; refine o_bin gn rfl rfl rfl (neq38 _ _ _ _) ?_; refine Q5 ?_; refine Qa rfl (fun hb => ?_) fun hb => ?_
    · skip
      refine Qd ?_; simp at hb
    refine Qe ?_; refine Q7 (by kernel_rfl) ?_; refine Q4 gn rfl rfl ?_; refine QU gn rfl rfl rfl (by omega) (by omega) ?_; refine Q3 gn rfl rfl ?_; refine Q5 ?_; exact KL (st.means.length - (i + 1)) (by omega) [(7, _)] (by repeat (first | exact trivial | refine ⟨rfl, ?_⟩)) ⟨i + 1, rfl, rfl, by omega, S⟩
  refine Zb ?_; refine Qx ?_; refine Qz ?_; refine Za ?_; refine Qk ?_; refine Qd ?_; refine Q3 gn rfl rfl ?_; refine Q5 ?_; refine Qh ?_; refine QV [(8, _)] [(2, _), (3, _), (4, _)] (by repeat (first | exact trivial | refine ⟨rfl, ?_⟩)) (fun kk lv hh => ∃ i : Nat, lv = [(8, iV i)] ∧ kk = st.funcs.length - i ∧ i ≤ st.funcs.length ∧ SH h [] [cR b2 (.cells [.slice yma st.means.length ymc, yow, ylo, ycl, ygl, yco, yev, .slice yfa su.funcs.length yfc, iV su.main] 32 0), cR b1 (.cells [.slice xma st.means.length xmc, xow, xlo, xcl, xgl, xco, xev, .slice xfa st.funcs.length xfc, iV st.main] 32 0)] hh) (n := st.funcs.length) ?_ fun kk lv hh hI => ?_
  · exact ⟨0, rfl, rfl, Nat.zero_le _, S⟩
  obtain ⟨i, rfl, hkk, hi, S⟩ := hI; refine Qk ?_; refine Qd ?_; refine Q4 gn rfl rfl ?_; refine Q0 (off := 7) gn rfl rfl (by kernel_rfl) ?_; refine Q6 gn rfl rfl (by kernel_rfl) (by exact S.cel 1 rfl) rfl ?_; refine QJ gn rfl rfl (by kernel_rfl) ?_; refine Zo gn rfl rfl rfl ?_; refine Q5 ?_; refine Qa rfl (fun hb => ?_) fun hb => ?_
  · skip
    refine Qe ?_; have hi : i < st.funcs.length := by simp at hb; omega
    obtain ⟨fb1, fc1, hv1, hb1, hl1⟩ := Y3 x8 (by omega); obtain ⟨fb2, fc2, hv2, hb2, hl2⟩ := Y3 y8 (by omega); obtain ⟨rfl, rfl⟩ : xfa = some ⟨fb1, 0, none⟩ ∧ xfc = fc1 := by simp only [Value.slice.injEq, true_and] at hv1; exact hv1
    obtain ⟨rfl, rfl⟩ : yfa = some ⟨fb2, 0, none⟩ ∧ yfc = fc2 := by simp only [Value.slice.injEq, true_and] at hv2; exact hv2
    obtain ⟨r1, m1, hg1⟩ := YA x8; obtain ⟨r2, m2, hg2⟩ := YA y8; have lt1 : fb1 < h.n := x8.lt fb1 (by rw [hb1]; simp); have lt2 : fb2 < h.n := y8.lt fb2 (by rw [hb2]; simp); obtain ⟨f, hf⟩ : ∃ f, st.funcs[i]? = some f := ⟨_, List.getElem?_eq_getElem hi⟩; obtain ⟨f', hf'⟩ : ∃ f, su.funcs[i]? = some f := ⟨_, List.getElem?_eq_getElem (by omega)⟩; obtain ⟨cx, hcx⟩ : ∃ c, xcv[i]? = some c := ⟨_, List.getElem?_eq_getElem (by omega)⟩; obtain ⟨cy, hcy⟩ : ∃ c, ycv[i]? = some c := ⟨_, List.getElem?_eq_getElem (by omega)⟩; obtain ⟨q1, q2, q3⟩ := Q.fu i f f' hf hf'; have rx := x10 i f cx hf hcx; have ry := y10 i f' cy hf' hcy; rw [q3] at ry; have lcp := L.caps f (List.mem_of_getElem? hf)
    have k1 : ((fuC st.funcs xcv ++ r1).drop (0 + Int.toNat (i : Int) * 4)).take 4 = [iV f.tw, iV f.up, .string f.nm, cx.1] := by rw [Int.toNat_natCast, Nat.zero_add]; exact Q0v _ _ _ _ _ _ hf hcx
    have k2 : ((fuC su.funcs ycv ++ r2).drop (0 + Int.toNat (i : Int) * 4)).take 4 = [iV f'.tw, iV f'.up, .string f'.nm, cy.1] := by rw [Int.toNat_natCast, Nat.zero_add]; exact Q0v _ _ _ _ _ _ hf' hcy
    obtain ⟨ca, cc, hca⟩ := rx.valM; obtain ⟨da, dc, hda⟩ := ry.valM; rw [hca] at k1 rx; rw [hda] at k2 ry; refine Qk ?_; refine Qh ?_; refine Qk ?_; refine Z2 [(0, []), (1, []), (2, []), (3, []), (4, []), (5, []), (6, []), (7, []), (8, []), (9, []), (10, []), (11, []), (12, [6, 9]), (13, [])] (by kernel_rfl) (by kernel_rfl) (by kernel_rfl) (by kernel_rfl) ?_; refine Q0 (off := 7) gn rfl rfl (by kernel_rfl) ?_; refine Q6 gn rfl rfl (by kernel_rfl) (by exact S.cel 1 rfl) rfl ?_; refine Q4 gn rfl rfl ?_; refine Q8 (zz := 4) gn rfl rfl rfl (by kernel_rfl) (by omega) (by omega) ?_
    refine Qs (n := 4) gn rfl rfl (by kernel_rfl) (by kernel_rfl) (S.old0 hg1 lt1) (by rw [List.length_append, hl1]; omega) ?_; rw [k1]; refine Q0 (off := 7) gn rfl rfl (by kernel_rfl) ?_; refine Q6 gn rfl rfl (by kernel_rfl) (by exact S.cel 0 rfl) rfl ?_; refine Q4 gn rfl rfl ?_; refine Q8 (zz := 4) gn rfl rfl rfl (by kernel_rfl) (by omega) (by omega) ?_; refine Qs (n := 4) gn rfl rfl (by kernel_rfl) (by kernel_rfl) (S.old0 hg2 lt2) (by rw [List.length_append, hl2]; omega) ?_; rw [k2]; refine Zl (zv := .agg #[.int .i64 0, .int .i64 0, .string .empty, .slice none 0 0]) S gn rfl (by kernel_rfl) fun b3 g nb3 S => ?_
    refine Zl (zv := .agg #[.int .i64 0, .int .i64 0, .string .empty, .slice none 0 0]) S gn rfl (by kernel_rfl) fun b4 g nb4 S => ?_; refine QL (n := 4) 1 S gn rfl rfl (by kernel_rfl) (by kernel_rfl) rfl rfl (by decide) rfl (fun g S => ag1 (Zt gn rfl (by kernel_rfl) (S.cel 2 rfl) rfl rfl ZM) (ag1 (JI (n := 4) gn rfl (by kernel_rfl) (by kernel_rfl) (S.old0 hg2 lt2) (by rw [List.length_append, hl2]; omega) (by rw [k2]; rfl) (by rw [k2]; exact QdR)) ag0)) fun g S => ?_; refine QL (n := 4) 0 S gn rfl rfl (by kernel_rfl) (by kernel_rfl) rfl rfl (by decide) rfl (fun g S => ag0) fun g S => ?_; refine ZC ?_; refine Q0 (off := 0) gn rfl rfl (by kernel_rfl) ?_
    refine Q6 gn rfl rfl (by kernel_rfl) (by exact S.cel 1 rfl) rfl ?_; refine Q0 (off := 0) gn rfl rfl (by kernel_rfl) ?_; refine Q6 gn rfl rfl (by kernel_rfl) (by exact S.cel 0 rfl) rfl ?_; refine Q2h gn rfl rfl rfl ?_; refine Q4 gn rfl rfl ?_
    refine Yq (n := 5) rfl rfl rfl gn rfl (fun hb => by
        refine Q0 (off := 1) (gy rfl rfl rfl hb) rfl rfl (by kernel_rfl) ?_; refine Q6 (gy rfl rfl rfl hb) rfl rfl (by kernel_rfl) (by exact S.cel 1 rfl) rfl ?_; refine Q0 (off := 1) (gy rfl rfl rfl hb) rfl rfl (by kernel_rfl) ?_; refine Q6 (gy rfl rfl rfl hb) rfl rfl (by kernel_rfl) (by exact S.cel 0 rfl) rfl ?_; refine Q2h (gy rfl rfl rfl hb) rfl rfl rfl ?_
        exact Q5 ⟨rfl, rfl, 5, rfl, rfl⟩) ?_
    refine Q4 gn rfl rfl ?_
    refine Yq (n := 6) rfl rfl rfl gn rfl (fun hb => by
        refine Q0 (off := 3) (gy rfl rfl rfl hb) rfl rfl (by kernel_rfl) ?_; refine Q6 (gy rfl rfl rfl hb) rfl rfl (by kernel_rfl) (by exact S.cel 1 rfl) rfl ?_; refine Q0 (off := 3) (gy rfl rfl rfl hb) rfl rfl (by kernel_rfl) ?_; refine Q6 (gy rfl rfl rfl hb) rfl rfl (by kernel_rfl) (by exact S.cel 0 rfl) rfl ?_; refine Qb [_, _] (gy rfl rfl rfl hb) rfl rfl (by kernel_rfl) rfl (ZR (n27 (rx.ext S.e0) (ry.ext S.e0) lcp) ⟨ag0, ?_⟩); refine ZN (gy rfl rfl rfl hb) rfl rfl ?_
        exact Q5 ⟨rfl, rfl, 6, rfl, rfl⟩) ?_
    refine Q4 gn rfl rfl ?_
    refine Yq (n := 8) rfl rfl rfl gn rfl (fun hb => by
        refine Q4 (gy rfl rfl rfl hb) rfl rfl ?_; refine Q4 (gy rfl rfl rfl hb) rfl rfl ?_
        refine Y6 (n := 5) rfl rfl rfl (gy rfl rfl rfl hb) rfl (fun hb => by
            refine Q0 (off := 2) (gy rfl rfl rfl hb) rfl rfl (by kernel_rfl) ?_; refine Q6 (gy rfl rfl rfl hb) rfl rfl (by kernel_rfl) (by exact S.cel 1 rfl) rfl ?_; refine Q0 (off := 2) (gy rfl rfl rfl hb) rfl rfl (by kernel_rfl) ?_; refine Q6 (gy rfl rfl rfl hb) rfl rfl (by kernel_rfl) (by exact S.cel 0 rfl) rfl ?_; refine Qee (gy rfl rfl rfl hb) rfl rfl rfl ?_
            exact Q5 ⟨rfl, rfl, 5, rfl, rfl⟩) ?_
        exact Q5 ⟨rfl, rfl, 3, rfl, rfl⟩) ?_
    refine Q5 ?_; refine Qa rfl (fun hb => ?_) fun hb => ?_
    · skip
      refine Qd ?_; simp [q1, q2] at hb
    refine Qe ?_; refine Q7 (by kernel_rfl) ?_; refine Q4 gn rfl rfl ?_; refine QU gn rfl rfl rfl (by omega) (by omega) ?_; refine Q3 gn rfl rfl ?_; refine Q5 ?_; exact KL (st.funcs.length - (i + 1)) (by omega) [(8, _)] (by repeat (first | exact trivial | refine ⟨rfl, ?_⟩)) ⟨i + 1, rfl, rfl, by omega, S.drop.drop⟩
  refine Zb ?_; refine Qx ?_; refine Qz ?_; refine Za ?_; refine Qd ?_; refine Q3 gn rfl rfl ?_; refine Q5 ?_; refine Qc ?_; refine ⟨.inl rfl, _, rfl, ?_⟩; exact ⟨rfl, S.e0⟩
end
end Go.Proofs.YtkidomfnmpnmaaaGreatDoor
namespace Go.Proofs.YtkidomfnmpnmaaaGreatDoor
open Go.X Go.Nam
def preZ : ByteArray := ⟨#[122, 95]⟩
def postZ : ByteArray := ⟨#[90]⟩
def Q1y (s : ByteArray) : ByteArray := if Qy s = true then preZ ++ s ++ postZ else s
def KN (t : Tw) : Tw := { t with s := Q1y t.s }
theorem Qdi (a b : ByteArray) : (a ++ b).toList = a.toList ++ b.toList := by
  rw [ByteArray.toList_eq, ByteArray.toList_eq, ByteArray.toList_eq, ByteArray.data_append, Array.toList_append]
theorem Q2c {s : ByteArray} (h : Qy s = true) : (Q1y s).toList = 122 :: 95 :: (s.toList ++ [90]) := by
  unfold Q1y; rw [if_pos h, Qdi, Qdi]; have e1 : preZ.toList = [122, 95] := by rw [ByteArray.toList_eq]; rfl
  have e2 : postZ.toList = [90] := by rw [ByteArray.toList_eq]; rfl
  rw [e1, e2]; rfl
theorem JP {s : ByteArray} (h : ¬ Qy s = true) : Q1y s = s := if_neg h
theorem Qdm : (wordsL.all fun w => !decide (w.data.toList.head? = some 122)) = true := by kernel_rfl
theorem five_z : (fiveT.all fun w => !decide (w.data.toList.head? = some 122)) = true := by kernel_rfl
theorem Q8A : (fiveT.all fun w => YN w) = true := by kernel_rfl
theorem tl_inj {a b : ByteArray} (h : a.toList = b.toList) : a = b := by
  rw [ByteArray.toList_eq, ByteArray.toList_eq] at h; have h2 : a.data = b.data := Array.toList_inj.1 h; cases a; cases b; cases h2; rfl
theorem QaK {a b : ByteArray} : eqS a b = true ↔ a = b := by rw [Q4e, decide_eq_true_eq]
theorem Qdp {s : ByteArray} (h : s.toList.head? = some 122) : YN s = false := by
  cases hw : YN s with
  | false => rfl
  | true =>
    obtain ⟨w, h1, h2⟩ := List.any_eq_true.1 (show (wordsL.any fun w => eqS w s) = true from hw); obtain rfl := QaK.1 h2; have := List.all_eq_true.1 Qdm w h1; rw [ByteArray.toList_eq] at h; rw [h] at this; cases this
theorem Q3K {s : ByteArray} (h : Qy s = true) (hl : s.toList.length ≤ 28) : Qy (Q1y s) = true := by
  have e := Q2c h; obtain ⟨h1, h2, h3, h4, h5⟩ := Zz.1 h
  have hall : s.toList.all (fun b => Zh b || Zk b) = true := List.all_eq_true.2 fun b hb => by
    obtain ⟨j, hj, rfl⟩ := List.mem_iff_getElem.1 hb; rw [Q4p hj]; exact h4 j hj
  have hw := Qdp (s := Q1y s) (by rw [e]; rfl); have hb : bAt (Q1y s) 0 = 122 := by unfold bAt; rw [e]; rfl
  unfold Qy; rw [hw, hb, e]; simp only [List.isEmpty_cons, Bool.not_false, Bool.true_and, List.all_cons, List.all_append, hall, List.all_nil, Bool.and_true, List.length_cons, List.length_append, List.length_nil]; have k1 : Zk 122 = false := by decide
  have k2 : Zh 122 = true := by decide
  have k3 : (Zh 95 || Zk 95) = true := by decide
  have k4 : (Zh 90 || Zk 90) = true := by decide
  rw [k1, k2, k3, k4]; simp only [Bool.not_false, Bool.and_true, Bool.true_or, decide_eq_true_eq]; omega
theorem Q56 {s : ByteArray} (h : Qy s = true) : ∃ b l, s.toList = b :: l ∧ (Zh b || Zk b) = true := by
  obtain ⟨h1, h2, h3, h4, h5⟩ := Zz.1 h; cases e : s.toList with
  | nil => exact absurd e h1
  | cons b l =>
    have := h4 0 (by rw [e]; simp); unfold bAt at this; rw [e] at this; exact ⟨b, l, rfl, this⟩
theorem Q7p {s : ByteArray} {b : UInt8} {l : List UInt8} (e : s.toList = b :: l) (h : (Zh b || Zk b) = true) : Q1N opL s = false ∧ s.toList ≠ [60] ∧ s.toList ≠ [61, 61] ∧ s.toList ≠ [43] ∧ s.toList ≠ [45] := by
  have k : ∀ c : UInt8, (Zh c || Zk c) = false → ∀ r, s.toList ≠ c :: r := fun c hc r hr => by
    rw [e] at hr; injection hr with h1 _
    rw [h1, hc] at h; cases h
  refine ⟨?_, k 60 (by decide) [], k 61 (by decide) [61], k 43 (by decide) [], k 45 (by decide) []⟩; cases hi : Q1N opL s with
  | false => rfl
  | true =>
    obtain ⟨w, h1, h2⟩ := List.any_eq_true.1 hi; obtain rfl := QaK.1 h2; simp only [opL, List.mem_cons, List.not_mem_nil, or_false] at h1; rcases h1 with rfl | rfl | rfl | rfl | rfl
    · exact absurd (Q0J _) (k 43 (by decide) [])
    · exact absurd (Q0J _) (k 45 (by decide) [])
    · exact absurd (Q0J _) (k 42 (by decide) [])
    · exact absurd (Q0J _) (k 60 (by decide) [])
    exact absurd (Q0J _) (k 61 (by decide) [61])
theorem Q5S (K : Int) (s : ByteArray) : QA K (Q1y s) = QA K s := by
  by_cases h : Qy s = true
  · obtain ⟨b, l, e, hb⟩ := Q56 h; obtain ⟨_, o1, o2, o3, o4⟩ := Q7p e hb; obtain ⟨_, p1, p2, p3, p4⟩ := Q7p (Q2c h) (b := 122) (by decide); unfold QA; simp only [o1, o2, o3, o4, p1, p2, p3, p4, or_self, if_false]
  rw [JP h]
theorem QcK (K : Int) (s : ByteArray) (i K' : Int) (s' : ByteArray) : Yt K (Q1y s) i K' (Q1y s') = Yt K s i K' s' := by
  unfold Yt Kd ZY; rw [Q5S, Q5S]
theorem Q9a {K : Int} : ∀ {T : List (Int × FS)} {F : FS}, Yd T K = some F → ∃ k, (k, F) ∈ T
  | [], _, h => by cases h
  | (k, F) :: T, F', h => by
    rw [Yd] at h
    split at h
    · cases h; exact ⟨k, by simp⟩
    obtain ⟨k', h⟩ := Q9a h; exact ⟨k', List.mem_cons_of_mem _ h⟩
theorem Q81 {k : Int} {F : FS} (h : (k, F) ∈ formT) : F.text = none ∨ F.text = some Qy ∨ F.text = some typS ∨ F.text = some (Q1N opL) := by
  simp only [formT, List.mem_cons, List.not_mem_nil, or_false, Prod.mk.injEq] at h; rcases h with ⟨_, rfl⟩ | h
  · simp
  repeat (rcases h with ⟨_, rfl⟩ | h; · simp)
  obtain ⟨_, rfl⟩ := h; simp
theorem QbG {o : Option (ByteArray → Bool)} {s : ByteArray} (ho : o = none ∨ o = some Qy ∨ o = some typS ∨ o = some (Q1N opL)) (hl : Qy s = true → s.toList.length ≤ 28) : Ka o (Q1y s) = Ka o s := by
  by_cases h : Qy s = true
  · have hr := Q3K h (hl h); obtain ⟨b, l, e, hb⟩ := Q56 h; have e2 := Q2c h; rcases ho with rfl | rfl | rfl | rfl
    · show (Q1y s).toList.isEmpty = s.toList.isEmpty; rw [e, e2]; rfl
    · show Qy (Q1y s) = Qy s; rw [h, hr]
    · show typS (Q1y s) = typS s; unfold typS; rw [h, hr]; rfl
    show Q1N opL (Q1y s) = Q1N opL s; rw [(Q7p e hb).1, (Q7p e2 (by decide)).1]
  rw [JP h]
theorem Qcw {K N : Int} {s : ByteArray} {ks : List Int} (hl : Qy s = true → s.toList.length ≤ 28) : Qj K (Q1y s) N ks = Qj K s N ks := by
  unfold Qj; cases hf : Yd formT K with
  | none => rfl
  | some F =>
    obtain ⟨k, hk⟩ := Q9a hf; show JL F (Q1y s) N ks = JL F s N ks; unfold JL Q0r; rw [QbG (Q81 hk) hl]
section
variable {T : List Tw}
theorem Qaf (l : List Int) : QP (T.map KN) l = QP T l := by
  unfold QP; refine List.map_congr_left fun k _ => ?_; rw [List.getElem?_map]; cases T[k.toNat]? <;> rfl
theorem Q5h {rec rec' : Nat → Int → Option Nat} {w : Tw} {nest : Int} (hr : ∀ a n, rec' a n = rec a n) : ∀ (l : List Int) (i next : Nat), Yz rec' (T.map KN) (KN w) nest l i next = Yz rec T w nest l i next
  | [], _, _ => rfl
  | k :: l, i, next => by
    simp only [Yz, List.getElem?_map]
    split
    · cases T[next]? with
      | none => rfl
      | some kid =>
        simp only [Option.map_some]; have e : Yt (KN w).K (KN w).s i (KN kid).K (KN kid).s = Yt w.K w.s i kid.K kid.s := QcK _ _ _ _ _; rw [e, hr]; cases rec next (nest + Yt w.K w.s i kid.K kid.s) with
        | none => rfl
        | some n => exact Q5h hr l (i + 1) n
    rfl
theorem Q6X (hl : ∀ t, t ∈ T → Qy t.s = true → t.s.toList.length ≤ 28) : ∀ (f a : Nat) (nest : Int), ZL (T.map KN) f a nest = ZL T f a nest
  | 0, _, _ => rfl
  | f + 1, a, nest => by
    simp only [ZL, List.getElem?_map]; cases hw : T[a]? with
    | none => rfl
    | some w =>
      simp only [Option.map_some]
      have e1 : Qj (KN w).K (KN w).s (KN w).N (QP (T.map KN) (KN w).kids) = Qj w.K w.s w.N (QP T w.kids) := by
        rw [Qaf]; exact Qcw (hl w (List.mem_of_getElem? hw))
      have e2 : Yz (ZL (T.map KN) f) (T.map KN) (KN w) nest (KN w).kids 0 (a + 1) = Yz (ZL T f) T w nest w.kids 0 (a + 1) := Q5h (Q6X hl f) _ _ _; rw [e1, e2]
theorem Qel (hl : ∀ t, t ∈ T → Qy t.s = true → t.s.toList.length ≤ 28) : Q43 (T.map KN) = Q43 T := by
  unfold Q43; rw [List.length_map, Q6X hl]; have : Q5r (T.map KN) = Q5r T := by cases T <;> rfl
  rw [this]
theorem Qe5 {s u : ByteArray} (h1 : Qy s = true → s.toList.length ≤ 28) (h2 : Qy u = true → u.toList.length ≤ 28) (h : Q1y s = Q1y u) : s = u := by
  by_cases a : Qy s = true
  · by_cases b : Qy u = true
    · have e := Q2c a; rw [h, Q2c b] at e; injection e with _ e
      injection e with _ e
      exact (tl_inj (List.append_cancel_right e)).symm
    rw [JP b] at h; rw [← h, Q3K a (h1 a)] at b; exact absurd rfl b
  by_cases b : Qy u = true
  · rw [JP a] at h; rw [h, Q3K b (h2 b)] at a; exact absurd rfl a
  rw [JP a, JP b] at h; exact h
theorem Qcy (s : ByteArray) : Q12 fiveT (Q1y s) = Q12 fiveT s := by
  by_cases a : Qy s = true
  · have n1 : Q12 fiveT s = false := by
      cases hh : Q12 fiveT s with
      | false => rfl
      | true =>
        obtain ⟨w, k1, k2⟩ := List.any_eq_true.1 hh; obtain rfl := of_decide_eq_true k2; have := List.all_eq_true.1 Q8A w k1; have := (Zz.1 a).2.2.2.2
        simp_all
    have n2 : Q12 fiveT (Q1y s) = false := by
      cases hh : Q12 fiveT (Q1y s) with
      | false => rfl
      | true =>
        obtain ⟨w, k1, k2⟩ := List.any_eq_true.1 hh; have e := of_decide_eq_true k2; have := List.all_eq_true.1 five_z w k1; have e3 := Q2c a; rw [← e, ByteArray.toList_eq] at e3; rw [e3] at this; cases this
    rw [n1, n2]
  rw [JP a]
theorem ren_is (hl : ∀ t, t ∈ T → Qy t.s = true → t.s.toList.length ≤ 28) : Ren (vw T) (vw (T.map KN)) Q1y := by
  have g : ∀ i : Int, (T.map KN)[i.toNat]? = (T[i.toNat]?).map KN := fun i => List.getElem?_map ..
  have e0 : Qy .empty = false := by
    cases h : Qy .empty with
    | false => rfl
    | true => exact absurd (by rw [ByteArray.toList_eq]; rfl) (Zz.1 h).1
  have hs : ∀ i, Qy ((vw T).s i) = true → ((vw T).s i).toList.length ≤ 28 := fun i => by
    show Qy (match T[i.toNat]? with | some w => w.s | none => .empty) = true → (match T[i.toNat]? with | some w => w.s | none => .empty : ByteArray).toList.length ≤ 28; cases h : T[i.toNat]? with
    | none => intro h2; rw [e0] at h2; cases h2
    | some w => exact hl w (List.mem_of_getElem? h)
  refine ⟨List.length_map .., ?_, ?_, ?_, ?_, ?_, fun i => ?_, fun i j => Qe5 (hs i) (hs j), fun i => Qcy _⟩
  all_goals first | (funext i; simp only [vw, g]; cases T[i.toNat]? <;> rfl) | skip
  simp only [vw, g]; cases T[i.toNat]? with
  | none => exact (JP (s := .empty) (by rw [e0]; decide)).symm
  | some w => rfl
end
end Go.Proofs.YtkidomfnmpnmaaaGreatDoor
namespace Go.Proofs.YtkidomfnmpnmaaaGreatDoor
open Go.X Go.Nam
def twL (l : List Tw) : List Value := l.flatMap Tw.cells
theorem elT : ElN nmE 22 41 5 71 := ⟨by kernel_rfl, by kernel_rfl, by kernel_rfl, .agg #[.int .i64 0, .string .empty, .int .i64 0, .int .i64 0, .int .i64 0, .slice none 0 0], by kernel_rfl, rfl⟩
theorem Q90 : ∀ l : List Tw, (twL l).length = l.length * 6
  | [] => rfl
  | t :: l => by
    show (t.cells ++ twL l).length = _; rw [List.length_append, Q90 l]; show 6 + _ = _; simp; omega
theorem Q1H (t : Tw) (l : List Tw) : twL (t :: l) = t.cells ++ twL l := rfl
theorem Q91 : ∀ (l : List Tw) (rest : List Value) (i : Nat) (t : Tw), l[i]? = some t → ((twL l ++ rest).drop (i * 6)).take 6 = t.cells
  | t :: l, rest, 0, t', h => by
    simp only [List.getElem?_cons_zero, Option.some.injEq] at h; subst h; rfl
  | t :: l, rest, i + 1, t', h => by
    rw [Q1H, show (i + 1) * 6 = 6 + i * 6 by omega, List.append_assoc, ← List.drop_drop, List.drop_left' (show t.cells.length = 6 from rfl)]; exact Q91 l rest i t' (by simpa using h)
  | [], _, _, _, h => by simp at h
theorem Q8Z : ∀ (l : List Tw) (i : Nat) (t : Tw) (s : ByteArray), l[i]? = some t → (twL l).set (i * 6 + 1) (.string s) = twL (l.set i { t with s := s })
  | t :: l, 0, t', s, h => by
    simp only [List.getElem?_cons_zero, Option.some.injEq] at h; subst h; rfl
  | t :: l, i + 1, t', s, h => by
    rw [Q1H, List.set_cons_succ, Q1H, show (i + 1) * 6 + 1 = t.cells.length + (i * 6 + 1) by show _ = 6 + _; omega, List.set_append_right _ _ (by omega), Nat.add_sub_cancel_left]; rw [Q8Z l i t' s (by simpa using h)]
  | [], _, _, _, h => by simp at h
theorem Q7g : ∀ (T : List Tw) (cs : List Value), T.length * 6 ≤ cs.length → (∀ i (hi : i < T.length), (cs.drop (i * 6)).take 6 = T[i].cells) → cs.take (T.length * 6) = twL T
  | [], cs, _, _ => by simp [twL]
  | t :: T, cs, h1, h2 => by
    have e0 := h2 0 (by simp); rw [Nat.zero_mul, List.drop_zero] at e0
    have ih := Q7g T (cs.drop 6) (by simp at h1 ⊢; omega) (fun i hi => by
      have := h2 (i + 1) (by simpa using hi)
      rw [List.drop_drop, show 6 + i * 6 = (i + 1) * 6 by omega]; exact this)
    rw [Q1H, ← ih, show (t :: T).length * 6 = 6 + T.length * 6 by simp; omega, List.take_add]; rw [e0]; rfl
theorem Qbt {h : Hp} {T : List Tw} (hr : ∀ t, t ∈ T → RowV h t.ks (isV t.kids)) : (twL T).all cellV = true := by
  rw [List.all_eq_true]; intro v hv; obtain ⟨t, ht, hv⟩ := List.mem_flatMap.1 hv; simp only [List.mem_cons, List.not_mem_nil, or_false] at hv; rcases hv with rfl | rfl | rfl | rfl | rfl | rfl <;> first | rfl | (have k := RowV.cellV (hr t ht); exact k)
def Q2M (T : List Tw) (i : Nat) : List Tw := (T.take i).map KN ++ T.drop i
theorem Qd1 (T : List Tw) (i : Nat) (h : i ≤ T.length) : (Q2M T i).length = T.length := by simp [Q2M]; omega
theorem Qdt (T : List Tw) : Q2M T 0 = T := by simp [Q2M]
theorem up_all (T : List Tw) : Q2M T T.length = T.map KN := by simp [Q2M]
theorem Qdv {T : List Tw} {i : Nat} (h : i < T.length) : (Q2M T i)[i]? = some T[i] := by
  unfold Q2M; rw [List.getElem?_append_right (by simp; omega)]; simp [Nat.min_eq_left (Nat.le_of_lt h), h]
theorem Q8X {T : List Tw} {i : Nat} (h : i < T.length) : (Q2M T i).set i (KN T[i]) = Q2M T (i + 1) := by
  unfold Q2M; rw [List.set_append_right _ _ (by simp; omega), List.drop_eq_getElem_cons h, List.take_add_one, List.getElem?_eq_getElem h, List.map_append, List.length_map, List.length_take, Nat.min_eq_left (Nat.le_of_lt h), Nat.sub_self, List.set_cons_zero, List.append_assoc]; rfl
theorem Qdu {T : List Tw} {i : Nat} (h : i < T.length) (e : KN T[i] = T[i]) : Q2M T (i + 1) = Q2M T i := by
  rw [← Q8X h, e]; have hl : i < (Q2M T i).length := by rw [Qd1 T i (by omega)]; exact h
  have e2 := Qdv h; rw [List.getElem?_eq_getElem hl] at e2; rw [← Option.some.inj e2, List.set_getElem_self]
def st00 : Nst := ⟨[], [], [], [], [], [], [], [], 0, [], fun _ => none, [], 0, 0, 0⟩
def stN (st : Nst) : Nst := if st.wrong = [] then st else st00
theorem QbN {T U : V} {ρ : Txt → Txt} {a b : Nst} (R : StRel T ρ a b) : SameN (stN a) (stN b) := by
  unfold stN; rw [R.wrong]
  split
  · refine ⟨R.means, R.owners, R.lo, R.cl, R.gl, R.cp, R.ev, R.main, Q1m R.funcs, fun j f g h1 h2 => ?_⟩; obtain ⟨k1, k2, k3⟩ := f2_at R.funcs h1 h2; exact ⟨k1, k2, k3⟩
  exact ⟨rfl, rfl, rfl, rfl, rfl, rfl, rfl, rfl, rfl, fun j f g h1 _ => by simp [st00] at h1⟩
end Go.Proofs.YtkidomfnmpnmaaaGreatDoor
namespace Go.Proofs.YtkidomfnmpnmaaaGreatDoor
open Go.X Go.Nam
theorem knows {h : Hp} (ht : QT 1 Y2 h = true) : Q2q 1 Y2 [] h = some (.bool true, h) := by
  simp only [Q2q, ht, cond_true]
theorem Qe3 {T : List Tw} (M : MayV T) : ∃ n, n ≤ T.length ∧ Inv (vw T) (Z3 (vw T)) n [] (2 + (4 * (n - 0) - 1)) := by
  obtain ⟨n, hs⟩ := M.s; exact ⟨n, sub_le hs, (Q3u M.P (T.length + 1) (T.length + 1) (Nat.le_refl _) 0 n (JN (vw T)) [] 2 hs ⟨Q72 n, fun x hx => (by cases hx), ⟨fun h => absurd h M.r.1, fun h => absurd h M.r.2.1, fun h => absurd h M.r.2.2⟩⟩).1⟩
theorem Q9S {h : Hp} {st : Nst} {x : Nv} (N : NmAt h st x) (m : Int) : ([x.me, x.ow, x.lo, x.cl, x.gl, x.co, x.ev, x.fu, iV m] : List Value).all cellV = true := by
  obtain ⟨_, n1⟩ := N.me; obtain ⟨_, n8⟩ := N.fu; simp only [List.all_cons, List.all_nil, n1.cellV, n8.cellV, RowV.cellV N.ow, RowV.cellV N.lo, RowV.cellV N.cl, RowV.cellV N.gl, RowV.cellV N.co, RowV.cellV N.ev, Bool.true_and, Bool.and_true]; rfl
theorem got {h h' : Hp} {sv v : Value} {T : List Tw} (r : ResAt h h' sv T v) (hm : Q43 T = true) (hT : T.length ≤ 1000) (M : MayV T) : ∃ (x : Nv) (dg : Value) (bs : List Nat), v = .tuple #[x.v (stN (Z3 (vw T))).main, dg] ∧ NmAt h' (stN (Z3 (vw T))) x ∧ SlC 55 2 h' dg (wrC (Z3 (vw T)).wrong) (Z3 (vw T)).wrong.length bs ∧ LessN (stN (Z3 (vw T))) ∧ (Z3 (vw T)).wrong.length ≤ 1000000 := by
  obtain ⟨n, hn, I⟩ := Qe3 M; have hbw := I.bw; have hbf := I.bf; have hlm := I.lm; have hlw := I.lw; have hTn : (vw T).n = T.length := rfl; rcases r with ⟨hf, _⟩ | ⟨_, rb, rs, w, E, S, hv⟩
  · rw [hm] at hf; cases hf
  unfold stN; generalize hst : Z3 (vw T) = st at *; rcases hv with ⟨hw, rfl⟩ | ⟨hw, rfl⟩
  · rw [if_neg hw]; refine ⟨⟨.slice none 0 0, .slice none 0 0, .slice none 0 0, .slice none 0 0, .slice none 0 0, .slice none 0 0, .slice none 0 0, .slice none 0 0, []⟩, w.wr.v, w.wr.b, rfl, ?_, ?_, ?_, by omega⟩
    · exact ⟨⟨[], .inl ⟨rfl, rfl, rfl, rfl⟩⟩, .inl ⟨rfl, _, _, rfl⟩, .inl ⟨rfl, _, _, rfl⟩, .inl ⟨rfl, _, _, rfl⟩, .inl ⟨rfl, _, _, rfl⟩, .inl ⟨rfl, _, _, rfl⟩, .inl ⟨rfl, _, _, rfl⟩, ⟨[], .inl ⟨rfl, rfl, rfl, rfl⟩⟩, rfl, fun j f y h1 _ => by simp [st00] at h1⟩
    · have := S.sl 9 rfl; rw [E.wr, E.wrn] at this; exact this
    exact ⟨Nat.zero_le _, Nat.zero_le _, Nat.zero_le _, Nat.zero_le _, Nat.zero_le _, Nat.zero_le _, Nat.zero_le _, Nat.zero_le _, fun f h => by cases h⟩
  rw [if_pos hw]; refine ⟨⟨w.me.v, w.ow.v, w.lo.v, w.cl.v, w.gl.v, w.co.v, w.ev.v, w.fu.v, w.cv⟩, .slice none 0 0, [], rfl, ?_, ?_, ?_, by omega⟩
  · refine ⟨⟨w.me.b, ?_⟩, ?_, ?_, ?_, ?_, ?_, ?_, ⟨w.fu.b, ?_⟩, E.cv, fun j f y h1 h2 => ?_⟩
    · have := S.sl 1 rfl; rw [E.me, E.men] at this; exact this
    · have := (S.sl 2 rfl).row; rw [E.ow] at this; exact this
    · have := (S.sl 3 rfl).row; rw [E.lo] at this; exact this
    · have := (S.sl 4 rfl).row; rw [E.cl] at this; exact this
    · have := (S.sl 5 rfl).row; rw [E.gl] at this; exact this
    · have := (S.sl 6 rfl).row; rw [E.co] at this; exact this
    · have := (S.sl 7 rfl).row; rw [E.ev] at this; exact this
    · have := S.sl 8 rfl; rw [E.fu, E.fun'] at this; exact this
    have hpc : w.cp[j]? = some (slR 3 0 y.1 (isV f.caps) f.caps.length y.2) := by rw [E.cp]; exact Qb3 _ _ _ _ _ h1 h2
    exact (S.sl _ (Q4o (F := [_, _, _, _, _, _, _, _, _, _, _, _, _]) (B := w.sp) hpc)).row
  · rw [hw]; exact .inl ⟨rfl, rfl, rfl, rfl⟩
  obtain ⟨k1, k2, k3, k4⟩ := E.lsb; exact ⟨by omega, by omega, k1, k2, k3, E.cpb, k4, by omega, fun f hf => by have := I.bc f hf; omega⟩
theorem Q92 {h : Hp} {t : Tw} (r : RowV h t.ks (isV t.kids)) : t.cells.all cellV = true := by
  have k := RowV.cellV r; simp only [Tw.cells, List.all_cons, List.all_nil, k, Bool.and_true]; rfl
theorem Qbw {h : Hp} {T : List Tw} {vb vc : Nat} {bs : List Nat} (s : SlC 41 5 h (.slice (some ⟨vb, 0, none⟩) T.length vc) (twL T) T.length bs) (hp : 0 < T.length) (hr : ∀ t, t ∈ T → RowV h t.ks (isV t.kids)) : TreeAt h (.slice (some ⟨vb, 0, none⟩) T.length vc) T := by
  obtain ⟨b, c, hv, hb, hl⟩ := Y3 s hp; obtain ⟨rfl, rfl⟩ : vb = b ∧ vc = c := by simpa using hv
  obtain ⟨r, m, hg⟩ := YA s; refine ⟨.inr ⟨vb, 0, vc, _, _, _, rfl, hg, s.lt vb (by rw [hb]; simp), by rw [List.length_append, hl]; omega, fun i hi => ?_⟩, hr⟩; rw [Nat.zero_add]; exact Q91 _ _ _ _ (List.getElem?_eq_getElem hi)
theorem Q6l {T : List Tw} {P : Tw → Prop} (hP : ∀ t, P t → P (KN t)) (hr : ∀ t, t ∈ T → P t) : ∀ t, t ∈ T.map KN → P t := by
  intro t ht; obtain ⟨u, hu, rfl⟩ := List.mem_map.1 ht; exact hP u (hr u hu)
section
variable {h : Hp} {sv : Value} {T : List Tw}
set_option maxHeartbeats 4000000 in
theorem n4 (B : Blk h) (Pw : Pow h) (X : TreeAt h sv T) (G : ∀ t, t ∈ T → RowG h t.ks (isV t.kids)) (hN : ∀ t, t ∈ T → -9223372036854775808 ≤ t.N ∧ t.N ≤ 9223372036854775807) : C nmE 4 [.agg #[sv]] h fun v _ => v = .bool true := by
  have Y := X; obtain ⟨ta, tc, rfl⟩ := X.val; refine Qf (fu := Tryz.f4) (by kernel_rfl) rfl ?_; have S := SH.start h; refine Qd ?_; refine Yu S gn rfl rfl fun b1 g nb1 S => ?_; refine Q3 gn rfl rfl ?_; refine Q5 ?_; refine Jb [(1, ZB b1)] (fun lv hh => lv = [] ∧ SH h [] [cR b1 (.cells [.slice ta T.length tc] 24 0)] hh ∧ Q57 T 300 = false ∧ Q43 T = true) ?_ fun lv hh hJ => ?_
  · skip
    refine Qd ?_; refine Qs (n := 1) gn rfl rfl (by kernel_rfl) (by kernel_rfl) (by exact S.cel 0 rfl) (Nat.le_refl _) ?_; refine Qb [_, _] gn rfl rfl (by kernel_rfl) rfl (C.mono (c8 (Y.ext S.e0)) ?_); rintro v g ⟨rfl, x⟩; have S := S.grow x; refine ⟨ag0, ?_⟩; refine Q4 gn rfl rfl ?_; refine QS (dc := 12) rfl (fun hb12 => ?_) fun hb12 => ?_
    · skip
      refine Z1 (n := 3) (dc := 12) (w := false) rfl hb12 rfl ?_; refine Z8 gn rfl rfl hb12 rfl ?_; refine Q5 ?_; refine Qa rfl (fun hb => ?_) fun hb => ?_
      · skip
        refine Qd ?_; refine Qda [] gn rfl rfl (by kernel_rfl) (by kernel_rfl) sm7 rfl (knows (B.ext S.e0).t) (.refl _) ag0 ?_; refine Q3 gn rfl rfl ?_; refine Q5 ?_; refine Qc ?_; refine ⟨.inl rfl, _, rfl, ?_⟩; exact rfl
      exact absurd hb (by decide)
    refine Qs (n := 1) (gy rfl rfl rfl hb12) rfl rfl (by kernel_rfl) (by kernel_rfl) (by exact S.cel 0 rfl) (Nat.le_refl _) ?_; refine Qb [_] (gy rfl rfl rfl hb12) rfl rfl (by kernel_rfl) rfl (C.mono (c11 (Y.ext S.e0) (by have := (Q6v hb12).1; omega) (Q6v hb12).2) ?_); rintro v g ⟨rfl, x⟩; have S := S.grow x; refine ⟨ag0, ?_⟩; refine ZN (gy rfl rfl rfl hb12) rfl rfl ?_; refine Zg gn rfl rfl hb12 rfl ?_; refine Q5 ?_; refine Qa rfl (fun hb => ?_) fun hb => ?_
    · skip
      refine Qd ?_; refine Qda [] gn rfl rfl (by kernel_rfl) (by kernel_rfl) sm7 rfl (knows (B.ext S.e0).t) (.refl _) ag0 ?_; refine Q3 gn rfl rfl ?_; refine Q5 ?_; refine Qc ?_; refine ⟨.inl rfl, _, rfl, ?_⟩; exact rfl
    refine Qe ?_; exact Q1D [] (by repeat (first | exact trivial | refine ⟨rfl, ?_⟩)) ⟨rfl, S, hb12, by simpa using hb⟩
  obtain ⟨rfl, S, hmuch, hmay⟩ := hJ; obtain ⟨l1, s1⟩ := Q6v hmuch; have M := may_v hmay (by omega) s1; have hp := M.p; obtain ⟨b, o, c, cs, ee, m, hv, hg, hlb, hl6, hat⟩ := X.at hp; obtain ⟨rfl, rfl⟩ : ta = some ⟨b, o, none⟩ ∧ tc = c := by simp only [Value.slice.injEq, true_and] at hv; exact hv
  refine Qd ?_; refine Q0 (off := 0) gn rfl rfl (by kernel_rfl) ?_; refine Q6 gn rfl rfl (by kernel_rfl) (by exact S.cel 0 rfl) rfl ?_; have hsrc := Q9j (z := 5) (n := T.length) (o := o) (c := tc) (S.old0 hg hlb) (by omega); have hcat : (cs.drop o).take (T.length * (5 + 1)) = twL T := Q7g T (cs.drop o) (by rw [List.length_drop]; omega) (fun i hi => by rw [List.drop_drop]; exact hat i hi); rw [hcat] at hsrc; obtain ⟨v', g', bk, ha, hN2, hE, hnew⟩ := Qff elT (.inl ⟨rfl, rfl, rfl, rfl⟩) hsrc (Qbt fun t ht => Y.2 t ht) (by omega); rw [List.nil_append, Nat.zero_add] at hN2; obtain ⟨vb, vc, rfl, rfl, hvl⟩ := Y3 hN2.toC hp; refine Q7r gn rfl rfl rfl ha ag0 ?_
  have S := S.push (r := slR 41 5 (.slice (some ⟨vb, 0, none⟩) T.length vc) (twL T) T.length [vb]) hE.nil hN2.toC hN2.toC.lt (fun j hj => (hnew j hj).resolve_left (by simp)) hN2.nodup; refine Yf (zv := .agg #[.slice none 0 0]) (pl := [(0, 1)]) [(0, _)] gn rfl (by kernel_rfl) (by kernel_rfl) rfl (by rfl) ?_; refine Zl (zv := .agg #[.slice none 0 0]) S gn rfl (by kernel_rfl) fun b2 g nb2 S => ?_; refine QL (n := 1) 0 S gn rfl rfl (by kernel_rfl) (by kernel_rfl) rfl rfl (by decide) rfl (fun g S => ag0) fun g S => ?_; refine J0 ?_; refine Q3 gn rfl rfl ?_; refine Q5 ?_; refine Qh ?_
  refine QV [(4, _)] [(1, _), (3, _)] (by repeat (first | exact trivial | refine ⟨rfl, ?_⟩)) (fun kk lv hh => ∃ i : Nat, lv = [(4, iV i)] ∧ kk = T.length - i ∧ i ≤ T.length ∧ (∀ j (hj : j < T.length), j < i → T[j].s.size ≤ 28) ∧ SH h [] [cR b2 (.cells [.slice (some ⟨vb, 0, none⟩) T.length vc] 24 0), slR 41 5 (.slice (some ⟨vb, 0, none⟩) T.length vc) (twL (Q2M T i)) T.length [vb], cR b1 (.cells [.slice (some ⟨b, o, none⟩) T.length tc] 24 0)] hh) (n := T.length) ?_ fun kk lv hh hI => ?_
  · exact ⟨0, rfl, rfl, Nat.zero_le _, fun j _ hj => by omega, by rw [Qdt]; exact S⟩
  obtain ⟨i, rfl, hkk, hi, hsz, S⟩ := hI; refine Qk ?_; refine Qd ?_; refine Q4 gn rfl rfl ?_; refine Q0 (off := 0) gn rfl rfl (by kernel_rfl) ?_; refine Q6 gn rfl rfl (by kernel_rfl) (by exact S.cel 0 rfl) rfl ?_; refine QJ gn rfl rfl (by kernel_rfl) ?_; refine Zo gn rfl rfl rfl ?_; refine Q5 ?_; refine Qa rfl (fun hb => ?_) fun hb => ?_
  · skip
    refine Qe ?_; have hi : i < T.length := by simp at hb; omega
    obtain ⟨rr, mm, hgv⟩ := YA (S.sl 1 rfl); have ktw : ((twL (Q2M T i) ++ rr).drop (0 + Int.toNat (i : Int) * 6)).take 6 = T[i].cells := by rw [Int.toNat_natCast, Nat.zero_add]; exact Q91 _ _ _ _ (Qdv hi)
    have hul : (twL (Q2M T i)).length = T.length * 6 := by rw [Q90, Qd1 T i (by omega)]
    refine Qk ?_; refine Qh ?_; refine Qd ?_; refine Q0 (off := 0) gn rfl rfl (by kernel_rfl) ?_; refine Q6 gn rfl rfl (by kernel_rfl) (by exact S.cel 0 rfl) rfl ?_; refine Q4 gn rfl rfl ?_; refine Q8 (zz := 6) gn rfl rfl rfl (by kernel_rfl) (by omega) (by omega) ?_; refine Qs (n := 6) gn rfl rfl (by kernel_rfl) (by kernel_rfl) hgv (by rw [List.length_append, hul, Int.toNat_natCast]; omega) ?_; rw [ktw]; refine Zl (zv := .agg #[.int .i64 0, .string .empty, .int .i64 0, .int .i64 0, .int .i64 0, .slice none 0 0]) S gn rfl (by kernel_rfl) fun b3 g nb3 S => ?_
    refine QL (n := 6) 0 S gn rfl rfl (Q92 (Y.2 T[i] (List.getElem_mem hi))) (by kernel_rfl) rfl rfl (by decide) rfl (fun g S => ag0) fun g S => ?_; have S : SH h [] [cR b3 (.cells T[i].cells 41 0), cR b2 (.cells [.slice (some ⟨vb, 0, none⟩) T.length vc] 24 0), slR 41 5 (.slice (some ⟨vb, 0, none⟩) T.length vc) (twL (Q2M T i)) T.length [vb], cR b1 (.cells [.slice (some ⟨b, o, none⟩) T.length tc] 24 0)] g := S; refine J0 ?_; refine Q0 (off := 1) gn rfl rfl (by kernel_rfl) ?_; refine Q6 gn rfl rfl (by kernel_rfl) (by exact S.cel 0 rfl) rfl ?_; refine KQ gn rfl rfl (by kernel_rfl) ?_; refine Q00 gn rfl rfl rfl ?_; refine Q5 ?_; refine Qa rfl (fun hb => ?_) fun hb => ?_
    · skip
      refine Qd ?_; refine Qda [] gn rfl rfl (by kernel_rfl) (by kernel_rfl) sm7 rfl (knows (B.ext S.e0).t) (.refl _) ag0 ?_; refine Q3 gn rfl rfl ?_; refine Q5 ?_; refine Qc ?_; refine ⟨.inl rfl, _, rfl, ?_⟩; exact rfl
    refine Qe ?_; have h28 : T[i].s.size ≤ 28 := by simp at hb; omega
    have hsz' : ∀ j (hj : j < T.length), j < i + 1 → T[j].s.size ≤ 28 := fun j hj hji => by
      by_cases e : j = i
      · subst e; exact h28
      exact hsz j hj (by omega)
    refine Qd ?_; refine Q0 (off := 1) gn rfl rfl (by kernel_rfl) ?_; refine Q6 gn rfl rfl (by kernel_rfl) (by exact S.cel 0 rfl) rfl ?_; refine Qb [_] gn rfl rfl (by kernel_rfl) rfl (C.mono (c65 (by have := Q67 T[i].s; omega)) ?_); rintro v g ⟨rfl, x⟩; have S := S.grow x; refine ⟨ag0, ?_⟩; refine Q5 ?_; refine Qa rfl (fun hb => ?_) fun hb => ?_
          
    · skip
      have hnm : Qy T[i].s = true := hb; refine Q7 (by kernel_rfl) ?_; refine Q0 (off := 0) gn rfl rfl (by kernel_rfl) ?_; refine Q6 gn rfl rfl (by kernel_rfl) (by exact S.cel 1 rfl) rfl ?_; refine Q4 gn rfl rfl ?_; refine Q0 (off := 1) gn rfl rfl (by kernel_rfl) ?_; refine Q6 gn rfl rfl (by kernel_rfl) (by exact S.cel 0 rfl) rfl ?_; refine Q33 gn rfl rfl rfl (by show 2 + T[i].s.size < _; omega) ?_; refine Q33 gn rfl rfl rfl (by rw [ByteArray.size_append]; show 2 + T[i].s.size + 1 < _; omega) ?_; refine Q8 (zz := 6) gn rfl rfl rfl (by kernel_rfl) (by omega) (by omega) ?_; refine Q0 (off := 1) gn rfl rfl (by kernel_rfl) ?_
      refine Q7b 2 S gn rfl rfl rfl (by kernel_rfl) rfl rfl (by rw [hul, Int.toNat_natCast]; omega) (fun g S => ag0) fun g S => ?_; have S := S.drop
      have hset : (twL (Q2M T i)).set (0 + Int.toNat (i : Int) * 6 + 1) (.string (preZ ++ T[i].s ++ postZ)) = twL (Q2M T (i + 1)) := by
        rw [Int.toNat_natCast, Nat.zero_add, Q8Z _ _ _ _ (Qdv hi), ← Q8X hi]; unfold KN Q1y; rw [if_pos hnm]
      have S : SH h [] [cR b2 (.cells [.slice (some ⟨vb, 0, none⟩) T.length vc] 24 0), slR 41 5 (.slice (some ⟨vb, 0, none⟩) T.length vc) ((twL (Q2M T i)).set (0 + Int.toNat (i : Int) * 6 + 1) (.string (preZ ++ T[i].s ++ postZ))) T.length [vb], cR b1 (.cells [.slice (some ⟨b, o, none⟩) T.length tc] 24 0)] g := S; rw [hset] at S; refine Q5 ?_; refine Q7 (by kernel_rfl) ?_; refine Q4 gn rfl rfl ?_; refine QU gn rfl rfl rfl (by omega) (by omega) ?_; refine Q3 gn rfl rfl ?_; refine Q5 ?_; exact KL (T.length - (i + 1)) (by omega) [(4, _)] (by repeat (first | exact trivial | refine ⟨rfl, ?_⟩)) ⟨i + 1, rfl, rfl, by omega, hsz', S⟩
    refine Qe ?_; have S := S.drop; have S : SH h [] [cR b2 (.cells [.slice (some ⟨vb, 0, none⟩) T.length vc] 24 0), slR 41 5 (.slice (some ⟨vb, 0, none⟩) T.length vc) (twL (Q2M T i)) T.length [vb], cR b1 (.cells [.slice (some ⟨b, o, none⟩) T.length tc] 24 0)] g := S; rw [← Qdu hi (by unfold KN; rw [JP (by rw [hb]; decide)])] at S; refine Q7 (by kernel_rfl) ?_; refine Q4 gn rfl rfl ?_; refine QU gn rfl rfl rfl (by omega) (by omega) ?_; refine Q3 gn rfl rfl ?_; refine Q5 ?_; exact KL (T.length - (i + 1)) (by omega) [(4, _)] (by repeat (first | exact trivial | refine ⟨rfl, ?_⟩)) ⟨i + 1, rfl, rfl, by omega, hsz', S⟩
  refine Zb ?_; refine Qx ?_; refine Qz ?_; refine Za ?_; obtain rfl : i = T.length := by simp at hb; omega
  rw [up_all] at S
  have hl28 : ∀ t, t ∈ T → Qy t.s = true → t.s.toList.length ≤ 28 := fun t ht _ => by
    obtain ⟨j, hj, rfl⟩ := List.mem_iff_getElem.1 ht; have := hsz j hj hj; have := Q67 T[j].s; omega
  have hmay2 : Q43 (T.map KN) = true := by rw [Qel hl28]; exact hmay
  have hT2 : (T.map KN).length = T.length := List.length_map ..
  have s2 : ∀ t, t ∈ T.map KN → t.s.toList.length ≤ 100 := by
    intro t ht; obtain ⟨u, hu, rfl⟩ := List.mem_map.1 ht; by_cases hn : Qy u.s = true
    · have h1 := hl28 u hu hn; have : (KN u).s.toList.length = u.s.toList.length + 3 := by show (Q1y u.s).toList.length = _; rw [Q2c hn]; simp
      omega
    have : (KN u).s = u.s := JP hn; rw [this]; exact s1 u hu
  have M2 := may_v hmay2 (by omega) s2; refine Qd ?_; refine Qs (n := 1) gn rfl rfl (by kernel_rfl) (by kernel_rfl) (by exact S.cel 2 rfl) (Nat.le_refl _) ?_; refine Qb [_] gn rfl rfl (by kernel_rfl) rfl (C.mono (n8 (Y.ext S.e0) (fun t ht => (G t ht).ext S.e0) hN (B.ext S.e0) (Pw.ext S.e0) (by omega) s1 (fun _ => M)) ?_); rintro v g ⟨x, r⟩; have S := S.grow x; obtain ⟨x1, dg1, bs1, rfl, N1, D1, L1, l1'⟩ := got r hmay (by omega) M; have Sa := S; have S := SH.start g; refine ⟨ag0, ?_⟩; refine Q4 gn rfl rfl ?_; refine Zj gn rfl rfl rfl ?_; refine Zj gn rfl rfl rfl ?_
  refine Zl (zv := .agg #[.slice none 0 0, .slice none 0 0, .slice none 0 0, .slice none 0 0, .slice none 0 0, .slice none 0 0, .slice none 0 0, .slice none 0 0, .int .i64 0]) S gn rfl (by kernel_rfl) fun b4 g nb4 S => ?_; refine QL (n := 9) 0 S gn rfl rfl (Q9S N1 _) (by kernel_rfl) rfl rfl (by decide) rfl (fun g S => ag0) fun g S => ?_; refine Q3 gn rfl rfl ?_; refine ZC ?_; refine Qs (n := 1) gn rfl rfl (by kernel_rfl) (by kernel_rfl) ((S.e0.get _ (Sa.lt1 0 rfl)).trans (Sa.cel 0 rfl)) (Nat.le_refl 1) ?_
  refine Qb [_] gn rfl rfl (by kernel_rfl) rfl (C.mono (n8 (sv := .slice (some ⟨vb, 0, none⟩) T.length vc) (T := T.map KN) (hT2 ▸ Qbw (T := T.map KN) (by rw [hT2]; exact Q1f (Sa.sl 1 rfl) S.e0) (by omega) (Q6l (fun t k => k) fun t ht => ((Y.2 t ht).ext Sa.e0).ext S.e0)) (Q6l (fun t k => k) fun t ht => ((G t ht).ext Sa.e0).ext S.e0) (Q6l (fun t k => k) hN) ((B.ext Sa.e0).ext S.e0) ((Pw.ext Sa.e0).ext S.e0) (by omega) s2 (fun _ => M2)) ?_); rintro v g ⟨x, r2⟩; have S := S.grow x; obtain ⟨x2, dg2, bs2, rfl, N2, D2, L2, l2'⟩ := got r2 hmay2 (by omega) M2; have Sb := S; have S := SH.start g; refine ⟨ag0, ?_⟩; refine Q4 gn rfl rfl ?_; refine Zj gn rfl rfl rfl ?_; refine Zj gn rfl rfl rfl ?_
  refine Zl (zv := .agg #[.slice none 0 0, .slice none 0 0, .slice none 0 0, .slice none 0 0, .slice none 0 0, .slice none 0 0, .slice none 0 0, .slice none 0 0, .int .i64 0]) S gn rfl (by kernel_rfl) fun b5 g nb5 S => ?_; refine QL (n := 9) 0 S gn rfl rfl (Q9S N2 _) (by kernel_rfl) rfl rfl (by decide) rfl (fun g S => ag0) fun g S => ?_; refine Q3 gn rfl rfl ?_; refine Q5 ?_; refine Qk ?_; have RR := Q6j (ren_is hl28); have SN := QbN (U := vw (T.map KN)) RR; have hwr : (Z3 (vw (T.map KN))).wrong = (Z3 (vw T)).wrong := RR.wrong; rw [hwr] at D2; have N1' := (N1.ext Sb.e0).ext S.e0; have N2' := N2.ext S.e0; refine Q7 (by kernel_rfl) ?_; refine Q4 gn rfl rfl ?_; refine Q4 gn rfl rfl ?_
  refine Qb [_, _] gn rfl rfl (by kernel_rfl) rfl (ZR (n12 (Q1f (Q1f D1 Sb.e0) S.e0) (Q1f D2 S.e0) l1') ⟨ag0, ?_⟩); refine Q4 gn rfl rfl ?_; refine QS (dc := 64) rfl (fun hb64 => ?_) fun hb64 => ?_
  · skip
    refine Qs (n := 9) (gy rfl rfl rfl hb64) rfl rfl (by kernel_rfl) (by kernel_rfl) ((S.e0.get _ (Sb.lt1 0 rfl)).trans (Sb.cel 0 rfl)) (Nat.le_refl 9) ?_; refine Qs (n := 9) (gy rfl rfl rfl hb64) rfl rfl (by kernel_rfl) (by kernel_rfl) (by exact S.cel 0 rfl) (Nat.le_refl _) ?_; refine Qb [_, _, _] (gy rfl rfl rfl hb64) rfl rfl (by kernel_rfl) rfl (C.mono (n13 N1' N2' SN L1) ?_); rintro v g ⟨rfl, x⟩; have S := S.grow x; refine ⟨ag0, ?_⟩; refine Z8 gn rfl rfl hb64 rfl ?_; refine Q4 gn rfl rfl ?_; refine QS (dc := 69) rfl (fun hb69 => ?_) fun hb69 => ?_
    · skip
      refine Qda [] (gy rfl rfl rfl hb69) rfl rfl (by kernel_rfl) (by kernel_rfl) sm7 rfl (knows (((B.ext Sa.e0).ext Sb.e0).ext S.e0).t) (.refl _) ag0 ?_; refine Z8 gn rfl rfl hb69 rfl ?_; refine Q3 gn rfl rfl ?_; refine Q5 ?_; refine Qc ?_; refine ⟨.inl rfl, _, rfl, ?_⟩; rfl
    exact absurd hb69 (by simp [lk])
  exact absurd hb64 (by simp [lk])
end
end Go.Proofs.YtkidomfnmpnmaaaGreatDoor
namespace Go.Proofs.YtkidomfnmpnmaaaGreatDoor
open Go.ChangeShapes Go.WideShapes Go.ChangeAt Go.RowKit Go.Deep Go.X
set_option maxRecDepth 100000
theorem QbD : Tryz.prog.underlying 4 = some .bool := by kernel_rfl
theorem QdD : ownKnob Tryz.prog.godebug = none := by kernel_rfl
theorem Qby : laidOutB Tryz.prog = true := by kernel_rfl
theorem Q61 : Tryz.prog.underlying 3 = some (.int .i64) := by kernel_rfl
theorem QdE : Tryz.prog.underlying 2 = some (.int .i64) := by kernel_rfl
theorem Qbz : Tryz.prog.underlying 39 = some (.int .i64) := by kernel_rfl
theorem QdC : Tryz.prog.underlying 9 = some .string := by kernel_rfl
theorem QbA : Tryz.prog.underlying 29 = some (.slice 3) := by kernel_rfl
theorem Q21 : Tryz.prog.underlying 22 = some (.slice 41) := by kernel_rfl
theorem QdH : Tryz.prog.cellsOf 24 = 1 := by kernel_rfl
theorem QbB : Tryz.prog.cellTypes Tryz.prog.depth 24 = some [22] := by kernel_rfl
theorem QdI : Tryz.prog.cellsOf 22 = 1 := by kernel_rfl
theorem Q62 : Tryz.prog.cellsOf 41 = 6 := by kernel_rfl
theorem QdG : Tryz.prog.cellsOf 39 = 1 := by kernel_rfl
theorem tre_c9 : Tryz.prog.cellsOf 9 = 1 := by kernel_rfl
theorem tre_c2 : Tryz.prog.cellsOf 2 = 1 := by kernel_rfl
theorem Q6Y : Tryz.prog.cellsOf 3 = 1 := by kernel_rfl
theorem QdF : Tryz.prog.cellsOf 29 = 1 := by kernel_rfl
noncomputable def treeFs : Array Field := match Tryz.prog.underlying 24 with | some (.struct fs) => fs | _ => #[]
theorem Q20 : Tryz.prog.underlying 24 = some (.struct treeFs) := by kernel_rfl
noncomputable def twigFs : Array Field := match Tryz.prog.underlying 41 with | some (.struct fs) => fs | _ => #[]
theorem ZV : Tryz.prog.underlying 41 = some (.struct twigFs) := by kernel_rfl
theorem Q4B : Tryz.prog.globalNamed "strings.asciiSpace" = some 1 := by kernel_rfl
theorem Qbx : (Tryz.prog.globals[1]?).map (·.type) = some 172 := by kernel_rfl
theorem QdJ : Tryz.prog.underlying 172 = some (.array 256 5) := by kernel_rfl
theorem tre_u8 : Tryz.prog.underlying 5 = some (.int .u8) := by kernel_rfl
theorem QbC : Tryz.prog.cellsOf 5 = 1 := by kernel_rfl
theorem Q97 : Tryz.prog.cellsOf 172 = 256 := by kernel_rfl
def spaceI : List Int := (List.range 256).map fun i => cond (Nat.beq i 32 || (Nat.ble 9 i && Nat.ble i 13)) 1 0
theorem Q9k : spaceI.map (Value.int .u8) = Y2 := by unfold spaceI Y2; rw [List.map_map]; apply List.map_congr_left; intro i _; simp only [Function.comp]
theorem QcU {L : List (String × DataW Unit)} (hb : ((L.filter fun x => x.2.handleName?.isNone).filter fun x => x.1 == "strings.asciiSpace") = [("strings.asciiSpace", Lib.tabData .u8 spaceI)]) {W : World} (h : laidMetH Tryz.prog L W) : QT 1 Y2 (Hp.all W) = true := by
  have h1 := (laidMetH_iff.1 h).1.filter fun x => x.1 == "strings.asciiSpace"; rw [hb] at h1; have hT : Lib.TabIs Tryz.prog W "strings.asciiSpace" .u8 spaceI := Lib.tabIs_of_head Q4B Qbx QdJ tre_u8 QbC Q97 (rest := []) h1; obtain ⟨e, fr, hg⟩ := Q4E Q4B hT
  have hget : (Hp.all W).get 1 = some (.cells Y2 e 1) := by
    rw [Hp.all_get, Jv, hg]; simp only [Option.some.injEq, AObj.cells.injEq, and_true]; rw [← Q9k, List.map_map]; refine List.map_congr_left fun n _ => ?_; exact Q3A (.int _ _)
  have hs : QT 1 Y2 (Hp.empty.put 1 (.cells Y2 0 1)) = true := by kernel_rfl
  unfold QT at *; rw [hget]; rw [Hp.get_put, if_pos rfl] at hs; exact hs
theorem blk_of {L : List (String × DataW Unit)} (hb : ((L.filter fun x => x.2.handleName?.isNone).filter fun x => x.1 == "strings.asciiSpace") = [("strings.asciiSpace", Lib.tabData .u8 spaceI)]) {W : World} (h : laidMetH Tryz.prog L W) : Blk (Hp.all W) :=
  ⟨QcU hb h, by have := Q3v W; show 1 < Q4C W; omega⟩
theorem Q4z : Tryz.prog.globalNamed "internal/strconv.uint64pow10" = some 0 := by kernel_rfl
theorem Qbu : (Tryz.prog.globals[0]?).map (·.type) = some 164 := by kernel_rfl
theorem QdB : Tryz.prog.underlying 164 = some (.array 20 153) := by kernel_rfl
theorem QdA : Tryz.prog.underlying 153 = some (.int .u64) := by kernel_rfl
theorem Qbv : Tryz.prog.cellsOf 153 = 1 := by kernel_rfl
theorem Q94 : Tryz.prog.cellsOf 164 = 20 := by kernel_rfl
theorem pow_of {L : List (String × DataW Unit)} (hb : ((L.filter fun x => x.2.handleName?.isNone).filter fun x => x.1 == "internal/strconv.uint64pow10") = [("internal/strconv.uint64pow10", Lib.tabData .u64 Lib.pow10Tab)]) {W : World} (h : laidMetH Tryz.prog L W) : Pow (Hp.all W) := by
  refine ⟨?_, by have := Q3v W; show 0 < Q4C W; omega⟩; have h1 := (laidMetH_iff.1 h).1.filter fun x => x.1 == "internal/strconv.uint64pow10"; rw [hb] at h1; have hT : Lib.TabIs Tryz.prog W "internal/strconv.uint64pow10" .u64 Lib.pow10Tab := Lib.tabIs_of_head Q4z Qbu QdB QdA Qbv Q94 (rest := []) h1; obtain ⟨e, fr, hg⟩ := Q4E Q4z hT
  have hget : (Hp.all W).get 0 = some (.cells (Lib.pow10Tab.map (Value.int .u64)) e 1) := by
    rw [Hp.all_get, Jv, hg]; simp only [Option.some.injEq, AObj.cells.injEq, and_true]; rw [List.map_map]; refine List.map_congr_left fun n _ => ?_; exact Q3A (.int _ _)
  have hs : QT 0 (Lib.pow10Tab.map (Value.int .u64)) (Hp.empty.put 0 (.cells (Lib.pow10Tab.map (Value.int .u64)) 0 1)) = true := by kernel_rfl
  unfold QT at *; rw [hget]; rw [Hp.get_put, if_pos rfl] at hs; exact hs
theorem Qcm {h : Hp} {cs : List Value} (x : Rd Tryz.prog h 29 cs) : ∃ v kids, cs = [v] ∧ RowG h v (isV kids) ∧ kids.length ≤ 9223372036854775807 := by
  obtain ⟨a, n, c, rfl, hn, hc, hnil, _, hrow⟩ := x.inv_slice QbA (by rw [Q6Y]; omega)
  have hm : n ≤ 9223372036854775807 := by have : maxLen = 9223372036854775807 := by decide
                                          omega
  rcases hrow with rfl | ⟨b, o, xs, u, rfl, hb, hg, hl, hr⟩
  · refine ⟨_, [], rfl, .inl ⟨rfl, ?_⟩, by simp⟩; cases a with
    | none => rw [(hnil rfl).2]; exact .inl rfl
    | some a => exact .inr ⟨a, c, rfl⟩
  rw [Q6Y] at hl hr
  obtain ⟨kids, hkl, hk⟩ := Q9D (Q := fun i (k : Int) => (xs.drop (o + i * 1)).take 1 = [.int .i64 k]) fun i hi => by
    obtain ⟨k, e, _⟩ := (hr i hi).inv_int Q61; exact ⟨k, e⟩
  refine ⟨_, kids, rfl, .inr ⟨b, o, c, xs, u, 1, by rw [List.length_map, hkl], by rw [List.length_map, hkl]; exact hn, hg, hb, .inr (.inl rfl), fun i hi => ?_⟩, by omega⟩; have hi' : i < kids.length := by simpa using hi
  have := Q9N (hk i hi'); rw [Nat.mul_one] at this; rw [this, List.getElem_map]
theorem Qbs {h : Hp} {cs : List Value} (x : Rd Tryz.prog h 41 cs) : ∃ w : Tw, cs = w.cells ∧ RowG h w.ks (isV w.kids) ∧ w.kids.length ≤ 9223372036854775807 ∧ -9223372036854775808 ≤ w.N ∧ w.N ≤ 9223372036854775807 := by
  have hl := (x.inv_struct ZV).1; rw [Q62] at hl; obtain ⟨K, e0, _⟩ := x.fld_int ZV 0 0 39 rfl ⟨rfl, rfl⟩ Qbz QdG; obtain ⟨s, e1, _⟩ := x.fld_string ZV 1 1 9 rfl ⟨rfl, rfl⟩ QdC tre_c9; obtain ⟨N, e2, hN1, hN2⟩ := x.fld_int ZV 2 2 2 rfl ⟨rfl, rfl⟩ QdE tre_c2; obtain ⟨L, e3, _⟩ := x.fld_int ZV 3 3 3 rfl ⟨rfl, rfl⟩ Q61 Q6Y; obtain ⟨Co, e4, _⟩ := x.fld_int ZV 4 4 3 rfl ⟨rfl, rfl⟩ Q61 Q6Y; have h5 := x.fld ZV 5 5 29 rfl ⟨rfl, rfl⟩; rw [QdF] at h5; obtain ⟨v, kids, e5, hk, hkl⟩ := Qcm h5
  match cs, hl with
  | [c0, c1, c2, c3, c4, c5], _ =>
    simp only [List.getElem?_cons_zero, List.getElem?_cons_succ, Option.some.injEq] at e0 e1 e2 e3 e4; simp only [List.drop_succ_cons, List.drop_zero, List.take_succ_cons, List.take_zero, List.cons.injEq, and_true] at e5; subst e0; subst e1; subst e2; subst e3; subst e4; subst e5; exact ⟨⟨K, s, N, L, Co, c5, kids⟩, rfl, hk, hkl, hN1, hN2⟩
theorem Q8Y {h : Hp} {v : Value} (x : Rd Tryz.prog h 22 [v]) : ∃ T, TreeAt h v T ∧ ∀ t, t ∈ T → (t.kids.length ≤ 9223372036854775807 ∧ -9223372036854775808 ≤ t.N ∧ t.N ≤ 9223372036854775807) ∧ RowG h t.ks (isV t.kids) := by
  obtain ⟨a, n, c, e, _, _, _, _, hrow⟩ := x.inv_slice Q21 (by rw [Q62]; omega); simp only [List.cons.injEq, and_true] at e; subst e; rcases hrow with rfl | ⟨b, o, xs, u, rfl, hb, hg, hl, hr⟩
  · exact ⟨[], ⟨.inl ⟨rfl, a, c, rfl⟩, by simp⟩, by simp⟩
  rw [Q62] at hl hr; obtain ⟨T, hTl, hT⟩ := Q9D (Q := fun i (w : Tw) => (xs.drop (o + i * 6)).take 6 = w.cells ∧ RowG h w.ks (isV w.kids) ∧ w.kids.length ≤ 9223372036854775807 ∧ -9223372036854775808 ≤ w.N ∧ w.N ≤ 9223372036854775807) fun i hi => Qbs (hr i hi); refine ⟨T, ⟨.inr ⟨b, o, c, xs, u, 1, by rw [hTl], hg, hb, by rw [hTl]; exact hl, fun i hi => (hT i hi).1⟩, fun t ht => ?_⟩, fun t ht => ?_⟩
  · obtain ⟨i, hi, rfl⟩ := List.mem_iff_getElem.1 ht; exact (hT i hi).2.1.row
  obtain ⟨i, hi, rfl⟩ := List.mem_iff_getElem.1 ht; exact ⟨(hT i hi).2.2, (hT i hi).2.1⟩
theorem Q95 {H : Type} {enc : TypeId × Value → H} {W : World} {r : Reach} {base : Nat} {v : Value} {d : DataW H} {ps : List MemPlace} (hok : Value.okWide Tryz.prog W r base 24 v) (ht : DataW.Trod enc Tryz.prog W 0 (fun _ => true) true 24 v d ps) :
    ∃ sv T, v = .agg #[sv] ∧ VRel (Mp.all W) sv sv ∧ TreeAt (Hp.all W) sv T ∧ ∀ t, t ∈ T → (t.kids.length ≤ 9223372036854775807 ∧ -9223372036854775808 ≤ t.N ∧ t.N ≤ 9223372036854775807) ∧ RowG (Hp.all W) t.ks (isV t.kids) := by
  simp only [Value.okWide, Q20] at hok; obtain ⟨cs, rfl, hsz, ts, hts, _, hc⟩ := hok; rw [QbB, Option.some.injEq] at hts; subst hts; rw [QdH] at hsz; obtain ⟨cs⟩ := cs
  match cs, hsz with
  | [f], _ =>
    obtain ⟨_, e0, h0⟩ := hc 0 f rfl; simp at e0; subst e0; have h6 : Value.okWide Tryz.prog W r base 22 f := by simp only [Value.okWide, Q21]; exact h0
    obtain ⟨fuel, hf⟩ := ht; have hcl : (Value.agg #[f]).cells.toList = [f] := rfl; rw [hcl] at hf
    have hv : VRel (Mp.all W) f f ∧ Qbg f ≤ Q4C W := by
      rcases Qec Q21 h6 with rfl | ⟨a, len, cap, rfl, hb⟩
      · exact ⟨.nils 0 0, by simp [Qbg]⟩
      refine ⟨Qbd (w := W) a len cap hb, ?_⟩; have := Q0b W; simp only [Qbg]; omega
    have hr := JA fuel 24 _ _ (fun v hv' => by
      simp only [List.mem_singleton] at hv'
      subst hv'; exact hv.2) hf
    rw [Jx hv.1] at hr; have h7 := hr.fld Q20 0 0 22 rfl ⟨rfl, rfl⟩; rw [QdI] at h7; obtain ⟨T, hT, hk⟩ := Q8Y (v := f) h7; exact ⟨f, T, rfl, hv.1, hT, hk⟩
end Go.Proofs.YtkidomfnmpnmaaaGreatDoor
