/- Chapter 4: what has a declared name. Conditions: the tables; the tree lies in the old memory; the resolver is one's own; what twigs come to is known for those below. Chapter 4: main, components' callbacks, inner functions. Conditions: the tables; the tree lies in the old memory; the resolver is one's own; what twigs come to is known for those below. Chapter 4: going over the scopes from the last on. Conditions: none. Chapter 4: captures laid down; what is left of the memory behind ranges. Conditions: none. Chapter 4: a local's use: found from the last scope on, captured by the functions between. Conditions: the tree lies in the old memory; the resolver is one's own. Chapter 4: a twig, by its rule. Conditions: the tables; the tree lies in the old memory; the resolver is one's own. Chapter 4: a declaration put among its like. Conditions: the resolver's pieces are one's own. Chapter 4: the declarations. Conditions: the tree lies in the old memory; the resolver is one's own. Chapter 4: the resolver made. Conditions: none. Chapter 4: Resolve. Conditions: the tables; the tree lies in the memory. Chapter 4: the forms of twigs, as the plain texts on trees have them. Conditions: none. Chapter 4: a tree that may be, as the plain texts have it. Conditions: none. Chapter 4: rows that are the same. Conditions: none. -/
import Derived.Test.YtkidomfnmpnmaaaGreatDoorLc
import Derived.Test.YtkidomfnmpnmaaaGreatDoorXd
import Derived.Test.YtkidomfnmpnmaaaGreatDoorXc
import Derived.Test.YtkidomfnmpnmaaaGreatDoorLa
namespace Go.Proofs.YtkidomfnmpnmaaaGreatDoor
open Go.X Go.Nam
theorem Q3b {T : List Tw} {j : Nat} {t : Tw} (h : T[j]? = some t) : (vw T).s j = t.s ∧ (vw T).K j = t.K ∧ (vw T).N j = t.N := by
  simp only [vw, Int.toNat_natCast, h]; exact ⟨trivial, trivial, trivial⟩
theorem QbN {T : List Tw} {i : Nat} {t0 : Tw} (h0 : T[i]? = some t0) (hK : ZI t0.K = true) {r : Int} (hr : (r = -1 ∧ ∀ (i : Nat) t, T[i]? = some t → (decide (t.s = t0.s) && ZI t.K) = false) ∨ ∃ j : Nat, r = j ∧ (∃ t, T[j]? = some t ∧ (decide (t.s = t0.s) && ZI t.K) = true) ∧ ∀ (i : Nat) t, i < j → T[i]? = some t → (decide (t.s = t0.s) && ZI t.K) = false) : ((Ys (vw T) t0.s).getD 0 : Int) = r := by
  rcases hr with ⟨_, h1⟩ | ⟨j, rfl, ⟨t, h2, h3⟩, h4⟩
  · have := h1 i t0 h0; rw [hK, decide_eq_true rfl] at this; cases this
  have hj := (List.getElem?_eq_some_iff.1 h2).1
  have e : Ys (vw T) t0.s = some j := by
    unfold Ys; rw [List.find?_range_eq_some]; obtain ⟨e1, e2, _⟩ := Q3b h2; refine ⟨by rw [e1, e2]; exact h3, List.mem_range.2 hj, fun m hm => ?_⟩; have hm2 : T[m]? = some T[m] := List.getElem?_eq_getElem (by omega); obtain ⟨e3, e4, _⟩ := Q3b hm2; rw [e3, e4, h4 m _ hm hm2]; rfl
  rw [e]; rfl
section
variable {h0 hE : Hp} {bs rs : List Nat} {rb : Nat} {sv : Value} {st : Nst} {T : List Tw} {i : Nat} {rec : Nst → Int → Nst} {k n w0 : Nat} {bl : List (Nat × Nat)}
set_option maxHeartbeats 4000000 in
theorem n47 (S0 : SH h0 [] [rsR rb sv st rs bs] hE) (R : Tre h0 sv T) (hi : i < T.length) (hC : Q8m h0 rb sv T rec k) (hr : Kx (vw T) rec k) (B : Pow h0) (I : Inv (vw T) st i bl w0) (hk : kds (sub (vw T) k) ((vw T).ks i) (i + 1) n) (hbl : ∀ x, x ∈ bl → n ≤ x.2) (hK : ZI ((vw T).K i) = true) (hb : w0 + 2 + 4 * (n - (i + 1)) ≤ 100000) :
    C nmE 47 [Zx rb, iV i] hE fun _ g' => ∃ bs', SH hE bs [rsR rb sv (YS (vw T) rec st i) rs bs'] g' := by
  have X := R.X; have hbb := hb; obtain ⟨ta, tc, rfl⟩ := X.val; obtain ⟨t0, b, o', cs, ee, m, hw0, Q⟩ := JK X hi; obtain rfl := Q.ta; obtain ⟨ka, kc, hks⟩ := Q.row.valM; obtain ⟨K0, s0, N0, L0, C0, k0, kids0⟩ := t0; simp only at hks; subst hks; have hall : (cs.drop (o' + Int.toNat (i : Int) * 6)).take 6 = twC K0 s0 N0 L0 C0 (.slice ka kids0.length kc) := Q.all; have qs : (vw T).s i = s0 := Q.s; have qK : (vw T).K i = K0 := Q.K; have hPn := R.P.n; have hi1 : i + 1 ≤ (vw T).n := hi
  have hdec : YS (vw T) rec st i = (if K0 = 3 then Q0E (vw T) rec (vw T).s ((vw T).ks i) [] (if ((Ys (vw T) s0).getD 0 : Int) < i then tell (vw T) st i 7 else st) else
    if K0 = 8 then Q0E (vw T) rec (fun k => Q0c ((vw T).N k)) (((vw T).ks i).drop 1) [] (Zh (vw T) (if ((Ys (vw T) s0).getD 0 : Int) < i then tell (vw T) st i 7 else st) i) else
    if K0 = 10 then Q0O (vw T) rec (Zh (vw T) (if ((Ys (vw T) s0).getD 0 : Int) < i then tell (vw T) st i 7 else st) i) i 1 s0 else
    if K0 = 7 then Q0O (vw T) rec (if ((Ys (vw T) s0).getD 0 : Int) < i then tell (vw T) st i 7 else st) i 0 s0 else KM (vw T) rec (if ((Ys (vw T) s0).getD 0 : Int) < i then tell (vw T) st i 7 else st) i 0) := by
    unfold YS; dsimp only; rw [qs, qK]
  rw [hdec]; rw [qK] at hK; refine Qf (fu := Tryz.f47) (by kernel_rfl) rfl ?_; have S := S0.enter; obtain ⟨w, E, ho, S⟩ := Qo (A := []) S; simp only [List.nil_append] at S; refine Qd ?_; refine Q4 gn rfl rfl ?_; refine Q9 gn rfl rfl ?_; refine Q0 (off := 0) gn rfl rfl (by kernel_rfl) ?_; refine Q0 (off := 0) gn rfl rfl (by kernel_rfl) ?_; refine Q6 gn rfl rfl (by kernel_rfl) (S.cel 0 rfl) rfl ?_; refine Q4 gn rfl rfl ?_; refine Q7 (zz := 6) gn rfl rfl rfl (by kernel_rfl) (by omega) (by omega) ?_; refine Qs (n := 6) gn rfl rfl (by kernel_rfl) (by kernel_rfl) (S0.two S0.own0 S Q.g Q.lt) Q.len ?_; rw [hall]
  refine Zz (zv := .agg #[.int .i64 0, .string .empty, .int .i64 0, .int .i64 0, .int .i64 0, .slice none 0 0]) S gn rfl (by kernel_rfl) fun b1 g nb1 S => ?_; refine QV (n := 6) 0 S gn rfl rfl (by kernel_rfl) (by kernel_rfl) rfl rfl (by decide) rfl (fun g S => ag0) fun g S => ?_; simp only [List.set_cons_succ, List.set_cons_zero] at S; refine Zw ?_; refine Q4 gn rfl rfl ?_; refine Q9 gn rfl rfl ?_; refine Q0 (off := 0) gn rfl rfl (by kernel_rfl) ?_; refine Q0 (off := 0) gn rfl rfl (by kernel_rfl) ?_; refine Q6 gn rfl rfl (by kernel_rfl) (S.cel 1 rfl) rfl ?_; refine KH gn rfl rfl ?_
  refine Qb [_, _] gn rfl rfl (by kernel_rfl) rfl (C.mono (n50 (X.ext (S0.all0 S0.own0 S)) (P := fun t => decide (t.s = s0) && ZI t.K) ⟨81, #[Zx b1], rfl, by kernel_rfl, fun h' e t _ hrw => n81 ((e.get b1 (S.lt1 0 rfl)).trans (S.cel 0 rfl)) (Nat.lt_of_lt_of_le (S.lt1 0 rfl) e.n) rfl hrw⟩ hPn) ?_); rintro v g ⟨⟨r, rfl, hfr⟩, x⟩; have hfr := QbN hw0 hK hfr; simp only at hfr; rw [hfr]; have S := S.grow x; refine ⟨ag0, ?_⟩; refine Q3 gn rfl rfl ?_; refine Q5 ?_
  refine KW [(0, Zx rb), (1, iV i), (4, Zx b1)] (fun lv hh => ∃ (st1 : Nst) (bs1 : List Nat), lv = [] ∧ SH hE bs [cR b1 (.cells (twC K0 s0 N0 L0 C0 (.slice ka kids0.length kc)) 41 0), rsR rb (.slice (some ⟨b, o', none⟩) T.length tc) st1 rs bs1] hh ∧ (if r < (i : Int) then tell (vw T) st i 7 else st) = st1 ∧ Inv (vw T) st1 i bl (w0 + 1)) ?_ fun lv hh hJ => ?_
  · skip
    refine Qd ?_; refine Q4 gn rfl rfl ?_; refine Q4 gn rfl rfl ?_; refine Z9 gn rfl rfl rfl ?_; refine Q5 ?_; refine Qa rfl (fun hb => ?_) fun hb => ?_
    · skip
      refine Q8 (by kernel_rfl) ?_; refine Q4 gn rfl rfl ?_; refine Q4 gn rfl rfl ?_; have S := Qp (A := [_]) S E; refine Qb [_, _, _] gn rfl rfl (by kernel_rfl) rfl (C.mono (n21 (S0.sub1 S0.own0 S 1 rfl) X hi (by have := I.bw; omega)) ?_); rintro v g ⟨bs', S2⟩; have S := S.ret 1 rfl S2; simp only [List.cons_append, List.nil_append, List.set_cons_succ, List.set_cons_zero] at S; obtain ⟨w, E, ho, S⟩ := Qo (A := [_]) S; simp only [List.cons_append, List.nil_append] at S; refine ⟨ag0, ?_⟩; refine Q5 ?_; exact Q1o [] (by repeat (first | exact trivial | refine ⟨rfl, ?_⟩)) ⟨_, _, rfl, Qp (A := [_]) S E, if_pos (by simpa using hb), I.tell i 7⟩
    refine Qe ?_; exact Q1o [] (by repeat (first | exact trivial | refine ⟨rfl, ?_⟩)) ⟨_, _, rfl, Qp (A := [_]) S E, if_neg (by simpa using hb), I.on (Nat.le_refl _) (by omega)⟩
  obtain ⟨st1, bs1, rfl, S, hst1, J1⟩ := hJ; rw [hst1]; obtain ⟨w, E, ho, S⟩ := Qo (A := [_]) S; simp only [List.cons_append, List.nil_append] at S; obtain ⟨D3, Don, D7, Delse⟩ := Q6n R.P J1 hi hk hbl (by rw [qK]; exact hK) hbb; rw [qK] at D3 Don D7 Delse; rw [qs] at Don D7; refine Qd ?_; refine Q0 (off := 0) gn rfl rfl (by kernel_rfl) ?_; refine Q6 gn rfl rfl (by kernel_rfl) (S.cel 0 rfl) rfl ?_; refine Q5 ?_; refine Qg ?_; refine Qd ?_; refine Qq gn rfl rfl rfl ?_; refine Q3 gn rfl rfl ?_; refine Q5 ?_; refine Qa rfl (fun hb => ?_) fun hb => ?_
  · skip
    have h3 : K0 = 3 := by simpa using hb
    rw [if_pos h3]; refine Q8 (by kernel_rfl) ?_; refine Q4 gn rfl rfl ?_; refine Q4 gn rfl rfl ?_; have S := Qp (A := [_]) S E; refine Qb [_, _, _, _] gn rfl rfl (by kernel_rfl) rfl (C.mono (n82 (S0.sub1 S0.own0 S 1 rfl) (fr := 0) (Q9G := (vw T).s) (key := fun t => t.s) R hi hC hr ⟨83, #[], rfl, by kernel_rfl, fun h' _ t _ hrw => n83 hrw⟩ (fun j t ht => (Q3b ht).1) (D3 h3) (Nat.zero_le _) hi1) ?_); rintro v g ⟨bs', S2⟩; have S := S.ret 1 rfl S2; simp only [List.cons_append, List.nil_append, List.set_cons_succ, List.set_cons_zero] at S; obtain ⟨w, E, ho, S⟩ := Qo (A := [_]) S; simp only [List.cons_append, List.nil_append] at S; refine ⟨ag0, ?_⟩; refine Q5 ?_; refine ⟨.inr rfl, _, rfl, ?_⟩
    exact QX (A := [_]) S E
  have h3 : ¬ K0 = 3 := by simpa using hb
  rw [if_neg h3]; refine Qd ?_; refine Qq gn rfl rfl rfl ?_; refine Q3 gn rfl rfl ?_; refine Q5 ?_; refine Qa rfl (fun hb => ?_) fun hb => ?_
  · skip
    have h8 : K0 = 8 := by simpa using hb
    rw [if_pos h8]; obtain ⟨k1, k2, k3, L1, q, hq, D8, _⟩ := Don (.inl h8); refine Qd ?_; refine Q4 gn rfl rfl ?_; refine Q4 gn rfl rfl ?_; have S := Qp (A := [_]) S E; refine Qb [_, _] gn rfl rfl (by kernel_rfl) rfl (C.mono (n84 (S0.sub1 S0.own0 S 1 rfl) (j := i + 1) R hi k2 k1 k3 (by have := J1.bw; omega) J1.lm J1.lw) ?_); rintro v g ⟨bs', S2⟩; have S := S.ret 1 rfl S2; simp only [List.cons_append, List.nil_append, List.set_cons_succ, List.set_cons_zero] at S; obtain ⟨w, E, ho, S⟩ := Qo (A := [_]) S; simp only [List.cons_append, List.nil_append] at S; refine ⟨ag0, ?_⟩; refine Q5 ?_; refine Q8 (by kernel_rfl) ?_; refine Q4 gn rfl rfl ?_; refine Q4 gn rfl rfl ?_; have S := Qp (A := [_]) S E
    refine Qb [_, _, _, _] gn rfl rfl (by kernel_rfl) rfl (C.mono (n82 (S0.sub1 S0.own0 S 1 rfl) (fr := 1) (Q9G := fun k => Q0c ((vw T).N k)) (key := fun t => Q0c t.N) R hi hC hr ⟨85, #[], rfl, by kernel_rfl, fun h' e t ht hrw => n85 (B.ext e) hrw (R.N t ht).1 (R.N t ht).2⟩ (fun j t ht => by rw [(Q3b ht).2.2]) (D8 h8) k3 hq) ?_); rintro v g ⟨bs', S2⟩; have S := S.ret 1 rfl S2; simp only [List.cons_append, List.nil_append, List.set_cons_succ, List.set_cons_zero] at S; obtain ⟨w, E, ho, S⟩ := Qo (A := [_]) S; simp only [List.cons_append, List.nil_append] at S; refine ⟨ag0, ?_⟩; refine Q5 ?_; refine ⟨.inr rfl, _, rfl, ?_⟩; exact QX (A := [_]) S E
  have h8 : ¬ K0 = 8 := by simpa using hb
  rw [if_neg h8]; refine Qd ?_; refine Qq gn rfl rfl rfl ?_; refine Q3 gn rfl rfl ?_; refine Q5 ?_; refine Qa rfl (fun hb => ?_) fun hb => ?_
  · skip
    have h10 : K0 = 10 := by simpa using hb
    rw [if_pos h10]; obtain ⟨k1, k2, k3, L1, q, hq, _, D10⟩ := Don (.inr h10); refine Qd ?_; refine Q4 gn rfl rfl ?_; refine Q4 gn rfl rfl ?_; have S := Qp (A := [_]) S E; refine Qb [_, _] gn rfl rfl (by kernel_rfl) rfl (C.mono (n84 (S0.sub1 S0.own0 S 1 rfl) (j := i + 1) R hi k2 k1 k3 (by have := J1.bw; omega) J1.lm J1.lw) ?_); rintro v g ⟨bs', S2⟩; have S := S.ret 1 rfl S2; simp only [List.cons_append, List.nil_append, List.set_cons_succ, List.set_cons_zero] at S; obtain ⟨w, E, ho, S⟩ := Qo (A := [_]) S; simp only [List.cons_append, List.nil_append] at S; refine ⟨ag0, ?_⟩; refine Q5 ?_; refine Q8 (by kernel_rfl) ?_; refine Q4 gn rfl rfl ?_; refine Q4 gn rfl rfl ?_
    refine Q0 (off := 1) gn rfl rfl (by kernel_rfl) ?_; refine Q6 gn rfl rfl (by kernel_rfl) (S.cel 0 rfl) rfl ?_; have S := Qp (A := [_]) S E; refine Qb [_, _, _, _] gn rfl rfl (by kernel_rfl) rfl (C.mono (n74 (S0.sub1 S0.own0 S 1 rfl) (fr := 1) R hi hC hr (D10 h10) k3 hq (by have := L1.bf; omega)) ?_); rintro v g ⟨bs', S2⟩; have S := S.ret 1 rfl S2; simp only [List.cons_append, List.nil_append, List.set_cons_succ, List.set_cons_zero] at S; obtain ⟨w, E, ho, S⟩ := Qo (A := [_]) S; simp only [List.cons_append, List.nil_append] at S; refine ⟨ag0, ?_⟩; refine Q5 ?_; refine ⟨.inr rfl, _, rfl, ?_⟩; exact QX (A := [_]) S E
  have h10 : ¬ K0 = 10 := by simpa using hb
  rw [if_neg h10]; refine Qd ?_; refine Qq gn rfl rfl rfl ?_; refine Q3 gn rfl rfl ?_; refine Q5 ?_; refine Qa rfl (fun hb => ?_) fun hb => ?_
  · skip
    have h7 : K0 = 7 := by simpa using hb
    rw [if_pos h7]; refine Q8 (by kernel_rfl) ?_; refine Q4 gn rfl rfl ?_; refine Q4 gn rfl rfl ?_; refine Q0 (off := 1) gn rfl rfl (by kernel_rfl) ?_; refine Q6 gn rfl rfl (by kernel_rfl) (S.cel 0 rfl) rfl ?_; have S := Qp (A := [_]) S E; refine Qb [_, _, _, _] gn rfl rfl (by kernel_rfl) rfl (C.mono (n74 (S0.sub1 S0.own0 S 1 rfl) (fr := 0) R hi hC hr (D7 h7) (Nat.zero_le _) hi1 (by have := J1.bf; omega)) ?_); rintro v g ⟨bs', S2⟩; have S := S.ret 1 rfl S2; simp only [List.cons_append, List.nil_append, List.set_cons_succ, List.set_cons_zero] at S; obtain ⟨w, E, ho, S⟩ := Qo (A := [_]) S; simp only [List.cons_append, List.nil_append] at S; refine ⟨ag0, ?_⟩; refine Q5 ?_
    refine ⟨.inr rfl, _, rfl, ?_⟩; exact QX (A := [_]) S E
  have h7 : ¬ K0 = 7 := by simpa using hb
  rw [if_neg h7]; refine Q8 (by kernel_rfl) ?_; refine Q4 gn rfl rfl ?_; refine Q4 gn rfl rfl ?_; have S := Qp (A := [_]) S E; refine Qb [_, _, _] gn rfl rfl (by kernel_rfl) rfl (C.mono (n51 (S0.sub1 S0.own0 S 1 rfl) (fr := 0) R hi hC hr (Delse h3 h8 h10 h7) (Nat.zero_le _) hi1) ?_); rintro v g ⟨bs', S2⟩; have S := S.ret 1 rfl S2; simp only [List.cons_append, List.nil_append, List.set_cons_succ, List.set_cons_zero] at S; obtain ⟨w, E, ho, S⟩ := Qo (A := [_]) S; simp only [List.cons_append, List.nil_append] at S; refine ⟨ag0, ?_⟩; refine Q5 ?_; refine ⟨.inr rfl, _, rfl, ?_⟩; exact QX (A := [_]) S E
end
end Go.Proofs.YtkidomfnmpnmaaaGreatDoor
namespace Go.Proofs.YtkidomfnmpnmaaaGreatDoor
open Go.X Go.Nam
def Q19 (T : V) (st : Nst) (i : Int) : Nst := if 1 < st.mains + 1 then tell T { st with mains := st.mains + 1 } i 7 else { st with mains := st.mains + 1 }
theorem Qdt {N : Int} (h0 : 0 ≤ N) (h1 : N ≤ 3) : ((([⟨#[99, 114, 101, 97, 116, 101]⟩, ⟨#[115, 116, 97, 114, 116]⟩, ⟨#[115, 116, 111, 112]⟩, ⟨#[100, 101, 115, 116, 114, 111, 121]⟩] : List ByteArray).map Value.string).toArray).toList[0 + N.toNat * 1]? = some (.string (Q6b N)) := by
  rcases (show N = 0 ∨ N = 1 ∨ N = 2 ∨ N = 3 by omega) with rfl | rfl | rfl | rfl <;> rfl
theorem Q0g : ∀ (l : List Fun) (c : List (Value × List Nat)) (rest : List Value) (i : Nat) (f : Fun) (x : Value × List Nat), l[i]? = some f → c[i]? = some x → ((fuC l c ++ rest).drop (i * 4)).take 4 = [iV f.tw, iV f.up, .string f.nm, x.1]
  | f :: l, x :: c, rest, 0, f', x', h1, h2 => by
    simp only [List.getElem?_cons_zero, Option.some.injEq] at h1 h2; subst h1; subst h2; rfl
  | f :: l, x :: c, rest, i + 1, f', x', h1, h2 => by
    have e : fuC (f :: l) (x :: c) ++ rest = iV f.tw :: iV f.up :: .string f.nm :: x.1 :: (fuC l c ++ rest) := rfl; rw [e, show (i + 1) * 4 = i * 4 + 1 + 1 + 1 + 1 by omega, List.drop_succ_cons, List.drop_succ_cons, List.drop_succ_cons, List.drop_succ_cons]; exact Q0g l c rest i f' x' (by simpa using h1) (by simpa using h2)
  | [], _, _, _, _, _, h1, _ => by simp at h1
  | _ :: _, [], _, _, _, _, _, h2 => by simp at h2
section
variable {h0 hE : Hp} {bs rs : List Nat} {rb : Nat} {sv : Value} {st : Nst} {T : List Tw} {i : Nat} {rec : Nst → Int → Nst} {k p n w0 : Nat} {o : Int} {sow : List Int} {bl : List (Nat × Nat)}
set_option maxHeartbeats 1000000 in
theorem n36 (S0 : SH h0 [] [rsR rb sv st rs bs] hE) (R : Tre h0 sv T) (hi : i < T.length) (hC : Q8m h0 rb sv T rec k) (hr : Kx (vw T) rec k) (F : FoldAt (vw T) k (((vw T).ks i).drop 0) bl n o sow (Ze { Q19 (vw T) st i with main := (Q19 (vw T) st i).funcs.length } i mainT) 0 p w0) (hp : p ≤ (vw T).n) (hl : st.funcs.length ≤ 1000000) (hw : st.wrong.length ≤ 1000000) (hm0 : 0 ≤ st.mains) (hm1 : st.mains ≤ 1000000) :
    C nmE 36 [Zx rb, iV i] hE fun _ g' => ∃ bs', SH hE bs [rsR rb sv (Q7g (vw T) rec st i) rs bs'] g' := by
  have hent : Q7g (vw T) rec st i = Q0O (vw T) rec { Q19 (vw T) st i with main := (Q19 (vw T) st i).funcs.length } i 0 mainT := rfl; rw [hent]; refine Qf (fu := Tryz.f36) (by kernel_rfl) rfl ?_; have S := S0.enter; obtain ⟨w, E, ho, S⟩ := Qo (A := []) S; simp only [List.nil_append] at S; refine Qj ?_; refine Qd ?_; refine Q4 gn rfl rfl ?_; refine Q9 gn rfl rfl ?_; refine Q0 (off := 15) gn rfl rfl (by kernel_rfl) ?_; refine Q6 gn rfl rfl (by kernel_rfl) (S.cel 0 rfl) rfl ?_; refine QO gn rfl rfl rfl (by omega) (by omega) ?_; refine Q9 gn rfl rfl ?_; refine Q0 (off := 15) gn rfl rfl (by kernel_rfl) ?_
  refine Zy 0 S gn rfl rfl (by first | rfl | exact hcv) (by kernel_rfl) rfl (by decide) (by first | decide | (simp; done)) (fun g S => ag0) fun g S => ?_; simp only [List.set_cons_succ, List.set_cons_zero] at S; refine Zw ?_; refine Q4 gn rfl rfl ?_; refine Q9 gn rfl rfl ?_; refine Q0 (off := 15) gn rfl rfl (by kernel_rfl) ?_; refine Q6 gn rfl rfl (by kernel_rfl) (S.cel 0 rfl) rfl ?_; refine JB gn rfl rfl rfl ?_; refine Q5 ?_; refine Qa rfl (fun hb => ?_) fun hb => ?_
  · skip
    have e0 : Q19 (vw T) st i = tell (vw T) { st with mains := st.mains + 1 } i 7 := if_pos (by simpa using hb); rw [e0] at F ⊢; have E : RsE { st with mains := st.mains + 1 } rs w := { E with }; refine Q8 (by kernel_rfl) ?_; refine Q4 gn rfl rfl ?_; refine Q4 gn rfl rfl ?_; have S := Qp (A := []) S E; refine Qb [_, _, _] gn rfl rfl (by kernel_rfl) rfl (C.mono (n21 (S0.sub1 S0.own0 S 0 rfl) R.X hi hw) ?_); rintro v g ⟨bs', S2⟩; have S := S.ret 0 rfl S2; simp only [List.cons_append, List.nil_append, List.set_cons_succ, List.set_cons_zero] at S; obtain ⟨w, E, ho, S⟩ := Qo (A := []) S; simp only [List.cons_append, List.nil_append] at S; refine ⟨ag0, ?_⟩; refine Zw ?_; refine Q4 gn rfl rfl ?_
    refine Q4 gn rfl rfl ?_; refine Q9 gn rfl rfl ?_; refine Q0 (off := 1) gn rfl rfl (by kernel_rfl) ?_; refine Q0 (off := 7) gn rfl rfl (by kernel_rfl) ?_; refine Q6 gn rfl rfl (by kernel_rfl) (S.cel 0 rfl) rfl ?_; obtain ⟨fa, fc, hfv⟩ := (S.sl 8 rfl).val; rw [hfv, E.fun']; refine QI gn rfl rfl (by kernel_rfl) ?_; refine Q9 gn rfl rfl ?_; refine Q0 (off := 1) gn rfl rfl (by kernel_rfl) ?_; refine Q0 (off := 8) gn rfl rfl (by kernel_rfl) ?_; refine Zy 0 S gn rfl rfl (by first | rfl | exact hcv) (by kernel_rfl) rfl (by decide) (by first | decide | (simp; done)) (fun g S => ag0) fun g S => ?_; simp only [List.set_cons_succ, List.set_cons_zero] at S; refine Q5 ?_; refine Q8 (by kernel_rfl) ?_
    refine Q4 gn rfl rfl ?_; refine Q4 gn rfl rfl ?_; have E : RsE { (tell (vw T) { st with mains := st.mains + 1 } i 7) with main := (tell (vw T) { st with mains := st.mains + 1 } i 7).funcs.length } rs w := { E with }; have S := Qp (A := []) S E; refine Qb [_, _, _, _] gn rfl rfl (by kernel_rfl) rfl (C.mono (n74 (S0.sub1 S0.own0 S 0 rfl) (fr := 0) (nm := mainT) R hi hC hr F (Nat.zero_le _) hp hl) ?_); rintro v g ⟨bs', S2⟩; have S := S.ret 0 rfl S2; simp only [List.cons_append, List.nil_append, List.set_cons_succ, List.set_cons_zero] at S; obtain ⟨w, E, ho, S⟩ := Qo (A := []) S; simp only [List.cons_append, List.nil_append] at S; refine ⟨ag0, ?_⟩; refine Q5 ?_; refine ⟨.inr rfl, _, rfl, ?_⟩
    exact QX (A := []) S E
  refine Qe ?_; have e0 : Q19 (vw T) st i = { st with mains := st.mains + 1 } := if_neg (by simpa using hb); rw [e0] at F ⊢; have E : RsE { st with mains := st.mains + 1 } rs w := { E with }; refine Qd ?_; refine Q4 gn rfl rfl ?_; refine Q4 gn rfl rfl ?_; refine Q9 gn rfl rfl ?_; refine Q0 (off := 1) gn rfl rfl (by kernel_rfl) ?_; refine Q0 (off := 7) gn rfl rfl (by kernel_rfl) ?_; refine Q6 gn rfl rfl (by kernel_rfl) (S.cel 0 rfl) rfl ?_; obtain ⟨fa, fc, hfv⟩ := (S.sl 8 rfl).val; rw [hfv, E.fun']; refine QI gn rfl rfl (by kernel_rfl) ?_; refine Q9 gn rfl rfl ?_; refine Q0 (off := 1) gn rfl rfl (by kernel_rfl) ?_; refine Q0 (off := 8) gn rfl rfl (by kernel_rfl) ?_
  refine Zy 0 S gn rfl rfl (by first | rfl | exact hcv) (by kernel_rfl) rfl (by decide) (by first | decide | (simp; done)) (fun g S => ag0) fun g S => ?_; simp only [List.set_cons_succ, List.set_cons_zero] at S; refine Q5 ?_; refine Q8 (by kernel_rfl) ?_; refine Q4 gn rfl rfl ?_; refine Q4 gn rfl rfl ?_; have E : RsE { ({ st with mains := st.mains + 1 } : Nst) with main := st.funcs.length } rs w := { E with }; have S := Qp (A := []) S E; refine Qb [_, _, _, _] gn rfl rfl (by kernel_rfl) rfl (C.mono (n74 (S0.sub1 S0.own0 S 0 rfl) (fr := 0) (nm := mainT) R hi hC hr F (Nat.zero_le _) hp hl) ?_); rintro v g ⟨bs', S2⟩; have S := S.ret 0 rfl S2
  simp only [List.cons_append, List.nil_append, List.set_cons_succ, List.set_cons_zero] at S; obtain ⟨w, E, ho, S⟩ := Qo (A := []) S; simp only [List.cons_append, List.nil_append] at S; refine ⟨ag0, ?_⟩; refine Q5 ?_; refine ⟨.inr rfl, _, rfl, ?_⟩; exact QX (A := []) S E
set_option maxHeartbeats 1000000 in
theorem n37 (S0 : SH h0 [] [rsR rb sv st rs bs] hE) (R : Tre h0 sv T) (hi : i < T.length) (hC : Q8m h0 rb sv T rec k) (hr : Kx (vw T) rec k) (F : FoldAt (vw T) k (((vw T).ks i).drop 0) bl n o sow (Ze st i ((vw T).s (lastOf st.cp i) ++ dot ++ Q6b ((vw T).N i))) 0 p w0) (hp : p ≤ (vw T).n) (hl : st.funcs.length ≤ 1000000) (hcp : ∀ c, c ∈ st.cp → 0 ≤ c ∧ c < T.length) (hN : 0 ≤ (vw T).N i ∧ (vw T).N i ≤ 3) :
    C nmE 37 [Zx rb, iV i] hE fun _ g' => ∃ bs', SH hE bs [rsR rb sv (Qdu (vw T) rec st i) rs bs'] g' := by
  have X := R.X; obtain ⟨ta, tc, rfl⟩ := X.val; obtain ⟨t0, b, o', cs, ee, m, hw0, Q⟩ := JK X hi; obtain rfl := Q.ta; unfold Qdu; obtain ⟨cn, hcn⟩ : ∃ cn : Nat, lastOf st.cp i = cn := ⟨(lastOf st.cp i).toNat, by have := (Q9y (i := i) hcp (show 0 < T.length by omega)).1; omega⟩; have hcnT : cn < T.length := by have := (Q9y (i := i) hcp (show 0 < T.length by omega)).2; omega
  obtain ⟨t2, b2, o2, cs2, ee2, m2, hw2, Q2⟩ := JK X hcnT
  obtain ⟨rfl, rfl⟩ : b = b2 ∧ o' = o2 := by
    have := Q2.ta; simp only [Option.some.injEq, Addr.mk.injEq, and_true] at this; exact this
  rw [hcn] at F ⊢; have hs2 := R.P.s cn; rw [Q2.s] at hs2 F ⊢; rw [Q.N] at hN F ⊢; have hd : (⟨#[46]⟩ : ByteArray).size = 1 := rfl; have hls := Q4S t0.N; refine Qf (fu := Tryz.f37) (by kernel_rfl) rfl ?_; have S := S0.enter; obtain ⟨w, E, ho, S⟩ := Qo (A := []) S; simp only [List.nil_append] at S; have hcl := E.cpb; have hrow := (S.sl 6 rfl).row; rw [E.co] at hrow; obtain ⟨va, vc, hcv'⟩ := hrow.valM; refine Qd ?_; refine Q3 gn rfl rfl ?_; refine Kz ?_; refine Q4 gn rfl rfl ?_; refine Q9 gn rfl rfl ?_; refine Q0 (off := 1) gn rfl rfl (by kernel_rfl) ?_; refine Q0 (off := 5) gn rfl rfl (by kernel_rfl) ?_; refine Q6 gn rfl rfl (by kernel_rfl) (S.cel 0 rfl) rfl ?_; rw [hcv']
  refine QI gn rfl rfl (by kernel_rfl) ?_; refine Q4 gn rfl rfl ?_; refine Q5 ?_; refine Qg ?_; refine QH [(4, _), (13, _)] [(0, _), (1, _), (11, _), (12, _)] (by repeat (first | exact trivial | refine ⟨rfl, ?_⟩)) (fun kk lv hh => ∃ (j : Nat) (c : Int), lv = [(4, iV c), (13, iV j)] ∧ kk = st.cp.length - j ∧ j ≤ st.cp.length ∧ SH hE bs (rsL rb (.slice (some ⟨b, o', none⟩) T.length tc) st w) hh ∧ c = (st.cp.take j).foldl (fun c k => if k < (i : Int) then k else c) 0) (n := (st.cp.length)) ?_ fun kk lv hh hI => ?_
  · exact ⟨0, 0, rfl, rfl, by omega, S, rfl⟩
  obtain ⟨j, c, rfl, hkk, hj, S, hc⟩ := hI; refine Qd ?_; refine Z9 gn rfl rfl rfl ?_; refine Q5 ?_; refine Qj ?_; refine Qa rfl (fun hb => ?_) fun hb => ?_
  · skip
    refine Qe ?_; have hj : j < st.cp.length := by simp at hb; omega
    have hrow := (S.sl 6 rfl).row; rw [E.co, hcv'] at hrow; obtain ⟨kb, ko, kc', kcs, ke, km, hv2, hg2, hlt2, hat2⟩ := hrow.atM (by omega); obtain rfl : va = some ⟨kb, ko, none⟩ := by injection hv2
    have hkid : kcs[ko + Int.toNat (j : Int) * 1]? = some (iV st.cp[j]) := by
      rw [Int.toNat_natCast, Nat.mul_one, hat2 j hj]
    have htk : (st.cp.take (j + 1)).foldl (fun c k => if k < (i : Int) then k else c) 0 = if st.cp[j] < (i : Int) then st.cp[j] else c := by
      rw [List.take_add_one, List.getElem?_eq_getElem hj, List.foldl_append, ← hc]; rfl
    refine Qj ?_; refine Qg ?_; refine Qd ?_; refine Q7 (zz := 1) gn rfl rfl rfl (by kernel_rfl) (by omega) (by omega) ?_; refine Q6 gn rfl rfl (by kernel_rfl) hg2 hkid ?_; refine Q3 gn rfl rfl ?_; refine Zw ?_; refine Q4 gn rfl rfl ?_; refine Q4 gn rfl rfl ?_; refine Z9 gn rfl rfl rfl ?_; refine Q5 ?_; refine Qa rfl (fun hb => ?_) fun hb => ?_
    · skip
      refine Q8 (by kernel_rfl) ?_; refine Q4 gn rfl rfl ?_; refine Q3 gn rfl rfl ?_; refine Q5 ?_; refine Q8 (by kernel_rfl) ?_; refine QO gn rfl rfl rfl (by omega) (by omega) ?_; refine Q4 gn rfl rfl ?_; refine Q5 ?_; exact Kc (st.cp.length - (j + 1)) (by omega) [(4, _), (13, _)] (by repeat (first | exact trivial | refine ⟨rfl, ?_⟩)) ⟨j + 1, st.cp[j], rfl, rfl, by omega, S, by rw [htk, if_pos (by simpa using hb)]⟩
    refine Qe ?_; refine Q8 (by kernel_rfl) ?_; refine QO gn rfl rfl rfl (by omega) (by omega) ?_; refine Q4 gn rfl rfl ?_; refine Q5 ?_; exact Kc (st.cp.length - (j + 1)) (by omega) [(4, _), (13, _)] (by repeat (first | exact trivial | refine ⟨rfl, ?_⟩)) ⟨j + 1, c, rfl, rfl, by omega, S, by rw [htk, if_neg (by simpa using hb)]⟩
  refine QZ ?_; refine Qt ?_; refine Qu ?_; refine QY ?_
  have hcc : c = cn := by
    have hjl : j = st.cp.length := by simp at hb; omega
    rw [hc, hjl, List.take_length, ← hcn]; rfl
  subst hcc; refine Z3 [(0, []), (1, []), (2, []), (3, []), (4, []), (5, []), (6, []), (7, []), (8, []), (9, []), (10, []), (11, []), (12, []), (13, []), (14, []), (15, []), (16, []), (17, []), (18, []), (19, []), (20, []), (21, []), (22, []), (23, []), (24, []), (25, [])] (by kernel_rfl) (by kernel_rfl) (by kernel_rfl) (by kernel_rfl) ?_; refine Q4 gn rfl rfl ?_; refine Q4 gn rfl rfl ?_; refine Q4 gn rfl rfl ?_; refine Q9 gn rfl rfl ?_; refine Q0 (off := 0) gn rfl rfl (by kernel_rfl) ?_; refine Q0 (off := 0) gn rfl rfl (by kernel_rfl) ?_; refine Q6 gn rfl rfl (by kernel_rfl) (S.cel 0 rfl) rfl ?_; refine Q4 gn rfl rfl ?_
  refine Q7 (zz := 6) gn rfl rfl rfl (by kernel_rfl) (by omega) (by omega) ?_; refine Q0 (off := 1) gn rfl rfl (by kernel_rfl) ?_; refine Q6 gn rfl rfl (by kernel_rfl) (S0.two S0.own0 S Q2.g Q2.lt) (Q2.at 1 (by decide) rfl) ?_; refine Q70 gn rfl rfl rfl (by omega) ?_; refine Qn (cs := ((([⟨#[99, 114, 101, 97, 116, 101]⟩, ⟨#[115, 116, 97, 114, 116]⟩, ⟨#[115, 116, 111, 112]⟩, ⟨#[100, 101, 115, 116, 114, 111, 121]⟩] : List ByteArray).map Value.string).toArray)) (e := 9) (z := 0) (zv := .string .empty) [(0, _), (1, _), (2, _), (3, _)] S gn rfl (by kernel_rfl) (by kernel_rfl) (by kernel_rfl) (by kernel_rfl) rfl (by kernel_rfl) fun b1 g nb1 S => ?_; refine Q4 gn rfl rfl ?_; refine Q9 gn rfl rfl ?_
  refine Q0 (off := 0) gn rfl rfl (by kernel_rfl) ?_; refine Q0 (off := 0) gn rfl rfl (by kernel_rfl) ?_; refine Q6 gn rfl rfl (by kernel_rfl) (S.cel 1 rfl) rfl ?_; refine Q4 gn rfl rfl ?_; refine Q7 (zz := 6) gn rfl rfl rfl (by kernel_rfl) (by omega) (by omega) ?_; refine Q0 (off := 2) gn rfl rfl (by kernel_rfl) ?_; refine Q6 gn rfl rfl (by kernel_rfl) (S0.two S0.own0 S Q.g Q.lt) (Q.at 2 (by decide) rfl) ?_; refine Q7 (zz := 1) gn rfl rfl rfl (by kernel_rfl) (by omega) (by omega) ?_; refine Q6 gn rfl rfl (by kernel_rfl) (S.cel 0 rfl) (Qdt hN.1 hN.2) ?_; refine Q70 gn rfl rfl rfl (by rw [ByteArray.size_append]; omega) ?_; have S := Qp (A := [_]) S E
  refine Qb [_, _, _, _] gn rfl rfl (by kernel_rfl) rfl (C.mono (n74 (S0.sub1 S0.own0 S 1 rfl) (fr := 0) (nm := t2.s ++ dot ++ Q6b t0.N) R hi hC hr F (Nat.zero_le _) hp hl) ?_); rintro v g ⟨bs', S2⟩; have S := S.ret 1 rfl S2; simp only [List.cons_append, List.nil_append, List.set_cons_succ, List.set_cons_zero] at S; obtain ⟨w, E, ho, S⟩ := Qo (A := [_]) S; simp only [List.cons_append, List.nil_append] at S; refine ⟨ag0, ?_⟩; refine Q5 ?_; refine ⟨.inr rfl, _, rfl, ?_⟩; exact QX (A := [_]) S E
set_option maxHeartbeats 1000000 in
theorem n38 (S0 : SH h0 [] [rsR rb sv st rs bs] hE) (R : Tre h0 sv T) (hi : i < T.length) (hC : Q8m h0 rb sv T rec k) (hr : Kx (vw T) rec k) (B : Pow h0) (F : FoldAt (vw T) k (((vw T).ks i).drop 0) bl n o sow (Ze { st with inner := st.inner + 1 } i (Qdm st.funcs (Q0t st.funcs st.funcs.length st.owner) ++ dot ++ Q0c (st.inner + 1))) 0 p w0) (hp : p ≤ (vw T).n) (hl : st.funcs.length ≤ 1000000)
    (hup : ∀ (j : Nat) f, st.funcs[j]? = some f → -1 ≤ f.up ∧ f.up < j) (ho1 : 0 ≤ st.owner) (ho2 : st.owner < st.funcs.length) (hi1 : 0 ≤ st.inner) (hi2 : st.inner ≤ 100000) (hnm : ∀ (j : Nat) f, st.funcs[j]? = some f → f.nm.size ≤ 1000 * (j + 1)) :
    C nmE 38 [Zx rb, iV i] hE fun _ g' => ∃ bs', SH hE bs [rsR rb sv (Q43 (vw T) rec st i) rs bs'] g' := by
  unfold Q43; obtain ⟨on, hon⟩ : ∃ on : Nat, st.owner = on := ⟨st.owner.toNat, by omega⟩; have hd : (⟨#[46]⟩ : ByteArray).size = 1 := rfl; have his := Q2T (n := st.inner + 1) (by omega) (by omega); refine Qf (fu := Tryz.f38) (by kernel_rfl) rfl ?_; have S := S0.enter; obtain ⟨w, E, ho, S⟩ := Qo (A := []) S; simp only [List.nil_append] at S; obtain ⟨fb, fc, hfv, hfb, hfl⟩ := Kl (S.sl 8 rfl) (by rw [E.fun']; omega); refine Qd ?_; refine Q4 gn rfl rfl ?_; refine Q9 gn rfl rfl ?_; refine Q0 (off := 13) gn rfl rfl (by kernel_rfl) ?_; refine Q6 gn rfl rfl (by kernel_rfl) (S.cel 0 rfl) rfl ?_; refine Q3 gn rfl rfl ?_; refine Q5 ?_; refine Qj ?_; refine Qg ?_
  refine QH [(4, _)] [(0, _), (1, _)] (by repeat (first | exact trivial | refine ⟨rfl, ?_⟩)) (fun kk lv hh => ∃ (top kf : Nat), lv = [(4, iV top)] ∧ kk = top ∧ top < st.funcs.length ∧ SH hE bs (rsL rb sv st w) hh ∧ top < kf ∧ Q0t st.funcs kf top = Q0t st.funcs st.funcs.length st.owner) (n := on) ?_ fun kk lv hh hI => ?_
  · exact ⟨on, st.funcs.length, by rw [hon], rfl, by omega, S, by omega, by rw [hon]⟩
  obtain ⟨top, kf, rfl, hkk, htl, S, hkf, htop⟩ := hI; obtain ⟨f, hf⟩ : ∃ f, st.funcs[top]? = some f := ⟨_, List.getElem?_eq_getElem htl⟩; obtain ⟨x, hx⟩ : ∃ x, w.cv[top]? = some x := ⟨_, List.getElem?_eq_getElem (by rw [E.cv]; exact htl)⟩; obtain ⟨rest, mm, hgf⟩ := JE (n := w.fu.n) (b := fb) (c := fc) (by have := S.sl 8 rfl; rw [hfv] at this; exact this)
  have hrow4 : ((w.fu.c ++ rest).drop (0 + Int.toNat (top : Int) * 4)).take 4 = [iV f.tw, iV f.up, .string f.nm, x.1] := by
    rw [E.fu, Int.toNat_natCast, Nat.zero_add]; exact Q0g _ _ _ _ _ _ hf hx
  have hfu := hup top f hf; have hfn := hnm top f hf; obtain ⟨k', rfl⟩ : ∃ k', kf = k' + 1 := ⟨kf - 1, by omega⟩; have hupo : Jm st.funcs top = f.up := by unfold Jm; rw [Int.toNat_natCast, hf]
  have hst : Q0t st.funcs (k' + 1) top = if 0 ≤ f.up then Q0t st.funcs k' f.up else (top : Int) := by
    show (if 0 ≤ Jm st.funcs top then Q0t st.funcs k' (Jm st.funcs top) else (top : Int)) = _; rw [hupo]
  have hen := E.fun'; refine Qj ?_; refine Qd ?_; refine Q4 gn rfl rfl ?_; refine Q9 gn rfl rfl ?_; refine Q0 (off := 1) gn rfl rfl (by kernel_rfl) ?_; refine Q0 (off := 7) gn rfl rfl (by kernel_rfl) ?_; refine Q6 gn rfl rfl (by kernel_rfl) (S.cel 0 rfl) rfl ?_; refine Q4 gn rfl rfl ?_; rw [hfv]; refine Q7 (zz := 4) gn rfl rfl rfl (by kernel_rfl) (by omega) (by omega) ?_; refine Q0 (off := 1) gn rfl rfl (by kernel_rfl) ?_; refine Q6 gn rfl rfl (by kernel_rfl) hgf (Y0 (f := 1) hrow4 (by decide) rfl) ?_; refine Y5 gn rfl rfl rfl ?_; refine Q5 ?_; refine Qa rfl (fun hb => ?_) fun hb => ?_
  · skip
    refine Qe ?_; refine Qg ?_; refine Q8 (by kernel_rfl) ?_; refine Q4 gn rfl rfl ?_; refine Q9 gn rfl rfl ?_; refine Q0 (off := 1) gn rfl rfl (by kernel_rfl) ?_; refine Q0 (off := 7) gn rfl rfl (by kernel_rfl) ?_; refine Q6 gn rfl rfl (by kernel_rfl) (S.cel 0 rfl) rfl ?_; refine Q4 gn rfl rfl ?_; rw [hfv]; refine Q7 (zz := 4) gn rfl rfl rfl (by kernel_rfl) (by omega) (by omega) ?_; refine Q0 (off := 1) gn rfl rfl (by kernel_rfl) ?_; refine Q6 gn rfl rfl (by kernel_rfl) hgf (Y0 (f := 1) hrow4 (by decide) rfl) ?_; refine Q3 gn rfl rfl ?_; refine Q5 ?_; have h9 : 0 ≤ f.up := by simpa using hb
    refine Zq ?_; exact Kc (f.up.toNat) (by omega) [(4, _)] (by repeat (first | exact trivial | refine ⟨rfl, ?_⟩)) ⟨f.up.toNat, k', by rw [Int.toNat_of_nonneg h9], rfl, by omega, S, by omega, by rw [Int.toNat_of_nonneg h9, ← htop, hst, if_pos h9]⟩
  refine QZ ?_; refine Qt ?_; refine Qu ?_; refine QY ?_; have h9 : ¬ 0 ≤ f.up := by simpa using hb
  have hnmo : Qdm st.funcs (Q0t st.funcs st.funcs.length st.owner) = f.nm := by
    rw [← htop, hst, if_neg h9]; unfold Qdm; rw [Int.toNat_natCast, hf]
  rw [hnmo] at F ⊢; refine Qd ?_; refine Q4 gn rfl rfl ?_; refine Q9 gn rfl rfl ?_; refine Q0 (off := 14) gn rfl rfl (by kernel_rfl) ?_; refine Q6 gn rfl rfl (by kernel_rfl) (S.cel 0 rfl) rfl ?_; refine QO gn rfl rfl rfl (by omega) (by omega) ?_; refine Q9 gn rfl rfl ?_; refine Q0 (off := 14) gn rfl rfl (by kernel_rfl) ?_; refine Zy 0 S gn rfl rfl (by first | rfl | exact hcv) (by kernel_rfl) rfl (by decide) (by first | decide | (simp; done)) (fun g S => ag0) fun g S => ?_; simp only [List.set_cons_succ, List.set_cons_zero] at S; refine Q5 ?_; obtain ⟨rest2, mm2, hgf2⟩ := JE (n := w.fu.n) (b := fb) (c := fc) (by have := S.sl 8 rfl; rw [hfv] at this; exact this)
  have hrow42 : ((w.fu.c ++ rest2).drop (0 + Int.toNat (top : Int) * 4)).take 4 = [iV f.tw, iV f.up, .string f.nm, x.1] := by
    rw [E.fu, Int.toNat_natCast, Nat.zero_add]; exact Q0g _ _ _ _ _ _ hf hx
  refine Z3 [(0, []), (1, []), (2, []), (3, []), (4, []), (5, []), (6, []), (7, []), (8, []), (9, []), (10, []), (11, []), (12, []), (13, []), (14, []), (15, []), (16, [6, 10, 11]), (17, []), (18, [])] (by kernel_rfl) (by kernel_rfl) (by kernel_rfl) (by kernel_rfl) ?_; refine Q4 gn rfl rfl ?_; refine Q4 gn rfl rfl ?_; refine Q4 gn rfl rfl ?_; refine Q9 gn rfl rfl ?_; refine Q0 (off := 1) gn rfl rfl (by kernel_rfl) ?_; refine Q0 (off := 7) gn rfl rfl (by kernel_rfl) ?_; refine Q6 gn rfl rfl (by kernel_rfl) (S.cel 0 rfl) rfl ?_; refine Q4 gn rfl rfl ?_; rw [hfv]; refine Q7 (zz := 4) gn rfl rfl rfl (by kernel_rfl) (by omega) (by omega) ?_; refine Q0 (off := 2) gn rfl rfl (by kernel_rfl) ?_
  refine Q6 gn rfl rfl (by kernel_rfl) hgf2 (Y0 (f := 2) hrow42 (by decide) rfl) ?_; refine Q70 gn rfl rfl rfl (by omega) ?_; refine Q4 gn rfl rfl ?_; refine Q9 gn rfl rfl ?_; refine Q0 (off := 14) gn rfl rfl (by kernel_rfl) ?_; refine Q6 gn rfl rfl (by kernel_rfl) (S.cel 0 rfl) rfl ?_; refine Qcl [_] gn rfl rfl (by kernel_rfl) (by kernel_rfl) sm75 rfl (Qdx (n := st.inner + 1) (B.ext (S0.all0 S0.own0 S)) (by omega) (by omega)) (.refl _) (ag1 (Zr gn rfl (by kernel_rfl) (S.cel 0 rfl) (congrArg some hfv) rfl ZO) (ag1 (Zr gn rfl (by kernel_rfl) hgf2 (Y0 (f := 2) hrow42 (by decide) rfl) rfl Q6H) (ag1 (Qeo gn rfl rfl (by omega) rfl) ag0))) ?_
  refine Q70 gn rfl rfl rfl (by rw [ByteArray.size_append]; omega) ?_; have E : RsE { st with inner := st.inner + 1 } rs w := { E with }; have S := Qp (A := []) S E; refine Qb [_, _, _, _] gn rfl rfl (by kernel_rfl) rfl (C.mono (n74 (S0.sub1 S0.own0 S 0 rfl) (fr := 0) (nm := f.nm ++ dot ++ Q0c (st.inner + 1)) R hi hC hr F (Nat.zero_le _) hp hl) ?_); rintro v g ⟨bs', S2⟩; have S := S.ret 0 rfl S2; simp only [List.cons_append, List.nil_append, List.set_cons_succ, List.set_cons_zero] at S; obtain ⟨w, E, ho, S⟩ := Qo (A := []) S; simp only [List.cons_append, List.nil_append] at S; refine ⟨ag0, ?_⟩; refine Q5 ?_; refine ⟨.inr rfl, _, rfl, ?_⟩; exact QX (A := []) S E
end
end Go.Proofs.YtkidomfnmpnmaaaGreatDoor
namespace Go.Proofs.YtkidomfnmpnmaaaGreatDoor
open Go.X Go.Nam
theorem n76 {h : Hp} {a : Option Addr} {n c : Nat} : C nmE 76 [.slice a n c] h fun r h' => r = .func (.func 105) #[] #[Zx h.n] ∧ h' = h.alloc (.cells [.slice a n c] 60 0) := by
  refine Qf (fu := Tryz.f76) (by kernel_rfl) rfl ?_; refine Qd ?_; refine Qbe gn rfl rfl ?_; refine Q3 gn rfl rfl ?_; refine Zw ?_; refine KH gn rfl rfl ?_; refine Q3 gn rfl rfl ?_; refine Q5 ?_; refine Qc ?_; refine ⟨.inl rfl, _, rfl, ?_⟩; exact ⟨rfl, rfl⟩
set_option maxHeartbeats 1000000 in
theorem n105 {h : Hp} {q x n : Nat} {l : List Sco} {rs : List Nat} {v : Value} (hn : n ≤ 1000000) (hl : l.length = n) (hr : rs.length = n) (P : Nat → Hp → Prop) (R : Hp → Prop)
    (hP : ∀ i m, P i m → m.get q = some (.cells [v] 60 0) ∧ (∃ a c, v = .slice a n c) ∧ (0 < n → ∃ b c rest mm, v = .slice (some ⟨b, 0, none⟩) n c ∧ m.get b = some (.cells (scC l rs ++ rest) 120 mm)))
    (start : P n h)
    (round : ∀ i (_ : i < n) r s m, P (i + 1) m → l[i]? = some s → rs[i]? = some r → Y nmE x [iV i, .agg #[.map (some r), iV s.ow]] m fun b m2 => (b = .bool true ∧ P i m2) ∨ (b = .bool false ∧ R m2)) :
    C nmE 105 [.func (.yield x) #[] #[], Zx q] h fun _ h' => P 0 h' ∨ R h' := by
  obtain ⟨hq, ⟨va, vc, rfl⟩, _⟩ := hP _ _ start; refine Qf (fu := Tryz.f105) (by kernel_rfl) rfl ?_; have S := SH.start h; refine Qd ?_; refine Q6 gn rfl rfl (by kernel_rfl) hq rfl ?_; refine QI gn rfl rfl (by kernel_rfl) ?_; refine Q7T gn rfl rfl rfl (by omega) (by omega) ?_; refine Q3 gn rfl rfl ?_; refine Q5 ?_; refine Qg ?_; refine QH [(3, _)] [(0, _), (1, _)] (by repeat (first | exact trivial | refine ⟨rfl, ?_⟩)) (fun kk lv hh => ∃ (i : Nat), lv = [(3, iV ((i : Int) - 1))] ∧ kk = i ∧ i ≤ n ∧ P i hh) (n := n) ?_ fun kk lv hh hI => ?_
  · exact ⟨n, rfl, rfl, Nat.le_refl _, start⟩
  obtain ⟨i, rfl, hkk, hin, hPi⟩ := hI; refine Qj ?_; refine Qd ?_; refine Q4 gn rfl rfl ?_; refine Y5 gn rfl rfl rfl ?_; refine Q5 ?_; refine Qa rfl (fun hb => ?_) fun hb => ?_
  · skip
    refine Qe ?_; have hi1 : 0 ≤ (i : Int) - 1 := by simpa using hb
    obtain ⟨j, rfl⟩ : ∃ j, i = j + 1 := ⟨i - 1, by omega⟩; obtain ⟨hqi, _, hv⟩ := hP _ _ hPi; obtain ⟨b, c, rest, mm, hvv, hgb⟩ := hv (by omega)
    obtain ⟨rfl, rfl⟩ : va = some ⟨b, 0, none⟩ ∧ vc = c := by
      simp only [Value.slice.injEq, true_and] at hvv; exact hvv
    have h1 : l[j]? = some (l[j]'(by omega)) := List.getElem?_eq_getElem _; have h2 : rs[j]? = some (rs[j]'(by omega)) := List.getElem?_eq_getElem _; have hcl := Q5M l rs (by omega)
    have hld : ((scC l rs ++ rest).drop (0 + Int.toNat (((j + 1 : Nat) : Int) - 1) * 2)).take 2 = [.map (some (rs[j]'(by omega))), iV (l[j]'(by omega)).ow] := by
      rw [show 0 + Int.toNat (((j + 1 : Nat) : Int) - 1) * 2 = j * 2 by omega]; exact Q8T _ _ _ _ _ _ h1 h2
    have hY := round j (by omega) _ _ _ hPi h1 h2; refine Qj ?_; refine Qg ?_; refine Qd ?_; refine Q4 gn rfl rfl ?_; refine Q4 gn rfl rfl ?_; refine Q6 gn rfl rfl (by kernel_rfl) hqi rfl ?_; refine Q4 gn rfl rfl ?_; refine Q7 (zz := 2) gn rfl rfl rfl (by kernel_rfl) (by omega) (by omega) ?_; refine Qs (n := 2) gn rfl rfl (by kernel_rfl) (by kernel_rfl) hgb (by rw [List.length_append, hcl]; omega) ?_; rw [hld]; rw [show (((j + 1 : Nat) : Int) - 1) = (j : Int) by omega]; refine Qdh [_, _] gn rfl rfl rfl (Y.mono hY ?_); rintro v2 g hv2
    obtain ⟨t, rfl, hv4⟩ : ∃ t, v2 = .bool t ∧ ((t = true ∧ P j g) ∨ (t = false ∧ R g)) := by
      rcases hv2 with ⟨rfl, hh⟩ | ⟨rfl, hh⟩
      · exact ⟨true, rfl, .inl ⟨rfl, hh⟩⟩
      exact ⟨false, rfl, .inr ⟨rfl, hh⟩⟩
    refine ⟨ag0, ?_⟩; refine ZT gn rfl rfl ?_; refine Q5 ?_; refine Qa rfl (fun hb => ?_) fun hb => ?_
    · skip
      refine Qc ?_; refine ⟨.inl rfl, _, rfl, ?_⟩; rcases hv4 with ⟨rfl, hv4⟩ | ⟨_, hv4⟩
      · cases hb
      exact .inr hv4
    refine Qe ?_
    have hv3 : P j g := by
      rcases hv4 with ⟨_, hv3⟩ | ⟨rfl, _⟩
      · exact hv3
      cases hb
    refine Q8 (by kernel_rfl) ?_; refine Q4 gn rfl rfl ?_; refine Q7T gn rfl rfl rfl (by omega) (by omega) ?_; refine Q3 gn rfl rfl ?_; refine Q5 ?_; exact Kc j (by omega) [(3, _)] (by repeat (first | exact trivial | refine ⟨rfl, ?_⟩)) ⟨j, rfl, rfl, by omega, hv3⟩
  refine QZ ?_; refine Qt ?_; refine Qu ?_; refine QY ?_; refine ⟨.inr rfl, _, rfl, ?_⟩; obtain rfl : i = 0 := by simp at hb; omega
  exact .inl hPi
end Go.Proofs.YtkidomfnmpnmaaaGreatDoor
namespace Go.Proofs.YtkidomfnmpnmaaaGreatDoor
open Go.X Go.Nam
theorem Q1z {t : Txt} : ∀ (a b : List Sco), Jd t (a ++ b) = match Jd t a with | some r => some r | none => Jd t b
  | [], b => rfl
  | s :: a, b => by
    have ih := Q1z (t := t) a b; show (match s.loc t with | some v => some (v, s.ow) | none => Jd t (a ++ b)) = match (match s.loc t with | some v => some (v, s.ow) | none => Jd t a) with | some r => some r | none => Jd t b
    cases s.loc t with
    | some v => rfl
    | none => exact ih
theorem YV {e z n : Nat} {h : Hp} {s : Value} {cs : List Value} {bs : List Nat} (x : SlC e z h s cs n bs) : ∃ a c, s = .slice a n c := by
  rcases x with ⟨h1, _, h3, _⟩ | ⟨b, m, c, rest, h1, _⟩
  · exact ⟨none, 0, by rw [h1, h3]⟩
  exact ⟨_, _, h1⟩
theorem Qau {fs : List Fun} {f v : Int} {j : Nat} (h : f.toNat ≠ j) : (Z5 fs f v)[j]? = fs[j]? := by
  unfold Z5; rw [List.getElem?_modify]; simp only [if_neg h]; cases fs[j]? <;> rfl
theorem Qc8 {fs : List Fun} {v : Int} {j : Nat} {f : Fun} (h : fs[j]? = some f) (hv : v ∈ f.caps) : Z5 fs j v = fs := by
  refine List.ext_getElem? fun i => ?_; by_cases e : j = i
  · subst e; rw [Q5y h, Int.toNat_natCast, if_pos rfl, if_pos hv, h]
  exact Qau (by omega)
theorem Q9R (v : Int) (s : Value) (b : List Nat) : ∀ (l : List Fun) (c : List (Value × List Nat)) (j : Nat) (f : Fun) (x : Value × List Nat), l[j]? = some f → c[j]? = some x → v ∉ f.caps → fuC (l.modify j fun x => if v ∈ x.caps then x else { x with caps := x.caps ++ [v] }) (c.set j (s, b)) = (fuC l c).set (j * 4 + 3) s
  | f :: l, x :: c, 0, f', x', h1, _, hv => by
    simp only [List.getElem?_cons_zero, Option.some.injEq] at h1; subst h1; rw [List.modify_zero_cons, if_neg hv]; rfl
  | f :: l, x :: c, j + 1, f', x', h1, h2, hv => by
    rw [List.modify_succ_cons, List.set_cons_succ, show (j + 1) * 4 + 3 = j * 4 + 3 + 1 + 1 + 1 + 1 by omega]; show [iV f.tw, iV f.up, .string f.nm, x.1] ++ fuC (l.modify j _) (c.set j _) = (iV f.tw :: iV f.up :: .string f.nm :: x.1 :: fuC l c).set _ _; rw [List.set_cons_succ, List.set_cons_succ, List.set_cons_succ, List.set_cons_succ, Q9R v s b l c j f' x' (by simpa using h1) (by simpa using h2) hv]; rfl
  | [], _, _, _, _, h1, _, _ => by simp at h1
  | _ :: _, [], _, _, _, _, h2, _ => by simp at h2
theorem Qah (v : Int) (s : Value) (b : List Nat) : ∀ (l : List Fun) (c : List (Value × List Nat)) (j : Nat) (f : Fun) (x : Value × List Nat), l[j]? = some f → c[j]? = some x → v ∉ f.caps → caP (l.modify j fun x => if v ∈ x.caps then x else { x with caps := x.caps ++ [v] }) (c.set j (s, b)) = (caP l c).set j (slR 3 0 s (isV f.caps ++ [iV v]) (f.caps.length + 1) b)
  | f :: l, x :: c, 0, f', x', h1, _, hv => by
    simp only [List.getElem?_cons_zero, Option.some.injEq] at h1; subst h1; rw [List.modify_zero_cons, if_neg hv, List.set_cons_zero]; show slR 3 0 s (isV (f.caps ++ [v])) (f.caps ++ [v]).length b :: caP l c = slR 3 0 s (isV f.caps ++ [iV v]) (f.caps.length + 1) b :: caP l c; have e : isV (f.caps ++ [v]) = isV f.caps ++ [iV v] := by simp
    rw [e, List.length_append]; rfl
  | f :: l, x :: c, j + 1, f', x', h1, h2, hv => by
    rw [List.modify_succ_cons, List.set_cons_succ]; show _ :: caP (l.modify j _) (c.set j _) = _ :: (caP l c).set j _; rw [Qah v s b l c j f' x' (by simpa using h1) (by simpa using h2) hv]
  | [], _, _, _, _, h1, _, _ => by simp at h1
  | _ :: _, [], _, _, _, _, h2, _ => by simp at h2
theorem Qaj : ∀ (l : List Fun) (c : List (Value × List Nat)) (j : Nat) (f : Fun) (x : Value × List Nat), l[j]? = some f → c[j]? = some x → (caP l c)[j]? = some (slR 3 0 x.1 (isV f.caps) f.caps.length x.2)
  | f :: l, x :: c, 0, f', x', h1, h2 => by
    simp only [List.getElem?_cons_zero, Option.some.injEq] at h1 h2; subst h1; subst h2; rfl
  | f :: l, x :: c, j + 1, f', x', h1, h2 => Qaj l c j f' x' (by simpa using h1) (by simpa using h2)
  | [], _, _, _, _, h1, _ => by simp at h1
  | _ :: _, [], _, _, _, _, h2 => by simp at h2
theorem RsE.cap {st : Nst} {rs : List Nat} {w : RsW} (E : RsE st rs w) {j : Nat} {f : Fun} {x : Value × List Nat} (hf : st.funcs[j]? = some f) (hx : w.cv[j]? = some x) {v : Int} (hv : v ∉ f.caps) (s' : Value) (bs' : List Nat) :
    RsE { st with funcs := Z5 st.funcs j v } rs { w with fu := ⟨w.fu.v, w.fu.c.set (0 + Int.toNat (j : Int) * 4 + 3) s', w.fu.n, w.fu.b⟩, cv := w.cv.set j (s', bs'), cp := w.cp.set j (slR 3 0 s' (isV f.caps ++ [iV v]) (f.caps.length + 1) bs') } :=
  { E with
    fu := by
      show w.fu.c.set _ _ = fuC (Z5 st.funcs j v) (w.cv.set j _); unfold Z5; rw [Int.toNat_natCast, Q9R v s' bs' _ _ _ _ _ hf hx hv, E.fu, Nat.zero_add]
    fun' := by show w.fu.n = (Z5 st.funcs j v).length; rw [Q0V, E.fun']
    cv := by show (w.cv.set j _).length = (Z5 st.funcs j v).length; rw [List.length_set, Q0V, E.cv]
    cp := by
      show w.cp.set j _ = caP (Z5 st.funcs j v) (w.cv.set j _); unfold Z5
      rw [Int.toNat_natCast, Qah v s' bs' _ _ _ _ _ hf hx hv, E.cp] }
theorem Q44 {F B C : List Res} {j : Nat} {r : Res} (h : C[j]? = some r) : (F ++ (B ++ C))[F.length + (B.length + j)]? = some r := by
  rw [List.getElem?_append_right (by omega), Nat.add_sub_cancel_left, List.getElem?_append_right (by omega), Nat.add_sub_cancel_left]; exact h
theorem cap_S {h0 h : Hp} {ds : List Nat} {F B C : List Res} {j k : Nat} {r : Res} (S : SH h0 ds ((F ++ (B ++ C)).set k r) h) (hk : k = F.length + (B.length + j)) : SH h0 ds (F ++ (B ++ C.set j r)) h := by
  subst hk; rwa [List.set_append_right _ _ (by omega), Nat.add_sub_cancel_left, List.set_append_right _ _ (by omega), Nat.add_sub_cancel_left] at S
theorem SH.co {h0 h h2 : Hp} {ds : List Nat} {L : List Res} (S : SH h0 ds L h) (x : Co h0 h h2) (hd : ∀ r, r ∈ L → ∀ b, b ∈ r.own → ∀ d, h.get b ≠ some (.deferred d)) : SH h0 ds L h2 :=
  ⟨x.extB S.ext, fun r hr => r.st h h2 (fun i hi => ⟨S.lt i (Z7 hr hi), x.2 i (.inr (hd r hr i hi))⟩) (by rw [x.1]; exact Nat.le_refl _) (S.hold r hr), fun i hi => by rw [x.1]; exact S.lt i hi, S.new, S.nd⟩
theorem nd_c {h : Hp} {b e m : Nat} {c : List Value} (p : (cR b (.cells c e m)).P h) : ∀ i, i ∈ (cR b (.cells c e m)).own → ∀ d, h.get i ≠ some (.deferred d) := fun i hi d hg => by
  obtain rfl : i = b := by simpa [cR] using hi
  have p : h.get i = some (.cells c e m) := p; rw [hg] at p; cases p
theorem Qdn {h : Hp} {e z n : Nat} {s : Value} {cs : List Value} {bs : List Nat} (p : (slR e z s cs n bs).P h) : ∀ i, i ∈ (slR e z s cs n bs).own → ∀ d, h.get i ≠ some (.deferred d) := fun i hi d hg => by
  have hi : i ∈ bs := hi; have p : SlC e z h s cs n bs := p; rcases p with ⟨_, _, _, h4⟩ | ⟨b, m, c, rest, _, h2, _, _, h5, _⟩
  · rw [h4] at hi; simp at hi
  rw [h5] at hi; obtain rfl := List.mem_singleton.1 hi; rw [hg] at h2; cases h2
theorem Qdo {K A : Type} [DecidableEq K] {h : Hp} {key : K → Value} {enc : A → Value} {r : Nat} {F : K → Option A} (p : (mpR key enc r F).P h) : ∀ i, i ∈ (mpR key enc r F).own → ∀ d, h.get i ≠ some (.deferred d) := fun i hi d hg => by
  obtain rfl : i = r := by simpa [mpR] using hi
  obtain ⟨M, cl, h1, _⟩ := p; rw [hg] at h1; cases h1
theorem Q8R : ∀ {l : List Sco} {c : List Nat} {r : Res}, r ∈ scP l c → ∃ b F, r = mpR Value.string iV b F
  | s :: l, x :: c, r, h => by
    rcases List.mem_cons.1 h with rfl | h
    · exact ⟨_, _, rfl⟩
    exact Q8R h
  | [], _, _, h => by cases h
  | _ :: _, [], _, h => by cases h
theorem Qai : ∀ {l : List Fun} {c : List (Value × List Nat)} {r : Res}, r ∈ caP l c → ∃ s cs n b, r = slR 3 0 s cs n b
  | s :: l, x :: c, r, h => by
    rcases List.mem_cons.1 h with rfl | h
    · exact ⟨_, _, _, _, rfl⟩
    exact Qai h
  | [], _, _, h => by cases h
  | _ :: _, [], _, h => by cases h
theorem rs_nd {h0 h : Hp} {ds rs : List Nat} {rb : Nat} {sv : Value} {st : Nst} {w : RsW} (S : SH h0 ds (rsL rb sv st w) h) (E : RsE st rs w) : ∀ r, r ∈ rsL rb sv st w → ∀ b, b ∈ r.own → ∀ d, h.get b ≠ some (.deferred d) := fun r hr => by
  have p := S.hold r hr; simp only [List.mem_cons, List.mem_append] at hr; rcases hr with rfl | rfl | rfl | rfl | rfl | rfl | rfl | rfl | rfl | rfl | rfl | rfl | rfl | hr | hr
  · exact nd_c p
  iterate 9 exact Qdn p
  · exact Qdo p
  · exact Qdn p
  · exact Qdo p
  · rw [E.sp] at hr; obtain ⟨b, F, rfl⟩ := Q8R hr; exact Qdo p
  rw [E.cp] at hr; obtain ⟨s, cs, n, b, rfl⟩ := Qai hr; exact Qdn p
end Go.Proofs.YtkidomfnmpnmaaaGreatDoor
namespace Go.Proofs.YtkidomfnmpnmaaaGreatDoor
open Go.X Go.Nam
theorem ch_inv {fs : List Fun} {f g : Int} (c : Ch fs f g) (h : f ≠ g) : Ch fs (Jm fs f) g := by
  cases c with
  | refl _ => exact absurd rfl h
  | step _ c => exact c
theorem Q8L {h0 h h2 : Hp} {ds : List Nat} {L : List Res} {x : Nat} {o : AObj} (S : SH h0 ds (cR x o :: L) h) (g : ExtB [x] h h2) : SH h0 ds L h2 :=
  (S.upd (r' := ⟨[], fun _ => True, fun _ _ _ _ _ => trivial⟩) 0 rfl g trivial (fun _ h => by cases h) (fun _ h => by cases h) List.nodup_nil).drop
section
variable {h0 hE : Hp} {bs rs : List Nat} {rb : Nat} {sv : Value} {st : Nst} {T : List Tw} {i : Nat} {w0 : Nat} {bl : List (Nat × Nat)}
theorem n76S {h0 h : Hp} {ds : List Nat} {L : List Res} {a : Option Addr} {n c : Nat} (S : SH h0 ds L h) : C nmE 76 [.slice a n c] h fun r h' => ∃ b, r = .func (.func 105) #[] #[Zx b] ∧ SH h0 ds (cR b (.cells [.slice a n c] 60 0) :: L) h' :=
  C.mono n76 fun r h' ⟨e1, e2⟩ => ⟨h.n, e1, by rw [e2]; exact S.alloc _⟩
set_option maxHeartbeats 4000000 in
theorem n41 (S0 : SH h0 [] [rsR rb sv st rs bs] hE) (R : Tre h0 sv T) (hi : i < T.length) (I : Inv (vw T) st i bl w0) (hw : w0 ≤ 1000000) : C nmE 41 [Zx rb, iV i] hE fun _ g' => ∃ bs', SH hE bs [rsR rb sv (Q7y (vw T) st i) rs bs'] g' := by
  have X := R.X; obtain ⟨ta, tc, rfl⟩ := X.val; obtain ⟨t0, b, o', cs, ee, m, hw0, Q⟩ := JK X hi; obtain rfl := Q.ta; have hbw := I.bw; have hlm := I.lm; have hPn := R.P.n; have hTn : (vw T).n = T.length := rfl; have hbs := I.bs
  have hfind : ∀ v ow, Jd t0.s st.scopes.reverse = some (v, ow) → Q7y (vw T) st i = { st with means := st.means.set i (1, v), funcs := Jk v ow (st.funcs.length + 1) st.funcs st.owner } := fun v ow h => by
    unfold Q7y; rw [Q.s, h]; rfl
  have hnone : Jd t0.s st.scopes.reverse = none → Q7y (vw T) st i = Kq (vw T) st i [2, 3] := fun h => by
    unfold Q7y; rw [Q.s, h]
  refine Qc0 (fu := Tryz.f41) (by kernel_rfl) rfl ?_; have S := S0.enter; obtain ⟨w, E, ho, S⟩ := Qo (A := []) S; simp only [List.nil_append] at S; refine Qd ?_; refine Yh S gn rfl rfl fun b1 g nb1 S => ?_; refine Yh S gn rfl rfl fun b2 g nb2 S => ?_; refine Kz ?_; refine Q6 gn rfl rfl (by kernel_rfl) (by first | exact S.cel 0 rfl | exact S.cel 1 rfl | exact S.cel 2 rfl | exact S.cel 3 rfl  | exact S.cel 4 rfl  | exact S.cel 5 rfl  | exact S.cel 6 rfl) rfl ?_; refine Q9 gn rfl rfl ?_; refine Q0 (off := 12) gn rfl rfl (by kernel_rfl) ?_
  refine Q6 gn rfl rfl (by kernel_rfl) (by first | exact S.cel 0 rfl | exact S.cel 1 rfl | exact S.cel 2 rfl | exact S.cel 3 rfl  | exact S.cel 4 rfl  | exact S.cel 5 rfl  | exact S.cel 6 rfl) rfl ?_; obtain ⟨va, vc, hsv⟩ := YV (S.sl 13 rfl); rw [hsv]; refine Qb [_] gn rfl rfl (by kernel_rfl) rfl (C.mono (n76S S) ?_); rintro v gR ⟨b0, rfl, S⟩
  skip
  refine ⟨ag0, ?_⟩; refine Q5 ?_; refine Qg ?_; refine Q4g [(2, Zx b1), (3, Zx b2), (14, .func (.func 105) #[] #[Zx b0])] (by repeat (first | exact trivial | refine ⟨rfl, ?_⟩)) ?_; refine QaF rfl rfl (by kernel_rfl) (by kernel_rfl) (by kernel_rfl) (by kernel_rfl) fun rc hR h0 hx0 hn0 hrc => ?_; have S1 := S.push (r := cR (gR.n + 1) (rc .ready none)) hx0 hrc (by simp [cR]; omega) (by simp [cR]) (by simp [cR]); rw [← hsv] at S1
  have hround : ∀ k (_ : k < w.sc.n) r s m1, (Jd t0.s (st.scopes.drop (k + 1)).reverse = none ∧ SH hE bs (cR (gR.n + 1) (rc .ready none) :: cR b0 (.cells [w.sc.v] 60 0) :: cR b2 (.cells [iV i] 3 0) :: cR b1 (.cells [Zx rb] 56 0) :: rsL rb (.slice (some ⟨b, o', none⟩) T.length tc) st w) m1) → st.scopes[k]? = some s → rs[k]? = some r → Y nmE (gR.n + 1) [iV k, .agg #[.map (some r), iV s.ow]] m1 fun v m2 =>
    (v = .bool true ∧ (Jd t0.s (st.scopes.drop k).reverse = none ∧ SH hE bs (cR (gR.n + 1) (rc .ready none) :: cR b0 (.cells [w.sc.v] 60 0) :: cR b2 (.cells [iV i] 3 0) :: cR b1 (.cells [Zx rb] 56 0) :: rsL rb (.slice (some ⟨b, o', none⟩) T.length tc) st w) m2)) ∨
    (v = .bool false ∧ ∃ w', RsE (Q7y (vw T) st i) rs w' ∧ SH hE bs (cR (gR.n + 1) (rc .done (some .ret)) :: cR b0 (.cells [w.sc.v] 60 0) :: cR b2 (.cells [iV i] 3 0) :: cR b1 (.cells [Zx rb] 56 0) :: rsL rb (.slice (some ⟨b, o', none⟩) T.length tc) (Q7y (vw T) st i) w') m2) := fun k hk r s m1 ⟨hno, S⟩ hs hr => by
      have hsp : w.sp[k]? = some (mpR Value.string iV r s.loc) := by rw [E.sp]; exact Q6G _ _ _ _ _ hs hr
      have hkl : k < st.scopes.length := by have := E.scn; omega
      have hdk : st.scopes.drop k = s :: st.scopes.drop (k + 1) := by
        rw [List.drop_eq_getElem_cons hkl]; rw [List.getElem?_eq_getElem hkl] at hs; rw [Option.some.inj hs]
      refine hR.round (S.cel 0 rfl) rfl ?_; refine Q8 (by kernel_rfl) ?_; refine Zz (zv := .agg #[.map none, .int .i64 0]) S gn rfl (by kernel_rfl) fun b3 g nb3 S => ?_; refine QV (n := 2) 0 S gn rfl rfl (by kernel_rfl) (by kernel_rfl) rfl rfl (by decide) rfl (fun g S => ag0) fun g S => ?_; simp only [List.set_cons_succ, List.set_cons_zero] at S; refine Q5 ?_; refine ⟨_, (S.cel 1 rfl), ?_⟩; have S := S.put 1 rfl (rc .busy none); simp only [List.set_cons_succ, List.set_cons_zero] at S; refine Qg ?_; refine Qj ?_
      refine Z3 [(0, []), (1, []), (2, []), (3, []), (4, []), (5, []), (6, []), (7, []), (8, []), (9, []), (10, []), (11, []), (12, []), (13, []), (14, []), (15, []), (16, [])] (by kernel_rfl) (by kernel_rfl) (by kernel_rfl) (by kernel_rfl) ?_; refine Q0 (off := 0) gn rfl rfl (by kernel_rfl) ?_; refine Q6 gn rfl rfl (by kernel_rfl) (by first | exact S.cel 0 rfl | exact S.cel 1 rfl | exact S.cel 2 rfl | exact S.cel 3 rfl | exact S.cel 3 rfl  | exact S.cel 4 rfl  | exact S.cel 5 rfl  | exact S.cel 6 rfl) rfl ?_
      refine Q6 gn rfl rfl (by kernel_rfl) (by first | exact S.cel 0 rfl | exact S.cel 1 rfl | exact S.cel 2 rfl | exact S.cel 3 rfl | exact S.cel 3 rfl  | exact S.cel 4 rfl  | exact S.cel 5 rfl  | exact S.cel 6 rfl) rfl ?_; refine Q9 gn rfl rfl ?_; refine Q0 (off := 0) gn rfl rfl (by kernel_rfl) ?_; refine Q0 (off := 0) gn rfl rfl (by kernel_rfl) ?_; refine Q6 gn rfl rfl (by kernel_rfl) (by first | exact S.cel 0 rfl | exact S.cel 1 rfl | exact S.cel 2 rfl | exact S.cel 3 rfl | exact S.cel 3 rfl  | exact S.cel 4 rfl  | exact S.cel 5 rfl  | exact S.cel 6 rfl) rfl ?_
      refine Q6 gn rfl rfl (by kernel_rfl) (by first | exact S.cel 0 rfl | exact S.cel 1 rfl | exact S.cel 2 rfl | exact S.cel 3 rfl | exact S.cel 3 rfl  | exact S.cel 4 rfl  | exact S.cel 5 rfl  | exact S.cel 6 rfl) rfl ?_; refine Q7 (zz := 6) gn rfl rfl rfl (by kernel_rfl) (by omega) (by omega) ?_; refine Q0 (off := 1) gn rfl rfl (by kernel_rfl) ?_; refine Q6 gn rfl rfl (by kernel_rfl) (S0.two S0.own0 S Q.g Q.lt) (Q.at 1 (by decide) rfl) ?_; obtain ⟨M, cl, hM, hF⟩ := Q2L S _ (Q5F (F := [_, _, _, _, _, _, _, _, _, _, _, _, _, _, _, _, _, _]) (C := w.cp) hsp); refine YI (zv := .int .i64 0) Q9J gn rfl rfl rfl hM (by kernel_rfl) ?_; rw [hF, Q1t]
      obtain ⟨lo, hlo⟩ : ∃ lo, s.loc t0.s = lo := ⟨_, rfl⟩; rw [hlo]; refine Q4 gn rfl rfl ?_; refine Zu gn rfl rfl rfl ?_; refine Zu gn rfl rfl rfl ?_; refine Q3 gn rfl rfl ?_; refine Q3 gn rfl rfl ?_; refine Kz ?_; refine Q4 gn rfl rfl ?_; refine ZT gn rfl rfl ?_; refine Q5 ?_; refine Qa rfl (fun hb => ?_) fun hb => ?_
      · skip
        refine QZ ?_; refine Qt ?_; refine QY ?_
        exact ⟨_, _, (S.cel 1 rfl), .inl ⟨rfl, by
          obtain rfl : lo = none := by cases lo <;> simp_all
          rw [hdk, List.reverse_cons, Q1z, hno]; show (match s.loc t0.s with | some v => some (v, s.ow) | none => none) = none; rw [hlo], by
          have S := S.put 1 rfl (rc .ready none); simp only [List.set_cons_succ, List.set_cons_zero] at S
          exact S.drop⟩⟩
      refine Qe ?_
      obtain ⟨vi, rfl⟩ : ∃ vi, lo = some vi := by
        cases lo with
        | none => simp at hb
        | some vi => exact ⟨vi, rfl⟩
      have hfs : Jd t0.s st.scopes.reverse = some (vi, s.ow) := by
        rw [← List.take_append_drop k st.scopes, hdk, List.reverse_append, List.reverse_cons, Q1z, Q1z, hno]; show (match (match s.loc t0.s with | some v => some (v, s.ow) | none => none) with | some r => some r | none => Jd t0.s (st.scopes.take k).reverse) = some (vi, s.ow); rw [hlo]
      have hus := hfind _ _ hfs; have hch := I.ch s.ow (List.mem_map_of_mem (List.mem_of_getElem? hs)); have hon0 := hch.nonneg; obtain ⟨on, hon⟩ : ∃ on : Nat, st.owner = on := ⟨st.owner.toNat, by omega⟩; rw [hon] at hch; have hol := I.o2; obtain ⟨mb, mc, hmv, hmb, hml⟩ := Kl (S.sl 6 rfl) (by rw [E.men]; omega); refine Qj ?_; refine Z3 [(0, []), (1, []), (2, []), (3, []), (4, []), (5, []), (6, []), (7, []), (8, []), (9, [])] (by kernel_rfl) (by kernel_rfl) (by kernel_rfl) (by kernel_rfl) ?_
      refine Q6 gn rfl rfl (by kernel_rfl) (by first | exact S.cel 0 rfl | exact S.cel 1 rfl | exact S.cel 2 rfl | exact S.cel 3 rfl | exact S.cel 3 rfl  | exact S.cel 4 rfl  | exact S.cel 5 rfl  | exact S.cel 6 rfl) rfl ?_; refine Q9 gn rfl rfl ?_; refine Q0 (off := 1) gn rfl rfl (by kernel_rfl) ?_; refine Q0 (off := 0) gn rfl rfl (by kernel_rfl) ?_; refine Q6 gn rfl rfl (by kernel_rfl) (by first | exact S.cel 0 rfl | exact S.cel 1 rfl | exact S.cel 2 rfl | exact S.cel 3 rfl | exact S.cel 3 rfl  | exact S.cel 4 rfl  | exact S.cel 5 rfl  | exact S.cel 6 rfl) rfl ?_
      refine Q6 gn rfl rfl (by kernel_rfl) (by first | exact S.cel 0 rfl | exact S.cel 1 rfl | exact S.cel 2 rfl | exact S.cel 3 rfl | exact S.cel 3 rfl  | exact S.cel 4 rfl  | exact S.cel 5 rfl  | exact S.cel 6 rfl) rfl ?_; refine Q4 gn rfl rfl ?_; refine Yq (zv := .agg #[.int .i64 0, .int .i64 0]) (pl := [(0, 1), (1, 1)]) [(0, _), (1, _)] gn rfl (by kernel_rfl) (by kernel_rfl) rfl (by rfl) ?_; rw [hmv]; refine Q7 (zz := 2) gn rfl rfl rfl (by kernel_rfl) (by omega) (by have := E.men; omega) ?_
      refine Qci (z := 1) (cs' := meC (st.means.set i (1, vi))) 6 S gn rfl rfl (by kernel_rfl) (by kernel_rfl) rfl rfl hmv (by have h1 := E.men; rw [hml, Int.toNat_natCast]; omega) (by rw [E.me, Int.toNat_natCast, Nat.zero_add]; exact Q68 st.means i (1, vi) (by omega)) (fun g S => ag0) fun g S => ?_; simp only [List.set_cons_succ, List.set_cons_zero] at S; refine Q5 ?_; refine Qj ?_; refine Qj ?_
      have E1 : RsE { st with means := st.means.set i (1, vi) } rs { w with me := ⟨w.me.v, meC (st.means.set i (1, vi)), w.me.n, w.me.b⟩ } := { E with
        me := rfl
        men := by show w.me.n = (st.means.set _ _).length; rw [List.length_set, E.men] }
      refine Q8 (by kernel_rfl) ?_; refine Q6 gn rfl rfl (by kernel_rfl) (by first | exact S.cel 0 rfl | exact S.cel 1 rfl | exact S.cel 2 rfl | exact S.cel 3 rfl | exact S.cel 3 rfl  | exact S.cel 4 rfl  | exact S.cel 5 rfl  | exact S.cel 6 rfl) rfl ?_; refine Q9 gn rfl rfl ?_; refine Q0 (off := 13) gn rfl rfl (by kernel_rfl) ?_; refine Q6 gn rfl rfl (by kernel_rfl) (by first | exact S.cel 0 rfl | exact S.cel 1 rfl | exact S.cel 2 rfl | exact S.cel 3 rfl | exact S.cel 3 rfl  | exact S.cel 4 rfl  | exact S.cel 5 rfl  | exact S.cel 6 rfl) rfl ?_; refine Q3 gn rfl rfl ?_; refine Q5 ?_; refine Qg ?_
      refine QH [(8, _)] [(2, _), (5, _), (6, _)] (by repeat (first | exact trivial | refine ⟨rfl, ?_⟩)) (fun kk lv hh => ∃ (oN : Nat) (fs : List Fun) (kf : Nat) (w' : RsW), lv = [(8, iV oN)] ∧ kk = oN ∧ RsE { st with means := st.means.set i (1, vi), funcs := fs } rs w' ∧ SH hE bs (cR b3 (.cells [.map (some r), iV s.ow] 120 0) :: cR (gR.n + 1) (rc .busy none) :: cR b0 (.cells [w.sc.v] 60 0) :: cR b2 (.cells [iV i] 3 0) :: cR b1 (.cells [Zx rb] 56 0) :: rsL rb (.slice (some ⟨b, o', none⟩) T.length tc) { st with means := st.means.set i (1, vi), funcs := fs } w') hh ∧ Ch st.funcs oN s.ow ∧ oN < st.funcs.length ∧ (∀ j, j ≤ oN → fs[j]? = st.funcs[j]?) ∧ oN < kf ∧ Jk vi s.ow kf fs oN = Jk vi s.ow (st.funcs.length + 1) st.funcs st.owner) (n := on) ?_ fun kk lv hh hI => ?_
      · exact ⟨on, st.funcs, st.funcs.length + 1, _, by rw [hon], rfl, E1, S, hch, by omega, fun _ _ => rfl, by omega, by rw [hon]⟩
      obtain ⟨oN, fs, kf, w', rfl, hkk, E2, S, hcho, hol2, hfj, hkf, hcap⟩ := hI; refine Qj ?_; refine Qd ?_; refine Q4 gn rfl rfl ?_; refine Q0 (off := 1) gn rfl rfl (by kernel_rfl) ?_; refine Q6 gn rfl rfl (by kernel_rfl) (by first | exact S.cel 0 rfl | exact S.cel 1 rfl | exact S.cel 2 rfl | exact S.cel 3 rfl | exact S.cel 3 rfl  | exact S.cel 4 rfl  | exact S.cel 5 rfl  | exact S.cel 6 rfl) rfl ?_; refine Q60 gn rfl rfl rfl ?_; refine Q5 ?_; refine Qa rfl (fun hb => ?_) fun hb => ?_
      · skip
        refine Qe ?_; have hne : (oN : Int) ≠ s.ow := by simpa using hb
        obtain ⟨f, hf⟩ : ∃ f, st.funcs[oN]? = some f := ⟨_, List.getElem?_eq_getElem hol2⟩; have hff : fs[oN]? = some f := (hfj oN (Nat.le_refl _)).trans hf; have hfl : oN < fs.length := (List.getElem?_eq_some_iff.1 hff).1; obtain ⟨cx, hcx⟩ : ∃ x, w'.cv[oN]? = some x := ⟨_, List.getElem?_eq_getElem (by rw [E2.cv]; exact hfl)⟩; have hfun : w'.fu.n = fs.length := E2.fun'; have hfue : w'.fu.c = fuC fs w'.cv := E2.fu; obtain ⟨fb, fc, hfv, hfb, hfcl⟩ := Kl (S.sl 13 rfl) (by omega); have hpc : w'.cp[oN]? = some (slR 3 0 cx.1 (isV f.caps) f.caps.length cx.2) := by rw [E2.cp]; exact Qaj _ _ _ _ _ hff hcx
        have hfc := I.bc f (List.mem_of_getElem? hf); have hfu := (I.up oN f hf).2; have hupo : Jm st.funcs oN = f.up := by unfold Jm; rw [Int.toNat_natCast, hf]
        have hchu : Ch st.funcs f.up s.ow := by
          have c := ch_inv hcho hne; rw [hupo] at c; exact c
        have hfu0 := hchu.nonneg; have hupf : Jm fs oN = f.up := by unfold Jm; rw [Int.toNat_natCast, hff]
        obtain ⟨kf', rfl⟩ : ∃ k', kf = k' + 1 := ⟨kf - 1, by omega⟩
        have hcap2 : Jk vi s.ow kf' (Z5 fs oN vi) f.up = Jk vi s.ow (st.funcs.length + 1) st.funcs st.owner := by
          rw [← hcap]; show _ = if (oN : Int) = s.ow then fs else Jk vi s.ow kf' (Z5 fs oN vi) (Jm fs oN)
          rw [if_neg hne, hupf]
        obtain ⟨f2, hf2, hf2u⟩ : ∃ f2, (Z5 fs oN vi)[oN]? = some f2 ∧ f2.up = f.up := ⟨_, Q5y hff, by split <;> (try split) <;> rfl⟩; have hf2l : oN < (Z5 fs oN vi).length := by rw [Q0V]; exact hfl
        have hag : ∀ j, j ≤ f.up.toNat → (Z5 fs oN vi)[j]? = st.funcs[j]? := fun j hj => (Qau (by omega)).trans (hfj j (by omega)); obtain ⟨rest, mm, hgf⟩ := JE (n := w'.fu.n) (b := fb) (c := fc) (by have := S.sl 13 rfl; rw [hfv] at this; exact this)
        have hrow4 : ((w'.fu.c ++ rest).drop (0 + Int.toNat (oN : Int) * 4)).take 4 = [iV f.tw, iV f.up, .string f.nm, cx.1] := by
          rw [hfue, Int.toNat_natCast, Nat.zero_add]; exact Q0g _ _ _ _ _ _ hff hcx
        refine Qj ?_; refine Qg ?_; refine Qd ?_; refine Q6 gn rfl rfl (by kernel_rfl) (by first | exact S.cel 0 rfl | exact S.cel 1 rfl | exact S.cel 2 rfl | exact S.cel 3 rfl | exact S.cel 3 rfl  | exact S.cel 4 rfl  | exact S.cel 5 rfl  | exact S.cel 6 rfl) rfl ?_; refine Q9 gn rfl rfl ?_; refine Q0 (off := 1) gn rfl rfl (by kernel_rfl) ?_; refine Q0 (off := 7) gn rfl rfl (by kernel_rfl) ?_; refine Q6 gn rfl rfl (by kernel_rfl) (by first | exact S.cel 0 rfl | exact S.cel 1 rfl | exact S.cel 2 rfl | exact S.cel 3 rfl | exact S.cel 3 rfl  | exact S.cel 4 rfl  | exact S.cel 5 rfl  | exact S.cel 6 rfl) rfl ?_; refine Q4 gn rfl rfl ?_; rw [hfv]
        refine Q7 (zz := 4) gn rfl rfl rfl (by kernel_rfl) (by omega) (by omega) ?_; refine Q3 gn rfl rfl ?_; refine Q5 ?_; refine Qj ?_; have hrow := (S.sl _ (Q44 (F := [_, _, _, _, _, _, _, _, _, _, _, _, _, _, _, _, _, _]) (B := w'.sp) hpc)).row; refine Q8 (by kernel_rfl) ?_; refine Q4 gn rfl rfl ?_; refine Q9 gn rfl rfl ?_; refine Q0 (off := 3) gn rfl rfl (by kernel_rfl) ?_; refine Q6 gn rfl rfl (by kernel_rfl) hgf (Y0 (f := 3) hrow4 (by decide) rfl) ?_; refine Q4 gn rfl rfl ?_; refine Qb [_, _] gn rfl rfl (by kernel_rfl) rfl (C.mono (n77 hrow (by omega)) ?_); rintro v g ⟨rfl, x⟩; have S := S.grow x; refine ⟨ag0, ?_⟩; refine ZT gn rfl rfl ?_; refine Q5 ?_
        refine Qa rfl (fun hb => ?_) fun hb => ?_
        · skip
          have hnv : vi ∉ f.caps := by simpa using hb
          have hpos : 0 + Int.toNat (oN : Int) * 4 + 3 < w'.fu.c.length := by rw [hfcl, Int.toNat_natCast]; omega
          obtain ⟨rest2, mm2, hgf2⟩ := JE (n := w'.fu.n) (b := fb) (c := fc) (by have := S.sl 13 rfl; rw [hfv] at this; exact this)
          have hrow42 : ((w'.fu.c ++ rest2).drop (0 + Int.toNat (oN : Int) * 4)).take 4 = [iV f.tw, iV f.up, .string f.nm, cx.1] := by
            rw [hfue, Int.toNat_natCast, Nat.zero_add]; exact Q0g _ _ _ _ _ _ hff hcx
          refine Q8 (by kernel_rfl) ?_; refine Q4 gn rfl rfl ?_; refine Q4 gn rfl rfl ?_; refine Q9 gn rfl rfl ?_; refine Q0 (off := 3) gn rfl rfl (by kernel_rfl) ?_; refine Q6 gn rfl rfl (by kernel_rfl) hgf2 (Y0 (f := 3) hrow42 (by decide) rfl) ?_; refine Q4 gn rfl rfl ?_; refine Qn (cs := #[iV vi]) (e := 3) (z := 0) (zv := .int .i64 0) [(0, _)] S gn rfl (by kernel_rfl) (by kernel_rfl) (by kernel_rfl) (by kernel_rfl) rfl (by kernel_rfl) fun b4 g nb4 S => ?_; refine KC (e := 3) (z := 0) (by' := 7) _ 0 S el29 gn rfl rfl rfl (Q44 (F := [_, _, _, _, _, _, _, _, _, _, _, _, _, _, _, _, _, _, _]) (B := w'.sp) hpc) rfl rfl (by rfl) (by omega) (fun s' bs' g S => ag0) fun s' bs' g S => ?_
          simp only [List.set_cons_succ, List.set_cons_zero] at S; have hcv : cellV s' = true := (S.sl _ (Q4t (Q44 (F := [_, _, _, _, _, _, _, _, _, _, _, _, _, _, _, _, _, _, _]) (B := w'.sp) hpc))).cellV; have S := cap_S (F := [_, _, _, _, _, _, _, _, _, _, _, _, _, _, _, _, _, _, _]) S rfl; simp only [List.cons_append, List.nil_append] at S; refine Q9 gn rfl rfl ?_; refine Q0 (off := 3) gn rfl rfl (by kernel_rfl) ?_; refine Q8W 14 S gn rfl rfl hcv (by kernel_rfl) rfl hfv hpos (fun g S => ag0) fun g S => ?_; simp only [List.set_cons_succ, List.set_cons_zero] at S; refine Q5 ?_
          obtain ⟨w2, E3, S⟩ : ∃ w2, RsE { st with means := st.means.set i (1, vi), funcs := Z5 fs oN vi } rs w2 ∧ SH hE bs (cR b3 (.cells [.map (some r), iV s.ow] 120 0) :: cR (gR.n + 1) (rc .busy none) :: cR b0 (.cells [w.sc.v] 60 0) :: cR b2 (.cells [iV i] 3 0) :: cR b1 (.cells [Zx rb] 56 0) :: rsL rb (.slice (some ⟨b, o', none⟩) T.length tc) { st with means := st.means.set i (1, vi), funcs := Z5 fs oN vi } w2) g := ⟨_, E2.cap hff hcx hnv _ _, S.drop⟩; obtain ⟨cx2, hcx2⟩ : ∃ x, w2.cv[oN]? = some x := ⟨_, List.getElem?_eq_getElem (by rw [E3.cv]; exact hf2l)⟩; have hfun2 : w2.fu.n = (Z5 fs oN vi).length := E3.fun'; have hfue2 : w2.fu.c = fuC (Z5 fs oN vi) w2.cv := E3.fu
          obtain ⟨fb2, fc2, hfv2, _, _⟩ := Kl (S.sl 13 rfl) (by omega); obtain ⟨rest3, mm3, hgf3⟩ := JE (n := w2.fu.n) (b := fb2) (c := fc2) (by have := S.sl 13 rfl; rw [hfv2] at this; exact this)
          have hrow43 : ((w2.fu.c ++ rest3).drop (0 + Int.toNat (oN : Int) * 4)).take 4 = [iV f2.tw, iV f2.up, .string f2.nm, cx2.1] := by
            rw [hfue2, Int.toNat_natCast, Nat.zero_add]; exact Q0g _ _ _ _ _ _ hf2 hcx2
          refine Q8 (by kernel_rfl) ?_; refine Q6 gn rfl rfl (by kernel_rfl) (by first | exact S.cel 0 rfl | exact S.cel 1 rfl | exact S.cel 2 rfl | exact S.cel 3 rfl | exact S.cel 4 rfl | exact S.cel 3 rfl  | exact S.cel 4 rfl  | exact S.cel 5 rfl  | exact S.cel 6 rfl) rfl ?_; refine Q9 gn rfl rfl ?_; refine Q0 (off := 1) gn rfl rfl (by kernel_rfl) ?_; refine Q0 (off := 7) gn rfl rfl (by kernel_rfl) ?_; refine Q6 gn rfl rfl (by kernel_rfl) (by first | exact S.cel 0 rfl | exact S.cel 1 rfl | exact S.cel 2 rfl | exact S.cel 3 rfl | exact S.cel 4 rfl | exact S.cel 3 rfl  | exact S.cel 4 rfl  | exact S.cel 5 rfl  | exact S.cel 6 rfl) rfl ?_; refine Q4 gn rfl rfl ?_; rw [hfv2]
          refine Q7 (zz := 4) gn rfl rfl rfl (by kernel_rfl) (by omega) (by omega) ?_; refine Q0 (off := 1) gn rfl rfl (by kernel_rfl) ?_; refine Q6 gn rfl rfl (by kernel_rfl) hgf3 (Y0 (f := 1) hrow43 (by decide) rfl) ?_; refine Q3 gn rfl rfl ?_; refine Q5 ?_; exact Kc f.up.toNat (by omega) [(8, _)] (by repeat (first | exact trivial | refine ⟨rfl, ?_⟩)) ⟨f.up.toNat, _, kf', w2, by rw [hf2u, Int.toNat_of_nonneg hfu0], rfl, E3, S, by rw [Int.toNat_of_nonneg hfu0]; exact hchu, by omega, hag, by omega, by rw [Int.toNat_of_nonneg hfu0]; exact hcap2⟩
        have hiv : vi ∈ f.caps := by simpa using hb
        refine Qe ?_; obtain ⟨w2, E3, S⟩ : ∃ w2, RsE { st with means := st.means.set i (1, vi), funcs := Z5 fs oN vi } rs w2 ∧ SH hE bs (cR b3 (.cells [.map (some r), iV s.ow] 120 0) :: cR (gR.n + 1) (rc .busy none) :: cR b0 (.cells [w.sc.v] 60 0) :: cR b2 (.cells [iV i] 3 0) :: cR b1 (.cells [Zx rb] 56 0) :: rsL rb (.slice (some ⟨b, o', none⟩) T.length tc) { st with means := st.means.set i (1, vi), funcs := Z5 fs oN vi } w2) g := ⟨w', by rw [Qc8 hff hiv]; exact E2, S⟩; obtain ⟨cx2, hcx2⟩ : ∃ x, w2.cv[oN]? = some x := ⟨_, List.getElem?_eq_getElem (by rw [E3.cv]; exact hf2l)⟩; have hfun2 : w2.fu.n = (Z5 fs oN vi).length := E3.fun'; have hfue2 : w2.fu.c = fuC (Z5 fs oN vi) w2.cv := E3.fu
        obtain ⟨fb2, fc2, hfv2, _, _⟩ := Kl (S.sl 13 rfl) (by omega); obtain ⟨rest3, mm3, hgf3⟩ := JE (n := w2.fu.n) (b := fb2) (c := fc2) (by have := S.sl 13 rfl; rw [hfv2] at this; exact this)
        have hrow43 : ((w2.fu.c ++ rest3).drop (0 + Int.toNat (oN : Int) * 4)).take 4 = [iV f2.tw, iV f2.up, .string f2.nm, cx2.1] := by
          rw [hfue2, Int.toNat_natCast, Nat.zero_add]; exact Q0g _ _ _ _ _ _ hf2 hcx2
        refine Q8 (by kernel_rfl) ?_; refine Q6 gn rfl rfl (by kernel_rfl) (by first | exact S.cel 0 rfl | exact S.cel 1 rfl | exact S.cel 2 rfl | exact S.cel 3 rfl | exact S.cel 3 rfl  | exact S.cel 4 rfl  | exact S.cel 5 rfl  | exact S.cel 6 rfl) rfl ?_; refine Q9 gn rfl rfl ?_; refine Q0 (off := 1) gn rfl rfl (by kernel_rfl) ?_; refine Q0 (off := 7) gn rfl rfl (by kernel_rfl) ?_; refine Q6 gn rfl rfl (by kernel_rfl) (by first | exact S.cel 0 rfl | exact S.cel 1 rfl | exact S.cel 2 rfl | exact S.cel 3 rfl | exact S.cel 3 rfl  | exact S.cel 4 rfl  | exact S.cel 5 rfl  | exact S.cel 6 rfl) rfl ?_; refine Q4 gn rfl rfl ?_; rw [hfv2]
        refine Q7 (zz := 4) gn rfl rfl rfl (by kernel_rfl) (by omega) (by omega) ?_; refine Q0 (off := 1) gn rfl rfl (by kernel_rfl) ?_; refine Q6 gn rfl rfl (by kernel_rfl) hgf3 (Y0 (f := 1) hrow43 (by decide) rfl) ?_; refine Q3 gn rfl rfl ?_; refine Q5 ?_; exact Kc f.up.toNat (by omega) [(8, _)] (by repeat (first | exact trivial | refine ⟨rfl, ?_⟩)) ⟨f.up.toNat, _, kf', w2, by rw [hf2u, Int.toNat_of_nonneg hfu0], rfl, E3, S, by rw [Int.toNat_of_nonneg hfu0]; exact hchu, by omega, hag, by omega, by rw [Int.toNat_of_nonneg hfu0]; exact hcap2⟩
      refine QZ ?_; refine Qt ?_; refine Qu ?_; refine QY ?_; refine Qc ?_
      exact ⟨_, _, (S.cel 1 rfl), .inr ⟨rfl, w', by
        obtain ⟨kf', rfl⟩ : ∃ k', kf = k' + 1 := ⟨kf - 1, by omega⟩; have heq : (oN : Int) = s.ow := by simpa using hb
        have e : fs = Jk vi s.ow (st.funcs.length + 1) st.funcs st.owner := by
          rw [← hcap]; show fs = if (oN : Int) = s.ow then fs else _
          rw [if_pos heq]
        rw [hus, ← e]; refine ⟨E2, ?_⟩; have S := S.put 1 rfl (rc .done (some .ret)); simp only [List.set_cons_succ, List.set_cons_zero] at S
        exact S.drop⟩⟩
  refine C.mono (n105 (n := st.scopes.length) (l := st.scopes) (rs := rs) (v := w.sc.v) (by omega) rfl E.rsn (fun k m1 => Jd t0.s (st.scopes.drop k).reverse = none ∧ SH hE bs (cR (gR.n + 1) (rc .ready none) :: cR b0 (.cells [w.sc.v] 60 0) :: cR b2 (.cells [iV i] 3 0) :: cR b1 (.cells [Zx rb] 56 0) :: rsL rb (.slice (some ⟨b, o', none⟩) T.length tc) st w) m1) (fun m2 => ∃ w', RsE (Q7y (vw T) st i) rs w' ∧ SH hE bs (cR (gR.n + 1) (rc .done (some .ret)) :: cR b0 (.cells [w.sc.v] 60 0) :: cR b2 (.cells [iV i] 3 0) :: cR b1 (.cells [Zx rb] 56 0) :: rsL rb (.slice (some ⟨b, o', none⟩) T.length tc) (Q7y (vw T) st i) w') m2) (fun k m1 ⟨_, S⟩ => ⟨S.cel 1 rfl, by have := YV (S.sl 15 rfl); rw [E.scn] at this; exact this, fun hn => by
    obtain ⟨b9, c9, e9, _, _⟩ := Kl (S.sl 15 rfl) (by rw [E.scn]; exact hn); obtain ⟨rest9, mm9, hg9⟩ := JE (n := w.sc.n) (b := b9) (c := c9) (by have := S.sl 15 rfl; rw [e9] at this; exact this)
    exact ⟨b9, c9, rest9, mm9, by rw [← E.scn]; exact e9, by rw [← E.sc]; exact hg9⟩⟩) ⟨by rw [List.drop_length]; rfl, S1⟩ (fun k hk r s m1 hp => hround k (by rw [E.scn]; exact hk) r s m1 hp)) ?_
  rintro v h' hPR; rcases hPR with ⟨hno, S⟩ | ⟨w', E', S⟩
  case inr =>
    refine ⟨_, _, S.cel 0 rfl, by decide, fun h2 hx2 hn2 => ?_⟩; have S := (Q8L S hx2).drop.drop.drop; refine ⟨.inl rfl, _, rfl, fun h3 hco => ?_⟩; exact QX (A := []) (SH.co S hco (rs_nd S E')) E'
  refine ⟨_, _, S.cel 0 rfl, by decide, fun h2 hx2 hn2 => ?_⟩; have S := Q8L S hx2; refine Qep (.inl rfl) ?_; refine Q8 (by kernel_rfl) ?_; refine Q6 gn rfl rfl (by kernel_rfl) (by first | exact S.cel 0 rfl | exact S.cel 1 rfl | exact S.cel 2 rfl | exact S.cel 3 rfl | exact S.cel 3 rfl  | exact S.cel 4 rfl  | exact S.cel 5 rfl  | exact S.cel 6 rfl) rfl ?_; refine Q6 gn rfl rfl (by kernel_rfl) (by first | exact S.cel 0 rfl | exact S.cel 1 rfl | exact S.cel 2 rfl | exact S.cel 3 rfl | exact S.cel 3 rfl  | exact S.cel 4 rfl  | exact S.cel 5 rfl  | exact S.cel 6 rfl) rfl ?_
  refine Qn (cs := #[iV 2, iV 3]) (e := 36) (z := 0) (zv := .int .i64 0) [(0, _), (1, _)] S gn rfl (by kernel_rfl) (by kernel_rfl) (by kernel_rfl) (by kernel_rfl) rfl (by kernel_rfl) fun b5 g nb5 S => ?_; have S := Qp (A := [_, _, _, _]) S E; refine Qb [_, _, _] gn rfl rfl (by kernel_rfl) rfl (C.mono (n78 (S0.sub1 S0.own0 S 4 rfl) R hi (by omega) hlm (Q0M (ks := [2, 3]) S 0 4 rfl rfl (by decide)) (by decide)) ?_); rintro v g ⟨bs', S2⟩; have S := S.ret 4 rfl S2; simp only [List.cons_append, List.nil_append, List.set_cons_succ, List.set_cons_zero] at S; obtain ⟨w, E, ho, S⟩ := Qo (A := [_, _, _, _]) S; simp only [List.cons_append, List.nil_append] at S; refine ⟨ag0, ?_⟩; refine Q5 ?_
  refine ⟨.inr rfl, _, rfl, fun h2 hco => ?_⟩; rw [hnone (by simpa using hno)]; have S := S.drop.drop.drop.drop; exact QX (A := []) (SH.co S hco (rs_nd S E)) E
end
end Go.Proofs.YtkidomfnmpnmaaaGreatDoor
namespace Go.Proofs.YtkidomfnmpnmaaaGreatDoor
open Go.X Go.Nam
section
variable {h0 hE : Hp} {bs rs : List Nat} {rb : Nat} {sv : Value} {st : Nst} {T : List Tw} {i : Nat} {rec : Nst → Int → Nst} {k n w0 : Nat} {bl : List (Nat × Nat)}
set_option maxHeartbeats 1000000 in
theorem rule_c (S0 : SH h0 [] [rsR rb sv st rs bs] hE) (R : Tre h0 sv T) (hC : Q8m h0 rb sv T rec k) (hr : Kx (vw T) rec k) (B : Pow h0) (hN : ∀ i : Nat, (vw T).K i = 9 → 0 ≤ (vw T).N i ∧ (vw T).N i ≤ 3) (hs : sub (vw T) (k + 1) i n) (A : At (vw T) st i n bl w0) (hb : w0 + (4 * (n - i) - 1) ≤ 100000) :
    (∀ f, Q0x ((vw T).K i) = some f → C nmE f [Zx rb, iV i] hE fun _ g' => ∃ bs', SH hE bs [rsR rb sv (Q2u (vw T) rec st i) rs bs'] g') ∧
    (Q0x ((vw T).K i) = none → C nmE 51 [Zx rb, iV i, iV 0] hE fun _ g' => ∃ bs', SH hE bs [rsR rb sv (Q2u (vw T) rec st i) rs bs'] g') := by
  have P := R.P; obtain ⟨ha, hk⟩ := hs; have hS : Sb (vw T) i n := ⟨k + 1, ha, hk⟩; have F := P.fm i ha; have I := A.I; have hlt := hS.lt; have hP := P.n; have hi : i < T.length := ha; have hi1 : i + 1 ≤ (vw T).n := ha; have hbf := I.bf; have hbw := I.bw; have hbs := I.bs; have hm1 := I.m1; have hm2 := I.m2; have hi2 := I.i1; have hi3 := I.i2; have hbb : w0 + 3 + 4 * (n - (i + 1)) ≤ 100000 := by omega
  unfold Q0x; have eS : Q2u (vw T) rec st i = Q2u (vw T) rec st i := rfl; unfold Q2u at eS ⊢; dsimp only
  have fin : ∀ {f0 : Nat} {s' : Nst}, C nmE f0 [Zx rb, iV i] hE (fun _ g' => ∃ bs', SH hE bs [rsR rb sv s' rs bs'] g') →
      (∀ f, some f0 = some f → C nmE f [Zx rb, iV i] hE fun _ g' => ∃ bs', SH hE bs [rsR rb sv s' rs bs'] g') ∧
      (some f0 = none → C nmE 51 [Zx rb, iV i, iV 0] hE fun _ g' => ∃ bs', SH hE bs [rsR rb sv s' rs bs'] g') := fun h => ⟨fun f e => by cases e; exact h, fun e => by cases e⟩
  by_cases e : (vw T).K i = 11
  · rw [if_pos e, if_pos e]; have hf : ∀ j, j ∈ ((vw T).ks i).drop 0 → ¬ Ap.isS ((vw T).K j) := fun j hj => by have := Zm (P := fun K => K = 12) (Q2Z F (by omega)) j hj; omega
    have hnm : mainT.size ≤ 1000 * (st.funcs.length + 1) := by have : mainT.size = 4 := rfl; omega
    by_cases hm : 1 < st.mains + 1
    · have e0 : Q19 (vw T) st i = tell (vw T) { st with mains := st.mains + 1 } i 7 := if_pos hm; have r := Q0N (fr := 0) (nm := mainT) (I.tell i 7) (p := i + 1) hk (Nat.le_refl _) A.en hnm hf { tell (vw T) { st with mains := st.mains + 1 } i 7 with main := (tell (vw T) { st with mains := st.mains + 1 } i 7).funcs.length } rfl ⟨I.i1, by show st.inner ≤ st.inner + 1; omega⟩ ⟨by show 0 ≤ st.mains + 1; omega, by show st.mains + 1 ≤ st.mains + 1; omega⟩ (by omega); exact fin (n36 S0 R hi hC hr (by rw [e0]; exact r) hi1 (by omega) (by omega) hm1 (by omega))
    have e0 : Q19 (vw T) st i = { st with mains := st.mains + 1 } := if_neg hm; have r := Q0N (fr := 0) (nm := mainT) I (p := i + 1) hk (Nat.le_refl _) A.en hnm hf { st with mains := st.mains + 1, main := st.funcs.length } rfl ⟨I.i1, by show st.inner ≤ st.inner + 1; omega⟩ ⟨by show 0 ≤ st.mains + 1; omega, by show st.mains + 1 ≤ st.mains + 1; omega⟩ (by omega); exact fin (n36 S0 R hi hC hr (by rw [e0]; exact r) hi1 (by omega) (by omega) hm1 (by omega))
  rw [if_neg e, if_neg e]; have e11 := e; by_cases e : (vw T).K i = 9
  · rw [if_pos e, if_pos e]; exact fin (n37 S0 R hi hC hr (Q0N (fr := 0) I (p := i + 1) hk (Nat.le_refl _) A.en (by have := Q4T P ((vw T).N i) i st.cp; omega) (fun j hj => by have := Zm (P := fun K => K = 12) (Q2Z F (by omega)) j hj; omega) st rfl ⟨I.i1, by omega⟩ ⟨I.m1, by omega⟩ (by omega)) hi1 (by omega) I.cp (hN i e))
  rw [if_neg e, if_neg e]; have e9 := e; by_cases e : (vw T).K i = 36
  · rw [if_pos e, if_pos e]; exact fin (n38 S0 R hi hC hr B (Q0N (fr := 0) I (p := i + 1) hk (Nat.le_refl _) A.en (Q1c I (A.cx.t (by omega)) (by omega)) (Zm (P := fun K => ¬ Ap.isS K) (Q5e F (by omega))) { st with inner := st.inner + 1 } rfl ⟨by show 0 ≤ st.inner + 1; omega, by show st.inner + 1 ≤ _; omega⟩ ⟨I.m1, by show st.mains ≤ _; omega⟩ (by omega)) hi1 (by omega) I.up (A.cx.t (by omega)) I.o2 hi2 (by omega) I.nm)
  rw [if_neg e, if_neg e]; by_cases e : (vw T).K i = 12
  · rw [if_pos e, if_pos e]; obtain ⟨o, sow, F2⟩ := Qc4 I hS e hk A.en (A.cx.b e) (by omega); exact fin (n39 S0 R hi hC hr F2 hi1 (by omega))
  rw [if_neg e, if_neg e]; have e12 := e; by_cases e : (vw T).K i = 13
  · rw [if_pos e, if_pos e]; obtain ⟨h0', hsow, x, hx, hxa⟩ := A.cx.s (by rw [e]; decide); obtain ⟨o, sow, F2⟩ := Qbs P I ha e hk A.en h0' (by omega)
    obtain ⟨s, hsl⟩ : ∃ s, st.scopes.getLast? = some s := by
      rw [List.getLast?_map] at hsow; cases hgl : st.scopes.getLast? with
      | none => rw [hgl] at hsow; cases hsow
      | some s => exact ⟨s, rfl⟩
    exact fin (n40 S0 R hi (by omega) hsl hC hr F2 hi1 (by omega))
  rw [if_neg e, if_neg e]; by_cases e : (vw T).K i = 29
  · rw [if_pos e, if_pos e]; exact fin (n41 S0 R hi I (by omega))
  rw [if_neg e, if_neg e]; by_cases e : (vw T).K i = 5
  · rw [if_pos e, if_pos e]; exact fin (n42 S0 R hi (by omega) I.lm)
  rw [if_neg e, if_neg e]; by_cases e : (vw T).K i = 19
  · rw [if_pos e, if_pos e]; obtain ⟨o, sow, F2⟩ := post_at P A ha e hk (by omega); exact fin (n43 S0 R hi (by omega) I.lm hC hr F2 hi1)
  rw [if_neg e, if_neg e]; by_cases e : (vw T).K i = 21 ∨ (vw T).K i = 22
  · rw [if_pos e, if_pos e]; exact fin (n44 S0 R hi (by omega) I.lm)
  rw [if_neg e, if_neg e]; by_cases e : (vw T).K i = 33
  · rw [if_pos e, if_pos e]; exact fin (n45 S0 R hi (by omega) I.lm)
  rw [if_neg e, if_neg e]; by_cases e : ZI ((vw T).K i) = true
  · rw [if_pos e, if_pos e]; exact fin (n47 S0 R hi hC hr B I hk A.en e (by omega))
  rw [if_neg e, if_neg e]; refine ⟨fun f h => (by cases h), fun _ => ?_⟩; obtain ⟨o, sow, F2⟩ := Qd8 P A ha ⟨e11, e9, e12, by simpa using e⟩ hk (by omega); exact n51 (fr := 0) S0 R hi hC hr F2 (Nat.zero_le _) hi1
theorem key58 : KeyT nmE 58 39 81 iV := KeyT.int (by kernel_rfl) (by kernel_rfl)
theorem ok_36 : ZK nmE 36 = true := by kernel_rfl
theorem ok_37 : ZK nmE 37 = true := by kernel_rfl
theorem ok_38 : ZK nmE 38 = true := by kernel_rfl
theorem ok_39 : ZK nmE 39 = true := by kernel_rfl
theorem ok_40 : ZK nmE 40 = true := by kernel_rfl
theorem ok_41 : ZK nmE 41 = true := by kernel_rfl
theorem ok_42 : ZK nmE 42 = true := by kernel_rfl
theorem ok_43 : ZK nmE 43 = true := by kernel_rfl
theorem ok_44 : ZK nmE 44 = true := by kernel_rfl
theorem ok_45 : ZK nmE 45 = true := by kernel_rfl
theorem ok_47 : ZK nmE 47 = true := by kernel_rfl
theorem Qd1 {K : Int} {f : Nat} (h : Q0x K = some f) : ZK nmE f = true := by
  have hf : f = 36 ∨ f = 37 ∨ f = 38 ∨ f = 39 ∨ f = 40 ∨ f = 41 ∨ f = 42 ∨ f = 43 ∨ f = 44 ∨ f = 45 ∨ f = 47 := by
    unfold Q0x at h
    repeat' split at h
    all_goals (try cases h)
    all_goals decide
  rcases hf with rfl | rfl | rfl | rfl | rfl | rfl | rfl | rfl | rfl | rfl | rfl
  · exact ok_36
  · exact ok_37
  · exact ok_38
  · exact ok_39
  · exact ok_40
  · exact ok_41
  · exact ok_42
  · exact ok_43
  · exact ok_44
  · exact ok_45
  exact ok_47
set_option maxHeartbeats 1000000 in
theorem n22a {s' : Nst} (S0 : SH h0 [] [rsR rb sv st rs bs] hE) (R : Tre h0 sv T) (hi : i < T.length) (hlw : st.owners.length = T.length)
    (hrule : ∀ (g : Hp) (bs' : List Nat), SH h0 [] [rsR rb sv { st with owners := st.owners.set i st.owner } rs bs'] g → (∀ f, Q0x ((vw T).K i) = some f → C nmE f [Zx rb, iV i] g fun _ g' => ∃ b2, SH g bs' [rsR rb sv s' rs b2] g') ∧
      (Q0x ((vw T).K i) = none → C nmE 51 [Zx rb, iV i, iV 0] g fun _ g' => ∃ b2, SH g bs' [rsR rb sv s' rs b2] g')) :
    C nmE 22 [Zx rb, iV i] hE fun _ g' => ∃ bs', SH hE bs [rsR rb sv s' rs bs'] g' := by
  have X := R.X; obtain ⟨ta, tc, rfl⟩ := X.val; obtain ⟨t0, b, o', cs, ee, m, hw0, Q⟩ := JK X hi; obtain rfl := Q.ta; rw [Q.K] at hrule; refine Qf (fu := Tryz.f22) (by kernel_rfl) rfl ?_; have S := S0.enter; obtain ⟨w, E, ho, S⟩ := Qo (A := []) S; simp only [List.nil_append] at S; refine Qj ?_; refine Z3 [(0, []), (1, []), (2, []), (3, []), (4, []), (5, []), (6, []), (7, []), (8, []), (9, []), (10, []), (11, [])] (by kernel_rfl) (by kernel_rfl) (by kernel_rfl) (by kernel_rfl) ?_; refine Q4 gn rfl rfl ?_; refine Q9 gn rfl rfl ?_; refine Q0 (off := 1) gn rfl rfl (by kernel_rfl) ?_; refine Q0 (off := 1) gn rfl rfl (by kernel_rfl) ?_; refine Q6 gn rfl rfl (by kernel_rfl) (S.cel 0 rfl) rfl ?_
  refine Q4 gn rfl rfl ?_; refine Q4 gn rfl rfl ?_; refine Q9 gn rfl rfl ?_; refine Q0 (off := 13) gn rfl rfl (by kernel_rfl) ?_; refine Q6 gn rfl rfl (by kernel_rfl) (S.cel 0 rfl) rfl ?_; obtain ⟨ob, oc, hov, hob, hol⟩ := Kl (S.sl 2 rfl) (by rw [E.own]; omega); rw [hov]; refine Q7 (zz := 1) gn rfl rfl rfl (by kernel_rfl) (by omega) (by have := E.own; omega) ?_; refine Q8W 2 S gn rfl rfl rfl (by kernel_rfl) rfl hov (by rw [hol, Int.toNat_natCast]; have := E.own; omega) (fun g S => ag0) fun g S => ?_; simp only [List.set_cons_succ, List.set_cons_zero] at S; refine Q5 ?_; refine Qj ?_; refine Qj ?_; have E := E.owner i st.owner
  refine Z3 [(0, []), (1, []), (2, []), (3, []), (4, []), (5, []), (6, []), (7, []), (8, []), (9, []), (10, []), (11, []), (12, []), (13, []), (14, []), (15, []), (16, []), (17, []), (18, [])] (by kernel_rfl) (by kernel_rfl) (by kernel_rfl) (by kernel_rfl) ?_; refine Q4 gn rfl rfl ?_; refine Q9 gn rfl rfl ?_; refine Q0 (off := 16) gn rfl rfl (by kernel_rfl) ?_; refine Q6 gn rfl rfl (by kernel_rfl) (S.cel 0 rfl) rfl ?_; refine Q4 gn rfl rfl ?_; refine Q9 gn rfl rfl ?_; refine Q0 (off := 0) gn rfl rfl (by kernel_rfl) ?_; refine Q0 (off := 0) gn rfl rfl (by kernel_rfl) ?_; refine Q6 gn rfl rfl (by kernel_rfl) (S.cel 0 rfl) rfl ?_; refine Q4 gn rfl rfl ?_
  refine Q7 (zz := 6) gn rfl rfl rfl (by kernel_rfl) (by omega) (by omega) ?_; refine Q0 (off := 0) gn rfl rfl (by kernel_rfl) ?_; refine Q6 gn rfl rfl (by kernel_rfl) (S0.two S0.own0 S Q.g Q.lt) (Q.at 0 (by decide) rfl) ?_; obtain ⟨M, cl, hM, hF⟩ := Q2L S 12 rfl; refine YI (zv := .nilFunc) key58 gn rfl rfl rfl hM (by kernel_rfl) ?_; rw [hF, Q1t]; obtain ⟨fo, hfo⟩ : ∃ fo, Q0x t0.K = fo := ⟨_, rfl⟩; rw [hfo] at hrule ⊢; refine Q4 gn rfl rfl ?_; refine Zu gn rfl rfl rfl ?_; refine Zu gn rfl rfl rfl ?_; refine Q3 gn rfl rfl ?_; refine Q3 gn rfl rfl ?_; refine Zw ?_; refine Q4 gn rfl rfl ?_; refine Q5 ?_; refine Qa rfl (fun hb => ?_) fun hb => ?_
  · skip
    obtain ⟨f, rfl⟩ : ∃ f, fo = some f := by
      cases fo with
      | none => cases hb
      | some f => exact ⟨f, rfl⟩
    refine Qd ?_; refine Q4 gn rfl rfl ?_; refine Q4 gn rfl rfl ?_; refine Q4 gn rfl rfl ?_; have S := Qp (A := []) S E; refine Qb [_, _] gn rfl rfl (Qd1 hfo) rfl (C.mono ((hrule _ _ (S0.sub1 S0.own0 S 0 rfl)).1 f rfl) ?_); rintro v g ⟨bs', S2⟩; have S := S.ret 0 rfl S2; refine ⟨ag0, ?_⟩; refine Q5 ?_; refine Qc ?_; refine ⟨.inl rfl, _, rfl, ?_⟩; exact ⟨_, S⟩
  refine Qe ?_
  obtain rfl : fo = none := by
    cases fo with
    | none => rfl
    | some f => exact absurd hb (by simp)
  refine Q8 (by kernel_rfl) ?_; refine Q4 gn rfl rfl ?_; refine Q4 gn rfl rfl ?_; have S := Qp (A := []) S E; refine Qb [_, _, _] gn rfl rfl (by kernel_rfl) rfl (C.mono ((hrule _ _ (S0.sub1 S0.own0 S 0 rfl)).2 rfl) ?_); rintro v g ⟨bs', S2⟩; have S := S.ret 0 rfl S2; simp only [List.cons_append, List.nil_append, List.set_cons_succ, List.set_cons_zero] at S; obtain ⟨w, E, ho, S⟩ := Qo (A := []) S; simp only [List.cons_append, List.nil_append] at S; refine ⟨ag0, ?_⟩; refine Q5 ?_; refine ⟨.inr rfl, _, rfl, ?_⟩; exact QX (A := []) S E
theorem n22 (R : Tre h0 sv T) (B : Pow h0) (hN : ∀ i : Nat, (vw T).K i = 9 → 0 ≤ (vw T).N i ∧ (vw T).N i ≤ 3) : ∀ (k f : Nat), k ≤ f → Q8m h0 rb sv T (visit (vw T) f) k
  | 0, _, _ => fun _ _ _ _ _ _ _ _ h => h.elim
  | k + 1, f, hf => fun i n st bl w0 rs bs hE hs A hb S0 => by
    obtain ⟨f, rfl⟩ : ∃ m, f = m + 1 := ⟨f - 1, by omega⟩; have hC := n22 R B hN k f (by omega); have hr := Q3c R.P k f (by omega); have hv : visit (vw T) (f + 1) st i = Q2u (vw T) (visit (vw T) f) { st with owners := st.owners.set i st.owner } i := rfl; rw [hv]; have A2 : At (vw T) { st with owners := st.owners.set i st.owner } i n bl w0 := ⟨A.I.owner (Nat.le_refl _) st.owner, A.en, A.cx⟩; exact n22a S0 R hs.1 A.I.lw fun g bs' S => rule_c S R hC hr B hN hs A2 hb
end
end Go.Proofs.YtkidomfnmpnmaaaGreatDoor
namespace Go.Proofs.YtkidomfnmpnmaaaGreatDoor
open Go.X Go.Nam
set_option maxHeartbeats 1000000 in
theorem n48 {h0 hE : Hp} {ds : List Nat} {L : List Res} {tw : Res} {eb ib rb o : Nat} {x y v kind : Int} {Cs : List Value} {l : List Int} {a : Option Addr} {c : Nat} {bs : List Nat}
    (S : SH h0 ds (cR eb (.cells [iV x, iV y] 38 0) :: tw :: cR ib (.cells [iV v] 3 0) :: cR rb (.cells Cs 62 0) :: L) hE) (hoff : Cs[o + 1]? = some (.slice a l.length c)) (hrow : L[o]? = some (slR 3 0 (.slice a l.length c) (isV l) l.length bs)) (hl : l.length ≤ 1000000) :
    Go.X.C nmE 48 [iV kind, .pointer (some ⟨rb, o + 1, none⟩), Zx eb, Zx ib] hE fun _ h' => ∃ s' bs', SH h0 ds (cR eb (.cells [iV kind, iV l.length] 38 0) :: tw :: cR ib (.cells [iV v] 3 0) :: cR rb (.cells (Cs.set (o + 1) s') 62 0) :: L.set o (slR 3 0 s' (isV l ++ [iV v]) (l.length + 1) bs')) h' := by
  have hC : o + 1 < Cs.length := (List.getElem?_eq_some_iff.1 hoff).1; refine Qf (fu := Tryz.f48) (by kernel_rfl) rfl ?_; have S := S; refine Qj ?_; refine Z3 [(0, []), (1, []), (2, []), (3, []), (4, []), (5, [3, 4]), (6, []), (7, [3, 4]), (8, []), (9, [])] (by kernel_rfl) (by kernel_rfl) (by kernel_rfl) (by kernel_rfl) ?_; refine Q4 gn rfl rfl ?_; refine Q4 gn rfl rfl ?_; refine Q9 gn rfl rfl ?_; refine Q6 gn rfl rfl (by kernel_rfl) (S.cel 3 rfl) hoff ?_; refine QI gn rfl rfl (by kernel_rfl) ?_
  refine QV (n := 2) 0 S gn rfl rfl (by kernel_rfl) (by kernel_rfl) rfl rfl (by decide) rfl (fun g S => (ag1 (Zr gn rfl (by kernel_rfl) (S.cel 3 rfl) hoff rfl ZO) (ag1 (Q38 gn rfl (by kernel_rfl) rfl) ag0))) fun g S => ?_; simp only [List.set_cons_zero] at S; refine Q0 (off := 0) gn rfl rfl (by kernel_rfl) ?_; refine Zy 0 S gn rfl rfl rfl (by kernel_rfl) rfl (by decide) (by first | decide | (simp; done)) (fun g S => (ag1 (Zr gn rfl (by kernel_rfl) (S.cel 3 rfl) hoff rfl ZO) (ag1 (Q38 gn rfl (by kernel_rfl) rfl) ag0))) fun g S => ?_; simp only [List.set_cons_zero] at S; refine Q0 (off := 1) gn rfl rfl (by kernel_rfl) ?_
  refine Zy 0 S gn rfl rfl rfl (by kernel_rfl) rfl (by decide) (by first | decide | (simp; done)) (fun g S => ag0) fun g S => ?_; simp only [List.set_cons_zero] at S; refine Q5 ?_; refine Z3 [(0, []), (1, []), (2, []), (3, []), (4, []), (5, []), (6, []), (7, []), (8, [])] (by kernel_rfl) (by kernel_rfl) (by kernel_rfl) (by kernel_rfl) ?_; refine Q4 gn rfl rfl ?_; refine Q4 gn rfl rfl ?_; refine Q9 gn rfl rfl ?_; refine Q6 gn rfl rfl (by kernel_rfl) (S.cel 3 rfl) hoff ?_; refine Q6 gn rfl rfl (by kernel_rfl) (S.cel 2 rfl) rfl ?_
  refine Qn (cs := #[iV v]) (e := 3) (z := 0) (zv := .int .i64 0) [(0, _)] S gn rfl (by kernel_rfl) (by kernel_rfl) (by kernel_rfl) (by kernel_rfl) rfl (by kernel_rfl) fun b1 g nb1 S => ?_; refine KC (e := 3) (z := 0) (by' := 7) (o + 5) 0 S el29 gn rfl rfl rfl (by exact hrow) rfl rfl (by rfl) (by omega) (fun s' bs' g S => ag0) fun s' bs' g S => ?_; simp only [List.set_cons_succ] at S; have hcv : cellV s' = true := (S.sl (o + 5) (Q4t (L := L) hrow)).cellV; refine Q9 gn rfl rfl ?_; refine Zy 4 S gn rfl rfl hcv (by kernel_rfl) rfl (by omega) hC (fun g S => ag0) fun g S => ?_; simp only [List.set_cons_succ, List.set_cons_zero] at S; refine Q5 ?_; refine ⟨.inr rfl, _, rfl, ?_⟩; exact ⟨_, _, S.drop⟩
end Go.Proofs.YtkidomfnmpnmaaaGreatDoor
namespace Go.Proofs.YtkidomfnmpnmaaaGreatDoor
open Go.X Go.Nam
theorem n48w {h0 hE : Hp} {ds : List Nat} {L : List Res} {tw : Res} {eb ib rb o : Nat} {x y v kind : Int} {Cs cs : List Value} {l : List Int} {s : Value} {n : Nat} {bs : List Nat}
    (S : SH h0 ds (cR eb (.cells [iV x, iV y] 38 0) :: tw :: cR ib (.cells [iV v] 3 0) :: cR rb (.cells Cs 62 0) :: L) hE) (hoff : Cs[o + 1]? = some s) (hrow : L[o]? = some (slR 3 0 s cs n bs)) (hc : cs = isV l) (hn : n = l.length) (hl : l.length ≤ 1000000) :
    C nmE 48 [iV kind, .pointer (some ⟨rb, o + 1, none⟩), Zx eb, Zx ib] hE fun _ h' => ∃ s' bs', SH h0 ds (cR eb (.cells [iV kind, iV l.length] 38 0) :: tw :: cR ib (.cells [iV v] 3 0) :: cR rb (.cells (Cs.set (o + 1) s') 62 0) :: L.set o (slR 3 0 s' (isV l ++ [iV v]) (l.length + 1) bs')) h' := by
  subst hc; subst hn; obtain ⟨a, c, rfl⟩ := YV (S.sl (o + 4) hrow); exact n48 S hoff hrow hl
theorem Q62 {E : Env} {fn : FuncId} {nt : Nat} {l : Kn} {h : Hp} {dr : Bool} {ops : Array Oper} {fin rest : List (Oper × List Oper)} {R : Kn → Hp → Prop} {lt : List Oper} {d : Nat} {ty : TypeId} {pos : String} {af : Array Edge} {gg : Option (Nat × Bool)} {x y : Operand} {v u : Value} {f : FuncId}
    (g : Gd ops l gg) (hd : Nat.blt d nt = true) (hx : evl l x = some v) (hy : evl l y = some u) (q : WL E fn nt dr ops fin rest ((d, .func (.func f) #[] #[v, u]) :: l) h R) :
    WL E fn nt dr ops fin ((⟨some d, .makeFunc (.func f) #[] #[x, y], ty, pos, af, gg⟩, lt) :: rest) l h R :=
  QR g rfl (fun _ ag => by simp [QL, ag.ev hx, ag.ev hy]) (wn hd) q
theorem Qb9 {M : MsK Txt} {cl : Nat} {F : Txt → Option (Int × Int)} (hF : ∀ k, Q0e M k = (F k).map Q67) (t : Txt) (m : Int × Int) : ∀ k, Q0e (Q8i M t (Q67 m) cl).1 k = (Nam.put F t m k).map Q67 := fun k => by
  rw [Q3P]; unfold Nam.put
  split
  · rfl
  exact hF k
section
variable {h0 hE : Hp} {bs : List Nat} {rb : Nat} {sv : Value} {T : List Tw}
set_option maxHeartbeats 4000000 in
theorem n18 (S0 : SH h0 [] [rsR rb sv (QA (vw T) 0).1 [] bs] hE) (R : Tre h0 sv T) : C nmE 18 [Zx rb] hE fun _ g' => ∃ bs', SH hE bs [rsR rb sv (QA (vw T) T.length).1 [] bs'] g' := by
  have X := R.X; obtain ⟨ta, tc, rfl⟩ := X.val; have hPn := R.P.n; have hTn : (vw T).n = T.length := rfl; refine Qf (fu := Tryz.f18) (by kernel_rfl) rfl ?_; have S := S0.enter; obtain ⟨w, E, ho, S⟩ := Qo (A := []) S; simp only [List.nil_append] at S; refine Qd ?_; refine Q3 gn rfl rfl ?_; refine Zw ?_; refine Q4 gn rfl rfl ?_; refine Q9 gn rfl rfl ?_; refine Q0 (off := 0) gn rfl rfl (by kernel_rfl) ?_; refine Q0 (off := 0) gn rfl rfl (by kernel_rfl) ?_; refine Q6 gn rfl rfl (by kernel_rfl) (S.cel 0 rfl) rfl ?_; refine QI gn rfl rfl (by kernel_rfl) ?_; refine Q4 gn rfl rfl ?_; refine Q5 ?_; refine Qg ?_
  refine QH [(2, _), (15, _)] [(0, _), (13, _), (14, _)] (by repeat (first | exact trivial | refine ⟨rfl, ?_⟩)) (fun kk lv hh => ∃ (j : Nat) (bs1 : List Nat), lv = [(2, iV (QA (vw T) j).2), (15, iV j)] ∧ kk = T.length - j ∧ j ≤ T.length ∧ SH hE bs [rsR rb (.slice ta T.length tc) (QA (vw T) j).1 [] bs1] hh) (n := T.length) ?_ fun kk lv hh hI => ?_
  · exact ⟨0, _, rfl, rfl, Nat.zero_le _, Qp (A := []) S E⟩
  obtain ⟨j, bs1, rfl, hkk, hj, S⟩ := hI; refine Qd ?_; refine Z9 gn rfl rfl rfl ?_; refine Q5 ?_; refine Qj ?_; refine Qa rfl (fun hb => ?_) fun hb => ?_
  · skip
    refine Qe ?_; have hj : j < T.length := by simp at hb; omega
    obtain ⟨t0, b, o', cs, ee, m, hw0, Q⟩ := JK X hj; obtain rfl := Q.ta; obtain ⟨ka, kc, hks⟩ := Q.row.valM; have D := Q2l (T := vw T) j; have hst : QA (vw T) (j + 1) = Q2m (vw T) (QA (vw T) j).1 (QA (vw T) j).2 j := rfl; rw [Q34, Q.K, Q.s] at hst; generalize (QA (vw T) j).1 = st at S D hst ⊢; generalize (QA (vw T) j).2 = fs at S D hst ⊢; have hf0 := D.f0; have hf1 := D.f1; obtain ⟨K0, s0, N0, L0, C0, k0, kids0⟩ := t0; simp only at hks; subst hks; have hall : (cs.drop (o' + Int.toNat (j : Int) * 6)).take 6 = twC K0 s0 N0 L0 C0 (.slice ka kids0.length kc) := Q.all; obtain ⟨w, E, ho, S⟩ := Qo (A := []) S; simp only [List.nil_append] at S; refine Qj ?_; refine Qg ?_; refine Qd ?_
    refine Q4 gn rfl rfl ?_; refine Q7 (zz := 6) gn rfl rfl rfl (by kernel_rfl) (by omega) (by omega) ?_; refine Qs (n := 6) gn rfl rfl (by kernel_rfl) (by kernel_rfl) (S0.two S0.own0 S Q.g Q.lt) Q.len ?_; rw [hall]; refine Zz (zv := .int .i64 0) S gn rfl (by kernel_rfl) fun b1 g nb1 S => ?_; refine Zz (zv := .agg #[.int .i64 0, .string .empty, .int .i64 0, .int .i64 0, .int .i64 0, .slice none 0 0]) S gn rfl (by kernel_rfl) fun b2 g nb2 S => ?_; refine Zy 1 S gn rfl rfl (by first | rfl | exact hcv) (by kernel_rfl) rfl (by decide) (by first | decide | (simp; done)) (fun g S => ag0) fun g S => ?_; simp only [List.set_cons_succ, List.set_cons_zero] at S
    refine QV (n := 6) 0 S gn rfl rfl (by kernel_rfl) (by kernel_rfl) rfl rfl (by decide) rfl (fun g S => ag0) fun g S => ?_; simp only [List.set_cons_succ, List.set_cons_zero] at S; refine Zw ?_; refine Yq (zv := .agg #[.int .i64 0, .int .i64 0]) (pl := [(0, 1), (1, 1)]) [(1, _)] gn rfl (by kernel_rfl) (by kernel_rfl) rfl (by rfl) ?_; refine Zz (zv := .agg #[.int .i64 0, .int .i64 0]) S gn rfl (by kernel_rfl) fun b3 g nb3 S => ?_; refine QV (n := 2) 0 S gn rfl rfl (by kernel_rfl) (by kernel_rfl) rfl rfl (by decide) rfl (fun g S => ag0) fun g S => ?_; simp only [List.set_cons_succ, List.set_cons_zero] at S; refine Zw ?_; refine Q62 gn rfl rfl rfl ?_; refine Q3 gn rfl rfl ?_; refine Q5 ?_
    refine KW [(0, Zx rb), (2, iV fs), (4, Zx b2), (5, Zx b3), (13, (.slice (some ⟨b, o', none⟩) T.length tc)), (14, iV T.length), (15, iV j)] (fun lv hh => ∃ (st1 : Nst) (mm : Int × Int) (bs2 : List Nat), lv = [] ∧ SH hE bs [cR b3 (.cells [iV mm.1, iV mm.2] 38 0), cR b2 (.cells (twC K0 s0 N0 L0 C0 (.slice ka kids0.length kc)) 41 0), cR b1 (.cells [iV j] 3 0), rsR rb (.slice (some ⟨b, o', none⟩) T.length tc) st1 [] bs2] hh ∧ Q4I (vw T) st fs j = (st1, mm.1, mm.2)) ?_ fun lv hh hJ => ?_
    · skip
      refine Qd ?_; refine Q0 (off := 0) gn rfl rfl (by kernel_rfl) ?_; refine Q6 gn rfl rfl (by kernel_rfl) (S.cel 1 rfl) rfl ?_; refine Q5 ?_; refine Qg ?_; refine Qd ?_; refine Qq gn rfl rfl rfl ?_; refine Q3 gn rfl rfl ?_; refine Q5 ?_; refine Qa rfl (fun hb => ?_) fun hb => ?_
      · skip
        refine Q8 (by kernel_rfl) ?_; refine Q4 gn rfl rfl ?_; refine Q4 gn rfl rfl ?_; refine Q9 gn rfl rfl ?_; refine Q0 (off := 1) gn rfl rfl (by kernel_rfl) ?_; refine Q0 (off := 2) gn rfl rfl (by kernel_rfl) ?_; have hK : K0 = 2 := by simpa using hb
        refine Qb [_, _] gn rfl rfl (by kernel_rfl) rfl (C.mono (n48w (kind := 4) (o := 2) S rfl rfl E.lo E.lon (by have := D.l1; omega)) ?_); rintro v g ⟨s', bs', S⟩; simp only [List.set_cons_succ, List.set_cons_zero] at S; refine ⟨ag0, ?_⟩; refine Q5 ?_; refine Zq ?_
        exact Q1o [] (by repeat (first | exact trivial | refine ⟨rfl, ?_⟩)) ⟨{ st with lo := st.lo ++ [(j : Int)] }, (4, (st.lo.length : Int)), _, rfl, Qp (A := [_, _, _]) (st := { st with lo := st.lo ++ [(j : Int)] }) (w := { w with lo := ⟨s', isV st.lo ++ [iV j], st.lo.length + 1, bs'⟩ }) S { E with
          lo := by show _ = isV (st.lo ++ [(j : Int)]); simp
          lon := by show _ = (st.lo ++ [_]).length; simp
          lsb := ⟨(by have := D.l1; show (st.lo ++ [_]).length ≤ _; simp; omega), E.lsb.2.1, E.lsb.2.2.1, E.lsb.2.2.2⟩ }, by unfold Q4I; rw [Q.K]; simp only [hK]; rfl⟩
      have k2 : ¬ K0 = 2 := by simpa using hb
      refine Qd ?_; refine Qq gn rfl rfl rfl ?_; refine Q3 gn rfl rfl ?_; refine Q5 ?_; refine Qa rfl (fun hb => ?_) fun hb => ?_
      · skip
        refine Q8 (by kernel_rfl) ?_; refine Q4 gn rfl rfl ?_; refine Q4 gn rfl rfl ?_; refine Q9 gn rfl rfl ?_; refine Q0 (off := 1) gn rfl rfl (by kernel_rfl) ?_; refine Q0 (off := 3) gn rfl rfl (by kernel_rfl) ?_; have hK : K0 = 3 := by simpa using hb
        refine Qb [_, _] gn rfl rfl (by kernel_rfl) rfl (C.mono (n48w (kind := 5) (o := 3) S rfl rfl E.cl E.cln (by have := D.l2; omega)) ?_); rintro v g ⟨s', bs', S⟩; simp only [List.set_cons_succ, List.set_cons_zero] at S; refine ⟨ag0, ?_⟩; refine Q5 ?_; refine Zq ?_
        exact Q1o [] (by repeat (first | exact trivial | refine ⟨rfl, ?_⟩)) ⟨{ st with cl := st.cl ++ [(j : Int)] }, (5, (st.cl.length : Int)), _, rfl, Qp (A := [_, _, _]) (st := { st with cl := st.cl ++ [(j : Int)] }) (w := { w with cl := ⟨s', isV st.cl ++ [iV j], st.cl.length + 1, bs'⟩ }) S { E with
          cl := by show _ = isV (st.cl ++ [(j : Int)]); simp
          cln := by show _ = (st.cl ++ [_]).length; simp
          lsb := ⟨E.lsb.1, (by have := D.l2; show (st.cl ++ [_]).length ≤ _; simp; omega), E.lsb.2.2.1, E.lsb.2.2.2⟩ }, by unfold Q4I; rw [Q.K]; simp only [hK]; rfl⟩
      have k3 : ¬ K0 = 3 := by simpa using hb
      refine Qd ?_; refine Qq gn rfl rfl rfl ?_; refine Q3 gn rfl rfl ?_; refine Q5 ?_; refine Qa rfl (fun hb => ?_) fun hb => ?_
      · skip
        refine Q8 (by kernel_rfl) ?_; refine Q4 gn rfl rfl ?_; refine Q4 gn rfl rfl ?_; refine Q9 gn rfl rfl ?_; refine Q0 (off := 1) gn rfl rfl (by kernel_rfl) ?_; refine Q0 (off := 4) gn rfl rfl (by kernel_rfl) ?_; have hK : K0 = 6 := by simpa using hb
        refine Qb [_, _] gn rfl rfl (by kernel_rfl) rfl (C.mono (n48w (kind := 2) (o := 4) S rfl rfl E.gl E.gln (by have := D.l3; omega)) ?_); rintro v g ⟨s', bs', S⟩; simp only [List.set_cons_succ, List.set_cons_zero] at S; refine ⟨ag0, ?_⟩; refine Q5 ?_; refine Zq ?_
        exact Q1o [] (by repeat (first | exact trivial | refine ⟨rfl, ?_⟩)) ⟨{ st with gl := st.gl ++ [(j : Int)] }, (2, (st.gl.length : Int)), _, rfl, Qp (A := [_, _, _]) (st := { st with gl := st.gl ++ [(j : Int)] }) (w := { w with gl := ⟨s', isV st.gl ++ [iV j], st.gl.length + 1, bs'⟩ }) S { E with
          gl := by show _ = isV (st.gl ++ [(j : Int)]); simp
          gln := by show _ = (st.gl ++ [_]).length; simp
          lsb := ⟨E.lsb.1, E.lsb.2.1, (by have := D.l3; show (st.gl ++ [_]).length ≤ _; simp; omega), E.lsb.2.2.2⟩ }, by unfold Q4I; rw [Q.K]; simp only [hK]; rfl⟩
      have k6 : ¬ K0 = 6 := by simpa using hb
      refine Qd ?_; refine Qq gn rfl rfl rfl ?_; refine Q3 gn rfl rfl ?_; refine Q5 ?_; refine Qa rfl (fun hb => ?_) fun hb => ?_
      · skip
        refine Q8 (by kernel_rfl) ?_; refine Q4 gn rfl rfl ?_; refine Q4 gn rfl rfl ?_; refine Q9 gn rfl rfl ?_; refine Q0 (off := 1) gn rfl rfl (by kernel_rfl) ?_; refine Q0 (off := 5) gn rfl rfl (by kernel_rfl) ?_; have hK : K0 = 8 := by simpa using hb
        refine Qb [_, _] gn rfl rfl (by kernel_rfl) rfl (C.mono (n48w (kind := 0) (o := 5) S rfl rfl E.co E.con (by have := D.l4; omega)) ?_); rintro v g ⟨s', bs', S⟩; simp only [List.set_cons_succ, List.set_cons_zero] at S; refine ⟨ag0, ?_⟩; refine Q5 ?_; refine Zq ?_
        exact Q1o [] (by repeat (first | exact trivial | refine ⟨rfl, ?_⟩)) ⟨{ st with cp := st.cp ++ [(j : Int)] }, (0, (st.cp.length : Int)), _, rfl, Qp (A := [_, _, _]) (st := { st with cp := st.cp ++ [(j : Int)] }) (w := { w with co := ⟨s', isV st.cp ++ [iV j], st.cp.length + 1, bs'⟩ }) S { E with
          co := by show _ = isV (st.cp ++ [(j : Int)]); simp
          con := by show _ = (st.cp ++ [_]).length; simp
          cpb := by have := D.l4; show (st.cp ++ [_]).length ≤ _; simp; omega }, by unfold Q4I; rw [Q.K]; simp only [hK]; rfl⟩
      have k8 : ¬ K0 = 8 := by simpa using hb
      refine Qd ?_; refine Qq gn rfl rfl rfl ?_; refine Q3 gn rfl rfl ?_; refine Q5 ?_; refine Qa rfl (fun hb => ?_) fun hb => ?_
      · skip
        refine Q8 (by kernel_rfl) ?_; refine Q4 gn rfl rfl ?_; refine Q4 gn rfl rfl ?_; refine Q9 gn rfl rfl ?_; refine Q0 (off := 1) gn rfl rfl (by kernel_rfl) ?_; refine Q0 (off := 6) gn rfl rfl (by kernel_rfl) ?_; have hK : K0 = 10 := by simpa using hb
        refine Qb [_, _] gn rfl rfl (by kernel_rfl) rfl (C.mono (n48w (kind := 6) (o := 6) S rfl rfl E.ev E.evn (by have := D.l5; omega)) ?_); rintro v g ⟨s', bs', S⟩; simp only [List.set_cons_succ, List.set_cons_zero] at S; refine ⟨ag0, ?_⟩; refine Q5 ?_; refine Zq ?_
        exact Q1o [] (by repeat (first | exact trivial | refine ⟨rfl, ?_⟩)) ⟨{ st with ev := st.ev ++ [(j : Int)] }, (6, (st.ev.length : Int)), _, rfl, Qp (A := [_, _, _]) (st := { st with ev := st.ev ++ [(j : Int)] }) (w := { w with ev := ⟨s', isV st.ev ++ [iV j], st.ev.length + 1, bs'⟩ }) S { E with
          ev := by show _ = isV (st.ev ++ [(j : Int)]); simp
          evn := by show _ = (st.ev ++ [_]).length; simp
          lsb := ⟨E.lsb.1, E.lsb.2.1, E.lsb.2.2.1, (by have := D.l5; show (st.ev ++ [_]).length ≤ _; simp; omega)⟩ }, by unfold Q4I; rw [Q.K]; simp only [hK]; rfl⟩
      have k10 : ¬ K0 = 10 := by simpa using hb
      refine Qd ?_; refine Qq gn rfl rfl rfl ?_; refine Q3 gn rfl rfl ?_; refine Q5 ?_; refine Qa rfl (fun hb => ?_) fun hb => ?_
      · skip
        have k7 : K0 = 7 := by simpa using hb
        refine Q8 (by kernel_rfl) ?_; refine Q4 gn rfl rfl ?_; refine Yq (zv := .agg #[.int .i64 0, .int .i64 0]) (pl := [(0, 1), (1, 1)]) [(0, _), (1, _)] gn rfl (by kernel_rfl) (by kernel_rfl) rfl (by rfl) ?_; refine QV (n := 2) 0 S gn rfl rfl (by kernel_rfl) (by kernel_rfl) rfl rfl (by decide) rfl (fun g S => ag0) fun g S => ?_; simp only [List.set_cons_succ, List.set_cons_zero] at S; refine Q5 ?_; refine Zq ?_; exact Q1o [] (by repeat (first | exact trivial | refine ⟨rfl, ?_⟩)) ⟨st, (3, fs), _, rfl, Qp (A := [_, _, _]) S E, by unfold Q4I; rw [Q.K]; simp only [k7]; rfl⟩
      have k7 : ¬ K0 = 7 := by simpa using hb
      refine Qe ?_; refine Zq ?_; exact Q1o [] (by repeat (first | exact trivial | refine ⟨rfl, ?_⟩)) ⟨st, (0, -1), _, rfl, Qp (A := [_, _, _]) S E, by unfold Q4I; rw [Q.K]; simp only [if_neg k2, if_neg k3, if_neg k6, if_neg k8, if_neg k10, if_neg k7]⟩
    obtain ⟨st1, ⟨m1, m2⟩, bs2, rfl, S, hp⟩ := hJ; obtain ⟨w1, E1, ho1, S⟩ := Qo (A := [_, _, _]) S; simp only [List.cons_append, List.nil_append] at S; have hg := Q9a (vw T) st fs j; rw [hp] at hg hst; dsimp only at hg hst; refine KW [(0, Zx rb), (4, Zx b2), (5, Zx b3), (13, (.slice (some ⟨b, o', none⟩) T.length tc)), (14, iV T.length), (15, iV j)] (fun lv hh => lv = [(2, iV (if Q1V K0 = true then fs + 1 else fs))] ∧ SH hE bs (cR b3 (.cells [iV m1, iV m2] 38 0) :: cR b2 (.cells (twC K0 s0 N0 L0 C0 (.slice ka kids0.length kc)) 41 0) :: cR b1 (.cells [iV j] 3 0) :: rsL rb (.slice (some ⟨b, o', none⟩) T.length tc) st1 w1) hh) ?_ fun lv hh hJ => ?_
    · skip
      refine Qd ?_; refine Q0 (off := 0) gn rfl rfl (by kernel_rfl) ?_; refine Q6 gn rfl rfl (by kernel_rfl) (S.cel 1 rfl) rfl ?_; refine Qb [_] gn rfl rfl (by kernel_rfl) rfl (C.mono (n49) ?_); rintro v g ⟨rfl, x⟩; have S := S.grow x; refine ⟨ag0, ?_⟩; refine Q5 ?_; refine Qa rfl (fun hb => ?_) fun hb => ?_
      · skip
        refine Q8 (by kernel_rfl) ?_; refine Q4 gn rfl rfl ?_; refine QO gn rfl rfl rfl (by omega) (by omega) ?_; refine Q3 gn rfl rfl ?_; refine Q5 ?_; exact Q1o [(2, _)] (by repeat (first | exact trivial | refine ⟨rfl, ?_⟩)) ⟨by rw [if_pos (by simpa using hb)], S⟩
      refine Qe ?_; exact Q1o [(2, _)] (by repeat (first | exact trivial | refine ⟨rfl, ?_⟩)) ⟨by rw [if_neg (by simpa using hb)], S⟩
    obtain ⟨rfl, S⟩ := hJ; refine Qj ?_; refine Z3 [(0, []), (1, []), (2, []), (3, []), (4, []), (5, []), (6, []), (7, []), (8, []), (9, []), (10, []), (11, []), (12, [])] (by kernel_rfl) (by kernel_rfl) (by kernel_rfl) (by kernel_rfl) ?_; refine Q4 gn rfl rfl ?_; refine Q9 gn rfl rfl ?_; refine Q0 (off := 11) gn rfl rfl (by kernel_rfl) ?_; refine Q6 gn rfl rfl (by kernel_rfl) (S.cel 3 rfl) rfl ?_; refine Q0 (off := 1) gn rfl rfl (by kernel_rfl) ?_; refine Q6 gn rfl rfl (by kernel_rfl) (S.cel 1 rfl) rfl ?_; obtain ⟨M, cl, hM, hF⟩ := Q2L S 13 rfl; refine YI (zv := .agg #[.int .i64 0, .int .i64 0]) Qdw gn rfl rfl rfl hM (by kernel_rfl) ?_; rw [hF, Q9p, Q1t]
    obtain ⟨m7, hm7⟩ : ∃ m7, (st1.glob s0).getD (0, 0) = m7 := ⟨_, rfl⟩; obtain ⟨has, hhas⟩ : ∃ q, (st1.glob s0).isSome = q := ⟨_, rfl⟩; rw [hm7, hhas]; obtain ⟨m71, m72⟩ := m7; refine Q4 gn rfl rfl ?_; refine Zu gn rfl rfl rfl ?_; refine Zu gn rfl rfl rfl ?_; refine Zz (zv := .agg #[.int .i64 0, .int .i64 0]) S gn rfl (by kernel_rfl) fun b4 g nb4 S => ?_; refine QV (n := 2) 0 S gn rfl rfl (by kernel_rfl) (by kernel_rfl) rfl rfl (by decide) rfl (fun g S => ag0) fun g S => ?_; simp only [List.set_cons_succ, List.set_cons_zero] at S; refine Q3 gn rfl rfl ?_; refine Zw ?_; refine Q0 (off := 1) gn rfl rfl (by kernel_rfl) ?_; refine Q6 gn rfl rfl (by kernel_rfl) (S.cel 1 rfl) rfl ?_
    refine Y5 gn rfl rfl rfl ?_; refine Q4 gn rfl rfl ?_
    refine ZU (n := 2) rfl rfl rfl gn rfl (fun hb => by
        refine Q4 (gy rfl rfl rfl hb) rfl rfl ?_; refine ZT (gy rfl rfl rfl hb) rfl rfl ?_
        exact Q5 ⟨rfl, rfl, 2, rfl, rfl⟩) ?_
    refine Q5 ?_; refine Qa rfl (fun hb => ?_) fun hb => ?_
    · skip
      refine Z3 [(0, []), (1, []), (2, []), (3, []), (4, []), (5, []), (6, []), (7, [])] (by kernel_rfl) (by kernel_rfl) (by kernel_rfl) (by kernel_rfl) ?_; refine Q4 gn rfl rfl ?_; refine Q9 gn rfl rfl ?_; refine Q0 (off := 11) gn rfl rfl (by kernel_rfl) ?_; refine Q6 gn rfl rfl (by kernel_rfl) (S.cel 4 rfl) rfl ?_; refine Q0 (off := 1) gn rfl rfl (by kernel_rfl) ?_; refine Q6 gn rfl rfl (by kernel_rfl) (S.cel 2 rfl) rfl ?_; refine Qs (n := 2) gn rfl rfl (by kernel_rfl) (by kernel_rfl) (S.cel 1 rfl) (Nat.le_refl _) ?_; obtain ⟨M2, cl2, S, hF2⟩ := Q3H S 14 rfl; simp only [List.set_cons_succ, List.set_cons_zero] at S; refine YW 14 S Qdw gn rfl rfl rfl rfl (fun g S => ag0) fun g S => ?_
      simp only [List.set_cons_succ, List.set_cons_zero] at S; have S := J7 S 14 rfl (Qb9 hF2 s0 (m1, m2)); simp only [List.set_cons_succ, List.set_cons_zero] at S; refine Q5 ?_; refine Q8 (by kernel_rfl) ?_; refine QO gn rfl rfl rfl (by omega) (by omega) ?_; refine Q4 gn rfl rfl ?_; refine Q5 ?_
      have hcd : 0 ≤ m2 ∧ st.glob s0 = none := by
        have h := hb; simp only [Bool.and_eq_true, decide_eq_true_eq, Bool.not_eq_true'] at h; refine ⟨h.1, ?_⟩; rw [← hg]; have h2 := hhas.trans h.2; simpa using h2
      rw [if_pos hcd, ← hg] at hst; have S5 := Qp (A := []) (st := { st1 with glob := Nam.put st1.glob s0 (m1, m2) }) (w := w1) S.drop.drop.drop.drop { E1 with }; exact Kc (T.length - (j + 1)) (by omega) [(2, _), (15, _)] (by repeat (first | exact trivial | refine ⟨rfl, ?_⟩)) ⟨j + 1, _, by rw [hst]; rfl, rfl, by omega, by rw [hst]; exact S5⟩
    refine Qe ?_; refine Q8 (by kernel_rfl) ?_; refine QO gn rfl rfl rfl (by omega) (by omega) ?_; refine Q4 gn rfl rfl ?_; refine Q5 ?_
    have hcd : ¬ (0 ≤ m2 ∧ st.glob s0 = none) := fun h9 => by
      have h := hb; rw [← hg] at h9; have h2 : has = false := by rw [← hhas, h9.2]; rfl
      rw [h2, decide_eq_true h9.1] at h; cases h
    rw [if_neg hcd] at hst; have S5 := Qp (A := []) (st := st1) (w := w1) S.drop.drop.drop.drop E1; exact Kc (T.length - (j + 1)) (by omega) [(2, _), (15, _)] (by repeat (first | exact trivial | refine ⟨rfl, ?_⟩)) ⟨j + 1, _, by rw [hst]; rfl, rfl, by omega, by rw [hst]; exact S5⟩
  refine QZ ?_; refine Qt ?_; refine Qu ?_; refine QY ?_; refine ⟨.inr rfl, _, rfl, ?_⟩; obtain rfl : j = T.length := by simp at hb; omega
  exact ⟨bs1, S⟩
end
end Go.Proofs.YtkidomfnmpnmaaaGreatDoor
namespace Go.Proofs.YtkidomfnmpnmaaaGreatDoor
open Go.X Go.Nam
def rulesT : List (Int × Nat) := [(11, 36), (9, 37), (36, 38), (12, 39), (13, 40), (29, 41), (5, 42), (19, 43), (21, 44), (22, 44), (33, 45), (2, 47), (3, 47), (6, 47), (7, 47), (8, 47), (10, 47)]
def rulesM : MsK Int := rulesT.zipIdx.map fun x => (x.1.1, funV x.1.2, x.2)
theorem Q4y (n : Nat) : pcs n Q11 [0] = [cR n (.map (rulesM.map (Q1n iV)) 17)] := by kernel_rfl
theorem QcZ (n : Nat) : shV 400 n Q2F = some (.map (some n)) := by kernel_rfl
theorem Qd0 (n : Nat) : Q7z n Q11 = some Q11 := by kernel_rfl
theorem Q90 (K : Int) : Q0e rulesM K = (Q0x K).map funV := by
  by_cases h : K = 11 ∨ K = 9 ∨ K = 36 ∨ K = 12 ∨ K = 13 ∨ K = 29 ∨ K = 5 ∨ K = 19 ∨ K = 21 ∨ K = 22 ∨ K = 33 ∨ K = 2 ∨ K = 3 ∨ K = 6 ∨ K = 7 ∨ K = 8 ∨ K = 10
  · rcases h with rfl | rfl | rfl | rfl | rfl | rfl | rfl | rfl | rfl | rfl | rfl | rfl | rfl | rfl | rfl | rfl | rfl <;> rfl
  simp only [not_or] at h; obtain ⟨h1, h2, h3, h4, h5, h6, h7, h8, h9, h10, h11, h12, h13, h14, h15, h16, h17⟩ := h
  have e1 : Q0x K = none := by
    unfold Q0x ZI; simp [h1, h2, h3, h4, h5, h6, h7, h8, h9, h10, h11, h12, h13, h14, h15, h16, h17]
  have e2 : Q0e rulesM K = none := by
    simp [Q0e, fK, rulesM, rulesT, h1, h2, h3, h4, h5, h6, h7, h8, h9, h10, h11, h12, h13, h14, h15, h16, h17, Ne.symm]
  rw [e1, e2]; rfl
end Go.Proofs.YtkidomfnmpnmaaaGreatDoor
namespace Go.Proofs.YtkidomfnmpnmaaaGreatDoor
open Go.X Go.Nam
theorem _root_.Go.X.SH.pick1 {h0 h : Hp} {L : List Res} {r : Res} (S : SH h0 [] L h) (i : Nat) (e : L[i]? = some r) : SH h0 [] [r] h := SH.sub1 (SH.start h0) (fun k hk => by cases hk) S i e
structure MayV (T : List Tw) : Prop where
  P : Shp (vw T)
  s : ∃ n, sub (vw T) (T.length + 1) 0 n
  r : ¬ Ap.isS ((vw T).K 0) ∧ ¬ Ap.isT ((vw T).K 0) ∧ (vw T).K 0 ≠ 12
  N : ∀ i : Nat, (vw T).K i = 9 → 0 ≤ (vw T).N i ∧ (vw T).N i ≤ 3
  p : 0 < T.length
abbrev zeroN : Value := .agg #[.slice none 0 0, .slice none 0 0, .slice none 0 0, .slice none 0 0, .slice none 0 0, .slice none 0 0, .slice none 0 0, .slice none 0 0, .int .i64 0]
abbrev namV (st : Nst) (w : RsW) : Value := .agg #[w.me.v, w.ow.v, w.lo.v, w.cl.v, w.gl.v, w.co.v, w.ev.v, w.fu.v, iV st.main]
def ResAt (h h' : Hp) (sv : Value) (T : List Tw) (v : Value) : Prop :=
  (Q4b T = false ∧ ∃ b, v = .tuple #[zeroN, .slice (some ⟨b, 0, none⟩) 1 1] ∧ h'.get b = some (.cells [iV 0, iV 0, iV 2] 55 0) ∧ b < h'.n) ∨
  (Q4b T = true ∧ ∃ rb rs w, RsE (Z0 (vw T)) rs w ∧ SH h [] (rsL rb sv (Z0 (vw T)) w) h' ∧ (((Z0 (vw T)).wrong ≠ [] ∧ v = .tuple #[zeroN, w.wr.v]) ∨ ((Z0 (vw T)).wrong = [] ∧ v = .tuple #[namV (Z0 (vw T)) w, .slice none 0 0])))
theorem Q6I {a : Option Addr} {n c : Nat} : sameV 20 (.agg ((List.drop 0 (Value.agg #[.slice a n c]).cells.toList).take 1).toArray) (.agg ((List.drop 0 (Value.agg #[.slice a n c]).cells.toList).take 1).toArray) = true := by
  cases a <;> simp [sameV, sameV.sameL, Value.cells]
theorem _root_.Go.X.SH.ord {h0 h : Hp} {ds : List Nat} {L : List Res} (S : SH h0 ds L h) (js : List Nat) (n : Nat) (hn : n = L.length) (hp : js.Perm (List.range n)) : SH h0 ds (js.map fun i => L.getD i (cR 0 (.cells [] 0 0))) h := by
  refine S.sub (B := []) ?_; rw [List.append_nil]
  have e : (List.range n).map (fun i => L.getD i (cR 0 (.cells [] 0 0))) = L := by
    subst hn; refine List.ext_getElem? fun i => ?_; rw [List.getElem?_map]; by_cases hi : i < L.length
    · rw [List.getElem?_range hi, List.getElem?_eq_getElem hi]; simp [List.getD_eq_getElem?_getD, hi]
    rw [List.getElem?_eq_none (by simpa using hi), List.getElem?_eq_none (by omega)]; rfl
  have := hp.map fun i => L.getD i (cR 0 (.cells [] 0 0)); rwa [e] at this
theorem Q99 {c : List Value} : ∀ n : Nat, (Qk c n).length = n * c.length
  | 0 => by simp [Qk]
  | n + 1 => by simp [Qk, Q99 n]; grind
theorem Qck : ∀ n : Nat, Qk [iV 0, iV 0] n = meC (List.replicate n (0, 0))
  | 0 => rfl
  | n + 1 => by
    have e := Qck n; simp only [Qk, List.replicate_succ, meC, List.flatMap_cons] at e ⊢; rw [e]
theorem Qcj : ∀ n : Nat, Qk [iV 0] n = isV (List.replicate n 0)
  | 0 => rfl
  | n + 1 => by
    have e := Qcj n; simp only [Qk, List.replicate_succ, List.map_cons] at e ⊢; rw [e]; rfl
abbrev w00 (n mb ob gb mr : Nat) : RsW := ⟨⟨.slice (some ⟨mb, 0, none⟩) n n, meC (List.replicate n (0, 0)), n, [mb]⟩, ⟨.slice (some ⟨ob, 0, none⟩) n n, isV (List.replicate n 0), n, [ob]⟩, ⟨.slice none 0 0, [], 0, []⟩, ⟨.slice none 0 0, [], 0, []⟩, ⟨.slice none 0 0, [], 0, []⟩, ⟨.slice none 0 0, [], 0, []⟩, ⟨.slice none 0 0, [], 0, []⟩, ⟨.slice none 0 0, [], 0, []⟩, ⟨.slice none 0 0, [], 0, []⟩, ⟨.slice none 0 0, [], 0, []⟩, gb, mr, [], [], []⟩
theorem e00 (T : List Tw) (mb ob gb mr : Nat) : RsE (QA (vw T) 0).1 [] (w00 T.length mb ob gb mr) :=
  ⟨rfl, List.length_replicate.symm, rfl, List.length_replicate.symm, rfl, rfl, rfl, rfl, rfl, rfl, rfl, rfl, rfl, rfl, rfl, rfl, rfl, rfl, rfl, rfl, rfl, rfl, rfl, rfl, by show 0 ≤ 1000000; omega, ⟨by show 0 ≤ 1000000; omega, by show 0 ≤ 1000000; omega, by show 0 ≤ 1000000; omega, by show 0 ≤ 1000000; omega⟩⟩
theorem Q7s (T : List Tw) : (T.any fun t => decide (t.K = 11)) = Q28 (vw T) := by
  rw [Bool.eq_iff_iff, List.any_eq_true]; unfold Q28; rw [List.any_eq_true]; constructor
  · rintro ⟨t, ht, hk⟩; obtain ⟨j, hj, rfl⟩ := List.mem_iff_getElem.1 ht; refine ⟨j, List.mem_range.2 hj, ?_⟩; rw [(Q3b (List.getElem?_eq_getElem hj)).2.1]; exact hk
  rintro ⟨j, hj, hk⟩; have hj : j < T.length := List.mem_range.1 hj; refine ⟨T[j], List.getElem_mem hj, ?_⟩; rw [(Q3b (List.getElem?_eq_getElem hj)).2.1] at hk; exact hk
section
variable {h : Hp} {sv : Value} {T : List Tw}
set_option maxHeartbeats 4000000 in
theorem n8 (X : TreeAt h sv T) (G : ∀ t, t ∈ T → RowG h t.ks (isV t.kids)) (hN : ∀ t, t ∈ T → -9223372036854775808 ≤ t.N ∧ t.N ≤ 9223372036854775807) (B : Blk h) (Pw : Pow h) (hT : T.length ≤ 1000) (hs : ∀ t, t ∈ T → t.s.toList.length ≤ 100) (hM : Q4b T = true → MayV T) :
    C nmE 8 [.agg #[sv]] h fun v h' => Ext h h' ∧ ResAt h h' sv T v := by
  obtain ⟨ta, tc, rfl⟩ := X.val; refine Qc1 (fu := Tryz.f8) (by kernel_rfl) rfl ?_; have S := SH.start h; refine Qd ?_; refine Yh S gn rfl rfl fun b1 g nb1 S => ?_; refine Zz (zv := .agg #[.slice none 0 0, .slice none 0 0, .slice none 0 0, .slice none 0 0, .slice none 0 0, .slice none 0 0, .slice none 0 0, .slice none 0 0, .int .i64 0]) S gn rfl (by kernel_rfl) fun b2 g nb2 S => ?_; refine Q3 gn rfl rfl ?_; refine Kz ?_; refine Qs (n := 1) gn rfl rfl (by kernel_rfl) (by kernel_rfl) (S.cel 1 rfl) (Nat.le_refl _) ?_; refine Qb [_] gn rfl rfl (by kernel_rfl) rfl (C.mono (c10 (B.ext S.e0) (X.ext S.e0) hT hs) ?_); rintro v g ⟨rfl, x⟩; have S := S.grow x; refine ⟨ag0, ?_⟩; refine ZT gn rfl rfl ?_
  refine Q5 ?_; refine Qa rfl (fun hb => ?_) fun hb => ?_
  · skip
    have hmay : Q4b T = false := by simpa using hb
    refine Qd ?_; refine Yq (zv := .agg #[.slice none 0 0, .slice none 0 0, .slice none 0 0, .slice none 0 0, .slice none 0 0, .slice none 0 0, .slice none 0 0, .slice none 0 0, .int .i64 0]) (pl := [(0, 1), (1, 1), (2, 1), (3, 1), (4, 1), (5, 1), (6, 1), (7, 1), (8, 1)]) [] gn rfl (by kernel_rfl) (by kernel_rfl) rfl (by rfl) ?_; refine Yq (zv := .agg #[.int .i64 0, .int .i64 0, .int .i64 0]) (pl := [(0, 1), (1, 1), (2, 1)]) [(2, _)] gn rfl (by kernel_rfl) (by kernel_rfl) rfl (by rfl) ?_
    refine Qn (cs := #[iV 0, iV 0, iV 2]) (e := 55) (z := 2) (zv := .agg #[.int .i64 0, .int .i64 0, .int .i64 0]) [(0, _)] S gn rfl (by kernel_rfl) (by kernel_rfl) (by kernel_rfl) (by kernel_rfl) rfl (by kernel_rfl) fun b3 g nb3 S => ?_; refine QV (n := 9) 1 S gn rfl rfl (by kernel_rfl) (by kernel_rfl) rfl rfl (by decide) rfl (fun g S => ag0) fun g S => ?_; refine Q3 gn rfl rfl ?_; refine Q5 ?_; refine Qc ?_; refine ⟨.inl rfl, _, (Q3r rfl (by kernel_rfl) (by kernel_rfl) (S.cel 1 rfl) rfl (Q3p rfl rfl)), ?_⟩; exact ⟨S.e0, .inl ⟨hmay, _, rfl, S.cel 0 rfl, S.lt1 0 rfl⟩⟩
  refine Qe ?_; have hmay : Q4b T = true := by simpa using hb
  have M := hM hmay; have R : Tre h (.slice ta T.length tc) T := ⟨X, G, M.P, hN⟩; have hp := M.p; refine Qj ?_; refine Z3 [(0, []), (1, []), (2, [0]), (3, []), (4, []), (5, [])] (by kernel_rfl) (by kernel_rfl) (by kernel_rfl) (by kernel_rfl) ?_; refine Qs (n := 1) gn rfl rfl (by kernel_rfl) (by kernel_rfl) (S.cel 1 rfl) (Nat.le_refl _) ?_; refine Q1Q S gn rfl fun b4 g nb4 S => ?_; refine Q5O [0] S gn rfl (by kernel_rfl) (by kernel_rfl) sm17 QcZ Qd0 (fun _ => by decide) (by decide) (fun n g nn S => (ag1 (JA (n := 1) gn rfl (by kernel_rfl) (by kernel_rfl) (by rw [Q4y] at S; exact S.cel 3 rfl) (Nat.le_refl _) rfl Q6I) ag0)) fun n5 g nn5 S => ?_; rw [Q4y] at S
  simp only [List.cons_append, List.nil_append] at S; refine Yq (zv := .agg #[.slice none 0 0, .slice none 0 0, .slice none 0 0, .slice none 0 0, .slice none 0 0, .slice none 0 0, .slice none 0 0, .slice none 0 0, .slice none 0 0, .int .i64 0, .slice none 0 0, .map none, .slice none 0 0, .int .i64 0, .int .i64 0, .int .i64 0, .map none]) (pl := [(0, 1), (1, 9), (10, 1), (11, 1), (12, 1), (13, 1), (14, 1), (15, 1), (16, 1)]) [(0, _), (3, _), (5, _), (8, _)] gn rfl (by kernel_rfl) (by kernel_rfl) rfl (by rfl) ?_; refine Yh S gn rfl rfl fun b6 g nb6 S => ?_; refine Q3 gn rfl rfl ?_; refine Q5 ?_; refine Qj ?_
  have S : SH h [] [cR b6 (.cells [.slice ta T.length tc, .slice none 0 0, .slice none 0 0, .slice none 0 0, .slice none 0 0, .slice none 0 0, .slice none 0 0, .slice none 0 0, .slice none 0 0, .int .i64 0, .slice none 0 0, .map (some b4), .slice none 0 0, .int .i64 (-1), .int .i64 0, .int .i64 0, .map (some n5)] 62 0), cR n5 (.map (rulesM.map (Q1n iV)) 17), cR b4 (.map [] 0), cR b2 (.cells [.slice none 0 0, .slice none 0 0, .slice none 0 0, .slice none 0 0, .slice none 0 0, .slice none 0 0, .slice none 0 0, .slice none 0 0, .int .i64 0] 32 0), cR b1 (.cells [.slice ta T.length tc] 24 0)] g := S
  refine Z3 [(0, []), (1, []), (2, []), (3, []), (4, []), (5, []), (6, []), (7, []), (8, []), (9, []), (10, []), (11, []), (12, []), (13, [7, 8]), (14, []), (15, []), (16, []), (17, [])] (by kernel_rfl) (by kernel_rfl) (by kernel_rfl) (by kernel_rfl) ?_; refine Q4 gn rfl rfl ?_; refine Q4 gn rfl rfl ?_; refine Q0 (off := 0) gn rfl rfl (by kernel_rfl) ?_; refine Q6 gn rfl rfl (by kernel_rfl) (S.cel 4 rfl) rfl ?_; refine QI gn rfl rfl (by kernel_rfl) ?_; refine Q1P (e := 38) (z := 1) (zv := .agg #[.int .i64 0, .int .i64 0]) (by' := 16) S gn rfl rfl rfl (by kernel_rfl) (by kernel_rfl) (by kernel_rfl) (by kernel_rfl) (by decide) (by omega) (by omega) (by omega) (by omega) fun b7 g nb7 S => ?_
  refine Q0 (off := 0) gn rfl rfl (by kernel_rfl) ?_; refine Q6 gn rfl rfl (by kernel_rfl) (S.cel 5 rfl) rfl ?_; refine QI gn rfl rfl (by kernel_rfl) ?_; refine Q1P (e := 3) (z := 0) (zv := .int .i64 0) (by' := 8) S gn rfl rfl rfl (by kernel_rfl) (by kernel_rfl) (by kernel_rfl) (by kernel_rfl) (by decide) (by omega) (by omega) (by omega) (by omega) fun b8 g nb8 S => ?_; refine Q9 gn rfl rfl ?_; refine Q0 (off := 1) gn rfl rfl (by kernel_rfl) ?_; refine Q0 (off := 0) gn rfl rfl (by kernel_rfl) ?_
  refine Zy 2 S gn rfl rfl rfl (by kernel_rfl) rfl (by decide) (by first | decide | (simp; done)) (fun g S => ag1 (Zr gn rfl (by kernel_rfl) (S.cel 6 rfl) rfl rfl ZO) (ag1 (Q38 gn rfl (by kernel_rfl) rfl) ag0)) fun g S => ?_; refine Q9 gn rfl rfl ?_; refine Q0 (off := 1) gn rfl rfl (by kernel_rfl) ?_; refine Q0 (off := 1) gn rfl rfl (by kernel_rfl) ?_; refine Zy 2 S gn rfl rfl rfl (by kernel_rfl) rfl (by decide) (by first | decide | (simp; done)) (fun g S => ag0) fun g S => ?_; refine Q5 ?_; refine Qj ?_
  have S : SH h [] [cR b8 (.cells (Qk [iV 0] T.length) 3 0), cR b7 (.cells (Qk [iV 0, iV 0] T.length) 38 0), cR b6 (.cells [.slice ta T.length tc, .slice (some ⟨b7, 0, none⟩) T.length T.length, .slice (some ⟨b8, 0, none⟩) T.length T.length, .slice none 0 0, .slice none 0 0, .slice none 0 0, .slice none 0 0, .slice none 0 0, .slice none 0 0, .int .i64 0, .slice none 0 0, .map (some b4), .slice none 0 0, .int .i64 (-1), .int .i64 0, .int .i64 0, .map (some n5)] 62 0), cR n5 (.map (rulesM.map (Q1n iV)) 17), cR b4 (.map [] 0), cR b2 (.cells [.slice none 0 0, .slice none 0 0, .slice none 0 0, .slice none 0 0, .slice none 0 0, .slice none 0 0, .slice none 0 0, .slice none 0 0, .int .i64 0] 32 0), cR b1 (.cells [.slice ta T.length tc] 24 0)] g := S
  rw [Qck, Qcj] at S; have S := S.toSl (z := 0) (n := T.length) 0 rfl (.inl rfl) (by simp); have S := S.toSl (z := 1) (n := T.length) 1 rfl (.inl rfl) (by rw [Q9q, List.length_replicate]); have S := J7 (F := Q0x) (enc := funV) S 3 rfl Q90; have S := J7 (M := ([] : MsK Txt)) (key := Value.string) (F := fun _ => (none : Option (Int × Int))) (enc := Q67) S 4 rfl (fun _ => rfl); have S := (((((((S.nilSl 3 0).nilSl 3 0).nilSl 3 0).nilSl 3 0).nilSl 3 0).nilSl 45 3).nilSl 55 2).nilSl 120 1
  have S : SH h [] ([cR b2 (.cells [.slice none 0 0, .slice none 0 0, .slice none 0 0, .slice none 0 0, .slice none 0 0, .slice none 0 0, .slice none 0 0, .slice none 0 0, .int .i64 0] 32 0), cR b1 (.cells [.slice ta T.length tc] 24 0)] ++ rsL b6 (.slice ta T.length tc) (QA (vw T) 0).1 (w00 T.length b7 b8 b4 n5)) g := S.ord [13, 14, 10, 9, 8, 7, 6, 5, 4, 3, 2, 1, 12, 0, 11] 15 rfl (by decide); have S := Qp (A := [_, _]) S (e00 T b7 b8 b4 n5); refine Q8 (by kernel_rfl) ?_; refine Q4 gn rfl rfl ?_; refine Qb [_] gn rfl rfl (by kernel_rfl) rfl (C.mono (n18 (S.pick1 2 rfl) R) ?_); rintro v g ⟨bs', S2⟩; have S := S.ret 2 rfl S2
  simp only [List.cons_append, List.nil_append, List.set_cons_succ, List.set_cons_zero] at S; refine ⟨ag0, ?_⟩; refine Q5 ?_; have D := Q2l (T := vw T) T.length; have hwr0 : (QA (vw T) T.length).1.wrong.length ≤ 0 := by rw [D.wr]; exact Nat.le_refl _
  refine KW [(2, Zx b2), (4, Zx b6)] (fun lv hh => ∃ bs1, lv = [] ∧ SH h [] [cR b2 (.cells [.slice none 0 0, .slice none 0 0, .slice none 0 0, .slice none 0 0, .slice none 0 0, .slice none 0 0, .slice none 0 0, .slice none 0 0, .int .i64 0] 32 0), cR b1 (.cells [.slice ta T.length tc] 24 0), rsR b6 (.slice ta T.length tc) (if Q28 (vw T) = true then (QA (vw T) T.length).1 else tell (vw T) (QA (vw T) T.length).1 0 13) [] bs1] hh) ?_ fun lv hh hJ => ?_
  · skip
    refine Qd ?_; refine Q0 (off := 0) gn rfl rfl (by kernel_rfl) ?_; refine Q6 gn rfl rfl (by kernel_rfl) (S.cel 1 rfl) rfl ?_; refine Qb [_, _] gn rfl rfl (by kernel_rfl) rfl (C.mono (n19 (P := fun t => decide (t.K = 11)) (X.ext S.e0) ⟨20, #[], rfl, by kernel_rfl, fun h' e t _ hrw => n20 hrw⟩ hT) ?_); rintro v g ⟨rfl, x⟩; have S := S.grow x; refine ⟨ag0, ?_⟩; refine ZT gn rfl rfl ?_; refine Q5 ?_; refine Qa rfl (fun hb => ?_) fun hb => ?_
    · skip
      refine Q8 (by kernel_rfl) ?_; refine Q4 gn rfl rfl ?_; refine Qb [_, _, _] gn rfl rfl (by kernel_rfl) rfl (C.mono (n21 (S.pick1 2 rfl) X hp (by omega)) ?_); rintro v g ⟨bs', S2⟩; have S := S.ret 2 rfl S2; simp only [List.set_cons_succ, List.set_cons_zero] at S; refine ⟨ag0, ?_⟩; refine Q5 ?_; exact Q1o [] (by repeat (first | exact trivial | refine ⟨rfl, ?_⟩)) ⟨_, rfl, by rw [← Q7s, if_neg (by simpa using hb)]; exact S⟩
    refine Qe ?_; exact Q1o [] (by repeat (first | exact trivial | refine ⟨rfl, ?_⟩)) ⟨_, rfl, by rw [← Q7s, if_pos (by simpa using hb)]; exact S⟩
  obtain ⟨bs1, rfl, S⟩ := hJ; obtain ⟨st1, hst1⟩ : ∃ st1, (if Q28 (vw T) = true then (QA (vw T) T.length).1 else tell (vw T) (QA (vw T) T.length).1 0 13) = st1 := ⟨_, rfl⟩
  have hwr1 : st1.wrong.length ≤ 1 := by
    rw [← hst1]
    split
    · omega
    show ((QA (vw T) T.length).1.wrong ++ [_]).length ≤ 1; rw [List.length_append]; simp; simpa using hwr0
  have hstart : Q1K (vw T) = if st1.lo = [] then tell (vw T) st1 0 13 else st1 := by rw [← hst1]; rfl
  rw [hst1] at S; refine KW [(2, Zx b2), (4, Zx b6)] (fun lv hh => ∃ bs1, lv = [] ∧ SH h [] [cR b2 (.cells [.slice none 0 0, .slice none 0 0, .slice none 0 0, .slice none 0 0, .slice none 0 0, .slice none 0 0, .slice none 0 0, .slice none 0 0, .int .i64 0] 32 0), cR b1 (.cells [.slice ta T.length tc] 24 0), rsR b6 (.slice ta T.length tc) (Q1K (vw T)) [] bs1] hh) ?_ fun lv hh hJ => ?_
  · skip
    refine Qj ?_; obtain ⟨w, E, ho, S⟩ := Qo (A := [_, _]) S; simp only [List.cons_append, List.nil_append] at S; refine Q8 (by kernel_rfl) ?_; refine Q4 gn rfl rfl ?_; refine Q9 gn rfl rfl ?_; refine Q0 (off := 1) gn rfl rfl (by kernel_rfl) ?_; refine Q0 (off := 2) gn rfl rfl (by kernel_rfl) ?_; refine Q6 gn rfl rfl (by kernel_rfl) (S.cel 2 rfl) rfl ?_; obtain ⟨la, lc, hlv⟩ := YV (S.sl 5 rfl); rw [hlv, E.lon]; refine QI gn rfl rfl (by kernel_rfl) ?_; refine Qq gn rfl rfl rfl ?_; refine Q5 ?_; refine Qa rfl (fun hb => ?_) fun hb => ?_
    · skip
      refine Q8 (by kernel_rfl) ?_; refine Q4 gn rfl rfl ?_; have S := Qp (A := [_, _]) S E; refine Qb [_, _, _] gn rfl rfl (by kernel_rfl) rfl (C.mono (n21 (S.pick1 2 rfl) X hp (by omega)) ?_); rintro v g ⟨bs', S2⟩; have S := S.ret 2 rfl S2; simp only [List.set_cons_succ, List.set_cons_zero] at S; refine ⟨ag0, ?_⟩; refine Q5 ?_; exact Q1o [] (by repeat (first | exact trivial | refine ⟨rfl, ?_⟩)) ⟨_, rfl, by rw [hstart, if_pos (by simpa using hb)]; exact S⟩
    refine Qe ?_; exact Q1o [] (by repeat (first | exact trivial | refine ⟨rfl, ?_⟩)) ⟨_, rfl, by rw [hstart, if_neg (by simpa using hb)]; exact Qp (A := [_, _]) S E⟩
  obtain ⟨bs1, rfl, S⟩ := hJ; refine Qj ?_; obtain ⟨nn, hsub⟩ := M.s; have hnn : nn ≤ T.length := sub_le hsub; refine Q8 (by kernel_rfl) ?_; refine Q4 gn rfl rfl ?_; refine Qb [_, _] gn rfl rfl (by kernel_rfl) rfl (C.mono (n22 R Pw M.N (T.length + 1) (T.length + 1) (Nat.le_refl _) 0 nn (Q1K (vw T)) [] 2 [] _ _ hsub ⟨Q6B nn, fun x hx => (by cases hx), ⟨fun h => absurd h M.r.1, fun h => absurd h M.r.2.1, fun h => absurd h M.r.2.2⟩⟩ (by omega) (S.pick1 2 rfl)) ?_); rintro v g ⟨bs', S2⟩; have S := S.ret 2 rfl S2
  have S : SH h [] ([cR b2 (.cells [.slice none 0 0, .slice none 0 0, .slice none 0 0, .slice none 0 0, .slice none 0 0, .slice none 0 0, .slice none 0 0, .slice none 0 0, .int .i64 0] 32 0), cR b1 (.cells [.slice ta T.length tc] 24 0)] ++ [rsR b6 (.slice ta T.length tc) (Z0 (vw T)) [] bs']) g := S; obtain ⟨w, E, ho, S⟩ := Qo (A := [_, _]) S; simp only [List.cons_append, List.nil_append] at S; refine ⟨ag0, ?_⟩; refine Kz ?_; refine Q4 gn rfl rfl ?_; refine Q9 gn rfl rfl ?_; refine Q0 (off := 10) gn rfl rfl (by kernel_rfl) ?_; refine Q6 gn rfl rfl (by kernel_rfl) (S.cel 2 rfl) rfl ?_; obtain ⟨wa, wc, hwv⟩ := YV (S.sl 11 rfl); rw [hwv, E.wrn]; refine QI gn rfl rfl (by kernel_rfl) ?_
  refine JB gn rfl rfl rfl ?_; refine Q5 ?_; refine Qa rfl (fun hb => ?_) fun hb => ?_
  · skip
    refine Qj ?_; refine Z3 [(0, []), (1, []), (2, []), (3, []), (4, []), (5, [4]), (6, [])] (by kernel_rfl) (by kernel_rfl) (by kernel_rfl) (by kernel_rfl) ?_; refine Yq (zv := .agg #[.slice none 0 0, .slice none 0 0, .slice none 0 0, .slice none 0 0, .slice none 0 0, .slice none 0 0, .slice none 0 0, .slice none 0 0, .int .i64 0]) (pl := [(0, 1), (1, 1), (2, 1), (3, 1), (4, 1), (5, 1), (6, 1), (7, 1), (8, 1)]) [] gn rfl (by kernel_rfl) (by kernel_rfl) rfl (by rfl) ?_; refine Q4 gn rfl rfl ?_; refine Q9 gn rfl rfl ?_; refine Q0 (off := 10) gn rfl rfl (by kernel_rfl) ?_; refine Q6 gn rfl rfl (by kernel_rfl) (S.cel 2 rfl) rfl ?_
    refine QV (n := 9) 0 S gn rfl rfl (by kernel_rfl) (by kernel_rfl) rfl rfl (by decide) rfl (fun g S => (ag1 (Zr gn rfl (by kernel_rfl) (S.cel 2 rfl) rfl rfl (by rw [hwv]; exact ZO)) ag0)) fun g S => ?_; refine Q3 gn rfl rfl ?_; refine Q5 ?_; refine Qc ?_; refine ⟨.inl rfl, _, (Q3r rfl (by kernel_rfl) (by kernel_rfl) (S.cel 0 rfl) rfl (Q3p rfl rfl)), ?_⟩; exact ⟨S.e0, .inr ⟨hmay, b6, [], w, E, S.drop.drop, .inl ⟨fun e => by rw [e] at hb; simp at hb, rfl⟩⟩⟩
  refine Qe ?_; refine Qd ?_; refine Q4 gn rfl rfl ?_; refine Q9 gn rfl rfl ?_; refine Q0 (off := 1) gn rfl rfl (by kernel_rfl) ?_; refine Qs (n := 9) gn rfl rfl (by kernel_rfl) (by kernel_rfl) (S.cel 2 rfl) (by simp) ?_
  have hall9 : ([w.me.v, w.ow.v, w.lo.v, w.cl.v, w.gl.v, w.co.v, w.ev.v, w.fu.v, iV (Z0 (vw T)).main] : List Value).all cellV = true := by
    simp only [List.all_cons, List.all_nil, (S.sl 3 rfl).cellV, (S.sl 4 rfl).cellV, (S.sl 5 rfl).cellV, (S.sl 6 rfl).cellV, (S.sl 7 rfl).cellV, (S.sl 8 rfl).cellV, (S.sl 9 rfl).cellV, (S.sl 10 rfl).cellV, Bool.true_and, Bool.and_true]; rfl
  refine QV (n := 9) 0 S gn rfl rfl hall9 (by kernel_rfl) rfl rfl (by decide) rfl (fun g S => ag0) fun g S => ?_; refine Q3 gn rfl rfl ?_; refine Q5 ?_; refine Qc ?_; refine ⟨.inl rfl, _, (Q3r rfl (by kernel_rfl) (by kernel_rfl) (S.cel 0 rfl) rfl (Q3p rfl rfl)), ?_⟩; exact ⟨S.e0, .inr ⟨hmay, b6, [], w, E, S.drop.drop, .inr ⟨by simpa using hb, rfl⟩⟩⟩
end
end Go.Proofs.YtkidomfnmpnmaaaGreatDoor
namespace Go.Proofs.YtkidomfnmpnmaaaGreatDoor
open Go.X Go.Ap
theorem bt {a b : Bool} (h : (a && b) = true) : a = true ∧ b = true := by cases a <;> cases b <;> first | exact ⟨rfl, rfl⟩ | cases h
theorem ZY {K : Int} (h : Qw K = true) : isT K := by simpa [Qw] using h
theorem isS_of {K : Int} (h : Q1J K = true) : isS K := by simpa [Q1J] using h
theorem Q9L {K : Int} (h : Q4a K = true) : Ap.isV K := by
  have : K = 29 ∨ K = 30 ∨ K = 31 := by simpa [Q4a] using h
  show 29 ≤ K ∧ K ≤ 31; omega
theorem isD_of {K : Int} (h : Q0U K = true) : isD K := by simpa [Q0U] using h
theorem YJ {K k : Int} (h : Y4 [k] K = true) : K = k := by simpa [Y4] using h
theorem Zl {s : ByteArray} (h : KS none s = true) : s.toList = [] := by simpa [KS] using h
theorem w_of {b : UInt8} (h : (ZM b || ZJ b) = true) : isW b = true := by
  simp only [ZM, ZJ, Q22, Q5n, Bool.or_eq_true, Bool.and_eq_true, decide_eq_true_eq] at h; simp only [isW, Bool.or_eq_true, Bool.and_eq_true, decide_eq_true_eq]; omega
theorem g_of {b : UInt8} (h : ZJ b = false) : isG b = false := by
  cases e : isG b with
  | false => rfl
  | true =>
    simp only [isG, Bool.and_eq_true, decide_eq_true_eq] at e; have : ZJ b = true := by simp only [ZJ, Q5n, Bool.and_eq_true, decide_eq_true_eq]; omega
    rw [this] at h; cases h
theorem Q9B : (kws.all fun l => Kj (JV l)) = true := by kernel_rfl
theorem QcR (l : List UInt8) : (JV l).toList = l := by rw [JV, ByteArray.toList_eq]
theorem Q8r {s u : ByteArray} (h : s.toList = u.toList) : Kj s = Kj u := by
  have e : ∀ w, eqS w s = eqS w u := fun w => by
    rw [Bool.eq_iff_iff]; simp [h]
  simp only [Kj, e]
theorem JC {s : ByteArray} (h : Za s = true) : Nm s.toList := by
  obtain ⟨h1, _, h3, h4, h5⟩ := Yl.1 h; refine ⟨fun b hb => ?_, h1, fun b l e => ?_, fun hk => ?_⟩
  · obtain ⟨j, hj, rfl⟩ := List.mem_iff_getElem.1 hb; rw [Q6q hj]; exact w_of (h4 j hj)
  · refine g_of ?_; rw [← h3, bAt, e]; rfl
  have := List.all_eq_true.1 Q9B _ hk; rw [Q8r (QcR _), h5] at this; cases this
theorem QcD {s : ByteArray} (h : typS s = true) : AllW s.toList ∧ s.toList ≠ [] := by
  rw [typS, Bool.or_eq_true] at h; rcases h with h | h
  · exact ⟨(JC h).all, (JC h).ne⟩
  have e : s.toList ∈ ([[105, 110, 116], [102, 110], [116, 111, 107], [104, 97, 110, 100], [97, 114, 114]] : List (List UInt8)) := by
    simpa [Q4c, Qeq, JV] using h
  have key : ∀ l, l ∈ ([[105, 110, 116], [102, 110], [116, 111, 107], [104, 97, 110, 100], [97, 114, 114]] : List (List UInt8)) → AllW l ∧ l ≠ [] := by decide
  exact key _ e
theorem op_of {s : ByteArray} (h : Q4c Go.Proofs.YtkidomfnmpnmaaaGreatDoor.opL s = true) : s.toList ∈ Ap.opL := by
  simpa [Q4c, Go.Proofs.YtkidomfnmpnmaaaGreatDoor.opL, Ap.opL, JV] using h
theorem Qz {F : FS} {s : ByteArray} {N : Int} {ks : List Int} (h : Q0Q F s N ks = true) : KS F.text s = true ∧ F.least ≤ N ∧ N ≤ F.most ∧ Qx F.kids ks = true ∧ YX F (ks.drop F.kids.length) = true := by
  rw [Q0Q] at h; obtain ⟨h1, h2⟩ := bt h; obtain ⟨h3, h4⟩ := bt h2; unfold Q16 at h1; simp only [Bool.and_eq_true, decide_eq_true_eq] at h1; exact ⟨h1.1.1.1, h1.1.1.2, h1.1.2, h3, h4⟩
theorem Q7f {K : Int} : ∀ {T : List (Int × FS)} {F : FS}, YP T K = some F → K ∈ T.map (·.1)
  | [], _, h => by cases h
  | (k, F) :: T, F', h => by
    rw [YP] at h
    split at h
    · rename_i e; simp [e]
    exact List.mem_cons_of_mem _ (Q7f h)
theorem QdH {K : Int} {s : ByteArray} {N : Int} {kinds : List Int} (h : Ql K s N kinds = true) : K = 1 ∨ K = 2 ∨ K = 3 ∨ K = 4 ∨ K = 5 ∨ K = 6 ∨ K = 7 ∨ K = 8 ∨ K = 9 ∨ K = 10 ∨ K = 11 ∨ K = 12 ∨ K = 13 ∨ K = 14 ∨ K = 19 ∨ K = 20 ∨ K = 21 ∨ K = 22 ∨ K = 23 ∨ K = 24 ∨ K = 25 ∨ K = 26 ∨ K = 27 ∨ K = 28 ∨ K = 29 ∨ K = 30 ∨ K = 31 ∨ K = 32 ∨ K = 33 ∨ K = 36 ∨ K = 15 ∨ K = 16 ∨ K = 17 ∨ K = 18 ∨ K = 34 ∨ K = 35 := by
  cases e : YP formT K with
  | none => rw [Ql, e] at h; cases h
  | some F => simpa [formT] using Q7f e
theorem fm_1 {s : ByteArray} {N : Int} {ks : List G} (h : Ql 1 s N (ks.map G.K) = true) : Fm 1 s.toList N ks := by
  obtain ⟨ht, hl, hm, he, hr⟩ := Qz (F := _) h; have hl : (0 : Int) ≤ N := hl; have hm : N ≤ 0 := hm; obtain rfl : N = 0 := by omega
  rw [Zl ht]
  match ks, he, hr with
  | l, he, hr =>
    have hr : (l.map G.K).all (Q0U) = true := hr; exact .prog (fun k hk => isD_of (List.all_eq_true.1 hr _ (List.mem_map_of_mem hk)))
theorem fm_2 {s : ByteArray} {N : Int} {ks : List G} (h : Ql 2 s N (ks.map G.K) = true) : Fm 2 s.toList N ks := by
  obtain ⟨ht, hl, hm, he, hr⟩ := Qz (F := _) h; have hl : (0 : Int) ≤ N := hl; have hm : N ≤ 0 := hm; obtain rfl : N = 0 := by omega
  have n := JC ht
  match ks, he, hr with
  | [], he, _ =>
    exact .looper n
  | _ :: _, _, hr => exact absurd (show false = true from hr) (by decide)
theorem fm_3 {s : ByteArray} {N : Int} {ks : List G} (h : Ql 3 s N (ks.map G.K) = true) : Fm 3 s.toList N ks := by
  obtain ⟨ht, hl, hm, he, hr⟩ := Qz (F := _) h; have hl : (0 : Int) ≤ N := hl; have hm : N ≤ 0 := hm; obtain rfl : N = 0 := by omega
  have n := JC ht
  match ks, he, hr with
  | l, he, hr =>
    have hr : (l.map G.K).all (Y4 [4]) = true := hr; exact .cls n (fun k hk => YJ (List.all_eq_true.1 hr _ (List.mem_map_of_mem hk)))
theorem fm_4 {s : ByteArray} {N : Int} {ks : List G} (h : Ql 4 s N (ks.map G.K) = true) : Fm 4 s.toList N ks := by
  obtain ⟨ht, hl, hm, he, hr⟩ := Qz (F := _) h; have hl : (0 : Int) ≤ N := hl; have hm : N ≤ 0 := hm; obtain rfl : N = 0 := by omega
  have n := JC ht
  match ks, he, hr with
  | [a], he, _ =>
    have he : (Y4 [5] a.K && true) = true := he; obtain ⟨p0, he⟩ := bt he; exact .mem n (YJ p0)
  | [], he, _ => simp [Qx] at he
  | a :: _ :: _, _, hr => exact absurd (show false = true from hr) (by decide)
theorem fm_5 {s : ByteArray} {N : Int} {ks : List G} (h : Ql 5 s N (ks.map G.K) = true) : Fm 5 s.toList N ks := by
  obtain ⟨ht, hl, hm, he, hr⟩ := Qz (F := _) h; have hl : (0 : Int) ≤ N := hl; have hm : N ≤ 0 := hm; obtain rfl : N = 0 := by omega
  obtain ⟨w1, w2⟩ := QcD ht
  match ks, he, hr with
  | [], he, _ =>
    exact .typ w1 w2
  | _ :: _, _, hr => exact absurd (show false = true from hr) (by decide)
theorem fm_6 {s : ByteArray} {N : Int} {ks : List G} (h : Ql 6 s N (ks.map G.K) = true) : Fm 6 s.toList N ks := by
  obtain ⟨ht, hl, hm, he, hr⟩ := Qz (F := _) h; have hl : (0 : Int) ≤ N := hl; have hm : N ≤ 0 := hm; obtain rfl : N = 0 := by omega
  have n := JC ht
  match ks, he, hr with
  | [a], he, _ =>
    have he : (Y4 [5] a.K && true) = true := he; obtain ⟨p0, he⟩ := bt he; exact .glob n (YJ p0)
  | [], he, _ => simp [Qx] at he
  | a :: _ :: _, _, hr => exact absurd (show false = true from hr) (by decide)
theorem fm_7 {s : ByteArray} {N : Int} {ks : List G} (h : Ql 7 s N (ks.map G.K) = true) : Fm 7 s.toList N ks := by
  obtain ⟨ht, hl, hm, he, hr⟩ := Qz (F := _) h; have hl : (0 : Int) ≤ N := hl; have hm : N ≤ 0 := hm; obtain rfl : N = 0 := by omega
  have n := JC ht
  match ks, he, hr with
  | [a], he, _ =>
    have he : (Y4 [12] a.K && true) = true := he; obtain ⟨p0, he⟩ := bt he; exact .func n (YJ p0)
  | [], he, _ => simp [Qx] at he
  | a :: _ :: _, _, hr => exact absurd (show false = true from hr) (by decide)
theorem fm_8 {s : ByteArray} {N : Int} {ks : List G} (h : Ql 8 s N (ks.map G.K) = true) : Fm 8 s.toList N ks := by
  obtain ⟨ht, hl, hm, he, hr⟩ := Qz (F := _) h; have hl : (0 : Int) ≤ N := hl; have hm : N ≤ 0 := hm; obtain rfl : N = 0 := by omega
  have n := JC ht
  match ks, he, hr with
  | a :: l, he, hr =>
    have he : (Y4 [29] a.K && true) = true := he; obtain ⟨p0, he⟩ := bt he; have hr : (l.map G.K).all (Y4 [9]) = true := hr; exact .comp n (YJ p0) (fun k hk => YJ (List.all_eq_true.1 hr _ (List.mem_map_of_mem hk)))
  | [], he, _ => simp [Qx] at he
theorem fm_9 {s : ByteArray} {N : Int} {ks : List G} (h : Ql 9 s N (ks.map G.K) = true) : Fm 9 s.toList N ks := by
  obtain ⟨ht, hl, hm, he, hr⟩ := Qz (F := _) h; have hl : (0 : Int) ≤ N := hl; have hm : N ≤ 3 := hm; rw [Zl ht]
  match ks, he, hr with
  | [a], he, _ =>
    have he : (Y4 [12] a.K && true) = true := he; obtain ⟨p0, he⟩ := bt he; exact .life ⟨hl, hm⟩ (YJ p0)
  | [], he, _ => simp [Qx] at he
  | a :: _ :: _, _, hr => exact absurd (show false = true from hr) (by decide)
theorem fm_10 {s : ByteArray} {N : Int} {ks : List G} (h : Ql 10 s N (ks.map G.K) = true) : Fm 10 s.toList N ks := by
  obtain ⟨ht, hl, hm, he, hr⟩ := Qz (F := _) h; have hl : (0 : Int) ≤ N := hl; have hm : N ≤ 1 := hm; have n := JC ht
  match ks, he, hr with
  | [a, b], he, _ =>
    have he : (Y4 [29] a.K && (Y4 [12] b.K && true)) = true := he; obtain ⟨p0, he⟩ := bt he; obtain ⟨p1, he⟩ := bt he; exact .event n (by omega) (YJ p0) (YJ p1)
  | [], he, _ => simp [Qx] at he
  | [a], he, _ => simp [Qx] at he
  | a :: b :: _ :: _, _, hr => exact absurd (show false = true from hr) (by decide)
theorem fm_11 {s : ByteArray} {N : Int} {ks : List G} (h : Ql 11 s N (ks.map G.K) = true) : Fm 11 s.toList N ks := by
  obtain ⟨ht, hl, hm, he, hr⟩ := Qz (F := _) h; have hl : (0 : Int) ≤ N := hl; have hm : N ≤ 0 := hm; obtain rfl : N = 0 := by omega
  rw [Zl ht]
  match ks, he, hr with
  | [a], he, _ =>
    have he : (Y4 [12] a.K && true) = true := he; obtain ⟨p0, he⟩ := bt he; exact .main (YJ p0)
  | [], he, _ => simp [Qx] at he
  | a :: _ :: _, _, hr => exact absurd (show false = true from hr) (by decide)
theorem fm_12 {s : ByteArray} {N : Int} {ks : List G} (h : Ql 12 s N (ks.map G.K) = true) : Fm 12 s.toList N ks := by
  obtain ⟨ht, hl, hm, he, hr⟩ := Qz (F := _) h; have hl : (0 : Int) ≤ N := hl; have hm : N ≤ 0 := hm; obtain rfl : N = 0 := by omega
  rw [Zl ht]
  match ks, he, hr with
  | l, he, hr =>
    have hr : (l.map G.K).all (Q1J) = true := hr; exact .block (fun k hk => isS_of (List.all_eq_true.1 hr _ (List.mem_map_of_mem hk)))
theorem fm_13 {s : ByteArray} {N : Int} {ks : List G} (h : Ql 13 s N (ks.map G.K) = true) : Fm 13 s.toList N ks := by
  obtain ⟨ht, hl, hm, he, hr⟩ := Qz (F := _) h; have hl : (0 : Int) ≤ N := hl; have hm : N ≤ 0 := hm; obtain rfl : N = 0 := by omega
  have n := JC ht
  match ks, he, hr with
  | [a, b], he, _ =>
    have he : (Y4 [5] a.K && (Qw b.K && true)) = true := he; obtain ⟨p0, he⟩ := bt he; obtain ⟨p1, he⟩ := bt he; exact .var n (YJ p0) (ZY p1)
  | [], he, _ => simp [Qx] at he
  | [a], he, _ => simp [Qx] at he
  | a :: b :: _ :: _, _, hr => exact absurd (show false = true from hr) (by decide)
theorem fm_14 {s : ByteArray} {N : Int} {ks : List G} (h : Ql 14 s N (ks.map G.K) = true) : Fm 14 s.toList N ks := by
  obtain ⟨ht, hl, hm, he, hr⟩ := Qz (F := _) h; have hl : (0 : Int) ≤ N := hl; have hm : N ≤ 0 := hm; obtain rfl : N = 0 := by omega
  rw [Zl ht]
  match ks, he, hr with
  | [a, b], he, _ =>
    have he : (Q4a a.K && (Qw b.K && true)) = true := he; obtain ⟨p0, he⟩ := bt he; obtain ⟨p1, he⟩ := bt he; exact .set (Q9L p0) (ZY p1)
  | [], he, _ => simp [Qx] at he
  | [a], he, _ => simp [Qx] at he
  | a :: b :: _ :: _, _, hr => exact absurd (show false = true from hr) (by decide)
theorem fm_15 {s : ByteArray} {N : Int} {ks : List G} (h : Ql 15 s N (ks.map G.K) = true) : Fm 15 s.toList N ks := by
  obtain ⟨ht, hl, hm, he, hr⟩ := Qz (F := _) h; have hl : (0 : Int) ≤ N := hl; have hm : N ≤ 0 := hm; obtain rfl : N = 0 := by omega
  rw [Zl ht]
  match ks, he, hr with
  | [a], he, _ =>
    have he : (Qw a.K && true) = true := he; obtain ⟨p0, he⟩ := bt he; exact .word (by decide) (ZY p0)
  | [], he, _ => simp [Qx] at he
  | a :: _ :: _, _, hr => exact absurd (show false = true from hr) (by decide)
theorem fm_16 {s : ByteArray} {N : Int} {ks : List G} (h : Ql 16 s N (ks.map G.K) = true) : Fm 16 s.toList N ks := by
  obtain ⟨ht, hl, hm, he, hr⟩ := Qz (F := _) h; have hl : (0 : Int) ≤ N := hl; have hm : N ≤ 0 := hm; obtain rfl : N = 0 := by omega
  rw [Zl ht]
  match ks, he, hr with
  | [a], he, _ =>
    have he : (Qw a.K && true) = true := he; obtain ⟨p0, he⟩ := bt he; exact .word (by decide) (ZY p0)
  | [], he, _ => simp [Qx] at he
  | a :: _ :: _, _, hr => exact absurd (show false = true from hr) (by decide)
theorem fm_17 {s : ByteArray} {N : Int} {ks : List G} (h : Ql 17 s N (ks.map G.K) = true) : Fm 17 s.toList N ks := by
  obtain ⟨ht, hl, hm, he, hr⟩ := Qz (F := _) h; have hl : (0 : Int) ≤ N := hl; have hm : N ≤ 0 := hm; obtain rfl : N = 0 := by omega
  rw [Zl ht]
  match ks, he, hr with
  | [a], he, _ =>
    have he : (Qw a.K && true) = true := he; obtain ⟨p0, he⟩ := bt he; exact .word (by decide) (ZY p0)
  | [], he, _ => simp [Qx] at he
  | a :: _ :: _, _, hr => exact absurd (show false = true from hr) (by decide)
theorem fm_18 {s : ByteArray} {N : Int} {ks : List G} (h : Ql 18 s N (ks.map G.K) = true) : Fm 18 s.toList N ks := by
  obtain ⟨ht, hl, hm, he, hr⟩ := Qz (F := _) h; have hl : (0 : Int) ≤ N := hl; have hm : N ≤ 0 := hm; obtain rfl : N = 0 := by omega
  rw [Zl ht]
  match ks, he, hr with
  | [a], he, _ =>
    have he : (Qw a.K && true) = true := he; obtain ⟨p0, he⟩ := bt he; exact .word (by decide) (ZY p0)
  | [], he, _ => simp [Qx] at he
  | a :: _ :: _, _, hr => exact absurd (show false = true from hr) (by decide)
theorem fm_19 {s : ByteArray} {N : Int} {ks : List G} (h : Ql 19 s N (ks.map G.K) = true) : Fm 19 s.toList N ks := by
  obtain ⟨ht, hl, hm, he, hr⟩ := Qz (F := _) h; have hl : (-1 : Int) ≤ N := hl; have hm : N ≤ 2147483647 := hm; have n := JC ht
  match ks, he, hr with
  | [a], he, _ =>
    have he : (Qw a.K && true) = true := he; obtain ⟨p0, he⟩ := bt he; exact .post n ⟨hl, hm⟩ (ZY p0)
  | [a, d], he, hr =>
    have he : (Qw a.K && true) = true := he; obtain ⟨p0, he⟩ := bt he; have hr : Q4a d.K = true := hr; exact .posto n ⟨hl, hm⟩ (ZY p0) (Q9L hr)
  | [], he, _ => simp [Qx] at he
  | a :: _ :: _ :: _, _, hr => exact absurd (show false = true from hr) (by decide)
theorem fm_20 {s : ByteArray} {N : Int} {ks : List G} (h : Ql 20 s N (ks.map G.K) = true) : Fm 20 s.toList N ks := by
  obtain ⟨ht, hl, hm, he, hr⟩ := Qz (F := _) h; have hl : (0 : Int) ≤ N := hl; have hm : N ≤ 0 := hm; obtain rfl : N = 0 := by omega
  rw [Zl ht]
  match ks, he, hr with
  | [a], he, _ =>
    have he : (Qw a.K && true) = true := he; obtain ⟨p0, he⟩ := bt he; exact .spawn (ZY p0)
  | [a, d], he, hr =>
    have he : (Qw a.K && true) = true := he; obtain ⟨p0, he⟩ := bt he; have hr : Q4a d.K = true := hr; exact .spawno (ZY p0) (Q9L hr)
  | [], he, _ => simp [Qx] at he
  | a :: _ :: _ :: _, _, hr => exact absurd (show false = true from hr) (by decide)
theorem fm_21 {s : ByteArray} {N : Int} {ks : List G} (h : Ql 21 s N (ks.map G.K) = true) : Fm 21 s.toList N ks := by
  obtain ⟨ht, hl, hm, he, hr⟩ := Qz (F := _) h; have hl : (0 : Int) ≤ N := hl; have hm : N ≤ 0 := hm; obtain rfl : N = 0 := by omega
  have n := JC ht
  match ks, he, hr with
  | [], he, _ =>
    exact .able (by decide) n
  | _ :: _, _, hr => exact absurd (show false = true from hr) (by decide)
theorem fm_22 {s : ByteArray} {N : Int} {ks : List G} (h : Ql 22 s N (ks.map G.K) = true) : Fm 22 s.toList N ks := by
  obtain ⟨ht, hl, hm, he, hr⟩ := Qz (F := _) h; have hl : (0 : Int) ≤ N := hl; have hm : N ≤ 0 := hm; obtain rfl : N = 0 := by omega
  have n := JC ht
  match ks, he, hr with
  | [], he, _ =>
    exact .able (by decide) n
  | _ :: _, _, hr => exact absurd (show false = true from hr) (by decide)
theorem fm_23 {s : ByteArray} {N : Int} {ks : List G} (h : Ql 23 s N (ks.map G.K) = true) : Fm 23 s.toList N ks := by
  obtain ⟨ht, hl, hm, he, hr⟩ := Qz (F := _) h; have hl : (0 : Int) ≤ N := hl; have hm : N ≤ 0 := hm; obtain rfl : N = 0 := by omega
  rw [Zl ht]
  match ks, he, hr with
  | [a, b, c], he, _ =>
    have he : (Qw a.K && (Y4 [12] b.K && (Y4 [12] c.K && true))) = true := he; obtain ⟨p0, he⟩ := bt he; obtain ⟨p1, he⟩ := bt he; obtain ⟨p2, he⟩ := bt he; exact .iff (ZY p0) (YJ p1) (YJ p2)
  | [], he, _ => simp [Qx] at he
  | [a], he, _ => simp [Qx] at he
  | [a, b], he, _ => simp [Qx] at he
  | a :: b :: c :: _ :: _, _, hr => exact absurd (show false = true from hr) (by decide)
theorem fm_24 {s : ByteArray} {N : Int} {ks : List G} (h : Ql 24 s N (ks.map G.K) = true) : Fm 24 s.toList N ks := by
  obtain ⟨ht, hl, hm, he, hr⟩ := Qz (F := _) h; have hl : (0 : Int) ≤ N := hl; have hm : N ≤ 0 := hm; obtain rfl : N = 0 := by omega
  rw [Zl ht]
  match ks, he, hr with
  | [a, b], he, _ =>
    have he : (Qw a.K && (Y4 [12] b.K && true)) = true := he; obtain ⟨p0, he⟩ := bt he; obtain ⟨p1, he⟩ := bt he; exact .whil (ZY p0) (YJ p1)
  | [], he, _ => simp [Qx] at he
  | [a], he, _ => simp [Qx] at he
  | a :: b :: _ :: _, _, hr => exact absurd (show false = true from hr) (by decide)
theorem fm_25 {s : ByteArray} {N : Int} {ks : List G} (h : Ql 25 s N (ks.map G.K) = true) : Fm 25 s.toList N ks := by
  obtain ⟨ht, hl, hm, he, hr⟩ := Qz (F := _) h; have hl : (0 : Int) ≤ N := hl; have hm : N ≤ 0 := hm; obtain rfl : N = 0 := by omega
  rw [Zl ht]
  match ks, he, hr with
  | [], he, _ =>
    exact .ret 
  | _ :: _, _, hr => exact absurd (show false = true from hr) (by decide)
theorem fm_26 {s : ByteArray} {N : Int} {ks : List G} (h : Ql 26 s N (ks.map G.K) = true) : Fm 26 s.toList N ks := by
  obtain ⟨ht, hl, hm, he, hr⟩ := Qz (F := _) h; have hl : (0 : Int) ≤ N := hl; have hm : N ≤ 2147483647 := hm; rw [Zl ht]
  match ks, he, hr with
  | [], he, _ =>
    exact .num ⟨hl, hm⟩
  | _ :: _, _, hr => exact absurd (show false = true from hr) (by decide)
theorem fm_27 {s : ByteArray} {N : Int} {ks : List G} (h : Ql 27 s N (ks.map G.K) = true) : Fm 27 s.toList N ks := by
  obtain ⟨ht, hl, hm, he, hr⟩ := Qz (F := _) h; have hl : (0 : Int) ≤ N := hl; have hm : N ≤ 0 := hm; obtain rfl : N = 0 := by omega
  rw [Zl ht]
  match ks, he, hr with
  | [], he, _ =>
    exact .null 
  | _ :: _, _, hr => exact absurd (show false = true from hr) (by decide)
theorem fm_28 {s : ByteArray} {N : Int} {ks : List G} (h : Ql 28 s N (ks.map G.K) = true) : Fm 28 s.toList N ks := by
  obtain ⟨ht, hl, hm, he, hr⟩ := Qz (F := _) h; have hl : (0 : Int) ≤ N := hl; have hm : N ≤ 0 := hm; obtain rfl : N = 0 := by omega
  rw [Zl ht]
  match ks, he, hr with
  | [], he, _ =>
    exact .it 
  | _ :: _, _, hr => exact absurd (show false = true from hr) (by decide)
theorem fm_29 {s : ByteArray} {N : Int} {ks : List G} (h : Ql 29 s N (ks.map G.K) = true) : Fm 29 s.toList N ks := by
  obtain ⟨ht, hl, hm, he, hr⟩ := Qz (F := _) h; have hl : (0 : Int) ≤ N := hl; have hm : N ≤ 0 := hm; obtain rfl : N = 0 := by omega
  have n := JC ht
  match ks, he, hr with
  | [], he, _ =>
    exact .use n
  | _ :: _, _, hr => exact absurd (show false = true from hr) (by decide)
theorem fm_30 {s : ByteArray} {N : Int} {ks : List G} (h : Ql 30 s N (ks.map G.K) = true) : Fm 30 s.toList N ks := by
  obtain ⟨ht, hl, hm, he, hr⟩ := Qz (F := _) h; have hl : (0 : Int) ≤ N := hl; have hm : N ≤ 0 := hm; obtain rfl : N = 0 := by omega
  have n := JC ht
  match ks, he, hr with
  | [a], he, _ =>
    have he : (Qw a.K && true) = true := he; obtain ⟨p0, he⟩ := bt he; exact .dot n (ZY p0)
  | [], he, _ => simp [Qx] at he
  | a :: _ :: _, _, hr => exact absurd (show false = true from hr) (by decide)
theorem fm_31 {s : ByteArray} {N : Int} {ks : List G} (h : Ql 31 s N (ks.map G.K) = true) : Fm 31 s.toList N ks := by
  obtain ⟨ht, hl, hm, he, hr⟩ := Qz (F := _) h; have hl : (0 : Int) ≤ N := hl; have hm : N ≤ 0 := hm; obtain rfl : N = 0 := by omega
  rw [Zl ht]
  match ks, he, hr with
  | [a, b], he, _ =>
    have he : (Qw a.K && (Qw b.K && true)) = true := he; obtain ⟨p0, he⟩ := bt he; obtain ⟨p1, he⟩ := bt he; exact .ix (ZY p0) (ZY p1)
  | [], he, _ => simp [Qx] at he
  | [a], he, _ => simp [Qx] at he
  | a :: b :: _ :: _, _, hr => exact absurd (show false = true from hr) (by decide)
theorem fm_32 {s : ByteArray} {N : Int} {ks : List G} (h : Ql 32 s N (ks.map G.K) = true) : Fm 32 s.toList N ks := by
  obtain ⟨ht, hl, hm, he, hr⟩ := Qz (F := _) h; have hl : (0 : Int) ≤ N := hl; have hm : N ≤ 0 := hm; obtain rfl : N = 0 := by omega
  have n := op_of ht
  match ks, he, hr with
  | [a, b], he, _ =>
    have he : (Qw a.K && (Qw b.K && true)) = true := he; obtain ⟨p0, he⟩ := bt he; obtain ⟨p1, he⟩ := bt he; exact .op n (ZY p0) (ZY p1)
  | [], he, _ => simp [Qx] at he
  | [a], he, _ => simp [Qx] at he
  | a :: b :: _ :: _, _, hr => exact absurd (show false = true from hr) (by decide)
theorem fm_33 {s : ByteArray} {N : Int} {ks : List G} (h : Ql 33 s N (ks.map G.K) = true) : Fm 33 s.toList N ks := by
  obtain ⟨ht, hl, hm, he, hr⟩ := Qz (F := _) h; have hl : (0 : Int) ≤ N := hl; have hm : N ≤ 0 := hm; obtain rfl : N = 0 := by omega
  have n := JC ht
  match ks, he, hr with
  | [], he, _ =>
    exact .new n
  | _ :: _, _, hr => exact absurd (show false = true from hr) (by decide)
theorem fm_34 {s : ByteArray} {N : Int} {ks : List G} (h : Ql 34 s N (ks.map G.K) = true) : Fm 34 s.toList N ks := by
  obtain ⟨ht, hl, hm, he, hr⟩ := Qz (F := _) h; have hl : (0 : Int) ≤ N := hl; have hm : N ≤ 0 := hm; obtain rfl : N = 0 := by omega
  rw [Zl ht]
  match ks, he, hr with
  | [a], he, _ =>
    have he : (Qw a.K && true) = true := he; obtain ⟨p0, he⟩ := bt he; exact .arr (by decide) (ZY p0)
  | [], he, _ => simp [Qx] at he
  | a :: _ :: _, _, hr => exact absurd (show false = true from hr) (by decide)
theorem fm_35 {s : ByteArray} {N : Int} {ks : List G} (h : Ql 35 s N (ks.map G.K) = true) : Fm 35 s.toList N ks := by
  obtain ⟨ht, hl, hm, he, hr⟩ := Qz (F := _) h; have hl : (0 : Int) ≤ N := hl; have hm : N ≤ 0 := hm; obtain rfl : N = 0 := by omega
  rw [Zl ht]
  match ks, he, hr with
  | [a], he, _ =>
    have he : (Qw a.K && true) = true := he; obtain ⟨p0, he⟩ := bt he; exact .arr (by decide) (ZY p0)
  | [], he, _ => simp [Qx] at he
  | a :: _ :: _, _, hr => exact absurd (show false = true from hr) (by decide)
theorem fm_36 {s : ByteArray} {N : Int} {ks : List G} (h : Ql 36 s N (ks.map G.K) = true) : Fm 36 s.toList N ks := by
  obtain ⟨ht, hl, hm, he, hr⟩ := Qz (F := _) h; have hl : (0 : Int) ≤ N := hl; have hm : N ≤ 0 := hm; obtain rfl : N = 0 := by omega
  rw [Zl ht]
  match ks, he, hr with
  | [a], he, _ =>
    have he : (Y4 [12] a.K && true) = true := he; obtain ⟨p0, he⟩ := bt he; exact .fn (YJ p0)
  | [], he, _ => simp [Qx] at he
  | a :: _ :: _, _, hr => exact absurd (show false = true from hr) (by decide)
theorem QdI {K : Int} {s : ByteArray} {N : Int} {ks : List G} (h : Ql K s N (ks.map G.K) = true) : Fm K s.toList N ks := by
  have hK := QdH h; rcases hK with rfl | rfl | rfl | rfl | rfl | rfl | rfl | rfl | rfl | rfl | rfl | rfl | rfl | rfl | rfl | rfl | rfl | rfl | rfl | rfl | rfl | rfl | rfl | rfl | rfl | rfl | rfl | rfl | rfl | rfl | rfl | rfl | rfl | rfl | rfl | rfl
  · exact fm_1 h
  · exact fm_2 h
  · exact fm_3 h
  · exact fm_4 h
  · exact fm_5 h
  · exact fm_6 h
  · exact fm_7 h
  · exact fm_8 h
  · exact fm_9 h
  · exact fm_10 h
  · exact fm_11 h
  · exact fm_12 h
  · exact fm_13 h
  · exact fm_14 h
  · exact fm_19 h
  · exact fm_20 h
  · exact fm_21 h
  · exact fm_22 h
  · exact fm_23 h
  · exact fm_24 h
  · exact fm_25 h
  · exact fm_26 h
  · exact fm_27 h
  · exact fm_28 h
  · exact fm_29 h
  · exact fm_30 h
  · exact fm_31 h
  · exact fm_32 h
  · exact fm_33 h
  · exact fm_36 h
  · exact fm_15 h
  · exact fm_16 h
  · exact fm_17 h
  · exact fm_18 h
  · exact fm_34 h
  exact fm_35 h
end Go.Proofs.YtkidomfnmpnmaaaGreatDoor
namespace Go.Proofs.YtkidomfnmpnmaaaGreatDoor
open Go.X Go.Nam
def FmAt (T : List Tw) (i : Nat) : Prop := Ap.Fm ((vw T).K i) ((vw T).s i).toList ((vw T).N i) (((vw T).ks i).map fun k => Ap.G.mk ((vw T).K k) [] 0 [])
theorem Q9D (T : List Tw) (l : List Int) : Z8 T l = (l.map fun k => Ap.G.mk ((vw T).K k) [] 0 []).map Ap.G.K := by
  rw [List.map_map]; unfold Z8; refine List.map_congr_left fun k _ => ?_; show _ = (vw T).K k; show _ = match T[k.toNat]? with | some w => w.K | none => 0
  cases T[k.toNat]? <;> rfl
theorem Q4X {T : List Tw} {w : Tw} {nest : Int} {R : Nat → Nat → Prop} {rec : Nat → Int → Option Nat} (hr : ∀ a nest n, rec a nest = some n → R a n ∧ ∀ i, a ≤ i → i < n → FmAt T i) : ∀ (l : List Int) (i next n : Nat), YB rec T w nest l i next = some n → kds R l next n ∧ ∀ i, next ≤ i → i < n → FmAt T i
  | [], _, next, n, h => by
    simp only [YB, Option.some.injEq] at h; exact ⟨h, fun i h1 h2 => by omega⟩
  | k :: l, i, next, n, h => by
    simp only [YB] at h
    split at h
    · rename_i hk
      split at h
      · split at h
        · rename_i q hq; obtain ⟨h1, h2⟩ := hr _ _ _ hq; obtain ⟨h3, h4⟩ := Q4X hr l _ _ _ h; refine ⟨⟨hk, q, h1, h3⟩, fun j h5 h6 => ?_⟩; by_cases h7 : j < q
          · exact h2 j h5 h7
          exact h4 j (by omega) h6
        cases h
      cases h
    cases h
theorem Q6w {T : List Tw} : ∀ (f a : Nat) (nest : Int) (n : Nat), ZG T f a nest = some n → sub (vw T) f a n ∧ ∀ i, a ≤ i → i < n → FmAt T i
  | 0, _, _, _, h => by simp [ZG] at h
  | f + 1, a, nest, n, h => by
    simp only [ZG] at h
    split at h
    · rename_i w hw; have hlt := (List.getElem?_eq_some_iff.1 hw).1
      have ew : (vw T).K a = w.K ∧ (vw T).s a = w.s ∧ (vw T).N a = w.N ∧ (vw T).ks a = w.kids := by
        simp only [vw, Int.toNat_natCast, hw]; exact ⟨trivial, trivial, trivial, trivial⟩
      split at h
      · cases h
      cases hq : YB (ZG T f) T w nest w.kids 0 (a + 1) with
      | none => rw [hq] at h; cases h
      | some q =>
        rw [hq] at h; simp only [Qed] at h
        split at h
        · rename_i hok; obtain rfl : q = n := by simpa using h
          obtain ⟨h1, h2⟩ := Q4X (Q6w f) _ _ _ _ hq; refine ⟨⟨hlt, by rw [ew.2.2.2]; exact h1⟩, fun i h3 h4 => ?_⟩; by_cases e : i = a
          · subst e; unfold FmAt; rw [ew.1, ew.2.1, ew.2.2.1, ew.2.2.2]; rw [Q9D] at hok; exact QdI hok
          exact h2 i (by omega) h4
        cases h
    cases h
theorem Qeb {K N : Int} {s : Ap.B} {ks : List Ap.G} (F : Ap.Fm K s N ks) (h : K = 9) : 0 ≤ N ∧ N ≤ 3 := by
  cases F <;> first | assumption | omega
theorem QcT (s : ByteArray) : s.size = s.toList.length := by
  rw [ByteArray.toList_eq]; rfl
theorem may_v {T : List Tw} (h : Q4b T = true) (hT : T.length ≤ 1000) (hs : ∀ t, t ∈ T → t.s.toList.length ≤ 100) : MayV T := by
  simp only [Q4b, Bool.and_eq_true, decide_eq_true_eq] at h; obtain ⟨⟨h1, h2⟩, h3⟩ := h; have hp : 0 < T.length := by omega
  cases hw : ZG T (T.length + 1) 0 0 with
  | none => rw [hw] at h3; simp [enc] at h3
  | some n =>
    rw [hw] at h3; obtain rfl : n = T.length := by simp only [enc] at h3; omega
    obtain ⟨h4, h5⟩ := Q6w _ _ _ _ hw
    have hK0 : (vw T).K 0 = 1 := by
      rw [Q3O hp] at h2; simp only [vw, show ((0 : Int)).toNat = 0 from rfl, List.getElem?_eq_getElem hp]; exact h2
    refine ⟨⟨fun i hi => h5 i (Nat.zero_le _) hi, fun i => ?_, hT⟩, ⟨_, h4⟩, ?_, fun i hi => ?_, hp⟩
    · show (match T[i.toNat]? with | some w => w.s | none => .empty : ByteArray).size ≤ 100; cases ht : T[i.toNat]? with
      | none => exact Nat.zero_le _
      | some w => show w.s.size ≤ 100; rw [QcT]; exact hs w (List.mem_of_getElem? ht)
    · rw [hK0]; decide
    by_cases hlt : i < T.length
    · exact Qeb (h5 i (Nat.zero_le _) hlt) hi
    simp only [vw, Int.toNat_natCast, List.getElem?_eq_none (Nat.le_of_not_lt hlt)] at hi; cases hi
end Go.Proofs.YtkidomfnmpnmaaaGreatDoor
namespace Go.Proofs.YtkidomfnmpnmaaaGreatDoor
open Go.X Go.Nam
section
variable {h : Hp} {a b : Value} {xs : List Int}
end
end Go.Proofs.YtkidomfnmpnmaaaGreatDoor
