/- Chapter 4: what has a declared name. Conditions: the tables; the tree lies in the old memory; the resolver is one's own; what twigs come to is known for those below. Chapter 4: main, components' callbacks, inner functions. Conditions: the tables; the tree lies in the old memory; the resolver is one's own; what twigs come to is known for those below. Chapter 4: going over the scopes from the last on. Conditions: none. Chapter 4: captures laid down; what is left of the memory behind ranges. Conditions: none. Chapter 4: a local's use: found from the last scope on, captured by the functions between. Conditions: the tree lies in the old memory; the resolver is one's own. Chapter 4: a twig, by its rule. Conditions: the tables; the tree lies in the old memory; the resolver is one's own. Chapter 4: a declaration put among its like. Conditions: the resolver's pieces are one's own. Chapter 4: the declarations. Conditions: the tree lies in the old memory; the resolver is one's own. Chapter 4: the resolver made. Conditions: none. Chapter 4: Resolve. Conditions: the tables; the tree lies in the memory. Chapter 4: the forms of twigs, as the plain texts on trees have them. Conditions: none. Chapter 4: a tree that may be, as the plain texts have it. Conditions: none. Chapter 4: rows that are the same. Conditions: none. -/
import Derived.Test.YtkidomfnmpnmaaaGreatDoorLc
import Derived.Test.YtkidomfnmpnmaaaGreatDoorXd
import Derived.Test.YtkidomfnmpnmaaaGreatDoorXc
import Derived.Test.YtkidomfnmpnmaaaGreatDoorLa
namespace Go.Proofs.YtkidomfnmpnmaaaGreatDoor
open Go.X Go.Nam
theorem Q80 {T : List Tw} {j : Nat} {t : Tw} (h : T[j]? = some t) : (vw T).s j = t.s ∧ (vw T).K j = t.K ∧ (vw T).N j = t.N := by
  simp only [vw, Int.toNat_natCast, h]; exact ⟨trivial, trivial, trivial⟩
theorem QcA {T : List Tw} {i : Nat} {t0 : Tw} (h0 : T[i]? = some t0) (hK : ZP t0.K = true) {r : Int} (hr : (r = -1 ∧ ∀ (i : Nat) t, T[i]? = some t → (decide (t.s = t0.s) && ZP t.K) = false) ∨ ∃ j : Nat, r = j ∧ (∃ t, T[j]? = some t ∧ (decide (t.s = t0.s) && ZP t.K) = true) ∧ ∀ (i : Nat) t, i < j → T[i]? = some t → (decide (t.s = t0.s) && ZP t.K) = false) : ((ZG (vw T) t0.s).getD 0 : Int) = r := by
  rcases hr with ⟨_, h1⟩ | ⟨j, rfl, ⟨t, h2, h3⟩, h4⟩
  · have := h1 i t0 h0; rw [hK, decide_eq_true rfl] at this; cases this
  have hj := (List.getElem?_eq_some_iff.1 h2).1
  have e : ZG (vw T) t0.s = some j := by
    unfold ZG; rw [List.find?_range_eq_some]; obtain ⟨e1, e2, _⟩ := Q80 h2; refine ⟨by rw [e1, e2]; exact h3, List.mem_range.2 hj, fun m hm => ?_⟩; have hm2 : T[m]? = some T[m] := List.getElem?_eq_getElem (by omega); obtain ⟨e3, e4, _⟩ := Q80 hm2; rw [e3, e4, h4 m _ hm hm2]; rfl
  rw [e]; rfl
section
variable {h0 hE : Hp} {bs rs : List Nat} {rb : Nat} {sv : Value} {st : Nst} {T : List Tw} {i : Nat} {rec : Nst → Int → Nst} {k n w0 : Nat} {bl : List (Nat × Nat)}
set_option maxHeartbeats 4000000 in
theorem n47 (S0 : SH h0 [] [rsR rb sv st rs bs] hE) (R : Tre h0 sv T) (hi : i < T.length) (hC : Q8N h0 rb sv T rec k) (hr : KC (vw T) rec k) (B : Pow h0) (I : Inv (vw T) st i bl w0) (hk : kds (sub (vw T) k) ((vw T).ks i) (i + 1) n) (hbl : ∀ x, x ∈ bl → n ≤ x.2) (hK : ZP ((vw T).K i) = true) (hb : w0 + 2 + 4 * (n - (i + 1)) ≤ 100000) :
    C nmE 47 [ZB rb, iV i] hE fun _ g' => ∃ bs', SH hE bs [rsR rb sv (ZS (vw T) rec st i) rs bs'] g' := by
  have X := R.X; have hbb := hb; obtain ⟨ta, tc, rfl⟩ := X.val; obtain ⟨t0, b, o', cs, ee, m, hw0, Q⟩ := JU X hi; obtain rfl := Q.ta; obtain ⟨ka, kc, hks⟩ := Q.row.valM; obtain ⟨K0, s0, N0, L0, C0, k0, kids0⟩ := t0; simp only at hks; subst hks; have hall : (cs.drop (o' + Int.toNat (i : Int) * 6)).take 6 = twC K0 s0 N0 L0 C0 (.slice ka kids0.length kc) := Q.all; have qs : (vw T).s i = s0 := Q.s; have qK : (vw T).K i = K0 := Q.K; have hPn := R.P.n; have hi1 : i + 1 ≤ (vw T).n := hi
  have hdec : ZS (vw T) rec st i = (if K0 = 3 then JJ (vw T) rec (vw T).s ((vw T).ks i) [] (if ((ZG (vw T) s0).getD 0 : Int) < i then tell (vw T) st i 7 else st) else
    if K0 = 8 then JJ (vw T) rec (fun k => Q0p ((vw T).N k)) (((vw T).ks i).drop 1) [] (Z4 (vw T) (if ((ZG (vw T) s0).getD 0 : Int) < i then tell (vw T) st i 7 else st) i) else
    if K0 = 10 then J9 (vw T) rec (Z4 (vw T) (if ((ZG (vw T) s0).getD 0 : Int) < i then tell (vw T) st i 7 else st) i) i 1 s0 else
    if K0 = 7 then J9 (vw T) rec (if ((ZG (vw T) s0).getD 0 : Int) < i then tell (vw T) st i 7 else st) i 0 s0 else YI (vw T) rec (if ((ZG (vw T) s0).getD 0 : Int) < i then tell (vw T) st i 7 else st) i 0) := by
    unfold ZS; dsimp only; rw [qs, qK]
  rw [hdec]; rw [qK] at hK; refine Qf (fu := Tryz.f47) (by kernel_rfl) rfl ?_; have S := S0.enter; obtain ⟨w, E, ho, S⟩ := Qo (A := []) S; simp only [List.nil_append] at S; refine Qd ?_; refine Q4 gn rfl rfl ?_; refine Q9 gn rfl rfl ?_; refine Q0 (off := 0) gn rfl rfl (by kernel_rfl) ?_; refine Q0 (off := 0) gn rfl rfl (by kernel_rfl) ?_; refine Q6 gn rfl rfl (by kernel_rfl) (by exact S.cel 0 rfl) rfl ?_; refine Q4 gn rfl rfl ?_; refine Q8 (zz := 6) gn rfl rfl rfl (by kernel_rfl) (by omega) (by omega) ?_; refine Qs (n := 6) gn rfl rfl (by kernel_rfl) (by kernel_rfl) (S0.two S0.own0 S Q.g Q.lt) Q.len ?_; rw [hall]
  refine Zl (zv := .agg #[.int .i64 0, .string .empty, .int .i64 0, .int .i64 0, .int .i64 0, .slice none 0 0]) S gn rfl (by kernel_rfl) fun b1 g nb1 S => ?_; refine QL (n := 6) 0 S gn rfl rfl (by kernel_rfl) (by kernel_rfl) rfl rfl (by decide) rfl (fun g S => ag0) fun g S => ?_; simp only [List.set_cons_succ, List.set_cons_zero] at S; refine ZC ?_; refine Q4 gn rfl rfl ?_; refine Q9 gn rfl rfl ?_; refine Q0 (off := 0) gn rfl rfl (by kernel_rfl) ?_; refine Q0 (off := 0) gn rfl rfl (by kernel_rfl) ?_; refine Q6 gn rfl rfl (by kernel_rfl) (by exact S.cel 1 rfl) rfl ?_; refine KP gn rfl rfl ?_
  refine Qb [_, _] gn rfl rfl (by kernel_rfl) rfl (C.mono (n50 (X.ext (S0.all0 S0.own0 S)) (P := fun t => decide (t.s = s0) && ZP t.K) ⟨81, #[ZB b1], rfl, by kernel_rfl, fun h' e t _ hrw => n81 ((e.get b1 (S.lt1 0 rfl)).trans (S.cel 0 rfl)) (Nat.lt_of_lt_of_le (S.lt1 0 rfl) e.n) rfl hrw⟩ hPn) ?_); rintro v g ⟨⟨r, rfl, hfr⟩, x⟩; have hfr := QcA hw0 hK hfr; simp only at hfr; rw [hfr]; have S := S.grow x; refine ⟨ag0, ?_⟩; refine Q3 gn rfl rfl ?_; refine Q5 ?_
  refine Jb [(0, ZB rb), (1, iV i), (4, ZB b1)] (fun lv hh => ∃ (st1 : Nst) (bs1 : List Nat), lv = [] ∧ SH hE bs [cR b1 (.cells (twC K0 s0 N0 L0 C0 (.slice ka kids0.length kc)) 41 0), rsR rb (.slice (some ⟨b, o', none⟩) T.length tc) st1 rs bs1] hh ∧ (if r < (i : Int) then tell (vw T) st i 7 else st) = st1 ∧ Inv (vw T) st1 i bl (w0 + 1)) ?_ fun lv hh hJ => ?_
  · skip
    refine Qd ?_; refine Q4 gn rfl rfl ?_; refine Q4 gn rfl rfl ?_; refine Zo gn rfl rfl rfl ?_; refine Q5 ?_; refine Qa rfl (fun hb => ?_) fun hb => ?_
    · skip
      refine Q7 (by kernel_rfl) ?_; refine Q4 gn rfl rfl ?_; refine Q4 gn rfl rfl ?_; have S := Qp (A := [_]) S E; refine Qb [_, _, _] gn rfl rfl (by kernel_rfl) rfl (C.mono (n21 (S0.sub1 S0.own0 S 1 rfl) X hi (by have := I.bw; omega)) ?_); rintro v g ⟨bs', S2⟩; have S := S.ret 1 rfl S2; simp only [List.cons_append, List.nil_append, List.set_cons_succ, List.set_cons_zero] at S; obtain ⟨w, E, ho, S⟩ := Qo (A := [_]) S; simp only [List.cons_append, List.nil_append] at S; refine ⟨ag0, ?_⟩; refine Q5 ?_; exact Q1D [] (by repeat (first | exact trivial | refine ⟨rfl, ?_⟩)) ⟨_, _, rfl, Qp (A := [_]) S E, if_pos (by simpa using hb), I.tell i 7⟩
    refine Qe ?_; exact Q1D [] (by repeat (first | exact trivial | refine ⟨rfl, ?_⟩)) ⟨_, _, rfl, Qp (A := [_]) S E, if_neg (by simpa using hb), I.on (Nat.le_refl _) (by omega)⟩
  obtain ⟨st1, bs1, rfl, S, hst1, J1⟩ := hJ; rw [hst1]; obtain ⟨w, E, ho, S⟩ := Qo (A := [_]) S; simp only [List.cons_append, List.nil_append] at S; obtain ⟨D3, Don, D7, Delse⟩ := Q6O R.P J1 hi hk hbl (by rw [qK]; exact hK) hbb; rw [qK] at D3 Don D7 Delse; rw [qs] at Don D7; refine Qd ?_; refine Q0 (off := 0) gn rfl rfl (by kernel_rfl) ?_; refine Q6 gn rfl rfl (by kernel_rfl) (by exact S.cel 0 rfl) rfl ?_; refine Q5 ?_; refine Qh ?_; refine Qd ?_; refine Qr gn rfl rfl rfl ?_; refine Q3 gn rfl rfl ?_; refine Q5 ?_; refine Qa rfl (fun hb => ?_) fun hb => ?_
  · skip
    have h3 : K0 = 3 := by simpa using hb
    rw [if_pos h3]; refine Q7 (by kernel_rfl) ?_; refine Q4 gn rfl rfl ?_; refine Q4 gn rfl rfl ?_; have S := Qp (A := [_]) S E; refine Qb [_, _, _, _] gn rfl rfl (by kernel_rfl) rfl (C.mono (n82 (S0.sub1 S0.own0 S 1 rfl) (fr := 0) (Qak := (vw T).s) (key := fun t => t.s) R hi hC hr ⟨83, #[], rfl, by kernel_rfl, fun h' _ t _ hrw => n83 hrw⟩ (fun j t ht => (Q80 ht).1) (D3 h3) (Nat.zero_le _) hi1) ?_); rintro v g ⟨bs', S2⟩; have S := S.ret 1 rfl S2; simp only [List.cons_append, List.nil_append, List.set_cons_succ, List.set_cons_zero] at S; obtain ⟨w, E, ho, S⟩ := Qo (A := [_]) S; simp only [List.cons_append, List.nil_append] at S; refine ⟨ag0, ?_⟩; refine Q5 ?_; refine ⟨.inr rfl, _, rfl, ?_⟩
    exact QZ (A := [_]) S E
  have h3 : ¬ K0 = 3 := by simpa using hb
  rw [if_neg h3]; refine Qd ?_; refine Qr gn rfl rfl rfl ?_; refine Q3 gn rfl rfl ?_; refine Q5 ?_; refine Qa rfl (fun hb => ?_) fun hb => ?_
  · skip
    have h8 : K0 = 8 := by simpa using hb
    rw [if_pos h8]; obtain ⟨k1, k2, k3, L1, q, hq, D8, _⟩ := Don (.inl h8); refine Qd ?_; refine Q4 gn rfl rfl ?_; refine Q4 gn rfl rfl ?_; have S := Qp (A := [_]) S E; refine Qb [_, _] gn rfl rfl (by kernel_rfl) rfl (C.mono (n84 (S0.sub1 S0.own0 S 1 rfl) (j := i + 1) R hi k2 k1 k3 (by have := J1.bw; omega) J1.lm J1.lw) ?_); rintro v g ⟨bs', S2⟩; have S := S.ret 1 rfl S2; simp only [List.cons_append, List.nil_append, List.set_cons_succ, List.set_cons_zero] at S; obtain ⟨w, E, ho, S⟩ := Qo (A := [_]) S; simp only [List.cons_append, List.nil_append] at S; refine ⟨ag0, ?_⟩; refine Q5 ?_; refine Q7 (by kernel_rfl) ?_; refine Q4 gn rfl rfl ?_; refine Q4 gn rfl rfl ?_; have S := Qp (A := [_]) S E
    refine Qb [_, _, _, _] gn rfl rfl (by kernel_rfl) rfl (C.mono (n82 (S0.sub1 S0.own0 S 1 rfl) (fr := 1) (Qak := fun k => Q0p ((vw T).N k)) (key := fun t => Q0p t.N) R hi hC hr ⟨85, #[], rfl, by kernel_rfl, fun h' e t ht hrw => n85 (B.ext e) hrw (R.N t ht).1 (R.N t ht).2⟩ (fun j t ht => by rw [(Q80 ht).2.2]) (D8 h8) k3 hq) ?_); rintro v g ⟨bs', S2⟩; have S := S.ret 1 rfl S2; simp only [List.cons_append, List.nil_append, List.set_cons_succ, List.set_cons_zero] at S; obtain ⟨w, E, ho, S⟩ := Qo (A := [_]) S; simp only [List.cons_append, List.nil_append] at S; refine ⟨ag0, ?_⟩; refine Q5 ?_; refine ⟨.inr rfl, _, rfl, ?_⟩; exact QZ (A := [_]) S E
  have h8 : ¬ K0 = 8 := by simpa using hb
  rw [if_neg h8]; refine Qd ?_; refine Qr gn rfl rfl rfl ?_; refine Q3 gn rfl rfl ?_; refine Q5 ?_; refine Qa rfl (fun hb => ?_) fun hb => ?_
  · skip
    have h10 : K0 = 10 := by simpa using hb
    rw [if_pos h10]; obtain ⟨k1, k2, k3, L1, q, hq, _, D10⟩ := Don (.inr h10); refine Qd ?_; refine Q4 gn rfl rfl ?_; refine Q4 gn rfl rfl ?_; have S := Qp (A := [_]) S E; refine Qb [_, _] gn rfl rfl (by kernel_rfl) rfl (C.mono (n84 (S0.sub1 S0.own0 S 1 rfl) (j := i + 1) R hi k2 k1 k3 (by have := J1.bw; omega) J1.lm J1.lw) ?_); rintro v g ⟨bs', S2⟩; have S := S.ret 1 rfl S2; simp only [List.cons_append, List.nil_append, List.set_cons_succ, List.set_cons_zero] at S; obtain ⟨w, E, ho, S⟩ := Qo (A := [_]) S; simp only [List.cons_append, List.nil_append] at S; refine ⟨ag0, ?_⟩; refine Q5 ?_; refine Q7 (by kernel_rfl) ?_; refine Q4 gn rfl rfl ?_; refine Q4 gn rfl rfl ?_
    refine Q0 (off := 1) gn rfl rfl (by kernel_rfl) ?_; refine Q6 gn rfl rfl (by kernel_rfl) (by exact S.cel 0 rfl) rfl ?_; have S := Qp (A := [_]) S E; refine Qb [_, _, _, _] gn rfl rfl (by kernel_rfl) rfl (C.mono (n74 (S0.sub1 S0.own0 S 1 rfl) (fr := 1) R hi hC hr (D10 h10) k3 hq (by have := L1.bf; omega)) ?_); rintro v g ⟨bs', S2⟩; have S := S.ret 1 rfl S2; simp only [List.cons_append, List.nil_append, List.set_cons_succ, List.set_cons_zero] at S; obtain ⟨w, E, ho, S⟩ := Qo (A := [_]) S; simp only [List.cons_append, List.nil_append] at S; refine ⟨ag0, ?_⟩; refine Q5 ?_; refine ⟨.inr rfl, _, rfl, ?_⟩; exact QZ (A := [_]) S E
  have h10 : ¬ K0 = 10 := by simpa using hb
  rw [if_neg h10]; refine Qd ?_; refine Qr gn rfl rfl rfl ?_; refine Q3 gn rfl rfl ?_; refine Q5 ?_; refine Qa rfl (fun hb => ?_) fun hb => ?_
  · skip
    have h7 : K0 = 7 := by simpa using hb
    rw [if_pos h7]; refine Q7 (by kernel_rfl) ?_; refine Q4 gn rfl rfl ?_; refine Q4 gn rfl rfl ?_; refine Q0 (off := 1) gn rfl rfl (by kernel_rfl) ?_; refine Q6 gn rfl rfl (by kernel_rfl) (by exact S.cel 0 rfl) rfl ?_; have S := Qp (A := [_]) S E; refine Qb [_, _, _, _] gn rfl rfl (by kernel_rfl) rfl (C.mono (n74 (S0.sub1 S0.own0 S 1 rfl) (fr := 0) R hi hC hr (D7 h7) (Nat.zero_le _) hi1 (by have := J1.bf; omega)) ?_); rintro v g ⟨bs', S2⟩; have S := S.ret 1 rfl S2; simp only [List.cons_append, List.nil_append, List.set_cons_succ, List.set_cons_zero] at S; obtain ⟨w, E, ho, S⟩ := Qo (A := [_]) S; simp only [List.cons_append, List.nil_append] at S; refine ⟨ag0, ?_⟩; refine Q5 ?_
    refine ⟨.inr rfl, _, rfl, ?_⟩; exact QZ (A := [_]) S E
  have h7 : ¬ K0 = 7 := by simpa using hb
  rw [if_neg h7]; refine Q7 (by kernel_rfl) ?_; refine Q4 gn rfl rfl ?_; refine Q4 gn rfl rfl ?_; have S := Qp (A := [_]) S E; refine Qb [_, _, _] gn rfl rfl (by kernel_rfl) rfl (C.mono (n51 (S0.sub1 S0.own0 S 1 rfl) (fr := 0) R hi hC hr (Delse h3 h8 h10 h7) (Nat.zero_le _) hi1) ?_); rintro v g ⟨bs', S2⟩; have S := S.ret 1 rfl S2; simp only [List.cons_append, List.nil_append, List.set_cons_succ, List.set_cons_zero] at S; obtain ⟨w, E, ho, S⟩ := Qo (A := [_]) S; simp only [List.cons_append, List.nil_append] at S; refine ⟨ag0, ?_⟩; refine Q5 ?_; refine ⟨.inr rfl, _, rfl, ?_⟩; exact QZ (A := [_]) S E
end
end Go.Proofs.YtkidomfnmpnmaaaGreatDoor
namespace Go.Proofs.YtkidomfnmpnmaaaGreatDoor
open Go.X Go.Nam
def Q1o (T : V) (st : Nst) (i : Int) : Nst := if 1 < st.mains + 1 then tell T { st with mains := st.mains + 1 } i 7 else { st with mains := st.mains + 1 }
theorem Qeo {N : Int} (h0 : 0 ≤ N) (h1 : N ≤ 3) : ((([⟨#[99, 114, 101, 97, 116, 101]⟩, ⟨#[115, 116, 97, 114, 116]⟩, ⟨#[115, 116, 111, 112]⟩, ⟨#[100, 101, 115, 116, 114, 111, 121]⟩] : List ByteArray).map Value.string).toArray).toList[0 + N.toNat * 1]? = some (.string (Q6B N)) := by
  rcases (show N = 0 ∨ N = 1 ∨ N = 2 ∨ N = 3 by omega) with rfl | rfl | rfl | rfl <;> rfl
theorem Q0v : ∀ (l : List Fun) (c : List (Value × List Nat)) (rest : List Value) (i : Nat) (f : Fun) (x : Value × List Nat), l[i]? = some f → c[i]? = some x → ((fuC l c ++ rest).drop (i * 4)).take 4 = [iV f.tw, iV f.up, .string f.nm, x.1]
  | f :: l, x :: c, rest, 0, f', x', h1, h2 => by
    simp only [List.getElem?_cons_zero, Option.some.injEq] at h1 h2; subst h1; subst h2; rfl
  | f :: l, x :: c, rest, i + 1, f', x', h1, h2 => by
    have e : fuC (f :: l) (x :: c) ++ rest = iV f.tw :: iV f.up :: .string f.nm :: x.1 :: (fuC l c ++ rest) := rfl; rw [e, show (i + 1) * 4 = i * 4 + 1 + 1 + 1 + 1 by omega, List.drop_succ_cons, List.drop_succ_cons, List.drop_succ_cons, List.drop_succ_cons]; exact Q0v l c rest i f' x' (by simpa using h1) (by simpa using h2)
  | [], _, _, _, _, _, h1, _ => by simp at h1
  | _ :: _, [], _, _, _, _, _, h2 => by simp at h2
section
variable {h0 hE : Hp} {bs rs : List Nat} {rb : Nat} {sv : Value} {st : Nst} {T : List Tw} {i : Nat} {rec : Nst → Int → Nst} {k p n w0 : Nat} {o : Int} {sow : List Int} {bl : List (Nat × Nat)}
set_option maxHeartbeats 1000000 in
theorem n36 (S0 : SH h0 [] [rsR rb sv st rs bs] hE) (R : Tre h0 sv T) (hi : i < T.length) (hC : Q8N h0 rb sv T rec k) (hr : KC (vw T) rec k) (F : FoldAt (vw T) k (((vw T).ks i).drop 0) bl n o sow (Zd { Q1o (vw T) st i with main := (Q1o (vw T) st i).funcs.length } i mainT) 0 p w0) (hp : p ≤ (vw T).n) (hl : st.funcs.length ≤ 1000000) (hw : st.wrong.length ≤ 1000000) (hm0 : 0 ≤ st.mains) (hm1 : st.mains ≤ 1000000) :
    C nmE 36 [ZB rb, iV i] hE fun _ g' => ∃ bs', SH hE bs [rsR rb sv (Q2A (vw T) rec st i) rs bs'] g' := by
  have hent : Q2A (vw T) rec st i = J9 (vw T) rec { Q1o (vw T) st i with main := (Q1o (vw T) st i).funcs.length } i 0 mainT := rfl; rw [hent]; refine Qf (fu := Tryz.f36) (by kernel_rfl) rfl ?_; have S := S0.enter; obtain ⟨w, E, ho, S⟩ := Qo (A := []) S; simp only [List.nil_append] at S; refine Qk ?_; refine Qd ?_; refine Q4 gn rfl rfl ?_; refine Q9 gn rfl rfl ?_; refine Q0 (off := 15) gn rfl rfl (by kernel_rfl) ?_; refine Q6 gn rfl rfl (by kernel_rfl) (by exact S.cel 0 rfl) rfl ?_; refine QU gn rfl rfl rfl (by omega) (by omega) ?_; refine Q9 gn rfl rfl ?_; refine Q0 (off := 15) gn rfl rfl (by kernel_rfl) ?_
  refine ZD 0 S gn rfl rfl (by first | rfl | exact hcv) (by kernel_rfl) rfl (by decide) (by first | decide | (simp; done)) (fun g S => ag0) fun g S => ?_; simp only [List.set_cons_succ, List.set_cons_zero] at S; refine ZC ?_; refine Q4 gn rfl rfl ?_; refine Q9 gn rfl rfl ?_; refine Q0 (off := 15) gn rfl rfl (by kernel_rfl) ?_; refine Q6 gn rfl rfl (by kernel_rfl) (by exact S.cel 0 rfl) rfl ?_; refine Q00 gn rfl rfl rfl ?_; refine Q5 ?_; refine Qa rfl (fun hb => ?_) fun hb => ?_
  · skip
    have e0 : Q1o (vw T) st i = tell (vw T) { st with mains := st.mains + 1 } i 7 := if_pos (by simpa using hb); rw [e0] at F ⊢; have E : RsE { st with mains := st.mains + 1 } rs w := { E with }; refine Q7 (by kernel_rfl) ?_; refine Q4 gn rfl rfl ?_; refine Q4 gn rfl rfl ?_; have S := Qp (A := []) S E; refine Qb [_, _, _] gn rfl rfl (by kernel_rfl) rfl (C.mono (n21 (S0.sub1 S0.own0 S 0 rfl) R.X hi hw) ?_); rintro v g ⟨bs', S2⟩; have S := S.ret 0 rfl S2; simp only [List.cons_append, List.nil_append, List.set_cons_succ, List.set_cons_zero] at S; obtain ⟨w, E, ho, S⟩ := Qo (A := []) S; simp only [List.cons_append, List.nil_append] at S; refine ⟨ag0, ?_⟩; refine ZC ?_; refine Q4 gn rfl rfl ?_
    refine Q4 gn rfl rfl ?_; refine Q9 gn rfl rfl ?_; refine Q0 (off := 1) gn rfl rfl (by kernel_rfl) ?_; refine Q0 (off := 7) gn rfl rfl (by kernel_rfl) ?_; refine Q6 gn rfl rfl (by kernel_rfl) (by exact S.cel 0 rfl) rfl ?_; obtain ⟨fa, fc, hfv⟩ := (S.sl 8 rfl).val; rw [hfv, E.fun']; refine QJ gn rfl rfl (by kernel_rfl) ?_; refine Q9 gn rfl rfl ?_; refine Q0 (off := 1) gn rfl rfl (by kernel_rfl) ?_; refine Q0 (off := 8) gn rfl rfl (by kernel_rfl) ?_; refine ZD 0 S gn rfl rfl (by first | rfl | exact hcv) (by kernel_rfl) rfl (by decide) (by first | decide | (simp; done)) (fun g S => ag0) fun g S => ?_; simp only [List.set_cons_succ, List.set_cons_zero] at S; refine Q5 ?_
    refine Q7 (by kernel_rfl) ?_; refine Q4 gn rfl rfl ?_; refine Q4 gn rfl rfl ?_; have E : RsE { (tell (vw T) { st with mains := st.mains + 1 } i 7) with main := (tell (vw T) { st with mains := st.mains + 1 } i 7).funcs.length } rs w := { E with }; have S := Qp (A := []) S E; refine Qb [_, _, _, _] gn rfl rfl (by kernel_rfl) rfl (C.mono (n74 (S0.sub1 S0.own0 S 0 rfl) (fr := 0) (nm := mainT) R hi hC hr F (Nat.zero_le _) hp hl) ?_); rintro v g ⟨bs', S2⟩; have S := S.ret 0 rfl S2; simp only [List.cons_append, List.nil_append, List.set_cons_succ, List.set_cons_zero] at S; obtain ⟨w, E, ho, S⟩ := Qo (A := []) S; simp only [List.cons_append, List.nil_append] at S; refine ⟨ag0, ?_⟩; refine Q5 ?_
    refine ⟨.inr rfl, _, rfl, ?_⟩; exact QZ (A := []) S E
  refine Qe ?_; have e0 : Q1o (vw T) st i = { st with mains := st.mains + 1 } := if_neg (by simpa using hb); rw [e0] at F ⊢; have E : RsE { st with mains := st.mains + 1 } rs w := { E with }; refine Qd ?_; refine Q4 gn rfl rfl ?_; refine Q4 gn rfl rfl ?_; refine Q9 gn rfl rfl ?_; refine Q0 (off := 1) gn rfl rfl (by kernel_rfl) ?_; refine Q0 (off := 7) gn rfl rfl (by kernel_rfl) ?_; refine Q6 gn rfl rfl (by kernel_rfl) (by exact S.cel 0 rfl) rfl ?_; obtain ⟨fa, fc, hfv⟩ := (S.sl 8 rfl).val; rw [hfv, E.fun']; refine QJ gn rfl rfl (by kernel_rfl) ?_; refine Q9 gn rfl rfl ?_; refine Q0 (off := 1) gn rfl rfl (by kernel_rfl) ?_; refine Q0 (off := 8) gn rfl rfl (by kernel_rfl) ?_
  refine ZD 0 S gn rfl rfl (by first | rfl | exact hcv) (by kernel_rfl) rfl (by decide) (by first | decide | (simp; done)) (fun g S => ag0) fun g S => ?_; simp only [List.set_cons_succ, List.set_cons_zero] at S; refine Q5 ?_; refine Q7 (by kernel_rfl) ?_; refine Q4 gn rfl rfl ?_; refine Q4 gn rfl rfl ?_; have E : RsE { ({ st with mains := st.mains + 1 } : Nst) with main := st.funcs.length } rs w := { E with }; have S := Qp (A := []) S E; refine Qb [_, _, _, _] gn rfl rfl (by kernel_rfl) rfl (C.mono (n74 (S0.sub1 S0.own0 S 0 rfl) (fr := 0) (nm := mainT) R hi hC hr F (Nat.zero_le _) hp hl) ?_); rintro v g ⟨bs', S2⟩; have S := S.ret 0 rfl S2
  simp only [List.cons_append, List.nil_append, List.set_cons_succ, List.set_cons_zero] at S; obtain ⟨w, E, ho, S⟩ := Qo (A := []) S; simp only [List.cons_append, List.nil_append] at S; refine ⟨ag0, ?_⟩; refine Q5 ?_; refine ⟨.inr rfl, _, rfl, ?_⟩; exact QZ (A := []) S E
set_option maxHeartbeats 1000000 in
theorem n37 (S0 : SH h0 [] [rsR rb sv st rs bs] hE) (R : Tre h0 sv T) (hi : i < T.length) (hC : Q8N h0 rb sv T rec k) (hr : KC (vw T) rec k) (F : FoldAt (vw T) k (((vw T).ks i).drop 0) bl n o sow (Zd st i ((vw T).s (lastOf st.cp i) ++ dot ++ Q6B ((vw T).N i))) 0 p w0) (hp : p ≤ (vw T).n) (hl : st.funcs.length ≤ 1000000) (hcp : ∀ c, c ∈ st.cp → 0 ≤ c ∧ c < T.length) (hN : 0 ≤ (vw T).N i ∧ (vw T).N i ≤ 3) :
    C nmE 37 [ZB rb, iV i] hE fun _ g' => ∃ bs', SH hE bs [rsR rb sv (Qep (vw T) rec st i) rs bs'] g' := by
  have X := R.X; obtain ⟨ta, tc, rfl⟩ := X.val; obtain ⟨t0, b, o', cs, ee, m, hw0, Q⟩ := JU X hi; obtain rfl := Q.ta; unfold Qep; obtain ⟨cn, hcn⟩ : ∃ cn : Nat, lastOf st.cp i = cn := ⟨(lastOf st.cp i).toNat, by have := (Qaa (i := i) hcp (show 0 < T.length by omega)).1; omega⟩; have hcnT : cn < T.length := by have := (Qaa (i := i) hcp (show 0 < T.length by omega)).2; omega
  obtain ⟨t2, b2, o2, cs2, ee2, m2, hw2, Q2⟩ := JU X hcnT
  obtain ⟨rfl, rfl⟩ : b = b2 ∧ o' = o2 := by
    have := Q2.ta; simp only [Option.some.injEq, Addr.mk.injEq, and_true] at this; exact this
  rw [hcn] at F ⊢; have hs2 := R.P.s cn; rw [Q2.s] at hs2 F ⊢; rw [Q.N] at hN F ⊢; have hd : (⟨#[46]⟩ : ByteArray).size = 1 := rfl; have hls := Q5b t0.N; refine Qf (fu := Tryz.f37) (by kernel_rfl) rfl ?_; have S := S0.enter; obtain ⟨w, E, ho, S⟩ := Qo (A := []) S; simp only [List.nil_append] at S; have hcl := E.cpb; have hrow := (S.sl 6 rfl).row; rw [E.co] at hrow; obtain ⟨va, vc, hcv'⟩ := hrow.valM; refine Qd ?_; refine Q3 gn rfl rfl ?_; refine J0 ?_; refine Q4 gn rfl rfl ?_; refine Q9 gn rfl rfl ?_; refine Q0 (off := 1) gn rfl rfl (by kernel_rfl) ?_; refine Q0 (off := 5) gn rfl rfl (by kernel_rfl) ?_; refine Q6 gn rfl rfl (by kernel_rfl) (by exact S.cel 0 rfl) rfl ?_; rw [hcv']
  refine QJ gn rfl rfl (by kernel_rfl) ?_; refine Q4 gn rfl rfl ?_; refine Q5 ?_; refine Qh ?_; refine QV [(4, _), (13, _)] [(0, _), (1, _), (11, _), (12, _)] (by repeat (first | exact trivial | refine ⟨rfl, ?_⟩)) (fun kk lv hh => ∃ (j : Nat) (c : Int), lv = [(4, iV c), (13, iV j)] ∧ kk = st.cp.length - j ∧ j ≤ st.cp.length ∧ SH hE bs (rsL rb (.slice (some ⟨b, o', none⟩) T.length tc) st w) hh ∧ c = (st.cp.take j).foldl (fun c k => if k < (i : Int) then k else c) 0) (n := (st.cp.length)) ?_ fun kk lv hh hI => ?_
  · exact ⟨0, 0, rfl, rfl, by omega, S, rfl⟩
  obtain ⟨j, c, rfl, hkk, hj, S, hc⟩ := hI; refine Qd ?_; refine Zo gn rfl rfl rfl ?_; refine Q5 ?_; refine Qk ?_; refine Qa rfl (fun hb => ?_) fun hb => ?_
  · skip
    refine Qe ?_; have hj : j < st.cp.length := by simp at hb; omega
    have hrow := (S.sl 6 rfl).row; rw [E.co, hcv'] at hrow; obtain ⟨kb, ko, kc', kcs, ke, km, hv2, hg2, hlt2, hat2⟩ := hrow.atM (by omega); obtain rfl : va = some ⟨kb, ko, none⟩ := by injection hv2
    have hkid : kcs[ko + Int.toNat (j : Int) * 1]? = some (iV st.cp[j]) := by
      rw [Int.toNat_natCast, Nat.mul_one, hat2 j hj]
    have htk : (st.cp.take (j + 1)).foldl (fun c k => if k < (i : Int) then k else c) 0 = if st.cp[j] < (i : Int) then st.cp[j] else c := by
      rw [List.take_add_one, List.getElem?_eq_getElem hj, List.foldl_append, ← hc]; rfl
    refine Qk ?_; refine Qh ?_; refine Qd ?_; refine Q8 (zz := 1) gn rfl rfl rfl (by kernel_rfl) (by omega) (by omega) ?_; refine Q6 gn rfl rfl (by kernel_rfl) hg2 hkid ?_; refine Q3 gn rfl rfl ?_; refine ZC ?_; refine Q4 gn rfl rfl ?_; refine Q4 gn rfl rfl ?_; refine Zo gn rfl rfl rfl ?_; refine Q5 ?_; refine Qa rfl (fun hb => ?_) fun hb => ?_
    · skip
      refine Q7 (by kernel_rfl) ?_; refine Q4 gn rfl rfl ?_; refine Q3 gn rfl rfl ?_; refine Q5 ?_; refine Q7 (by kernel_rfl) ?_; refine QU gn rfl rfl rfl (by omega) (by omega) ?_; refine Q4 gn rfl rfl ?_; refine Q5 ?_; exact KL (st.cp.length - (j + 1)) (by omega) [(4, _), (13, _)] (by repeat (first | exact trivial | refine ⟨rfl, ?_⟩)) ⟨j + 1, st.cp[j], rfl, rfl, by omega, S, by rw [htk, if_pos (by simpa using hb)]⟩
    refine Qe ?_; refine Q7 (by kernel_rfl) ?_; refine QU gn rfl rfl rfl (by omega) (by omega) ?_; refine Q4 gn rfl rfl ?_; refine Q5 ?_; exact KL (st.cp.length - (j + 1)) (by omega) [(4, _), (13, _)] (by repeat (first | exact trivial | refine ⟨rfl, ?_⟩)) ⟨j + 1, c, rfl, rfl, by omega, S, by rw [htk, if_neg (by simpa using hb)]⟩
  refine Zb ?_; refine Qx ?_; refine Qz ?_; refine Za ?_
  have hcc : c = cn := by
    have hjl : j = st.cp.length := by simp at hb; omega
    rw [hc, hjl, List.take_length, ← hcn]; rfl
  subst hcc; refine Z2 [(0, []), (1, []), (2, []), (3, []), (4, []), (5, []), (6, []), (7, []), (8, []), (9, []), (10, []), (11, []), (12, []), (13, []), (14, []), (15, []), (16, []), (17, []), (18, []), (19, []), (20, []), (21, []), (22, []), (23, []), (24, []), (25, [])] (by kernel_rfl) (by kernel_rfl) (by kernel_rfl) (by kernel_rfl) ?_; refine Q4 gn rfl rfl ?_; refine Q4 gn rfl rfl ?_; refine Q4 gn rfl rfl ?_; refine Q9 gn rfl rfl ?_; refine Q0 (off := 0) gn rfl rfl (by kernel_rfl) ?_; refine Q0 (off := 0) gn rfl rfl (by kernel_rfl) ?_; refine Q6 gn rfl rfl (by kernel_rfl) (by exact S.cel 0 rfl) rfl ?_; refine Q4 gn rfl rfl ?_
  refine Q8 (zz := 6) gn rfl rfl rfl (by kernel_rfl) (by omega) (by omega) ?_; refine Q0 (off := 1) gn rfl rfl (by kernel_rfl) ?_; refine Q6 gn rfl rfl (by kernel_rfl) (S0.two S0.own0 S Q2.g Q2.lt) (Q2.at 1 (by decide) rfl) ?_; refine Q33 gn rfl rfl rfl (by omega) ?_; refine Qn (cs := ((([⟨#[99, 114, 101, 97, 116, 101]⟩, ⟨#[115, 116, 97, 114, 116]⟩, ⟨#[115, 116, 111, 112]⟩, ⟨#[100, 101, 115, 116, 114, 111, 121]⟩] : List ByteArray).map Value.string).toArray)) (e := 9) (z := 0) (zv := .string .empty) [(0, _), (1, _), (2, _), (3, _)] S gn rfl (by kernel_rfl) (by kernel_rfl) (by kernel_rfl) (by kernel_rfl) rfl (by kernel_rfl) fun b1 g nb1 S => ?_; refine Q4 gn rfl rfl ?_; refine Q9 gn rfl rfl ?_
  refine Q0 (off := 0) gn rfl rfl (by kernel_rfl) ?_; refine Q0 (off := 0) gn rfl rfl (by kernel_rfl) ?_; refine Q6 gn rfl rfl (by kernel_rfl) (by exact S.cel 1 rfl) rfl ?_; refine Q4 gn rfl rfl ?_; refine Q8 (zz := 6) gn rfl rfl rfl (by kernel_rfl) (by omega) (by omega) ?_; refine Q0 (off := 2) gn rfl rfl (by kernel_rfl) ?_; refine Q6 gn rfl rfl (by kernel_rfl) (S0.two S0.own0 S Q.g Q.lt) (Q.at 2 (by decide) rfl) ?_; refine Q8 (zz := 1) gn rfl rfl rfl (by kernel_rfl) (by omega) (by omega) ?_; refine Q6 gn rfl rfl (by kernel_rfl) (S.cel 0 rfl) (Qeo hN.1 hN.2) ?_; refine Q33 gn rfl rfl rfl (by rw [ByteArray.size_append]; omega) ?_; have S := Qp (A := [_]) S E
  refine Qb [_, _, _, _] gn rfl rfl (by kernel_rfl) rfl (C.mono (n74 (S0.sub1 S0.own0 S 1 rfl) (fr := 0) (nm := t2.s ++ dot ++ Q6B t0.N) R hi hC hr F (Nat.zero_le _) hp hl) ?_); rintro v g ⟨bs', S2⟩; have S := S.ret 1 rfl S2; simp only [List.cons_append, List.nil_append, List.set_cons_succ, List.set_cons_zero] at S; obtain ⟨w, E, ho, S⟩ := Qo (A := [_]) S; simp only [List.cons_append, List.nil_append] at S; refine ⟨ag0, ?_⟩; refine Q5 ?_; refine ⟨.inr rfl, _, rfl, ?_⟩; exact QZ (A := [_]) S E
set_option maxHeartbeats 1000000 in
theorem n38 (S0 : SH h0 [] [rsR rb sv st rs bs] hE) (R : Tre h0 sv T) (hi : i < T.length) (hC : Q8N h0 rb sv T rec k) (hr : KC (vw T) rec k) (B : Pow h0) (F : FoldAt (vw T) k (((vw T).ks i).drop 0) bl n o sow (Zd { st with inner := st.inner + 1 } i (Qeh st.funcs (Q0I st.funcs st.funcs.length st.owner) ++ dot ++ Q0p (st.inner + 1))) 0 p w0) (hp : p ≤ (vw T).n) (hl : st.funcs.length ≤ 1000000)
    (hup : ∀ (j : Nat) f, st.funcs[j]? = some f → -1 ≤ f.up ∧ f.up < j) (ho1 : 0 ≤ st.owner) (ho2 : st.owner < st.funcs.length) (hi1 : 0 ≤ st.inner) (hi2 : st.inner ≤ 100000) (hnm : ∀ (j : Nat) f, st.funcs[j]? = some f → f.nm.size ≤ 1000 * (j + 1)) :
    C nmE 38 [ZB rb, iV i] hE fun _ g' => ∃ bs', SH hE bs [rsR rb sv (Q1S (vw T) rec st i) rs bs'] g' := by
  unfold Q1S; obtain ⟨on, hon⟩ : ∃ on : Nat, st.owner = on := ⟨st.owner.toNat, by omega⟩; have hd : (⟨#[46]⟩ : ByteArray).size = 1 := rfl; have his := Q3d (n := st.inner + 1) (by omega) (by omega); refine Qf (fu := Tryz.f38) (by kernel_rfl) rfl ?_; have S := S0.enter; obtain ⟨w, E, ho, S⟩ := Qo (A := []) S; simp only [List.nil_append] at S; obtain ⟨fb, fc, hfv, hfb, hfl⟩ := Y3 (S.sl 8 rfl) (by rw [E.fun']; omega); refine Qd ?_; refine Q4 gn rfl rfl ?_; refine Q9 gn rfl rfl ?_; refine Q0 (off := 13) gn rfl rfl (by kernel_rfl) ?_; refine Q6 gn rfl rfl (by kernel_rfl) (by exact S.cel 0 rfl) rfl ?_; refine Q3 gn rfl rfl ?_; refine Q5 ?_; refine Qk ?_; refine Qh ?_
  refine QV [(4, _)] [(0, _), (1, _)] (by repeat (first | exact trivial | refine ⟨rfl, ?_⟩)) (fun kk lv hh => ∃ (top kf : Nat), lv = [(4, iV top)] ∧ kk = top ∧ top < st.funcs.length ∧ SH hE bs (rsL rb sv st w) hh ∧ top < kf ∧ Q0I st.funcs kf top = Q0I st.funcs st.funcs.length st.owner) (n := on) ?_ fun kk lv hh hI => ?_
  · exact ⟨on, st.funcs.length, by rw [hon], rfl, by omega, S, by omega, by rw [hon]⟩
  obtain ⟨top, kf, rfl, hkk, htl, S, hkf, htop⟩ := hI; obtain ⟨f, hf⟩ : ∃ f, st.funcs[top]? = some f := ⟨_, List.getElem?_eq_getElem htl⟩; obtain ⟨x, hx⟩ : ∃ x, w.cv[top]? = some x := ⟨_, List.getElem?_eq_getElem (by rw [E.cv]; exact htl)⟩; obtain ⟨rest, mm, hgf⟩ := YA (n := w.fu.n) (b := fb) (c := fc) (by have := S.sl 8 rfl; rw [hfv] at this; exact this)
  have hrow4 : ((w.fu.c ++ rest).drop (0 + Int.toNat (top : Int) * 4)).take 4 = [iV f.tw, iV f.up, .string f.nm, x.1] := by
    rw [E.fu, Int.toNat_natCast, Nat.zero_add]; exact Q0v _ _ _ _ _ _ hf hx
  have hfu := hup top f hf; have hfn := hnm top f hf; obtain ⟨k', rfl⟩ : ∃ k', kf = k' + 1 := ⟨kf - 1, by omega⟩; have hupo : J8 st.funcs top = f.up := by unfold J8; rw [Int.toNat_natCast, hf]
  have hst : Q0I st.funcs (k' + 1) top = if 0 ≤ f.up then Q0I st.funcs k' f.up else (top : Int) := by
    show (if 0 ≤ J8 st.funcs top then Q0I st.funcs k' (J8 st.funcs top) else (top : Int)) = _; rw [hupo]
  have hen := E.fun'; refine Qk ?_; refine Qd ?_; refine Q4 gn rfl rfl ?_; refine Q9 gn rfl rfl ?_; refine Q0 (off := 1) gn rfl rfl (by kernel_rfl) ?_; refine Q0 (off := 7) gn rfl rfl (by kernel_rfl) ?_; refine Q6 gn rfl rfl (by kernel_rfl) (by exact S.cel 0 rfl) rfl ?_; refine Q4 gn rfl rfl ?_; rw [hfv]; refine Q8 (zz := 4) gn rfl rfl rfl (by kernel_rfl) (by omega) (by omega) ?_; refine Q0 (off := 1) gn rfl rfl (by kernel_rfl) ?_; refine Q6 gn rfl rfl (by kernel_rfl) hgf (KA (f := 1) hrow4 (by decide) rfl) ?_; refine Yw gn rfl rfl rfl ?_; refine Q5 ?_; refine Qa rfl (fun hb => ?_) fun hb => ?_
  · skip
    refine Qe ?_; refine Qh ?_; refine Q7 (by kernel_rfl) ?_; refine Q4 gn rfl rfl ?_; refine Q9 gn rfl rfl ?_; refine Q0 (off := 1) gn rfl rfl (by kernel_rfl) ?_; refine Q0 (off := 7) gn rfl rfl (by kernel_rfl) ?_; refine Q6 gn rfl rfl (by kernel_rfl) (by exact S.cel 0 rfl) rfl ?_; refine Q4 gn rfl rfl ?_; rw [hfv]; refine Q8 (zz := 4) gn rfl rfl rfl (by kernel_rfl) (by omega) (by omega) ?_; refine Q0 (off := 1) gn rfl rfl (by kernel_rfl) ?_; refine Q6 gn rfl rfl (by kernel_rfl) hgf (KA (f := 1) hrow4 (by decide) rfl) ?_; refine Q3 gn rfl rfl ?_; refine Q5 ?_; have h9 : 0 ≤ f.up := by simpa using hb
    refine Zv ?_; exact KL (f.up.toNat) (by omega) [(4, _)] (by repeat (first | exact trivial | refine ⟨rfl, ?_⟩)) ⟨f.up.toNat, k', by rw [Int.toNat_of_nonneg h9], rfl, by omega, S, by omega, by rw [Int.toNat_of_nonneg h9, ← htop, hst, if_pos h9]⟩
  refine Zb ?_; refine Qx ?_; refine Qz ?_; refine Za ?_; have h9 : ¬ 0 ≤ f.up := by simpa using hb
  have hnmo : Qeh st.funcs (Q0I st.funcs st.funcs.length st.owner) = f.nm := by
    rw [← htop, hst, if_neg h9]; unfold Qeh; rw [Int.toNat_natCast, hf]
  rw [hnmo] at F ⊢; refine Qd ?_; refine Q4 gn rfl rfl ?_; refine Q9 gn rfl rfl ?_; refine Q0 (off := 14) gn rfl rfl (by kernel_rfl) ?_; refine Q6 gn rfl rfl (by kernel_rfl) (by exact S.cel 0 rfl) rfl ?_; refine QU gn rfl rfl rfl (by omega) (by omega) ?_; refine Q9 gn rfl rfl ?_; refine Q0 (off := 14) gn rfl rfl (by kernel_rfl) ?_; refine ZD 0 S gn rfl rfl (by first | rfl | exact hcv) (by kernel_rfl) rfl (by decide) (by first | decide | (simp; done)) (fun g S => ag0) fun g S => ?_; simp only [List.set_cons_succ, List.set_cons_zero] at S; refine Q5 ?_; obtain ⟨rest2, mm2, hgf2⟩ := YA (n := w.fu.n) (b := fb) (c := fc) (by have := S.sl 8 rfl; rw [hfv] at this; exact this)
  have hrow42 : ((w.fu.c ++ rest2).drop (0 + Int.toNat (top : Int) * 4)).take 4 = [iV f.tw, iV f.up, .string f.nm, x.1] := by
    rw [E.fu, Int.toNat_natCast, Nat.zero_add]; exact Q0v _ _ _ _ _ _ hf hx
  refine Z2 [(0, []), (1, []), (2, []), (3, []), (4, []), (5, []), (6, []), (7, []), (8, []), (9, []), (10, []), (11, []), (12, []), (13, []), (14, []), (15, []), (16, [6, 10, 11]), (17, []), (18, [])] (by kernel_rfl) (by kernel_rfl) (by kernel_rfl) (by kernel_rfl) ?_; refine Q4 gn rfl rfl ?_; refine Q4 gn rfl rfl ?_; refine Q4 gn rfl rfl ?_; refine Q9 gn rfl rfl ?_; refine Q0 (off := 1) gn rfl rfl (by kernel_rfl) ?_; refine Q0 (off := 7) gn rfl rfl (by kernel_rfl) ?_; refine Q6 gn rfl rfl (by kernel_rfl) (by exact S.cel 0 rfl) rfl ?_; refine Q4 gn rfl rfl ?_; rw [hfv]; refine Q8 (zz := 4) gn rfl rfl rfl (by kernel_rfl) (by omega) (by omega) ?_
  refine Q0 (off := 2) gn rfl rfl (by kernel_rfl) ?_; refine Q6 gn rfl rfl (by kernel_rfl) hgf2 (KA (f := 2) hrow42 (by decide) rfl) ?_; refine Q33 gn rfl rfl rfl (by omega) ?_; refine Q4 gn rfl rfl ?_; refine Q9 gn rfl rfl ?_; refine Q0 (off := 14) gn rfl rfl (by kernel_rfl) ?_; refine Q6 gn rfl rfl (by kernel_rfl) (by exact S.cel 0 rfl) rfl ?_
  refine Qda [_] gn rfl rfl (by kernel_rfl) (by kernel_rfl) sm75 rfl (Qet (n := st.inner + 1) (B.ext (S0.all0 S0.own0 S)) (by omega) (by omega)) (.refl _) (ag1 (Zt gn rfl (by kernel_rfl) (by exact S.cel 0 rfl) (congrArg some hfv) rfl ZM) (ag1 (Zt gn rfl (by kernel_rfl) hgf2 (KA (f := 2) hrow42 (by decide) rfl) rfl Q78) (ag1 (Qfj gn rfl rfl (by omega) rfl) ag0))) ?_; refine Q33 gn rfl rfl rfl (by rw [ByteArray.size_append]; omega) ?_; have E : RsE { st with inner := st.inner + 1 } rs w := { E with }; have S := Qp (A := []) S E
  refine Qb [_, _, _, _] gn rfl rfl (by kernel_rfl) rfl (C.mono (n74 (S0.sub1 S0.own0 S 0 rfl) (fr := 0) (nm := f.nm ++ dot ++ Q0p (st.inner + 1)) R hi hC hr F (Nat.zero_le _) hp hl) ?_); rintro v g ⟨bs', S2⟩; have S := S.ret 0 rfl S2; simp only [List.cons_append, List.nil_append, List.set_cons_succ, List.set_cons_zero] at S; obtain ⟨w, E, ho, S⟩ := Qo (A := []) S; simp only [List.cons_append, List.nil_append] at S; refine ⟨ag0, ?_⟩; refine Q5 ?_; refine ⟨.inr rfl, _, rfl, ?_⟩; exact QZ (A := []) S E
end
end Go.Proofs.YtkidomfnmpnmaaaGreatDoor
namespace Go.Proofs.YtkidomfnmpnmaaaGreatDoor
open Go.X Go.Nam
theorem n76 {h : Hp} {a : Option Addr} {n c : Nat} : C nmE 76 [.slice a n c] h fun r h' => r = .func (.func 105) #[] #[ZB h.n] ∧ h' = h.alloc (.cells [.slice a n c] 60 0) := by
  refine Qf (fu := Tryz.f76) (by kernel_rfl) rfl ?_; refine Qd ?_; refine Qc5 gn rfl rfl ?_; refine Q3 gn rfl rfl ?_; refine ZC ?_; refine KP gn rfl rfl ?_; refine Q3 gn rfl rfl ?_; refine Q5 ?_; refine Qc ?_; refine ⟨.inl rfl, _, rfl, ?_⟩; exact ⟨rfl, rfl⟩
set_option maxHeartbeats 1000000 in
theorem n105 {h : Hp} {q x n : Nat} {l : List Sco} {rs : List Nat} {v : Value} (hn : n ≤ 1000000) (hl : l.length = n) (hr : rs.length = n) (P : Nat → Hp → Prop) (R : Hp → Prop)
    (hP : ∀ i m, P i m → m.get q = some (.cells [v] 60 0) ∧ (∃ a c, v = .slice a n c) ∧ (0 < n → ∃ b c rest mm, v = .slice (some ⟨b, 0, none⟩) n c ∧ m.get b = some (.cells (scC l rs ++ rest) 120 mm)))
    (start : P n h)
    (round : ∀ i (_ : i < n) r s m, P (i + 1) m → l[i]? = some s → rs[i]? = some r → Y nmE x [iV i, .agg #[.map (some r), iV s.ow]] m fun b m2 => (b = .bool true ∧ P i m2) ∨ (b = .bool false ∧ R m2)) :
    C nmE 105 [.func (.yield x) #[] #[], ZB q] h fun _ h' => P 0 h' ∨ R h' := by
  obtain ⟨hq, ⟨va, vc, rfl⟩, _⟩ := hP _ _ start; refine Qf (fu := Tryz.f105) (by kernel_rfl) rfl ?_; have S := SH.start h; refine Qd ?_; refine Q6 gn rfl rfl (by kernel_rfl) hq rfl ?_; refine QJ gn rfl rfl (by kernel_rfl) ?_; refine Q8m gn rfl rfl rfl (by omega) (by omega) ?_; refine Q3 gn rfl rfl ?_; refine Q5 ?_; refine Qh ?_; refine QV [(3, _)] [(0, _), (1, _)] (by repeat (first | exact trivial | refine ⟨rfl, ?_⟩)) (fun kk lv hh => ∃ (i : Nat), lv = [(3, iV ((i : Int) - 1))] ∧ kk = i ∧ i ≤ n ∧ P i hh) (n := n) ?_ fun kk lv hh hI => ?_
  · exact ⟨n, rfl, rfl, Nat.le_refl _, start⟩
  obtain ⟨i, rfl, hkk, hin, hPi⟩ := hI; refine Qk ?_; refine Qd ?_; refine Q4 gn rfl rfl ?_; refine Yw gn rfl rfl rfl ?_; refine Q5 ?_; refine Qa rfl (fun hb => ?_) fun hb => ?_
  · skip
    refine Qe ?_; have hi1 : 0 ≤ (i : Int) - 1 := by simpa using hb
    obtain ⟨j, rfl⟩ : ∃ j, i = j + 1 := ⟨i - 1, by omega⟩; obtain ⟨hqi, _, hv⟩ := hP _ _ hPi; obtain ⟨b, c, rest, mm, hvv, hgb⟩ := hv (by omega)
    obtain ⟨rfl, rfl⟩ : va = some ⟨b, 0, none⟩ ∧ vc = c := by
      simp only [Value.slice.injEq, true_and] at hvv; exact hvv
    have h1 : l[j]? = some (l[j]'(by omega)) := List.getElem?_eq_getElem _; have h2 : rs[j]? = some (rs[j]'(by omega)) := List.getElem?_eq_getElem _; have hcl := Q6b l rs (by omega)
    have hld : ((scC l rs ++ rest).drop (0 + Int.toNat (((j + 1 : Nat) : Int) - 1) * 2)).take 2 = [.map (some (rs[j]'(by omega))), iV (l[j]'(by omega)).ow] := by
      rw [show 0 + Int.toNat (((j + 1 : Nat) : Int) - 1) * 2 = j * 2 by omega]; exact Q9v _ _ _ _ _ _ h1 h2
    have hY := round j (by omega) _ _ _ hPi h1 h2; refine Qk ?_; refine Qh ?_; refine Qd ?_; refine Q4 gn rfl rfl ?_; refine Q4 gn rfl rfl ?_; refine Q6 gn rfl rfl (by kernel_rfl) hqi rfl ?_; refine Q4 gn rfl rfl ?_; refine Q8 (zz := 2) gn rfl rfl rfl (by kernel_rfl) (by omega) (by omega) ?_; refine Qs (n := 2) gn rfl rfl (by kernel_rfl) (by kernel_rfl) hgb (by rw [List.length_append, hcl]; omega) ?_; rw [hld]; rw [show (((j + 1 : Nat) : Int) - 1) = (j : Int) by omega]; refine Qed [_, _] gn rfl rfl rfl (Y.mono hY ?_); rintro v2 g hv2
    obtain ⟨t, rfl, hv4⟩ : ∃ t, v2 = .bool t ∧ ((t = true ∧ P j g) ∨ (t = false ∧ R g)) := by
      rcases hv2 with ⟨rfl, hh⟩ | ⟨rfl, hh⟩
      · exact ⟨true, rfl, .inl ⟨rfl, hh⟩⟩
      exact ⟨false, rfl, .inr ⟨rfl, hh⟩⟩
    refine ⟨ag0, ?_⟩; refine ZN gn rfl rfl ?_; refine Q5 ?_; refine Qa rfl (fun hb => ?_) fun hb => ?_
    · skip
      refine Qc ?_; refine ⟨.inl rfl, _, rfl, ?_⟩; rcases hv4 with ⟨rfl, hv4⟩ | ⟨_, hv4⟩
      · cases hb
      exact .inr hv4
    refine Qe ?_
    have hv3 : P j g := by
      rcases hv4 with ⟨_, hv3⟩ | ⟨rfl, _⟩
      · exact hv3
      cases hb
    refine Q7 (by kernel_rfl) ?_; refine Q4 gn rfl rfl ?_; refine Q8m gn rfl rfl rfl (by omega) (by omega) ?_; refine Q3 gn rfl rfl ?_; refine Q5 ?_; exact KL j (by omega) [(3, _)] (by repeat (first | exact trivial | refine ⟨rfl, ?_⟩)) ⟨j, rfl, rfl, by omega, hv3⟩
  refine Zb ?_; refine Qx ?_; refine Qz ?_; refine Za ?_; refine ⟨.inr rfl, _, rfl, ?_⟩; obtain rfl : i = 0 := by simp at hb; omega
  exact .inl hPi
end Go.Proofs.YtkidomfnmpnmaaaGreatDoor
namespace Go.Proofs.YtkidomfnmpnmaaaGreatDoor
open Go.X Go.Nam
theorem Q1R {t : Txt} : ∀ (a b : List Sco), Ky t (a ++ b) = match Ky t a with | some r => some r | none => Ky t b
  | [], b => rfl
  | s :: a, b => by
    have ih := Q1R (t := t) a b; show (match s.loc t with | some v => some (v, s.ow) | none => Ky t (a ++ b)) = match (match s.loc t with | some v => some (v, s.ow) | none => Ky t a) with | some r => some r | none => Ky t b
    cases s.loc t with
    | some v => rfl
    | none => exact ih
theorem Y4 {e z n : Nat} {h : Hp} {s : Value} {cs : List Value} {bs : List Nat} (x : SlC e z h s cs n bs) : ∃ a c, s = .slice a n c := by
  rcases x with ⟨h1, _, h3, _⟩ | ⟨b, m, c, rest, h1, _⟩
  · exact ⟨none, 0, by rw [h1, h3]⟩
  exact ⟨_, _, h1⟩
theorem Qbf {fs : List Fun} {f v : Int} {j : Nat} (h : f.toNat ≠ j) : (Z0 fs f v)[j]? = fs[j]? := by
  unfold Z0; rw [List.getElem?_modify]; simp only [if_neg h]; cases fs[j]? <;> rfl
theorem QcX {fs : List Fun} {v : Int} {j : Nat} {f : Fun} (h : fs[j]? = some f) (hv : v ∈ f.caps) : Z0 fs j v = fs := by
  refine List.ext_getElem? fun i => ?_; by_cases e : j = i
  · subst e; rw [Q5W h, Int.toNat_natCast, if_pos rfl, if_pos hv, h]
  exact Qbf (by omega)
theorem Qau (v : Int) (s : Value) (b : List Nat) : ∀ (l : List Fun) (c : List (Value × List Nat)) (j : Nat) (f : Fun) (x : Value × List Nat), l[j]? = some f → c[j]? = some x → v ∉ f.caps → fuC (l.modify j fun x => if v ∈ x.caps then x else { x with caps := x.caps ++ [v] }) (c.set j (s, b)) = (fuC l c).set (j * 4 + 3) s
  | f :: l, x :: c, 0, f', x', h1, _, hv => by
    simp only [List.getElem?_cons_zero, Option.some.injEq] at h1; subst h1; rw [List.modify_zero_cons, if_neg hv]; rfl
  | f :: l, x :: c, j + 1, f', x', h1, h2, hv => by
    rw [List.modify_succ_cons, List.set_cons_succ, show (j + 1) * 4 + 3 = j * 4 + 3 + 1 + 1 + 1 + 1 by omega]; show [iV f.tw, iV f.up, .string f.nm, x.1] ++ fuC (l.modify j _) (c.set j _) = (iV f.tw :: iV f.up :: .string f.nm :: x.1 :: fuC l c).set _ _; rw [List.set_cons_succ, List.set_cons_succ, List.set_cons_succ, List.set_cons_succ, Qau v s b l c j f' x' (by simpa using h1) (by simpa using h2) hv]; rfl
  | [], _, _, _, _, h1, _, _ => by simp at h1
  | _ :: _, [], _, _, _, _, h2, _ => by simp at h2
theorem Qb1 (v : Int) (s : Value) (b : List Nat) : ∀ (l : List Fun) (c : List (Value × List Nat)) (j : Nat) (f : Fun) (x : Value × List Nat), l[j]? = some f → c[j]? = some x → v ∉ f.caps → caP (l.modify j fun x => if v ∈ x.caps then x else { x with caps := x.caps ++ [v] }) (c.set j (s, b)) = (caP l c).set j (slR 3 0 s (isV f.caps ++ [iV v]) (f.caps.length + 1) b)
  | f :: l, x :: c, 0, f', x', h1, _, hv => by
    simp only [List.getElem?_cons_zero, Option.some.injEq] at h1; subst h1; rw [List.modify_zero_cons, if_neg hv, List.set_cons_zero]; show slR 3 0 s (isV (f.caps ++ [v])) (f.caps ++ [v]).length b :: caP l c = slR 3 0 s (isV f.caps ++ [iV v]) (f.caps.length + 1) b :: caP l c; have e : isV (f.caps ++ [v]) = isV f.caps ++ [iV v] := by simp
    rw [e, List.length_append]; rfl
  | f :: l, x :: c, j + 1, f', x', h1, h2, hv => by
    rw [List.modify_succ_cons, List.set_cons_succ]; show _ :: caP (l.modify j _) (c.set j _) = _ :: (caP l c).set j _; rw [Qb1 v s b l c j f' x' (by simpa using h1) (by simpa using h2) hv]
  | [], _, _, _, _, h1, _, _ => by simp at h1
  | _ :: _, [], _, _, _, _, h2, _ => by simp at h2
theorem Qb3 : ∀ (l : List Fun) (c : List (Value × List Nat)) (j : Nat) (f : Fun) (x : Value × List Nat), l[j]? = some f → c[j]? = some x → (caP l c)[j]? = some (slR 3 0 x.1 (isV f.caps) f.caps.length x.2)
  | f :: l, x :: c, 0, f', x', h1, h2 => by
    simp only [List.getElem?_cons_zero, Option.some.injEq] at h1 h2; subst h1; subst h2; rfl
  | f :: l, x :: c, j + 1, f', x', h1, h2 => Qb3 l c j f' x' (by simpa using h1) (by simpa using h2)
  | [], _, _, _, _, h1, _ => by simp at h1
  | _ :: _, [], _, _, _, _, h2 => by simp at h2
theorem RsE.cap {st : Nst} {rs : List Nat} {w : RsW} (E : RsE st rs w) {j : Nat} {f : Fun} {x : Value × List Nat} (hf : st.funcs[j]? = some f) (hx : w.cv[j]? = some x) {v : Int} (hv : v ∉ f.caps) (s' : Value) (bs' : List Nat) :
    RsE { st with funcs := Z0 st.funcs j v } rs { w with fu := ⟨w.fu.v, w.fu.c.set (0 + Int.toNat (j : Int) * 4 + 3) s', w.fu.n, w.fu.b⟩, cv := w.cv.set j (s', bs'), cp := w.cp.set j (slR 3 0 s' (isV f.caps ++ [iV v]) (f.caps.length + 1) bs') } :=
  { E with
    fu := by
      show w.fu.c.set _ _ = fuC (Z0 st.funcs j v) (w.cv.set j _); unfold Z0; rw [Int.toNat_natCast, Qau v s' bs' _ _ _ _ _ hf hx hv, E.fu, Nat.zero_add]
    fun' := by show w.fu.n = (Z0 st.funcs j v).length; rw [Q1a, E.fun']
    cv := by show (w.cv.set j _).length = (Z0 st.funcs j v).length; rw [List.length_set, Q1a, E.cv]
    cp := by
      show w.cp.set j _ = caP (Z0 st.funcs j v) (w.cv.set j _); unfold Z0
      rw [Int.toNat_natCast, Qb1 v s' bs' _ _ _ _ _ hf hx hv, E.cp] }
theorem Q4o {F B C : List Res} {j : Nat} {r : Res} (h : C[j]? = some r) : (F ++ (B ++ C))[F.length + (B.length + j)]? = some r := by
  rw [List.getElem?_append_right (by omega), Nat.add_sub_cancel_left, List.getElem?_append_right (by omega), Nat.add_sub_cancel_left]; exact h
theorem cap_S {h0 h : Hp} {ds : List Nat} {F B C : List Res} {j k : Nat} {r : Res} (S : SH h0 ds ((F ++ (B ++ C)).set k r) h) (hk : k = F.length + (B.length + j)) : SH h0 ds (F ++ (B ++ C.set j r)) h := by
  subst hk; rwa [List.set_append_right _ _ (by omega), Nat.add_sub_cancel_left, List.set_append_right _ _ (by omega), Nat.add_sub_cancel_left] at S
theorem SH.co {h0 h h2 : Hp} {ds : List Nat} {L : List Res} (S : SH h0 ds L h) (x : Co h0 h h2) (hd : ∀ r, r ∈ L → ∀ b, b ∈ r.own → ∀ d, h.get b ≠ some (.deferred d)) : SH h0 ds L h2 :=
  ⟨x.extB S.ext, fun r hr => r.st h h2 (fun i hi => ⟨S.lt i (Z9 hr hi), x.2 i (.inr (hd r hr i hi))⟩) (by rw [x.1]; exact Nat.le_refl _) (S.hold r hr), fun i hi => by rw [x.1]; exact S.lt i hi, S.new, S.nd⟩
theorem nd_c {h : Hp} {b e m : Nat} {c : List Value} (p : (cR b (.cells c e m)).P h) : ∀ i, i ∈ (cR b (.cells c e m)).own → ∀ d, h.get i ≠ some (.deferred d) := fun i hi d hg => by
  obtain rfl : i = b := by simpa [cR] using hi
  have p : h.get i = some (.cells c e m) := p; rw [hg] at p; cases p
theorem Qei {h : Hp} {e z n : Nat} {s : Value} {cs : List Value} {bs : List Nat} (p : (slR e z s cs n bs).P h) : ∀ i, i ∈ (slR e z s cs n bs).own → ∀ d, h.get i ≠ some (.deferred d) := fun i hi d hg => by
  have hi : i ∈ bs := hi; have p : SlC e z h s cs n bs := p; rcases p with ⟨_, _, _, h4⟩ | ⟨b, m, c, rest, _, h2, _, _, h5, _⟩
  · rw [h4] at hi; simp at hi
  rw [h5] at hi; obtain rfl := List.mem_singleton.1 hi; rw [hg] at h2; cases h2
theorem Qej {K A : Type} [DecidableEq K] {h : Hp} {key : K → Value} {enc : A → Value} {r : Nat} {F : K → Option A} (p : (mpR key enc r F).P h) : ∀ i, i ∈ (mpR key enc r F).own → ∀ d, h.get i ≠ some (.deferred d) := fun i hi d hg => by
  obtain rfl : i = r := by simpa [mpR] using hi
  obtain ⟨M, cl, h1, _⟩ := p; rw [hg] at h1; cases h1
theorem Q9t : ∀ {l : List Sco} {c : List Nat} {r : Res}, r ∈ scP l c → ∃ b F, r = mpR Value.string iV b F
  | s :: l, x :: c, r, h => by
    rcases List.mem_cons.1 h with rfl | h
    · exact ⟨_, _, rfl⟩
    exact Q9t h
  | [], _, _, h => by cases h
  | _ :: _, [], _, h => by cases h
theorem Qb2 : ∀ {l : List Fun} {c : List (Value × List Nat)} {r : Res}, r ∈ caP l c → ∃ s cs n b, r = slR 3 0 s cs n b
  | s :: l, x :: c, r, h => by
    rcases List.mem_cons.1 h with rfl | h
    · exact ⟨_, _, _, _, rfl⟩
    exact Qb2 h
  | [], _, _, h => by cases h
  | _ :: _, [], _, h => by cases h
theorem rs_nd {h0 h : Hp} {ds rs : List Nat} {rb : Nat} {sv : Value} {st : Nst} {w : RsW} (S : SH h0 ds (rsL rb sv st w) h) (E : RsE st rs w) : ∀ r, r ∈ rsL rb sv st w → ∀ b, b ∈ r.own → ∀ d, h.get b ≠ some (.deferred d) := fun r hr => by
  have p := S.hold r hr; simp only [List.mem_cons, List.mem_append] at hr; rcases hr with rfl | rfl | rfl | rfl | rfl | rfl | rfl | rfl | rfl | rfl | rfl | rfl | rfl | hr | hr
  · exact nd_c p
  iterate 9 exact Qei p
  · exact Qej p
  · exact Qei p
  · exact Qej p
  · rw [E.sp] at hr; obtain ⟨b, F, rfl⟩ := Q9t hr; exact Qej p
  rw [E.cp] at hr; obtain ⟨s, cs, n, b, rfl⟩ := Qb2 hr; exact Qei p
end Go.Proofs.YtkidomfnmpnmaaaGreatDoor
namespace Go.Proofs.YtkidomfnmpnmaaaGreatDoor
open Go.X Go.Nam
theorem ch_inv {fs : List Fun} {f g : Int} (c : Ch fs f g) (h : f ≠ g) : Ch fs (J8 fs f) g := by
  cases c with
  | refl _ => exact absurd rfl h
  | step _ c => exact c
theorem Q9n {h0 h h2 : Hp} {ds : List Nat} {L : List Res} {x : Nat} {o : AObj} (S : SH h0 ds (cR x o :: L) h) (g : ExtB [x] h h2) : SH h0 ds L h2 :=
  (S.upd (r' := ⟨[], fun _ => True, fun _ _ _ _ _ => trivial⟩) 0 rfl g trivial (fun _ h => by cases h) (fun _ h => by cases h) List.nodup_nil).drop
section
variable {h0 hE : Hp} {bs rs : List Nat} {rb : Nat} {sv : Value} {st : Nst} {T : List Tw} {i : Nat} {w0 : Nat} {bl : List (Nat × Nat)}
theorem n76S {h0 h : Hp} {ds : List Nat} {L : List Res} {a : Option Addr} {n c : Nat} (S : SH h0 ds L h) : C nmE 76 [.slice a n c] h fun r h' => ∃ b, r = .func (.func 105) #[] #[ZB b] ∧ SH h0 ds (cR b (.cells [.slice a n c] 60 0) :: L) h' :=
  C.mono n76 fun r h' ⟨e1, e2⟩ => ⟨h.n, e1, by rw [e2]; exact S.alloc _⟩
set_option maxHeartbeats 4000000 in
theorem n41 (S0 : SH h0 [] [rsR rb sv st rs bs] hE) (R : Tre h0 sv T) (hi : i < T.length) (I : Inv (vw T) st i bl w0) (hw : w0 ≤ 1000000) : C nmE 41 [ZB rb, iV i] hE fun _ g' => ∃ bs', SH hE bs [rsR rb sv (Q5X (vw T) st i) rs bs'] g' := by
  have X := R.X; obtain ⟨ta, tc, rfl⟩ := X.val; obtain ⟨t0, b, o', cs, ee, m, hw0, Q⟩ := JU X hi; obtain rfl := Q.ta; have hbw := I.bw; have hlm := I.lm; have hPn := R.P.n; have hTn : (vw T).n = T.length := rfl; have hbs := I.bs
  have hfind : ∀ v ow, Ky t0.s st.scopes.reverse = some (v, ow) → Q5X (vw T) st i = { st with means := st.means.set i (1, v), funcs := K9 v ow (st.funcs.length + 1) st.funcs st.owner } := fun v ow h => by
    unfold Q5X; rw [Q.s, h]; rfl
  have hnone : Ky t0.s st.scopes.reverse = none → Q5X (vw T) st i = YS (vw T) st i [2, 3] := fun h => by
    unfold Q5X; rw [Q.s, h]
  refine QcP (fu := Tryz.f41) (by kernel_rfl) rfl ?_; have S := S0.enter; obtain ⟨w, E, ho, S⟩ := Qo (A := []) S; simp only [List.nil_append] at S; refine Qd ?_; refine Yu S gn rfl rfl fun b1 g nb1 S => ?_; refine Yu S gn rfl rfl fun b2 g nb2 S => ?_; refine J0 ?_; refine Q6 gn rfl rfl (by kernel_rfl) (by first | exact S.cel 0 rfl | exact S.cel 1 rfl | exact S.cel 2 rfl | exact S.cel 3 rfl  | exact S.cel 4 rfl  | exact S.cel 5 rfl  | exact S.cel 6 rfl) rfl ?_; refine Q9 gn rfl rfl ?_; refine Q0 (off := 12) gn rfl rfl (by kernel_rfl) ?_
  refine Q6 gn rfl rfl (by kernel_rfl) (by first | exact S.cel 0 rfl | exact S.cel 1 rfl | exact S.cel 2 rfl | exact S.cel 3 rfl  | exact S.cel 4 rfl  | exact S.cel 5 rfl  | exact S.cel 6 rfl) rfl ?_; obtain ⟨va, vc, hsv⟩ := Y4 (S.sl 13 rfl); rw [hsv]; refine Qb [_] gn rfl rfl (by kernel_rfl) rfl (C.mono (n76S S) ?_); rintro v gR ⟨b0, rfl, S⟩
  skip
  refine ⟨ag0, ?_⟩; refine Q5 ?_; refine Qh ?_; refine Q1Y [(2, ZB b1), (3, ZB b2), (14, .func (.func 105) #[] #[ZB b0])] (by repeat (first | exact trivial | refine ⟨rfl, ?_⟩)) ?_; refine Qbq rfl rfl (by kernel_rfl) (by kernel_rfl) (by kernel_rfl) (by kernel_rfl) fun rc hR h0 hx0 hn0 hrc => ?_; have S1 := S.push (r := cR (gR.n + 1) (rc .ready none)) hx0 hrc (by simp [cR]; omega) (by simp [cR]) (by simp [cR]); rw [← hsv] at S1
  have hround : ∀ k (_ : k < w.sc.n) r s m1, (Ky t0.s (st.scopes.drop (k + 1)).reverse = none ∧ SH hE bs (cR (gR.n + 1) (rc .ready none) :: cR b0 (.cells [w.sc.v] 60 0) :: cR b2 (.cells [iV i] 3 0) :: cR b1 (.cells [ZB rb] 56 0) :: rsL rb (.slice (some ⟨b, o', none⟩) T.length tc) st w) m1) → st.scopes[k]? = some s → rs[k]? = some r → Y nmE (gR.n + 1) [iV k, .agg #[.map (some r), iV s.ow]] m1 fun v m2 =>
    (v = .bool true ∧ (Ky t0.s (st.scopes.drop k).reverse = none ∧ SH hE bs (cR (gR.n + 1) (rc .ready none) :: cR b0 (.cells [w.sc.v] 60 0) :: cR b2 (.cells [iV i] 3 0) :: cR b1 (.cells [ZB rb] 56 0) :: rsL rb (.slice (some ⟨b, o', none⟩) T.length tc) st w) m2)) ∨
    (v = .bool false ∧ ∃ w', RsE (Q5X (vw T) st i) rs w' ∧ SH hE bs (cR (gR.n + 1) (rc .done (some .ret)) :: cR b0 (.cells [w.sc.v] 60 0) :: cR b2 (.cells [iV i] 3 0) :: cR b1 (.cells [ZB rb] 56 0) :: rsL rb (.slice (some ⟨b, o', none⟩) T.length tc) (Q5X (vw T) st i) w') m2) := fun k hk r s m1 ⟨hno, S⟩ hs hr => by
      have hsp : w.sp[k]? = some (mpR Value.string iV r s.loc) := by rw [E.sp]; exact Q77 _ _ _ _ _ hs hr
      have hkl : k < st.scopes.length := by have := E.scn; omega
      have hdk : st.scopes.drop k = s :: st.scopes.drop (k + 1) := by
        rw [List.drop_eq_getElem_cons hkl]; rw [List.getElem?_eq_getElem hkl] at hs; rw [Option.some.inj hs]
      refine hR.round (S.cel 0 rfl) rfl ?_; refine Q7 (by kernel_rfl) ?_; refine Zl (zv := .agg #[.map none, .int .i64 0]) S gn rfl (by kernel_rfl) fun b3 g nb3 S => ?_; refine QL (n := 2) 0 S gn rfl rfl (by kernel_rfl) (by kernel_rfl) rfl rfl (by decide) rfl (fun g S => ag0) fun g S => ?_; simp only [List.set_cons_succ, List.set_cons_zero] at S; refine Q5 ?_; refine ⟨_, (S.cel 1 rfl), ?_⟩; have S := S.put 1 rfl (rc .busy none); simp only [List.set_cons_succ, List.set_cons_zero] at S; refine Qh ?_; refine Qk ?_
      refine Z2 [(0, []), (1, []), (2, []), (3, []), (4, []), (5, []), (6, []), (7, []), (8, []), (9, []), (10, []), (11, []), (12, []), (13, []), (14, []), (15, []), (16, [])] (by kernel_rfl) (by kernel_rfl) (by kernel_rfl) (by kernel_rfl) ?_; refine Q0 (off := 0) gn rfl rfl (by kernel_rfl) ?_; refine Q6 gn rfl rfl (by kernel_rfl) (by first | exact S.cel 0 rfl | exact S.cel 1 rfl | exact S.cel 2 rfl | exact S.cel 3 rfl | exact S.cel 3 rfl  | exact S.cel 4 rfl  | exact S.cel 5 rfl  | exact S.cel 6 rfl) rfl ?_
      refine Q6 gn rfl rfl (by kernel_rfl) (by first | exact S.cel 0 rfl | exact S.cel 1 rfl | exact S.cel 2 rfl | exact S.cel 3 rfl | exact S.cel 3 rfl  | exact S.cel 4 rfl  | exact S.cel 5 rfl  | exact S.cel 6 rfl) rfl ?_; refine Q9 gn rfl rfl ?_; refine Q0 (off := 0) gn rfl rfl (by kernel_rfl) ?_; refine Q0 (off := 0) gn rfl rfl (by kernel_rfl) ?_; refine Q6 gn rfl rfl (by kernel_rfl) (by first | exact S.cel 0 rfl | exact S.cel 1 rfl | exact S.cel 2 rfl | exact S.cel 3 rfl | exact S.cel 3 rfl  | exact S.cel 4 rfl  | exact S.cel 5 rfl  | exact S.cel 6 rfl) rfl ?_
      refine Q6 gn rfl rfl (by kernel_rfl) (by first | exact S.cel 0 rfl | exact S.cel 1 rfl | exact S.cel 2 rfl | exact S.cel 3 rfl | exact S.cel 3 rfl  | exact S.cel 4 rfl  | exact S.cel 5 rfl  | exact S.cel 6 rfl) rfl ?_; refine Q8 (zz := 6) gn rfl rfl rfl (by kernel_rfl) (by omega) (by omega) ?_; refine Q0 (off := 1) gn rfl rfl (by kernel_rfl) ?_; refine Q6 gn rfl rfl (by kernel_rfl) (S0.two S0.own0 S Q.g Q.lt) (Q.at 1 (by decide) rfl) ?_; obtain ⟨M, cl, hM, hF⟩ := Q35 S _ (Q63 (F := [_, _, _, _, _, _, _, _, _, _, _, _, _, _, _, _, _, _]) (C := w.cp) hsp); refine YQ (zv := .int .i64 0) Qan gn rfl rfl rfl hM (by kernel_rfl) ?_; rw [hF, Q1J]
      obtain ⟨lo, hlo⟩ : ∃ lo, s.loc t0.s = lo := ⟨_, rfl⟩; rw [hlo]; refine Q4 gn rfl rfl ?_; refine Zj gn rfl rfl rfl ?_; refine Zj gn rfl rfl rfl ?_; refine Q3 gn rfl rfl ?_; refine Q3 gn rfl rfl ?_; refine J0 ?_; refine Q4 gn rfl rfl ?_; refine ZN gn rfl rfl ?_; refine Q5 ?_; refine Qa rfl (fun hb => ?_) fun hb => ?_
      · skip
        refine Zb ?_; refine Qx ?_; refine Za ?_
        exact ⟨_, _, (S.cel 1 rfl), .inl ⟨rfl, by
          obtain rfl : lo = none := by cases lo <;> simp_all
          rw [hdk, List.reverse_cons, Q1R, hno]; show (match s.loc t0.s with | some v => some (v, s.ow) | none => none) = none; rw [hlo], by
          have S := S.put 1 rfl (rc .ready none); simp only [List.set_cons_succ, List.set_cons_zero] at S
          exact S.drop⟩⟩
      refine Qe ?_
      obtain ⟨vi, rfl⟩ : ∃ vi, lo = some vi := by
        cases lo with
        | none => simp at hb
        | some vi => exact ⟨vi, rfl⟩
      have hfs : Ky t0.s st.scopes.reverse = some (vi, s.ow) := by
        rw [← List.take_append_drop k st.scopes, hdk, List.reverse_append, List.reverse_cons, Q1R, Q1R, hno]; show (match (match s.loc t0.s with | some v => some (v, s.ow) | none => none) with | some r => some r | none => Ky t0.s (st.scopes.take k).reverse) = some (vi, s.ow); rw [hlo]
      have hus := hfind _ _ hfs; have hch := I.ch s.ow (List.mem_map_of_mem (List.mem_of_getElem? hs)); have hon0 := hch.nonneg; obtain ⟨on, hon⟩ : ∃ on : Nat, st.owner = on := ⟨st.owner.toNat, by omega⟩; rw [hon] at hch; have hol := I.o2; obtain ⟨mb, mc, hmv, hmb, hml⟩ := Y3 (S.sl 6 rfl) (by rw [E.men]; omega); refine Qk ?_; refine Z2 [(0, []), (1, []), (2, []), (3, []), (4, []), (5, []), (6, []), (7, []), (8, []), (9, [])] (by kernel_rfl) (by kernel_rfl) (by kernel_rfl) (by kernel_rfl) ?_
      refine Q6 gn rfl rfl (by kernel_rfl) (by first | exact S.cel 0 rfl | exact S.cel 1 rfl | exact S.cel 2 rfl | exact S.cel 3 rfl | exact S.cel 3 rfl  | exact S.cel 4 rfl  | exact S.cel 5 rfl  | exact S.cel 6 rfl) rfl ?_; refine Q9 gn rfl rfl ?_; refine Q0 (off := 1) gn rfl rfl (by kernel_rfl) ?_; refine Q0 (off := 0) gn rfl rfl (by kernel_rfl) ?_; refine Q6 gn rfl rfl (by kernel_rfl) (by first | exact S.cel 0 rfl | exact S.cel 1 rfl | exact S.cel 2 rfl | exact S.cel 3 rfl | exact S.cel 3 rfl  | exact S.cel 4 rfl  | exact S.cel 5 rfl  | exact S.cel 6 rfl) rfl ?_
      refine Q6 gn rfl rfl (by kernel_rfl) (by first | exact S.cel 0 rfl | exact S.cel 1 rfl | exact S.cel 2 rfl | exact S.cel 3 rfl | exact S.cel 3 rfl  | exact S.cel 4 rfl  | exact S.cel 5 rfl  | exact S.cel 6 rfl) rfl ?_; refine Q4 gn rfl rfl ?_; refine Yf (zv := .agg #[.int .i64 0, .int .i64 0]) (pl := [(0, 1), (1, 1)]) [(0, _), (1, _)] gn rfl (by kernel_rfl) (by kernel_rfl) rfl (by rfl) ?_; rw [hmv]; refine Q8 (zz := 2) gn rfl rfl rfl (by kernel_rfl) (by omega) (by have := E.men; omega) ?_
      refine Qd7 (z := 1) (cs' := meC (st.means.set i (1, vi))) 6 S gn rfl rfl (by kernel_rfl) (by kernel_rfl) rfl rfl hmv (by have h1 := E.men; rw [hml, Int.toNat_natCast]; omega) (by rw [E.me, Int.toNat_natCast, Nat.zero_add]; exact Q6y st.means i (1, vi) (by omega)) (fun g S => ag0) fun g S => ?_; simp only [List.set_cons_succ, List.set_cons_zero] at S; refine Q5 ?_; refine Qk ?_; refine Qk ?_
      have E1 : RsE { st with means := st.means.set i (1, vi) } rs { w with me := ⟨w.me.v, meC (st.means.set i (1, vi)), w.me.n, w.me.b⟩ } := { E with
        me := rfl
        men := by show w.me.n = (st.means.set _ _).length; rw [List.length_set, E.men] }
      refine Q7 (by kernel_rfl) ?_; refine Q6 gn rfl rfl (by kernel_rfl) (by first | exact S.cel 0 rfl | exact S.cel 1 rfl | exact S.cel 2 rfl | exact S.cel 3 rfl | exact S.cel 3 rfl  | exact S.cel 4 rfl  | exact S.cel 5 rfl  | exact S.cel 6 rfl) rfl ?_; refine Q9 gn rfl rfl ?_; refine Q0 (off := 13) gn rfl rfl (by kernel_rfl) ?_; refine Q6 gn rfl rfl (by kernel_rfl) (by first | exact S.cel 0 rfl | exact S.cel 1 rfl | exact S.cel 2 rfl | exact S.cel 3 rfl | exact S.cel 3 rfl  | exact S.cel 4 rfl  | exact S.cel 5 rfl  | exact S.cel 6 rfl) rfl ?_; refine Q3 gn rfl rfl ?_; refine Q5 ?_; refine Qh ?_
      refine QV [(8, _)] [(2, _), (5, _), (6, _)] (by repeat (first | exact trivial | refine ⟨rfl, ?_⟩)) (fun kk lv hh => ∃ (oN : Nat) (fs : List Fun) (kf : Nat) (w' : RsW), lv = [(8, iV oN)] ∧ kk = oN ∧ RsE { st with means := st.means.set i (1, vi), funcs := fs } rs w' ∧ SH hE bs (cR b3 (.cells [.map (some r), iV s.ow] 120 0) :: cR (gR.n + 1) (rc .busy none) :: cR b0 (.cells [w.sc.v] 60 0) :: cR b2 (.cells [iV i] 3 0) :: cR b1 (.cells [ZB rb] 56 0) :: rsL rb (.slice (some ⟨b, o', none⟩) T.length tc) { st with means := st.means.set i (1, vi), funcs := fs } w') hh ∧ Ch st.funcs oN s.ow ∧ oN < st.funcs.length ∧ (∀ j, j ≤ oN → fs[j]? = st.funcs[j]?) ∧ oN < kf ∧ K9 vi s.ow kf fs oN = K9 vi s.ow (st.funcs.length + 1) st.funcs st.owner) (n := on) ?_ fun kk lv hh hI => ?_
      · exact ⟨on, st.funcs, st.funcs.length + 1, _, by rw [hon], rfl, E1, S, hch, by omega, fun _ _ => rfl, by omega, by rw [hon]⟩
      obtain ⟨oN, fs, kf, w', rfl, hkk, E2, S, hcho, hol2, hfj, hkf, hcap⟩ := hI; refine Qk ?_; refine Qd ?_; refine Q4 gn rfl rfl ?_; refine Q0 (off := 1) gn rfl rfl (by kernel_rfl) ?_; refine Q6 gn rfl rfl (by kernel_rfl) (by first | exact S.cel 0 rfl | exact S.cel 1 rfl | exact S.cel 2 rfl | exact S.cel 3 rfl | exact S.cel 3 rfl  | exact S.cel 4 rfl  | exact S.cel 5 rfl  | exact S.cel 6 rfl) rfl ?_; refine Q2h gn rfl rfl rfl ?_; refine Q5 ?_; refine Qa rfl (fun hb => ?_) fun hb => ?_
      · skip
        refine Qe ?_; have hne : (oN : Int) ≠ s.ow := by simpa using hb
        obtain ⟨f, hf⟩ : ∃ f, st.funcs[oN]? = some f := ⟨_, List.getElem?_eq_getElem hol2⟩; have hff : fs[oN]? = some f := (hfj oN (Nat.le_refl _)).trans hf; have hfl : oN < fs.length := (List.getElem?_eq_some_iff.1 hff).1; obtain ⟨cx, hcx⟩ : ∃ x, w'.cv[oN]? = some x := ⟨_, List.getElem?_eq_getElem (by rw [E2.cv]; exact hfl)⟩; have hfun : w'.fu.n = fs.length := E2.fun'; have hfue : w'.fu.c = fuC fs w'.cv := E2.fu; obtain ⟨fb, fc, hfv, hfb, hfcl⟩ := Y3 (S.sl 13 rfl) (by omega); have hpc : w'.cp[oN]? = some (slR 3 0 cx.1 (isV f.caps) f.caps.length cx.2) := by rw [E2.cp]; exact Qb3 _ _ _ _ _ hff hcx
        have hfc := I.bc f (List.mem_of_getElem? hf); have hfu := (I.up oN f hf).2; have hupo : J8 st.funcs oN = f.up := by unfold J8; rw [Int.toNat_natCast, hf]
        have hchu : Ch st.funcs f.up s.ow := by
          have c := ch_inv hcho hne; rw [hupo] at c; exact c
        have hfu0 := hchu.nonneg; have hupf : J8 fs oN = f.up := by unfold J8; rw [Int.toNat_natCast, hff]
        obtain ⟨kf', rfl⟩ : ∃ k', kf = k' + 1 := ⟨kf - 1, by omega⟩
        have hcap2 : K9 vi s.ow kf' (Z0 fs oN vi) f.up = K9 vi s.ow (st.funcs.length + 1) st.funcs st.owner := by
          rw [← hcap]; show _ = if (oN : Int) = s.ow then fs else K9 vi s.ow kf' (Z0 fs oN vi) (J8 fs oN)
          rw [if_neg hne, hupf]
        obtain ⟨f2, hf2, hf2u⟩ : ∃ f2, (Z0 fs oN vi)[oN]? = some f2 ∧ f2.up = f.up := ⟨_, Q5W hff, by split <;> (try split) <;> rfl⟩; have hf2l : oN < (Z0 fs oN vi).length := by rw [Q1a]; exact hfl
        have hag : ∀ j, j ≤ f.up.toNat → (Z0 fs oN vi)[j]? = st.funcs[j]? := fun j hj => (Qbf (by omega)).trans (hfj j (by omega)); obtain ⟨rest, mm, hgf⟩ := YA (n := w'.fu.n) (b := fb) (c := fc) (by have := S.sl 13 rfl; rw [hfv] at this; exact this)
        have hrow4 : ((w'.fu.c ++ rest).drop (0 + Int.toNat (oN : Int) * 4)).take 4 = [iV f.tw, iV f.up, .string f.nm, cx.1] := by
          rw [hfue, Int.toNat_natCast, Nat.zero_add]; exact Q0v _ _ _ _ _ _ hff hcx
        refine Qk ?_; refine Qh ?_; refine Qd ?_; refine Q6 gn rfl rfl (by kernel_rfl) (by first | exact S.cel 0 rfl | exact S.cel 1 rfl | exact S.cel 2 rfl | exact S.cel 3 rfl | exact S.cel 3 rfl  | exact S.cel 4 rfl  | exact S.cel 5 rfl  | exact S.cel 6 rfl) rfl ?_; refine Q9 gn rfl rfl ?_; refine Q0 (off := 1) gn rfl rfl (by kernel_rfl) ?_; refine Q0 (off := 7) gn rfl rfl (by kernel_rfl) ?_; refine Q6 gn rfl rfl (by kernel_rfl) (by first | exact S.cel 0 rfl | exact S.cel 1 rfl | exact S.cel 2 rfl | exact S.cel 3 rfl | exact S.cel 3 rfl  | exact S.cel 4 rfl  | exact S.cel 5 rfl  | exact S.cel 6 rfl) rfl ?_; refine Q4 gn rfl rfl ?_; rw [hfv]
        refine Q8 (zz := 4) gn rfl rfl rfl (by kernel_rfl) (by omega) (by omega) ?_; refine Q3 gn rfl rfl ?_; refine Q5 ?_; refine Qk ?_; have hrow := (S.sl _ (Q4o (F := [_, _, _, _, _, _, _, _, _, _, _, _, _, _, _, _, _, _]) (B := w'.sp) hpc)).row; refine Q7 (by kernel_rfl) ?_; refine Q4 gn rfl rfl ?_; refine Q9 gn rfl rfl ?_; refine Q0 (off := 3) gn rfl rfl (by kernel_rfl) ?_; refine Q6 gn rfl rfl (by kernel_rfl) hgf (KA (f := 3) hrow4 (by decide) rfl) ?_; refine Q4 gn rfl rfl ?_; refine Qb [_, _] gn rfl rfl (by kernel_rfl) rfl (C.mono (n77 hrow (by omega)) ?_); rintro v g ⟨rfl, x⟩; have S := S.grow x; refine ⟨ag0, ?_⟩; refine ZN gn rfl rfl ?_; refine Q5 ?_
        refine Qa rfl (fun hb => ?_) fun hb => ?_
        · skip
          have hnv : vi ∉ f.caps := by simpa using hb
          have hpos : 0 + Int.toNat (oN : Int) * 4 + 3 < w'.fu.c.length := by rw [hfcl, Int.toNat_natCast]; omega
          obtain ⟨rest2, mm2, hgf2⟩ := YA (n := w'.fu.n) (b := fb) (c := fc) (by have := S.sl 13 rfl; rw [hfv] at this; exact this)
          have hrow42 : ((w'.fu.c ++ rest2).drop (0 + Int.toNat (oN : Int) * 4)).take 4 = [iV f.tw, iV f.up, .string f.nm, cx.1] := by
            rw [hfue, Int.toNat_natCast, Nat.zero_add]; exact Q0v _ _ _ _ _ _ hff hcx
          refine Q7 (by kernel_rfl) ?_; refine Q4 gn rfl rfl ?_; refine Q4 gn rfl rfl ?_; refine Q9 gn rfl rfl ?_; refine Q0 (off := 3) gn rfl rfl (by kernel_rfl) ?_; refine Q6 gn rfl rfl (by kernel_rfl) hgf2 (KA (f := 3) hrow42 (by decide) rfl) ?_; refine Q4 gn rfl rfl ?_; refine Qn (cs := #[iV vi]) (e := 3) (z := 0) (zv := .int .i64 0) [(0, _)] S gn rfl (by kernel_rfl) (by kernel_rfl) (by kernel_rfl) (by kernel_rfl) rfl (by kernel_rfl) fun b4 g nb4 S => ?_; refine KI (e := 3) (z := 0) (by' := 7) _ 0 S el29 gn rfl rfl rfl (Q4o (F := [_, _, _, _, _, _, _, _, _, _, _, _, _, _, _, _, _, _, _]) (B := w'.sp) hpc) rfl rfl (by rfl) (by omega) (fun s' bs' g S => ag0) fun s' bs' g S => ?_
          simp only [List.set_cons_succ, List.set_cons_zero] at S; have hcv : cellV s' = true := (S.sl _ (Q4L (Q4o (F := [_, _, _, _, _, _, _, _, _, _, _, _, _, _, _, _, _, _, _]) (B := w'.sp) hpc))).cellV; have S := cap_S (F := [_, _, _, _, _, _, _, _, _, _, _, _, _, _, _, _, _, _, _]) S rfl; simp only [List.cons_append, List.nil_append] at S; refine Q9 gn rfl rfl ?_; refine Q0 (off := 3) gn rfl rfl (by kernel_rfl) ?_; refine Q7b 14 S gn rfl rfl hcv (by kernel_rfl) rfl hfv hpos (fun g S => ag0) fun g S => ?_; simp only [List.set_cons_succ, List.set_cons_zero] at S; refine Q5 ?_
          obtain ⟨w2, E3, S⟩ : ∃ w2, RsE { st with means := st.means.set i (1, vi), funcs := Z0 fs oN vi } rs w2 ∧ SH hE bs (cR b3 (.cells [.map (some r), iV s.ow] 120 0) :: cR (gR.n + 1) (rc .busy none) :: cR b0 (.cells [w.sc.v] 60 0) :: cR b2 (.cells [iV i] 3 0) :: cR b1 (.cells [ZB rb] 56 0) :: rsL rb (.slice (some ⟨b, o', none⟩) T.length tc) { st with means := st.means.set i (1, vi), funcs := Z0 fs oN vi } w2) g := ⟨_, E2.cap hff hcx hnv _ _, S.drop⟩; obtain ⟨cx2, hcx2⟩ : ∃ x, w2.cv[oN]? = some x := ⟨_, List.getElem?_eq_getElem (by rw [E3.cv]; exact hf2l)⟩; have hfun2 : w2.fu.n = (Z0 fs oN vi).length := E3.fun'; have hfue2 : w2.fu.c = fuC (Z0 fs oN vi) w2.cv := E3.fu
          obtain ⟨fb2, fc2, hfv2, _, _⟩ := Y3 (S.sl 13 rfl) (by omega); obtain ⟨rest3, mm3, hgf3⟩ := YA (n := w2.fu.n) (b := fb2) (c := fc2) (by have := S.sl 13 rfl; rw [hfv2] at this; exact this)
          have hrow43 : ((w2.fu.c ++ rest3).drop (0 + Int.toNat (oN : Int) * 4)).take 4 = [iV f2.tw, iV f2.up, .string f2.nm, cx2.1] := by
            rw [hfue2, Int.toNat_natCast, Nat.zero_add]; exact Q0v _ _ _ _ _ _ hf2 hcx2
          refine Q7 (by kernel_rfl) ?_; refine Q6 gn rfl rfl (by kernel_rfl) (by first | exact S.cel 0 rfl | exact S.cel 1 rfl | exact S.cel 2 rfl | exact S.cel 3 rfl | exact S.cel 4 rfl | exact S.cel 3 rfl  | exact S.cel 4 rfl  | exact S.cel 5 rfl  | exact S.cel 6 rfl) rfl ?_; refine Q9 gn rfl rfl ?_; refine Q0 (off := 1) gn rfl rfl (by kernel_rfl) ?_; refine Q0 (off := 7) gn rfl rfl (by kernel_rfl) ?_; refine Q6 gn rfl rfl (by kernel_rfl) (by first | exact S.cel 0 rfl | exact S.cel 1 rfl | exact S.cel 2 rfl | exact S.cel 3 rfl | exact S.cel 4 rfl | exact S.cel 3 rfl  | exact S.cel 4 rfl  | exact S.cel 5 rfl  | exact S.cel 6 rfl) rfl ?_; refine Q4 gn rfl rfl ?_; rw [hfv2]
          refine Q8 (zz := 4) gn rfl rfl rfl (by kernel_rfl) (by omega) (by omega) ?_; refine Q0 (off := 1) gn rfl rfl (by kernel_rfl) ?_; refine Q6 gn rfl rfl (by kernel_rfl) hgf3 (KA (f := 1) hrow43 (by decide) rfl) ?_; refine Q3 gn rfl rfl ?_; refine Q5 ?_; exact KL f.up.toNat (by omega) [(8, _)] (by repeat (first | exact trivial | refine ⟨rfl, ?_⟩)) ⟨f.up.toNat, _, kf', w2, by rw [hf2u, Int.toNat_of_nonneg hfu0], rfl, E3, S, by rw [Int.toNat_of_nonneg hfu0]; exact hchu, by omega, hag, by omega, by rw [Int.toNat_of_nonneg hfu0]; exact hcap2⟩
        have hiv : vi ∈ f.caps := by simpa using hb
        refine Qe ?_; obtain ⟨w2, E3, S⟩ : ∃ w2, RsE { st with means := st.means.set i (1, vi), funcs := Z0 fs oN vi } rs w2 ∧ SH hE bs (cR b3 (.cells [.map (some r), iV s.ow] 120 0) :: cR (gR.n + 1) (rc .busy none) :: cR b0 (.cells [w.sc.v] 60 0) :: cR b2 (.cells [iV i] 3 0) :: cR b1 (.cells [ZB rb] 56 0) :: rsL rb (.slice (some ⟨b, o', none⟩) T.length tc) { st with means := st.means.set i (1, vi), funcs := Z0 fs oN vi } w2) g := ⟨w', by rw [QcX hff hiv]; exact E2, S⟩; obtain ⟨cx2, hcx2⟩ : ∃ x, w2.cv[oN]? = some x := ⟨_, List.getElem?_eq_getElem (by rw [E3.cv]; exact hf2l)⟩; have hfun2 : w2.fu.n = (Z0 fs oN vi).length := E3.fun'; have hfue2 : w2.fu.c = fuC (Z0 fs oN vi) w2.cv := E3.fu
        obtain ⟨fb2, fc2, hfv2, _, _⟩ := Y3 (S.sl 13 rfl) (by omega); obtain ⟨rest3, mm3, hgf3⟩ := YA (n := w2.fu.n) (b := fb2) (c := fc2) (by have := S.sl 13 rfl; rw [hfv2] at this; exact this)
        have hrow43 : ((w2.fu.c ++ rest3).drop (0 + Int.toNat (oN : Int) * 4)).take 4 = [iV f2.tw, iV f2.up, .string f2.nm, cx2.1] := by
          rw [hfue2, Int.toNat_natCast, Nat.zero_add]; exact Q0v _ _ _ _ _ _ hf2 hcx2
        refine Q7 (by kernel_rfl) ?_; refine Q6 gn rfl rfl (by kernel_rfl) (by first | exact S.cel 0 rfl | exact S.cel 1 rfl | exact S.cel 2 rfl | exact S.cel 3 rfl | exact S.cel 3 rfl  | exact S.cel 4 rfl  | exact S.cel 5 rfl  | exact S.cel 6 rfl) rfl ?_; refine Q9 gn rfl rfl ?_; refine Q0 (off := 1) gn rfl rfl (by kernel_rfl) ?_; refine Q0 (off := 7) gn rfl rfl (by kernel_rfl) ?_; refine Q6 gn rfl rfl (by kernel_rfl) (by first | exact S.cel 0 rfl | exact S.cel 1 rfl | exact S.cel 2 rfl | exact S.cel 3 rfl | exact S.cel 3 rfl  | exact S.cel 4 rfl  | exact S.cel 5 rfl  | exact S.cel 6 rfl) rfl ?_; refine Q4 gn rfl rfl ?_; rw [hfv2]
        refine Q8 (zz := 4) gn rfl rfl rfl (by kernel_rfl) (by omega) (by omega) ?_; refine Q0 (off := 1) gn rfl rfl (by kernel_rfl) ?_; refine Q6 gn rfl rfl (by kernel_rfl) hgf3 (KA (f := 1) hrow43 (by decide) rfl) ?_; refine Q3 gn rfl rfl ?_; refine Q5 ?_; exact KL f.up.toNat (by omega) [(8, _)] (by repeat (first | exact trivial | refine ⟨rfl, ?_⟩)) ⟨f.up.toNat, _, kf', w2, by rw [hf2u, Int.toNat_of_nonneg hfu0], rfl, E3, S, by rw [Int.toNat_of_nonneg hfu0]; exact hchu, by omega, hag, by omega, by rw [Int.toNat_of_nonneg hfu0]; exact hcap2⟩
      refine Zb ?_; refine Qx ?_; refine Qz ?_; refine Za ?_; refine Qc ?_
      exact ⟨_, _, (S.cel 1 rfl), .inr ⟨rfl, w', by
        obtain ⟨kf', rfl⟩ : ∃ k', kf = k' + 1 := ⟨kf - 1, by omega⟩; have heq : (oN : Int) = s.ow := by simpa using hb
        have e : fs = K9 vi s.ow (st.funcs.length + 1) st.funcs st.owner := by
          rw [← hcap]; show fs = if (oN : Int) = s.ow then fs else _
          rw [if_pos heq]
        rw [hus, ← e]; refine ⟨E2, ?_⟩; have S := S.put 1 rfl (rc .done (some .ret)); simp only [List.set_cons_succ, List.set_cons_zero] at S
        exact S.drop⟩⟩
  refine C.mono (n105 (n := st.scopes.length) (l := st.scopes) (rs := rs) (v := w.sc.v) (by omega) rfl E.rsn (fun k m1 => Ky t0.s (st.scopes.drop k).reverse = none ∧ SH hE bs (cR (gR.n + 1) (rc .ready none) :: cR b0 (.cells [w.sc.v] 60 0) :: cR b2 (.cells [iV i] 3 0) :: cR b1 (.cells [ZB rb] 56 0) :: rsL rb (.slice (some ⟨b, o', none⟩) T.length tc) st w) m1) (fun m2 => ∃ w', RsE (Q5X (vw T) st i) rs w' ∧ SH hE bs (cR (gR.n + 1) (rc .done (some .ret)) :: cR b0 (.cells [w.sc.v] 60 0) :: cR b2 (.cells [iV i] 3 0) :: cR b1 (.cells [ZB rb] 56 0) :: rsL rb (.slice (some ⟨b, o', none⟩) T.length tc) (Q5X (vw T) st i) w') m2) (fun k m1 ⟨_, S⟩ => ⟨S.cel 1 rfl, by have := Y4 (S.sl 15 rfl); rw [E.scn] at this; exact this, fun hn => by
    obtain ⟨b9, c9, e9, _, _⟩ := Y3 (S.sl 15 rfl) (by rw [E.scn]; exact hn); obtain ⟨rest9, mm9, hg9⟩ := YA (n := w.sc.n) (b := b9) (c := c9) (by have := S.sl 15 rfl; rw [e9] at this; exact this)
    exact ⟨b9, c9, rest9, mm9, by rw [← E.scn]; exact e9, by rw [← E.sc]; exact hg9⟩⟩) ⟨by rw [List.drop_length]; rfl, S1⟩ (fun k hk r s m1 hp => hround k (by rw [E.scn]; exact hk) r s m1 hp)) ?_
  rintro v h' hPR; rcases hPR with ⟨hno, S⟩ | ⟨w', E', S⟩
  case inr =>
    refine ⟨_, _, S.cel 0 rfl, by decide, fun h2 hx2 hn2 => ?_⟩; have S := (Q9n S hx2).drop.drop.drop; refine ⟨.inl rfl, _, rfl, fun h3 hco => ?_⟩; exact QZ (A := []) (SH.co S hco (rs_nd S E')) E'
  refine ⟨_, _, S.cel 0 rfl, by decide, fun h2 hx2 hn2 => ?_⟩; have S := Q9n S hx2; refine Qfk (.inl rfl) ?_; refine Q7 (by kernel_rfl) ?_; refine Q6 gn rfl rfl (by kernel_rfl) (by first | exact S.cel 0 rfl | exact S.cel 1 rfl | exact S.cel 2 rfl | exact S.cel 3 rfl | exact S.cel 3 rfl  | exact S.cel 4 rfl  | exact S.cel 5 rfl  | exact S.cel 6 rfl) rfl ?_; refine Q6 gn rfl rfl (by kernel_rfl) (by first | exact S.cel 0 rfl | exact S.cel 1 rfl | exact S.cel 2 rfl | exact S.cel 3 rfl | exact S.cel 3 rfl  | exact S.cel 4 rfl  | exact S.cel 5 rfl  | exact S.cel 6 rfl) rfl ?_
  refine Qn (cs := #[iV 2, iV 3]) (e := 36) (z := 0) (zv := .int .i64 0) [(0, _), (1, _)] S gn rfl (by kernel_rfl) (by kernel_rfl) (by kernel_rfl) (by kernel_rfl) rfl (by kernel_rfl) fun b5 g nb5 S => ?_; have S := Qp (A := [_, _, _, _]) S E; refine Qb [_, _, _] gn rfl rfl (by kernel_rfl) rfl (C.mono (n78 (S0.sub1 S0.own0 S 4 rfl) R hi (by omega) hlm (Q11 (ks := [2, 3]) S 0 4 rfl rfl (by decide)) (by decide)) ?_); rintro v g ⟨bs', S2⟩; have S := S.ret 4 rfl S2; simp only [List.cons_append, List.nil_append, List.set_cons_succ, List.set_cons_zero] at S; obtain ⟨w, E, ho, S⟩ := Qo (A := [_, _, _, _]) S; simp only [List.cons_append, List.nil_append] at S; refine ⟨ag0, ?_⟩; refine Q5 ?_
  refine ⟨.inr rfl, _, rfl, fun h2 hco => ?_⟩; rw [hnone (by simpa using hno)]; have S := S.drop.drop.drop.drop; exact QZ (A := []) (SH.co S hco (rs_nd S E)) E
end
end Go.Proofs.YtkidomfnmpnmaaaGreatDoor
namespace Go.Proofs.YtkidomfnmpnmaaaGreatDoor
open Go.X Go.Nam
section
variable {h0 hE : Hp} {bs rs : List Nat} {rb : Nat} {sv : Value} {st : Nst} {T : List Tw} {i : Nat} {rec : Nst → Int → Nst} {k n w0 : Nat} {bl : List (Nat × Nat)}
set_option maxHeartbeats 1000000 in
theorem rule_c (S0 : SH h0 [] [rsR rb sv st rs bs] hE) (R : Tre h0 sv T) (hC : Q8N h0 rb sv T rec k) (hr : KC (vw T) rec k) (B : Pow h0) (hN : ∀ i : Nat, (vw T).K i = 9 → 0 ≤ (vw T).N i ∧ (vw T).N i ≤ 3) (hs : sub (vw T) (k + 1) i n) (A : At (vw T) st i n bl w0) (hb : w0 + (4 * (n - i) - 1) ≤ 100000) :
    (∀ f, Q0O ((vw T).K i) = some f → C nmE f [ZB rb, iV i] hE fun _ g' => ∃ bs', SH hE bs [rsR rb sv (Q0N (vw T) rec st i) rs bs'] g') ∧
    (Q0O ((vw T).K i) = none → C nmE 51 [ZB rb, iV i, iV 0] hE fun _ g' => ∃ bs', SH hE bs [rsR rb sv (Q0N (vw T) rec st i) rs bs'] g') := by
  have P := R.P; obtain ⟨ha, hk⟩ := hs; have hS : Sb (vw T) i n := ⟨k + 1, ha, hk⟩; have F := P.fm i ha; have I := A.I; have hlt := hS.lt; have hP := P.n; have hi : i < T.length := ha; have hi1 : i + 1 ≤ (vw T).n := ha; have hbf := I.bf; have hbw := I.bw; have hbs := I.bs; have hm1 := I.m1; have hm2 := I.m2; have hi2 := I.i1; have hi3 := I.i2; have hbb : w0 + 3 + 4 * (n - (i + 1)) ≤ 100000 := by omega
  unfold Q0O; have eS : Q0N (vw T) rec st i = Q0N (vw T) rec st i := rfl; unfold Q0N at eS ⊢; dsimp only
  have fin : ∀ {f0 : Nat} {s' : Nst}, C nmE f0 [ZB rb, iV i] hE (fun _ g' => ∃ bs', SH hE bs [rsR rb sv s' rs bs'] g') →
      (∀ f, some f0 = some f → C nmE f [ZB rb, iV i] hE fun _ g' => ∃ bs', SH hE bs [rsR rb sv s' rs bs'] g') ∧
      (some f0 = none → C nmE 51 [ZB rb, iV i, iV 0] hE fun _ g' => ∃ bs', SH hE bs [rsR rb sv s' rs bs'] g') := fun h => ⟨fun f e => by cases e; exact h, fun e => by cases e⟩
  by_cases e : (vw T).K i = 11
  · rw [if_pos e, if_pos e]; have hf : ∀ j, j ∈ ((vw T).ks i).drop 0 → ¬ Ap.isS ((vw T).K j) := fun j hj => by have := Zr (P := fun K => K = 12) (Q3j F (by omega)) j hj; omega
    have hnm : mainT.size ≤ 1000 * (st.funcs.length + 1) := by have : mainT.size = 4 := rfl; omega
    by_cases hm : 1 < st.mains + 1
    · have e0 : Q1o (vw T) st i = tell (vw T) { st with mains := st.mains + 1 } i 7 := if_pos hm; have r := Q13 (fr := 0) (nm := mainT) (I.tell i 7) (p := i + 1) hk (Nat.le_refl _) A.en hnm hf { tell (vw T) { st with mains := st.mains + 1 } i 7 with main := (tell (vw T) { st with mains := st.mains + 1 } i 7).funcs.length } rfl ⟨I.i1, by show st.inner ≤ st.inner + 1; omega⟩ ⟨by show 0 ≤ st.mains + 1; omega, by show st.mains + 1 ≤ st.mains + 1; omega⟩ (by omega); exact fin (n36 S0 R hi hC hr (by rw [e0]; exact r) hi1 (by omega) (by omega) hm1 (by omega))
    have e0 : Q1o (vw T) st i = { st with mains := st.mains + 1 } := if_neg hm; have r := Q13 (fr := 0) (nm := mainT) I (p := i + 1) hk (Nat.le_refl _) A.en hnm hf { st with mains := st.mains + 1, main := st.funcs.length } rfl ⟨I.i1, by show st.inner ≤ st.inner + 1; omega⟩ ⟨by show 0 ≤ st.mains + 1; omega, by show st.mains + 1 ≤ st.mains + 1; omega⟩ (by omega); exact fin (n36 S0 R hi hC hr (by rw [e0]; exact r) hi1 (by omega) (by omega) hm1 (by omega))
  rw [if_neg e, if_neg e]; have e11 := e; by_cases e : (vw T).K i = 9
  · rw [if_pos e, if_pos e]; exact fin (n37 S0 R hi hC hr (Q13 (fr := 0) I (p := i + 1) hk (Nat.le_refl _) A.en (by have := Q5c P ((vw T).N i) i st.cp; omega) (fun j hj => by have := Zr (P := fun K => K = 12) (Q3j F (by omega)) j hj; omega) st rfl ⟨I.i1, by omega⟩ ⟨I.m1, by omega⟩ (by omega)) hi1 (by omega) I.cp (hN i e))
  rw [if_neg e, if_neg e]; have e9 := e; by_cases e : (vw T).K i = 36
  · rw [if_pos e, if_pos e]; exact fin (n38 S0 R hi hC hr B (Q13 (fr := 0) I (p := i + 1) hk (Nat.le_refl _) A.en (Q1r I (A.cx.t (by omega)) (by omega)) (Zr (P := fun K => ¬ Ap.isS K) (Q5z F (by omega))) { st with inner := st.inner + 1 } rfl ⟨by show 0 ≤ st.inner + 1; omega, by show st.inner + 1 ≤ _; omega⟩ ⟨I.m1, by show st.mains ≤ _; omega⟩ (by omega)) hi1 (by omega) I.up (A.cx.t (by omega)) I.o2 hi2 (by omega) I.nm)
  rw [if_neg e, if_neg e]; by_cases e : (vw T).K i = 12
  · rw [if_pos e, if_pos e]; obtain ⟨o, sow, F2⟩ := QcT I hS e hk A.en (A.cx.b e) (by omega); exact fin (n39 S0 R hi hC hr F2 hi1 (by omega))
  rw [if_neg e, if_neg e]; have e12 := e; by_cases e : (vw T).K i = 13
  · rw [if_pos e, if_pos e]; obtain ⟨h0', hsow, x, hx, hxa⟩ := A.cx.s (by rw [e]; decide); obtain ⟨o, sow, F2⟩ := Qch P I ha e hk A.en h0' (by omega)
    obtain ⟨s, hsl⟩ : ∃ s, st.scopes.getLast? = some s := by
      rw [List.getLast?_map] at hsow; cases hgl : st.scopes.getLast? with
      | none => rw [hgl] at hsow; cases hsow
      | some s => exact ⟨s, rfl⟩
    exact fin (n40 S0 R hi (by omega) hsl hC hr F2 hi1 (by omega))
  rw [if_neg e, if_neg e]; by_cases e : (vw T).K i = 29
  · rw [if_pos e, if_pos e]; exact fin (n41 S0 R hi I (by omega))
  rw [if_neg e, if_neg e]; by_cases e : (vw T).K i = 5
  · rw [if_pos e, if_pos e]; exact fin (n42 S0 R hi (by omega) I.lm)
  rw [if_neg e, if_neg e]; by_cases e : (vw T).K i = 19
  · rw [if_pos e, if_pos e]; obtain ⟨o, sow, F2⟩ := post_at P A ha e hk (by omega); exact fin (n43 S0 R hi (by omega) I.lm hC hr F2 hi1)
  rw [if_neg e, if_neg e]; by_cases e : (vw T).K i = 21 ∨ (vw T).K i = 22
  · rw [if_pos e, if_pos e]; exact fin (n44 S0 R hi (by omega) I.lm)
  rw [if_neg e, if_neg e]; by_cases e : (vw T).K i = 33
  · rw [if_pos e, if_pos e]; exact fin (n45 S0 R hi (by omega) I.lm)
  rw [if_neg e, if_neg e]; by_cases e : ZP ((vw T).K i) = true
  · rw [if_pos e, if_pos e]; exact fin (n47 S0 R hi hC hr B I hk A.en e (by omega))
  rw [if_neg e, if_neg e]; refine ⟨fun f h => (by cases h), fun _ => ?_⟩; obtain ⟨o, sow, F2⟩ := Qe2 P A ha ⟨e11, e9, e12, by simpa using e⟩ hk (by omega); exact n51 (fr := 0) S0 R hi hC hr F2 (Nat.zero_le _) hi1
theorem key58 : KeyT nmE 58 39 81 iV := KeyT.int (by kernel_rfl) (by kernel_rfl)
theorem ok_36 : ZT nmE 36 = true := by kernel_rfl
theorem ok_37 : ZT nmE 37 = true := by kernel_rfl
theorem ok_38 : ZT nmE 38 = true := by kernel_rfl
theorem ok_39 : ZT nmE 39 = true := by kernel_rfl
theorem ok_40 : ZT nmE 40 = true := by kernel_rfl
theorem ok_41 : ZT nmE 41 = true := by kernel_rfl
theorem ok_42 : ZT nmE 42 = true := by kernel_rfl
theorem ok_43 : ZT nmE 43 = true := by kernel_rfl
theorem ok_44 : ZT nmE 44 = true := by kernel_rfl
theorem ok_45 : ZT nmE 45 = true := by kernel_rfl
theorem ok_47 : ZT nmE 47 = true := by kernel_rfl
theorem QdV {K : Int} {f : Nat} (h : Q0O K = some f) : ZT nmE f = true := by
  have hf : f = 36 ∨ f = 37 ∨ f = 38 ∨ f = 39 ∨ f = 40 ∨ f = 41 ∨ f = 42 ∨ f = 43 ∨ f = 44 ∨ f = 45 ∨ f = 47 := by
    unfold Q0O at h
    repeat' split at h
    all_goals (try cases h)
    all_goals decide
  rcases hf with rfl | rfl | rfl | rfl | rfl | rfl | rfl | rfl | rfl | rfl | rfl
  · exact ok_36
  · exact ok_37
  · exact ok_38
  · exact ok_39
  · exact ok_40
  · exact ok_41
  · exact ok_42
  · exact ok_43
  · exact ok_44
  · exact ok_45
  exact ok_47
set_option maxHeartbeats 1000000 in
theorem n22a {s' : Nst} (S0 : SH h0 [] [rsR rb sv st rs bs] hE) (R : Tre h0 sv T) (hi : i < T.length) (hlw : st.owners.length = T.length)
    (hrule : ∀ (g : Hp) (bs' : List Nat), SH h0 [] [rsR rb sv { st with owners := st.owners.set i st.owner } rs bs'] g → (∀ f, Q0O ((vw T).K i) = some f → C nmE f [ZB rb, iV i] g fun _ g' => ∃ b2, SH g bs' [rsR rb sv s' rs b2] g') ∧
      (Q0O ((vw T).K i) = none → C nmE 51 [ZB rb, iV i, iV 0] g fun _ g' => ∃ b2, SH g bs' [rsR rb sv s' rs b2] g')) :
    C nmE 22 [ZB rb, iV i] hE fun _ g' => ∃ bs', SH hE bs [rsR rb sv s' rs bs'] g' := by
  have X := R.X; obtain ⟨ta, tc, rfl⟩ := X.val; obtain ⟨t0, b, o', cs, ee, m, hw0, Q⟩ := JU X hi; obtain rfl := Q.ta; rw [Q.K] at hrule; refine Qf (fu := Tryz.f22) (by kernel_rfl) rfl ?_; have S := S0.enter; obtain ⟨w, E, ho, S⟩ := Qo (A := []) S; simp only [List.nil_append] at S; refine Qk ?_; refine Z2 [(0, []), (1, []), (2, []), (3, []), (4, []), (5, []), (6, []), (7, []), (8, []), (9, []), (10, []), (11, [])] (by kernel_rfl) (by kernel_rfl) (by kernel_rfl) (by kernel_rfl) ?_; refine Q4 gn rfl rfl ?_; refine Q9 gn rfl rfl ?_; refine Q0 (off := 1) gn rfl rfl (by kernel_rfl) ?_; refine Q0 (off := 1) gn rfl rfl (by kernel_rfl) ?_
  refine Q6 gn rfl rfl (by kernel_rfl) (by exact S.cel 0 rfl) rfl ?_; refine Q4 gn rfl rfl ?_; refine Q4 gn rfl rfl ?_; refine Q9 gn rfl rfl ?_; refine Q0 (off := 13) gn rfl rfl (by kernel_rfl) ?_; refine Q6 gn rfl rfl (by kernel_rfl) (by exact S.cel 0 rfl) rfl ?_; obtain ⟨ob, oc, hov, hob, hol⟩ := Y3 (S.sl 2 rfl) (by rw [E.own]; omega); rw [hov]; refine Q8 (zz := 1) gn rfl rfl rfl (by kernel_rfl) (by omega) (by have := E.own; omega) ?_; refine Q7b 2 S gn rfl rfl rfl (by kernel_rfl) rfl hov (by rw [hol, Int.toNat_natCast]; have := E.own; omega) (fun g S => ag0) fun g S => ?_; simp only [List.set_cons_succ, List.set_cons_zero] at S; refine Q5 ?_; refine Qk ?_; refine Qk ?_
  have E := E.owner i st.owner; refine Z2 [(0, []), (1, []), (2, []), (3, []), (4, []), (5, []), (6, []), (7, []), (8, []), (9, []), (10, []), (11, []), (12, []), (13, []), (14, []), (15, []), (16, []), (17, []), (18, [])] (by kernel_rfl) (by kernel_rfl) (by kernel_rfl) (by kernel_rfl) ?_; refine Q4 gn rfl rfl ?_; refine Q9 gn rfl rfl ?_; refine Q0 (off := 16) gn rfl rfl (by kernel_rfl) ?_; refine Q6 gn rfl rfl (by kernel_rfl) (by exact S.cel 0 rfl) rfl ?_; refine Q4 gn rfl rfl ?_; refine Q9 gn rfl rfl ?_; refine Q0 (off := 0) gn rfl rfl (by kernel_rfl) ?_; refine Q0 (off := 0) gn rfl rfl (by kernel_rfl) ?_; refine Q6 gn rfl rfl (by kernel_rfl) (by exact S.cel 0 rfl) rfl ?_
  refine Q4 gn rfl rfl ?_; refine Q8 (zz := 6) gn rfl rfl rfl (by kernel_rfl) (by omega) (by omega) ?_; refine Q0 (off := 0) gn rfl rfl (by kernel_rfl) ?_; refine Q6 gn rfl rfl (by kernel_rfl) (S0.two S0.own0 S Q.g Q.lt) (Q.at 0 (by decide) rfl) ?_; obtain ⟨M, cl, hM, hF⟩ := Q35 S 12 rfl; refine YQ (zv := .nilFunc) key58 gn rfl rfl rfl hM (by kernel_rfl) ?_; rw [hF, Q1J]; obtain ⟨fo, hfo⟩ : ∃ fo, Q0O t0.K = fo := ⟨_, rfl⟩; rw [hfo] at hrule ⊢; refine Q4 gn rfl rfl ?_; refine Zj gn rfl rfl rfl ?_; refine Zj gn rfl rfl rfl ?_; refine Q3 gn rfl rfl ?_; refine Q3 gn rfl rfl ?_; refine ZC ?_; refine Q4 gn rfl rfl ?_; refine Q5 ?_; refine Qa rfl (fun hb => ?_) fun hb => ?_
  · skip
    obtain ⟨f, rfl⟩ : ∃ f, fo = some f := by
      cases fo with
      | none => cases hb
      | some f => exact ⟨f, rfl⟩
    refine Qd ?_; refine Q4 gn rfl rfl ?_; refine Q4 gn rfl rfl ?_; refine Q4 gn rfl rfl ?_; have S := Qp (A := []) S E; refine Qb [_, _] gn rfl rfl (QdV hfo) rfl (C.mono ((hrule _ _ (S0.sub1 S0.own0 S 0 rfl)).1 f rfl) ?_); rintro v g ⟨bs', S2⟩; have S := S.ret 0 rfl S2; refine ⟨ag0, ?_⟩; refine Q5 ?_; refine Qc ?_; refine ⟨.inl rfl, _, rfl, ?_⟩; exact ⟨_, S⟩
  refine Qe ?_
  obtain rfl : fo = none := by
    cases fo with
    | none => rfl
    | some f => exact absurd hb (by simp)
  refine Q7 (by kernel_rfl) ?_; refine Q4 gn rfl rfl ?_; refine Q4 gn rfl rfl ?_; have S := Qp (A := []) S E; refine Qb [_, _, _] gn rfl rfl (by kernel_rfl) rfl (C.mono ((hrule _ _ (S0.sub1 S0.own0 S 0 rfl)).2 rfl) ?_); rintro v g ⟨bs', S2⟩; have S := S.ret 0 rfl S2; simp only [List.cons_append, List.nil_append, List.set_cons_succ, List.set_cons_zero] at S; obtain ⟨w, E, ho, S⟩ := Qo (A := []) S; simp only [List.cons_append, List.nil_append] at S; refine ⟨ag0, ?_⟩; refine Q5 ?_; refine ⟨.inr rfl, _, rfl, ?_⟩; exact QZ (A := []) S E
theorem n22 (R : Tre h0 sv T) (B : Pow h0) (hN : ∀ i : Nat, (vw T).K i = 9 → 0 ≤ (vw T).N i ∧ (vw T).N i ≤ 3) : ∀ (k f : Nat), k ≤ f → Q8N h0 rb sv T (visit (vw T) f) k
  | 0, _, _ => fun _ _ _ _ _ _ _ _ h => h.elim
  | k + 1, f, hf => fun i n st bl w0 rs bs hE hs A hb S0 => by
    obtain ⟨f, rfl⟩ : ∃ m, f = m + 1 := ⟨f - 1, by omega⟩; have hC := n22 R B hN k f (by omega); have hr := Q3u R.P k f (by omega); have hv : visit (vw T) (f + 1) st i = Q0N (vw T) (visit (vw T) f) { st with owners := st.owners.set i st.owner } i := rfl; rw [hv]; have A2 : At (vw T) { st with owners := st.owners.set i st.owner } i n bl w0 := ⟨A.I.owner (Nat.le_refl _) st.owner, A.en, A.cx⟩; exact n22a S0 R hs.1 A.I.lw fun g bs' S => rule_c S R hC hr B hN hs A2 hb
end
end Go.Proofs.YtkidomfnmpnmaaaGreatDoor
namespace Go.Proofs.YtkidomfnmpnmaaaGreatDoor
open Go.X Go.Nam
set_option maxHeartbeats 1000000 in
theorem n48 {h0 hE : Hp} {ds : List Nat} {L : List Res} {tw : Res} {eb ib rb o : Nat} {x y v kind : Int} {Cs : List Value} {l : List Int} {a : Option Addr} {c : Nat} {bs : List Nat}
    (S : SH h0 ds (cR eb (.cells [iV x, iV y] 38 0) :: tw :: cR ib (.cells [iV v] 3 0) :: cR rb (.cells Cs 62 0) :: L) hE) (hoff : Cs[o + 1]? = some (.slice a l.length c)) (hrow : L[o]? = some (slR 3 0 (.slice a l.length c) (isV l) l.length bs)) (hl : l.length ≤ 1000000) :
    Go.X.C nmE 48 [iV kind, .pointer (some ⟨rb, o + 1, none⟩), ZB eb, ZB ib] hE fun _ h' => ∃ s' bs', SH h0 ds (cR eb (.cells [iV kind, iV l.length] 38 0) :: tw :: cR ib (.cells [iV v] 3 0) :: cR rb (.cells (Cs.set (o + 1) s') 62 0) :: L.set o (slR 3 0 s' (isV l ++ [iV v]) (l.length + 1) bs')) h' := by
  have hC : o + 1 < Cs.length := (List.getElem?_eq_some_iff.1 hoff).1; refine Qf (fu := Tryz.f48) (by kernel_rfl) rfl ?_; have S := S; refine Qk ?_; refine Z2 [(0, []), (1, []), (2, []), (3, []), (4, []), (5, [3, 4]), (6, []), (7, [3, 4]), (8, []), (9, [])] (by kernel_rfl) (by kernel_rfl) (by kernel_rfl) (by kernel_rfl) ?_; refine Q4 gn rfl rfl ?_; refine Q4 gn rfl rfl ?_; refine Q9 gn rfl rfl ?_; refine Q6 gn rfl rfl (by kernel_rfl) (S.cel 3 rfl) hoff ?_; refine QJ gn rfl rfl (by kernel_rfl) ?_
  refine QL (n := 2) 0 S gn rfl rfl (by kernel_rfl) (by kernel_rfl) rfl rfl (by decide) rfl (fun g S => (ag1 (Zt gn rfl (by kernel_rfl) (S.cel 3 rfl) hoff rfl ZM) (ag1 (Q3r gn rfl (by kernel_rfl) rfl) ag0))) fun g S => ?_; simp only [List.set_cons_zero] at S; refine Q0 (off := 0) gn rfl rfl (by kernel_rfl) ?_; refine ZD 0 S gn rfl rfl rfl (by kernel_rfl) rfl (by decide) (by first | decide | (simp; done)) (fun g S => (ag1 (Zt gn rfl (by kernel_rfl) (S.cel 3 rfl) hoff rfl ZM) (ag1 (Q3r gn rfl (by kernel_rfl) rfl) ag0))) fun g S => ?_; simp only [List.set_cons_zero] at S; refine Q0 (off := 1) gn rfl rfl (by kernel_rfl) ?_
  refine ZD 0 S gn rfl rfl rfl (by kernel_rfl) rfl (by decide) (by first | decide | (simp; done)) (fun g S => ag0) fun g S => ?_; simp only [List.set_cons_zero] at S; refine Q5 ?_; refine Z2 [(0, []), (1, []), (2, []), (3, []), (4, []), (5, []), (6, []), (7, []), (8, [])] (by kernel_rfl) (by kernel_rfl) (by kernel_rfl) (by kernel_rfl) ?_; refine Q4 gn rfl rfl ?_; refine Q4 gn rfl rfl ?_; refine Q9 gn rfl rfl ?_; refine Q6 gn rfl rfl (by kernel_rfl) (S.cel 3 rfl) hoff ?_; refine Q6 gn rfl rfl (by kernel_rfl) (by exact S.cel 2 rfl) rfl ?_
  refine Qn (cs := #[iV v]) (e := 3) (z := 0) (zv := .int .i64 0) [(0, _)] S gn rfl (by kernel_rfl) (by kernel_rfl) (by kernel_rfl) (by kernel_rfl) rfl (by kernel_rfl) fun b1 g nb1 S => ?_; refine KI (e := 3) (z := 0) (by' := 7) (o + 5) 0 S el29 gn rfl rfl rfl (by exact hrow) rfl rfl (by rfl) (by omega) (fun s' bs' g S => ag0) fun s' bs' g S => ?_; simp only [List.set_cons_succ] at S; have hcv : cellV s' = true := (S.sl (o + 5) (Q4L (L := L) hrow)).cellV; refine Q9 gn rfl rfl ?_; refine ZD 4 S gn rfl rfl hcv (by kernel_rfl) rfl (by omega) hC (fun g S => ag0) fun g S => ?_; simp only [List.set_cons_succ, List.set_cons_zero] at S; refine Q5 ?_; refine ⟨.inr rfl, _, rfl, ?_⟩; exact ⟨_, _, S.drop⟩
end Go.Proofs.YtkidomfnmpnmaaaGreatDoor
namespace Go.Proofs.YtkidomfnmpnmaaaGreatDoor
open Go.X Go.Nam
theorem n48w {h0 hE : Hp} {ds : List Nat} {L : List Res} {tw : Res} {eb ib rb o : Nat} {x y v kind : Int} {Cs cs : List Value} {l : List Int} {s : Value} {n : Nat} {bs : List Nat}
    (S : SH h0 ds (cR eb (.cells [iV x, iV y] 38 0) :: tw :: cR ib (.cells [iV v] 3 0) :: cR rb (.cells Cs 62 0) :: L) hE) (hoff : Cs[o + 1]? = some s) (hrow : L[o]? = some (slR 3 0 s cs n bs)) (hc : cs = isV l) (hn : n = l.length) (hl : l.length ≤ 1000000) :
    C nmE 48 [iV kind, .pointer (some ⟨rb, o + 1, none⟩), ZB eb, ZB ib] hE fun _ h' => ∃ s' bs', SH h0 ds (cR eb (.cells [iV kind, iV l.length] 38 0) :: tw :: cR ib (.cells [iV v] 3 0) :: cR rb (.cells (Cs.set (o + 1) s') 62 0) :: L.set o (slR 3 0 s' (isV l ++ [iV v]) (l.length + 1) bs')) h' := by
  subst hc; subst hn; obtain ⟨a, c, rfl⟩ := Y4 (S.sl (o + 4) hrow); exact n48 S hoff hrow hl
theorem Q6s {E : Env} {fn : FuncId} {nt : Nat} {l : Kn} {h : Hp} {dr : Bool} {ops : Array Oper} {fin rest : List (Oper × List Oper)} {R : Kn → Hp → Prop} {lt : List Oper} {d : Nat} {ty : TypeId} {pos : String} {af : Array Edge} {gg : Option (Nat × Bool)} {x y : Operand} {v u : Value} {f : FuncId}
    (g : Gd ops l gg) (hd : Nat.blt d nt = true) (hx : evl l x = some v) (hy : evl l y = some u) (q : WL E fn nt dr ops fin rest ((d, .func (.func f) #[] #[v, u]) :: l) h R) :
    WL E fn nt dr ops fin ((⟨some d, .makeFunc (.func f) #[] #[x, y], ty, pos, af, gg⟩, lt) :: rest) l h R :=
  QN g rfl (fun _ ag => by simp [QM, ag.ev hx, ag.ev hy]) (wn hd) q
theorem Qc0 {M : MsK Txt} {cl : Nat} {F : Txt → Option (Int × Int)} (hF : ∀ k, Q0s M k = (F k).map Q6x) (t : Txt) (m : Int × Int) : ∀ k, Q0s (Q8L M t (Q6x m) cl).1 k = (Nam.put F t m k).map Q6x := fun k => by
  rw [Q49]; unfold Nam.put
  split
  · rfl
  exact hF k
section
variable {h0 hE : Hp} {bs : List Nat} {rb : Nat} {sv : Value} {T : List Tw}
set_option maxHeartbeats 4000000 in
theorem n18 (S0 : SH h0 [] [rsR rb sv (Qq (vw T) 0).1 [] bs] hE) (R : Tre h0 sv T) : C nmE 18 [ZB rb] hE fun _ g' => ∃ bs', SH hE bs [rsR rb sv (Qq (vw T) T.length).1 [] bs'] g' := by
  have X := R.X; obtain ⟨ta, tc, rfl⟩ := X.val; have hPn := R.P.n; have hTn : (vw T).n = T.length := rfl; refine Qf (fu := Tryz.f18) (by kernel_rfl) rfl ?_; have S := S0.enter; obtain ⟨w, E, ho, S⟩ := Qo (A := []) S; simp only [List.nil_append] at S; refine Qd ?_; refine Q3 gn rfl rfl ?_; refine ZC ?_; refine Q4 gn rfl rfl ?_; refine Q9 gn rfl rfl ?_; refine Q0 (off := 0) gn rfl rfl (by kernel_rfl) ?_; refine Q0 (off := 0) gn rfl rfl (by kernel_rfl) ?_; refine Q6 gn rfl rfl (by kernel_rfl) (by exact S.cel 0 rfl) rfl ?_; refine QJ gn rfl rfl (by kernel_rfl) ?_; refine Q4 gn rfl rfl ?_; refine Q5 ?_; refine Qh ?_
  refine QV [(2, _), (15, _)] [(0, _), (13, _), (14, _)] (by repeat (first | exact trivial | refine ⟨rfl, ?_⟩)) (fun kk lv hh => ∃ (j : Nat) (bs1 : List Nat), lv = [(2, iV (Qq (vw T) j).2), (15, iV j)] ∧ kk = T.length - j ∧ j ≤ T.length ∧ SH hE bs [rsR rb (.slice ta T.length tc) (Qq (vw T) j).1 [] bs1] hh) (n := T.length) ?_ fun kk lv hh hI => ?_
  · exact ⟨0, _, rfl, rfl, Nat.zero_le _, Qp (A := []) S E⟩
  obtain ⟨j, bs1, rfl, hkk, hj, S⟩ := hI; refine Qd ?_; refine Zo gn rfl rfl rfl ?_; refine Q5 ?_; refine Qk ?_; refine Qa rfl (fun hb => ?_) fun hb => ?_
  · skip
    refine Qe ?_; have hj : j < T.length := by simp at hb; omega
    obtain ⟨t0, b, o', cs, ee, m, hw0, Q⟩ := JU X hj; obtain rfl := Q.ta; obtain ⟨ka, kc, hks⟩ := Q.row.valM; have D := Q2G (T := vw T) j; have hst : Qq (vw T) (j + 1) = Q18 (vw T) (Qq (vw T) j).1 (Qq (vw T) j).2 j := rfl; rw [Q3o, Q.K, Q.s] at hst; generalize (Qq (vw T) j).1 = st at S D hst ⊢; generalize (Qq (vw T) j).2 = fs at S D hst ⊢; have hf0 := D.f0; have hf1 := D.f1; obtain ⟨K0, s0, N0, L0, C0, k0, kids0⟩ := t0; simp only at hks; subst hks; have hall : (cs.drop (o' + Int.toNat (j : Int) * 6)).take 6 = twC K0 s0 N0 L0 C0 (.slice ka kids0.length kc) := Q.all; obtain ⟨w, E, ho, S⟩ := Qo (A := []) S; simp only [List.nil_append] at S; refine Qk ?_; refine Qh ?_; refine Qd ?_
    refine Q4 gn rfl rfl ?_; refine Q8 (zz := 6) gn rfl rfl rfl (by kernel_rfl) (by omega) (by omega) ?_; refine Qs (n := 6) gn rfl rfl (by kernel_rfl) (by kernel_rfl) (S0.two S0.own0 S Q.g Q.lt) Q.len ?_; rw [hall]; refine Zl (zv := .int .i64 0) S gn rfl (by kernel_rfl) fun b1 g nb1 S => ?_; refine Zl (zv := .agg #[.int .i64 0, .string .empty, .int .i64 0, .int .i64 0, .int .i64 0, .slice none 0 0]) S gn rfl (by kernel_rfl) fun b2 g nb2 S => ?_; refine ZD 1 S gn rfl rfl (by first | rfl | exact hcv) (by kernel_rfl) rfl (by decide) (by first | decide | (simp; done)) (fun g S => ag0) fun g S => ?_; simp only [List.set_cons_succ, List.set_cons_zero] at S
    refine QL (n := 6) 0 S gn rfl rfl (by kernel_rfl) (by kernel_rfl) rfl rfl (by decide) rfl (fun g S => ag0) fun g S => ?_; simp only [List.set_cons_succ, List.set_cons_zero] at S; refine ZC ?_; refine Yf (zv := .agg #[.int .i64 0, .int .i64 0]) (pl := [(0, 1), (1, 1)]) [(1, _)] gn rfl (by kernel_rfl) (by kernel_rfl) rfl (by rfl) ?_; refine Zl (zv := .agg #[.int .i64 0, .int .i64 0]) S gn rfl (by kernel_rfl) fun b3 g nb3 S => ?_; refine QL (n := 2) 0 S gn rfl rfl (by kernel_rfl) (by kernel_rfl) rfl rfl (by decide) rfl (fun g S => ag0) fun g S => ?_; simp only [List.set_cons_succ, List.set_cons_zero] at S; refine ZC ?_; refine Q6s gn rfl rfl rfl ?_; refine Q3 gn rfl rfl ?_; refine Q5 ?_
    refine Jb [(0, ZB rb), (2, iV fs), (4, ZB b2), (5, ZB b3), (13, (.slice (some ⟨b, o', none⟩) T.length tc)), (14, iV T.length), (15, iV j)] (fun lv hh => ∃ (st1 : Nst) (mm : Int × Int) (bs2 : List Nat), lv = [] ∧ SH hE bs [cR b3 (.cells [iV mm.1, iV mm.2] 38 0), cR b2 (.cells (twC K0 s0 N0 L0 C0 (.slice ka kids0.length kc)) 41 0), cR b1 (.cells [iV j] 3 0), rsR rb (.slice (some ⟨b, o', none⟩) T.length tc) st1 [] bs2] hh ∧ Q50 (vw T) st fs j = (st1, mm.1, mm.2)) ?_ fun lv hh hJ => ?_
    · skip
      refine Qd ?_; refine Q0 (off := 0) gn rfl rfl (by kernel_rfl) ?_; refine Q6 gn rfl rfl (by kernel_rfl) (by exact S.cel 1 rfl) rfl ?_; refine Q5 ?_; refine Qh ?_; refine Qd ?_; refine Qr gn rfl rfl rfl ?_; refine Q3 gn rfl rfl ?_; refine Q5 ?_; refine Qa rfl (fun hb => ?_) fun hb => ?_
      · skip
        refine Q7 (by kernel_rfl) ?_; refine Q4 gn rfl rfl ?_; refine Q4 gn rfl rfl ?_; refine Q9 gn rfl rfl ?_; refine Q0 (off := 1) gn rfl rfl (by kernel_rfl) ?_; refine Q0 (off := 2) gn rfl rfl (by kernel_rfl) ?_; have hK : K0 = 2 := by simpa using hb
        refine Qb [_, _] gn rfl rfl (by kernel_rfl) rfl (C.mono (n48w (kind := 4) (o := 2) S rfl rfl E.lo E.lon (by have := D.l1; omega)) ?_); rintro v g ⟨s', bs', S⟩; simp only [List.set_cons_succ, List.set_cons_zero] at S; refine ⟨ag0, ?_⟩; refine Q5 ?_; refine Zv ?_
        exact Q1D [] (by repeat (first | exact trivial | refine ⟨rfl, ?_⟩)) ⟨{ st with lo := st.lo ++ [(j : Int)] }, (4, (st.lo.length : Int)), _, rfl, Qp (A := [_, _, _]) (st := { st with lo := st.lo ++ [(j : Int)] }) (w := { w with lo := ⟨s', isV st.lo ++ [iV j], st.lo.length + 1, bs'⟩ }) S { E with
          lo := by show _ = isV (st.lo ++ [(j : Int)]); simp
          lon := by show _ = (st.lo ++ [_]).length; simp
          lsb := ⟨(by have := D.l1; show (st.lo ++ [_]).length ≤ _; simp; omega), E.lsb.2.1, E.lsb.2.2.1, E.lsb.2.2.2⟩ }, by unfold Q50; rw [Q.K]; simp only [hK]; rfl⟩
      have k2 : ¬ K0 = 2 := by simpa using hb
      refine Qd ?_; refine Qr gn rfl rfl rfl ?_; refine Q3 gn rfl rfl ?_; refine Q5 ?_; refine Qa rfl (fun hb => ?_) fun hb => ?_
      · skip
        refine Q7 (by kernel_rfl) ?_; refine Q4 gn rfl rfl ?_; refine Q4 gn rfl rfl ?_; refine Q9 gn rfl rfl ?_; refine Q0 (off := 1) gn rfl rfl (by kernel_rfl) ?_; refine Q0 (off := 3) gn rfl rfl (by kernel_rfl) ?_; have hK : K0 = 3 := by simpa using hb
        refine Qb [_, _] gn rfl rfl (by kernel_rfl) rfl (C.mono (n48w (kind := 5) (o := 3) S rfl rfl E.cl E.cln (by have := D.l2; omega)) ?_); rintro v g ⟨s', bs', S⟩; simp only [List.set_cons_succ, List.set_cons_zero] at S; refine ⟨ag0, ?_⟩; refine Q5 ?_; refine Zv ?_
        exact Q1D [] (by repeat (first | exact trivial | refine ⟨rfl, ?_⟩)) ⟨{ st with cl := st.cl ++ [(j : Int)] }, (5, (st.cl.length : Int)), _, rfl, Qp (A := [_, _, _]) (st := { st with cl := st.cl ++ [(j : Int)] }) (w := { w with cl := ⟨s', isV st.cl ++ [iV j], st.cl.length + 1, bs'⟩ }) S { E with
          cl := by show _ = isV (st.cl ++ [(j : Int)]); simp
          cln := by show _ = (st.cl ++ [_]).length; simp
          lsb := ⟨E.lsb.1, (by have := D.l2; show (st.cl ++ [_]).length ≤ _; simp; omega), E.lsb.2.2.1, E.lsb.2.2.2⟩ }, by unfold Q50; rw [Q.K]; simp only [hK]; rfl⟩
      have k3 : ¬ K0 = 3 := by simpa using hb
      refine Qd ?_; refine Qr gn rfl rfl rfl ?_; refine Q3 gn rfl rfl ?_; refine Q5 ?_; refine Qa rfl (fun hb => ?_) fun hb => ?_
      · skip
        refine Q7 (by kernel_rfl) ?_; refine Q4 gn rfl rfl ?_; refine Q4 gn rfl rfl ?_; refine Q9 gn rfl rfl ?_; refine Q0 (off := 1) gn rfl rfl (by kernel_rfl) ?_; refine Q0 (off := 4) gn rfl rfl (by kernel_rfl) ?_; have hK : K0 = 6 := by simpa using hb
        refine Qb [_, _] gn rfl rfl (by kernel_rfl) rfl (C.mono (n48w (kind := 2) (o := 4) S rfl rfl E.gl E.gln (by have := D.l3; omega)) ?_); rintro v g ⟨s', bs', S⟩; simp only [List.set_cons_succ, List.set_cons_zero] at S; refine ⟨ag0, ?_⟩; refine Q5 ?_; refine Zv ?_
        exact Q1D [] (by repeat (first | exact trivial | refine ⟨rfl, ?_⟩)) ⟨{ st with gl := st.gl ++ [(j : Int)] }, (2, (st.gl.length : Int)), _, rfl, Qp (A := [_, _, _]) (st := { st with gl := st.gl ++ [(j : Int)] }) (w := { w with gl := ⟨s', isV st.gl ++ [iV j], st.gl.length + 1, bs'⟩ }) S { E with
          gl := by show _ = isV (st.gl ++ [(j : Int)]); simp
          gln := by show _ = (st.gl ++ [_]).length; simp
          lsb := ⟨E.lsb.1, E.lsb.2.1, (by have := D.l3; show (st.gl ++ [_]).length ≤ _; simp; omega), E.lsb.2.2.2⟩ }, by unfold Q50; rw [Q.K]; simp only [hK]; rfl⟩
      have k6 : ¬ K0 = 6 := by simpa using hb
      refine Qd ?_; refine Qr gn rfl rfl rfl ?_; refine Q3 gn rfl rfl ?_; refine Q5 ?_; refine Qa rfl (fun hb => ?_) fun hb => ?_
      · skip
        refine Q7 (by kernel_rfl) ?_; refine Q4 gn rfl rfl ?_; refine Q4 gn rfl rfl ?_; refine Q9 gn rfl rfl ?_; refine Q0 (off := 1) gn rfl rfl (by kernel_rfl) ?_; refine Q0 (off := 5) gn rfl rfl (by kernel_rfl) ?_; have hK : K0 = 8 := by simpa using hb
        refine Qb [_, _] gn rfl rfl (by kernel_rfl) rfl (C.mono (n48w (kind := 0) (o := 5) S rfl rfl E.co E.con (by have := D.l4; omega)) ?_); rintro v g ⟨s', bs', S⟩; simp only [List.set_cons_succ, List.set_cons_zero] at S; refine ⟨ag0, ?_⟩; refine Q5 ?_; refine Zv ?_
        exact Q1D [] (by repeat (first | exact trivial | refine ⟨rfl, ?_⟩)) ⟨{ st with cp := st.cp ++ [(j : Int)] }, (0, (st.cp.length : Int)), _, rfl, Qp (A := [_, _, _]) (st := { st with cp := st.cp ++ [(j : Int)] }) (w := { w with co := ⟨s', isV st.cp ++ [iV j], st.cp.length + 1, bs'⟩ }) S { E with
          co := by show _ = isV (st.cp ++ [(j : Int)]); simp
          con := by show _ = (st.cp ++ [_]).length; simp
          cpb := by have := D.l4; show (st.cp ++ [_]).length ≤ _; simp; omega }, by unfold Q50; rw [Q.K]; simp only [hK]; rfl⟩
      have k8 : ¬ K0 = 8 := by simpa using hb
      refine Qd ?_; refine Qr gn rfl rfl rfl ?_; refine Q3 gn rfl rfl ?_; refine Q5 ?_; refine Qa rfl (fun hb => ?_) fun hb => ?_
      · skip
        refine Q7 (by kernel_rfl) ?_; refine Q4 gn rfl rfl ?_; refine Q4 gn rfl rfl ?_; refine Q9 gn rfl rfl ?_; refine Q0 (off := 1) gn rfl rfl (by kernel_rfl) ?_; refine Q0 (off := 6) gn rfl rfl (by kernel_rfl) ?_; have hK : K0 = 10 := by simpa using hb
        refine Qb [_, _] gn rfl rfl (by kernel_rfl) rfl (C.mono (n48w (kind := 6) (o := 6) S rfl rfl E.ev E.evn (by have := D.l5; omega)) ?_); rintro v g ⟨s', bs', S⟩; simp only [List.set_cons_succ, List.set_cons_zero] at S; refine ⟨ag0, ?_⟩; refine Q5 ?_; refine Zv ?_
        exact Q1D [] (by repeat (first | exact trivial | refine ⟨rfl, ?_⟩)) ⟨{ st with ev := st.ev ++ [(j : Int)] }, (6, (st.ev.length : Int)), _, rfl, Qp (A := [_, _, _]) (st := { st with ev := st.ev ++ [(j : Int)] }) (w := { w with ev := ⟨s', isV st.ev ++ [iV j], st.ev.length + 1, bs'⟩ }) S { E with
          ev := by show _ = isV (st.ev ++ [(j : Int)]); simp
          evn := by show _ = (st.ev ++ [_]).length; simp
          lsb := ⟨E.lsb.1, E.lsb.2.1, E.lsb.2.2.1, (by have := D.l5; show (st.ev ++ [_]).length ≤ _; simp; omega)⟩ }, by unfold Q50; rw [Q.K]; simp only [hK]; rfl⟩
      have k10 : ¬ K0 = 10 := by simpa using hb
      refine Qd ?_; refine Qr gn rfl rfl rfl ?_; refine Q3 gn rfl rfl ?_; refine Q5 ?_; refine Qa rfl (fun hb => ?_) fun hb => ?_
      · skip
        have k7 : K0 = 7 := by simpa using hb
        refine Q7 (by kernel_rfl) ?_; refine Q4 gn rfl rfl ?_; refine Yf (zv := .agg #[.int .i64 0, .int .i64 0]) (pl := [(0, 1), (1, 1)]) [(0, _), (1, _)] gn rfl (by kernel_rfl) (by kernel_rfl) rfl (by rfl) ?_; refine QL (n := 2) 0 S gn rfl rfl (by kernel_rfl) (by kernel_rfl) rfl rfl (by decide) rfl (fun g S => ag0) fun g S => ?_; simp only [List.set_cons_succ, List.set_cons_zero] at S; refine Q5 ?_; refine Zv ?_; exact Q1D [] (by repeat (first | exact trivial | refine ⟨rfl, ?_⟩)) ⟨st, (3, fs), _, rfl, Qp (A := [_, _, _]) S E, by unfold Q50; rw [Q.K]; simp only [k7]; rfl⟩
      have k7 : ¬ K0 = 7 := by simpa using hb
      refine Qe ?_; refine Zv ?_; exact Q1D [] (by repeat (first | exact trivial | refine ⟨rfl, ?_⟩)) ⟨st, (0, -1), _, rfl, Qp (A := [_, _, _]) S E, by unfold Q50; rw [Q.K]; simp only [if_neg k2, if_neg k3, if_neg k6, if_neg k8, if_neg k10, if_neg k7]⟩
    obtain ⟨st1, ⟨m1, m2⟩, bs2, rfl, S, hp⟩ := hJ; obtain ⟨w1, E1, ho1, S⟩ := Qo (A := [_, _, _]) S; simp only [List.cons_append, List.nil_append] at S; have hg := Q9J (vw T) st fs j; rw [hp] at hg hst; dsimp only at hg hst; refine Jb [(0, ZB rb), (4, ZB b2), (5, ZB b3), (13, (.slice (some ⟨b, o', none⟩) T.length tc)), (14, iV T.length), (15, iV j)] (fun lv hh => lv = [(2, iV (if Q2g K0 = true then fs + 1 else fs))] ∧ SH hE bs (cR b3 (.cells [iV m1, iV m2] 38 0) :: cR b2 (.cells (twC K0 s0 N0 L0 C0 (.slice ka kids0.length kc)) 41 0) :: cR b1 (.cells [iV j] 3 0) :: rsL rb (.slice (some ⟨b, o', none⟩) T.length tc) st1 w1) hh) ?_ fun lv hh hJ => ?_
    · skip
      refine Qd ?_; refine Q0 (off := 0) gn rfl rfl (by kernel_rfl) ?_; refine Q6 gn rfl rfl (by kernel_rfl) (by exact S.cel 1 rfl) rfl ?_; refine Qb [_] gn rfl rfl (by kernel_rfl) rfl (C.mono (n49) ?_); rintro v g ⟨rfl, x⟩; have S := S.grow x; refine ⟨ag0, ?_⟩; refine Q5 ?_; refine Qa rfl (fun hb => ?_) fun hb => ?_
      · skip
        refine Q7 (by kernel_rfl) ?_; refine Q4 gn rfl rfl ?_; refine QU gn rfl rfl rfl (by omega) (by omega) ?_; refine Q3 gn rfl rfl ?_; refine Q5 ?_; exact Q1D [(2, _)] (by repeat (first | exact trivial | refine ⟨rfl, ?_⟩)) ⟨by rw [if_pos (by simpa using hb)], S⟩
      refine Qe ?_; exact Q1D [(2, _)] (by repeat (first | exact trivial | refine ⟨rfl, ?_⟩)) ⟨by rw [if_neg (by simpa using hb)], S⟩
    obtain ⟨rfl, S⟩ := hJ; refine Qk ?_; refine Z2 [(0, []), (1, []), (2, []), (3, []), (4, []), (5, []), (6, []), (7, []), (8, []), (9, []), (10, []), (11, []), (12, [])] (by kernel_rfl) (by kernel_rfl) (by kernel_rfl) (by kernel_rfl) ?_; refine Q4 gn rfl rfl ?_; refine Q9 gn rfl rfl ?_; refine Q0 (off := 11) gn rfl rfl (by kernel_rfl) ?_; refine Q6 gn rfl rfl (by kernel_rfl) (by exact S.cel 3 rfl) rfl ?_; refine Q0 (off := 1) gn rfl rfl (by kernel_rfl) ?_; refine Q6 gn rfl rfl (by kernel_rfl) (by exact S.cel 1 rfl) rfl ?_; obtain ⟨M, cl, hM, hF⟩ := Q35 S 13 rfl; refine YQ (zv := .agg #[.int .i64 0, .int .i64 0]) Qes gn rfl rfl rfl hM (by kernel_rfl) ?_; rw [hF, Q9Z, Q1J]
    obtain ⟨m7, hm7⟩ : ∃ m7, (st1.glob s0).getD (0, 0) = m7 := ⟨_, rfl⟩; obtain ⟨has, hhas⟩ : ∃ q, (st1.glob s0).isSome = q := ⟨_, rfl⟩; rw [hm7, hhas]; obtain ⟨m71, m72⟩ := m7; refine Q4 gn rfl rfl ?_; refine Zj gn rfl rfl rfl ?_; refine Zj gn rfl rfl rfl ?_; refine Zl (zv := .agg #[.int .i64 0, .int .i64 0]) S gn rfl (by kernel_rfl) fun b4 g nb4 S => ?_; refine QL (n := 2) 0 S gn rfl rfl (by kernel_rfl) (by kernel_rfl) rfl rfl (by decide) rfl (fun g S => ag0) fun g S => ?_; simp only [List.set_cons_succ, List.set_cons_zero] at S; refine Q3 gn rfl rfl ?_; refine ZC ?_; refine Q0 (off := 1) gn rfl rfl (by kernel_rfl) ?_; refine Q6 gn rfl rfl (by kernel_rfl) (by exact S.cel 1 rfl) rfl ?_
    refine Yw gn rfl rfl rfl ?_; refine Q4 gn rfl rfl ?_
    refine Y6 (n := 2) rfl rfl rfl gn rfl (fun hb => by
        refine Q4 (gy rfl rfl rfl hb) rfl rfl ?_; refine ZN (gy rfl rfl rfl hb) rfl rfl ?_
        exact Q5 ⟨rfl, rfl, 2, rfl, rfl⟩) ?_
    refine Q5 ?_; refine Qa rfl (fun hb => ?_) fun hb => ?_
    · skip
      refine Z2 [(0, []), (1, []), (2, []), (3, []), (4, []), (5, []), (6, []), (7, [])] (by kernel_rfl) (by kernel_rfl) (by kernel_rfl) (by kernel_rfl) ?_; refine Q4 gn rfl rfl ?_; refine Q9 gn rfl rfl ?_; refine Q0 (off := 11) gn rfl rfl (by kernel_rfl) ?_; refine Q6 gn rfl rfl (by kernel_rfl) (by exact S.cel 4 rfl) rfl ?_; refine Q0 (off := 1) gn rfl rfl (by kernel_rfl) ?_; refine Q6 gn rfl rfl (by kernel_rfl) (by exact S.cel 2 rfl) rfl ?_; refine Qs (n := 2) gn rfl rfl (by kernel_rfl) (by kernel_rfl) (by exact S.cel 1 rfl) (Nat.le_refl _) ?_; obtain ⟨M2, cl2, S, hF2⟩ := Q41 S 14 rfl; simp only [List.set_cons_succ, List.set_cons_zero] at S
      refine Kb 14 S Qes gn rfl rfl rfl rfl (fun g S => ag0) fun g S => ?_; simp only [List.set_cons_succ, List.set_cons_zero] at S; have S := Jj S 14 rfl (Qc0 hF2 s0 (m1, m2)); simp only [List.set_cons_succ, List.set_cons_zero] at S; refine Q5 ?_; refine Q7 (by kernel_rfl) ?_; refine QU gn rfl rfl rfl (by omega) (by omega) ?_; refine Q4 gn rfl rfl ?_; refine Q5 ?_
      have hcd : 0 ≤ m2 ∧ st.glob s0 = none := by
        have h := hb; simp only [Bool.and_eq_true, decide_eq_true_eq, Bool.not_eq_true'] at h; refine ⟨h.1, ?_⟩; rw [← hg]; have h2 := hhas.trans h.2; simpa using h2
      rw [if_pos hcd, ← hg] at hst; have S5 := Qp (A := []) (st := { st1 with glob := Nam.put st1.glob s0 (m1, m2) }) (w := w1) S.drop.drop.drop.drop { E1 with }; exact KL (T.length - (j + 1)) (by omega) [(2, _), (15, _)] (by repeat (first | exact trivial | refine ⟨rfl, ?_⟩)) ⟨j + 1, _, by rw [hst]; rfl, rfl, by omega, by rw [hst]; exact S5⟩
    refine Qe ?_; refine Q7 (by kernel_rfl) ?_; refine QU gn rfl rfl rfl (by omega) (by omega) ?_; refine Q4 gn rfl rfl ?_; refine Q5 ?_
    have hcd : ¬ (0 ≤ m2 ∧ st.glob s0 = none) := fun h9 => by
      have h := hb; rw [← hg] at h9; have h2 : has = false := by rw [← hhas, h9.2]; rfl
      rw [h2, decide_eq_true h9.1] at h; cases h
    rw [if_neg hcd] at hst; have S5 := Qp (A := []) (st := st1) (w := w1) S.drop.drop.drop.drop E1; exact KL (T.length - (j + 1)) (by omega) [(2, _), (15, _)] (by repeat (first | exact trivial | refine ⟨rfl, ?_⟩)) ⟨j + 1, _, by rw [hst]; rfl, rfl, by omega, by rw [hst]; exact S5⟩
  refine Zb ?_; refine Qx ?_; refine Qz ?_; refine Za ?_; refine ⟨.inr rfl, _, rfl, ?_⟩; obtain rfl : j = T.length := by simp at hb; omega
  exact ⟨bs1, S⟩
end
end Go.Proofs.YtkidomfnmpnmaaaGreatDoor
namespace Go.Proofs.YtkidomfnmpnmaaaGreatDoor
open Go.X Go.Nam
def rulesT : List (Int × Nat) := [(11, 36), (9, 37), (36, 38), (12, 39), (13, 40), (29, 41), (5, 42), (19, 43), (21, 44), (22, 44), (33, 45), (2, 47), (3, 47), (6, 47), (7, 47), (8, 47), (10, 47)]
def rulesM : MsK Int := rulesT.zipIdx.map fun x => (x.1.1, funV x.1.2, x.2)
theorem Q4Q (n : Nat) : pcs n Q1h [0] = [cR n (.map (rulesM.map (Q1C iV)) 17)] := by kernel_rfl
theorem QdT (n : Nat) : shV 400 n Q2Y = some (.map (some n)) := by kernel_rfl
theorem QdU (n : Nat) : Q82 n Q1h = some Q1h := by kernel_rfl
theorem Q9B (K : Int) : Q0s rulesM K = (Q0O K).map funV := by
  by_cases h : K = 11 ∨ K = 9 ∨ K = 36 ∨ K = 12 ∨ K = 13 ∨ K = 29 ∨ K = 5 ∨ K = 19 ∨ K = 21 ∨ K = 22 ∨ K = 33 ∨ K = 2 ∨ K = 3 ∨ K = 6 ∨ K = 7 ∨ K = 8 ∨ K = 10
  · rcases h with rfl | rfl | rfl | rfl | rfl | rfl | rfl | rfl | rfl | rfl | rfl | rfl | rfl | rfl | rfl | rfl | rfl <;> rfl
  simp only [not_or] at h; obtain ⟨h1, h2, h3, h4, h5, h6, h7, h8, h9, h10, h11, h12, h13, h14, h15, h16, h17⟩ := h
  have e1 : Q0O K = none := by
    unfold Q0O ZP; simp [h1, h2, h3, h4, h5, h6, h7, h8, h9, h10, h11, h12, h13, h14, h15, h16, h17]
  have e2 : Q0s rulesM K = none := by
    simp [Q0s, fK, rulesM, rulesT, h1, h2, h3, h4, h5, h6, h7, h8, h9, h10, h11, h12, h13, h14, h15, h16, h17, Ne.symm]
  rw [e1, e2]; rfl
end Go.Proofs.YtkidomfnmpnmaaaGreatDoor
namespace Go.Proofs.YtkidomfnmpnmaaaGreatDoor
open Go.X Go.Nam
theorem _root_.Go.X.SH.pick1 {h0 h : Hp} {L : List Res} {r : Res} (S : SH h0 [] L h) (i : Nat) (e : L[i]? = some r) : SH h0 [] [r] h := SH.sub1 (SH.start h0) (fun k hk => by cases hk) S i e
structure MayV (T : List Tw) : Prop where
  P : Shp (vw T)
  s : ∃ n, sub (vw T) (T.length + 1) 0 n
  r : ¬ Ap.isS ((vw T).K 0) ∧ ¬ Ap.isT ((vw T).K 0) ∧ (vw T).K 0 ≠ 12
  N : ∀ i : Nat, (vw T).K i = 9 → 0 ≤ (vw T).N i ∧ (vw T).N i ≤ 3
  p : 0 < T.length
abbrev zeroN : Value := .agg #[.slice none 0 0, .slice none 0 0, .slice none 0 0, .slice none 0 0, .slice none 0 0, .slice none 0 0, .slice none 0 0, .slice none 0 0, .int .i64 0]
abbrev namV (st : Nst) (w : RsW) : Value := .agg #[w.me.v, w.ow.v, w.lo.v, w.cl.v, w.gl.v, w.co.v, w.ev.v, w.fu.v, iV st.main]
def ResAt (h h' : Hp) (sv : Value) (T : List Tw) (v : Value) : Prop :=
  (Q43 T = false ∧ ∃ b, v = .tuple #[zeroN, .slice (some ⟨b, 0, none⟩) 1 1] ∧ h'.get b = some (.cells [iV 0, iV 0, iV 2] 55 0) ∧ b < h'.n) ∨
  (Q43 T = true ∧ ∃ rb rs w, RsE (Z3 (vw T)) rs w ∧ SH h [] (rsL rb sv (Z3 (vw T)) w) h' ∧ (((Z3 (vw T)).wrong ≠ [] ∧ v = .tuple #[zeroN, w.wr.v]) ∨ ((Z3 (vw T)).wrong = [] ∧ v = .tuple #[namV (Z3 (vw T)) w, .slice none 0 0])))
theorem QbL {a : Option Addr} {n c : Nat} : sameV 20 (.agg ((List.drop 0 (Value.agg #[.slice a n c]).cells.toList).take 1).toArray) (.agg ((List.drop 0 (Value.agg #[.slice a n c]).cells.toList).take 1).toArray) = true := by
  cases a <;> simp [sameV, sameV.sameL, Value.cells]
theorem _root_.Go.X.SH.ord {h0 h : Hp} {ds : List Nat} {L : List Res} (S : SH h0 ds L h) (js : List Nat) (n : Nat) (hn : n = L.length) (hp : js.Perm (List.range n)) : SH h0 ds (js.map fun i => L.getD i (cR 0 (.cells [] 0 0))) h := by
  refine S.sub (B := []) ?_; rw [List.append_nil]
  have e : (List.range n).map (fun i => L.getD i (cR 0 (.cells [] 0 0))) = L := by
    subst hn; refine List.ext_getElem? fun i => ?_; rw [List.getElem?_map]; by_cases hi : i < L.length
    · rw [List.getElem?_range hi, List.getElem?_eq_getElem hi]; simp [List.getD_eq_getElem?_getD, hi]
    rw [List.getElem?_eq_none (by simpa using hi), List.getElem?_eq_none (by omega)]; rfl
  have := hp.map fun i => L.getD i (cR 0 (.cells [] 0 0)); rwa [e] at this
theorem Q9I {c : List Value} : ∀ n : Nat, (Ql c n).length = n * c.length
  | 0 => by simp [Ql]
  | n + 1 => by simp [Ql, Q9I n]; grind
theorem Qd9 : ∀ n : Nat, Ql [iV 0, iV 0] n = meC (List.replicate n (0, 0))
  | 0 => rfl
  | n + 1 => by
    have e := Qd9 n; simp only [Ql, List.replicate_succ, meC, List.flatMap_cons] at e ⊢; rw [e]
theorem Qd8 : ∀ n : Nat, Ql [iV 0] n = isV (List.replicate n 0)
  | 0 => rfl
  | n + 1 => by
    have e := Qd8 n; simp only [Ql, List.replicate_succ, List.map_cons] at e ⊢; rw [e]; rfl
abbrev w00 (n mb ob gb mr : Nat) : RsW := ⟨⟨.slice (some ⟨mb, 0, none⟩) n n, meC (List.replicate n (0, 0)), n, [mb]⟩, ⟨.slice (some ⟨ob, 0, none⟩) n n, isV (List.replicate n 0), n, [ob]⟩, ⟨.slice none 0 0, [], 0, []⟩, ⟨.slice none 0 0, [], 0, []⟩, ⟨.slice none 0 0, [], 0, []⟩, ⟨.slice none 0 0, [], 0, []⟩, ⟨.slice none 0 0, [], 0, []⟩, ⟨.slice none 0 0, [], 0, []⟩, ⟨.slice none 0 0, [], 0, []⟩, ⟨.slice none 0 0, [], 0, []⟩, gb, mr, [], [], []⟩
theorem e00 (T : List Tw) (mb ob gb mr : Nat) : RsE (Qq (vw T) 0).1 [] (w00 T.length mb ob gb mr) :=
  ⟨rfl, List.length_replicate.symm, rfl, List.length_replicate.symm, rfl, rfl, rfl, rfl, rfl, rfl, rfl, rfl, rfl, rfl, rfl, rfl, rfl, rfl, rfl, rfl, rfl, rfl, rfl, rfl, by show 0 ≤ 1000000; omega, ⟨by show 0 ≤ 1000000; omega, by show 0 ≤ 1000000; omega, by show 0 ≤ 1000000; omega, by show 0 ≤ 1000000; omega⟩⟩
theorem Q7U (T : List Tw) : (T.any fun t => decide (t.K = 11)) = Kp (vw T) := by
  rw [Bool.eq_iff_iff, List.any_eq_true]; unfold Kp; rw [List.any_eq_true]; constructor
  · rintro ⟨t, ht, hk⟩; obtain ⟨j, hj, rfl⟩ := List.mem_iff_getElem.1 ht; refine ⟨j, List.mem_range.2 hj, ?_⟩; rw [(Q80 (List.getElem?_eq_getElem hj)).2.1]; exact hk
  rintro ⟨j, hj, hk⟩; have hj : j < T.length := List.mem_range.1 hj; refine ⟨T[j], List.getElem_mem hj, ?_⟩; rw [(Q80 (List.getElem?_eq_getElem hj)).2.1] at hk; exact hk
section
variable {h : Hp} {sv : Value} {T : List Tw}
set_option maxHeartbeats 4000000 in
theorem n8 (X : TreeAt h sv T) (G : ∀ t, t ∈ T → RowG h t.ks (isV t.kids)) (hN : ∀ t, t ∈ T → -9223372036854775808 ≤ t.N ∧ t.N ≤ 9223372036854775807) (B : Blk h) (Pw : Pow h) (hT : T.length ≤ 1000) (hs : ∀ t, t ∈ T → t.s.toList.length ≤ 100) (hM : Q43 T = true → MayV T) :
    C nmE 8 [.agg #[sv]] h fun v h' => Ext h h' ∧ ResAt h h' sv T v := by
  obtain ⟨ta, tc, rfl⟩ := X.val; refine QcQ (fu := Tryz.f8) (by kernel_rfl) rfl ?_; have S := SH.start h; refine Qd ?_; refine Yu S gn rfl rfl fun b1 g nb1 S => ?_; refine Zl (zv := .agg #[.slice none 0 0, .slice none 0 0, .slice none 0 0, .slice none 0 0, .slice none 0 0, .slice none 0 0, .slice none 0 0, .slice none 0 0, .int .i64 0]) S gn rfl (by kernel_rfl) fun b2 g nb2 S => ?_; refine Q3 gn rfl rfl ?_; refine J0 ?_; refine Qs (n := 1) gn rfl rfl (by kernel_rfl) (by kernel_rfl) (by exact S.cel 1 rfl) (Nat.le_refl _) ?_; refine Qb [_] gn rfl rfl (by kernel_rfl) rfl (C.mono (c10 (B.ext S.e0) (X.ext S.e0) hT hs) ?_); rintro v g ⟨rfl, x⟩; have S := S.grow x; refine ⟨ag0, ?_⟩
  refine ZN gn rfl rfl ?_; refine Q5 ?_; refine Qa rfl (fun hb => ?_) fun hb => ?_
  · skip
    have hmay : Q43 T = false := by simpa using hb
    refine Qd ?_; refine Yf (zv := .agg #[.slice none 0 0, .slice none 0 0, .slice none 0 0, .slice none 0 0, .slice none 0 0, .slice none 0 0, .slice none 0 0, .slice none 0 0, .int .i64 0]) (pl := [(0, 1), (1, 1), (2, 1), (3, 1), (4, 1), (5, 1), (6, 1), (7, 1), (8, 1)]) [] gn rfl (by kernel_rfl) (by kernel_rfl) rfl (by rfl) ?_; refine Yf (zv := .agg #[.int .i64 0, .int .i64 0, .int .i64 0]) (pl := [(0, 1), (1, 1), (2, 1)]) [(2, _)] gn rfl (by kernel_rfl) (by kernel_rfl) rfl (by rfl) ?_
    refine Qn (cs := #[iV 0, iV 0, iV 2]) (e := 55) (z := 2) (zv := .agg #[.int .i64 0, .int .i64 0, .int .i64 0]) [(0, _)] S gn rfl (by kernel_rfl) (by kernel_rfl) (by kernel_rfl) (by kernel_rfl) rfl (by kernel_rfl) fun b3 g nb3 S => ?_; refine QL (n := 9) 1 S gn rfl rfl (by kernel_rfl) (by kernel_rfl) rfl rfl (by decide) rfl (fun g S => ag0) fun g S => ?_; refine Q3 gn rfl rfl ?_; refine Q5 ?_; refine Qc ?_; refine ⟨.inl rfl, _, (Q3J rfl (by kernel_rfl) (by kernel_rfl) (S.cel 1 rfl) rfl (Q3H rfl rfl)), ?_⟩; exact ⟨S.e0, .inl ⟨hmay, _, rfl, S.cel 0 rfl, S.lt1 0 rfl⟩⟩
  refine Qe ?_; have hmay : Q43 T = true := by simpa using hb
  have M := hM hmay; have R : Tre h (.slice ta T.length tc) T := ⟨X, G, M.P, hN⟩; have hp := M.p; refine Qk ?_; refine Z2 [(0, []), (1, []), (2, [0]), (3, []), (4, []), (5, [])] (by kernel_rfl) (by kernel_rfl) (by kernel_rfl) (by kernel_rfl) ?_; refine Qs (n := 1) gn rfl rfl (by kernel_rfl) (by kernel_rfl) (by exact S.cel 1 rfl) (Nat.le_refl _) ?_; refine Q2a S gn rfl fun b4 g nb4 S => ?_; refine Q6d [0] S gn rfl (by kernel_rfl) (by kernel_rfl) sm17 QdT QdU (fun _ => by decide) (by decide) (fun n g nn S => (ag1 (JI (n := 1) gn rfl (by kernel_rfl) (by kernel_rfl) (by rw [Q4Q] at S; exact S.cel 3 rfl) (Nat.le_refl _) rfl QbL) ag0)) fun n5 g nn5 S => ?_; rw [Q4Q] at S
  simp only [List.cons_append, List.nil_append] at S; refine Yf (zv := .agg #[.slice none 0 0, .slice none 0 0, .slice none 0 0, .slice none 0 0, .slice none 0 0, .slice none 0 0, .slice none 0 0, .slice none 0 0, .slice none 0 0, .int .i64 0, .slice none 0 0, .map none, .slice none 0 0, .int .i64 0, .int .i64 0, .int .i64 0, .map none]) (pl := [(0, 1), (1, 9), (10, 1), (11, 1), (12, 1), (13, 1), (14, 1), (15, 1), (16, 1)]) [(0, _), (3, _), (5, _), (8, _)] gn rfl (by kernel_rfl) (by kernel_rfl) rfl (by rfl) ?_; refine Yu S gn rfl rfl fun b6 g nb6 S => ?_; refine Q3 gn rfl rfl ?_; refine Q5 ?_; refine Qk ?_
  have S : SH h [] [cR b6 (.cells [.slice ta T.length tc, .slice none 0 0, .slice none 0 0, .slice none 0 0, .slice none 0 0, .slice none 0 0, .slice none 0 0, .slice none 0 0, .slice none 0 0, .int .i64 0, .slice none 0 0, .map (some b4), .slice none 0 0, .int .i64 (-1), .int .i64 0, .int .i64 0, .map (some n5)] 62 0), cR n5 (.map (rulesM.map (Q1C iV)) 17), cR b4 (.map [] 0), cR b2 (.cells [.slice none 0 0, .slice none 0 0, .slice none 0 0, .slice none 0 0, .slice none 0 0, .slice none 0 0, .slice none 0 0, .slice none 0 0, .int .i64 0] 32 0), cR b1 (.cells [.slice ta T.length tc] 24 0)] g := S
  refine Z2 [(0, []), (1, []), (2, []), (3, []), (4, []), (5, []), (6, []), (7, []), (8, []), (9, []), (10, []), (11, []), (12, []), (13, [7, 8]), (14, []), (15, []), (16, []), (17, [])] (by kernel_rfl) (by kernel_rfl) (by kernel_rfl) (by kernel_rfl) ?_; refine Q4 gn rfl rfl ?_; refine Q4 gn rfl rfl ?_; refine Q0 (off := 0) gn rfl rfl (by kernel_rfl) ?_; refine Q6 gn rfl rfl (by kernel_rfl) (by exact S.cel 4 rfl) rfl ?_; refine QJ gn rfl rfl (by kernel_rfl) ?_
  refine Q29 (e := 38) (z := 1) (zv := .agg #[.int .i64 0, .int .i64 0]) (by' := 16) S gn rfl rfl rfl (by kernel_rfl) (by kernel_rfl) (by kernel_rfl) (by kernel_rfl) (by decide) (by omega) (by omega) (by omega) (by omega) fun b7 g nb7 S => ?_; refine Q0 (off := 0) gn rfl rfl (by kernel_rfl) ?_; refine Q6 gn rfl rfl (by kernel_rfl) (by exact S.cel 5 rfl) rfl ?_; refine QJ gn rfl rfl (by kernel_rfl) ?_; refine Q29 (e := 3) (z := 0) (zv := .int .i64 0) (by' := 8) S gn rfl rfl rfl (by kernel_rfl) (by kernel_rfl) (by kernel_rfl) (by kernel_rfl) (by decide) (by omega) (by omega) (by omega) (by omega) fun b8 g nb8 S => ?_; refine Q9 gn rfl rfl ?_; refine Q0 (off := 1) gn rfl rfl (by kernel_rfl) ?_
  refine Q0 (off := 0) gn rfl rfl (by kernel_rfl) ?_; refine ZD 2 S gn rfl rfl rfl (by kernel_rfl) rfl (by decide) (by first | decide | (simp; done)) (fun g S => ag1 (Zt gn rfl (by kernel_rfl) (S.cel 6 rfl) rfl rfl ZM) (ag1 (Q3r gn rfl (by kernel_rfl) rfl) ag0)) fun g S => ?_; refine Q9 gn rfl rfl ?_; refine Q0 (off := 1) gn rfl rfl (by kernel_rfl) ?_; refine Q0 (off := 1) gn rfl rfl (by kernel_rfl) ?_; refine ZD 2 S gn rfl rfl rfl (by kernel_rfl) rfl (by decide) (by first | decide | (simp; done)) (fun g S => ag0) fun g S => ?_; refine Q5 ?_; refine Qk ?_
  have S : SH h [] [cR b8 (.cells (Ql [iV 0] T.length) 3 0), cR b7 (.cells (Ql [iV 0, iV 0] T.length) 38 0), cR b6 (.cells [.slice ta T.length tc, .slice (some ⟨b7, 0, none⟩) T.length T.length, .slice (some ⟨b8, 0, none⟩) T.length T.length, .slice none 0 0, .slice none 0 0, .slice none 0 0, .slice none 0 0, .slice none 0 0, .slice none 0 0, .int .i64 0, .slice none 0 0, .map (some b4), .slice none 0 0, .int .i64 (-1), .int .i64 0, .int .i64 0, .map (some n5)] 62 0), cR n5 (.map (rulesM.map (Q1C iV)) 17), cR b4 (.map [] 0), cR b2 (.cells [.slice none 0 0, .slice none 0 0, .slice none 0 0, .slice none 0 0, .slice none 0 0, .slice none 0 0, .slice none 0 0, .slice none 0 0, .int .i64 0] 32 0), cR b1 (.cells [.slice ta T.length tc] 24 0)] g := S
  rw [Qd9, Qd8] at S; have S := S.toSl (z := 0) (n := T.length) 0 rfl (.inl rfl) (by simp); have S := S.toSl (z := 1) (n := T.length) 1 rfl (.inl rfl) (by rw [Qa0, List.length_replicate]); have S := Jj (F := Q0O) (enc := funV) S 3 rfl Q9B; have S := Jj (M := ([] : MsK Txt)) (key := Value.string) (F := fun _ => (none : Option (Int × Int))) (enc := Q6x) S 4 rfl (fun _ => rfl); have S := (((((((S.nilSl 3 0).nilSl 3 0).nilSl 3 0).nilSl 3 0).nilSl 3 0).nilSl 45 3).nilSl 55 2).nilSl 120 1
  have S : SH h [] ([cR b2 (.cells [.slice none 0 0, .slice none 0 0, .slice none 0 0, .slice none 0 0, .slice none 0 0, .slice none 0 0, .slice none 0 0, .slice none 0 0, .int .i64 0] 32 0), cR b1 (.cells [.slice ta T.length tc] 24 0)] ++ rsL b6 (.slice ta T.length tc) (Qq (vw T) 0).1 (w00 T.length b7 b8 b4 n5)) g := S.ord [13, 14, 10, 9, 8, 7, 6, 5, 4, 3, 2, 1, 12, 0, 11] 15 rfl (by decide); have S := Qp (A := [_, _]) S (e00 T b7 b8 b4 n5); refine Q7 (by kernel_rfl) ?_; refine Q4 gn rfl rfl ?_; refine Qb [_] gn rfl rfl (by kernel_rfl) rfl (C.mono (n18 (S.pick1 2 rfl) R) ?_); rintro v g ⟨bs', S2⟩; have S := S.ret 2 rfl S2
  simp only [List.cons_append, List.nil_append, List.set_cons_succ, List.set_cons_zero] at S; refine ⟨ag0, ?_⟩; refine Q5 ?_; have D := Q2G (T := vw T) T.length; have hwr0 : (Qq (vw T) T.length).1.wrong.length ≤ 0 := by rw [D.wr]; exact Nat.le_refl _
  refine Jb [(2, ZB b2), (4, ZB b6)] (fun lv hh => ∃ bs1, lv = [] ∧ SH h [] [cR b2 (.cells [.slice none 0 0, .slice none 0 0, .slice none 0 0, .slice none 0 0, .slice none 0 0, .slice none 0 0, .slice none 0 0, .slice none 0 0, .int .i64 0] 32 0), cR b1 (.cells [.slice ta T.length tc] 24 0), rsR b6 (.slice ta T.length tc) (if Kp (vw T) = true then (Qq (vw T) T.length).1 else tell (vw T) (Qq (vw T) T.length).1 0 13) [] bs1] hh) ?_ fun lv hh hJ => ?_
  · skip
    refine Qd ?_; refine Q0 (off := 0) gn rfl rfl (by kernel_rfl) ?_; refine Q6 gn rfl rfl (by kernel_rfl) (by exact S.cel 1 rfl) rfl ?_; refine Qb [_, _] gn rfl rfl (by kernel_rfl) rfl (C.mono (n19 (P := fun t => decide (t.K = 11)) (X.ext S.e0) ⟨20, #[], rfl, by kernel_rfl, fun h' e t _ hrw => n20 hrw⟩ hT) ?_); rintro v g ⟨rfl, x⟩; have S := S.grow x; refine ⟨ag0, ?_⟩; refine ZN gn rfl rfl ?_; refine Q5 ?_; refine Qa rfl (fun hb => ?_) fun hb => ?_
    · skip
      refine Q7 (by kernel_rfl) ?_; refine Q4 gn rfl rfl ?_; refine Qb [_, _, _] gn rfl rfl (by kernel_rfl) rfl (C.mono (n21 (S.pick1 2 rfl) X hp (by omega)) ?_); rintro v g ⟨bs', S2⟩; have S := S.ret 2 rfl S2; simp only [List.set_cons_succ, List.set_cons_zero] at S; refine ⟨ag0, ?_⟩; refine Q5 ?_; exact Q1D [] (by repeat (first | exact trivial | refine ⟨rfl, ?_⟩)) ⟨_, rfl, by rw [← Q7U, if_neg (by simpa using hb)]; exact S⟩
    refine Qe ?_; exact Q1D [] (by repeat (first | exact trivial | refine ⟨rfl, ?_⟩)) ⟨_, rfl, by rw [← Q7U, if_pos (by simpa using hb)]; exact S⟩
  obtain ⟨bs1, rfl, S⟩ := hJ; obtain ⟨st1, hst1⟩ : ∃ st1, (if Kp (vw T) = true then (Qq (vw T) T.length).1 else tell (vw T) (Qq (vw T) T.length).1 0 13) = st1 := ⟨_, rfl⟩
  have hwr1 : st1.wrong.length ≤ 1 := by
    rw [← hst1]
    split
    · omega
    show ((Qq (vw T) T.length).1.wrong ++ [_]).length ≤ 1; rw [List.length_append]; simp; simpa using hwr0
  have hstart : JN (vw T) = if st1.lo = [] then tell (vw T) st1 0 13 else st1 := by rw [← hst1]; rfl
  rw [hst1] at S; refine Jb [(2, ZB b2), (4, ZB b6)] (fun lv hh => ∃ bs1, lv = [] ∧ SH h [] [cR b2 (.cells [.slice none 0 0, .slice none 0 0, .slice none 0 0, .slice none 0 0, .slice none 0 0, .slice none 0 0, .slice none 0 0, .slice none 0 0, .int .i64 0] 32 0), cR b1 (.cells [.slice ta T.length tc] 24 0), rsR b6 (.slice ta T.length tc) (JN (vw T)) [] bs1] hh) ?_ fun lv hh hJ => ?_
  · skip
    refine Qk ?_; obtain ⟨w, E, ho, S⟩ := Qo (A := [_, _]) S; simp only [List.cons_append, List.nil_append] at S; refine Q7 (by kernel_rfl) ?_; refine Q4 gn rfl rfl ?_; refine Q9 gn rfl rfl ?_; refine Q0 (off := 1) gn rfl rfl (by kernel_rfl) ?_; refine Q0 (off := 2) gn rfl rfl (by kernel_rfl) ?_; refine Q6 gn rfl rfl (by kernel_rfl) (by exact S.cel 2 rfl) rfl ?_; obtain ⟨la, lc, hlv⟩ := Y4 (S.sl 5 rfl); rw [hlv, E.lon]; refine QJ gn rfl rfl (by kernel_rfl) ?_; refine Qr gn rfl rfl rfl ?_; refine Q5 ?_; refine Qa rfl (fun hb => ?_) fun hb => ?_
    · skip
      refine Q7 (by kernel_rfl) ?_; refine Q4 gn rfl rfl ?_; have S := Qp (A := [_, _]) S E; refine Qb [_, _, _] gn rfl rfl (by kernel_rfl) rfl (C.mono (n21 (S.pick1 2 rfl) X hp (by omega)) ?_); rintro v g ⟨bs', S2⟩; have S := S.ret 2 rfl S2; simp only [List.set_cons_succ, List.set_cons_zero] at S; refine ⟨ag0, ?_⟩; refine Q5 ?_; exact Q1D [] (by repeat (first | exact trivial | refine ⟨rfl, ?_⟩)) ⟨_, rfl, by rw [hstart, if_pos (by simpa using hb)]; exact S⟩
    refine Qe ?_; exact Q1D [] (by repeat (first | exact trivial | refine ⟨rfl, ?_⟩)) ⟨_, rfl, by rw [hstart, if_neg (by simpa using hb)]; exact Qp (A := [_, _]) S E⟩
  obtain ⟨bs1, rfl, S⟩ := hJ; refine Qk ?_; obtain ⟨nn, hsub⟩ := M.s; have hnn : nn ≤ T.length := sub_le hsub; refine Q7 (by kernel_rfl) ?_; refine Q4 gn rfl rfl ?_; refine Qb [_, _] gn rfl rfl (by kernel_rfl) rfl (C.mono (n22 R Pw M.N (T.length + 1) (T.length + 1) (Nat.le_refl _) 0 nn (JN (vw T)) [] 2 [] _ _ hsub ⟨Q72 nn, fun x hx => (by cases hx), ⟨fun h => absurd h M.r.1, fun h => absurd h M.r.2.1, fun h => absurd h M.r.2.2⟩⟩ (by omega) (S.pick1 2 rfl)) ?_); rintro v g ⟨bs', S2⟩; have S := S.ret 2 rfl S2
  have S : SH h [] ([cR b2 (.cells [.slice none 0 0, .slice none 0 0, .slice none 0 0, .slice none 0 0, .slice none 0 0, .slice none 0 0, .slice none 0 0, .slice none 0 0, .int .i64 0] 32 0), cR b1 (.cells [.slice ta T.length tc] 24 0)] ++ [rsR b6 (.slice ta T.length tc) (Z3 (vw T)) [] bs']) g := S; obtain ⟨w, E, ho, S⟩ := Qo (A := [_, _]) S; simp only [List.cons_append, List.nil_append] at S; refine ⟨ag0, ?_⟩; refine J0 ?_; refine Q4 gn rfl rfl ?_; refine Q9 gn rfl rfl ?_; refine Q0 (off := 10) gn rfl rfl (by kernel_rfl) ?_; refine Q6 gn rfl rfl (by kernel_rfl) (by exact S.cel 2 rfl) rfl ?_; obtain ⟨wa, wc, hwv⟩ := Y4 (S.sl 11 rfl); rw [hwv, E.wrn]; refine QJ gn rfl rfl (by kernel_rfl) ?_
  refine Q00 gn rfl rfl rfl ?_; refine Q5 ?_; refine Qa rfl (fun hb => ?_) fun hb => ?_
  · skip
    refine Qk ?_; refine Z2 [(0, []), (1, []), (2, []), (3, []), (4, []), (5, [4]), (6, [])] (by kernel_rfl) (by kernel_rfl) (by kernel_rfl) (by kernel_rfl) ?_; refine Yf (zv := .agg #[.slice none 0 0, .slice none 0 0, .slice none 0 0, .slice none 0 0, .slice none 0 0, .slice none 0 0, .slice none 0 0, .slice none 0 0, .int .i64 0]) (pl := [(0, 1), (1, 1), (2, 1), (3, 1), (4, 1), (5, 1), (6, 1), (7, 1), (8, 1)]) [] gn rfl (by kernel_rfl) (by kernel_rfl) rfl (by rfl) ?_; refine Q4 gn rfl rfl ?_; refine Q9 gn rfl rfl ?_; refine Q0 (off := 10) gn rfl rfl (by kernel_rfl) ?_; refine Q6 gn rfl rfl (by kernel_rfl) (by exact S.cel 2 rfl) rfl ?_
    refine QL (n := 9) 0 S gn rfl rfl (by kernel_rfl) (by kernel_rfl) rfl rfl (by decide) rfl (fun g S => (ag1 (Zt gn rfl (by kernel_rfl) (S.cel 2 rfl) rfl rfl (by rw [hwv]; exact ZM)) ag0)) fun g S => ?_; refine Q3 gn rfl rfl ?_; refine Q5 ?_; refine Qc ?_; refine ⟨.inl rfl, _, (Q3J rfl (by kernel_rfl) (by kernel_rfl) (S.cel 0 rfl) rfl (Q3H rfl rfl)), ?_⟩; exact ⟨S.e0, .inr ⟨hmay, b6, [], w, E, S.drop.drop, .inl ⟨fun e => by rw [e] at hb; simp at hb, rfl⟩⟩⟩
  refine Qe ?_; refine Qd ?_; refine Q4 gn rfl rfl ?_; refine Q9 gn rfl rfl ?_; refine Q0 (off := 1) gn rfl rfl (by kernel_rfl) ?_; refine Qs (n := 9) gn rfl rfl (by kernel_rfl) (by kernel_rfl) (by exact S.cel 2 rfl) (by simp) ?_
  have hall9 : ([w.me.v, w.ow.v, w.lo.v, w.cl.v, w.gl.v, w.co.v, w.ev.v, w.fu.v, iV (Z3 (vw T)).main] : List Value).all cellV = true := by
    simp only [List.all_cons, List.all_nil, (S.sl 3 rfl).cellV, (S.sl 4 rfl).cellV, (S.sl 5 rfl).cellV, (S.sl 6 rfl).cellV, (S.sl 7 rfl).cellV, (S.sl 8 rfl).cellV, (S.sl 9 rfl).cellV, (S.sl 10 rfl).cellV, Bool.true_and, Bool.and_true]; rfl
  refine QL (n := 9) 0 S gn rfl rfl hall9 (by kernel_rfl) rfl rfl (by decide) rfl (fun g S => ag0) fun g S => ?_; refine Q3 gn rfl rfl ?_; refine Q5 ?_; refine Qc ?_; refine ⟨.inl rfl, _, (Q3J rfl (by kernel_rfl) (by kernel_rfl) (S.cel 0 rfl) rfl (Q3H rfl rfl)), ?_⟩; exact ⟨S.e0, .inr ⟨hmay, b6, [], w, E, S.drop.drop, .inr ⟨by simpa using hb, rfl⟩⟩⟩
end
end Go.Proofs.YtkidomfnmpnmaaaGreatDoor
namespace Go.Proofs.YtkidomfnmpnmaaaGreatDoor
open Go.X Go.Ap
theorem bt {a b : Bool} (h : (a && b) = true) : a = true ∧ b = true := by cases a <;> cases b <;> first | exact ⟨rfl, rfl⟩ | cases h
theorem Y9 {K : Int} (h : Qw K = true) : isT K := by simpa [Qw] using h
theorem isS_of {K : Int} (h : Q24 K = true) : isS K := by simpa [Q24] using h
theorem Qap {K : Int} (h : Q4u K = true) : Ap.isV K := by
  have : K = 29 ∨ K = 30 ∨ K = 31 := by simpa [Q4u] using h
  show 29 ≤ K ∧ K ≤ 31; omega
theorem isD_of {K : Int} (h : Q19 K = true) : isD K := by simpa [Q19] using h
theorem YR {K k : Int} (h : Yc [k] K = true) : K = k := by simpa [Yc] using h
theorem Zp {s : ByteArray} (h : Ka none s = true) : s.toList = [] := by simpa [Ka] using h
theorem w_of {b : UInt8} (h : (Zh b || Zk b) = true) : isW b = true := by
  simp only [Zh, Zk, Q2p, Q5J, Bool.or_eq_true, Bool.and_eq_true, decide_eq_true_eq] at h; simp only [isW, Bool.or_eq_true, Bool.and_eq_true, decide_eq_true_eq]; omega
theorem g_of {b : UInt8} (h : Zk b = false) : isG b = false := by
  cases e : isG b with
  | false => rfl
  | true =>
    simp only [isG, Bool.and_eq_true, decide_eq_true_eq] at e; have : Zk b = true := by simp only [Zk, Q5J, Bool.and_eq_true, decide_eq_true_eq]; omega
    rw [this] at h; cases h
theorem Qad : (kws.all fun l => YN (Q05 l)) = true := by kernel_rfl
theorem Q0J (l : List UInt8) : (Q05 l).toList = l := by rw [Q05, ByteArray.toList_eq]
theorem Q8T {s u : ByteArray} (h : s.toList = u.toList) : YN s = YN u := by
  have e : ∀ w, eqS w s = eqS w u := fun w => by
    rw [Bool.eq_iff_iff]; simp [h]
  simp only [YN, e]
theorem JK {s : ByteArray} (h : Qy s = true) : Nm s.toList := by
  obtain ⟨h1, _, h3, h4, h5⟩ := Zz.1 h; refine ⟨fun b hb => ?_, h1, fun b l e => ?_, fun hk => ?_⟩
  · obtain ⟨j, hj, rfl⟩ := List.mem_iff_getElem.1 hb; rw [Q4p hj]; exact w_of (h4 j hj)
  · refine g_of ?_; rw [← h3, bAt, e]; rfl
  have := List.all_eq_true.1 Qad _ hk; rw [Q8T (Q0J _), h5] at this; cases this
theorem Qdz {s : ByteArray} (h : typS s = true) : AllW s.toList ∧ s.toList ≠ [] := by
  rw [typS, Bool.or_eq_true] at h; rcases h with h | h
  · exact ⟨(JK h).all, (JK h).ne⟩
  have e : s.toList ∈ ([[105, 110, 116], [102, 110], [116, 111, 107], [104, 97, 110, 100], [97, 114, 114]] : List (List UInt8)) := by
    simpa [Q1N, Qfm, Q05] using h
  have key : ∀ l, l ∈ ([[105, 110, 116], [102, 110], [116, 111, 107], [104, 97, 110, 100], [97, 114, 114]] : List (List UInt8)) → AllW l ∧ l ≠ [] := by decide
  exact key _ e
theorem op_of {s : ByteArray} (h : Q1N Go.Proofs.YtkidomfnmpnmaaaGreatDoor.opL s = true) : s.toList ∈ Ap.opL := by
  simpa [Q1N, Go.Proofs.YtkidomfnmpnmaaaGreatDoor.opL, Ap.opL, Q05] using h
theorem QD {F : FS} {s : ByteArray} {N : Int} {ks : List Int} (h : JL F s N ks = true) : Ka F.text s = true ∧ F.least ≤ N ∧ N ≤ F.most ∧ QB F.kids ks = true ∧ Kc F (ks.drop F.kids.length) = true := by
  rw [JL] at h; obtain ⟨h1, h2⟩ := bt h; obtain ⟨h3, h4⟩ := bt h2; unfold Q0r at h1; simp only [Bool.and_eq_true, decide_eq_true_eq] at h1; exact ⟨h1.1.1.1, h1.1.1.2, h1.1.2, h3, h4⟩
theorem Q7G {K : Int} : ∀ {T : List (Int × FS)} {F : FS}, Yd T K = some F → K ∈ T.map (·.1)
  | [], _, h => by cases h
  | (k, F) :: T, F', h => by
    rw [Yd] at h
    split at h
    · rename_i e; simp [e]
    exact List.mem_cons_of_mem _ (Q7G h)
theorem QeD {K : Int} {s : ByteArray} {N : Int} {kinds : List Int} (h : Qj K s N kinds = true) : K = 1 ∨ K = 2 ∨ K = 3 ∨ K = 4 ∨ K = 5 ∨ K = 6 ∨ K = 7 ∨ K = 8 ∨ K = 9 ∨ K = 10 ∨ K = 11 ∨ K = 12 ∨ K = 13 ∨ K = 14 ∨ K = 19 ∨ K = 20 ∨ K = 21 ∨ K = 22 ∨ K = 23 ∨ K = 24 ∨ K = 25 ∨ K = 26 ∨ K = 27 ∨ K = 28 ∨ K = 29 ∨ K = 30 ∨ K = 31 ∨ K = 32 ∨ K = 33 ∨ K = 36 ∨ K = 15 ∨ K = 16 ∨ K = 17 ∨ K = 18 ∨ K = 34 ∨ K = 35 := by
  cases e : Yd formT K with
  | none => rw [Qj, e] at h; cases h
  | some F => simpa [formT] using Q7G e
theorem fm_1 {s : ByteArray} {N : Int} {ks : List G} (h : Qj 1 s N (ks.map G.K) = true) : Fm 1 s.toList N ks := by
  obtain ⟨ht, hl, hm, he, hr⟩ := QD (F := _) h; have hl : (0 : Int) ≤ N := hl; have hm : N ≤ 0 := hm; obtain rfl : N = 0 := by omega
  rw [Zp ht]
  match ks, he, hr with
  | l, he, hr =>
    have hr : (l.map G.K).all (Q19) = true := hr; exact .prog (fun k hk => isD_of (List.all_eq_true.1 hr _ (List.mem_map_of_mem hk)))
theorem fm_2 {s : ByteArray} {N : Int} {ks : List G} (h : Qj 2 s N (ks.map G.K) = true) : Fm 2 s.toList N ks := by
  obtain ⟨ht, hl, hm, he, hr⟩ := QD (F := _) h; have hl : (0 : Int) ≤ N := hl; have hm : N ≤ 0 := hm; obtain rfl : N = 0 := by omega
  have n := JK ht
  match ks, he, hr with
  | [], he, _ =>
    exact .looper n
  | _ :: _, _, hr => exact absurd (show false = true from hr) (by decide)
theorem fm_3 {s : ByteArray} {N : Int} {ks : List G} (h : Qj 3 s N (ks.map G.K) = true) : Fm 3 s.toList N ks := by
  obtain ⟨ht, hl, hm, he, hr⟩ := QD (F := _) h; have hl : (0 : Int) ≤ N := hl; have hm : N ≤ 0 := hm; obtain rfl : N = 0 := by omega
  have n := JK ht
  match ks, he, hr with
  | l, he, hr =>
    have hr : (l.map G.K).all (Yc [4]) = true := hr; exact .cls n (fun k hk => YR (List.all_eq_true.1 hr _ (List.mem_map_of_mem hk)))
theorem fm_4 {s : ByteArray} {N : Int} {ks : List G} (h : Qj 4 s N (ks.map G.K) = true) : Fm 4 s.toList N ks := by
  obtain ⟨ht, hl, hm, he, hr⟩ := QD (F := _) h; have hl : (0 : Int) ≤ N := hl; have hm : N ≤ 0 := hm; obtain rfl : N = 0 := by omega
  have n := JK ht
  match ks, he, hr with
  | [a], he, _ =>
    have he : (Yc [5] a.K && true) = true := he; obtain ⟨p0, he⟩ := bt he; exact .mem n (YR p0)
  | [], he, _ => simp [QB] at he
  | a :: _ :: _, _, hr => exact absurd (show false = true from hr) (by decide)
theorem fm_5 {s : ByteArray} {N : Int} {ks : List G} (h : Qj 5 s N (ks.map G.K) = true) : Fm 5 s.toList N ks := by
  obtain ⟨ht, hl, hm, he, hr⟩ := QD (F := _) h; have hl : (0 : Int) ≤ N := hl; have hm : N ≤ 0 := hm; obtain rfl : N = 0 := by omega
  obtain ⟨w1, w2⟩ := Qdz ht
  match ks, he, hr with
  | [], he, _ =>
    exact .typ w1 w2
  | _ :: _, _, hr => exact absurd (show false = true from hr) (by decide)
theorem fm_6 {s : ByteArray} {N : Int} {ks : List G} (h : Qj 6 s N (ks.map G.K) = true) : Fm 6 s.toList N ks := by
  obtain ⟨ht, hl, hm, he, hr⟩ := QD (F := _) h; have hl : (0 : Int) ≤ N := hl; have hm : N ≤ 0 := hm; obtain rfl : N = 0 := by omega
  have n := JK ht
  match ks, he, hr with
  | [a], he, _ =>
    have he : (Yc [5] a.K && true) = true := he; obtain ⟨p0, he⟩ := bt he; exact .glob n (YR p0)
  | [], he, _ => simp [QB] at he
  | a :: _ :: _, _, hr => exact absurd (show false = true from hr) (by decide)
theorem fm_7 {s : ByteArray} {N : Int} {ks : List G} (h : Qj 7 s N (ks.map G.K) = true) : Fm 7 s.toList N ks := by
  obtain ⟨ht, hl, hm, he, hr⟩ := QD (F := _) h; have hl : (0 : Int) ≤ N := hl; have hm : N ≤ 0 := hm; obtain rfl : N = 0 := by omega
  have n := JK ht
  match ks, he, hr with
  | [a], he, _ =>
    have he : (Yc [12] a.K && true) = true := he; obtain ⟨p0, he⟩ := bt he; exact .func n (YR p0)
  | [], he, _ => simp [QB] at he
  | a :: _ :: _, _, hr => exact absurd (show false = true from hr) (by decide)
theorem fm_8 {s : ByteArray} {N : Int} {ks : List G} (h : Qj 8 s N (ks.map G.K) = true) : Fm 8 s.toList N ks := by
  obtain ⟨ht, hl, hm, he, hr⟩ := QD (F := _) h; have hl : (0 : Int) ≤ N := hl; have hm : N ≤ 0 := hm; obtain rfl : N = 0 := by omega
  have n := JK ht
  match ks, he, hr with
  | a :: l, he, hr =>
    have he : (Yc [29] a.K && true) = true := he; obtain ⟨p0, he⟩ := bt he; have hr : (l.map G.K).all (Yc [9]) = true := hr; exact .comp n (YR p0) (fun k hk => YR (List.all_eq_true.1 hr _ (List.mem_map_of_mem hk)))
  | [], he, _ => simp [QB] at he
theorem fm_9 {s : ByteArray} {N : Int} {ks : List G} (h : Qj 9 s N (ks.map G.K) = true) : Fm 9 s.toList N ks := by
  obtain ⟨ht, hl, hm, he, hr⟩ := QD (F := _) h; have hl : (0 : Int) ≤ N := hl; have hm : N ≤ 3 := hm; rw [Zp ht]
  match ks, he, hr with
  | [a], he, _ =>
    have he : (Yc [12] a.K && true) = true := he; obtain ⟨p0, he⟩ := bt he; exact .life ⟨hl, hm⟩ (YR p0)
  | [], he, _ => simp [QB] at he
  | a :: _ :: _, _, hr => exact absurd (show false = true from hr) (by decide)
theorem fm_10 {s : ByteArray} {N : Int} {ks : List G} (h : Qj 10 s N (ks.map G.K) = true) : Fm 10 s.toList N ks := by
  obtain ⟨ht, hl, hm, he, hr⟩ := QD (F := _) h; have hl : (0 : Int) ≤ N := hl; have hm : N ≤ 1 := hm; have n := JK ht
  match ks, he, hr with
  | [a, b], he, _ =>
    have he : (Yc [29] a.K && (Yc [12] b.K && true)) = true := he; obtain ⟨p0, he⟩ := bt he; obtain ⟨p1, he⟩ := bt he; exact .event n (by omega) (YR p0) (YR p1)
  | [], he, _ => simp [QB] at he
  | [a], he, _ => simp [QB] at he
  | a :: b :: _ :: _, _, hr => exact absurd (show false = true from hr) (by decide)
theorem fm_11 {s : ByteArray} {N : Int} {ks : List G} (h : Qj 11 s N (ks.map G.K) = true) : Fm 11 s.toList N ks := by
  obtain ⟨ht, hl, hm, he, hr⟩ := QD (F := _) h; have hl : (0 : Int) ≤ N := hl; have hm : N ≤ 0 := hm; obtain rfl : N = 0 := by omega
  rw [Zp ht]
  match ks, he, hr with
  | [a], he, _ =>
    have he : (Yc [12] a.K && true) = true := he; obtain ⟨p0, he⟩ := bt he; exact .main (YR p0)
  | [], he, _ => simp [QB] at he
  | a :: _ :: _, _, hr => exact absurd (show false = true from hr) (by decide)
theorem fm_12 {s : ByteArray} {N : Int} {ks : List G} (h : Qj 12 s N (ks.map G.K) = true) : Fm 12 s.toList N ks := by
  obtain ⟨ht, hl, hm, he, hr⟩ := QD (F := _) h; have hl : (0 : Int) ≤ N := hl; have hm : N ≤ 0 := hm; obtain rfl : N = 0 := by omega
  rw [Zp ht]
  match ks, he, hr with
  | l, he, hr =>
    have hr : (l.map G.K).all (Q24) = true := hr; exact .block (fun k hk => isS_of (List.all_eq_true.1 hr _ (List.mem_map_of_mem hk)))
theorem fm_13 {s : ByteArray} {N : Int} {ks : List G} (h : Qj 13 s N (ks.map G.K) = true) : Fm 13 s.toList N ks := by
  obtain ⟨ht, hl, hm, he, hr⟩ := QD (F := _) h; have hl : (0 : Int) ≤ N := hl; have hm : N ≤ 0 := hm; obtain rfl : N = 0 := by omega
  have n := JK ht
  match ks, he, hr with
  | [a, b], he, _ =>
    have he : (Yc [5] a.K && (Qw b.K && true)) = true := he; obtain ⟨p0, he⟩ := bt he; obtain ⟨p1, he⟩ := bt he; exact .var n (YR p0) (Y9 p1)
  | [], he, _ => simp [QB] at he
  | [a], he, _ => simp [QB] at he
  | a :: b :: _ :: _, _, hr => exact absurd (show false = true from hr) (by decide)
theorem fm_14 {s : ByteArray} {N : Int} {ks : List G} (h : Qj 14 s N (ks.map G.K) = true) : Fm 14 s.toList N ks := by
  obtain ⟨ht, hl, hm, he, hr⟩ := QD (F := _) h; have hl : (0 : Int) ≤ N := hl; have hm : N ≤ 0 := hm; obtain rfl : N = 0 := by omega
  rw [Zp ht]
  match ks, he, hr with
  | [a, b], he, _ =>
    have he : (Q4u a.K && (Qw b.K && true)) = true := he; obtain ⟨p0, he⟩ := bt he; obtain ⟨p1, he⟩ := bt he; exact .set (Qap p0) (Y9 p1)
  | [], he, _ => simp [QB] at he
  | [a], he, _ => simp [QB] at he
  | a :: b :: _ :: _, _, hr => exact absurd (show false = true from hr) (by decide)
theorem fm_15 {s : ByteArray} {N : Int} {ks : List G} (h : Qj 15 s N (ks.map G.K) = true) : Fm 15 s.toList N ks := by
  obtain ⟨ht, hl, hm, he, hr⟩ := QD (F := _) h; have hl : (0 : Int) ≤ N := hl; have hm : N ≤ 0 := hm; obtain rfl : N = 0 := by omega
  rw [Zp ht]
  match ks, he, hr with
  | [a], he, _ =>
    have he : (Qw a.K && true) = true := he; obtain ⟨p0, he⟩ := bt he; exact .word (by decide) (Y9 p0)
  | [], he, _ => simp [QB] at he
  | a :: _ :: _, _, hr => exact absurd (show false = true from hr) (by decide)
theorem fm_16 {s : ByteArray} {N : Int} {ks : List G} (h : Qj 16 s N (ks.map G.K) = true) : Fm 16 s.toList N ks := by
  obtain ⟨ht, hl, hm, he, hr⟩ := QD (F := _) h; have hl : (0 : Int) ≤ N := hl; have hm : N ≤ 0 := hm; obtain rfl : N = 0 := by omega
  rw [Zp ht]
  match ks, he, hr with
  | [a], he, _ =>
    have he : (Qw a.K && true) = true := he; obtain ⟨p0, he⟩ := bt he; exact .word (by decide) (Y9 p0)
  | [], he, _ => simp [QB] at he
  | a :: _ :: _, _, hr => exact absurd (show false = true from hr) (by decide)
theorem fm_17 {s : ByteArray} {N : Int} {ks : List G} (h : Qj 17 s N (ks.map G.K) = true) : Fm 17 s.toList N ks := by
  obtain ⟨ht, hl, hm, he, hr⟩ := QD (F := _) h; have hl : (0 : Int) ≤ N := hl; have hm : N ≤ 0 := hm; obtain rfl : N = 0 := by omega
  rw [Zp ht]
  match ks, he, hr with
  | [a], he, _ =>
    have he : (Qw a.K && true) = true := he; obtain ⟨p0, he⟩ := bt he; exact .word (by decide) (Y9 p0)
  | [], he, _ => simp [QB] at he
  | a :: _ :: _, _, hr => exact absurd (show false = true from hr) (by decide)
theorem fm_18 {s : ByteArray} {N : Int} {ks : List G} (h : Qj 18 s N (ks.map G.K) = true) : Fm 18 s.toList N ks := by
  obtain ⟨ht, hl, hm, he, hr⟩ := QD (F := _) h; have hl : (0 : Int) ≤ N := hl; have hm : N ≤ 0 := hm; obtain rfl : N = 0 := by omega
  rw [Zp ht]
  match ks, he, hr with
  | [a], he, _ =>
    have he : (Qw a.K && true) = true := he; obtain ⟨p0, he⟩ := bt he; exact .word (by decide) (Y9 p0)
  | [], he, _ => simp [QB] at he
  | a :: _ :: _, _, hr => exact absurd (show false = true from hr) (by decide)
theorem fm_19 {s : ByteArray} {N : Int} {ks : List G} (h : Qj 19 s N (ks.map G.K) = true) : Fm 19 s.toList N ks := by
  obtain ⟨ht, hl, hm, he, hr⟩ := QD (F := _) h; have hl : (-1 : Int) ≤ N := hl; have hm : N ≤ 2147483647 := hm; have n := JK ht
  match ks, he, hr with
  | [a], he, _ =>
    have he : (Qw a.K && true) = true := he; obtain ⟨p0, he⟩ := bt he; exact .post n ⟨hl, hm⟩ (Y9 p0)
  | [a, d], he, hr =>
    have he : (Qw a.K && true) = true := he; obtain ⟨p0, he⟩ := bt he; have hr : Q4u d.K = true := hr; exact .posto n ⟨hl, hm⟩ (Y9 p0) (Qap hr)
  | [], he, _ => simp [QB] at he
  | a :: _ :: _ :: _, _, hr => exact absurd (show false = true from hr) (by decide)
theorem fm_20 {s : ByteArray} {N : Int} {ks : List G} (h : Qj 20 s N (ks.map G.K) = true) : Fm 20 s.toList N ks := by
  obtain ⟨ht, hl, hm, he, hr⟩ := QD (F := _) h; have hl : (0 : Int) ≤ N := hl; have hm : N ≤ 0 := hm; obtain rfl : N = 0 := by omega
  rw [Zp ht]
  match ks, he, hr with
  | [a], he, _ =>
    have he : (Qw a.K && true) = true := he; obtain ⟨p0, he⟩ := bt he; exact .spawn (Y9 p0)
  | [a, d], he, hr =>
    have he : (Qw a.K && true) = true := he; obtain ⟨p0, he⟩ := bt he; have hr : Q4u d.K = true := hr; exact .spawno (Y9 p0) (Qap hr)
  | [], he, _ => simp [QB] at he
  | a :: _ :: _ :: _, _, hr => exact absurd (show false = true from hr) (by decide)
theorem fm_21 {s : ByteArray} {N : Int} {ks : List G} (h : Qj 21 s N (ks.map G.K) = true) : Fm 21 s.toList N ks := by
  obtain ⟨ht, hl, hm, he, hr⟩ := QD (F := _) h; have hl : (0 : Int) ≤ N := hl; have hm : N ≤ 0 := hm; obtain rfl : N = 0 := by omega
  have n := JK ht
  match ks, he, hr with
  | [], he, _ =>
    exact .able (by decide) n
  | _ :: _, _, hr => exact absurd (show false = true from hr) (by decide)
theorem fm_22 {s : ByteArray} {N : Int} {ks : List G} (h : Qj 22 s N (ks.map G.K) = true) : Fm 22 s.toList N ks := by
  obtain ⟨ht, hl, hm, he, hr⟩ := QD (F := _) h; have hl : (0 : Int) ≤ N := hl; have hm : N ≤ 0 := hm; obtain rfl : N = 0 := by omega
  have n := JK ht
  match ks, he, hr with
  | [], he, _ =>
    exact .able (by decide) n
  | _ :: _, _, hr => exact absurd (show false = true from hr) (by decide)
theorem fm_23 {s : ByteArray} {N : Int} {ks : List G} (h : Qj 23 s N (ks.map G.K) = true) : Fm 23 s.toList N ks := by
  obtain ⟨ht, hl, hm, he, hr⟩ := QD (F := _) h; have hl : (0 : Int) ≤ N := hl; have hm : N ≤ 0 := hm; obtain rfl : N = 0 := by omega
  rw [Zp ht]
  match ks, he, hr with
  | [a, b, c], he, _ =>
    have he : (Qw a.K && (Yc [12] b.K && (Yc [12] c.K && true))) = true := he; obtain ⟨p0, he⟩ := bt he; obtain ⟨p1, he⟩ := bt he; obtain ⟨p2, he⟩ := bt he; exact .iff (Y9 p0) (YR p1) (YR p2)
  | [], he, _ => simp [QB] at he
  | [a], he, _ => simp [QB] at he
  | [a, b], he, _ => simp [QB] at he
  | a :: b :: c :: _ :: _, _, hr => exact absurd (show false = true from hr) (by decide)
theorem fm_24 {s : ByteArray} {N : Int} {ks : List G} (h : Qj 24 s N (ks.map G.K) = true) : Fm 24 s.toList N ks := by
  obtain ⟨ht, hl, hm, he, hr⟩ := QD (F := _) h; have hl : (0 : Int) ≤ N := hl; have hm : N ≤ 0 := hm; obtain rfl : N = 0 := by omega
  rw [Zp ht]
  match ks, he, hr with
  | [a, b], he, _ =>
    have he : (Qw a.K && (Yc [12] b.K && true)) = true := he; obtain ⟨p0, he⟩ := bt he; obtain ⟨p1, he⟩ := bt he; exact .whil (Y9 p0) (YR p1)
  | [], he, _ => simp [QB] at he
  | [a], he, _ => simp [QB] at he
  | a :: b :: _ :: _, _, hr => exact absurd (show false = true from hr) (by decide)
theorem fm_25 {s : ByteArray} {N : Int} {ks : List G} (h : Qj 25 s N (ks.map G.K) = true) : Fm 25 s.toList N ks := by
  obtain ⟨ht, hl, hm, he, hr⟩ := QD (F := _) h; have hl : (0 : Int) ≤ N := hl; have hm : N ≤ 0 := hm; obtain rfl : N = 0 := by omega
  rw [Zp ht]
  match ks, he, hr with
  | [], he, _ =>
    exact .ret 
  | _ :: _, _, hr => exact absurd (show false = true from hr) (by decide)
theorem fm_26 {s : ByteArray} {N : Int} {ks : List G} (h : Qj 26 s N (ks.map G.K) = true) : Fm 26 s.toList N ks := by
  obtain ⟨ht, hl, hm, he, hr⟩ := QD (F := _) h; have hl : (0 : Int) ≤ N := hl; have hm : N ≤ 2147483647 := hm; rw [Zp ht]
  match ks, he, hr with
  | [], he, _ =>
    exact .num ⟨hl, hm⟩
  | _ :: _, _, hr => exact absurd (show false = true from hr) (by decide)
theorem fm_27 {s : ByteArray} {N : Int} {ks : List G} (h : Qj 27 s N (ks.map G.K) = true) : Fm 27 s.toList N ks := by
  obtain ⟨ht, hl, hm, he, hr⟩ := QD (F := _) h; have hl : (0 : Int) ≤ N := hl; have hm : N ≤ 0 := hm; obtain rfl : N = 0 := by omega
  rw [Zp ht]
  match ks, he, hr with
  | [], he, _ =>
    exact .null 
  | _ :: _, _, hr => exact absurd (show false = true from hr) (by decide)
theorem fm_28 {s : ByteArray} {N : Int} {ks : List G} (h : Qj 28 s N (ks.map G.K) = true) : Fm 28 s.toList N ks := by
  obtain ⟨ht, hl, hm, he, hr⟩ := QD (F := _) h; have hl : (0 : Int) ≤ N := hl; have hm : N ≤ 0 := hm; obtain rfl : N = 0 := by omega
  rw [Zp ht]
  match ks, he, hr with
  | [], he, _ =>
    exact .it 
  | _ :: _, _, hr => exact absurd (show false = true from hr) (by decide)
theorem fm_29 {s : ByteArray} {N : Int} {ks : List G} (h : Qj 29 s N (ks.map G.K) = true) : Fm 29 s.toList N ks := by
  obtain ⟨ht, hl, hm, he, hr⟩ := QD (F := _) h; have hl : (0 : Int) ≤ N := hl; have hm : N ≤ 0 := hm; obtain rfl : N = 0 := by omega
  have n := JK ht
  match ks, he, hr with
  | [], he, _ =>
    exact .use n
  | _ :: _, _, hr => exact absurd (show false = true from hr) (by decide)
theorem fm_30 {s : ByteArray} {N : Int} {ks : List G} (h : Qj 30 s N (ks.map G.K) = true) : Fm 30 s.toList N ks := by
  obtain ⟨ht, hl, hm, he, hr⟩ := QD (F := _) h; have hl : (0 : Int) ≤ N := hl; have hm : N ≤ 0 := hm; obtain rfl : N = 0 := by omega
  have n := JK ht
  match ks, he, hr with
  | [a], he, _ =>
    have he : (Qw a.K && true) = true := he; obtain ⟨p0, he⟩ := bt he; exact .dot n (Y9 p0)
  | [], he, _ => simp [QB] at he
  | a :: _ :: _, _, hr => exact absurd (show false = true from hr) (by decide)
theorem fm_31 {s : ByteArray} {N : Int} {ks : List G} (h : Qj 31 s N (ks.map G.K) = true) : Fm 31 s.toList N ks := by
  obtain ⟨ht, hl, hm, he, hr⟩ := QD (F := _) h; have hl : (0 : Int) ≤ N := hl; have hm : N ≤ 0 := hm; obtain rfl : N = 0 := by omega
  rw [Zp ht]
  match ks, he, hr with
  | [a, b], he, _ =>
    have he : (Qw a.K && (Qw b.K && true)) = true := he; obtain ⟨p0, he⟩ := bt he; obtain ⟨p1, he⟩ := bt he; exact .ix (Y9 p0) (Y9 p1)
  | [], he, _ => simp [QB] at he
  | [a], he, _ => simp [QB] at he
  | a :: b :: _ :: _, _, hr => exact absurd (show false = true from hr) (by decide)
theorem fm_32 {s : ByteArray} {N : Int} {ks : List G} (h : Qj 32 s N (ks.map G.K) = true) : Fm 32 s.toList N ks := by
  obtain ⟨ht, hl, hm, he, hr⟩ := QD (F := _) h; have hl : (0 : Int) ≤ N := hl; have hm : N ≤ 0 := hm; obtain rfl : N = 0 := by omega
  have n := op_of ht
  match ks, he, hr with
  | [a, b], he, _ =>
    have he : (Qw a.K && (Qw b.K && true)) = true := he; obtain ⟨p0, he⟩ := bt he; obtain ⟨p1, he⟩ := bt he; exact .op n (Y9 p0) (Y9 p1)
  | [], he, _ => simp [QB] at he
  | [a], he, _ => simp [QB] at he
  | a :: b :: _ :: _, _, hr => exact absurd (show false = true from hr) (by decide)
theorem fm_33 {s : ByteArray} {N : Int} {ks : List G} (h : Qj 33 s N (ks.map G.K) = true) : Fm 33 s.toList N ks := by
  obtain ⟨ht, hl, hm, he, hr⟩ := QD (F := _) h; have hl : (0 : Int) ≤ N := hl; have hm : N ≤ 0 := hm; obtain rfl : N = 0 := by omega
  have n := JK ht
  match ks, he, hr with
  | [], he, _ =>
    exact .new n
  | _ :: _, _, hr => exact absurd (show false = true from hr) (by decide)
theorem fm_34 {s : ByteArray} {N : Int} {ks : List G} (h : Qj 34 s N (ks.map G.K) = true) : Fm 34 s.toList N ks := by
  obtain ⟨ht, hl, hm, he, hr⟩ := QD (F := _) h; have hl : (0 : Int) ≤ N := hl; have hm : N ≤ 0 := hm; obtain rfl : N = 0 := by omega
  rw [Zp ht]
  match ks, he, hr with
  | [a], he, _ =>
    have he : (Qw a.K && true) = true := he; obtain ⟨p0, he⟩ := bt he; exact .arr (by decide) (Y9 p0)
  | [], he, _ => simp [QB] at he
  | a :: _ :: _, _, hr => exact absurd (show false = true from hr) (by decide)
theorem fm_35 {s : ByteArray} {N : Int} {ks : List G} (h : Qj 35 s N (ks.map G.K) = true) : Fm 35 s.toList N ks := by
  obtain ⟨ht, hl, hm, he, hr⟩ := QD (F := _) h; have hl : (0 : Int) ≤ N := hl; have hm : N ≤ 0 := hm; obtain rfl : N = 0 := by omega
  rw [Zp ht]
  match ks, he, hr with
  | [a], he, _ =>
    have he : (Qw a.K && true) = true := he; obtain ⟨p0, he⟩ := bt he; exact .arr (by decide) (Y9 p0)
  | [], he, _ => simp [QB] at he
  | a :: _ :: _, _, hr => exact absurd (show false = true from hr) (by decide)
theorem fm_36 {s : ByteArray} {N : Int} {ks : List G} (h : Qj 36 s N (ks.map G.K) = true) : Fm 36 s.toList N ks := by
  obtain ⟨ht, hl, hm, he, hr⟩ := QD (F := _) h; have hl : (0 : Int) ≤ N := hl; have hm : N ≤ 0 := hm; obtain rfl : N = 0 := by omega
  rw [Zp ht]
  match ks, he, hr with
  | [a], he, _ =>
    have he : (Yc [12] a.K && true) = true := he; obtain ⟨p0, he⟩ := bt he; exact .fn (YR p0)
  | [], he, _ => simp [QB] at he
  | a :: _ :: _, _, hr => exact absurd (show false = true from hr) (by decide)
theorem QeE {K : Int} {s : ByteArray} {N : Int} {ks : List G} (h : Qj K s N (ks.map G.K) = true) : Fm K s.toList N ks := by
  have hK := QeD h; rcases hK with rfl | rfl | rfl | rfl | rfl | rfl | rfl | rfl | rfl | rfl | rfl | rfl | rfl | rfl | rfl | rfl | rfl | rfl | rfl | rfl | rfl | rfl | rfl | rfl | rfl | rfl | rfl | rfl | rfl | rfl | rfl | rfl | rfl | rfl | rfl | rfl
  · exact fm_1 h
  · exact fm_2 h
  · exact fm_3 h
  · exact fm_4 h
  · exact fm_5 h
  · exact fm_6 h
  · exact fm_7 h
  · exact fm_8 h
  · exact fm_9 h
  · exact fm_10 h
  · exact fm_11 h
  · exact fm_12 h
  · exact fm_13 h
  · exact fm_14 h
  · exact fm_19 h
  · exact fm_20 h
  · exact fm_21 h
  · exact fm_22 h
  · exact fm_23 h
  · exact fm_24 h
  · exact fm_25 h
  · exact fm_26 h
  · exact fm_27 h
  · exact fm_28 h
  · exact fm_29 h
  · exact fm_30 h
  · exact fm_31 h
  · exact fm_32 h
  · exact fm_33 h
  · exact fm_36 h
  · exact fm_15 h
  · exact fm_16 h
  · exact fm_17 h
  · exact fm_18 h
  · exact fm_34 h
  exact fm_35 h
end Go.Proofs.YtkidomfnmpnmaaaGreatDoor
namespace Go.Proofs.YtkidomfnmpnmaaaGreatDoor
open Go.X Go.Nam
def FmAt (T : List Tw) (i : Nat) : Prop := Ap.Fm ((vw T).K i) ((vw T).s i).toList ((vw T).N i) (((vw T).ks i).map fun k => Ap.G.mk ((vw T).K k) [] 0 [])
theorem Qag (T : List Tw) (l : List Int) : QP T l = (l.map fun k => Ap.G.mk ((vw T).K k) [] 0 []).map Ap.G.K := by
  rw [List.map_map]; unfold QP; refine List.map_congr_left fun k _ => ?_; show _ = (vw T).K k; show _ = match T[k.toNat]? with | some w => w.K | none => 0
  cases T[k.toNat]? <;> rfl
theorem Q5g {T : List Tw} {w : Tw} {nest : Int} {R : Nat → Nat → Prop} {rec : Nat → Int → Option Nat} (hr : ∀ a nest n, rec a nest = some n → R a n ∧ ∀ i, a ≤ i → i < n → FmAt T i) : ∀ (l : List Int) (i next n : Nat), Yz rec T w nest l i next = some n → kds R l next n ∧ ∀ i, next ≤ i → i < n → FmAt T i
  | [], _, next, n, h => by
    simp only [Yz, Option.some.injEq] at h; exact ⟨h, fun i h1 h2 => by omega⟩
  | k :: l, i, next, n, h => by
    simp only [Yz] at h
    split at h
    · rename_i hk
      split at h
      · split at h
        · rename_i q hq; obtain ⟨h1, h2⟩ := hr _ _ _ hq; obtain ⟨h3, h4⟩ := Q5g hr l _ _ _ h; refine ⟨⟨hk, q, h1, h3⟩, fun j h5 h6 => ?_⟩; by_cases h7 : j < q
          · exact h2 j h5 h7
          exact h4 j (by omega) h6
        cases h
      cases h
    cases h
theorem Q6W {T : List Tw} : ∀ (f a : Nat) (nest : Int) (n : Nat), ZL T f a nest = some n → sub (vw T) f a n ∧ ∀ i, a ≤ i → i < n → FmAt T i
  | 0, _, _, _, h => by simp [ZL] at h
  | f + 1, a, nest, n, h => by
    simp only [ZL] at h
    split at h
    · rename_i w hw; have hlt := (List.getElem?_eq_some_iff.1 hw).1
      have ew : (vw T).K a = w.K ∧ (vw T).s a = w.s ∧ (vw T).N a = w.N ∧ (vw T).ks a = w.kids := by
        simp only [vw, Int.toNat_natCast, hw]; exact ⟨trivial, trivial, trivial, trivial⟩
      split at h
      · cases h
      cases hq : Yz (ZL T f) T w nest w.kids 0 (a + 1) with
      | none => rw [hq] at h; cases h
      | some q =>
        rw [hq] at h; simp only [Qfr] at h
        split at h
        · rename_i hok; obtain rfl : q = n := by simpa using h
          obtain ⟨h1, h2⟩ := Q5g (Q6W f) _ _ _ _ hq; refine ⟨⟨hlt, by rw [ew.2.2.2]; exact h1⟩, fun i h3 h4 => ?_⟩; by_cases e : i = a
          · subst e; unfold FmAt; rw [ew.1, ew.2.1, ew.2.2.1, ew.2.2.2]; rw [Qag] at hok; exact QeE hok
          exact h2 i (by omega) h4
        cases h
    cases h
theorem Qf7 {K N : Int} {s : Ap.B} {ks : List Ap.G} (F : Ap.Fm K s N ks) (h : K = 9) : 0 ≤ N ∧ N ≤ 3 := by
  cases F <;> first | assumption | omega
theorem Q67 (s : ByteArray) : s.size = s.toList.length := by
  rw [ByteArray.toList_eq]; rfl
theorem may_v {T : List Tw} (h : Q43 T = true) (hT : T.length ≤ 1000) (hs : ∀ t, t ∈ T → t.s.toList.length ≤ 100) : MayV T := by
  simp only [Q43, Bool.and_eq_true, decide_eq_true_eq] at h; obtain ⟨⟨h1, h2⟩, h3⟩ := h; have hp : 0 < T.length := by omega
  cases hw : ZL T (T.length + 1) 0 0 with
  | none => rw [hw] at h3; simp [enc] at h3
  | some n =>
    rw [hw] at h3; obtain rfl : n = T.length := by simp only [enc] at h3; omega
    obtain ⟨h4, h5⟩ := Q6W _ _ _ _ hw
    have hK0 : (vw T).K 0 = 1 := by
      rw [Q48 hp] at h2; simp only [vw, show ((0 : Int)).toNat = 0 from rfl, List.getElem?_eq_getElem hp]; exact h2
    refine ⟨⟨fun i hi => h5 i (Nat.zero_le _) hi, fun i => ?_, hT⟩, ⟨_, h4⟩, ?_, fun i hi => ?_, hp⟩
    · show (match T[i.toNat]? with | some w => w.s | none => .empty : ByteArray).size ≤ 100; cases ht : T[i.toNat]? with
      | none => exact Nat.zero_le _
      | some w => show w.s.size ≤ 100; rw [Q67]; exact hs w (List.mem_of_getElem? ht)
    · rw [hK0]; decide
    by_cases hlt : i < T.length
    · exact Qf7 (h5 i (Nat.zero_le _) hlt) hi
    simp only [vw, Int.toNat_natCast, List.getElem?_eq_none (Nat.le_of_not_lt hlt)] at hi; cases hi
end Go.Proofs.YtkidomfnmpnmaaaGreatDoor
namespace Go.Proofs.YtkidomfnmpnmaaaGreatDoor
open Go.X Go.Nam
noncomputable def fs38 : Array Field := match nmE.und 38 with | some (.struct fs) => fs | _ => #[]
theorem und38 : nmE.und 38 = some (.struct fs38) := by kernel_rfl
theorem len38 : fs38.toList.length = 2 := by kernel_rfl
theorem row38 : fs38.toList = [fs38.toList[0]'(by rw [len38]; omega), fs38.toList[1]'(by rw [len38]; omega)] := by kernel_rfl
theorem eq38 {h : Hp} (a b c d : Int) : ZU nmE h #[iV a, iV b] #[iV c, iV d] fs38.toList = some (decide (a = c) && (decide (b = d) && true)) := by
  rw [row38]; exact Y0 (u := iV a) (w := iV c) (by kernel_rfl) (by kernel_rfl) (by kernel_rfl) (by kernel_rfl) (Y0 (u := iV b) (w := iV d) (by kernel_rfl) (by kernel_rfl) (by kernel_rfl) (by kernel_rfl) rfl)
theorem neq38 {h : Hp} {x x' : Operand} (a b c d : Int) : Q1T nmE h .neq 38 x x' (.agg #[iV a, iV b]) (.agg #[iV c, iV d]) = some (.bool (!(decide (a = c) && (decide (b = d) && true)))) := Q7S und38 (by kernel_rfl) (eq38 a b c d)
noncomputable def fs55 : Array Field := match nmE.und 55 with | some (.struct fs) => fs | _ => #[]
theorem und55 : nmE.und 55 = some (.struct fs55) := by kernel_rfl
theorem Qeq : fs55.toList.length = 3 := by kernel_rfl
theorem row55 : fs55.toList = [fs55.toList[0]'(by rw [Qeq]; omega), fs55.toList[1]'(by rw [Qeq]; omega), fs55.toList[2]'(by rw [Qeq]; omega)] := by kernel_rfl
theorem eq55 {h : Hp} (a b c d e f : Int) : ZU nmE h #[iV a, iV b, iV c] #[iV d, iV e, iV f] fs55.toList = some (decide (a = d) && (decide (b = e) && (decide (c = f) && true))) := by
  rw [row55]; exact Y0 (u := iV a) (w := iV d) (by kernel_rfl) (by kernel_rfl) (by kernel_rfl) (by kernel_rfl) (Y0 (u := iV b) (w := iV e) (by kernel_rfl) (by kernel_rfl) (by kernel_rfl) (by kernel_rfl) (Y0 (u := iV c) (w := iV f) (by kernel_rfl) (by kernel_rfl) (by kernel_rfl) (by kernel_rfl) rfl))
theorem neq55 {h : Hp} {x x' : Operand} (a b c d e f : Int) : Q1T nmE h .neq 55 x x' (.agg #[iV a, iV b, iV c]) (.agg #[iV d, iV e, iV f]) = some (.bool (!(decide (a = d) && (decide (b = e) && (decide (c = f) && true))))) := Q7S und55 (by kernel_rfl) (eq55 a b c d e f)
section
variable {h : Hp} {a b : Value} {xs : List Int}
theorem n27 (A : RowV h a (isV xs)) (B : RowV h b (isV xs)) (hl : xs.length ≤ 1000000) : CP nmE 27 [a, b] h (.bool true) := by
  obtain ⟨aa, ac, rfl⟩ := A.valM; obtain ⟨ba, bc, rfl⟩ := B.valM; refine Qf (fu := Tryz.f27) (by kernel_rfl) rfl ?_; refine Qd ?_; refine Q3 gn rfl rfl ?_; refine J0 ?_; refine Q4 gn rfl rfl ?_; refine QJ gn rfl rfl (by kernel_rfl) ?_; refine Q4 gn rfl rfl ?_; refine QJ gn rfl rfl (by kernel_rfl) ?_; refine Q2h gn rfl rfl rfl ?_; refine Q5 ?_; refine Qa rfl (fun hb => ?_) fun hb => ?_
  · skip
    refine Qd ?_; simp at hb
  refine Qe ?_; refine Qk ?_; refine Qd ?_; refine Q3 gn rfl rfl ?_; refine Q5 ?_; refine Qh ?_; refine Q1Y [(0, .slice aa xs.length ac), (1, .slice ba xs.length bc), (5, iV 0)] (by repeat (first | exact trivial | refine ⟨rfl, ?_⟩)) ?_; refine Q8V (fun k l hh => ∃ i : Nat, i ≤ xs.length ∧ k = xs.length - i ∧ hh = h ∧ l = [(0, .slice aa xs.length ac), (1, .slice ba xs.length bc), (5, iV i)]) (n := xs.length) ?_ fun k l hh hI => ?_
  · exact ⟨0, Nat.zero_le _, rfl, rfl, rfl⟩
  obtain ⟨i, hi, rfl, rfl, rfl⟩ := hI; refine Qk ?_; refine Qd ?_; refine Q4 gn rfl rfl ?_; refine Q4 gn rfl rfl ?_; refine QJ gn rfl rfl (by kernel_rfl) ?_; refine Zo gn rfl rfl rfl ?_; refine Q5 ?_; refine Qa rfl (fun hb => ?_) fun hb => ?_
  · skip
    refine Qe ?_; have hi : i < xs.length := by simp at hb; omega
    obtain ⟨b1, o1, c1, cs1, e1, m1, hv1, hg1, hlt1, hat1⟩ := A.atM (by omega); obtain ⟨b2, o2, c2, cs2, e2, m2, hv2, hg2, hlt2, hat2⟩ := B.atM (by omega); obtain rfl : aa = some ⟨b1, o1, none⟩ := by injection hv1
    obtain rfl : ba = some ⟨b2, o2, none⟩ := by injection hv2
    have k1 : cs1[o1 + Int.toNat (i : Int) * 1]? = some (iV xs[i]) := by rw [Int.toNat_natCast, Nat.mul_one]; exact hat1 i hi
    have k2 : cs2[o2 + Int.toNat (i : Int) * 1]? = some (iV xs[i]) := by rw [Int.toNat_natCast, Nat.mul_one]; exact hat2 i hi
    refine Qk ?_; refine Qh ?_; refine Qk ?_; refine Z2 [(0, []), (1, []), (2, []), (3, []), (4, []), (5, []), (6, []), (7, []), (8, [])] (by kernel_rfl) (by kernel_rfl) (by kernel_rfl) (by kernel_rfl) ?_; refine Q4 gn rfl rfl ?_; refine Q4 gn rfl rfl ?_; refine Q8 (zz := 1) gn rfl rfl rfl (by kernel_rfl) (by omega) (by omega) ?_; refine Q6 gn rfl rfl (by kernel_rfl) hg1 k1 ?_; refine Q4 gn rfl rfl ?_; refine Q4 gn rfl rfl ?_; refine Q8 (zz := 1) gn rfl rfl rfl (by kernel_rfl) (by omega) (by omega) ?_; refine Q6 gn rfl rfl (by kernel_rfl) hg2 k2 ?_; refine Q2h gn rfl rfl rfl ?_; refine Q5 ?_; refine Qa rfl (fun hb => ?_) fun hb => ?_
    · skip
      refine Qd ?_; simp at hb
    refine Qe ?_; refine Q7 (by kernel_rfl) ?_; refine Q4 gn rfl rfl ?_; refine QU gn rfl rfl rfl (by omega) (by omega) ?_; refine Q3 gn rfl rfl ?_; refine Q5 ?_; exact ⟨(xs.length - (i + 1)), by omega, _, (by repeat (first | exact trivial | refine ⟨rfl, ?_⟩)), ⟨i + 1, by omega, rfl, rfl, rfl⟩⟩
  refine Zb ?_; refine Qx ?_; refine Qz ?_; refine Za ?_; refine Qd ?_; refine Q3 gn rfl rfl ?_; refine Q5 ?_; refine Qc ?_; refine ⟨.inl rfl, _, rfl, ?_⟩; exact ⟨rfl, rfl⟩
theorem Q8P : ∀ (l : List (Int × Int × Int)) (rest : List Value) (i : Nat) (x : Int × Int × Int), l[i]? = some x → ((wrC l ++ rest).drop (i * 3)).take 3 = [iV x.1, iV x.2.1, iV x.2.2]
  | x :: l, rest, 0, x', h => by
    simp only [List.getElem?_cons_zero, Option.some.injEq] at h; subst h; rfl
  | x :: l, rest, i + 1, x', h => by
    have e : wrC (x :: l) ++ rest = iV x.1 :: iV x.2.1 :: iV x.2.2 :: (wrC l ++ rest) := rfl; rw [e, show (i + 1) * 3 = i * 3 + 1 + 1 + 1 by omega, List.drop_succ_cons, List.drop_succ_cons, List.drop_succ_cons]; exact Q8P l rest i x' (by simpa using h)
  | [], _, _, _, h => by simp at h
theorem n12 {ws : List (Int × Int × Int)} {bs cs : List Nat} (A : SlC 55 2 h a (wrC ws) ws.length bs) (B : SlC 55 2 h b (wrC ws) ws.length cs) (hl : ws.length ≤ 1000000) : CP nmE 12 [a, b] h (.bool true) := by
  obtain ⟨aa, ac, rfl⟩ := Y4 A; obtain ⟨ba, bc, rfl⟩ := Y4 B; refine Qf (fu := Tryz.f12) (by kernel_rfl) rfl ?_; refine Qd ?_; refine Q3 gn rfl rfl ?_; refine J0 ?_; refine Q4 gn rfl rfl ?_; refine QJ gn rfl rfl (by kernel_rfl) ?_; refine Q4 gn rfl rfl ?_; refine QJ gn rfl rfl (by kernel_rfl) ?_; refine Q2h gn rfl rfl rfl ?_; refine Q5 ?_; refine Qa rfl (fun hb => ?_) fun hb => ?_
  · skip
    refine Qd ?_; simp at hb
  refine Qe ?_; refine Qk ?_; refine Qd ?_; refine Q3 gn rfl rfl ?_; refine Q5 ?_; refine Qh ?_; refine Q1Y [(0, .slice aa ws.length ac), (1, .slice ba ws.length bc), (5, iV 0)] (by repeat (first | exact trivial | refine ⟨rfl, ?_⟩)) ?_; refine Q8V (fun k l hh => ∃ i : Nat, i ≤ ws.length ∧ k = ws.length - i ∧ hh = h ∧ l = [(0, .slice aa ws.length ac), (1, .slice ba ws.length bc), (5, iV i)]) (n := ws.length) ?_ fun k l hh hI => ?_
  · exact ⟨0, Nat.zero_le _, rfl, rfl, rfl⟩
  obtain ⟨i, hi, rfl, rfl, rfl⟩ := hI; refine Qk ?_; refine Qd ?_; refine Q4 gn rfl rfl ?_; refine Q4 gn rfl rfl ?_; refine QJ gn rfl rfl (by kernel_rfl) ?_; refine Zo gn rfl rfl rfl ?_; refine Q5 ?_; refine Qa rfl (fun hb => ?_) fun hb => ?_
  · skip
    refine Qe ?_; have hi : i < ws.length := by simp at hb; omega
    obtain ⟨b1, c1, hv1, hb1, hl1⟩ := Y3 A (by omega); obtain ⟨b2, c2, hv2, hb2, hl2⟩ := Y3 B (by omega); obtain ⟨rfl, rfl⟩ : aa = some ⟨b1, 0, none⟩ ∧ ac = c1 := by simp only [Value.slice.injEq, true_and] at hv1; exact hv1
    obtain ⟨rfl, rfl⟩ : ba = some ⟨b2, 0, none⟩ ∧ bc = c2 := by simp only [Value.slice.injEq, true_and] at hv2; exact hv2
    obtain ⟨r1, m1, hg1⟩ := YA A; obtain ⟨r2, m2, hg2⟩ := YA B; have k1 : ((wrC ws ++ r1).drop (0 + Int.toNat (i : Int) * 3)).take 3 = [iV ws[i].1, iV ws[i].2.1, iV ws[i].2.2] := by rw [Int.toNat_natCast, Nat.zero_add]; exact Q8P _ _ _ _ (List.getElem?_eq_getElem hi)
    have k2 : ((wrC ws ++ r2).drop (0 + Int.toNat (i : Int) * 3)).take 3 = [iV ws[i].1, iV ws[i].2.1, iV ws[i].2.2] := by rw [Int.toNat_natCast, Nat.zero_add]; exact Q8P _ _ _ _ (List.getElem?_eq_getElem hi)
    refine Qk ?_; refine Qh ?_; refine Qk ?_; refine Z2 [(0, []), (1, []), (2, []), (3, []), (4, []), (5, []), (6, []), (7, []), (8, [])] (by kernel_rfl) (by kernel_rfl) (by kernel_rfl) (by kernel_rfl) ?_; refine Q4 gn rfl rfl ?_; refine Q4 gn rfl rfl ?_; refine Q8 (zz := 3) gn rfl rfl rfl (by kernel_rfl) (by omega) (by omega) ?_; refine Qs (n := 3) gn rfl rfl (by kernel_rfl) (by kernel_rfl) hg1 (by rw [List.length_append, hl1]; omega) ?_; rw [k1]; refine Q4 gn rfl rfl ?_; refine Q4 gn rfl rfl ?_; refine Q8 (zz := 3) gn rfl rfl rfl (by kernel_rfl) (by omega) (by omega) ?_; refine Qs (n := 3) gn rfl rfl (by kernel_rfl) (by kernel_rfl) hg2 (by rw [List.length_append, hl2]; omega) ?_; rw [k2]
    refine o_bin gn rfl rfl rfl (neq55 _ _ _ _ _ _) ?_; refine Q5 ?_; refine Qa rfl (fun hb => ?_) fun hb => ?_
    · skip
      refine Qd ?_; simp at hb
    refine Qe ?_; refine Q7 (by kernel_rfl) ?_; refine Q4 gn rfl rfl ?_; refine QU gn rfl rfl rfl (by omega) (by omega) ?_; refine Q3 gn rfl rfl ?_; refine Q5 ?_; exact ⟨(ws.length - (i + 1)), by omega, _, (by repeat (first | exact trivial | refine ⟨rfl, ?_⟩)), ⟨i + 1, by omega, rfl, rfl, rfl⟩⟩
  refine Zb ?_; refine Qx ?_; refine Qz ?_; refine Za ?_; refine Qd ?_; refine Q3 gn rfl rfl ?_; refine Q5 ?_; refine Qc ?_; refine ⟨.inl rfl, _, rfl, ?_⟩; exact ⟨rfl, rfl⟩
end
end Go.Proofs.YtkidomfnmpnmaaaGreatDoor
