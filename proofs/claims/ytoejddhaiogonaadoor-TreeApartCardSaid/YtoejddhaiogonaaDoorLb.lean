/- Chapter 2: trees, as they lie; the program's walk over one. Conditions: the table of blanks, for names. Chapter 2: may a tree be, as the program has it. Conditions: the table of blanks, for names. Chapter 2: the document's texts, numbers, letters of kinds. Conditions: texts shorter than 9223372036854775000 bytes. Chapter 2: the document's kids of a kind. Chapter 2: forms and letters say the same of a twig (plain; printed by genN1.py). Chapter 2: may a tree be, as the document has it. Conditions: none on memory. Chapter 2: are two trees the same: the program's and the document's. Conditions: at most 1000 twigs, a row of kids no longer than Go's rows are. Chapter 2: Same as the document has it; much; whose kid a twig is. Conditions: at most 1000 twigs, rows of kids no longer than Go's rows are. Chapter 2: much; whose kid a twig is: as the document has it, as the program has it. Conditions: at most 1000 twigs, rows of kids no longer than Go's rows are. -/
import Derived.Test.YtoejddhaiogonaaDoorLa
import Derived.Test.YtoejddhaiogonaaDoorXd
namespace Go.Proofs.YtoejddhaiogonaaDoor
open Go.X

/-- A twig. -/
structure Tw where
  K : Int
  s : ByteArray
  N : Int
  L : Int
  C : Int
  ks : Value
  kids : List Int
abbrev Tw.cells (w : Tw) : List Value := twC w.K w.s w.N w.L w.C w.ks
abbrev Tw.val (w : Tw) : Value := twV w.K w.s w.N w.L w.C w.ks
/-- A tree's twigs. -/
def TreeAt (h : Hp) (sv : Value) (T : List Tw) : Prop := ((T = [] ∧ ∃ a c, sv = .slice a 0 c) ∨ ∃ b o c cs e m, sv = .slice (some ⟨b, o, none⟩) T.length c ∧ h.get b = some (.cells cs e m) ∧ b < h.n ∧ o + T.length * 6 ≤ cs.length ∧ ∀ i (hi : i < T.length), (cs.drop (o + i * 6)).take 6 = T[i].cells) ∧ ∀ t, t ∈ T → RowV h t.ks (isV t.kids)
theorem TreeAt.ext {h h' : Hp} {sv : Value} {T : List Tw} (x : TreeAt h sv T) (g : Ext h h') : TreeAt h' sv T := by
  refine ⟨?_, fun t ht => (x.2 t ht).ext g⟩
  rcases x.1 with x | ⟨b, o, c, cs, e, m, h1, h2, h3, h4⟩
  · exact .inl x
  exact .inr ⟨b, o, c, cs, e, m, h1, (g.get b h3).trans h2, Nat.lt_of_lt_of_le h3 g.n, h4⟩
theorem TreeAt.val {h : Hp} {sv : Value} {T : List Tw} (x : TreeAt h sv T) : ∃ a c, sv = .slice a T.length c := by
  rcases x.1 with ⟨rfl, a, c, h1⟩ | ⟨b, o, c, cs, e, m, h1, _⟩
  · exact ⟨a, c, h1⟩
  exact ⟨_, c, h1⟩
theorem TreeAt.at {h : Hp} {sv : Value} {T : List Tw} (x : TreeAt h sv T) {i : Nat} (hi : i < T.length) : ∃ b o c cs e m, sv = .slice (some ⟨b, o, none⟩) T.length c ∧ h.get b = some (.cells cs e m) ∧ b < h.n ∧ o + T.length * 6 ≤ cs.length ∧ ∀ i (hi : i < T.length), (cs.drop (o + i * 6)).take 6 = T[i].cells := by
  rcases x.1 with ⟨rfl, _⟩ | x
  · simp at hi
  exact x
theorem RowV.same {h : Hp} {v : Value} {xs : List Value} (x : RowV h v xs) : sameV 19 v v = true := by
  obtain ⟨a, c, rfl⟩ := x.val
  cases a <;> simp [sameV]
theorem RowV.cellV {h : Hp} {v : Value} {xs : List Value} (x : RowV h v xs) : Go.X.cellV v = true := by
  obtain ⟨a, c, rfl⟩ := x.val
  rfl

/-- The kinds of some kids. -/
def kindsOf (T : List Tw) (l : List Int) : List Int := l.map fun k => ((T[k.toNat]?).map Tw.K).getD 0
def kidsW (rec : Nat → Int → Option Nat) (T : List Tw) (w : Tw) (nest : Int) : List Int → Nat → Nat → Option Nat
  | [], _, next => some next
  | k :: ks, i, next => if k = (next : Int) then (match T[next]? with
    | some kid => (match rec next (nest + deepK w.K w.s i kid.K kid.s) with
      | some n => kidsW rec T w nest ks (i + 1) n
      | none => none)
    | none => none) else none
def formOk (K : Int) (s : ByteArray) (N : Int) (kinds : List Int) : Bool := match formOf formT K with
  | some F => fitsF F s N kinds
  | none => false
def finW (ok : Bool) : Option Nat → Option Nat
  | some n => if ok = true then some n else none
  | none => none
theorem same1 (a : Option Addr) (n c : Nat) : sameV 20 (.agg #[.slice a n c]) (.agg #[.slice a n c]) = true := by
  cases a <;> simp [sameV, sameV.sameL]
/-- The number behind all that is below a twig. -/
def walkS (T : List Tw) : Nat → Nat → Int → Option Nat
  | 0, _, _ => none
  | f + 1, at', nest => match T[at']? with
    | some w => if 64 < nest then none else finW (formOk w.K w.s w.N (kindsOf T w.kids)) (kidsW (walkS T f) T w nest w.kids 0 (at' + 1))
    | none => none
def enc (o : Option Nat) : Int := match o with
  | some n => n
  | none => -1

theorem kidsW_lt {rec : Nat → Int → Option Nat} {T : List Tw} {w : Tw} {nest : Int} (hr : ∀ at' nest n, rec at' nest = some n → at' < n ∧ n ≤ T.length) : ∀ {l : List Int} {i next n : Nat}, next ≤ T.length → kidsW rec T w nest l i next = some n → next ≤ n ∧ n ≤ T.length
  | [], _, next, n, hn, e => by simp [kidsW] at e; omega
  | k :: l, i, next, n, hn, e => by
    simp only [kidsW] at e
    split at e
    · split at e
      · split at e
        · rename_i q hq
          have := hr _ _ _ hq
          have := kidsW_lt hr (by omega) e
          omega
        cases e
      cases e
    cases e
theorem walkS_lt {T : List Tw} : ∀ {f at' : Nat} {nest : Int} {n : Nat}, walkS T f at' nest = some n → at' < n ∧ n ≤ T.length
  | 0, _, _, _, e => by simp [walkS] at e
  | f + 1, at', nest, n, e => by
    simp only [walkS] at e
    split at e
    · rename_i w hw
      have hlt := (List.getElem?_eq_some_iff.1 hw).1
      split at e
      · cases e
      cases hq : kidsW (walkS T f) T w nest w.kids 0 (at' + 1) with
      | none => rw [hq] at e; cases e
      | some q =>
        rw [hq] at e
        simp only [finW] at e
        split at e
        · cases e
          have := kidsW_lt (fun _ _ _ h => walkS_lt (f := f) h) (by omega) hq
          omega
        cases e
    cases e

theorem b2i_le (b : Bool) : 0 ≤ b2i b ∧ b2i b ≤ 1 := by cases b <;> simp [b2i]
theorem deepK_le (K : Int) (s : ByteArray) (i K' : Int) (s' : ByteArray) : 0 ≤ deepK K s i K' s' ∧ deepK K s i K' s' ≤ 4 := by
  unfold deepK
  have := b2i_le (decide (K' = 12)); have := b2i_le (parenK K s i K' s'); have := b2i_le (decide (K = 31) && decide (i = 1)); have := b2i_le (decide (K = 34) || decide (K = 35))
  omega
theorem walkS_out {T : List Tw} {f at' : Nat} {nest : Int} (h : (decide ((T.length : Int) ≤ at') || decide (64 < nest)) = true) : walkS T (f + 1) at' nest = none := by
  simp only [Bool.or_eq_true, decide_eq_true_eq] at h
  simp only [walkS]
  rcases h with h | h
  · rw [List.getElem?_eq_none (by omega)]
  cases T[at']? with
  | none => rfl
  | some w => simp [h]
theorem kidsW_bad {rec : Nat → Int → Option Nat} {T : List Tw} {w : Tw} {nest k : Int} {l : List Int} {i next : Nat} (h : (!decide (k = (next : Int)) || decide ((T.length : Int) ≤ k)) = true) : kidsW rec T w nest (k :: l) i next = none := by
  simp only [kidsW]
  split
  · rename_i e
    subst e
    simp at h
    rw [List.getElem?_eq_none (by omega)]
  rfl
theorem key43 : KeyT trE 43 27 62 (fun k : Int => Value.int .i64 k) := KeyT.int (by kernel_rfl) (by kernel_rfl)
theorem form_look {h : Hp} {M : MsK Int} {K : Int} (x : Fits2 h M formT) : ∃ ft a1 a2 k3 fm fo, (getK M K).getD (.agg #[.nilFunc, .int .i64 0, .int .i64 0, .slice none 0 0, .nilFunc, .nilFunc]) = .agg #[ft, iV a1, iV a2, k3, fm, fo] ∧ [ft, iV a1, iV a2, k3, fm, fo].all cellV = true ∧
    ((formOf formT K = none ∧ (getK M K).isSome = false) ∨ ∃ F, formOf formT K = some F ∧ (getK M K).isSome = true ∧ FormV h (.agg #[ft, iV a1, iV a2, k3, fm, fo]) F) := by
  have hx := Fits2.get (K := K) 0 x
  unfold getK
  cases hf : formOf formT K with
  | none =>
    rw [hf] at hx
    rw [hx]
    exact ⟨_, _, _, _, _, _, rfl, rfl, .inl ⟨rfl, rfl⟩⟩
  | some F =>
    rw [hf] at hx
    obtain ⟨v, h1, h2⟩ := hx
    rw [h1]
    have h3 := h2
    obtain ⟨ft, ks, fm, fo, rfl, x1, x2, x3, x4⟩ := h3
    refine ⟨ft, F.least, F.most, ks, fm, fo, rfl, ?_, .inr ⟨F, rfl, rfl, h2⟩⟩
    obtain ⟨ra, rfl⟩ := x2.val
    have e1 : cellV ft = true := by rcases x1.nf.1 with rfl | ⟨_, _, _, rfl⟩ <;> rfl
    have e2 : cellV fm = true := by rcases x3.nf.1 with rfl | ⟨_, _, _, rfl⟩ <;> rfl
    have e3 : cellV fo = true := by rcases x4.nf.1 with rfl | ⟨_, _, _, rfl⟩ <;> rfl
    simp [e1, e2, e3]
    exact ⟨rfl, rfl, rfl⟩

section
variable {h : Hp} {sv : Value} {T : List Tw} {r : Nat}

/-- walk -/
theorem c24 (B : Blk h) (X : TreeAt h sv T) (hT : T.length ≤ 1000) (hs : ∀ t, t ∈ T → t.s.toList.length ≤ 100) (hF : Forms h r) : ∀ (f : Nat) (at' : Nat) (nest : Int) (g : Hp), Ext h g → T.length - at' < f → at' ≤ 1000 → 0 ≤ nest → nest ≤ 1000 →
    C trE 24 [.agg #[sv], iV at', iV nest, .map (some r)] g fun v g' => v = iV (enc (walkS T f at' nest)) ∧ Ext g g' := by
  obtain ⟨ta, tc, rfl⟩ := X.val
  intro f
  induction f with
  | zero => intro at' nest g _ hf; omega
  | succ f ih =>
  intro at' nest h2 x2 hf hat0 hn0 hn1
  have B2 := B.ext x2
  have X2 := X.ext x2
  have F2 := hF.ext x2
  refine c_enter (fu := Tryd.f24) (by kernel_rfl) rfl ?_
  have S := SH.start h2
  refine w_seq ?_
  refine w_region (by kernel_rfl) ?_
  refine s_box S gn rfl rfl fun b1 g nb1 S => ?_
  refine o_assign gn rfl rfl ?_
  refine wl_end ?_
  refine w_seq ?_
  refine w_seq ?_
  refine w_region (by kernel_rfl) ?_
  refine o_move gn rfl rfl ?_
  refine o_fieldAddr (off := 0) gn rfl rfl (by kernel_rfl) ?_
  refine o_load gn rfl rfl (by kernel_rfl) (by first | exact S.cel 0 rfl | exact S.cel 1 rfl | exact S.cel 2 rfl | exact S.old0 hM lr) rfl ?_
  refine o_len gn rfl rfl (by kernel_rfl) ?_
  refine o_geq gn rfl rfl rfl ?_
  refine o_move gn rfl rfl ?_
  refine o_or (n := 2) rfl rfl rfl gn rfl (fun hb => by
      refine o_move (gy rfl rfl rfl hb) rfl rfl ?_
      refine o_gtr (gy rfl rfl rfl hb) rfl rfl rfl ?_
      exact wl_end ⟨rfl, rfl, 2, rfl, rfl⟩) ?_
  refine wl_end ?_
  refine w_cond rfl (fun hb => ?_) fun hb => ?_
  · skip
    refine w_seq ?_
    refine w_region (by kernel_rfl) ?_
    refine o_assign gn rfl rfl ?_
    refine wl_end ?_
    refine w_ret ?_
    refine ⟨.inl rfl, _, rfl, ?_⟩
    exact ⟨by rw [walkS_out hb]; rfl, S.e0⟩
  refine w_skip ?_
  obtain ⟨hlt, hne⟩ : at' < T.length ∧ ¬ 64 < nest := by
    simp only [Bool.or_eq_false_iff, decide_eq_false_iff_not] at hb
    exact ⟨by omega, hb.2⟩
  obtain ⟨b, o, c, cs, e, m, hv, hg, hlb, hl6, hat⟩ := X2.at hlt
  have hta : ta = some ⟨b, o, none⟩ := by injection hv
  have hw := hat at' hlt
  have hm := X2.2 _ (List.getElem_mem hlt)
  have hq : T[at']? = some T[at'] := List.getElem?_eq_getElem hlt
  have hsz := hs _ (List.getElem_mem hlt)
  generalize T[at'] = w at hw hm hq hsz
  obtain ⟨K, s, N, L, Co, ks, kids⟩ := w
  simp only at hm hsz
  obtain ⟨ka, kc, rfl⟩ := hm.valM
  have hw2 : (cs.drop (o + Int.toNat (at' : Int) * 6)).take 6 = [iV K, .string s, iV N, iV L, iV Co, .slice ka kids.length kc] := by rw [Int.toNat_natCast]; exact hw
  obtain ⟨R0, hR0⟩ : ∃ R, R = kidsW (walkS T f) T ⟨K, s, N, L, Co, .slice ka kids.length kc, kids⟩ nest kids 0 (at' + 1) := ⟨_, rfl⟩
  have hWalk : walkS T (f + 1) at' nest = finW (formOk K s N (kindsOf T kids)) R0 := by
    simp only [walkS, hq, if_neg hne, ← hR0]
  refine w_seq ?_
  refine w_region (by kernel_rfl) ?_
  refine o_fieldAddr (off := 0) gn rfl rfl (by kernel_rfl) ?_
  refine o_load gn rfl rfl (by kernel_rfl) (by first | exact S.cel 0 rfl | exact S.cel 1 rfl | exact S.cel 2 rfl | exact S.old0 hM lr) rfl ?_
  refine o_move gn rfl rfl ?_
  rw [hta]
  refine o_indexAddr (zz := 6) gn rfl rfl rfl (by kernel_rfl) (by omega) (by omega) ?_
  refine o_loadA (n := 6) gn rfl rfl (by kernel_rfl) (by kernel_rfl) (S.old0 hg hlb) (by rw [Int.toNat_natCast]; omega) ?_
  rw [hw2, ← hta]
  refine s_alloc (zv := .agg #[.int .i64 0, .string .empty, .int .i64 0, .int .i64 0, .int .i64 0, .slice none 0 0]) S gn rfl (by kernel_rfl) fun b2 g nb2 S => ?_
  refine s_storeA (n := 6) 0 S gn rfl rfl (by kernel_rfl) (by kernel_rfl) rfl rfl (by decide) rfl (fun g S => ag0) fun g S => ?_
  refine wl_end ?_
  refine w_seq ?_
  refine w_region (by kernel_rfl) ?_
  refine o_move gn rfl rfl ?_
  refine o_add gn rfl rfl rfl (by omega) (by omega) ?_
  refine o_assign gn rfl rfl ?_
  refine wl_end ?_
  refine w_seq ?_
  refine w_region (by kernel_rfl) ?_
  refine o_assign gn rfl rfl ?_
  refine wl_end ?_
  refine w_seq ?_
  refine w_seq ?_
  refine w_region (by kernel_rfl) ?_
  refine o_fieldAddr (off := 5) gn rfl rfl (by kernel_rfl) ?_
  refine o_load gn rfl rfl (by kernel_rfl) (by first | exact S.cel 0 rfl | exact S.cel 1 rfl | exact S.cel 2 rfl | exact S.cel 3 rfl | exact S.old0 hM lr) rfl ?_
  refine o_len gn rfl rfl (by kernel_rfl) ?_
  refine o_move gn rfl rfl ?_
  refine wl_end ?_
  refine w_block ?_
  refine w_loopS [(10, _), (11, _), (36, _)] [(2, _), (3, _), (4, _), (9, _), (34, _), (35, _)] (by repeat (first | exact trivial | refine ⟨rfl, ?_⟩)) (fun kk lv hh => ∃ (i next : Nat) (kv : Value) (bs : List Nat), lv = [(10, iV next), (11, kv), (36, iV i)] ∧ kk = kids.length - i ∧ i ≤ kids.length ∧ SH h2 [] [slR 27 0 kv (isV (kindsOf T (kids.take i))) i bs, cR b2 (.cells (twC K s N L Co (.slice ka kids.length kc)) 30 0), cR b1 (.cells [.slice ta T.length tc] 24 0)] hh ∧ at' + 1 + i ≤ next ∧ next ≤ T.length ∧ kidsW (walkS T f) T ⟨K, s, N, L, Co, .slice ka kids.length kc, kids⟩ nest (kids.drop i) i next = R0) (n := (kids.length)) ?_ fun kk lv hh hI => ?_
  · exact ⟨0, at' + 1, .slice none 0 0, [], rfl, rfl, by omega, S.nilSl 27 0, by omega, by omega, by rw [List.drop_zero, hR0]⟩
  obtain ⟨i, next, kv, bs, rfl, hk, hi, S, hnx, hnl, hR⟩ := hI
  refine w_seq ?_
  refine w_region (by kernel_rfl) ?_
  refine o_lss gn rfl rfl rfl ?_
  refine wl_end ?_
  refine w_seq ?_
  refine w_cond rfl (fun hb => ?_) fun hb => ?_
  · skip
    refine w_skip ?_
    have hi : i < kids.length := by simp at hb; omega
    obtain ⟨kb, ko, kc', kcs, ke, km, hv2, hg2, hlt2, hat2⟩ := hm.atM (by omega)
    have hka : ka = some ⟨kb, ko, none⟩ := by injection hv2
    rw [List.drop_eq_getElem_cons hi] at hR
    refine w_seq ?_
    refine w_block ?_
    refine w_seq ?_
    refine w_region (by kernel_rfl) ?_
    refine o_move gn rfl rfl ?_
    rw [hka]
    refine o_indexAddr (zz := 1) gn rfl rfl rfl (by kernel_rfl) (by omega) (by omega) ?_
    rw [← hka]
    refine o_load gn rfl rfl (by kernel_rfl) (S.old0 hg2 hlt2) (by rw [Int.toNat_natCast, Nat.mul_one]; exact hat2 i hi) ?_
    refine o_assign gn rfl rfl ?_
    refine o_assign gn rfl rfl ?_
    refine wl_end ?_
    refine w_seq ?_
    refine w_seq ?_
    refine w_region (by kernel_rfl) ?_
    refine o_move gn rfl rfl ?_
    refine o_move gn rfl rfl ?_
    refine o_nei gn rfl rfl rfl ?_
    refine o_move gn rfl rfl ?_
    refine o_or (n := 5) rfl rfl rfl gn rfl (fun hb => by
        refine o_move (gy rfl rfl rfl hb) rfl rfl ?_
        refine o_fieldAddr (off := 0) (gy rfl rfl rfl hb) rfl rfl (by kernel_rfl) ?_
        refine o_load (gy rfl rfl rfl hb) rfl rfl (by kernel_rfl) (by first | exact S.cel 0 rfl | exact S.cel 1 rfl | exact S.cel 2 rfl | exact S.cel 3 rfl | exact S.old0 hM lr) rfl ?_
        refine o_len (gy rfl rfl rfl hb) rfl rfl (by kernel_rfl) ?_
        refine o_geq (gy rfl rfl rfl hb) rfl rfl rfl ?_
        exact wl_end ⟨rfl, rfl, 5, rfl, rfl⟩) ?_
    refine wl_end ?_
    refine w_cond rfl (fun hb => ?_) fun hb => ?_
    · skip
      refine w_seq ?_
      refine w_region (by kernel_rfl) ?_
      refine o_assign gn rfl rfl ?_
      refine wl_end ?_
      refine w_ret ?_
      refine ⟨.inl rfl, _, rfl, ?_⟩
      exact ⟨by rw [hWalk, ← hR, kidsW_bad hb]; rfl, S.e0⟩
    refine w_skip ?_
    obtain ⟨hkn, hnl2⟩ : kids[i] = (next : Int) ∧ next < T.length := by
      simp at hb; omega
    rw [hkn]
    have hw3 := hat next hnl2
    have hm3 := X2.2 _ (List.getElem_mem hnl2)
    have hq3 : T[next]? = some T[next] := List.getElem?_eq_getElem hnl2
    generalize T[next] = w3 at hw3 hm3 hq3
    obtain ⟨K3, s3, N3, L3, C3, ks3, kids3⟩ := w3
    simp only at hm3
    obtain ⟨ka3, kc3, rfl⟩ := hm3.valM
    have hw4 : (cs.drop (o + Int.toNat (next : Int) * 6)).take 6 = [iV K3, .string s3, iV N3, iV L3, iV C3, .slice ka3 kids3.length kc3] := by rw [Int.toNat_natCast]; exact hw3
    have hdl := deepK_le K s i K3 s3
    rw [hkn] at hR
    simp only [kidsW, if_true, hq3] at hR
    refine w_seq ?_
    refine w_region (by kernel_rfl) ?_
    refine o_fieldAddr (off := 0) gn rfl rfl (by kernel_rfl) ?_
    refine o_load gn rfl rfl (by kernel_rfl) (by first | exact S.cel 0 rfl | exact S.cel 1 rfl | exact S.cel 2 rfl | exact S.cel 3 rfl | exact S.old0 hM lr) rfl ?_
    refine o_move gn rfl rfl ?_
    rw [hta]
    refine o_indexAddr (zz := 6) gn rfl rfl rfl (by kernel_rfl) (by omega) (by omega) ?_
    refine o_loadA (n := 6) gn rfl rfl (by kernel_rfl) (by kernel_rfl) (S.old0 hg hlb) (by rw [Int.toNat_natCast]; omega) ?_
    rw [hw4, ← hta]
    refine s_alloc (zv := .agg #[.int .i64 0, .string .empty, .int .i64 0, .int .i64 0, .int .i64 0, .slice none 0 0]) S gn rfl (by kernel_rfl) fun b3 g nb3 S => ?_
    refine s_storeA (n := 6) 0 S gn rfl rfl (by kernel_rfl) (by kernel_rfl) rfl rfl (by decide) rfl (fun g S => ag0) fun g S => ?_
    refine wl_end ?_
    refine w_seq ?_
    refine w_region (by kernel_rfl) ?_
    refine o_move gn rfl rfl ?_
    refine o_fieldAddr (off := 0) gn rfl rfl (by kernel_rfl) ?_
    refine o_load gn rfl rfl (by kernel_rfl) (by first | exact S.cel 0 rfl | exact S.cel 1 rfl | exact S.cel 2 rfl | exact S.cel 3 rfl | exact S.cel 4 rfl | exact S.old0 hM lr) rfl ?_
    refine s_buildSlice (cs := #[iV K3]) (e := 27) (z := 0) (zv := .int .i64 0) [(0, _)] S gn rfl (by kernel_rfl) (by kernel_rfl) (by kernel_rfl) (by kernel_rfl) rfl (by kernel_rfl) fun b4 g nb4 S => ?_
    refine s_append (e := 27) (z := 0) (by' := 7) 2 0 S el58 gn rfl rfl rfl rfl rfl rfl (by rfl) (by omega) (fun s' bs' g S => ag0) fun s' bs' g S => ?_
    refine o_assign gn rfl rfl ?_
    refine wl_end ?_
    refine w_seq ?_
    refine w_draw [(0, []), (1, []), (2, []), (3, []), (4, []), (5, []), (8, []), (6, [0]), (7, []), (9, []), (10, [])] (by kernel_rfl) (by kernel_rfl) (by kernel_rfl) (by kernel_rfl) ?_
    refine o_loadA (n := 1) gn rfl rfl (by kernel_rfl) (by kernel_rfl) (by first | exact S.cel 0 rfl | exact S.cel 1 rfl | exact S.cel 2 rfl | exact S.cel 3 rfl | exact S.cel 4 rfl | exact S.cel 5 rfl | exact S.old0 hM lr) (Nat.le_refl _) ?_
    refine o_move gn rfl rfl ?_
    refine o_move gn rfl rfl ?_
    refine o_loadA (n := 6) gn rfl rfl (by kernel_rfl) (by kernel_rfl) (by first | exact S.cel 0 rfl | exact S.cel 1 rfl | exact S.cel 2 rfl | exact S.cel 3 rfl | exact S.cel 4 rfl | exact S.cel 5 rfl | exact S.old0 hM lr) (Nat.le_refl _) ?_
    refine o_move gn rfl rfl ?_
    refine o_loadA (n := 6) gn rfl rfl (by kernel_rfl) (by kernel_rfl) (by first | exact S.cel 0 rfl | exact S.cel 1 rfl | exact S.cel 2 rfl | exact S.cel 3 rfl | exact S.cel 4 rfl | exact S.cel 5 rfl | exact S.old0 hM lr) (Nat.le_refl _) ?_
    refine o_move gn rfl rfl ?_
    refine o_call [_, _, _] gn rfl rfl (by kernel_rfl) rfl (C.mono (c33 (RowV.same hm) (RowV.same hm3) (by omega) (by omega)) ?_)
    rintro v g ⟨rfl, x⟩
    have S := S.grow x
    refine ⟨(ag1 (ag_loadA (n := 1) gn rfl (by kernel_rfl) (by kernel_rfl) (by first | exact S.cel 0 rfl | exact S.cel 1 rfl | exact S.cel 2 rfl | exact S.cel 3 rfl | exact S.cel 4 rfl | exact S.cel 5 rfl | exact S.old0 hM lr) (Nat.le_refl _) rfl (same1 _ _ _)) ag0), ?_⟩
    refine o_add gn rfl rfl rfl (by omega) (by omega) ?_
    refine o_call [_, _, _, _] gn rfl rfl (by kernel_rfl) rfl (C.mono (ih next (nest + deepK K s i K3 s3) _ (x2.trans S.e0) (by omega) (by omega) (by omega) (by omega)) ?_)
    rintro v g ⟨rfl, x⟩
    have S := S.grow x
    refine ⟨ag0, ?_⟩
    refine o_assign gn rfl rfl ?_
    refine wl_end ?_
    refine w_seq ?_
    refine w_region (by kernel_rfl) ?_
    refine o_move gn rfl rfl ?_
    refine o_lss gn rfl rfl rfl ?_
    refine wl_end ?_
    refine w_cond rfl (fun hb => ?_) fun hb => ?_
    · skip
      refine w_seq ?_
      refine w_region (by kernel_rfl) ?_
      refine o_assign gn rfl rfl ?_
      refine wl_end ?_
      refine w_ret ?_
      refine ⟨.inl rfl, _, rfl, ?_⟩
      exact ⟨by
        cases hx : walkS T f next (nest + deepK K s i K3 s3) with
        | none => rw [hx] at hR; rw [hWalk, ← hR]; rfl
        | some n => rw [hx] at hb; exact absurd (of_decide_eq_true hb) (show ¬ ((n : Int) < 0) by omega), S.e0⟩
    refine w_skip ?_
    obtain ⟨n3, hn3⟩ : ∃ n, walkS T f next (nest + deepK K s i K3 s3) = some n := by
      cases hx : walkS T f next (nest + deepK K s i K3 s3) with
      | none => rw [hx] at hb; exact absurd hb (by decide)
      | some n => exact ⟨n, rfl⟩
    have hn4 := walkS_lt hn3
    rw [hn3]
    rw [hn3] at hR
    have hkinds : isV (kindsOf T (kids.take (i + 1))) = isV (kindsOf T (kids.take i)) ++ [iV K3] := by
      rw [List.take_add_one, List.getElem?_eq_getElem hi, hkn]
      simp [kindsOf, hq3]
    refine w_region (by kernel_rfl) ?_
    refine o_add gn rfl rfl rfl (by omega) (by omega) ?_
    refine o_move gn rfl rfl ?_
    refine wl_end ?_
    exact rndS (kids.length - (i + 1)) (by omega) [(10, _), (11, _), (36, _)] (by repeat (first | exact trivial | refine ⟨rfl, ?_⟩)) ⟨i + 1, n3, s', bs', rfl, rfl, by omega, by rw [hkinds]; exact S.drop.drop, by omega, by omega, hR⟩
  refine w_exit ?_
  refine thn_exit ?_
  refine rnd_exit ?_
  refine blk_eq ?_
  refine w_seq ?_
  have hii : i = kids.length := by simp at hb; omega
  subst hii
  rw [List.drop_length] at hR
  have hR1 : R0 = some next := hR.symm
  rw [hR1] at hWalk
  obtain ⟨M, cl, hM, lr, hfit⟩ := F2
  obtain ⟨ft, a1, a2, k3, fm, fo, hu, hcv, hcase⟩ := form_look (K := K) hfit
  refine w_region (by kernel_rfl) ?_
  refine o_move gn rfl rfl ?_
  refine o_fieldAddr (off := 0) gn rfl rfl (by kernel_rfl) ?_
  refine o_load gn rfl rfl (by kernel_rfl) (by first | exact S.cel 0 rfl | exact S.cel 1 rfl | exact S.cel 2 rfl | exact S.cel 3 rfl | exact S.old0 hM lr) rfl ?_
  refine o_lookupOkK (zv := .agg #[.nilFunc, .int .i64 0, .int .i64 0, .slice none 0 0, .nilFunc, .nilFunc]) key43 gn rfl rfl rfl (by first | exact S.cel 0 rfl | exact S.cel 1 rfl | exact S.cel 2 rfl | exact S.cel 3 rfl | exact S.old0 hM lr) (by kernel_rfl) ?_
  rw [hu]
  refine o_move gn rfl rfl ?_
  refine o_extract gn rfl rfl rfl ?_
  refine o_extract gn rfl rfl rfl ?_
  refine s_alloc (zv := .agg #[.nilFunc, .int .i64 0, .int .i64 0, .slice none 0 0, .nilFunc, .nilFunc]) S gn rfl (by kernel_rfl) fun b5 g nb5 S => ?_
  refine s_storeA (n := 6) 0 S gn rfl rfl hcv (by kernel_rfl) rfl rfl (by decide) rfl (fun g S => ag0) fun g S => ?_
  refine o_assign gn rfl rfl ?_
  refine wl_end ?_
  refine w_seq ?_
  refine w_seq ?_
  refine w_region (by kernel_rfl) ?_
  refine o_move gn rfl rfl ?_
  refine o_not gn rfl rfl ?_
  refine o_move gn rfl rfl ?_
  refine wl_split (dc := 83) rfl (fun hb83 => ?_) fun hb83 => ?_
  · skip
    refine wl_skips (n := 5) (dc := 83) (w := false) rfl hb83 rfl ?_
    refine o_pickt gn rfl rfl hb83 rfl ?_
    refine wl_end ?_
    refine w_cond rfl (fun hb => ?_) fun hb => ?_
    · skip
      refine w_seq ?_
      refine w_region (by kernel_rfl) ?_
      refine o_assign gn rfl rfl ?_
      refine wl_end ?_
      refine w_ret ?_
      refine ⟨.inl rfl, _, rfl, ?_⟩
      refine ⟨?_, S.e0⟩
      rcases hcase with ⟨h1, h2⟩ | ⟨F, h1, h2, h3⟩
      · rw [hWalk, formOk, h1]; rfl
      rw [h2] at hb83; cases hb83
    exact absurd hb (by decide)
  obtain ⟨F, hfo, hfv⟩ : ∃ F, formOf formT K = some F ∧ FormV h2 (.agg #[ft, iV a1, iV a2, k3, fm, fo]) F := by
    rcases hcase with ⟨h1, h2⟩ | ⟨F, h1, h2, h3⟩
    · rw [h2] at hb83; cases hb83
    exact ⟨F, h1, h3⟩
  have hkl : (kindsOf T kids).length = kids.length := by simp [kindsOf]
  have hsl : SlC 27 0 g kv (isV (kindsOf T kids)) (kindsOf T kids).length bs := by
    have := S.sl 1 rfl; rw [List.take_length] at this; rw [hkl]; exact this
  refine o_loadA (n := 6) (gy rfl rfl rfl hb83) rfl rfl (by kernel_rfl) (by kernel_rfl) (by first | exact S.cel 0 rfl | exact S.cel 1 rfl | exact S.cel 2 rfl | exact S.cel 3 rfl | exact S.cel 4 rfl | exact S.old0 hM lr) (Nat.le_refl _) ?_
  refine o_loadA (n := 6) (gy rfl rfl rfl hb83) rfl rfl (by kernel_rfl) (by kernel_rfl) (by first | exact S.cel 0 rfl | exact S.cel 1 rfl | exact S.cel 2 rfl | exact S.cel 3 rfl | exact S.cel 4 rfl | exact S.old0 hM lr) (Nat.le_refl _) ?_
  refine o_move (gy rfl rfl rfl hb83) rfl rfl ?_
  refine o_call [_, _, _] (gy rfl rfl rfl hb83) rfl rfl (by kernel_rfl) rfl (C.mono (c34 (B2.ext S.e0) (by omega) (hfv.ext S.e0) hsl (by omega)) ?_)
  rintro v g ⟨rfl, x⟩
  have S := S.grow x
  refine ⟨ag0, ?_⟩
  refine o_not (gy rfl rfl rfl hb83) rfl rfl ?_
  refine o_pickf gn rfl rfl hb83 rfl ?_
  refine wl_end ?_
  refine w_cond rfl (fun hb => ?_) fun hb => ?_
  · skip
    refine w_seq ?_
    refine w_region (by kernel_rfl) ?_
    refine o_assign gn rfl rfl ?_
    refine wl_end ?_
    refine w_ret ?_
    refine ⟨.inl rfl, _, rfl, ?_⟩
    exact ⟨by rw [hWalk, formOk, hfo]; rw [Bool.not_eq_true'] at hb; simp only [hb]; rfl, S.e0⟩
  refine w_skip ?_
  refine w_seq ?_
  refine w_region (by kernel_rfl) ?_
  refine o_move gn rfl rfl ?_
  refine o_assign gn rfl rfl ?_
  refine wl_end ?_
  refine w_ret ?_
  refine ⟨.inl rfl, _, rfl, ?_⟩
  exact ⟨by rw [hWalk, formOk, hfo]; rw [Bool.not_eq_false'] at hb; simp only [hb]; rfl, S.e0⟩

end
end Go.Proofs.YtoejddhaiogonaaDoor

namespace Go.Proofs.YtoejddhaiogonaaDoor
open Go.X

theorem cut_at {cs r : List Value} {p z f : Nat} {v : Value} (h : (cs.drop p).take z = r) (hf : f < z) (hr : r[f]? = some v) : cs[p + f]? = some v := by
  rw [← List.getElem?_drop, ← List.getElem?_take_of_lt hf, h]; exact hr
def headK (T : List Tw) : Int := match T with
  | [] => 0
  | t :: _ => t.K
def mayS (T : List Tw) : Bool := decide (0 < (T.length : Int)) && decide (headK T = 1) && decide (enc (walkS T (T.length + 1) 0 0) = T.length)
theorem headK_at {T : List Tw} (h : 0 < T.length) : headK T = T[0].K := by
  cases T with
  | nil => simp at h
  | cons t T => rfl

section
variable {h : Hp} {sv : Value} {T : List Tw}

/-- May -/
theorem c10 (B : Blk h) (X : TreeAt h sv T) (hT : T.length ≤ 1000) (hs : ∀ t, t ∈ T → t.s.toList.length ≤ 100) : C trE 10 [.agg #[sv]] h fun v h' => v = .bool (mayS T) ∧ Ext h h' := by
  obtain ⟨ta, tc, rfl⟩ := X.val
  refine c_enter (fu := Tryd.f10) (by kernel_rfl) rfl ?_
  have S := SH.start h
  refine w_seq ?_
  refine w_region (by kernel_rfl) ?_
  refine s_box S gn rfl rfl fun b1 g nb1 S => ?_
  refine o_assign gn rfl rfl ?_
  refine wl_end ?_
  refine w_seq ?_
  refine w_draw [(0, []), (1, []), (2, []), (3, []), (4, []), (5, []), (6, []), (7, []), (8, []), (9, []), (10, []), (11, []), (12, []), (13, []), (16, []), (17, []), (18, []), (14, [13, 17, 18]), (15, [17, 18]), (19, []), (20, []), (21, [])] (by kernel_rfl) (by kernel_rfl) (by kernel_rfl) (by kernel_rfl) ?_
  refine o_fieldAddr (off := 0) gn rfl rfl (by kernel_rfl) ?_
  refine o_load gn rfl rfl (by kernel_rfl) (by exact S.cel 0 rfl) rfl ?_
  refine o_len gn rfl rfl (by kernel_rfl) ?_
  refine o_gtr gn rfl rfl rfl ?_
  refine o_move gn rfl rfl ?_
  refine o_and (B := decide (headK T = 1)) (n := 6) rfl rfl rfl gn rfl (fun hb => by
      refine o_fieldAddr (off := 0) (gy rfl rfl rfl hb) rfl rfl (by kernel_rfl) ?_
      refine o_load (gy rfl rfl rfl hb) rfl rfl (by kernel_rfl) (by exact S.cel 0 rfl) rfl ?_
      have hlt : 0 < T.length := by simpa using hb
      obtain ⟨b, o, c, cs, e, m, hv, hg, hlb, hl6, hat⟩ := X.at hlt
      have hta : ta = some ⟨b, o, none⟩ := by injection hv
      have hw : cs[o + 0 * 6 + 0]? = some (iV (headK T)) := by rw [headK_at hlt]; exact cut_at (hat 0 hlt) (by omega) rfl
      rw [hta]
      refine o_indexAddr (zz := 6) (gy rfl rfl rfl hb) rfl rfl rfl (by kernel_rfl) (by omega) (by omega) ?_
      refine o_fieldAddr (off := 0) (gy rfl rfl rfl hb) rfl rfl (by kernel_rfl) ?_
      refine o_load (gy rfl rfl rfl hb) rfl rfl (by kernel_rfl) (S.old0 hg hlb) hw ?_
      refine o_eqi (gy rfl rfl rfl hb) rfl rfl rfl ?_
      exact wl_end ⟨rfl, rfl, 6, rfl, rfl⟩) ?_
  refine o_move gn rfl rfl ?_
  refine wl_split (dc := 15) rfl (fun hb15 => ?_) fun hb15 => ?_
  · skip
    refine o_loadA (n := 1) (gy rfl rfl rfl hb15) rfl rfl (by kernel_rfl) (by kernel_rfl) (by exact S.cel 0 rfl) (Nat.le_refl _) ?_
    refine o_fieldAddr (off := 0) (gy rfl rfl rfl hb15) rfl rfl (by kernel_rfl) ?_
    refine o_load (gy rfl rfl rfl hb15) rfl rfl (by kernel_rfl) (by exact S.cel 0 rfl) rfl ?_
    refine o_len (gy rfl rfl rfl hb15) rfl rfl (by kernel_rfl) ?_
    refine s_fresh formsJ S (gy rfl rfl rfl hb15) rfl (by kernel_rfl) (by kernel_rfl) sm25 forms_v forms_l (fun _ => by kernel_rfl) (by decide) (fun n g nn S => (ag1 (ag_loadA (n := 1) (gy rfl rfl rfl hb15) rfl (by kernel_rfl) (by kernel_rfl) (by exact S.cel 29 rfl) (Nat.le_refl _) rfl (same1 _ _ _)) (ag1 (ag_load (gy rfl rfl rfl hb15) rfl (by kernel_rfl) (by exact S.cel 29 rfl) rfl rfl same_slice) (ag1 (ag_len (gy rfl rfl rfl hb15) rfl (by kernel_rfl) rfl) ag0)))) fun n2 g nn2 S => ?_
    have F := forms_at S
    refine o_call [_, _, _, _] (gy rfl rfl rfl hb15) rfl rfl (by kernel_rfl) rfl (C.mono (c24 (B.ext S.e0) (X.ext S.e0) hT hs F (T.length + 1) 0 0 _ (.refl _) (by omega) (by omega) (by omega) (by omega)) ?_)
    rintro v g ⟨rfl, x⟩
    have S := S.grow x
    refine ⟨(ag1 (ag_load (gy rfl rfl rfl hb15) rfl (by kernel_rfl) (by exact S.cel 29 rfl) rfl rfl same_slice) (ag1 (ag_len (gy rfl rfl rfl hb15) rfl (by kernel_rfl) rfl) ag0)), ?_⟩
    refine o_eqi (gy rfl rfl rfl hb15) rfl rfl rfl ?_
    refine o_pickt gn rfl rfl hb15 rfl ?_
    refine o_assign gn rfl rfl ?_
    refine wl_end ?_
    refine w_ret ?_
    refine ⟨.inl rfl, _, rfl, ?_⟩
    exact ⟨by rw [mayS, hb15, Bool.true_and]; rfl, S.e0⟩
  refine wl_skips (n := 7) (dc := 15) (w := true) rfl hb15 rfl ?_
  refine o_pickf gn rfl rfl hb15 rfl ?_
  refine o_assign gn rfl rfl ?_
  refine wl_end ?_
  refine w_ret ?_
  refine ⟨.inl rfl, _, rfl, ?_⟩
  exact ⟨by rw [mayS, hb15, Bool.false_and]; rfl, S.e0⟩

end
end Go.Proofs.YtoejddhaiogonaaDoor

namespace Go.Proofs.YtoejddhaiogonaaDoor
open Go.X

def numK (K N : Int) : Bool := if K = 9 then decide (0 ≤ N) && decide (N ≤ 3) else if K = 10 then decide (N = 0) || decide (N = 1) else if K = 19 then decide (-1 ≤ N) && decide (N ≤ 2147483647) else if K = 26 then decide (0 ≤ N) && decide (N ≤ 2147483647) else decide (N = 0)
def isKn (K : Int) (b : Int) : Bool := if b = 121 then decide (K = 5) else if b = 98 then decide (K = 12) else if b = 117 then decide (K = 29) else if b = 101 then termK K else if b = 118 then varK K else if b = 115 then stmtK K else if b = 100 then declK K else if b = 109 then decide (K = 4) else decide (K = 9)
def textK (K : Int) (s : ByteArray) : Bool := if K = 5 then typS s else if K = 32 then opS s else if K ∈ [2, 3, 4, 6, 7, 8, 10, 13, 19, 21, 22, 29, 30, 33] then nameS s else eqS s ⟨#[]⟩
def lettersK (K : Int) : ByteArray :=
  if K ∈ [1] then ⟨#[42, 100]⟩ else
  if K ∈ [3] then ⟨#[42, 109]⟩ else
  if K ∈ [4, 6] then ⟨#[121]⟩ else
  if K ∈ [7, 9, 11, 36] then ⟨#[98]⟩ else
  if K ∈ [8] then ⟨#[117, 42, 108]⟩ else
  if K ∈ [10] then ⟨#[117, 98]⟩ else
  if K ∈ [12] then ⟨#[42, 115]⟩ else
  if K ∈ [13] then ⟨#[121, 101]⟩ else
  if K ∈ [14] then ⟨#[118, 101]⟩ else
  if K ∈ [15, 16, 17, 18, 30, 34, 35] then ⟨#[101]⟩ else
  if K ∈ [19, 20] then ⟨#[101, 63, 118]⟩ else
  if K ∈ [23] then ⟨#[101, 98, 98]⟩ else
  if K ∈ [24] then ⟨#[101, 98]⟩ else
  if K ∈ [31, 32] then ⟨#[101, 101]⟩ else
  ⟨#[]⟩

section
variable {h : Hp} {s : ByteArray} {K N : Int} {b : UInt8}
/-- Variable -/
theorem c85 : CP trE 85 [iV K] h (.bool (varK K)) := by
  refine c_enter (fu := Tryd.f85) (by kernel_rfl) rfl ?_
  refine w_seq ?_
  refine w_region (by kernel_rfl) ?_
  refine o_assign gn rfl rfl ?_
  refine wl_end ?_
  refine w_seq ?_
  refine w_region (by kernel_rfl) ?_
  refine o_move gn rfl rfl ?_
  refine o_eqi gn rfl rfl rfl ?_
  refine o_move gn rfl rfl ?_
  refine o_or (n := 2) rfl rfl rfl gn rfl (fun hb => by
      refine o_move (gy rfl rfl rfl hb) rfl rfl ?_
      refine o_eqi (gy rfl rfl rfl hb) rfl rfl rfl ?_
      exact wl_end ⟨rfl, rfl, 2, rfl, rfl⟩) ?_
  refine o_move gn rfl rfl ?_
  refine o_or (n := 2) rfl rfl rfl gn rfl (fun hb => by
      refine o_move (gy rfl rfl rfl hb) rfl rfl ?_
      refine o_eqi (gy rfl rfl rfl hb) rfl rfl rfl ?_
      exact wl_end ⟨rfl, rfl, 2, rfl, rfl⟩) ?_
  refine o_assign gn rfl rfl ?_
  refine wl_end ?_
  refine w_ret ?_
  refine ⟨.inl rfl, _, rfl, ?_⟩
  exact ⟨congrArg Value.bool (by unfold varK; simp [Bool.or_assoc]), rfl⟩
/-- Declaration -/
theorem c86 : C trE 86 [iV K] h fun v h' => v = .bool (declK K) ∧ Ext h h' := by
  refine c_enter (fu := Tryd.f86) (by kernel_rfl) rfl ?_
  have S := SH.start h
  refine w_seq ?_
  refine w_region (by kernel_rfl) ?_
  refine o_assign gn rfl rfl ?_
  refine wl_end ?_
  refine w_seq ?_
  refine w_seq ?_
  refine w_region (by kernel_rfl) ?_
  refine o_move gn rfl rfl ?_
  refine wl_end ?_
  refine w_block ?_
  refine w_switch 3 [(2, 5), (3, 6), (6, 7), (7, 8), (8, 9), (10, 10), (11, 11)] [] (by kernel_rfl) rfl (by repeat (first | exact trivial | refine ⟨rfl, ?_⟩)) (by rfl) (fun hb => ?_) fun hb => ?_
  · skip
    refine w_seq ?_
    refine w_region (by kernel_rfl) ?_
    refine o_assign gn rfl rfl ?_
    refine wl_end ?_
    refine w_ret ?_
    refine ⟨.inl rfl, _, rfl, ?_⟩
    exact ⟨congrArg Value.bool (by unfold declK; simp_all), S.e0⟩
  refine w_skip ?_
  refine w_seq ?_
  refine w_region (by kernel_rfl) ?_
  refine o_assign gn rfl rfl ?_
  refine wl_end ?_
  refine w_ret ?_
  refine ⟨.inl rfl, _, rfl, ?_⟩
  exact ⟨congrArg Value.bool (by unfold declK; simp_all), S.e0⟩
/-- number -/
theorem c44 : C trE 44 [iV K, iV N] h fun v h' => v = .bool (numK K N) ∧ Ext h h' := by
  refine c_enter (fu := Tryd.f44) (by kernel_rfl) rfl ?_
  have S := SH.start h
  refine w_seq ?_
  refine w_region (by kernel_rfl) ?_
  refine o_assign gn rfl rfl ?_
  refine wl_end ?_
  refine w_seq ?_
  refine w_seq ?_
  refine w_region (by kernel_rfl) ?_
  refine o_move gn rfl rfl ?_
  refine wl_end ?_
  refine w_block ?_
  refine w_seq ?_
  refine w_region (by kernel_rfl) ?_
  refine o_eqi gn rfl rfl rfl ?_
  refine o_assign gn rfl rfl ?_
  refine wl_end ?_
  refine w_cond rfl (fun hb => ?_) fun hb => ?_
  · skip
    refine w_seq ?_
    refine w_region (by kernel_rfl) ?_
    refine o_move gn rfl rfl ?_
    refine o_geq gn rfl rfl rfl ?_
    refine o_move gn rfl rfl ?_
    refine o_and (n := 2) rfl rfl rfl gn rfl (fun hb => by
        refine o_move (gy rfl rfl rfl hb) rfl rfl ?_
        refine o_leq (gy rfl rfl rfl hb) rfl rfl rfl ?_
        exact wl_end ⟨rfl, rfl, 2, rfl, rfl⟩) ?_
    refine o_assign gn rfl rfl ?_
    refine wl_end ?_
    refine w_ret ?_
    refine ⟨.inl rfl, _, rfl, ?_⟩
    exact ⟨congrArg Value.bool (by unfold numK; simp_all), S.e0⟩
  refine w_seq ?_
  refine w_region (by kernel_rfl) ?_
  refine o_eqi gn rfl rfl rfl ?_
  refine o_assign gn rfl rfl ?_
  refine wl_end ?_
  refine w_cond rfl (fun hb => ?_) fun hb => ?_
  · skip
    refine w_seq ?_
    refine w_region (by kernel_rfl) ?_
    refine o_move gn rfl rfl ?_
    refine o_eqi gn rfl rfl rfl ?_
    refine o_move gn rfl rfl ?_
    refine o_or (n := 2) rfl rfl rfl gn rfl (fun hb => by
        refine o_move (gy rfl rfl rfl hb) rfl rfl ?_
        refine o_eqi (gy rfl rfl rfl hb) rfl rfl rfl ?_
        exact wl_end ⟨rfl, rfl, 2, rfl, rfl⟩) ?_
    refine o_assign gn rfl rfl ?_
    refine wl_end ?_
    refine w_ret ?_
    refine ⟨.inl rfl, _, rfl, ?_⟩
    exact ⟨congrArg Value.bool (by unfold numK; simp_all), S.e0⟩
  refine w_seq ?_
  refine w_region (by kernel_rfl) ?_
  refine o_eqi gn rfl rfl rfl ?_
  refine o_assign gn rfl rfl ?_
  refine wl_end ?_
  refine w_cond rfl (fun hb => ?_) fun hb => ?_
  · skip
    refine w_seq ?_
    refine w_region (by kernel_rfl) ?_
    refine o_move gn rfl rfl ?_
    refine o_geq gn rfl rfl rfl ?_
    refine o_move gn rfl rfl ?_
    refine o_and (n := 2) rfl rfl rfl gn rfl (fun hb => by
        refine o_move (gy rfl rfl rfl hb) rfl rfl ?_
        refine o_leq (gy rfl rfl rfl hb) rfl rfl rfl ?_
        exact wl_end ⟨rfl, rfl, 2, rfl, rfl⟩) ?_
    refine o_assign gn rfl rfl ?_
    refine wl_end ?_
    refine w_ret ?_
    refine ⟨.inl rfl, _, rfl, ?_⟩
    exact ⟨congrArg Value.bool (by unfold numK; simp_all), S.e0⟩
  refine w_seq ?_
  refine w_region (by kernel_rfl) ?_
  refine o_eqi gn rfl rfl rfl ?_
  refine o_assign gn rfl rfl ?_
  refine wl_end ?_
  refine w_cond rfl (fun hb => ?_) fun hb => ?_
  · skip
    refine w_seq ?_
    refine w_region (by kernel_rfl) ?_
    refine o_move gn rfl rfl ?_
    refine o_geq gn rfl rfl rfl ?_
    refine o_move gn rfl rfl ?_
    refine o_and (n := 2) rfl rfl rfl gn rfl (fun hb => by
        refine o_move (gy rfl rfl rfl hb) rfl rfl ?_
        refine o_leq (gy rfl rfl rfl hb) rfl rfl rfl ?_
        exact wl_end ⟨rfl, rfl, 2, rfl, rfl⟩) ?_
    refine o_assign gn rfl rfl ?_
    refine wl_end ?_
    refine w_ret ?_
    refine ⟨.inl rfl, _, rfl, ?_⟩
    exact ⟨congrArg Value.bool (by unfold numK; simp_all), S.e0⟩
  refine w_skip ?_
  refine w_seq ?_
  refine w_region (by kernel_rfl) ?_
  refine o_move gn rfl rfl ?_
  refine o_eqi gn rfl rfl rfl ?_
  refine o_assign gn rfl rfl ?_
  refine wl_end ?_
  refine w_ret ?_
  refine ⟨.inl rfl, _, rfl, ?_⟩
  exact ⟨congrArg Value.bool (by unfold numK; simp_all), S.e0⟩
/-- letters -/
theorem c67 : C trE 67 [iV K] h fun v h' => v = .string (lettersK K) ∧ Ext h h' := by
  refine c_enter (fu := Tryd.f67) (by kernel_rfl) rfl ?_
  have S := SH.start h
  refine w_seq ?_
  refine w_region (by kernel_rfl) ?_
  refine o_assign gn rfl rfl ?_
  refine wl_end ?_
  refine w_seq ?_
  refine w_seq ?_
  refine w_region (by kernel_rfl) ?_
  refine o_move gn rfl rfl ?_
  refine wl_end ?_
  refine w_block ?_
  refine w_seq ?_
  refine w_region (by kernel_rfl) ?_
  refine o_eqi gn rfl rfl rfl ?_
  refine o_assign gn rfl rfl ?_
  refine wl_end ?_
  refine w_cond rfl (fun hb => ?_) fun hb => ?_
  · skip
    refine w_seq ?_
    refine w_region (by kernel_rfl) ?_
    refine o_assign gn rfl rfl ?_
    refine wl_end ?_
    refine w_ret ?_
    refine ⟨.inl rfl, _, rfl, ?_⟩
    exact ⟨congrArg Value.string (by unfold lettersK; simp_all), S.e0⟩
  refine w_seq ?_
  refine w_region (by kernel_rfl) ?_
  refine o_eqi gn rfl rfl rfl ?_
  refine o_assign gn rfl rfl ?_
  refine wl_end ?_
  refine w_cond rfl (fun hb => ?_) fun hb => ?_
  · skip
    refine w_seq ?_
    refine w_region (by kernel_rfl) ?_
    refine o_assign gn rfl rfl ?_
    refine wl_end ?_
    refine w_ret ?_
    refine ⟨.inl rfl, _, rfl, ?_⟩
    exact ⟨congrArg Value.string (by unfold lettersK; simp_all), S.e0⟩
  refine w_switch 3 [(4, 9), (6, 10)] [(3, _)] (by kernel_rfl) rfl (by repeat (first | exact trivial | refine ⟨rfl, ?_⟩)) (by rfl) (fun hb => ?_) fun hb => ?_
  · skip
    refine w_seq ?_
    refine w_region (by kernel_rfl) ?_
    refine o_assign gn rfl rfl ?_
    refine wl_end ?_
    refine w_ret ?_
    refine ⟨.inl rfl, _, rfl, ?_⟩
    exact ⟨congrArg Value.string (by unfold lettersK; simp_all), S.e0⟩
  refine w_switch 3 [(7, 12), (9, 13), (11, 14), (36, 15)] [(3, _)] (by kernel_rfl) rfl (by repeat (first | exact trivial | refine ⟨rfl, ?_⟩)) (by rfl) (fun hb => ?_) fun hb => ?_
  · skip
    refine w_seq ?_
    refine w_region (by kernel_rfl) ?_
    refine o_assign gn rfl rfl ?_
    refine wl_end ?_
    refine w_ret ?_
    refine ⟨.inl rfl, _, rfl, ?_⟩
    exact ⟨congrArg Value.string (by unfold lettersK; simp_all), S.e0⟩
  refine w_seq ?_
  refine w_region (by kernel_rfl) ?_
  refine o_eqi gn rfl rfl rfl ?_
  refine o_assign gn rfl rfl ?_
  refine wl_end ?_
  refine w_cond rfl (fun hb => ?_) fun hb => ?_
  · skip
    refine w_seq ?_
    refine w_region (by kernel_rfl) ?_
    refine o_assign gn rfl rfl ?_
    refine wl_end ?_
    refine w_ret ?_
    refine ⟨.inl rfl, _, rfl, ?_⟩
    exact ⟨congrArg Value.string (by unfold lettersK; simp_all), S.e0⟩
  refine w_seq ?_
  refine w_region (by kernel_rfl) ?_
  refine o_eqi gn rfl rfl rfl ?_
  refine o_assign gn rfl rfl ?_
  refine wl_end ?_
  refine w_cond rfl (fun hb => ?_) fun hb => ?_
  · skip
    refine w_seq ?_
    refine w_region (by kernel_rfl) ?_
    refine o_assign gn rfl rfl ?_
    refine wl_end ?_
    refine w_ret ?_
    refine ⟨.inl rfl, _, rfl, ?_⟩
    exact ⟨congrArg Value.string (by unfold lettersK; simp_all), S.e0⟩
  refine w_seq ?_
  refine w_region (by kernel_rfl) ?_
  refine o_eqi gn rfl rfl rfl ?_
  refine o_assign gn rfl rfl ?_
  refine wl_end ?_
  refine w_cond rfl (fun hb => ?_) fun hb => ?_
  · skip
    refine w_seq ?_
    refine w_region (by kernel_rfl) ?_
    refine o_assign gn rfl rfl ?_
    refine wl_end ?_
    refine w_ret ?_
    refine ⟨.inl rfl, _, rfl, ?_⟩
    exact ⟨congrArg Value.string (by unfold lettersK; simp_all), S.e0⟩
  refine w_seq ?_
  refine w_region (by kernel_rfl) ?_
  refine o_eqi gn rfl rfl rfl ?_
  refine o_assign gn rfl rfl ?_
  refine wl_end ?_
  refine w_cond rfl (fun hb => ?_) fun hb => ?_
  · skip
    refine w_seq ?_
    refine w_region (by kernel_rfl) ?_
    refine o_assign gn rfl rfl ?_
    refine wl_end ?_
    refine w_ret ?_
    refine ⟨.inl rfl, _, rfl, ?_⟩
    exact ⟨congrArg Value.string (by unfold lettersK; simp_all), S.e0⟩
  refine w_seq ?_
  refine w_region (by kernel_rfl) ?_
  refine o_eqi gn rfl rfl rfl ?_
  refine o_assign gn rfl rfl ?_
  refine wl_end ?_
  refine w_cond rfl (fun hb => ?_) fun hb => ?_
  · skip
    refine w_seq ?_
    refine w_region (by kernel_rfl) ?_
    refine o_assign gn rfl rfl ?_
    refine wl_end ?_
    refine w_ret ?_
    refine ⟨.inl rfl, _, rfl, ?_⟩
    exact ⟨congrArg Value.string (by unfold lettersK; simp_all), S.e0⟩
  refine w_switch 3 [(15, 27), (16, 28), (17, 29), (18, 30), (30, 31), (34, 32), (35, 33)] [(3, _)] (by kernel_rfl) rfl (by repeat (first | exact trivial | refine ⟨rfl, ?_⟩)) (by rfl) (fun hb => ?_) fun hb => ?_
  · skip
    refine w_seq ?_
    refine w_region (by kernel_rfl) ?_
    refine o_assign gn rfl rfl ?_
    refine wl_end ?_
    refine w_ret ?_
    refine ⟨.inl rfl, _, rfl, ?_⟩
    exact ⟨congrArg Value.string (by unfold lettersK; simp_all), S.e0⟩
  refine w_switch 3 [(19, 35), (20, 36)] [(3, _)] (by kernel_rfl) rfl (by repeat (first | exact trivial | refine ⟨rfl, ?_⟩)) (by rfl) (fun hb => ?_) fun hb => ?_
  · skip
    refine w_seq ?_
    refine w_region (by kernel_rfl) ?_
    refine o_assign gn rfl rfl ?_
    refine wl_end ?_
    refine w_ret ?_
    refine ⟨.inl rfl, _, rfl, ?_⟩
    exact ⟨congrArg Value.string (by unfold lettersK; simp_all), S.e0⟩
  refine w_seq ?_
  refine w_region (by kernel_rfl) ?_
  refine o_eqi gn rfl rfl rfl ?_
  refine o_assign gn rfl rfl ?_
  refine wl_end ?_
  refine w_cond rfl (fun hb => ?_) fun hb => ?_
  · skip
    refine w_seq ?_
    refine w_region (by kernel_rfl) ?_
    refine o_assign gn rfl rfl ?_
    refine wl_end ?_
    refine w_ret ?_
    refine ⟨.inl rfl, _, rfl, ?_⟩
    exact ⟨congrArg Value.string (by unfold lettersK; simp_all), S.e0⟩
  refine w_seq ?_
  refine w_region (by kernel_rfl) ?_
  refine o_eqi gn rfl rfl rfl ?_
  refine o_assign gn rfl rfl ?_
  refine wl_end ?_
  refine w_cond rfl (fun hb => ?_) fun hb => ?_
  · skip
    refine w_seq ?_
    refine w_region (by kernel_rfl) ?_
    refine o_assign gn rfl rfl ?_
    refine wl_end ?_
    refine w_ret ?_
    refine ⟨.inl rfl, _, rfl, ?_⟩
    exact ⟨congrArg Value.string (by unfold lettersK; simp_all), S.e0⟩
  refine w_switch 3 [(31, 42), (32, 43)] [] (by kernel_rfl) rfl (by repeat (first | exact trivial | refine ⟨rfl, ?_⟩)) (by rfl) (fun hb => ?_) fun hb => ?_
  · skip
    refine w_seq ?_
    refine w_region (by kernel_rfl) ?_
    refine o_assign gn rfl rfl ?_
    refine wl_end ?_
    refine w_ret ?_
    refine ⟨.inl rfl, _, rfl, ?_⟩
    exact ⟨congrArg Value.string (by unfold lettersK; simp_all), S.e0⟩
  refine w_skip ?_
  refine w_seq ?_
  refine w_region (by kernel_rfl) ?_
  refine o_assign gn rfl rfl ?_
  refine wl_end ?_
  refine w_ret ?_
  refine ⟨.inl rfl, _, rfl, ?_⟩
  exact ⟨congrArg Value.string (by unfold lettersK; simp_all), S.e0⟩
/-- is -/
theorem c68 : C trE 68 [iV K, .int .u8 (b.toNat : Nat)] h fun v h' => v = .bool (isKn K (b.toNat : Nat)) ∧ Ext h h' := by
  refine c_enter (fu := Tryd.f68) (by kernel_rfl) rfl ?_
  have S := SH.start h
  refine w_seq ?_
  refine w_region (by kernel_rfl) ?_
  refine o_assign gn rfl rfl ?_
  refine wl_end ?_
  refine w_seq ?_
  refine w_seq ?_
  refine w_region (by kernel_rfl) ?_
  refine o_move gn rfl rfl ?_
  refine wl_end ?_
  refine w_block ?_
  refine w_seq ?_
  refine w_region (by kernel_rfl) ?_
  refine o_eqi gn rfl rfl rfl ?_
  refine o_assign gn rfl rfl ?_
  refine wl_end ?_
  refine w_cond rfl (fun hb => ?_) fun hb => ?_
  · skip
    refine w_seq ?_
    refine w_region (by kernel_rfl) ?_
    refine o_move gn rfl rfl ?_
    refine o_eqi gn rfl rfl rfl ?_
    refine o_assign gn rfl rfl ?_
    refine wl_end ?_
    refine w_ret ?_
    refine ⟨.inl rfl, _, rfl, ?_⟩
    exact ⟨congrArg Value.bool (by unfold isKn; simp_all), S.e0⟩
  refine w_seq ?_
  refine w_region (by kernel_rfl) ?_
  refine o_eqi gn rfl rfl rfl ?_
  refine o_assign gn rfl rfl ?_
  refine wl_end ?_
  refine w_cond rfl (fun hb => ?_) fun hb => ?_
  · skip
    refine w_seq ?_
    refine w_region (by kernel_rfl) ?_
    refine o_move gn rfl rfl ?_
    refine o_eqi gn rfl rfl rfl ?_
    refine o_assign gn rfl rfl ?_
    refine wl_end ?_
    refine w_ret ?_
    refine ⟨.inl rfl, _, rfl, ?_⟩
    exact ⟨congrArg Value.bool (by unfold isKn; simp_all), S.e0⟩
  refine w_seq ?_
  refine w_region (by kernel_rfl) ?_
  refine o_eqi gn rfl rfl rfl ?_
  refine o_assign gn rfl rfl ?_
  refine wl_end ?_
  refine w_cond rfl (fun hb => ?_) fun hb => ?_
  · skip
    refine w_seq ?_
    refine w_region (by kernel_rfl) ?_
    refine o_move gn rfl rfl ?_
    refine o_eqi gn rfl rfl rfl ?_
    refine o_assign gn rfl rfl ?_
    refine wl_end ?_
    refine w_ret ?_
    refine ⟨.inl rfl, _, rfl, ?_⟩
    exact ⟨congrArg Value.bool (by unfold isKn; simp_all), S.e0⟩
  refine w_seq ?_
  refine w_region (by kernel_rfl) ?_
  refine o_eqi gn rfl rfl rfl ?_
  refine o_assign gn rfl rfl ?_
  refine wl_end ?_
  refine w_cond rfl (fun hb => ?_) fun hb => ?_
  · skip
    refine w_seq ?_
    refine w_region (by kernel_rfl) ?_
    refine o_move gn rfl rfl ?_
    refine o_call [_] gn rfl rfl (by kernel_rfl) rfl (c_pure (c17) ⟨ag0, ?_⟩)
    refine o_assign gn rfl rfl ?_
    refine wl_end ?_
    refine w_ret ?_
    refine ⟨.inl rfl, _, rfl, ?_⟩
    exact ⟨congrArg Value.bool (by unfold isKn; simp_all), S.e0⟩
  refine w_seq ?_
  refine w_region (by kernel_rfl) ?_
  refine o_eqi gn rfl rfl rfl ?_
  refine o_assign gn rfl rfl ?_
  refine wl_end ?_
  refine w_cond rfl (fun hb => ?_) fun hb => ?_
  · skip
    refine w_seq ?_
    refine w_region (by kernel_rfl) ?_
    refine o_move gn rfl rfl ?_
    refine o_call [_] gn rfl rfl (by kernel_rfl) rfl (c_pure (c85) ⟨ag0, ?_⟩)
    refine o_assign gn rfl rfl ?_
    refine wl_end ?_
    refine w_ret ?_
    refine ⟨.inl rfl, _, rfl, ?_⟩
    exact ⟨congrArg Value.bool (by unfold isKn; simp_all), S.e0⟩
  refine w_seq ?_
  refine w_region (by kernel_rfl) ?_
  refine o_eqi gn rfl rfl rfl ?_
  refine o_assign gn rfl rfl ?_
  refine wl_end ?_
  refine w_cond rfl (fun hb => ?_) fun hb => ?_
  · skip
    refine w_seq ?_
    refine w_region (by kernel_rfl) ?_
    refine o_move gn rfl rfl ?_
    refine o_call [_] gn rfl rfl (by kernel_rfl) rfl (c_pure (c54) ⟨ag0, ?_⟩)
    refine o_assign gn rfl rfl ?_
    refine wl_end ?_
    refine w_ret ?_
    refine ⟨.inl rfl, _, rfl, ?_⟩
    exact ⟨congrArg Value.bool (by unfold isKn; simp_all), S.e0⟩
  refine w_seq ?_
  refine w_region (by kernel_rfl) ?_
  refine o_eqi gn rfl rfl rfl ?_
  refine o_assign gn rfl rfl ?_
  refine wl_end ?_
  refine w_cond rfl (fun hb => ?_) fun hb => ?_
  · skip
    refine w_seq ?_
    refine w_region (by kernel_rfl) ?_
    refine o_move gn rfl rfl ?_
    refine o_call [_] gn rfl rfl (by kernel_rfl) rfl (C.mono (c86) ?_)
    rintro v g ⟨rfl, x⟩
    have S := S.grow x
    refine ⟨ag0, ?_⟩
    refine o_assign gn rfl rfl ?_
    refine wl_end ?_
    refine w_ret ?_
    refine ⟨.inl rfl, _, rfl, ?_⟩
    exact ⟨congrArg Value.bool (by unfold isKn; simp_all), S.e0⟩
  refine w_seq ?_
  refine w_region (by kernel_rfl) ?_
  refine o_eqi gn rfl rfl rfl ?_
  refine o_assign gn rfl rfl ?_
  refine wl_end ?_
  refine w_cond rfl (fun hb => ?_) fun hb => ?_
  · skip
    refine w_seq ?_
    refine w_region (by kernel_rfl) ?_
    refine o_move gn rfl rfl ?_
    refine o_eqi gn rfl rfl rfl ?_
    refine o_assign gn rfl rfl ?_
    refine wl_end ?_
    refine w_ret ?_
    refine ⟨.inl rfl, _, rfl, ?_⟩
    exact ⟨congrArg Value.bool (by unfold isKn; simp_all), S.e0⟩
  refine w_skip ?_
  refine w_seq ?_
  refine w_region (by kernel_rfl) ?_
  refine o_move gn rfl rfl ?_
  refine o_eqi gn rfl rfl rfl ?_
  refine o_assign gn rfl rfl ?_
  refine wl_end ?_
  refine w_ret ?_
  refine ⟨.inl rfl, _, rfl, ?_⟩
  exact ⟨congrArg Value.bool (by unfold isKn; simp_all), S.e0⟩
/-- text -/
theorem c43 (hsz : s.toList.length < 9223372036854775000) : C trE 43 [iV K, .string s] h fun v h' => v = .bool (textK K s) ∧ Ext h h' := by
  refine c_enter (fu := Tryd.f43) (by kernel_rfl) rfl ?_
  have S := SH.start h
  refine w_seq ?_
  refine w_region (by kernel_rfl) ?_
  refine o_assign gn rfl rfl ?_
  refine wl_end ?_
  refine w_seq ?_
  refine w_seq ?_
  refine w_region (by kernel_rfl) ?_
  refine o_move gn rfl rfl ?_
  refine wl_end ?_
  refine w_block ?_
  refine w_seq ?_
  refine w_region (by kernel_rfl) ?_
  refine o_eqi gn rfl rfl rfl ?_
  refine o_assign gn rfl rfl ?_
  refine wl_end ?_
  refine w_cond rfl (fun hb => ?_) fun hb => ?_
  · skip
    refine w_seq ?_
    refine w_region (by kernel_rfl) ?_
    refine o_move gn rfl rfl ?_
    refine o_call [_] gn rfl rfl (by kernel_rfl) rfl (C.mono (c64 hsz) ?_)
    rintro v g ⟨rfl, x⟩
    have S := S.grow x
    refine ⟨ag0, ?_⟩
    refine o_assign gn rfl rfl ?_
    refine wl_end ?_
    refine w_ret ?_
    refine ⟨.inl rfl, _, rfl, ?_⟩
    exact ⟨congrArg Value.bool (by unfold textK; simp_all), S.e0⟩
  refine w_seq ?_
  refine w_region (by kernel_rfl) ?_
  refine o_eqi gn rfl rfl rfl ?_
  refine o_assign gn rfl rfl ?_
  refine wl_end ?_
  refine w_cond rfl (fun hb => ?_) fun hb => ?_
  · skip
    refine w_seq ?_
    refine w_region (by kernel_rfl) ?_
    refine o_move gn rfl rfl ?_
    refine o_call [_] gn rfl rfl (by kernel_rfl) rfl (c_pure (c15) ⟨ag0, ?_⟩)
    refine o_assign gn rfl rfl ?_
    refine wl_end ?_
    refine w_ret ?_
    refine ⟨.inl rfl, _, rfl, ?_⟩
    exact ⟨congrArg Value.bool (by unfold textK; simp_all), S.e0⟩
  refine w_switch 5 [(2, 15), (3, 16), (4, 17), (6, 18), (7, 19), (8, 20), (10, 21), (13, 22), (19, 23), (21, 24), (22, 25), (29, 26), (30, 27), (33, 28)] [(1, _)] (by kernel_rfl) rfl (by repeat (first | exact trivial | refine ⟨rfl, ?_⟩)) (by rfl) (fun hb => ?_) fun hb => ?_
  · skip
    refine w_seq ?_
    refine w_region (by kernel_rfl) ?_
    refine o_move gn rfl rfl ?_
    refine o_call [_] gn rfl rfl (by kernel_rfl) rfl (C.mono (c65 hsz) ?_)
    rintro v g ⟨rfl, x⟩
    have S := S.grow x
    refine ⟨ag0, ?_⟩
    refine o_assign gn rfl rfl ?_
    refine wl_end ?_
    refine w_ret ?_
    refine ⟨.inl rfl, _, rfl, ?_⟩
    exact ⟨congrArg Value.bool (by unfold textK; simp_all), S.e0⟩
  refine w_skip ?_
  refine w_seq ?_
  refine w_region (by kernel_rfl) ?_
  refine o_move gn rfl rfl ?_
  refine o_eqS gn rfl rfl rfl ?_
  refine o_assign gn rfl rfl ?_
  refine wl_end ?_
  refine w_ret ?_
  refine ⟨.inl rfl, _, rfl, ?_⟩
  exact ⟨congrArg Value.bool (by unfold textK; simp_all), S.e0⟩
end
end Go.Proofs.YtoejddhaiogonaaDoor

namespace Go.Proofs.YtoejddhaiogonaaDoor
open Go.X

def dropOne (c : UInt8) : List Int → List Int
  | [] => []
  | k :: l => if isKn k (c.toNat : Nat) = true then l else k :: l
def kidsL : List UInt8 → List Int → Bool
  | [], l => l.isEmpty
  | [a], l => match l with
    | k :: l => isKn k (a.toNat : Nat) && l.isEmpty
    | [] => false
  | a :: c :: r, l => if a.toNat = 42 then kidsL r (l.dropWhile fun k => isKn k (c.toNat : Nat)) else if a.toNat = 63 then kidsL r (dropOne c l) else match l with
    | k :: l => isKn k (a.toNat : Nat) && kidsL (c :: r) l
    | [] => false
def wfL : List UInt8 → Bool
  | [] => true
  | [a] => decide (a.toNat ≠ 42) && decide (a.toNat ≠ 63)
  | a :: c :: r => if a.toNat = 42 ∨ a.toNat = 63 then wfL r else wfL (c :: r)
theorem ite_all {P : ByteArray → Prop} {c : Prop} [Decidable c] {a b : ByteArray} (ha : P a) (hb : P b) : P (if c then a else b) := by split <;> assumption
theorem wf_letters (K : Int) : wfL (lettersK K).toList = true := by
  unfold lettersK
  repeat (refine ite_all (P := fun s => wfL s.toList = true) (by rw [ByteArray.toList_eq]; decide) ?_)
  rw [ByteArray.toList_eq]; decide
theorem letters_le (K : Int) : (lettersK K).toList.length ≤ 3 := by
  unfold lettersK
  repeat (refine ite_all (P := fun s => s.toList.length ≤ 3) (by rw [ByteArray.toList_eq]; decide) ?_)
  rw [ByteArray.toList_eq]; decide
theorem kids_plain {a : UInt8} {r : List UInt8} {k : Int} {l : List Int} (h1 : a.toNat ≠ 42) (h2 : a.toNat ≠ 63) : kidsL (a :: r) (k :: l) = (isKn k (a.toNat : Nat) && kidsL r l) := by
  cases r with
  | nil => simp [kidsL]
  | cons c r => simp [kidsL, h1, h2]
theorem kids_none {a : UInt8} {r : List UInt8} (h1 : a.toNat ≠ 42) (h2 : a.toNat ≠ 63) : kidsL (a :: r) [] = false := by
  cases r with
  | nil => simp [kidsL]
  | cons c r => simp [kidsL, h1, h2]
theorem kids_star {a c : UInt8} {r : List UInt8} {l : List Int} (h : a.toNat = 42) : kidsL (a :: c :: r) l = kidsL r (l.dropWhile fun k => isKn k (c.toNat : Nat)) := by simp [kidsL, h]
theorem kids_may {a c : UInt8} {r : List UInt8} {l : List Int} (h : a.toNat = 63) : kidsL (a :: c :: r) l = kidsL r (dropOne c l) := by simp [kidsL, h]
theorem wf_plain {a : UInt8} {r : List UInt8} (h1 : a.toNat ≠ 42) (h2 : a.toNat ≠ 63) (h : wfL (a :: r) = true) : wfL r = true := by
  cases r with
  | nil => rfl
  | cons c r => simpa [wfL, h1, h2] using h
theorem wf_two {a : UInt8} {r : List UInt8} (h1 : a.toNat = 42 ∨ a.toNat = 63) (h : wfL (a :: r) = true) : ∃ c r', r = c :: r' ∧ wfL r' = true := by
  cases r with
  | nil => simp [wfL] at h; omega
  | cons c r => exact ⟨c, r, rfl, by simpa [wfL, h1] using h⟩
theorem drop_b {s : ByteArray} {p : Nat} (h : p < s.toList.length) : s.toList.drop p = bAt s p :: s.toList.drop (p + 1) := by
  rw [List.drop_eq_getElem_cons h]
  congr 1
  simp [bAt, h]
/-- What a star or a mark stands ahead of. -/
theorem two_at {s : ByteArray} {p : Nat} (hp : p < s.toList.length) (h : (bAt s p).toNat = 42 ∨ (bAt s p).toNat = 63) (w : wfL (s.toList.drop p) = true) : p + 1 < s.toList.length ∧ wfL (s.toList.drop (p + 2)) = true ∧ s.toList.drop p = bAt s p :: bAt s (p + 1) :: s.toList.drop (p + 2) := by
  rw [drop_b hp] at w
  obtain ⟨c, r, e, w2⟩ := wf_two h w
  have h1 : p + 1 < s.toList.length := by
    have := congrArg List.length e
    simp at this; omega
  rw [drop_b h1] at e
  injection e with e1 e2
  exact ⟨h1, e2 ▸ w2, by rw [drop_b hp, drop_b h1]⟩

theorem empty_drop {l : List Int} {i : Nat} (h : i ≤ l.length) : decide ((i : Int) = l.length) = (l.drop i).isEmpty := by
  by_cases e : i = l.length
  · subst e; simp
  have h1 : ¬ (i : Int) = l.length := by omega
  rw [decide_eq_false h1, List.drop_eq_getElem_cons (by omega)]; rfl

section
variable {h : Hp} {K : Int} {v : Value} {kinds : List Int}

/-- kids -/
theorem c46 (R : RowV h v (isV kinds)) (hl : kinds.length < 1000000) : C trE 46 [iV K, v] h fun v h' => v = .bool (kidsL (lettersK K).toList kinds) ∧ Ext h h' := by
  obtain ⟨ka, kc, rfl⟩ := R.valM
  have hw0 := wf_letters K
  have hle := letters_le K
  refine c_enter (fu := Tryd.f46) (by kernel_rfl) rfl ?_
  have S := SH.start h
  refine w_seq ?_
  refine w_region (by kernel_rfl) ?_
  refine o_assign gn rfl rfl ?_
  refine wl_end ?_
  refine w_seq ?_
  refine w_region (by kernel_rfl) ?_
  refine o_move gn rfl rfl ?_
  refine o_call [_] gn rfl rfl (by kernel_rfl) rfl (C.mono (c67) ?_)
  rintro v g ⟨rfl, x⟩
  have S := S.grow x
  refine ⟨ag0, ?_⟩
  refine o_assign gn rfl rfl ?_
  refine wl_end ?_
  refine w_seq ?_
  generalize lettersK K = s at hw0 hle
  obtain ⟨R0, hR0⟩ : ∃ R0, R0 = kidsL s.toList kinds := ⟨_, rfl⟩
  refine w_region (by kernel_rfl) ?_
  refine o_assign gn rfl rfl ?_
  refine wl_end ?_
  refine w_seq ?_
  refine w_seq ?_
  refine w_region (by kernel_rfl) ?_
  refine o_assign gn rfl rfl ?_
  refine wl_end ?_
  refine w_block ?_
  refine w_loopS [(6, _), (7, _)] [(1, _), (5, _)] (by repeat (first | exact trivial | refine ⟨rfl, ?_⟩)) (fun kk lv hh => ∃ i p : Nat, lv = [(6, iV i), (7, iV p)] ∧ kk = s.toList.length - p ∧ i ≤ kinds.length ∧ p ≤ s.toList.length ∧ SH h [] [] hh ∧ wfL (s.toList.drop p) = true ∧ kidsL (s.toList.drop p) (kinds.drop i) = R0) (n := (s.toList.length)) ?_ fun kk lv hh hI => ?_
  · exact ⟨0, 0, rfl, rfl, by omega, by omega, S, hw0, hR0.symm⟩
  obtain ⟨i, p, rfl, hk, hi, hp0, S, hW, hR⟩ := hI
  refine w_seq ?_
  refine w_seq ?_
  refine w_region (by kernel_rfl) ?_
  refine o_move gn rfl rfl ?_
  refine o_move gn rfl rfl ?_
  refine o_lenstr gn rfl rfl (by kernel_rfl) ?_
  rw [size_len]
  refine o_lss gn rfl rfl rfl ?_
  refine wl_end ?_
  refine w_cond rfl (fun hb => ?_) fun hb => ?_
  · skip
    refine w_skip ?_
    have hp : p < s.toList.length := by simp at hb; omega
    refine w_seq ?_
    refine w_block ?_
    refine w_seq ?_
    refine w_region (by kernel_rfl) ?_
    refine o_move gn rfl rfl ?_
    refine o_move gn rfl rfl ?_
    refine o_indexS gn rfl rfl rfl (by kernel_rfl) (by omega) (bAt_get hp) ?_
    refine wl_end ?_
    refine w_block ?_
    refine w_seq ?_
    refine w_region (by kernel_rfl) ?_
    refine o_eqi gn rfl rfl rfl ?_
    refine o_assign gn rfl rfl ?_
    refine wl_end ?_
    refine w_cond rfl (fun hb => ?_) fun hb => ?_
    · skip
      refine w_seq ?_
      have hb1 : (bAt s p).toNat = 42 := by simp at hb; omega
      obtain ⟨hp1, hW2, hD⟩ := two_at hp (.inl hb1) hW
      rw [hD, kids_star hb1] at hR
      refine w_region (by kernel_rfl) ?_
      refine o_move gn rfl rfl ?_
      refine o_add gn rfl rfl rfl (by omega) (by omega) ?_
      refine o_assign gn rfl rfl ?_
      refine wl_end ?_
      refine w_block ?_
      refine w_loopS [(6, _)] [(1, _), (5, _), (7, _)] (by repeat (first | exact trivial | refine ⟨rfl, ?_⟩)) (fun kk lv hh => ∃ i : Nat, lv = [(6, iV i)] ∧ kk = kinds.length - i ∧ i ≤ kinds.length ∧ SH h [] [] hh ∧ kidsL (s.toList.drop (p + 2)) ((kinds.drop i).dropWhile fun k => isKn k ((bAt s (p + 1)).toNat : Nat)) = R0) (n := (kinds.length - i)) ?_ fun kk lv hh hI => ?_
      · exact ⟨i, rfl, rfl, by omega, S, hR⟩
      obtain ⟨i2, rfl, hk2, hi2, S, hR2⟩ := hI
      refine w_seq ?_
      refine w_seq ?_
      refine w_draw [(0, []), (1, []), (2, []), (3, []), (4, []), (5, []), (6, []), (7, []), (8, []), (9, []), (10, []), (11, []), (12, []), (13, [])] (by kernel_rfl) (by kernel_rfl) (by kernel_rfl) (by kernel_rfl) ?_
      refine o_move gn rfl rfl ?_
      refine o_move gn rfl rfl ?_
      refine o_len gn rfl rfl (by kernel_rfl) ?_
      refine o_lss gn rfl rfl rfl ?_
      refine o_move gn rfl rfl ?_
      refine wl_split (dc := 44) rfl (fun hb44 => ?_) fun hb44 => ?_
      · skip
        refine o_move (gy rfl rfl rfl hb44) rfl rfl ?_
        refine o_move (gy rfl rfl rfl hb44) rfl rfl ?_
        have hi3 : i2 < kinds.length := by simp at hb44; omega
        obtain ⟨kb, ko, kc', kcs, ke, km, hv2, hg2, hlt2, hat2⟩ := R.atM (by omega)
        have hka : ka = some ⟨kb, ko, none⟩ := by injection hv2
        rw [hka]
        refine o_indexAddr (zz := 1) (gy rfl rfl rfl hb44) rfl rfl rfl (by kernel_rfl) (by omega) (by omega) ?_
        rw [← hka]
        refine o_load (gy rfl rfl rfl hb44) rfl rfl (by kernel_rfl) (S.old0 hg2 hlt2) (by rw [Int.toNat_natCast, Nat.mul_one]; exact hat2 i2 hi3) ?_
        refine o_move (gy rfl rfl rfl hb44) rfl rfl ?_
        refine o_move (gy rfl rfl rfl hb44) rfl rfl ?_
        refine o_indexS (gy rfl rfl rfl hb44) rfl rfl rfl (by kernel_rfl) (by omega) (bAt_get hp1) ?_
        refine o_call [_, _] (gy rfl rfl rfl hb44) rfl rfl (by kernel_rfl) rfl (C.mono (c68 (b := bAt s (p + 1))) ?_)
        rintro v g ⟨rfl, x⟩
        have S := S.grow x
        refine ⟨ag0, ?_⟩
        refine o_pickt gn rfl rfl hb44 rfl ?_
        refine wl_end ?_
        refine w_cond rfl (fun hb => ?_) fun hb => ?_
        · skip
          refine w_skip ?_
          refine w_block ?_
          refine w_region (by kernel_rfl) ?_
          refine o_move gn rfl rfl ?_
          refine o_add gn rfl rfl rfl (by omega) (by omega) ?_
          refine o_assign gn rfl rfl ?_
          refine wl_end ?_
          refine blk_next ?_
          exact rndS (kinds.length - (i2 + 1)) (by omega) [(6, _)] (by repeat (first | exact trivial | refine ⟨rfl, ?_⟩)) ⟨i2 + 1, rfl, rfl, by omega, S, by
            rw [List.drop_eq_getElem_cons hi3] at hR2
            simp only [List.dropWhile_cons, hb, if_true] at hR2
            exact hR2⟩
        refine w_exit ?_
        refine thn_exit ?_
        refine rnd_exit ?_
        refine blk_eq ?_
        refine blk_next ?_
        refine w_region (by kernel_rfl) ?_
        refine o_move gn rfl rfl ?_
        refine o_add gn rfl rfl rfl (by omega) (by omega) ?_
        refine o_assign gn rfl rfl ?_
        refine wl_end ?_
        exact rndS (s.toList.length - (p + 2)) (by omega) [(6, _), (7, _)] (by repeat (first | exact trivial | refine ⟨rfl, ?_⟩)) ⟨i2, p + 2, rfl, rfl, by omega, by omega, S, hW2, by
          rw [List.drop_eq_getElem_cons hi3] at hR2 ⊢
          simp only [List.dropWhile_cons, hb, Bool.false_eq_true, if_false] at hR2
          exact hR2⟩
      refine wl_skips (n := 8) (dc := 44) (w := true) rfl hb44 rfl ?_
      refine o_pickf gn rfl rfl hb44 rfl ?_
      refine wl_end ?_
      refine w_cond rfl (fun hb => ?_) fun hb => ?_
      · skip
        exact absurd hb (by decide)
      refine w_exit ?_
      refine thn_exit ?_
      refine rnd_exit ?_
      refine blk_eq ?_
      refine blk_next ?_
      refine w_region (by kernel_rfl) ?_
      refine o_move gn rfl rfl ?_
      refine o_add gn rfl rfl rfl (by omega) (by omega) ?_
      refine o_assign gn rfl rfl ?_
      refine wl_end ?_
      exact rndS (s.toList.length - (p + 2)) (by omega) [(6, _), (7, _)] (by repeat (first | exact trivial | refine ⟨rfl, ?_⟩)) ⟨i2, p + 2, rfl, rfl, by omega, by omega, S, hW2, by
        have he : kinds.drop i2 = [] := List.drop_eq_nil_of_le (by simp at hb44; omega)
        rw [he] at hR2 ⊢; exact hR2⟩
    refine w_seq ?_
    have h42 : (bAt s p).toNat ≠ 42 := by simp at hb; omega
    refine w_region (by kernel_rfl) ?_
    refine o_eqi gn rfl rfl rfl ?_
    refine o_assign gn rfl rfl ?_
    refine wl_end ?_
    refine w_cond rfl (fun hb => ?_) fun hb => ?_
    · skip
      refine w_seq ?_
      have hb2 : (bAt s p).toNat = 63 := by simp at hb; omega
      obtain ⟨hp1, hW2, hD⟩ := two_at hp (.inr hb2) hW
      rw [hD, kids_may hb2] at hR
      refine w_region (by kernel_rfl) ?_
      refine o_move gn rfl rfl ?_
      refine o_add gn rfl rfl rfl (by omega) (by omega) ?_
      refine o_assign gn rfl rfl ?_
      refine wl_end ?_
      refine w_seq ?_
      refine w_draw [(0, []), (1, []), (2, []), (3, []), (4, []), (5, []), (6, []), (7, []), (8, []), (9, []), (10, []), (11, []), (12, []), (13, [])] (by kernel_rfl) (by kernel_rfl) (by kernel_rfl) (by kernel_rfl) ?_
      refine o_move gn rfl rfl ?_
      refine o_move gn rfl rfl ?_
      refine o_len gn rfl rfl (by kernel_rfl) ?_
      refine o_lss gn rfl rfl rfl ?_
      refine o_move gn rfl rfl ?_
      refine wl_split (dc := 64) rfl (fun hb64 => ?_) fun hb64 => ?_
      · skip
        refine o_move (gy rfl rfl rfl hb64) rfl rfl ?_
        refine o_move (gy rfl rfl rfl hb64) rfl rfl ?_
        have hi3 : i < kinds.length := by simp at hb64; omega
        obtain ⟨kb, ko, kc', kcs, ke, km, hv2, hg2, hlt2, hat2⟩ := R.atM (by omega)
        have hka : ka = some ⟨kb, ko, none⟩ := by injection hv2
        rw [hka]
        refine o_indexAddr (zz := 1) (gy rfl rfl rfl hb64) rfl rfl rfl (by kernel_rfl) (by omega) (by omega) ?_
        rw [← hka]
        refine o_load (gy rfl rfl rfl hb64) rfl rfl (by kernel_rfl) (S.old0 hg2 hlt2) (by rw [Int.toNat_natCast, Nat.mul_one]; exact hat2 i hi3) ?_
        refine o_move (gy rfl rfl rfl hb64) rfl rfl ?_
        refine o_move (gy rfl rfl rfl hb64) rfl rfl ?_
        refine o_indexS (gy rfl rfl rfl hb64) rfl rfl rfl (by kernel_rfl) (by omega) (bAt_get hp1) ?_
        refine o_call [_, _] (gy rfl rfl rfl hb64) rfl rfl (by kernel_rfl) rfl (C.mono (c68 (b := bAt s (p + 1))) ?_)
        rintro v g ⟨rfl, x⟩
        have S := S.grow x
        refine ⟨ag0, ?_⟩
        refine o_pickt gn rfl rfl hb64 rfl ?_
        refine wl_end ?_
        refine w_cond rfl (fun hb => ?_) fun hb => ?_
        · skip
          refine w_region (by kernel_rfl) ?_
          refine o_move gn rfl rfl ?_
          refine o_add gn rfl rfl rfl (by omega) (by omega) ?_
          refine o_assign gn rfl rfl ?_
          refine wl_end ?_
          refine blk_next ?_
          refine w_region (by kernel_rfl) ?_
          refine o_move gn rfl rfl ?_
          refine o_add gn rfl rfl rfl (by omega) (by omega) ?_
          refine o_assign gn rfl rfl ?_
          refine wl_end ?_
          exact rndS (s.toList.length - (p + 2)) (by omega) [(6, _), (7, _)] (by repeat (first | exact trivial | refine ⟨rfl, ?_⟩)) ⟨i + 1, p + 2, rfl, rfl, by omega, by omega, S, hW2, by
            rw [List.drop_eq_getElem_cons hi3] at hR; simpa [dropOne, hb] using hR⟩
        refine w_skip ?_
        refine blk_next ?_
        refine w_region (by kernel_rfl) ?_
        refine o_move gn rfl rfl ?_
        refine o_add gn rfl rfl rfl (by omega) (by omega) ?_
        refine o_assign gn rfl rfl ?_
        refine wl_end ?_
        exact rndS (s.toList.length - (p + 2)) (by omega) [(6, _), (7, _)] (by repeat (first | exact trivial | refine ⟨rfl, ?_⟩)) ⟨i, p + 2, rfl, rfl, by omega, by omega, S, hW2, by
          rw [List.drop_eq_getElem_cons hi3] at hR ⊢; simpa [dropOne, hb] using hR⟩
      refine wl_skips (n := 8) (dc := 64) (w := true) rfl hb64 rfl ?_
      refine o_pickf gn rfl rfl hb64 rfl ?_
      refine wl_end ?_
      refine w_cond rfl (fun hb => ?_) fun hb => ?_
      · skip
        exact absurd hb (by decide)
      refine w_skip ?_
      refine blk_next ?_
      refine w_region (by kernel_rfl) ?_
      refine o_move gn rfl rfl ?_
      refine o_add gn rfl rfl rfl (by omega) (by omega) ?_
      refine o_assign gn rfl rfl ?_
      refine wl_end ?_
      exact rndS (s.toList.length - (p + 2)) (by omega) [(6, _), (7, _)] (by repeat (first | exact trivial | refine ⟨rfl, ?_⟩)) ⟨i, p + 2, rfl, rfl, by omega, by omega, S, hW2, by
        have he : kinds.drop i = [] := List.drop_eq_nil_of_le (by simp at hb64; omega)
        rw [he] at hR ⊢; exact hR⟩
    refine w_seq ?_
    refine w_seq ?_
    have h63 : (bAt s p).toNat ≠ 63 := by simp at hb; omega
    have hW3 : wfL (s.toList.drop (p + 1)) = true := by rw [drop_b hp] at hW; exact wf_plain h42 h63 hW
    rw [drop_b hp] at hR
    refine w_draw [(0, []), (1, []), (2, []), (3, []), (4, []), (5, []), (6, []), (7, []), (8, []), (9, []), (10, []), (11, []), (12, []), (13, []), (14, [])] (by kernel_rfl) (by kernel_rfl) (by kernel_rfl) (by kernel_rfl) ?_
    refine o_move gn rfl rfl ?_
    refine o_move gn rfl rfl ?_
    refine o_len gn rfl rfl (by kernel_rfl) ?_
    refine o_eqi gn rfl rfl rfl ?_
    refine o_move gn rfl rfl ?_
    refine wl_split (dc := 23) rfl (fun hb23 => ?_) fun hb23 => ?_
    · skip
      refine wl_skips (n := 9) (dc := 23) (w := false) rfl hb23 rfl ?_
      refine o_pickt gn rfl rfl hb23 rfl ?_
      refine wl_end ?_
      refine w_cond rfl (fun hb => ?_) fun hb => ?_
      · skip
        refine w_seq ?_
        refine w_region (by kernel_rfl) ?_
        refine o_assign gn rfl rfl ?_
        refine wl_end ?_
        refine w_ret ?_
        refine ⟨.inl rfl, _, rfl, ?_⟩
        exact ⟨by
          have he : kinds.drop i = [] := List.drop_eq_nil_of_le (by simp at hb23; omega)
          rw [he, kids_none h42 h63] at hR
          rw [← hR0, ← hR]; rfl, S.e0⟩
      exact absurd hb (by decide)
    refine o_move (gy rfl rfl rfl hb23) rfl rfl ?_
    refine o_move (gy rfl rfl rfl hb23) rfl rfl ?_
    have hi3 : i < kinds.length := by simp at hb23; omega
    obtain ⟨kb, ko, kc', kcs, ke, km, hv2, hg2, hlt2, hat2⟩ := R.atM (by omega)
    have hka : ka = some ⟨kb, ko, none⟩ := by injection hv2
    rw [hka]
    refine o_indexAddr (zz := 1) (gy rfl rfl rfl hb23) rfl rfl rfl (by kernel_rfl) (by omega) (by omega) ?_
    rw [← hka]
    refine o_load (gy rfl rfl rfl hb23) rfl rfl (by kernel_rfl) (S.old0 hg2 hlt2) (by rw [Int.toNat_natCast, Nat.mul_one]; exact hat2 i hi3) ?_
    refine o_move (gy rfl rfl rfl hb23) rfl rfl ?_
    refine o_move (gy rfl rfl rfl hb23) rfl rfl ?_
    refine o_indexS (gy rfl rfl rfl hb23) rfl rfl rfl (by kernel_rfl) (by omega) (bAt_get hp) ?_
    refine o_call [_, _] (gy rfl rfl rfl hb23) rfl rfl (by kernel_rfl) rfl (C.mono (c68 (b := bAt s p)) ?_)
    rintro v g ⟨rfl, x⟩
    have S := S.grow x
    refine ⟨ag0, ?_⟩
    refine o_not (gy rfl rfl rfl hb23) rfl rfl ?_
    refine o_pickf gn rfl rfl hb23 rfl ?_
    refine wl_end ?_
    refine w_cond rfl (fun hb => ?_) fun hb => ?_
    · skip
      refine w_seq ?_
      refine w_region (by kernel_rfl) ?_
      refine o_assign gn rfl rfl ?_
      refine wl_end ?_
      refine w_ret ?_
      refine ⟨.inl rfl, _, rfl, ?_⟩
      exact ⟨by
        rw [List.drop_eq_getElem_cons hi3, kids_plain h42 h63, (show isKn _ _ = false by simpa using hb)] at hR
        rw [← hR0, ← hR]; rfl, S.e0⟩
    refine w_skip ?_
    refine w_region (by kernel_rfl) ?_
    refine o_move gn rfl rfl ?_
    refine o_add gn rfl rfl rfl (by omega) (by omega) ?_
    refine o_assign gn rfl rfl ?_
    refine wl_end ?_
    refine blk_next ?_
    refine w_region (by kernel_rfl) ?_
    refine o_move gn rfl rfl ?_
    refine o_add gn rfl rfl rfl (by omega) (by omega) ?_
    refine o_assign gn rfl rfl ?_
    refine wl_end ?_
    exact rndS (s.toList.length - (p + 1)) (by omega) [(6, _), (7, _)] (by repeat (first | exact trivial | refine ⟨rfl, ?_⟩)) ⟨i + 1, p + 1, rfl, rfl, by omega, by omega, S, hW3, by
      rw [List.drop_eq_getElem_cons hi3, kids_plain h42 h63, (show isKn _ _ = true by simpa using hb)] at hR
      exact hR⟩
  refine w_exit ?_
  refine thn_exit ?_
  refine rnd_exit ?_
  refine blk_eq ?_
  refine w_seq ?_
  refine w_region (by kernel_rfl) ?_
  refine o_move gn rfl rfl ?_
  refine o_move gn rfl rfl ?_
  refine o_len gn rfl rfl (by kernel_rfl) ?_
  refine o_eqi gn rfl rfl rfl ?_
  refine o_assign gn rfl rfl ?_
  refine wl_end ?_
  refine w_ret ?_
  refine ⟨.inl rfl, _, rfl, ?_⟩
  exact ⟨by
    have he : s.toList.drop p = [] := List.drop_eq_nil_of_le (by simp at hb; omega)
    rw [he] at hR
    rw [← hR0, ← hR]
    show Value.bool _ = Value.bool (kinds.drop i).isEmpty
    rw [← empty_drop hi], S.e0⟩
end
end Go.Proofs.YtoejddhaiogonaaDoor

namespace Go.Proofs.YtoejddhaiogonaaDoor
open Go.X

theorem kids_pre {tail : List UInt8} : ∀ (Ls : List UInt8) (ks : List Int), Ls.all (fun a => decide (a.toNat ≠ 42) && decide (a.toNat ≠ 63)) = true → kidsL (Ls ++ tail) ks = (eachOk (Ls.map fun a k => isKn k (a.toNat : Nat)) ks && kidsL tail (ks.drop Ls.length))
  | [], ks, _ => by simp [eachOk]
  | a :: Ls, ks, h => by
    simp only [List.all_cons, Bool.and_eq_true, decide_eq_true_eq] at h
    obtain ⟨⟨h1, h2⟩, h3⟩ := h
    cases ks with
    | nil => rw [List.cons_append, kids_none h1 h2]; simp [eachOk]
    | cons k ks =>
      rw [List.cons_append, kids_plain h1 h2, kids_pre Ls ks h3]
      simp [eachOk, Bool.and_assoc]
theorem each_len : ∀ (l : List (Int → Bool)) (ks : List Int), (decide (l.length ≤ ks.length) && eachOk l ks) = eachOk l ks := by
  intro l ks
  cases h : eachOk l ks with
  | false => simp
  | true => simp [(eachOk_iff.1 h).1]
theorem fits_split (F : FS) (s : ByteArray) (N : Int) (ks : List Int) : fitsF F s N ks = (textOk F.text s && (decide (F.least ≤ N) && decide (N ≤ F.most)) && (eachOk F.kids ks && restOk F (ks.drop F.kids.length))) := by
  unfold fitsF headOk
  rw [← each_len F.kids ks]
  simp only [Bool.and_assoc]
  congr 1; congr 1; congr 1
  cases decide (F.kids.length ≤ ks.length) <;> simp
theorem form_at {K N : Int} {s : ByteArray} {ks : List Int} (F : FS) (Ls tail : List UInt8) (hF : formOf formT K = some F) (hT : textOk F.text s = textK K s) (hN : (decide (F.least ≤ N) && decide (N ≤ F.most)) = numK K N) (hL : (lettersK K).toList = Ls ++ tail)
    (hp : Ls.all (fun a => decide (a.toNat ≠ 42) && decide (a.toNat ≠ 63)) = true) (hK : F.kids = Ls.map fun a k => isKn k (a.toNat : Nat)) (ht : ∀ r, restOk F r = kidsL tail r) : formOk K s N ks = (textK K s && numK K N && kidsL (lettersK K).toList ks) := by
  have e : F.kids.length = Ls.length := by rw [hK, List.length_map]
  rw [formOk, hF]
  show fitsF F s N ks = _
  rw [fits_split, hT, hN, hL, kids_pre Ls ks hp, hK, List.length_map, ht]
theorem rest_none {a : Option (ByteArray → Bool)} {b c : Int} {d : List (Int → Bool)} (r : List Int) : restOk ⟨a, b, c, d, none, none⟩ r = kidsL [] r := by
  cases r <;> rfl
theorem all_drop (P : Int → Bool) : ∀ l : List Int, l.all P = (l.dropWhile P).isEmpty
  | [] => rfl
  | k :: l => by
    cases h : P k <;> simp [h, all_drop P l]
theorem rest_star {a : Option (ByteArray → Bool)} {b c : Int} {d : List (Int → Bool)} {P : Int → Bool} (x : UInt8) (h : P = fun k => isKn k (x.toNat : Nat)) (r : List Int) : restOk ⟨a, b, c, d, none, some P⟩ r = kidsL [42, x] r := by
  subst h
  show r.all _ = _
  rw [all_drop, kids_star (by decide)]; rfl
theorem rest_may {a : Option (ByteArray → Bool)} {b c : Int} {d : List (Int → Bool)} {P : Int → Bool} (x : UInt8) (h : P = fun k => isKn k (x.toNat : Nat)) (r : List Int) : restOk ⟨a, b, c, d, some P, none⟩ r = kidsL [63, x] r := by
  subst h
  rw [kids_may (by decide)]
  match r with
  | [] => rfl
  | [k] =>
    show isKn k _ = kidsL [] (dropOne x [k])
    simp only [dropOne]
    cases h : isKn k ((x.toNat : Nat) : Int) <;> simp [kidsL]
  | k :: k2 :: r =>
    show false = kidsL [] (dropOne x (k :: k2 :: r))
    simp only [dropOne]
    split <;> simp [kidsL]
theorem is_y : (memK [5] : Int → Bool) = fun k => isKn k (((121 : UInt8).toNat : Nat) : Int) := by funext k; simp [isKn, memK]
theorem is_b : (memK [12] : Int → Bool) = fun k => isKn k (((98 : UInt8).toNat : Nat) : Int) := by funext k; simp [isKn, memK]
theorem is_u : (memK [29] : Int → Bool) = fun k => isKn k (((117 : UInt8).toNat : Nat) : Int) := by funext k; simp [isKn, memK]
theorem is_e : (termK : Int → Bool) = fun k => isKn k (((101 : UInt8).toNat : Nat) : Int) := by funext k; simp [isKn]
theorem is_v : (varK : Int → Bool) = fun k => isKn k (((118 : UInt8).toNat : Nat) : Int) := by funext k; simp [isKn]
theorem is_s : (stmtK : Int → Bool) = fun k => isKn k (((115 : UInt8).toNat : Nat) : Int) := by funext k; simp [isKn]
theorem is_d : (declK : Int → Bool) = fun k => isKn k (((100 : UInt8).toNat : Nat) : Int) := by funext k; simp [isKn]
theorem is_m : (memK [4] : Int → Bool) = fun k => isKn k (((109 : UInt8).toNat : Nat) : Int) := by funext k; simp [isKn, memK]
theorem is_l : (memK [9] : Int → Bool) = fun k => isKn k (((108 : UInt8).toNat : Nat) : Int) := by funext k; simp [isKn, memK]
theorem op_isIn (s : ByteArray) : isIn opL s = opS s := by simp [isIn, opL, opS, Bool.or_assoc]
theorem none_text {s : ByteArray} {K : Int} (h : textK K s = eqS s ⟨#[]⟩) : textOk none s = textK K s := by rw [h, eqS_empty]; rfl
theorem num_zero {K N : Int} (h : numK K N = decide (N = 0)) : (decide ((0 : Int) ≤ N) && decide (N ≤ 0)) = numK K N := by
  rw [h, Bool.eq_iff_iff]; simp only [Bool.and_eq_true, decide_eq_true_eq]; omega

section
variable {s : ByteArray} {N : Int} {ks : List Int}
theorem form_1 : formOk 1 s N ks = (textK 1 s && numK 1 N && kidsL (lettersK 1).toList ks) :=
  form_at ⟨none, 0, 0, [], none, some (declK)⟩ [] [42, 100] rfl (none_text rfl) (num_zero rfl) (by rw [ByteArray.toList_eq]; rfl) (by decide) rfl (rest_star 100 is_d)
theorem form_2 : formOk 2 s N ks = (textK 2 s && numK 2 N && kidsL (lettersK 2).toList ks) :=
  form_at ⟨some (nameS), 0, 0, [], none, none⟩ [] [] rfl (rfl) (num_zero rfl) (by rw [ByteArray.toList_eq]; rfl) (by decide) rfl rest_none
theorem form_3 : formOk 3 s N ks = (textK 3 s && numK 3 N && kidsL (lettersK 3).toList ks) :=
  form_at ⟨some (nameS), 0, 0, [], none, some (memK [4])⟩ [] [42, 109] rfl (rfl) (num_zero rfl) (by rw [ByteArray.toList_eq]; rfl) (by decide) rfl (rest_star 109 is_m)
theorem form_4 : formOk 4 s N ks = (textK 4 s && numK 4 N && kidsL (lettersK 4).toList ks) :=
  form_at ⟨some (nameS), 0, 0, [memK [5]], none, none⟩ [121] [] rfl (rfl) (num_zero rfl) (by rw [ByteArray.toList_eq]; rfl) (by decide) (by simp only [List.map_cons, List.map_nil, ← is_y]) rest_none
theorem form_5 : formOk 5 s N ks = (textK 5 s && numK 5 N && kidsL (lettersK 5).toList ks) :=
  form_at ⟨some (typS), 0, 0, [], none, none⟩ [] [] rfl (rfl) (num_zero rfl) (by rw [ByteArray.toList_eq]; rfl) (by decide) rfl rest_none
theorem form_6 : formOk 6 s N ks = (textK 6 s && numK 6 N && kidsL (lettersK 6).toList ks) :=
  form_at ⟨some (nameS), 0, 0, [memK [5]], none, none⟩ [121] [] rfl (rfl) (num_zero rfl) (by rw [ByteArray.toList_eq]; rfl) (by decide) (by simp only [List.map_cons, List.map_nil, ← is_y]) rest_none
theorem form_7 : formOk 7 s N ks = (textK 7 s && numK 7 N && kidsL (lettersK 7).toList ks) :=
  form_at ⟨some (nameS), 0, 0, [memK [12]], none, none⟩ [98] [] rfl (rfl) (num_zero rfl) (by rw [ByteArray.toList_eq]; rfl) (by decide) (by simp only [List.map_cons, List.map_nil, ← is_b]) rest_none
theorem form_8 : formOk 8 s N ks = (textK 8 s && numK 8 N && kidsL (lettersK 8).toList ks) :=
  form_at ⟨some (nameS), 0, 0, [memK [29]], none, some (memK [9])⟩ [117] [42, 108] rfl (rfl) (num_zero rfl) (by rw [ByteArray.toList_eq]; rfl) (by decide) (by simp only [List.map_cons, List.map_nil, ← is_u]) (rest_star 108 is_l)
theorem form_9 : formOk 9 s N ks = (textK 9 s && numK 9 N && kidsL (lettersK 9).toList ks) :=
  form_at ⟨none, 0, 3, [memK [12]], none, none⟩ [98] [] rfl (none_text rfl) rfl (by rw [ByteArray.toList_eq]; rfl) (by decide) (by simp only [List.map_cons, List.map_nil, ← is_b]) rest_none
theorem form_10 : formOk 10 s N ks = (textK 10 s && numK 10 N && kidsL (lettersK 10).toList ks) :=
  form_at ⟨some (nameS), 0, 1, [memK [29], memK [12]], none, none⟩ [117, 98] [] rfl (rfl) (by rw [show numK 10 N = (decide (N = 0) || decide (N = 1)) from rfl, Bool.eq_iff_iff]; simp only [Bool.and_eq_true, Bool.or_eq_true, decide_eq_true_eq]; omega) (by rw [ByteArray.toList_eq]; rfl) (by decide) (by simp only [List.map_cons, List.map_nil, ← is_u, ← is_b]) rest_none
theorem form_11 : formOk 11 s N ks = (textK 11 s && numK 11 N && kidsL (lettersK 11).toList ks) :=
  form_at ⟨none, 0, 0, [memK [12]], none, none⟩ [98] [] rfl (none_text rfl) (num_zero rfl) (by rw [ByteArray.toList_eq]; rfl) (by decide) (by simp only [List.map_cons, List.map_nil, ← is_b]) rest_none
theorem form_12 : formOk 12 s N ks = (textK 12 s && numK 12 N && kidsL (lettersK 12).toList ks) :=
  form_at ⟨none, 0, 0, [], none, some (stmtK)⟩ [] [42, 115] rfl (none_text rfl) (num_zero rfl) (by rw [ByteArray.toList_eq]; rfl) (by decide) rfl (rest_star 115 is_s)
theorem form_13 : formOk 13 s N ks = (textK 13 s && numK 13 N && kidsL (lettersK 13).toList ks) :=
  form_at ⟨some (nameS), 0, 0, [memK [5], termK], none, none⟩ [121, 101] [] rfl (rfl) (num_zero rfl) (by rw [ByteArray.toList_eq]; rfl) (by decide) (by simp only [List.map_cons, List.map_nil, ← is_y, ← is_e]) rest_none
theorem form_14 : formOk 14 s N ks = (textK 14 s && numK 14 N && kidsL (lettersK 14).toList ks) :=
  form_at ⟨none, 0, 0, [varK, termK], none, none⟩ [118, 101] [] rfl (none_text rfl) (num_zero rfl) (by rw [ByteArray.toList_eq]; rfl) (by decide) (by simp only [List.map_cons, List.map_nil, ← is_v, ← is_e]) rest_none
theorem form_15 : formOk 15 s N ks = (textK 15 s && numK 15 N && kidsL (lettersK 15).toList ks) :=
  form_at ⟨none, 0, 0, [termK], none, none⟩ [101] [] rfl (none_text rfl) (num_zero rfl) (by rw [ByteArray.toList_eq]; rfl) (by decide) (by simp only [List.map_cons, List.map_nil, ← is_e]) rest_none
theorem form_16 : formOk 16 s N ks = (textK 16 s && numK 16 N && kidsL (lettersK 16).toList ks) :=
  form_at ⟨none, 0, 0, [termK], none, none⟩ [101] [] rfl (none_text rfl) (num_zero rfl) (by rw [ByteArray.toList_eq]; rfl) (by decide) (by simp only [List.map_cons, List.map_nil, ← is_e]) rest_none
theorem form_17 : formOk 17 s N ks = (textK 17 s && numK 17 N && kidsL (lettersK 17).toList ks) :=
  form_at ⟨none, 0, 0, [termK], none, none⟩ [101] [] rfl (none_text rfl) (num_zero rfl) (by rw [ByteArray.toList_eq]; rfl) (by decide) (by simp only [List.map_cons, List.map_nil, ← is_e]) rest_none
theorem form_18 : formOk 18 s N ks = (textK 18 s && numK 18 N && kidsL (lettersK 18).toList ks) :=
  form_at ⟨none, 0, 0, [termK], none, none⟩ [101] [] rfl (none_text rfl) (num_zero rfl) (by rw [ByteArray.toList_eq]; rfl) (by decide) (by simp only [List.map_cons, List.map_nil, ← is_e]) rest_none
theorem form_19 : formOk 19 s N ks = (textK 19 s && numK 19 N && kidsL (lettersK 19).toList ks) :=
  form_at ⟨some (nameS), -1, 2147483647, [termK], some (varK), none⟩ [101] [63, 118] rfl (rfl) rfl (by rw [ByteArray.toList_eq]; rfl) (by decide) (by simp only [List.map_cons, List.map_nil, ← is_e]) (rest_may 118 is_v)
theorem form_20 : formOk 20 s N ks = (textK 20 s && numK 20 N && kidsL (lettersK 20).toList ks) :=
  form_at ⟨none, 0, 0, [termK], some (varK), none⟩ [101] [63, 118] rfl (none_text rfl) (num_zero rfl) (by rw [ByteArray.toList_eq]; rfl) (by decide) (by simp only [List.map_cons, List.map_nil, ← is_e]) (rest_may 118 is_v)
theorem form_21 : formOk 21 s N ks = (textK 21 s && numK 21 N && kidsL (lettersK 21).toList ks) :=
  form_at ⟨some (nameS), 0, 0, [], none, none⟩ [] [] rfl (rfl) (num_zero rfl) (by rw [ByteArray.toList_eq]; rfl) (by decide) rfl rest_none
theorem form_22 : formOk 22 s N ks = (textK 22 s && numK 22 N && kidsL (lettersK 22).toList ks) :=
  form_at ⟨some (nameS), 0, 0, [], none, none⟩ [] [] rfl (rfl) (num_zero rfl) (by rw [ByteArray.toList_eq]; rfl) (by decide) rfl rest_none
theorem form_23 : formOk 23 s N ks = (textK 23 s && numK 23 N && kidsL (lettersK 23).toList ks) :=
  form_at ⟨none, 0, 0, [termK, memK [12], memK [12]], none, none⟩ [101, 98, 98] [] rfl (none_text rfl) (num_zero rfl) (by rw [ByteArray.toList_eq]; rfl) (by decide) (by simp only [List.map_cons, List.map_nil, ← is_e, ← is_b]) rest_none
theorem form_24 : formOk 24 s N ks = (textK 24 s && numK 24 N && kidsL (lettersK 24).toList ks) :=
  form_at ⟨none, 0, 0, [termK, memK [12]], none, none⟩ [101, 98] [] rfl (none_text rfl) (num_zero rfl) (by rw [ByteArray.toList_eq]; rfl) (by decide) (by simp only [List.map_cons, List.map_nil, ← is_e, ← is_b]) rest_none
theorem form_25 : formOk 25 s N ks = (textK 25 s && numK 25 N && kidsL (lettersK 25).toList ks) :=
  form_at ⟨none, 0, 0, [], none, none⟩ [] [] rfl (none_text rfl) (num_zero rfl) (by rw [ByteArray.toList_eq]; rfl) (by decide) rfl rest_none
theorem form_26 : formOk 26 s N ks = (textK 26 s && numK 26 N && kidsL (lettersK 26).toList ks) :=
  form_at ⟨none, 0, 2147483647, [], none, none⟩ [] [] rfl (none_text rfl) rfl (by rw [ByteArray.toList_eq]; rfl) (by decide) rfl rest_none
theorem form_27 : formOk 27 s N ks = (textK 27 s && numK 27 N && kidsL (lettersK 27).toList ks) :=
  form_at ⟨none, 0, 0, [], none, none⟩ [] [] rfl (none_text rfl) (num_zero rfl) (by rw [ByteArray.toList_eq]; rfl) (by decide) rfl rest_none
theorem form_28 : formOk 28 s N ks = (textK 28 s && numK 28 N && kidsL (lettersK 28).toList ks) :=
  form_at ⟨none, 0, 0, [], none, none⟩ [] [] rfl (none_text rfl) (num_zero rfl) (by rw [ByteArray.toList_eq]; rfl) (by decide) rfl rest_none
theorem form_29 : formOk 29 s N ks = (textK 29 s && numK 29 N && kidsL (lettersK 29).toList ks) :=
  form_at ⟨some (nameS), 0, 0, [], none, none⟩ [] [] rfl (rfl) (num_zero rfl) (by rw [ByteArray.toList_eq]; rfl) (by decide) rfl rest_none
theorem form_30 : formOk 30 s N ks = (textK 30 s && numK 30 N && kidsL (lettersK 30).toList ks) :=
  form_at ⟨some (nameS), 0, 0, [termK], none, none⟩ [101] [] rfl (rfl) (num_zero rfl) (by rw [ByteArray.toList_eq]; rfl) (by decide) (by simp only [List.map_cons, List.map_nil, ← is_e]) rest_none
theorem form_31 : formOk 31 s N ks = (textK 31 s && numK 31 N && kidsL (lettersK 31).toList ks) :=
  form_at ⟨none, 0, 0, [termK, termK], none, none⟩ [101, 101] [] rfl (none_text rfl) (num_zero rfl) (by rw [ByteArray.toList_eq]; rfl) (by decide) (by simp only [List.map_cons, List.map_nil, ← is_e]) rest_none
theorem form_32 : formOk 32 s N ks = (textK 32 s && numK 32 N && kidsL (lettersK 32).toList ks) :=
  form_at ⟨some (isIn opL), 0, 0, [termK, termK], none, none⟩ [101, 101] [] rfl ((by rw [show textK 32 s = opS s from rfl]; exact op_isIn s)) (num_zero rfl) (by rw [ByteArray.toList_eq]; rfl) (by decide) (by simp only [List.map_cons, List.map_nil, ← is_e]) rest_none
theorem form_33 : formOk 33 s N ks = (textK 33 s && numK 33 N && kidsL (lettersK 33).toList ks) :=
  form_at ⟨some (nameS), 0, 0, [], none, none⟩ [] [] rfl (rfl) (num_zero rfl) (by rw [ByteArray.toList_eq]; rfl) (by decide) rfl rest_none
theorem form_34 : formOk 34 s N ks = (textK 34 s && numK 34 N && kidsL (lettersK 34).toList ks) :=
  form_at ⟨none, 0, 0, [termK], none, none⟩ [101] [] rfl (none_text rfl) (num_zero rfl) (by rw [ByteArray.toList_eq]; rfl) (by decide) (by simp only [List.map_cons, List.map_nil, ← is_e]) rest_none
theorem form_35 : formOk 35 s N ks = (textK 35 s && numK 35 N && kidsL (lettersK 35).toList ks) :=
  form_at ⟨none, 0, 0, [termK], none, none⟩ [101] [] rfl (none_text rfl) (num_zero rfl) (by rw [ByteArray.toList_eq]; rfl) (by decide) (by simp only [List.map_cons, List.map_nil, ← is_e]) rest_none
theorem form_36 : formOk 36 s N ks = (textK 36 s && numK 36 N && kidsL (lettersK 36).toList ks) :=
  form_at ⟨none, 0, 0, [memK [12]], none, none⟩ [98] [] rfl (none_text rfl) (num_zero rfl) (by rw [ByteArray.toList_eq]; rfl) (by decide) (by simp only [List.map_cons, List.map_nil, ← is_b]) rest_none
/-- What a head must be, the document's. -/
def headR (K : Int) (s : ByteArray) (N : Int) : Bool := decide (1 ≤ K) && decide (K ≤ 36) && textK K s && numK K N
theorem form_out {K : Int} (h : K < 1 ∨ 36 < K) : formOf formT K = none := by
  have hk : ∀ p, p ∈ formT → 1 ≤ p.1 ∧ p.1 ≤ 36 := by
    intro p hp
    have : (formT.map Prod.fst).all (fun k => decide (1 ≤ k) && decide (k ≤ 36)) = true := by decide
    have := List.all_eq_true.1 this p.1 (List.mem_map_of_mem hp)
    simpa using this
  revert hk
  generalize formT = T
  induction T with
  | nil => intro _; rfl
  | cons p T ih =>
    intro hk
    obtain ⟨k, F⟩ := p
    have h1 := hk _ (List.mem_cons_self ..)
    simp only [formOf]
    rw [if_neg (by simp only at h1; omega)]
    exact ih fun q hq => hk q (List.mem_cons_of_mem _ hq)
theorem form_split {K : Int} : formOk K s N ks = (headR K s N && kidsL (lettersK K).toList ks) := by
  by_cases h : K < 1 ∨ 36 < K
  · rw [formOk, form_out h]
    have : headR K s N = false := by
      unfold headR
      rcases h with h | h
      · rw [decide_eq_false (by omega : ¬ 1 ≤ K)]; rfl
      rw [decide_eq_false (by omega : ¬ K ≤ 36)]; simp
    rw [this]; rfl
  have e : headR K s N = (textK K s && numK K N) := by
    unfold headR
    rw [decide_eq_true (by omega : 1 ≤ K), decide_eq_true (by omega : K ≤ 36)]; rfl
  rw [e]
  rcases (show K = 1 ∨ K = 2 ∨ K = 3 ∨ K = 4 ∨ K = 5 ∨ K = 6 ∨ K = 7 ∨ K = 8 ∨ K = 9 ∨ K = 10 ∨ K = 11 ∨ K = 12 ∨ K = 13 ∨ K = 14 ∨ K = 15 ∨ K = 16 ∨ K = 17 ∨ K = 18 ∨ K = 19 ∨ K = 20 ∨ K = 21 ∨ K = 22 ∨ K = 23 ∨ K = 24 ∨ K = 25 ∨ K = 26 ∨ K = 27 ∨ K = 28 ∨ K = 29 ∨ K = 30 ∨ K = 31 ∨ K = 32 ∨ K = 33 ∨ K = 34 ∨ K = 35 ∨ K = 36 by omega) with rfl | rfl | rfl | rfl | rfl | rfl | rfl | rfl | rfl | rfl | rfl | rfl | rfl | rfl | rfl | rfl | rfl | rfl | rfl | rfl | rfl | rfl | rfl | rfl | rfl | rfl | rfl | rfl | rfl | rfl | rfl | rfl | rfl | rfl | rfl | rfl
  · exact form_1
  · exact form_2
  · exact form_3
  · exact form_4
  · exact form_5
  · exact form_6
  · exact form_7
  · exact form_8
  · exact form_9
  · exact form_10
  · exact form_11
  · exact form_12
  · exact form_13
  · exact form_14
  · exact form_15
  · exact form_16
  · exact form_17
  · exact form_18
  · exact form_19
  · exact form_20
  · exact form_21
  · exact form_22
  · exact form_23
  · exact form_24
  · exact form_25
  · exact form_26
  · exact form_27
  · exact form_28
  · exact form_29
  · exact form_30
  · exact form_31
  · exact form_32
  · exact form_33
  · exact form_34
  · exact form_35
  exact form_36
end
end Go.Proofs.YtoejddhaiogonaaDoor

namespace Go.Proofs.YtoejddhaiogonaaDoor
open Go.X

theorem paren_true {K K' i : Int} {s s' : ByteArray} (h : decide (0 < bindsK K' s') = true) (hi : 0 ≤ i) : decide (bindsK K' s' < mustR K s i) = parenK K s i K' s' := by
  unfold parenK
  rw [binds_pos] at h
  rw [h, Bool.true_and]
  have hp : 0 < bindsK K' s' := by
    have := binds_pos (K := K') (s := s'); rw [h] at this; exact of_decide_eq_true this
  unfold mustR
  split
  · rename_i hK
    subst hK
    have e : mustK 31 s i = if i = 0 then 5 else 0 := by unfold mustK; simp
    rw [e, Bool.eq_iff_iff, decide_eq_true_eq, decide_eq_true_eq]
    split <;> omega
  rfl
theorem paren_false {K K' i : Int} {s s' : ByteArray} (h : decide (0 < bindsK K' s') = false) : parenK K s i K' s' = false := by
  unfold parenK
  rw [binds_pos] at h
  rw [h, Bool.false_and]
theorem head_no1 {K N : Int} {s : ByteArray} (h : (decide (K < 1) || decide (36 < K)) = true) : headR K s N = false := by
  unfold headR
  simp only [Bool.or_eq_true, decide_eq_true_eq] at h
  rcases h with h | h
  · rw [decide_eq_false (by omega : ¬ 1 ≤ K)]; rfl
  rw [decide_eq_false (by omega : ¬ K ≤ 36)]; simp
theorem head_no2 {K N : Int} {s : ByteArray} (h : (!textK K s) = true) : headR K s N = false := by
  unfold headR
  rw [Bool.not_eq_true'] at h
  rw [h]; simp
theorem head_no3 {K N : Int} {s : ByteArray} (h : (!numK K N) = true) : headR K s N = false := by
  unfold headR
  rw [Bool.not_eq_true'] at h
  rw [h]; simp
theorem head_yes {K N : Int} {s : ByteArray} (h1 : (decide (K < 1) || decide (36 < K)) = false) (h2 : (!textK K s) = false) (h3 : (!numK K N) = false) : headR K s N = true := by
  unfold headR
  simp only [Bool.or_eq_false_iff, decide_eq_false_iff_not, Bool.not_eq_false'] at h1 h2 h3
  rw [h2, h3, decide_eq_true (by omega : 1 ≤ K), decide_eq_true (by omega : K ≤ 36)]; rfl
theorem finW_no {R : Option Nat} : finW false R = none := by cases R <;> rfl
theorem kidsW_bad2 {rec : Nat → Int → Option Nat} {T : List Tw} {w : Tw} {nest k : Int} {l : List Int} {i next : Nat} (h : (!decide (k = (next : Int)) || decide ((T.length : Int) ≤ next)) = true) : kidsW rec T w nest (k :: l) i next = none := by
  simp only [kidsW]
  split
  · rename_i e
    rw [e] at h
    simp at h
    rw [List.getElem?_eq_none (by omega)]
  rfl
theorem deep_yes {K K' i : Int} {s s' : ByteArray} (h : (((decide (K = 31) && decide (i = 1)) || decide (K = 34)) || decide (K = 35)) = true) : b2i (decide (K' = 12)) + b2i (parenK K s i K' s') + 1 = deepK K s i K' s' := by
  unfold deepK
  simp only [Bool.or_eq_true, Bool.and_eq_true, decide_eq_true_eq] at h
  rcases h with (⟨rfl, rfl⟩ | rfl) | rfl <;> simp [b2i]
theorem deep_no {K K' i : Int} {s s' : ByteArray} (h : (((decide (K = 31) && decide (i = 1)) || decide (K = 34)) || decide (K = 35)) = false) : b2i (decide (K' = 12)) + b2i (parenK K s i K' s') = deepK K s i K' s' := by
  unfold deepK
  simp only [Bool.or_eq_false_iff] at h
  rw [h.1.1, h.1.2, h.2]; simp [b2i]
def encR (o : Option Nat) : Int := match o with
  | some n => n
  | none => 0
theorem enc_eq {o : Option Nat} {n : Nat} (h : 0 < n) : decide (encR o = n) = decide (enc o = n) := by
  cases o with
  | some m => rfl
  | none =>
    show decide ((0 : Int) = n) = decide ((-1 : Int) = n)
    rw [decide_eq_false (by omega), decide_eq_false (by omega)]

section
variable {h : Hp} {sv ks : Value} {T : List Tw} {K N L Co : Int} {s : ByteArray} {kids : List Int} {i j : Nat}

/-- Paren -/
theorem c45 (X : TreeAt h sv T) (_ : T.length ≤ 1000) (R : RowV h ks (isV kids)) (hi : i < kids.length) (hi2 : i ≤ 1000) (hk : kids[i] = (j : Int)) {w : Tw} (hq : T[j]? = some w) : C trE 45 [.agg #[sv], twV K s N L Co ks, iV i] h fun v h' => v = .bool (parenK K s i w.K w.s) ∧ Ext h h' := by
  obtain ⟨ta, tc, rfl⟩ := X.val
  have hks := RowV.same R
  obtain ⟨ka, kc, rfl⟩ := R.valM
  obtain ⟨hj, hjw⟩ := List.getElem?_eq_some_iff.1 hq
  obtain ⟨b, o, c, cs, e, m, hv, hg, hlb, hl6, hat⟩ := X.at (by omega)
  have hta : ta = some ⟨b, o, none⟩ := by injection hv
  have hw := hat j hj
  rw [hjw] at hw
  have hm := X.2 w (List.mem_of_getElem? hq)
  obtain ⟨K3, s3, N3, L3, C3, ks3, kids3⟩ := w
  simp only at hm
  obtain ⟨ka3, kc3, rfl⟩ := hm.valM
  have hw4 : (cs.drop (o + Int.toNat (j : Int) * 6)).take 6 = [iV K3, .string s3, iV N3, iV L3, iV C3, .slice ka3 kids3.length kc3] := by rw [Int.toNat_natCast]; exact hw
  obtain ⟨kb, ko, kc', kcs, ke, km, hv2, hg2, hlt2, hat2⟩ := R.atM (by omega)
  have hka : ka = some ⟨kb, ko, none⟩ := by injection hv2
  have hat3 : kcs[ko + i]? = some (iV j) := by rw [hat2 i hi, hk]
  refine c_enter (fu := Tryd.f45) (by kernel_rfl) rfl ?_
  have S := SH.start h
  refine w_seq ?_
  refine w_region (by kernel_rfl) ?_
  refine s_box S gn rfl rfl fun b1 g nb1 S => ?_
  refine s_box S gn rfl rfl fun b2 g nb2 S => ?_
  refine o_assign gn rfl rfl ?_
  refine wl_end ?_
  refine w_seq ?_
  refine w_draw [(0, []), (1, []), (2, []), (3, []), (4, []), (5, []), (6, []), (7, []), (8, []), (9, []), (10, [])] (by kernel_rfl) (by kernel_rfl) (by kernel_rfl) (by kernel_rfl) ?_
  refine o_fieldAddr (off := 0) gn rfl rfl (by kernel_rfl) ?_
  refine o_load gn rfl rfl (by kernel_rfl) (by exact S.cel 1 rfl) rfl ?_
  refine o_fieldAddr (off := 5) gn rfl rfl (by kernel_rfl) ?_
  refine o_load gn rfl rfl (by kernel_rfl) (by exact S.cel 0 rfl) rfl ?_
  refine o_move gn rfl rfl ?_
  rw [hka]
  refine o_indexAddr (zz := 1) gn rfl rfl rfl (by kernel_rfl) (by omega) (by omega) ?_
  rw [← hka]
  refine o_load gn rfl rfl (by kernel_rfl) (S.old0 hg2 hlt2) (by rw [Int.toNat_natCast, Nat.mul_one]; exact hat3) ?_
  rw [hta]
  refine o_indexAddr (zz := 6) gn rfl rfl rfl (by kernel_rfl) (by omega) (by omega) ?_
  refine o_loadA (n := 6) gn rfl rfl (by kernel_rfl) (by kernel_rfl) (S.old0 hg hlb) (by rw [Int.toNat_natCast]; omega) ?_
  rw [hw4, ← hta]
  refine o_call [_] gn rfl rfl (by kernel_rfl) rfl (C.mono (c19) ?_)
  rintro v g ⟨rfl, x⟩
  have S := S.grow x
  refine ⟨ag0, ?_⟩
  refine o_assign gn rfl rfl ?_
  refine wl_end ?_
  refine w_seq ?_
  refine w_region (by kernel_rfl) ?_
  refine o_move gn rfl rfl ?_
  refine o_gtr gn rfl rfl rfl ?_
  refine o_move gn rfl rfl ?_
  refine wl_split (dc := 20) rfl (fun hb20 => ?_) fun hb20 => ?_
  · skip
    refine o_move (gy rfl rfl rfl hb20) rfl rfl ?_
    refine o_loadA (n := 6) (gy rfl rfl rfl hb20) rfl rfl (by kernel_rfl) (by kernel_rfl) (by exact S.cel 0 rfl) (Nat.le_refl _) ?_
    refine o_move (gy rfl rfl rfl hb20) rfl rfl ?_
    refine o_call [_, _] (gy rfl rfl rfl hb20) rfl rfl (by kernel_rfl) rfl (C.mono (c66 hks (by omega) (by omega)) ?_)
    rintro v g ⟨rfl, x⟩
    have S := S.grow x
    refine ⟨ag0, ?_⟩
    refine o_lss (gy rfl rfl rfl hb20) rfl rfl rfl ?_
    refine o_pickt gn rfl rfl hb20 rfl ?_
    refine o_assign gn rfl rfl ?_
    refine wl_end ?_
    refine w_ret ?_
    refine ⟨.inl rfl, _, rfl, ?_⟩
    exact ⟨by rw [← paren_true (K := K) (s := s) hb20 (by omega : (0 : Int) ≤ i)]; rfl, S.e0⟩
  refine wl_skips (n := 5) (dc := 20) (w := true) rfl hb20 rfl ?_
  refine o_pickf gn rfl rfl hb20 rfl ?_
  refine o_assign gn rfl rfl ?_
  refine wl_end ?_
  refine w_ret ?_
  refine ⟨.inl rfl, _, rfl, ?_⟩
  exact ⟨by rw [paren_false hb20]; rfl, S.e0⟩

/-- goes -/
theorem c26 (X : TreeAt h sv T) (hT : T.length ≤ 1000) (hs : ∀ t, t ∈ T → t.s.toList.length ≤ 100) : ∀ (f : Nat) (at' : Nat) (nest : Int) (g : Hp), Ext h g → T.length - at' < f → at' ≤ 1000 → 0 ≤ nest → nest ≤ 1000 →
    C trE 26 [.agg #[sv], iV at', iV nest] g fun v g' => v = iV (encR (walkS T f at' nest)) ∧ Ext g g' := by
  obtain ⟨ta, tc, rfl⟩ := X.val
  intro f
  induction f with
  | zero => intro at' nest g _ hf; omega
  | succ f ih =>
  intro at' nest h2 x2 hf hat0 hn0 hn1
  have X2 := X.ext x2
  refine c_enter (fu := Tryd.f26) (by kernel_rfl) rfl ?_
  have S := SH.start h2
  refine w_seq ?_
  refine w_region (by kernel_rfl) ?_
  refine s_box S gn rfl rfl fun b1 g nb1 S => ?_
  refine o_assign gn rfl rfl ?_
  refine wl_end ?_
  refine w_seq ?_
  refine w_seq ?_
  refine w_region (by kernel_rfl) ?_
  refine o_move gn rfl rfl ?_
  refine o_fieldAddr (off := 0) gn rfl rfl (by kernel_rfl) ?_
  refine o_load gn rfl rfl (by kernel_rfl) (by exact S.cel 0 rfl) rfl ?_
  refine o_len gn rfl rfl (by kernel_rfl) ?_
  refine o_geq gn rfl rfl rfl ?_
  refine o_move gn rfl rfl ?_
  refine o_or (n := 2) rfl rfl rfl gn rfl (fun hb => by
      refine o_move (gy rfl rfl rfl hb) rfl rfl ?_
      refine o_gtr (gy rfl rfl rfl hb) rfl rfl rfl ?_
      exact wl_end ⟨rfl, rfl, 2, rfl, rfl⟩) ?_
  refine wl_end ?_
  refine w_cond rfl (fun hb => ?_) fun hb => ?_
  · skip
    refine w_seq ?_
    refine w_region (by kernel_rfl) ?_
    refine o_assign gn rfl rfl ?_
    refine wl_end ?_
    refine w_ret ?_
    refine ⟨.inl rfl, _, rfl, ?_⟩
    exact ⟨by rw [walkS_out hb]; rfl, S.e0⟩
  refine w_skip ?_
  obtain ⟨hlt, hne⟩ : at' < T.length ∧ ¬ 64 < nest := by
    simp only [Bool.or_eq_false_iff, decide_eq_false_iff_not] at hb
    exact ⟨by omega, hb.2⟩
  obtain ⟨b, o, c, cs, e, m, hv, hg, hlb, hl6, hat⟩ := X2.at hlt
  have hta : ta = some ⟨b, o, none⟩ := by injection hv
  have hw := hat at' hlt
  have hm := X2.2 _ (List.getElem_mem hlt)
  have hq : T[at']? = some T[at'] := List.getElem?_eq_getElem hlt
  have hsz := hs _ (List.getElem_mem hlt)
  generalize T[at'] = w at hw hm hq hsz
  obtain ⟨K, s, N, L, Co, ks, kids⟩ := w
  simp only at hm hsz
  obtain ⟨ka, kc, rfl⟩ := hm.valM
  have hw2 : (cs.drop (o + Int.toNat (at' : Int) * 6)).take 6 = [iV K, .string s, iV N, iV L, iV Co, .slice ka kids.length kc] := by rw [Int.toNat_natCast]; exact hw
  obtain ⟨R0, hR0⟩ : ∃ R, R = kidsW (walkS T f) T ⟨K, s, N, L, Co, .slice ka kids.length kc, kids⟩ nest kids 0 (at' + 1) := ⟨_, rfl⟩
  have hWalk : walkS T (f + 1) at' nest = finW (formOk K s N (kindsOf T kids)) R0 := by
    simp only [walkS, hq, if_neg hne, ← hR0]
  rw [form_split] at hWalk
  refine w_seq ?_
  refine w_region (by kernel_rfl) ?_
  refine o_fieldAddr (off := 0) gn rfl rfl (by kernel_rfl) ?_
  refine o_load gn rfl rfl (by kernel_rfl) (by exact S.cel 0 rfl) rfl ?_
  refine o_move gn rfl rfl ?_
  rw [hta]
  refine o_indexAddr (zz := 6) gn rfl rfl rfl (by kernel_rfl) (by omega) (by omega) ?_
  refine o_loadA (n := 6) gn rfl rfl (by kernel_rfl) (by kernel_rfl) (S.old0 hg hlb) (by rw [Int.toNat_natCast]; omega) ?_
  rw [hw2, ← hta]
  refine s_alloc (zv := .agg #[.int .i64 0, .string .empty, .int .i64 0, .int .i64 0, .int .i64 0, .slice none 0 0]) S gn rfl (by kernel_rfl) fun b2 g nb2 S => ?_
  refine s_storeA (n := 6) 0 S gn rfl rfl (by kernel_rfl) (by kernel_rfl) rfl rfl (by decide) rfl (fun g S => ag0) fun g S => ?_
  refine wl_end ?_
  refine w_cutS [(1, iV at'), (2, iV nest), (3, ptrV b1), (7, ptrV b2)] (fun lv hh => lv = [] ∧ SH h2 [] [cR b2 (.cells (twC K s N L Co (.slice ka kids.length kc)) 30 0), cR b1 (.cells [.slice ta T.length tc] 24 0)] hh ∧ headR K s N = true) ?_ fun lv hh hJ => ?_
  · skip
    refine w_seq ?_
    refine w_region (by kernel_rfl) ?_
    refine o_fieldAddr (off := 0) gn rfl rfl (by kernel_rfl) ?_
    refine o_load gn rfl rfl (by kernel_rfl) (by exact S.cel 0 rfl) rfl ?_
    refine o_lss gn rfl rfl rfl ?_
    refine o_move gn rfl rfl ?_
    refine o_or (n := 3) rfl rfl rfl gn rfl (fun hb => by
        refine o_fieldAddr (off := 0) (gy rfl rfl rfl hb) rfl rfl (by kernel_rfl) ?_
        refine o_load (gy rfl rfl rfl hb) rfl rfl (by kernel_rfl) (by exact S.cel 0 rfl) rfl ?_
        refine o_gtr (gy rfl rfl rfl hb) rfl rfl rfl ?_
        exact wl_end ⟨rfl, rfl, 3, rfl, rfl⟩) ?_
    refine o_move gn rfl rfl ?_
    refine wl_split (dc := 34) rfl (fun hb34 => ?_) fun hb34 => ?_
    · skip
      refine wl_skips (n := 6) (dc := 34) (w := false) rfl hb34 rfl ?_
      refine o_pickt gn rfl rfl hb34 rfl ?_
      refine o_move gn rfl rfl ?_
      refine wl_split (dc := 42) rfl (fun hb42 => ?_) fun hb42 => ?_
      · skip
        refine wl_skips (n := 6) (dc := 42) (w := false) rfl hb42 rfl ?_
        refine o_pickt gn rfl rfl hb42 rfl ?_
        refine wl_end ?_
        refine w_cond rfl (fun hb => ?_) fun hb => ?_
        · skip
          refine w_seq ?_
          refine w_region (by kernel_rfl) ?_
          refine o_assign gn rfl rfl ?_
          refine wl_end ?_
          refine w_ret ?_
          refine ⟨.inl rfl, _, rfl, ?_⟩
          exact ⟨by rw [hWalk, head_no1 hb34, Bool.false_and, finW_no]; rfl, S.e0⟩
        exact absurd hb (by decide)
      exact absurd hb42 (by decide)
    refine o_fieldAddr (off := 0) (gy rfl rfl rfl hb34) rfl rfl (by kernel_rfl) ?_
    refine o_load (gy rfl rfl rfl hb34) rfl rfl (by kernel_rfl) (by exact S.cel 0 rfl) rfl ?_
    refine o_fieldAddr (off := 1) (gy rfl rfl rfl hb34) rfl rfl (by kernel_rfl) ?_
    refine o_load (gy rfl rfl rfl hb34) rfl rfl (by kernel_rfl) (by exact S.cel 0 rfl) rfl ?_
    refine o_call [_, _] (gy rfl rfl rfl hb34) rfl rfl (by kernel_rfl) rfl (C.mono (c43 (by omega)) ?_)
    rintro v g ⟨rfl, x⟩
    have S := S.grow x
    refine ⟨ag0, ?_⟩
    refine o_not (gy rfl rfl rfl hb34) rfl rfl ?_
    refine o_pickf gn rfl rfl hb34 rfl ?_
    refine o_move gn rfl rfl ?_
    refine wl_split (dc := 42) rfl (fun hb42 => ?_) fun hb42 => ?_
    · skip
      refine wl_skips (n := 6) (dc := 42) (w := false) rfl hb42 rfl ?_
      refine o_pickt gn rfl rfl hb42 rfl ?_
      refine wl_end ?_
      refine w_cond rfl (fun hb => ?_) fun hb => ?_
      · skip
        refine w_seq ?_
        refine w_region (by kernel_rfl) ?_
        refine o_assign gn rfl rfl ?_
        refine wl_end ?_
        refine w_ret ?_
        refine ⟨.inl rfl, _, rfl, ?_⟩
        exact ⟨by rw [hWalk, head_no2 hb42, Bool.false_and, finW_no]; rfl, S.e0⟩
      exact absurd hb (by decide)
    refine o_fieldAddr (off := 0) (gy rfl rfl rfl hb42) rfl rfl (by kernel_rfl) ?_
    refine o_load (gy rfl rfl rfl hb42) rfl rfl (by kernel_rfl) (by exact S.cel 0 rfl) rfl ?_
    refine o_fieldAddr (off := 2) (gy rfl rfl rfl hb42) rfl rfl (by kernel_rfl) ?_
    refine o_load (gy rfl rfl rfl hb42) rfl rfl (by kernel_rfl) (by exact S.cel 0 rfl) rfl ?_
    refine o_call [_, _] (gy rfl rfl rfl hb42) rfl rfl (by kernel_rfl) rfl (C.mono (c44) ?_)
    rintro v g ⟨rfl, x⟩
    have S := S.grow x
    refine ⟨ag0, ?_⟩
    refine o_not (gy rfl rfl rfl hb42) rfl rfl ?_
    refine o_pickf gn rfl rfl hb42 rfl ?_
    refine wl_end ?_
    refine w_cond rfl (fun hb => ?_) fun hb => ?_
    · skip
      refine w_seq ?_
      refine w_region (by kernel_rfl) ?_
      refine o_assign gn rfl rfl ?_
      refine wl_end ?_
      refine w_ret ?_
      refine ⟨.inl rfl, _, rfl, ?_⟩
      exact ⟨by rw [hWalk, head_no3 hb, Bool.false_and, finW_no]; rfl, S.e0⟩
    refine w_skip ?_
    exact cutS [] (by repeat (first | exact trivial | refine ⟨rfl, ?_⟩)) ⟨rfl, S, head_yes hb34 hb42 hb⟩
  obtain ⟨rfl, S, hd⟩ := hJ
  rw [hd, Bool.true_and] at hWalk
  refine w_seq ?_
  refine w_region (by kernel_rfl) ?_
  refine o_assign gn rfl rfl ?_
  refine wl_end ?_
  refine w_seq ?_
  refine w_region (by kernel_rfl) ?_
  refine o_move gn rfl rfl ?_
  refine o_add gn rfl rfl rfl (by omega) (by omega) ?_
  refine o_assign gn rfl rfl ?_
  refine wl_end ?_
  refine w_seq ?_
  refine w_seq ?_
  refine w_region (by kernel_rfl) ?_
  refine o_assign gn rfl rfl ?_
  refine wl_end ?_
  refine w_block ?_
  refine w_loopS [(8, _), (9, _), (10, _)] [(2, _), (3, _), (7, _)] (by repeat (first | exact trivial | refine ⟨rfl, ?_⟩)) (fun kk lv hh => ∃ (i next : Nat) (kv : Value) (bs : List Nat), lv = [(8, kv), (9, iV next), (10, iV i)] ∧ kk = kids.length - i ∧ i ≤ kids.length ∧ SH h2 [] [slR 27 0 kv (isV (kindsOf T (kids.take i))) i bs, cR b2 (.cells (twC K s N L Co (.slice ka kids.length kc)) 30 0), cR b1 (.cells [.slice ta T.length tc] 24 0)] hh ∧ at' + 1 + i ≤ next ∧ next ≤ T.length ∧ kidsW (walkS T f) T ⟨K, s, N, L, Co, .slice ka kids.length kc, kids⟩ nest (kids.drop i) i next = R0) (n := (kids.length)) ?_ fun kk lv hh hI => ?_
  · exact ⟨0, at' + 1, .slice none 0 0, [], rfl, rfl, by omega, S.nilSl 27 0, by omega, by omega, by rw [List.drop_zero, hR0]⟩
  obtain ⟨i, next, kv, bs, rfl, hk, hi, S, hnx, hnl, hR⟩ := hI
  refine w_seq ?_
  refine w_seq ?_
  refine w_region (by kernel_rfl) ?_
  refine o_move gn rfl rfl ?_
  refine o_fieldAddr (off := 5) gn rfl rfl (by kernel_rfl) ?_
  refine o_load gn rfl rfl (by kernel_rfl) (by exact S.cel 1 rfl) rfl ?_
  refine o_len gn rfl rfl (by kernel_rfl) ?_
  refine o_lss gn rfl rfl rfl ?_
  refine wl_end ?_
  refine w_cond rfl (fun hb => ?_) fun hb => ?_
  · skip
    refine w_skip ?_
    refine w_seq ?_
    refine w_block ?_
    refine w_seq ?_
    refine w_seq ?_
    have hi : i < kids.length := by simp at hb; omega
    obtain ⟨kb, ko, kc', kcs, ke, km, hv2, hg2, hlt2, hat2⟩ := hm.atM (by omega)
    have hka : ka = some ⟨kb, ko, none⟩ := by injection hv2
    rw [List.drop_eq_getElem_cons hi] at hR
    refine w_region (by kernel_rfl) ?_
    refine o_fieldAddr (off := 5) gn rfl rfl (by kernel_rfl) ?_
    refine o_load gn rfl rfl (by kernel_rfl) (by exact S.cel 1 rfl) rfl ?_
    refine o_move gn rfl rfl ?_
    rw [hka]
    refine o_indexAddr (zz := 1) gn rfl rfl rfl (by kernel_rfl) (by omega) (by omega) ?_
    rw [← hka]
    refine o_load gn rfl rfl (by kernel_rfl) (S.old0 hg2 hlt2) (by rw [Int.toNat_natCast, Nat.mul_one]; exact hat2 i hi) ?_
    refine o_move gn rfl rfl ?_
    refine o_nei gn rfl rfl rfl ?_
    refine o_move gn rfl rfl ?_
    refine o_or (n := 5) rfl rfl rfl gn rfl (fun hb => by
        refine o_move (gy rfl rfl rfl hb) rfl rfl ?_
        refine o_fieldAddr (off := 0) (gy rfl rfl rfl hb) rfl rfl (by kernel_rfl) ?_
        refine o_load (gy rfl rfl rfl hb) rfl rfl (by kernel_rfl) (by exact S.cel 2 rfl) rfl ?_
        refine o_len (gy rfl rfl rfl hb) rfl rfl (by kernel_rfl) ?_
        refine o_geq (gy rfl rfl rfl hb) rfl rfl rfl ?_
        exact wl_end ⟨rfl, rfl, 5, rfl, rfl⟩) ?_
    refine wl_end ?_
    refine w_cond rfl (fun hb => ?_) fun hb => ?_
    · skip
      refine w_seq ?_
      refine w_region (by kernel_rfl) ?_
      refine o_assign gn rfl rfl ?_
      refine wl_end ?_
      refine w_ret ?_
      refine ⟨.inl rfl, _, rfl, ?_⟩
      exact ⟨by rw [hWalk, ← hR, kidsW_bad2 hb]; rfl, S.e0⟩
    refine w_skip ?_
    refine w_seq ?_
    obtain ⟨hkn, hnl2⟩ : kids[i] = (next : Int) ∧ next < T.length := by
      simp at hb; omega
    rw [hkn]
    have hw3 := hat next hnl2
    have hm3 := X2.2 _ (List.getElem_mem hnl2)
    have hq3 : T[next]? = some T[next] := List.getElem?_eq_getElem hnl2
    generalize T[next] = w3 at hw3 hm3 hq3
    obtain ⟨K3, s3, N3, L3, C3, ks3, kids3⟩ := w3
    simp only at hm3
    obtain ⟨ka3, kc3, rfl⟩ := hm3.valM
    have hk3 : cs[o + Int.toNat (next : Int) * 6 + 0]? = some (iV K3) := by rw [Int.toNat_natCast]; exact cut_at hw3 (by omega) rfl
    have hdl := deepK_le K s i K3 s3
    have hbl1 := b2i_le (decide (K3 = 12))
    have hbl2 := b2i_le (parenK K s i K3 s3)
    rw [hkn] at hR
    simp only [kidsW, if_true, hq3] at hR
    refine w_region (by kernel_rfl) ?_
    refine o_assign gn rfl rfl ?_
    refine wl_end ?_
    refine w_cutS [(2, iV nest), (3, ptrV b1), (7, ptrV b2), (8, kv), (9, iV next), (10, iV i)] (fun lv hh => lv = [(11, iV (b2i (decide (K3 = 12))))] ∧ SH h2 [] [slR 27 0 kv (isV (kindsOf T (kids.take i))) i bs, cR b2 (.cells (twC K s N L Co (.slice ka kids.length kc)) 30 0), cR b1 (.cells [.slice ta T.length tc] 24 0)] hh) ?_ fun lv hh hJ => ?_
    · skip
      refine w_seq ?_
      refine w_region (by kernel_rfl) ?_
      refine o_fieldAddr (off := 0) gn rfl rfl (by kernel_rfl) ?_
      refine o_load gn rfl rfl (by kernel_rfl) (by exact S.cel 2 rfl) rfl ?_
      refine o_move gn rfl rfl ?_
      rw [hta]
      refine o_indexAddr (zz := 6) gn rfl rfl rfl (by kernel_rfl) (by omega) (by omega) ?_
      refine o_fieldAddr (off := 0) gn rfl rfl (by kernel_rfl) ?_
      refine o_load gn rfl rfl (by kernel_rfl) (S.old0 hg hlb) hk3 ?_
      rw [← hta]
      refine o_eqi gn rfl rfl rfl ?_
      refine wl_end ?_
      refine w_cond rfl (fun hb => ?_) fun hb => ?_
      · skip
        refine w_region (by kernel_rfl) ?_
        refine o_move gn rfl rfl ?_
        refine o_add gn rfl rfl rfl (by omega) (by omega) ?_
        refine o_assign gn rfl rfl ?_
        refine wl_end ?_
        exact cutS [(11, _)] (by repeat (first | exact trivial | refine ⟨rfl, ?_⟩)) ⟨by rw [hb]; rfl, S⟩
      refine w_skip ?_
      exact cutS [(11, _)] (by repeat (first | exact trivial | refine ⟨rfl, ?_⟩)) ⟨by rw [hb]; rfl, S⟩
    obtain ⟨rfl, S⟩ := hJ
    refine w_cutS [(2, iV nest), (3, ptrV b1), (7, ptrV b2), (8, kv), (9, iV next), (10, iV i)] (fun lv hh => lv = [(11, iV (b2i (decide (K3 = 12)) + b2i (parenK K s i K3 s3)))] ∧ SH h2 [] [slR 27 0 kv (isV (kindsOf T (kids.take i))) i bs, cR b2 (.cells (twC K s N L Co (.slice ka kids.length kc)) 30 0), cR b1 (.cells [.slice ta T.length tc] 24 0)] hh) ?_ fun lv hh hJ => ?_
    · skip
      refine w_seq ?_
      refine w_region (by kernel_rfl) ?_
      refine o_loadA (n := 1) gn rfl rfl (by kernel_rfl) (by kernel_rfl) (by exact S.cel 2 rfl) (Nat.le_refl _) ?_
      refine o_loadA (n := 6) gn rfl rfl (by kernel_rfl) (by kernel_rfl) (by exact S.cel 1 rfl) (Nat.le_refl _) ?_
      refine o_move gn rfl rfl ?_
      refine o_call [_, _, _] gn rfl rfl (by kernel_rfl) rfl (C.mono (c45 (X2.ext S.e0) hT (hm.ext S.e0) hi (by omega) hkn hq3) ?_)
      rintro v g ⟨rfl, x⟩
      have S := S.grow x
      refine ⟨ag0, ?_⟩
      refine wl_end ?_
      refine w_cond rfl (fun hb => ?_) fun hb => ?_
      · skip
        refine w_region (by kernel_rfl) ?_
        refine o_move gn rfl rfl ?_
        refine o_add gn rfl rfl rfl (by omega) (by omega) ?_
        refine o_assign gn rfl rfl ?_
        refine wl_end ?_
        exact cutS [(11, _)] (by repeat (first | exact trivial | refine ⟨rfl, ?_⟩)) ⟨by rw [hb]; rfl, S⟩
      refine w_skip ?_
      exact cutS [(11, _)] (by repeat (first | exact trivial | refine ⟨rfl, ?_⟩)) ⟨by rw [hb]; simp [b2i], S⟩
    obtain ⟨rfl, S⟩ := hJ
    refine w_cutS [(2, iV nest), (3, ptrV b1), (7, ptrV b2), (8, kv), (9, iV next), (10, iV i)] (fun lv hh => lv = [(11, iV (deepK K s i K3 s3))] ∧ SH h2 [] [slR 27 0 kv (isV (kindsOf T (kids.take i))) i bs, cR b2 (.cells (twC K s N L Co (.slice ka kids.length kc)) 30 0), cR b1 (.cells [.slice ta T.length tc] 24 0)] hh) ?_ fun lv hh hJ => ?_
    · skip
      refine w_seq ?_
      refine w_region (by kernel_rfl) ?_
      refine o_fieldAddr (off := 0) gn rfl rfl (by kernel_rfl) ?_
      refine o_load gn rfl rfl (by kernel_rfl) (by exact S.cel 1 rfl) rfl ?_
      refine o_eqi gn rfl rfl rfl ?_
      refine o_move gn rfl rfl ?_
      refine o_and (n := 2) rfl rfl rfl gn rfl (fun hb => by
          refine o_move (gy rfl rfl rfl hb) rfl rfl ?_
          refine o_eqi (gy rfl rfl rfl hb) rfl rfl rfl ?_
          exact wl_end ⟨rfl, rfl, 2, rfl, rfl⟩) ?_
      refine o_move gn rfl rfl ?_
      refine o_or (n := 3) rfl rfl rfl gn rfl (fun hb => by
          refine o_fieldAddr (off := 0) (gy rfl rfl rfl hb) rfl rfl (by kernel_rfl) ?_
          refine o_load (gy rfl rfl rfl hb) rfl rfl (by kernel_rfl) (by exact S.cel 1 rfl) rfl ?_
          refine o_eqi (gy rfl rfl rfl hb) rfl rfl rfl ?_
          exact wl_end ⟨rfl, rfl, 3, rfl, rfl⟩) ?_
      refine o_move gn rfl rfl ?_
      refine o_or (n := 3) rfl rfl rfl gn rfl (fun hb => by
          refine o_fieldAddr (off := 0) (gy rfl rfl rfl hb) rfl rfl (by kernel_rfl) ?_
          refine o_load (gy rfl rfl rfl hb) rfl rfl (by kernel_rfl) (by exact S.cel 1 rfl) rfl ?_
          refine o_eqi (gy rfl rfl rfl hb) rfl rfl rfl ?_
          exact wl_end ⟨rfl, rfl, 3, rfl, rfl⟩) ?_
      refine wl_end ?_
      refine w_cond rfl (fun hb => ?_) fun hb => ?_
      · skip
        refine w_region (by kernel_rfl) ?_
        refine o_move gn rfl rfl ?_
        refine o_add gn rfl rfl rfl (by omega) (by omega) ?_
        refine o_assign gn rfl rfl ?_
        refine wl_end ?_
        exact cutS [(11, _)] (by repeat (first | exact trivial | refine ⟨rfl, ?_⟩)) ⟨by rw [deep_yes hb], S⟩
      refine w_skip ?_
      exact cutS [(11, _)] (by repeat (first | exact trivial | refine ⟨rfl, ?_⟩)) ⟨by rw [deep_no hb], S⟩
    obtain ⟨rfl, S⟩ := hJ
    refine w_seq ?_
    refine w_region (by kernel_rfl) ?_
    refine o_move gn rfl rfl ?_
    refine o_fieldAddr (off := 0) gn rfl rfl (by kernel_rfl) ?_
    refine o_load gn rfl rfl (by kernel_rfl) (by exact S.cel 2 rfl) rfl ?_
    refine o_move gn rfl rfl ?_
    rw [hta]
    refine o_indexAddr (zz := 6) gn rfl rfl rfl (by kernel_rfl) (by omega) (by omega) ?_
    refine o_fieldAddr (off := 0) gn rfl rfl (by kernel_rfl) ?_
    refine o_load gn rfl rfl (by kernel_rfl) (S.old0 hg hlb) hk3 ?_
    rw [← hta]
    refine s_buildSlice (cs := #[iV K3]) (e := 27) (z := 0) (zv := .int .i64 0) [(0, _)] S gn rfl (by kernel_rfl) (by kernel_rfl) (by kernel_rfl) (by kernel_rfl) rfl (by kernel_rfl) fun b3 g nb3 S => ?_
    refine s_append (e := 27) (z := 0) (by' := 7) 1 0 S el58 gn rfl rfl rfl rfl rfl rfl (by rfl) (by omega) (fun s' bs' g S => ag0) fun s' bs' g S => ?_
    refine o_assign gn rfl rfl ?_
    refine wl_end ?_
    refine w_seq ?_
    refine w_region (by kernel_rfl) ?_
    refine o_loadA (n := 1) gn rfl rfl (by kernel_rfl) (by kernel_rfl) (by exact S.cel 3 rfl) (Nat.le_refl _) ?_
    refine o_move gn rfl rfl ?_
    refine o_move gn rfl rfl ?_
    refine o_move gn rfl rfl ?_
    refine o_add gn rfl rfl rfl (by omega) (by omega) ?_
    refine o_call [_, _, _] gn rfl rfl (by kernel_rfl) rfl (C.mono (ih next (nest + deepK K s i K3 s3) _ (x2.trans S.e0) (by omega) (by omega) (by omega) (by omega)) ?_)
    rintro v g ⟨rfl, x⟩
    have S := S.grow x
    refine ⟨ag0, ?_⟩
    refine o_assign gn rfl rfl ?_
    refine wl_end ?_
    refine w_seq ?_
    refine w_region (by kernel_rfl) ?_
    refine o_move gn rfl rfl ?_
    refine o_eqi gn rfl rfl rfl ?_
    refine wl_end ?_
    refine w_cond rfl (fun hb => ?_) fun hb => ?_
    · skip
      refine w_seq ?_
      refine w_region (by kernel_rfl) ?_
      refine o_assign gn rfl rfl ?_
      refine wl_end ?_
      refine w_ret ?_
      refine ⟨.inl rfl, _, rfl, ?_⟩
      exact ⟨by
        cases hx : walkS T f next (nest + deepK K s i K3 s3) with
        | none => rw [hx] at hR; rw [hWalk, ← hR]; rfl
        | some n =>
          have := walkS_lt hx
          rw [hx] at hb; exact absurd (of_decide_eq_true hb) (show ¬ ((n : Int) = 0) by omega), S.e0⟩
    refine w_skip ?_
    obtain ⟨n3, hn3⟩ : ∃ n, walkS T f next (nest + deepK K s i K3 s3) = some n := by
      cases hx : walkS T f next (nest + deepK K s i K3 s3) with
      | none => rw [hx] at hb; exact absurd hb (by decide)
      | some n => exact ⟨n, rfl⟩
    have hn4 := walkS_lt hn3
    rw [hn3]
    rw [hn3] at hR
    have hkinds : isV (kindsOf T (kids.take (i + 1))) = isV (kindsOf T (kids.take i)) ++ [iV K3] := by
      rw [List.take_add_one, List.getElem?_eq_getElem hi, hkn]
      simp [kindsOf, hq3]
    refine w_region (by kernel_rfl) ?_
    refine o_move gn rfl rfl ?_
    refine o_add gn rfl rfl rfl (by omega) (by omega) ?_
    refine o_assign gn rfl rfl ?_
    refine wl_end ?_
    exact rndS (kids.length - (i + 1)) (by omega) [(8, _), (9, _), (10, _)] (by repeat (first | exact trivial | refine ⟨rfl, ?_⟩)) ⟨i + 1, n3, s', bs', rfl, rfl, by omega, by rw [hkinds]; exact S.drop, by omega, by omega, hR⟩
  refine w_exit ?_
  refine thn_exit ?_
  refine rnd_exit ?_
  refine blk_eq ?_
  refine w_seq ?_
  refine w_seq ?_
  have hii : i = kids.length := by simp at hb; omega
  subst hii
  rw [List.drop_length] at hR
  have hR1 : R0 = some next := hR.symm
  rw [hR1] at hWalk
  have hkl : (kindsOf T kids).length = kids.length := by simp [kindsOf]
  have hsl : SlC 27 0 hh kv (isV (kindsOf T kids)) (kindsOf T kids).length bs := by
    have := S.sl 0 rfl; rw [List.take_length] at this; rw [hkl]; exact this
  refine w_region (by kernel_rfl) ?_
  refine o_fieldAddr (off := 0) gn rfl rfl (by kernel_rfl) ?_
  refine o_load gn rfl rfl (by kernel_rfl) (by exact S.cel 1 rfl) rfl ?_
  refine o_move gn rfl rfl ?_
  refine o_call [_, _] gn rfl rfl (by kernel_rfl) rfl (C.mono (c46 hsl.row (by omega)) ?_)
  rintro v g ⟨rfl, x⟩
  have S := S.grow x
  refine ⟨ag0, ?_⟩
  refine o_not gn rfl rfl ?_
  refine wl_end ?_
  refine w_cond rfl (fun hb => ?_) fun hb => ?_
  · skip
    refine w_seq ?_
    refine w_region (by kernel_rfl) ?_
    refine o_assign gn rfl rfl ?_
    refine wl_end ?_
    refine w_ret ?_
    refine ⟨.inl rfl, _, rfl, ?_⟩
    exact ⟨by rw [hWalk]; rw [Bool.not_eq_true'] at hb; rw [hb]; rfl, S.e0⟩
  refine w_skip ?_
  refine w_seq ?_
  refine w_region (by kernel_rfl) ?_
  refine o_move gn rfl rfl ?_
  refine o_assign gn rfl rfl ?_
  refine wl_end ?_
  refine w_ret ?_
  refine ⟨.inl rfl, _, rfl, ?_⟩
  exact ⟨by rw [hWalk]; rw [Bool.not_eq_false'] at hb; rw [hb]; rfl, S.e0⟩

/-- May, the document's -/
theorem c11 (X : TreeAt h sv T) (hT : T.length ≤ 1000) (hs : ∀ t, t ∈ T → t.s.toList.length ≤ 100) : C trE 11 [.agg #[sv]] h fun v h' => v = .bool (mayS T) ∧ Ext h h' := by
  obtain ⟨ta, tc, rfl⟩ := X.val
  refine c_enter (fu := Tryd.f11) (by kernel_rfl) rfl ?_
  have S := SH.start h
  refine w_seq ?_
  refine w_region (by kernel_rfl) ?_
  refine s_box S gn rfl rfl fun b1 g nb1 S => ?_
  refine o_assign gn rfl rfl ?_
  refine wl_end ?_
  refine w_seq ?_
  refine w_draw [(0, []), (1, []), (2, []), (3, []), (4, []), (5, []), (6, []), (7, []), (8, []), (9, []), (10, []), (11, []), (12, []), (13, []), (15, []), (16, []), (17, []), (14, [16, 17]), (18, []), (19, []), (20, [])] (by kernel_rfl) (by kernel_rfl) (by kernel_rfl) (by kernel_rfl) ?_
  refine o_fieldAddr (off := 0) gn rfl rfl (by kernel_rfl) ?_
  refine o_load gn rfl rfl (by kernel_rfl) (by exact S.cel 0 rfl) rfl ?_
  refine o_len gn rfl rfl (by kernel_rfl) ?_
  refine o_gtr gn rfl rfl rfl ?_
  refine o_move gn rfl rfl ?_
  refine o_and (B := decide (headK T = 1)) (n := 6) rfl rfl rfl gn rfl (fun hb => by
      refine o_fieldAddr (off := 0) (gy rfl rfl rfl hb) rfl rfl (by kernel_rfl) ?_
      refine o_load (gy rfl rfl rfl hb) rfl rfl (by kernel_rfl) (by exact S.cel 0 rfl) rfl ?_
      have hlt : 0 < T.length := by simpa using hb
      obtain ⟨b, o, c, cs, e, m, hv, hg, hlb, hl6, hat⟩ := X.at hlt
      have hta : ta = some ⟨b, o, none⟩ := by injection hv
      have hw : cs[o + 0 * 6 + 0]? = some (iV (headK T)) := by rw [headK_at hlt]; exact cut_at (hat 0 hlt) (by omega) rfl
      rw [hta]
      refine o_indexAddr (zz := 6) (gy rfl rfl rfl hb) rfl rfl rfl (by kernel_rfl) (by omega) (by omega) ?_
      refine o_fieldAddr (off := 0) (gy rfl rfl rfl hb) rfl rfl (by kernel_rfl) ?_
      refine o_load (gy rfl rfl rfl hb) rfl rfl (by kernel_rfl) (S.old0 hg hlb) hw ?_
      refine o_eqi (gy rfl rfl rfl hb) rfl rfl rfl ?_
      exact wl_end ⟨rfl, rfl, 6, rfl, rfl⟩) ?_
  refine o_move gn rfl rfl ?_
  refine wl_split (dc := 15) rfl (fun hb15 => ?_) fun hb15 => ?_
  · skip
    refine o_loadA (n := 1) (gy rfl rfl rfl hb15) rfl rfl (by kernel_rfl) (by kernel_rfl) (by exact S.cel 0 rfl) (Nat.le_refl _) ?_
    refine o_fieldAddr (off := 0) (gy rfl rfl rfl hb15) rfl rfl (by kernel_rfl) ?_
    refine o_load (gy rfl rfl rfl hb15) rfl rfl (by kernel_rfl) (by exact S.cel 0 rfl) rfl ?_
    refine o_len (gy rfl rfl rfl hb15) rfl rfl (by kernel_rfl) ?_
    refine o_call [_, _, _] (gy rfl rfl rfl hb15) rfl rfl (by kernel_rfl) rfl (C.mono (c26 (X.ext S.e0) hT hs (T.length + 1) 0 0 _ (.refl _) (by omega) (by omega) (by omega) (by omega)) ?_)
    rintro v g ⟨rfl, x⟩
    have S := S.grow x
    refine ⟨(ag1 (ag_load (gy rfl rfl rfl hb15) rfl (by kernel_rfl) (by exact S.cel 0 rfl) rfl rfl same_slice) (ag1 (ag_len (gy rfl rfl rfl hb15) rfl (by kernel_rfl) rfl) ag0)), ?_⟩
    refine o_eqi (gy rfl rfl rfl hb15) rfl rfl rfl ?_
    refine o_pickt gn rfl rfl hb15 rfl ?_
    refine o_assign gn rfl rfl ?_
    refine wl_end ?_
    refine w_ret ?_
    refine ⟨.inl rfl, _, rfl, ?_⟩
    exact ⟨by
      have h0 : 0 < T.length := by simp at hb15; omega
      rw [mayS, hb15, Bool.true_and, ← enc_eq h0]; rfl, S.e0⟩
  refine wl_skips (n := 6) (dc := 15) (w := true) rfl hb15 rfl ?_
  refine o_pickf gn rfl rfl hb15 rfl ?_
  refine o_assign gn rfl rfl ?_
  refine wl_end ?_
  refine w_ret ?_
  refine ⟨.inl rfl, _, rfl, ?_⟩
  exact ⟨by rw [mayS, hb15, Bool.false_and]; rfl, S.e0⟩
end
end Go.Proofs.YtoejddhaiogonaaDoor

namespace Go.Proofs.YtoejddhaiogonaaDoor
open Go.X

def sameW (x y : Tw) : Bool := decide (x.K = y.K) && eqS x.s y.s && decide (x.N = y.N) && decide (x.kids = y.kids)
def sameT : List Tw → List Tw → Bool
  | [], [] => true
  | x :: A, y :: B => sameW x y && sameT A B
  | _, _ => false
theorem sameT_iff : ∀ {A B : List Tw}, sameT A B = true ↔ A.length = B.length ∧ ∀ i (h1 : i < A.length) (h2 : i < B.length), sameW A[i] B[i] = true
  | [], [] => by simp [sameT]
  | [], y :: B => by simp [sameT]
  | x :: A, [] => by simp [sameT]
  | x :: A, y :: B => by
    simp only [sameT, Bool.and_eq_true, sameT_iff (A := A) (B := B), List.length_cons]
    constructor
    · rintro ⟨h1, h2, h3⟩
      refine ⟨by omega, fun i h4 h5 => ?_⟩
      cases i with
      | zero => exact h1
      | succ i => exact h3 i (by omega) (by omega)
    rintro ⟨h1, h2⟩
    exact ⟨h2 0 (by omega) (by omega), by omega, fun i h4 h5 => h2 (i + 1) (by omega) (by omega)⟩
theorem sameW_iff {x y : Tw} : sameW x y = true ↔ x.K = y.K ∧ x.s.toList = y.s.toList ∧ x.N = y.N ∧ x.kids = y.kids := by simp [sameW, and_assoc]
theorem sameT_no {A B : List Tw} {i : Nat} (h1 : i < A.length) (h2 : i < B.length) (h : sameW A[i] B[i] = false) : sameT A B = false := by
  cases hs : sameT A B with
  | false => rfl
  | true => rw [(sameT_iff.1 hs).2 i h1 h2] at h; cases h
theorem sameT_len {A B : List Tw} (h : (!decide ((A.length : Int) = B.length)) = true) : sameT A B = false := by
  cases hs : sameT A B with
  | false => rfl
  | true => rw [(sameT_iff.1 hs).1] at h; simp at h

section
variable {h : Hp} {v1 v2 : Value}

end
end Go.Proofs.YtoejddhaiogonaaDoor

namespace Go.Proofs.YtoejddhaiogonaaDoor
open Go.X

theorem diff_no {x y : Tw} (h : (((!decide (x.K = y.K) || !eqS x.s y.s) || !decide (x.N = y.N)) || !decide ((x.kids.length : Int) = y.kids.length)) = true) : sameW x y = false := by
  cases hs : sameW x y with
  | false => rfl
  | true =>
    obtain ⟨e1, e2, e3, e4⟩ := sameW_iff.1 hs
    rw [e1, e3, e4] at h
    simp [e2] at h
theorem diff_yes {x y : Tw} (h : (((!decide (x.K = y.K) || !eqS x.s y.s) || !decide (x.N = y.N)) || !decide ((x.kids.length : Int) = y.kids.length)) = false) : x.K = y.K ∧ x.s.toList = y.s.toList ∧ x.N = y.N ∧ x.kids.length = y.kids.length := by
  simp only [Bool.or_eq_false_iff, Bool.not_eq_false', decide_eq_true_eq, eqS, beq_iff_eq] at h
  exact ⟨h.1.1.1, h.1.1.2, h.1.2, by omega⟩

section
variable {h : Hp} {v1 v2 : Value}

/-- Same, the document's -/
theorem c14 {A B : List Tw} (X1 : TreeAt h v1 A) (X2 : TreeAt h v2 B) (hA : A.length ≤ 1000) (hk : ∀ t, t ∈ A → t.kids.length ≤ 9223372036854775807) : C trE 14 [.agg #[v1], .agg #[v2]] h fun v h' => v = .bool (sameT A B) ∧ Ext h h' := by
  obtain ⟨a1, c1, rfl⟩ := X1.val
  obtain ⟨a2, c2, rfl⟩ := X2.val
  refine c_enter (fu := Tryd.f14) (by kernel_rfl) rfl ?_
  have S := SH.start h
  refine w_seq ?_
  refine w_region (by kernel_rfl) ?_
  refine s_box S gn rfl rfl fun b1 g nb1 S => ?_
  refine s_box S gn rfl rfl fun b2 g nb2 S => ?_
  refine o_assign gn rfl rfl ?_
  refine wl_end ?_
  refine w_seq ?_
  refine w_seq ?_
  refine w_region (by kernel_rfl) ?_
  refine o_fieldAddr (off := 0) gn rfl rfl (by kernel_rfl) ?_
  refine o_load gn rfl rfl (by kernel_rfl) (by exact S.cel 1 rfl) rfl ?_
  refine o_len gn rfl rfl (by kernel_rfl) ?_
  refine o_fieldAddr (off := 0) gn rfl rfl (by kernel_rfl) ?_
  refine o_load gn rfl rfl (by kernel_rfl) (by exact S.cel 0 rfl) rfl ?_
  refine o_len gn rfl rfl (by kernel_rfl) ?_
  refine o_nei gn rfl rfl rfl ?_
  refine wl_end ?_
  refine w_cond rfl (fun hb => ?_) fun hb => ?_
  · skip
    refine w_seq ?_
    refine w_region (by kernel_rfl) ?_
    refine o_assign gn rfl rfl ?_
    refine wl_end ?_
    refine w_ret ?_
    refine ⟨.inl rfl, _, rfl, ?_⟩
    exact ⟨by rw [sameT_len hb]; rfl, S.e0⟩
  refine w_skip ?_
  have hlen : A.length = B.length := by simp at hb; omega
  refine w_seq ?_
  refine w_seq ?_
  refine w_region (by kernel_rfl) ?_
  refine o_assign gn rfl rfl ?_
  refine wl_end ?_
  refine w_block ?_
  refine w_loopS [(5, _)] [(2, _), (3, _)] (by repeat (first | exact trivial | refine ⟨rfl, ?_⟩)) (fun kk lv hh => ∃ j : Nat, lv = [(5, iV j)] ∧ kk = A.length - j ∧ j ≤ A.length ∧ SH h [] [cR b2 (.cells [.slice a2 B.length c2] 24 0), cR b1 (.cells [.slice a1 A.length c1] 24 0)] hh ∧ ∀ i (h1 : i < A.length) (h2 : i < B.length), i < j → sameW A[i] B[i] = true) (n := (A.length)) ?_ fun kk lv hh hI => ?_
  · exact ⟨0, rfl, rfl, by omega, S, fun i _ _ hi => by omega⟩
  obtain ⟨j, rfl, hkk, hj, S, hs⟩ := hI
  refine w_seq ?_
  refine w_seq ?_
  refine w_region (by kernel_rfl) ?_
  refine o_move gn rfl rfl ?_
  refine o_fieldAddr (off := 0) gn rfl rfl (by kernel_rfl) ?_
  refine o_load gn rfl rfl (by kernel_rfl) (by exact S.cel 1 rfl) rfl ?_
  refine o_len gn rfl rfl (by kernel_rfl) ?_
  refine o_lss gn rfl rfl rfl ?_
  refine wl_end ?_
  refine w_cond rfl (fun hb => ?_) fun hb => ?_
  · skip
    refine w_skip ?_
    have hj : j < A.length := by simp at hb; omega
    have hj2 : j < B.length := by omega
    obtain ⟨p1, o1, c1', cs1, e1, m1, hv1, hg1, hlt1, hl1, hat1⟩ := X1.at (by omega)
    have ha1 : a1 = some ⟨p1, o1, none⟩ := by injection hv1
    obtain ⟨p2, o2, c2', cs2, e2, m2, hv2, hg2, hlt2, hl2, hat2⟩ := X2.at (by omega)
    have ha2 : a2 = some ⟨p2, o2, none⟩ := by injection hv2
    have hw1 := hat1 j hj
    have hw2 := hat2 j hj2
    have r1 := X1.2 _ (List.getElem_mem hj)
    have r2 := X2.2 _ (List.getElem_mem hj2)
    have hkj := hk _ (List.getElem_mem hj)
    obtain ⟨x, hx⟩ : ∃ x, x = A[j] := ⟨_, rfl⟩
    obtain ⟨y, hy⟩ : ∃ y, y = B[j] := ⟨_, rfl⟩
    rw [← hx] at hw1 r1 hkj
    rw [← hy] at hw2 r2
    obtain ⟨K, s, N, L, Co, ks, kids⟩ := x
    obtain ⟨K', s', N', L', Co', ks', kids'⟩ := y
    simp only at r1 r2 hkj
    have q1 := RowV.same r1
    have q2 := RowV.same r2
    obtain ⟨ka, kc, rfl⟩ := r1.valM
    obtain ⟨ka', kc', rfl⟩ := r2.valM
    have hw3 : (cs1.drop (o1 + Int.toNat (j : Int) * 6)).take 6 = [iV K, .string s, iV N, iV L, iV Co, .slice ka kids.length kc] := by rw [Int.toNat_natCast]; exact hw1
    have hw4 : (cs2.drop (o2 + Int.toNat (j : Int) * 6)).take 6 = [iV K', .string s', iV N', iV L', iV Co', .slice ka' kids'.length kc'] := by rw [Int.toNat_natCast]; exact hw2
    refine w_seq ?_
    refine w_block ?_
    refine w_seq ?_
    refine w_draw [(0, []), (1, []), (2, []), (3, []), (4, []), (5, []), (6, []), (7, []), (8, []), (9, []), (10, []), (11, []), (12, [6, 9]), (13, [])] (by kernel_rfl) (by kernel_rfl) (by kernel_rfl) (by kernel_rfl) ?_
    refine o_fieldAddr (off := 0) gn rfl rfl (by kernel_rfl) ?_
    refine o_load gn rfl rfl (by kernel_rfl) (by exact S.cel 1 rfl) rfl ?_
    refine o_move gn rfl rfl ?_
    rw [ha1]
    refine o_indexAddr (zz := 6) gn rfl rfl rfl (by kernel_rfl) (by omega) (by omega) ?_
    refine o_loadA (n := 6) gn rfl rfl (by kernel_rfl) (by kernel_rfl) (S.old0 hg1 hlt1) (by rw [Int.toNat_natCast]; omega) ?_
    rw [hw3, ← ha1]
    refine o_fieldAddr (off := 0) gn rfl rfl (by kernel_rfl) ?_
    refine o_load gn rfl rfl (by kernel_rfl) (by exact S.cel 0 rfl) rfl ?_
    refine o_move gn rfl rfl ?_
    rw [ha2]
    refine o_indexAddr (zz := 6) gn rfl rfl rfl (by kernel_rfl) (by omega) (by omega) ?_
    refine o_loadA (n := 6) gn rfl rfl (by kernel_rfl) (by kernel_rfl) (S.old0 hg2 hlt2) (by rw [Int.toNat_natCast]; omega) ?_
    rw [hw4]
    refine s_alloc (zv := .agg #[.int .i64 0, .string .empty, .int .i64 0, .int .i64 0, .int .i64 0, .slice none 0 0]) S gn rfl (by kernel_rfl) fun b3 g nb3 S => ?_
    refine s_alloc (zv := .agg #[.int .i64 0, .string .empty, .int .i64 0, .int .i64 0, .int .i64 0, .slice none 0 0]) S gn rfl (by kernel_rfl) fun b4 g nb4 S => ?_
    rw [← ha2]
    refine s_storeA (n := 6) 1 S gn rfl rfl (by kernel_rfl) (by kernel_rfl) rfl rfl (by decide) rfl (fun g S => (ag1 (ag_load gn rfl (by kernel_rfl) (S.cel 2 rfl) rfl rfl same_slice) (ag1 (ag_loadA (b := p2) (o := o2 + Int.toNat (j : Int) * 6) (n := 6) gn rfl (by kernel_rfl) (by kernel_rfl) (S.old0 hg2 hlt2) (by rw [Int.toNat_natCast]; omega) (by rw [hw4]; rfl) (by rw [hw4]; exact same_tw q2)) ag0))) fun g S => ?_
    refine s_storeA (n := 6) 0 S gn rfl rfl (by kernel_rfl) (by kernel_rfl) rfl rfl (by decide) rfl (fun g S => ag0) fun g S => ?_
    refine wl_end ?_
    refine w_seq ?_
    refine w_seq ?_
    refine w_region (by kernel_rfl) ?_
    refine o_fieldAddr (off := 0) gn rfl rfl (by kernel_rfl) ?_
    refine o_load gn rfl rfl (by kernel_rfl) (by exact S.cel 1 rfl) rfl ?_
    refine o_fieldAddr (off := 0) gn rfl rfl (by kernel_rfl) ?_
    refine o_load gn rfl rfl (by kernel_rfl) (by exact S.cel 0 rfl) rfl ?_
    refine o_nei gn rfl rfl rfl ?_
    refine o_move gn rfl rfl ?_
    refine o_or (n := 5) rfl rfl rfl gn rfl (fun hb => by
        refine o_fieldAddr (off := 1) (gy rfl rfl rfl hb) rfl rfl (by kernel_rfl) ?_
        refine o_load (gy rfl rfl rfl hb) rfl rfl (by kernel_rfl) (by exact S.cel 1 rfl) rfl ?_
        refine o_fieldAddr (off := 1) (gy rfl rfl rfl hb) rfl rfl (by kernel_rfl) ?_
        refine o_load (gy rfl rfl rfl hb) rfl rfl (by kernel_rfl) (by exact S.cel 0 rfl) rfl ?_
        refine o_neS (gy rfl rfl rfl hb) rfl rfl rfl ?_
        exact wl_end ⟨rfl, rfl, 5, rfl, rfl⟩) ?_
    refine o_move gn rfl rfl ?_
    refine o_or (n := 5) rfl rfl rfl gn rfl (fun hb => by
        refine o_fieldAddr (off := 2) (gy rfl rfl rfl hb) rfl rfl (by kernel_rfl) ?_
        refine o_load (gy rfl rfl rfl hb) rfl rfl (by kernel_rfl) (by exact S.cel 1 rfl) rfl ?_
        refine o_fieldAddr (off := 2) (gy rfl rfl rfl hb) rfl rfl (by kernel_rfl) ?_
        refine o_load (gy rfl rfl rfl hb) rfl rfl (by kernel_rfl) (by exact S.cel 0 rfl) rfl ?_
        refine o_nei (gy rfl rfl rfl hb) rfl rfl rfl ?_
        exact wl_end ⟨rfl, rfl, 5, rfl, rfl⟩) ?_
    refine o_move gn rfl rfl ?_
    refine o_or (n := 7) rfl rfl rfl gn rfl (fun hb => by
        refine o_fieldAddr (off := 5) (gy rfl rfl rfl hb) rfl rfl (by kernel_rfl) ?_
        refine o_load (gy rfl rfl rfl hb) rfl rfl (by kernel_rfl) (by exact S.cel 1 rfl) rfl ?_
        refine o_len (gy rfl rfl rfl hb) rfl rfl (by kernel_rfl) ?_
        refine o_fieldAddr (off := 5) (gy rfl rfl rfl hb) rfl rfl (by kernel_rfl) ?_
        refine o_load (gy rfl rfl rfl hb) rfl rfl (by kernel_rfl) (by exact S.cel 0 rfl) rfl ?_
        refine o_len (gy rfl rfl rfl hb) rfl rfl (by kernel_rfl) ?_
        refine o_nei (gy rfl rfl rfl hb) rfl rfl rfl ?_
        exact wl_end ⟨rfl, rfl, 7, rfl, rfl⟩) ?_
    refine wl_end ?_
    refine w_cond rfl (fun hb => ?_) fun hb => ?_
    · skip
      refine w_seq ?_
      refine w_region (by kernel_rfl) ?_
      refine o_assign gn rfl rfl ?_
      refine wl_end ?_
      refine w_ret ?_
      refine ⟨.inl rfl, _, rfl, ?_⟩
      exact ⟨by rw [sameT_no hj hj2 (by rw [← hx, ← hy]; exact diff_no hb)]; rfl, S.e0⟩
    refine w_skip ?_
    obtain ⟨y1, y2, y3, y4⟩ := diff_yes (x := ⟨K, s, N, L, Co, .slice ka kids.length kc, kids⟩) (y := ⟨K', s', N', L', Co', .slice ka' kids'.length kc', kids'⟩) hb
    simp only at y1 y2 y3 y4
    refine w_seq ?_
    refine w_region (by kernel_rfl) ?_
    refine o_assign gn rfl rfl ?_
    refine wl_end ?_
    refine w_block ?_
    refine w_loopS [(8, _)] [(2, _), (3, _), (5, _), (6, _), (7, _)] (by repeat (first | exact trivial | refine ⟨rfl, ?_⟩)) (fun kk lv hh => ∃ i : Nat, lv = [(8, iV i)] ∧ kk = kids.length - i ∧ i ≤ kids.length ∧ SH h [] [cR b4 (.cells (twC K' s' N' L' Co' (.slice ka' kids'.length kc')) 30 0), cR b3 (.cells (twC K s N L Co (.slice ka kids.length kc)) 30 0), cR b2 (.cells [.slice a2 B.length c2] 24 0), cR b1 (.cells [.slice a1 A.length c1] 24 0)] hh ∧ ∀ p (h1 : p < kids.length) (h2 : p < kids'.length), p < i → kids[p] = kids'[p]) (n := (kids.length)) ?_ fun kk lv hh hI => ?_
    · exact ⟨0, rfl, rfl, by omega, S, fun i _ _ hi => by omega⟩
    obtain ⟨i, rfl, hkk2, hi, S, hs2⟩ := hI
    refine w_seq ?_
    refine w_seq ?_
    refine w_region (by kernel_rfl) ?_
    refine o_move gn rfl rfl ?_
    refine o_fieldAddr (off := 5) gn rfl rfl (by kernel_rfl) ?_
    refine o_load gn rfl rfl (by kernel_rfl) (by exact S.cel 1 rfl) rfl ?_
    refine o_len gn rfl rfl (by kernel_rfl) ?_
    refine o_lss gn rfl rfl rfl ?_
    refine wl_end ?_
    refine w_cond rfl (fun hb => ?_) fun hb => ?_
    · skip
      refine w_skip ?_
      have hi1 : i < kids.length := by simp at hb; omega
      have hi2 : i < kids'.length := by omega
      obtain ⟨kb, ko, kc1, kcs, ke, km, kv1, kg1, kl1, kat1⟩ := r1.atM (by omega)
      have hka : ka = some ⟨kb, ko, none⟩ := by injection kv1
      obtain ⟨kb', ko', kc1', kcs', ke', km', kv2, kg2, kl2, kat2⟩ := r2.atM (by omega)
      have hka' : ka' = some ⟨kb', ko', none⟩ := by injection kv2
      refine w_seq ?_
      refine w_block ?_
      refine w_seq ?_
      refine w_draw [(0, []), (1, []), (2, []), (3, []), (4, []), (5, []), (6, []), (7, []), (8, []), (9, []), (10, [])] (by kernel_rfl) (by kernel_rfl) (by kernel_rfl) (by kernel_rfl) ?_
      refine o_fieldAddr (off := 5) gn rfl rfl (by kernel_rfl) ?_
      refine o_load gn rfl rfl (by kernel_rfl) (by exact S.cel 1 rfl) rfl ?_
      refine o_move gn rfl rfl ?_
      rw [hka]
      refine o_indexAddr (zz := 1) gn rfl rfl rfl (by kernel_rfl) (by omega) (by omega) ?_
      rw [← hka]
      refine o_load gn rfl rfl (by kernel_rfl) (S.old0 kg1 kl1) (by rw [Int.toNat_natCast, Nat.mul_one]; exact kat1 i hi1) ?_
      refine o_fieldAddr (off := 5) gn rfl rfl (by kernel_rfl) ?_
      refine o_load gn rfl rfl (by kernel_rfl) (by exact S.cel 0 rfl) rfl ?_
      refine o_move gn rfl rfl ?_
      rw [hka']
      refine o_indexAddr (zz := 1) gn rfl rfl rfl (by kernel_rfl) (by omega) (by omega) ?_
      rw [← hka']
      refine o_load gn rfl rfl (by kernel_rfl) (S.old0 kg2 kl2) (by rw [Int.toNat_natCast, Nat.mul_one]; exact kat2 i hi2) ?_
      refine o_nei gn rfl rfl rfl ?_
      refine wl_end ?_
      refine w_cond rfl (fun hb => ?_) fun hb => ?_
      · skip
        refine w_seq ?_
        refine w_region (by kernel_rfl) ?_
        refine o_assign gn rfl rfl ?_
        refine wl_end ?_
        refine w_ret ?_
        refine ⟨.inl rfl, _, rfl, ?_⟩
        exact ⟨by
          rw [sameT_no hj hj2 (by
            rw [← hx, ← hy]
            cases hs : sameW ⟨K, s, N, L, Co, .slice ka kids.length kc, kids⟩ ⟨K', s', N', L', Co', .slice ka' kids'.length kc', kids'⟩ with
            | false => rfl
            | true =>
              obtain ⟨_, _, _, e4⟩ := sameW_iff.1 hs
              simp only at e4
              subst e4
              simp at hb)]; rfl, S.e0⟩
      refine w_skip ?_
      refine w_region (by kernel_rfl) ?_
      refine o_move gn rfl rfl ?_
      refine o_add gn rfl rfl rfl (by omega) (by omega) ?_
      refine o_assign gn rfl rfl ?_
      refine wl_end ?_
      exact rndS (kids.length - (i + 1)) (by omega) [(8, _)] (by repeat (first | exact trivial | refine ⟨rfl, ?_⟩)) ⟨i + 1, rfl, rfl, by omega, S, fun p h1 h2 hp => by
        have hsw : kids[i] = kids'[i] := by simpa using hb
        by_cases e : p = i
        · subst e; exact hsw
        exact hs2 p h1 h2 (by omega)⟩
    refine w_exit ?_
    refine thn_exit ?_
    refine rnd_exit ?_
    refine blk_eq ?_
    refine w_region (by kernel_rfl) ?_
    refine o_move gn rfl rfl ?_
    refine o_add gn rfl rfl rfl (by omega) (by omega) ?_
    refine o_assign gn rfl rfl ?_
    refine wl_end ?_
    exact rndS (A.length - (j + 1)) (by omega) [(5, _)] (by repeat (first | exact trivial | refine ⟨rfl, ?_⟩)) ⟨j + 1, rfl, rfl, by omega, S.drop.drop, fun p h1 h2 hp => by
      have hii : i = kids.length := by simp at hb; omega
      have hsw : sameW A[j] B[j] = true := by
        rw [← hx, ← hy]
        exact sameW_iff.2 ⟨y1, y2, y3, List.ext_getElem y4 fun p h1 h2 => hs2 p h1 h2 (by rw [hii]; exact h1)⟩
      by_cases e : p = j
      · subst e; exact hsw
      exact hs p h1 h2 (by omega)⟩
  refine w_exit ?_
  refine thn_exit ?_
  refine rnd_exit ?_
  refine blk_eq ?_
  refine w_seq ?_
  refine w_region (by kernel_rfl) ?_
  refine o_assign gn rfl rfl ?_
  refine wl_end ?_
  refine w_ret ?_
  refine ⟨.inl rfl, _, rfl, ?_⟩
  exact ⟨by
    have hjj : j = A.length := by simp at hb; omega
    subst hjj
    rw [sameT_iff.2 ⟨hlen, fun i h1 h2 => hs i h1 h2 h1⟩]; rfl, S.e0⟩
end
end Go.Proofs.YtoejddhaiogonaaDoor

namespace Go.Proofs.YtoejddhaiogonaaDoor
open Go.X

def kidsAt (T : List Tw) (i : Nat) : List Int := match T[i]? with
  | some w => w.kids
  | none => []
theorem kidsAt_of {T : List Tw} {i : Nat} {w : Tw} (h : T[i]? = some w) : kidsAt T i = w.kids := by rw [kidsAt, h]
/-- What is owned within twigs from a up to n. -/
def Own (T : List Tw) (a n : Nat) : Prop := (∀ i, a ≤ i → i < n → ∀ k, k ∈ kidsAt T i → (i : Int) < k ∧ k < (n : Int)) ∧ (∀ i j k, a ≤ i → i < n → a ≤ j → j < n → k ∈ kidsAt T i → k ∈ kidsAt T j → i = j) ∧ (∀ p : Nat, a < p → p < n → ∃ i, a ≤ i ∧ i < n ∧ (p : Int) ∈ kidsAt T i)
def OwnL (T : List Tw) (l : List Int) (a n : Nat) : Prop := (∀ i, a ≤ i → i < n → ∀ k, k ∈ kidsAt T i → (i : Int) < k ∧ k < (n : Int)) ∧ (∀ i j k, a ≤ i → i < n → a ≤ j → j < n → k ∈ kidsAt T i → k ∈ kidsAt T j → i = j) ∧
  (∀ k, k ∈ l → (a : Int) ≤ k ∧ k < (n : Int) ∧ ∀ i, a ≤ i → i < n → k ∉ kidsAt T i) ∧ (∀ p : Nat, a ≤ p → p < n → (p : Int) ∈ l ∨ ∃ i, a ≤ i ∧ i < n ∧ (p : Int) ∈ kidsAt T i)
theorem own_kids {rec : Nat → Int → Option Nat} {T : List Tw} {w : Tw} {nest : Int} (hr : ∀ at' nest n, rec at' nest = some n → at' < n ∧ Own T at' n) : ∀ {l : List Int} {i next n : Nat}, kidsW rec T w nest l i next = some n → next ≤ n ∧ OwnL T l next n
  | [], i, next, n, e => by
    simp [kidsW] at e
    subst e
    exact ⟨Nat.le_refl _, fun i h1 h2 => by omega, fun i j k h1 h2 => by omega, fun k hk => by (cases hk), fun p h1 h2 => by omega⟩
  | k :: l, i, next, n, e => by
    simp only [kidsW] at e
    split at e
    · rename_i hk
      split at e
      · split at e
        · rename_i q hq
          obtain ⟨h1, o1, o2, o3⟩ := hr _ _ _ hq
          obtain ⟨h2, p1, p2, p3, p4⟩ := own_kids hr e
          have lo : ∀ i, next ≤ i → i < n → i < q ∨ q ≤ i := fun i _ _ => by omega
          refine ⟨by omega, fun i hi1 hi2 k' hk' => ?_, fun i j k' hi1 hi2 hj1 hj2 hki hkj => ?_, fun k' hk' => ?_, fun p hp1 hp2 => ?_⟩
          · rcases lo i hi1 hi2 with h | h
            · have := o1 i hi1 h k' hk'; omega
            exact p1 i h hi2 k' hk'
          · rcases lo i hi1 hi2 with h | h <;> rcases lo j hj1 hj2 with h' | h'
            · exact o2 i j k' hi1 h hj1 h' hki hkj
            · have := o1 i hi1 h k' hki; have := p1 j h' hj2 k' hkj; omega
            · have := o1 j hj1 h' k' hkj; have := p1 i h hi2 k' hki; omega
            exact p2 i j k' h hi2 h' hj2 hki hkj
          · rcases List.mem_cons.1 hk' with rfl | hk'
            · refine ⟨by omega, by omega, fun i hi1 hi2 hm => ?_⟩
              rcases lo i hi1 hi2 with h | h
              · have := o1 i hi1 h _ hm; omega
              have := p1 i h hi2 _ hm; omega
            obtain ⟨a1, a2, a3⟩ := p3 k' hk'
            refine ⟨by omega, a2, fun i hi1 hi2 hm => ?_⟩
            rcases lo i hi1 hi2 with h | h
            · have := o1 i hi1 h _ hm; omega
            exact a3 i h hi2 hm
          rcases lo p hp1 hp2 with h | h
          · by_cases hpn : p = next
            · subst hpn; exact .inl (by rw [hk]; exact List.mem_cons_self ..)
            obtain ⟨i, a1, a2, a3⟩ := o3 p (by omega) h
            exact .inr ⟨i, a1, by omega, a3⟩
          rcases p4 p h hp2 with h3 | ⟨i, a1, a2, a3⟩
          · exact .inl (List.mem_cons_of_mem _ h3)
          exact .inr ⟨i, by omega, a2, a3⟩
        cases e
      cases e
    cases e
theorem own_walk {T : List Tw} : ∀ {f at' : Nat} {nest : Int} {n : Nat}, walkS T f at' nest = some n → at' < n ∧ Own T at' n
  | 0, _, _, _, e => by simp [walkS] at e
  | f + 1, at', nest, n, e => by
    simp only [walkS] at e
    split at e
    · rename_i w hw
      split at e
      · cases e
      cases hq : kidsW (walkS T f) T w nest w.kids 0 (at' + 1) with
      | none => rw [hq] at e; cases e
      | some q =>
        rw [hq] at e
        simp only [finW] at e
        split at e
        · cases e
          obtain ⟨h2, p1, p2, p3, p4⟩ := own_kids (fun _ _ _ h => own_walk (f := f) h) hq
          have hka := kidsAt_of hw
          refine ⟨by omega, fun i hi1 hi2 k hk => ?_, fun i j k hi1 hi2 hj1 hj2 hki hkj => ?_, fun p hp1 hp2 => ?_⟩
          · by_cases h : i = at'
            · subst h; rw [hka] at hk; have := p3 k hk; omega
            exact p1 i (by omega) hi2 k hk
          · by_cases h : i = at' <;> by_cases h' : j = at'
            · omega
            · subst h; rw [hka] at hki; exact absurd hkj ((p3 k hki).2.2 j (by omega) hj2)
            · subst h'; rw [hka] at hkj; exact absurd hki ((p3 k hkj).2.2 i (by omega) hi2)
            exact p2 i j k (by omega) hi2 (by omega) hj2 hki hkj
          rcases p4 p hp1 hp2 with h | ⟨i, a1, a2, a3⟩
          · exact ⟨at', Nat.le_refl _, by omega, by rw [hka]; exact h⟩
          exact ⟨i, by omega, a2, a3⟩
        cases e
    cases e
theorem may_own {T : List Tw} (h : mayS T = true) : 0 < T.length ∧ Own T 0 T.length := by
  simp only [mayS, Bool.and_eq_true, decide_eq_true_eq] at h
  obtain ⟨⟨h1, _⟩, h2⟩ := h
  have h0 : 0 < T.length := by omega
  refine ⟨h0, ?_⟩
  cases hw : walkS T (T.length + 1) 0 0 with
  | none => rw [hw] at h2; exact absurd h2 (show ¬ (-1 : Int) = T.length by omega)
  | some n =>
    rw [hw] at h2
    have : n = T.length := by have : (n : Int) = T.length := h2; omega
    subst this
    exact (own_walk hw).2

/-- Whose kid a twig is. -/
def IsUp (T : List Tw) (p : Nat) (r : Int) : Prop := (∃ i : Nat, r = i ∧ i < p ∧ i < T.length ∧ (p : Int) ∈ kidsAt T i ∧ ∀ i', i' < i → (p : Int) ∉ kidsAt T i') ∨ (r = -1 ∧ ∀ i, i < p → i < T.length → (p : Int) ∉ kidsAt T i)
theorem IsUp.one {T : List Tw} {p : Nat} {r r' : Int} (a : IsUp T p r) (b : IsUp T p r') : r = r' := by
  rcases a with ⟨i, rfl, h1, h2, h3, h4⟩ | ⟨rfl, h1⟩ <;> rcases b with ⟨j, rfl, g1, g2, g3, g4⟩ | ⟨rfl, g1⟩
  · rcases Nat.lt_trichotomy i j with h | h | h
    · exact absurd h3 (g4 i h)
    · rw [h]
    exact absurd g3 (h4 j h)
  · exact absurd h3 (g1 i h1 h2)
  · exact absurd g3 (h1 j g1 g2)
  rfl
def muchT (T : List Tw) (n : Nat) : Bool := ((T.take n).any fun t => decide (100 < t.s.toList.length)) || decide (n < T.length)
theorem much_no {T : List Tw} {n : Nat} (h : muchT T n = false) : T.length ≤ n ∧ ∀ t, t ∈ T → t.s.toList.length ≤ 100 := by
  simp only [muchT, Bool.or_eq_false_iff, decide_eq_false_iff_not] at h
  have hl : T.length ≤ n := by omega
  refine ⟨hl, fun t ht => ?_⟩
  rw [List.take_of_length_le hl] at h
  have := List.any_eq_false.1 h.1 t ht
  simpa using this
theorem much_one {T : List Tw} {n j : Nat} (hj : j < T.length) (hn : j < n) (h : 100 < T[j].s.toList.length) : muchT T n = true := by
  unfold muchT
  rw [Bool.or_eq_true]
  refine .inl (List.any_eq_true.2 ⟨T[j], ?_, by simpa using h⟩)
  exact List.mem_take_iff_getElem.2 ⟨j, by omega, rfl⟩
theorem much_end {T : List Tw} {n : Nat} (h : ∀ j (hj : j < T.length), j < n → T[j].s.toList.length ≤ 100) : muchT T n = decide (n < T.length) := by
  unfold muchT
  have : ((T.take n).any fun t => decide (100 < t.s.toList.length)) = false := List.any_eq_false.2 fun t ht => by
    obtain ⟨j, hj, rfl⟩ := List.mem_take_iff_getElem.1 ht
    have := h j (by omega) (by omega)
    simp; omega
  rw [this, Bool.false_or]
section
variable {h : Hp} {sv : Value} {T : List Tw}

/-- Much -/
theorem c8 (X : TreeAt h sv T) : C trE 8 [.agg #[sv], iV 300] h fun v h' => v = .bool (muchT T 300) ∧ Ext h h' := by
  obtain ⟨ta, tc, rfl⟩ := X.val
  refine c_enter (fu := Tryd.f8) (by kernel_rfl) rfl ?_
  have S := SH.start h
  refine w_seq ?_
  refine w_region (by kernel_rfl) ?_
  refine s_box S gn rfl rfl fun b1 g nb1 S => ?_
  refine o_assign gn rfl rfl ?_
  refine wl_end ?_
  refine w_seq ?_
  refine w_seq ?_
  refine w_region (by kernel_rfl) ?_
  refine o_assign gn rfl rfl ?_
  refine wl_end ?_
  refine w_block ?_
  refine w_loopS [(5, _)] [(1, _), (2, _)] (by repeat (first | exact trivial | refine ⟨rfl, ?_⟩)) (fun kk lv hh => ∃ j : Nat, lv = [(5, iV j)] ∧ kk = 300 - j ∧ j ≤ 300 ∧ SH h [] [cR b1 (.cells [.slice ta T.length tc] 24 0)] hh ∧ ∀ i (hi : i < T.length), i < j → T[i].s.toList.length ≤ 100) (n := 300) ?_ fun kk lv hh hI => ?_
  · exact ⟨0, rfl, rfl, by omega, S, fun i _ hi => by omega⟩
  obtain ⟨j, rfl, hkk, hj3, S, hs⟩ := hI
  refine w_seq ?_
  refine w_seq ?_
  refine w_region (by kernel_rfl) ?_
  refine o_move gn rfl rfl ?_
  refine o_fieldAddr (off := 0) gn rfl rfl (by kernel_rfl) ?_
  refine o_load gn rfl rfl (by kernel_rfl) (by exact S.cel 0 rfl) rfl ?_
  refine o_len gn rfl rfl (by kernel_rfl) ?_
  refine o_lss gn rfl rfl rfl ?_
  refine o_move gn rfl rfl ?_
  refine o_and (n := 3) rfl rfl rfl gn rfl (fun hb => by
      refine o_move (gy rfl rfl rfl hb) rfl rfl ?_
      refine o_move (gy rfl rfl rfl hb) rfl rfl ?_
      refine o_lss (gy rfl rfl rfl hb) rfl rfl rfl ?_
      exact wl_end ⟨rfl, rfl, 3, rfl, rfl⟩) ?_
  refine wl_end ?_
  refine w_cond rfl (fun hb => ?_) fun hb => ?_
  · skip
    refine w_skip ?_
    obtain ⟨hj, hj3⟩ : j < T.length ∧ j < 300 := by
      simp only [Bool.and_eq_true, decide_eq_true_eq] at hb; omega
    obtain ⟨b, o, c, cs, e, m, hv, hg, hlb, hl6, hat⟩ := X.at (by omega)
    have hta : ta = some ⟨b, o, none⟩ := by injection hv
    have hw : cs[o + Int.toNat (j : Int) * 6 + 1]? = some (.string T[j].s) := by rw [Int.toNat_natCast]; exact cut_at (hat j hj) (by omega) rfl
    refine w_seq ?_
    refine w_block ?_
    refine w_seq ?_
    refine w_region (by kernel_rfl) ?_
    refine o_fieldAddr (off := 0) gn rfl rfl (by kernel_rfl) ?_
    refine o_load gn rfl rfl (by kernel_rfl) (by exact S.cel 0 rfl) rfl ?_
    refine o_move gn rfl rfl ?_
    rw [hta]
    refine o_indexAddr (zz := 6) gn rfl rfl rfl (by kernel_rfl) (by omega) (by omega) ?_
    rw [← hta]
    refine o_fieldAddr (off := 1) gn rfl rfl (by kernel_rfl) ?_
    refine o_load gn rfl rfl (by kernel_rfl) (S.old0 hg hlb) hw ?_
    refine o_lenstr gn rfl rfl (by kernel_rfl) ?_
    rw [size_len]
    refine o_gtr gn rfl rfl rfl ?_
    refine wl_end ?_
    refine w_cond rfl (fun hb => ?_) fun hb => ?_
    · skip
      refine w_seq ?_
      refine w_region (by kernel_rfl) ?_
      refine o_assign gn rfl rfl ?_
      refine wl_end ?_
      refine w_ret ?_
      refine ⟨.inl rfl, _, rfl, ?_⟩
      exact ⟨by rw [much_one hj hj3 (by simp at hb; omega)]; rfl, S.e0⟩
    refine w_skip ?_
    refine w_region (by kernel_rfl) ?_
    refine o_move gn rfl rfl ?_
    refine o_add gn rfl rfl rfl (by omega) (by omega) ?_
    refine o_assign gn rfl rfl ?_
    refine wl_end ?_
    exact rndS (300 - (j + 1)) (by omega) [(5, _)] (by repeat (first | exact trivial | refine ⟨rfl, ?_⟩)) ⟨j + 1, rfl, rfl, by omega, S, fun i hi hij => by
      have hsw : T[j].s.toList.length ≤ 100 := by simp at hb; omega
      by_cases e : i = j
      · subst e; exact hsw
      exact hs i hi (by omega)⟩
  refine w_exit ?_
  refine thn_exit ?_
  refine rnd_exit ?_
  refine blk_eq ?_
  refine w_seq ?_
  refine w_region (by kernel_rfl) ?_
  refine o_fieldAddr (off := 0) gn rfl rfl (by kernel_rfl) ?_
  refine o_load gn rfl rfl (by kernel_rfl) (by exact S.cel 0 rfl) rfl ?_
  refine o_len gn rfl rfl (by kernel_rfl) ?_
  refine o_move gn rfl rfl ?_
  refine o_gtr gn rfl rfl rfl ?_
  refine o_assign gn rfl rfl ?_
  refine wl_end ?_
  refine w_ret ?_
  refine ⟨.inl rfl, _, rfl, ?_⟩
  exact ⟨by
    rw [much_end fun i hi h3 => hs i hi (by simp at hb; omega)]
    show Value.bool _ = Value.bool _
    congr 1
    rw [Bool.eq_iff_iff, decide_eq_true_eq, decide_eq_true_eq]; omega, S.e0⟩

end
end Go.Proofs.YtoejddhaiogonaaDoor

