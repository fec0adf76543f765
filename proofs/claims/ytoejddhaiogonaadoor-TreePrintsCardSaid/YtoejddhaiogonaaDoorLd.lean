/- Chapter 2: all twigs printed. Conditions: the tree may be; the text stays short. Chapter 2: what a builder comes to as a text. Conditions: the text stays short. Chapter 2: Print. Conditions: the tables; the text stays short. Chapter 2: what each twig of a tree that may be has (plain). Conditions: none. Chapter 2: how long a text is (plain). Conditions: the tree may be; texts of at most 100 bytes. Chapter 2: a tree's text is short (plain). Conditions: the tree may be; at most 1000 twigs, texts of at most 100 bytes. Chapter 2: the library's table of powers of ten, as X has it. Conditions: none. Chapter 2: the nested trees of the law of nests, and which of them may be (plain). Conditions: none. Chapter 2: a row of twigs that is built, and what adds one to it. Conditions: at most 1000 twigs. Chapter 2: the document's digits. Conditions: no number below nought. Chapter 2: the document's braces. Conditions: the texts stay short. Chapter 2: the document's terms. Conditions: the texts stay short; as many kids as a term has. Chapter 2: the document's statements. Conditions: the texts stay short; as many kids as a statement has. Chapter 2: the document's declarations. Conditions: the texts stay short; as many kids as a declaration has. Chapter 2: the document's texts are the program's (plain). Conditions: as many kids as the form says. Chapter 2: the document's text of a twig. Conditions: the tree may be; the texts stay short. Chapter 2: the document's text of a tree. Conditions: at most 1000 twigs, texts of at most 100 bytes. -/
import Derived.Test.YtoejddhaiogonaaDoorLc
import Derived.Lib.ItoaLen
import Derived.Test.YtoejddhaiogonaaDoorXc
namespace Go.Proofs.YtoejddhaiogonaaDoor
open Go.X

/-- The text of a twig. -/
def textS (T : List Tw) : Nat → Nat → ByteArray → List UInt8
  | 0, _, _ => []
  | f + 1, at', ind => match T[at']? with
    | some w => twT (textS T f) T w ind
    | none => []
/-- What all twigs of a tree have that may be. -/
def AllOk (T : List Tw) : Prop := ∀ (i : Nat) (w : Tw), T[i]? = some w → formOk w.K w.s w.N (kindsOf T w.kids) = true ∧ w.kids.length ≤ T.length
theorem all_kids {rec : Nat → Int → Option Nat} {T : List Tw} {w : Tw} {nest : Int} {Q : Nat → Prop} (hr : ∀ at' nest n, rec at' nest = some n → at' < n ∧ ∀ i, at' ≤ i → i < n → Q i) : ∀ {l : List Int} {i next n : Nat}, kidsW rec T w nest l i next = some n → next + l.length ≤ n ∧ ∀ i, next ≤ i → i < n → Q i
  | [], i, next, n, e => by
    simp [kidsW] at e
    subst e
    exact ⟨by simp, fun i h1 h2 => by omega⟩
  | k :: l, i, next, n, e => by
    simp only [kidsW] at e
    split at e
    · split at e
      · split at e
        · rename_i q hq
          obtain ⟨h1, h2⟩ := hr _ _ _ hq
          obtain ⟨h3, h4⟩ := all_kids hr e
          refine ⟨by rw [List.length_cons]; omega, fun i hi1 hi2 => ?_⟩
          by_cases h : i < q
          · exact h2 i hi1 h
          exact h4 i (by omega) hi2
        cases e
      cases e
    cases e
theorem all_walk {T : List Tw} : ∀ {f at' : Nat} {nest : Int} {n : Nat}, walkS T f at' nest = some n → at' < n ∧ ∀ i, at' ≤ i → i < n → ∀ w : Tw, T[i]? = some w → formOk w.K w.s w.N (kindsOf T w.kids) = true ∧ w.kids.length ≤ T.length
  | 0, _, _, _, e => by simp [walkS] at e
  | f + 1, at', nest, n, e => by
    have hle := (walkS_lt e).2
    simp only [walkS] at e
    split at e
    · rename_i w hw
      split at e
      · cases e
      cases hq : kidsW (walkS T f) T w nest w.kids 0 (at' + 1) with
      | none => rw [hq] at e; cases e
      | some q =>
        rw [hq] at e
        simp only [finW] at e
        split at e
        · rename_i hf
          cases e
          obtain ⟨h1, h2⟩ := all_kids (Q := fun i => ∀ w : Tw, T[i]? = some w → formOk w.K w.s w.N (kindsOf T w.kids) = true ∧ w.kids.length ≤ T.length) (fun _ _ _ h => all_walk (f := f) h) hq
          refine ⟨by omega, fun i hi1 hi2 w' hw' => ?_⟩
          by_cases h : i = at'
          · subst h
            rw [hw] at hw'
            cases hw'
            exact ⟨hf, by omega⟩
          exact h2 i (by omega) hi2 w' hw'
        cases e
    cases e
theorem may_all {T : List Tw} (h : mayS T = true) : AllOk T := by
  simp only [mayS, Bool.and_eq_true, decide_eq_true_eq] at h
  obtain ⟨⟨h1, _⟩, h2⟩ := h
  cases hw : walkS T (T.length + 1) 0 0 with
  | none => rw [hw] at h2; exact absurd h2 (show ¬ (-1 : Int) = T.length by omega)
  | some n =>
    rw [hw] at h2
    have : n = T.length := by have : (n : Int) = T.length := h2; omega
    subst this
    exact fun i w hi => (all_walk hw).2 i (Nat.zero_le _) (List.getElem?_eq_some_iff.1 hi).1 w hi
theorem may_kids {T : List Tw} (h : mayS T = true) (hT : T.length ≤ 1000) {i : Nat} {w : Tw} (hi : T[i]? = some w) : KidsOk T w i := by
  obtain ⟨h0, hO⟩ := may_own h
  have hl := (may_all h i w hi).2
  have hlt := (List.getElem?_eq_some_iff.1 hi).1
  refine ⟨by omega, fun j hj => ?_⟩
  have hm : w.kids[j] ∈ kidsAt T i := by rw [kidsAt_of hi]; exact List.getElem_mem hj
  have hr := hO.1 i (Nat.zero_le _) hlt _ hm
  obtain ⟨q, hq⟩ : ∃ q : Nat, w.kids[j] = q := ⟨w.kids[j].toNat, by omega⟩
  have hqlt : q < T.length := by omega
  exact ⟨q, T[q], by rw [List.getElem?_eq_getElem hj, hq], List.getElem?_eq_getElem hqlt, by omega⟩

section
variable {h0 : Hp} {sv : Value} {T : List Tw}
/-- twig -/
theorem tw_all (X : TreeAt h0 sv T) (hP : Pow h0) (hS : ∀ t, t ∈ T → ∃ bk, SlC 3 0 h0 t.ks (isV t.kids) t.kids.length bk) (hK : ∀ (i : Nat) (w : Tw), T[i]? = some w → KidsOk T w i) (hW : ∀ w, w ∈ T → WOk w) : ∀ (f lo : Nat), T.length - (lo + 1) ≤ f → TwC h0 sv T (textS T f) lo := by
  intro f
  induction f with
  | zero =>
    intro lo hf j w hj hq
    have := (List.getElem?_eq_some_iff.1 hq).1
    omega
  | succ f ih =>
    intro lo hf j w hj hq g pb l ind bs S0 hn
    have hjl := (List.getElem?_eq_some_iff.1 hq).1
    have e : textS T (f + 1) j ind = twT (textS T f) T w ind := by simp only [textS, hq]
    rw [e] at hn ⊢
    have hm := List.mem_of_getElem? hq
    exact c27s S0 X (ih j (by omega)) (hK j w hq) (hS w hm) hP (hW w hm) hn
end
end Go.Proofs.YtoejddhaiogonaaDoor

namespace Go.Proofs.YtoejddhaiogonaaDoor
open Go.X

theorem bytesOf_byV : ∀ l : List UInt8, bytesOf (byV l) = some l
  | [] => rfl
  | b :: l => by
    have e : bytesOf (byV (b :: l)) = cond (Nat.blt b.toNat 256) (match bytesOf (byV l) with | some l => some (b.toNat.toUInt8 :: l) | none => none) none := rfl
    have e2 : Nat.blt b.toNat 256 = true := (blt_iff _ _).2 b.toNat_lt
    rw [e, e2, bytesOf_byV l]
    simp [Nat.toUInt8]
/-- String, of what was put. -/
theorem string_pr {h g : Hp} {pb : Nat} {sv : Value} {l : List UInt8} {ind : ByteArray} {bs : List Nat} {L : List Res} (S : SH h [] (prR pb sv l ind bs :: L) g) (hl : l.length ≤ 1000000000) : ∃ g', stringX 5 [.pointer (some ⟨pb, 1, none⟩)] g = some (.string ⟨l.toArray⟩, g') ∧ KD g g' ∧ Ext h g' := by
  obtain ⟨addr, bv, h1, h2, h3, h4⟩ := S.res 0 rfl
  have hrow : rowOf g ⟨pb, 1 + 1, none⟩ 1 = some [bv] := by simp only [rowOf, h2]; rfl
  cases l with
  | nil =>
    rw [h4 rfl] at hrow
    exact ⟨g, by simp only [stringX, hrow]; rfl, .refl _, S.e0⟩
  | cons c l =>
    rcases h3 with ⟨_, _, hl0, _⟩ | ⟨b, m, rfl, hb, hm, hlt, rfl, hlen⟩
    · simp at hl0
    have hbh : h.n ≤ b := (S.new b (by simp [owns, prR])).resolve_left (by simp)
    have hrow2 : rowOf g ⟨b, 0, none⟩ (l.length + 1) = some (byV (c :: l)) := by
      simp only [rowOf, hb]
      have e : Nat.ble (0 + (l.length + 1)) (byV (c :: l)).length = true := (ble_iff _ _).2 (by simp)
      rw [e, List.drop_zero, List.take_of_length_le (by simp)]; rfl
    have hm1 : (Nat.beq 5 5 && !Nat.beq m 1 && Nat.ble (l.length + 1) 1000000000) = true := by
      have e : Nat.ble (l.length + 1) 1000000000 = true := (ble_iff _ _).2 (by simpa using hl)
      rw [e]
      rcases hm with rfl | rfl <;> rfl
    refine ⟨g.put b .dead, ?_, KD.put _ (fun d e => by rw [hb] at e; cases e), ⟨by rw [Hp.n_put]; exact S.ext.n, fun i hi => by
      rw [Hp.get_put, if_neg (by omega)]; exact S.e0.get i hi⟩⟩
    have hr : rowOf g ⟨pb, 1 + 1, none⟩ 1 = some [.slice (some ⟨b, 0, none⟩) (l.length + 1) (l.length + 1)] := hrow
    simp only [stringX, hr, hrow2, hb, hm1, cond_true, bytesOf_byV]
end Go.Proofs.YtoejddhaiogonaaDoor

namespace Go.Proofs.YtoejddhaiogonaaDoor
open Go.X

section
variable {h : Hp} {sv : Value} {T : List Tw}
/-- Print -/
theorem c12 (B : Blk h) (hP : Pow h) (X : TreeAt h sv T) (hT : T.length ≤ 1000) (hs : ∀ t, t ∈ T → t.s.toList.length ≤ 100) (hS : ∀ t, t ∈ T → ∃ bk, SlC 3 0 h t.ks (isV t.kids) t.kids.length bk) (hW : mayS T = true → ∀ w, w ∈ T → WOk w)
    (hn0 : mayS T = true → (textS T (T.length + 1) 0 .empty).length ≤ 1000000000) : C trE 12 [.agg #[sv]] h fun v h' => v = .string (if mayS T = true then ⟨(textS T (T.length + 1) 0 .empty).toArray⟩ else ⟨#[]⟩) ∧ Ext h h' := by
  have Y := X
  obtain ⟨ta, tc, rfl⟩ := X.val
  refine c_enter (fu := Tryd.f12) (by kernel_rfl) rfl ?_
  have S := SH.start h
  refine w_seq ?_
  refine w_region (by kernel_rfl) ?_
  refine s_box S gn rfl rfl fun b1 g nb1 S => ?_
  refine o_assign gn rfl rfl ?_
  refine wl_end ?_
  refine w_seq ?_
  refine w_seq ?_
  refine w_region (by kernel_rfl) ?_
  refine o_loadA (n := 1) gn rfl rfl (by kernel_rfl) (by kernel_rfl) (by exact S.cel 0 rfl) (Nat.le_refl _) ?_
  refine o_call [_] gn rfl rfl (by kernel_rfl) rfl (C.mono (c10 (B.ext S.e0) (Y.ext S.e0) hT hs) ?_)
  rintro v g ⟨rfl, x⟩
  have S := S.grow x
  refine ⟨ag0, ?_⟩
  refine o_not gn rfl rfl ?_
  refine wl_end ?_
  refine w_cond rfl (fun hb => ?_) fun hb => ?_
  · skip
    refine w_seq ?_
    refine w_region (by kernel_rfl) ?_
    refine o_assign gn rfl rfl ?_
    refine wl_end ?_
    refine w_ret ?_
    refine ⟨.inl rfl, _, rfl, ?_⟩
    exact ⟨by rw [if_neg (show ¬ mayS T = true by simpa using hb)]; rfl, S.e0⟩
  refine w_skip ?_
  have hmay : mayS T = true := by simpa using hb
  have hn := hn0 hmay
  have h0 := (may_own hmay).1
  obtain ⟨b, o, c, cs, e, m, hv, hg, hlb, hl6, hat⟩ := Y.at h0
  have hta : ta = some ⟨b, o, none⟩ := by injection hv
  have hq : T[0]? = some T[0] := List.getElem?_eq_getElem h0
  have hw4 : (cs.drop (o + Int.toNat 0 * 6)).take 6 = T[0].cells := hat 0 h0
  have hm0 := List.getElem_mem h0
  have e0 : textS T (T.length + 1) 0 .empty = twT (textS T T.length) T T[0] .empty := by simp only [textS, hq]
  rw [e0] at hn ⊢
  refine w_seq ?_
  refine w_region (by kernel_rfl) ?_
  refine o_loadA (n := 1) gn rfl rfl (by kernel_rfl) (by kernel_rfl) (by exact S.cel 0 rfl) (Nat.le_refl _) ?_
  refine o_build (cs := #[.slice ta T.length tc, .pointer none, .slice none 0 0, .string .empty]) (zv := .agg #[.slice none 0 0, .pointer none, .slice none 0 0, .string .empty]) (pl := [(0, 1), (1, 2), (3, 1)]) [(0, _)] gn rfl (by kernel_rfl) (by kernel_rfl) rfl (by kernel_rfl) ?_
  refine s_box S gn rfl rfl fun b2 g nb2 S => ?_
  refine o_assign gn rfl rfl ?_
  refine wl_end ?_
  refine w_seq ?_
  have S : SH h [] [prR b2 (.slice ta T.length tc) [] .empty [], cR b1 (.cells [.slice ta T.length tc] 24 0)] g :=
    pr_shut (.inl rfl) (fun _ => rfl) ((S.push (r := snR 5 0 (.slice none 0 0) (byV []) 0 []) (Ext.refl _) (.inl ⟨rfl, rfl, rfl, rfl⟩) (by simp [snR]) (by simp [snR]) (by simp [snR])).swap)
  refine w_region (by kernel_rfl) ?_
  refine o_move gn rfl rfl ?_
  refine o_fieldAddr (off := 0) gn rfl rfl (by kernel_rfl) ?_
  refine o_load gn rfl rfl (by kernel_rfl) (by exact S.cel 1 rfl) rfl ?_
  rw [hta]
  refine o_indexAddr (zz := 6) gn rfl rfl rfl (by kernel_rfl) (by omega) (by omega) ?_
  refine o_loadA (n := 6) gn rfl rfl (by kernel_rfl) (by kernel_rfl) (S.old0 hg hlb) (by show o + 0 * 6 + 6 ≤ _; omega) ?_
  rw [hw4, ← hta]
  refine o_call [_, _] gn rfl rfl (by kernel_rfl) rfl (C.mono (c27s (S.pick 0 rfl) Y (tw_all Y hP hS (fun i w hi => may_kids hmay hT hi) (hW hmay) T.length 0 (by omega)) (may_kids hmay hT hq) (hS _ hm0) hP (hW hmay _ hm0) (by rw [List.length_nil]; omega)) ?_)
  rintro v g ⟨bs', S2⟩
  have S := S.ret 0 rfl S2
  refine ⟨ag0, ?_⟩
  refine wl_end ?_
  refine w_seq ?_
  rw [List.nil_append] at S
  obtain ⟨g2, hs1, hs2, hs3⟩ := string_pr S hn
  refine w_region (by kernel_rfl) ?_
  refine o_move gn rfl rfl ?_
  refine o_nilCheck gn rfl rfl ?_
  refine o_fieldAddr (off := 1) gn rfl rfl (by kernel_rfl) ?_
  refine o_sm [_] gn rfl rfl (by kernel_rfl) (by kernel_rfl) sm28 rfl hs1 hs2 ag0 ?_
  refine o_assign gn rfl rfl ?_
  refine wl_end ?_
  refine w_ret ?_
  refine ⟨.inl rfl, _, rfl, ?_⟩
  exact ⟨by rw [if_pos hmay]; rfl, hs3⟩
end
end Go.Proofs.YtoejddhaiogonaaDoor

namespace Go.Proofs.YtoejddhaiogonaaDoor
open Go.X

theorem wok_of {w : Tw} {kinds : List Int} (h : formOk w.K w.s w.N kinds = true) (hk : kinds.length = w.kids.length) (hs : w.s.size ≤ 1000000) : WOk w := by
  obtain ⟨K, s, N, L, Co, ks, kids⟩ := w
  simp only at h hk hs
  have key : ∀ F, formOf formT K = some F → F.kids.length ≤ kids.length ∧ F.least ≤ N ∧ N ≤ F.most := by
    intro F hF
    rw [formOk, hF] at h
    have h : fitsF F s N kinds = true := h
    rw [fitsF, Bool.and_eq_true] at h
    have h1 := h.1
    unfold headOk at h1
    simp only [Bool.and_eq_true, decide_eq_true_eq] at h1
    exact ⟨by omega, h1.1.1.2, h1.1.2⟩
  refine ⟨fun e => ?_, fun e => ?_, fun e => ?_, fun e => ?_, fun e => ?_, fun e => ?_, fun e => ?_, fun e => ?_, fun e => ?_, hs⟩
  · have e : K = 30 := e
    subst e; exact (key _ rfl).1
  · have e : K = 31 ∨ K = 32 := e
    rcases e with rfl | rfl <;> exact (key _ rfl).1
  · have e : K = 26 := e
    subst e; exact (key _ rfl).2
  · have e : K = 19 ∨ K = 20 := e
    rcases e with rfl | rfl <;> exact (key _ rfl).1
  · have e : K = 13 ∨ K = 14 ∨ K = 23 ∨ K = 24 := e
    rcases e with rfl | rfl | rfl | rfl
    · exact (key _ rfl).1
    · exact (key _ rfl).1
    · exact Nat.le_trans (show 2 ≤ 3 by omega) (key _ rfl).1
    exact (key _ rfl).1
  · have e : K = 19 := e
    subst e; exact (key _ rfl).2
  · have e : K = 8 ∨ K = 10 := e
    rcases e with rfl | rfl
    · exact (key _ rfl).1
    exact Nat.le_trans (show 1 ≤ 2 by omega) (key _ rfl).1
  · have e : K = 9 := e
    subst e; exact (key _ rfl).2
  have e : K = 10 := e
  subst e
  have h1 : (0 : Int) ≤ N := (key _ rfl).2.1
  have h2 : N ≤ (1 : Int) := (key _ rfl).2.2
  show N = 0 ∨ N = 1
  omega
theorem may_wok {T : List Tw} (h : mayS T = true) (hs : ∀ t, t ∈ T → t.s.toList.length ≤ 100) : ∀ w, w ∈ T → WOk w := by
  intro w hw
  obtain ⟨i, hi, rfl⟩ := List.mem_iff_getElem.1 hw
  have h1 := (may_all h i T[i] (List.getElem?_eq_getElem hi)).1
  refine wok_of h1 (by simp [kindsOf]) ?_
  have := hs _ hw
  have e : T[i].s.size = T[i].s.toList.length := by rw [ByteArray.toList_eq]; rfl
  omega
end Go.Proofs.YtoejddhaiogonaaDoor

namespace Go.Proofs.YtoejddhaiogonaaDoor
open Go.X

/-- A twig's kids' texts cost no more than so much each. -/
def CostK (F : Nat → ByteArray → List UInt8) (kids : List Int) (cs : List Nat) : Prop := cs.length = kids.length ∧ ∀ (j : Nat) (k : Int), kids[j]? = some k → ∃ q : Nat, k = q ∧ ∀ ind : ByteArray, ind.size ≤ 2 * q → (F q ind).length + 2100 ≤ cs.getD j 0
theorem cost_kids {F : Nat → ByteArray → List UInt8} {rec : Nat → Int → Option Nat} {T : List Tw} {w : Tw} {nest : Int} (hr : ∀ at' nest n, rec at' nest = some n → at' < n ∧ ∀ ind : ByteArray, ind.size ≤ 2 * at' → (F at' ind).length + 2100 ≤ 6000 * (n - at')) :
    ∀ {l : List Int} {i next n : Nat}, kidsW rec T w nest l i next = some n → next ≤ n ∧ ∃ cs, CostK F l cs ∧ cs.sum ≤ 6000 * (n - next) ∧ ∀ k, k ∈ l → (next : Int) ≤ k
  | [], i, next, n, e => by
    simp [kidsW] at e
    subst e
    exact ⟨Nat.le_refl _, [], ⟨rfl, fun j k h => by simp at h⟩, by simp, fun k h => by simp at h⟩
  | k :: l, i, next, n, e => by
    simp only [kidsW] at e
    split at e
    · rename_i hk
      split at e
      · split at e
        · rename_i q hq
          obtain ⟨h1, h2⟩ := hr _ _ _ hq
          obtain ⟨h3, cs, h4, h5, h6⟩ := cost_kids hr e
          refine ⟨by omega, (6000 * (q - next)) :: cs, ⟨by simp [h4.1], ?_⟩, ?_, ?_⟩
          · intro j k' hj
            cases j with
            | zero =>
              simp only [List.getElem?_cons_zero, Option.some.injEq] at hj
              exact ⟨next, by rw [← hj, hk], fun ind hi => h2 ind hi⟩
            | succ j =>
              simp only [List.getElem?_cons_succ] at hj
              obtain ⟨q', e1, e2⟩ := h4.2 j k' hj
              exact ⟨q', e1, fun ind hi => by simpa using e2 ind hi⟩
          · rw [List.sum_cons]; omega
          intro k' hm
          rcases List.mem_cons.1 hm with rfl | hm
          · omega
          have := h6 k' hm; omega
        cases e
      cases e
    cases e
theorem cat_len (b : ByteArray) : (catL [b]).length = b.size := by
  simp [catL, ByteArray.toList_eq]
theorem cat_len2 (a b : ByteArray) : (catL [a, b]).length = a.size + b.size := by
  simp [catL, ByteArray.toList_eq]
theorem cat_len3 (a b c : ByteArray) : (catL [a, b, c]).length = a.size + b.size + c.size := by
  simp [catL, ByteArray.toList_eq]; omega

section
variable {F : Nat → ByteArray → List UInt8} {T : List Tw} {w : Tw} {ind : ByteArray} {cs : List Nat}
theorem cost_kid (h : CostK F w.kids cs) (hlo : ∀ q : Nat, (q : Int) ∈ w.kids → ind.size ≤ 2 * q) (i : Nat) : (kidT F T w ind i).length ≤ cs.getD i 0 ∧ (i < cs.length → (kidT F T w ind i).length + 2000 ≤ cs.getD i 0) := by
  unfold kidT
  split
  · rename_i e
    have hl : w.kids.length ≤ i := List.getElem?_eq_none_iff.1 e
    exact ⟨Nat.zero_le _, fun hi => by rw [h.1] at hi; omega⟩
  rename_i k e
  obtain ⟨q, rfl, h2⟩ := h.2 i k e
  have := h2 ind (hlo q (List.mem_of_getElem? e))
  simp only [Int.toNat_natCast]
  split
  · exact ⟨by simp, fun _ => by rw [List.length_nil]; omega⟩
  split
  · have e1 : (catL [⟨#[40]⟩]).length = 1 := by rw [cat_len]; rfl
    have e2 : (catL [⟨#[41]⟩]).length = 1 := by rw [cat_len]; rfl
    simp only [List.length_append, e1, e2]
    omega
  omega
theorem sum_ge3 : ∀ cs : List Nat, cs.getD 0 0 + cs.getD 1 0 + cs.getD 2 0 ≤ cs.sum
  | [] => by simp
  | [a] => by simp
  | [a, b] => by simp
  | a :: b :: c :: l => by simp; omega
theorem sum_drop (cs : List Nat) (k : Nat) : (cs.take k).sum + (cs.drop k).sum = cs.sum := by
  rw [← List.sum_append, List.take_append_drop]
theorem cost_range (G : Nat → List UInt8) (cs : List Nat) (hG : ∀ i, i < cs.length → (G i).length ≤ cs.getD i 0) : ∀ m, m ≤ cs.length → ((List.range m).flatMap G).length ≤ (cs.take m).sum
  | 0, _ => by simp
  | m + 1, h => by
    have h1 := cost_range G cs hG m (by omega)
    have h2 := hG m (by omega)
    rw [List.getD_eq_getElem?_getD, List.getElem?_eq_getElem (by omega), Option.getD_some] at h2
    rw [flat_take, List.length_append, List.take_add_one, List.sum_append, List.getElem?_eq_getElem (by omega), Option.toList_some, List.sum_singleton]
    omega
theorem cost_row (h : CostK F w.kids cs) (hlo : ∀ q : Nat, (q : Int) ∈ w.kids → ind.size ≤ 2 * q) (word : ByteArray) (from' : Nat) : (rowT F T w ind word from').length ≤ word.size + (cs.drop from').sum := by
  unfold rowT
  rw [List.length_append, cat_len]
  have := cost_range (fun i => catL [⟨#[32]⟩] ++ kidT F T w ind (from' + i)) (cs.drop from') (fun i hi => by
    rw [List.length_drop] at hi
    have h1 := (cost_kid (T := T) h hlo (from' + i)).2 (by omega)
    have e1 : (catL [⟨#[32]⟩]).length = 1 := by rw [cat_len]; rfl
    have e2 : (cs.drop from').getD i 0 = cs.getD (from' + i) 0 := by simp [List.getD_eq_getElem?_getD]
    rw [List.length_append, e1, e2]
    omega) (w.kids.length - from') (by rw [List.length_drop, h.1]; omega)
  have e3 : ((cs.drop from').take (w.kids.length - from')) = cs.drop from' := List.take_of_length_le (by rw [List.length_drop, h.1]; omega)
  rw [e3] at this
  omega
theorem flat_cost (G : Int → List UInt8) : ∀ (l : List Int) (cs : List Nat), cs.length = l.length → (∀ j k, l[j]? = some k → (G k).length ≤ cs.getD j 0) → (l.flatMap G).length ≤ cs.sum
  | [], [], _, _ => by simp
  | [], _ :: _, h, _ => by simp at h
  | _ :: _, [], h, _ => by simp at h
  | k :: l, c :: cs, h, hG => by
    have h1 := flat_cost G l cs (by simpa using h) (fun j k' hj => by simpa using hG (j + 1) k' (by simpa using hj))
    have h2 := hG 0 k rfl
    simp at h2
    rw [List.flatMap_cons, List.length_append, List.sum_cons]
    omega
theorem cost_braces {l : List Int} (h : CostK F l cs) (hlo : ∀ q : Nat, (q : Int) ∈ l → ind.size + 2 ≤ 2 * q) (hi : ind.size ≤ 2000) : (bracesT F ind l).length ≤ ind.size + 10 + cs.sum := by
  unfold bracesT
  split
  · have e1 : (catL [⟨#[123, 32, 125]⟩]).length = 3 := by rw [cat_len]; rfl
    omega
  have e1 : (catL [⟨#[123, 10]⟩]).length = 2 := by rw [cat_len]; rfl
  have e2 : (⟨#[125]⟩ : ByteArray).size = 1 := rfl
  have e3 : (catL [⟨#[10]⟩]).length = 1 := by rw [cat_len]; rfl
  have e4 : (ind ++ ⟨#[32, 32]⟩ : ByteArray).size = ind.size + 2 := by rw [ByteArray.size_append]; rfl
  have := flat_cost (fun k => catL [ind ++ ⟨#[32, 32]⟩] ++ F k.toNat (ind ++ ⟨#[32, 32]⟩) ++ catL [⟨#[10]⟩]) l cs h.1 (fun j k hj => by
    obtain ⟨q, rfl, h2⟩ := h.2 j k hj
    have h3 := hlo q (List.mem_of_getElem? hj)
    have h4 := h2 (ind ++ ⟨#[32, 32]⟩) (by rw [e4]; omega)
    simp only [Int.toNat_natCast, List.length_append, cat_len, e4, e3]
    omega)
  simp only [List.length_append, e1, cat_len2, e2]
  omega
end
end Go.Proofs.YtoejddhaiogonaaDoor

namespace Go.Proofs.YtoejddhaiogonaaDoor
open Go.X

theorem lens : (∀ a b : List UInt8, (a ++ b).length = a.length + b.length) ∧ (∀ a, (catL [a]).length = a.size) ∧ (∀ a b, (catL [a, b]).length = a.size + b.size) ∧ (∀ a b c, (catL [a, b, c]).length = a.size + b.size + c.size) ∧ (∀ a b : ByteArray, (a ++ b).size = a.size + b.size) ∧ (⟨#[40]⟩ : ByteArray).size = 1 ∧ (⟨#[41]⟩ : ByteArray).size = 1 ∧ (⟨#[123, 32, 125]⟩ : ByteArray).size = 3 ∧ (⟨#[123, 10]⟩ : ByteArray).size = 2 ∧ (⟨#[32, 32]⟩ : ByteArray).size = 2 ∧ (⟨#[10]⟩ : ByteArray).size = 1 ∧ (⟨#[125]⟩ : ByteArray).size = 1 ∧ (⟨#[32]⟩ : ByteArray).size = 1 ∧ (⟨#[32, 116, 111, 32]⟩ : ByteArray).size = 4 ∧ (⟨#[32, 101, 108, 115, 101, 32]⟩ : ByteArray).size = 6 ∧ (⟨#[119, 104, 105, 108, 101, 32]⟩ : ByteArray).size = 6 ∧ (⟨#[105, 102, 32]⟩ : ByteArray).size = 3 ∧ (⟨#[97, 114, 114]⟩ : ByteArray).size = 3 ∧ (⟨#[108, 101, 110]⟩ : ByteArray).size = 3 ∧ (⟨#[102, 110]⟩ : ByteArray).size = 2 ∧ (⟨#[110, 117, 108, 108]⟩ : ByteArray).size = 4 ∧ (⟨#[105, 116]⟩ : ByteArray).size = 2 ∧ (⟨#[46]⟩ : ByteArray).size = 1 ∧ (⟨#[91]⟩ : ByteArray).size = 1 ∧ (⟨#[93]⟩ : ByteArray).size = 1 ∧ (⟨#[110, 101, 119, 32]⟩ : ByteArray).size = 4 ∧ (⟨#[99, 97, 108, 108]⟩ : ByteArray).size = 4 ∧ (⟨#[99, 97, 110, 99, 101, 108]⟩ : ByteArray).size = 6 ∧ (⟨#[106, 111, 105, 110]⟩ : ByteArray).size = 4 ∧ (⟨#[108, 111, 103]⟩ : ByteArray).size = 3 ∧ (⟨#[118, 97, 114, 32]⟩ : ByteArray).size = 4 ∧ (⟨#[32, 61, 32]⟩ : ByteArray).size = 3 ∧ (⟨#[59]⟩ : ByteArray).size = 1 ∧ (⟨#[112, 111, 115, 116, 32]⟩ : ByteArray).size = 5 ∧ (⟨#[32, 102, 114, 111, 110, 116]⟩ : ByteArray).size = 6 ∧ (⟨#[32, 97, 102, 116, 101, 114, 32]⟩ : ByteArray).size = 7 ∧ (⟨#[115, 112, 97, 119, 110, 32]⟩ : ByteArray).size = 6 ∧ (⟨#[101, 110, 97, 98, 108, 101, 32]⟩ : ByteArray).size = 7 ∧ (⟨#[100, 105, 115, 97, 98, 108, 101, 32]⟩ : ByteArray).size = 8 ∧ (⟨#[114, 101, 116, 117, 114, 110]⟩ : ByteArray).size = 6 ∧ (⟨#[99, 114, 101, 97, 116, 101]⟩ : ByteArray).size = 6 ∧ (⟨#[115, 116, 97, 114, 116]⟩ : ByteArray).size = 5 ∧ (⟨#[115, 116, 111, 112]⟩ : ByteArray).size = 4 ∧ (⟨#[100, 101, 115, 116, 114, 111, 121]⟩ : ByteArray).size = 7 ∧ (⟨#[32, 111, 102, 102]⟩ : ByteArray).size = 4 ∧ (⟨#[32, 111, 110]⟩ : ByteArray).size = 3 ∧ (⟨#[108, 111, 111, 112, 101, 114, 32]⟩ : ByteArray).size = 7 ∧ (⟨#[99, 108, 97, 115, 115, 32]⟩ : ByteArray).size = 6 ∧ (⟨#[32, 123]⟩ : ByteArray).size = 2 ∧ (⟨#[32, 125]⟩ : ByteArray).size = 2 ∧ (⟨#[102, 110, 32]⟩ : ByteArray).size = 3 ∧ (⟨#[99, 111, 109, 112, 32]⟩ : ByteArray).size = 5 ∧ (⟨#[32, 111, 110, 32]⟩ : ByteArray).size = 4 ∧ (⟨#[101, 118, 101, 110, 116, 32]⟩ : ByteArray).size = 6 ∧ (⟨#[109, 97, 105, 110]⟩ : ByteArray).size = 4 :=
  ⟨fun _ _ => List.length_append, cat_len, cat_len2, cat_len3, fun _ _ => ByteArray.size_append, rfl, rfl, rfl, rfl, rfl, rfl, rfl, rfl, rfl, rfl, rfl, rfl, rfl, rfl, rfl, rfl, rfl, rfl, rfl, rfl, rfl, rfl, rfl, rfl, rfl, rfl, rfl, rfl, rfl, rfl, rfl, rfl, rfl, rfl, rfl, rfl, rfl, rfl, rfl, rfl, rfl, rfl, rfl, rfl, rfl, rfl, rfl, rfl, rfl, rfl⟩
theorem szl (l : List UInt8) : (⟨l.toArray⟩ : ByteArray).size = l.length := by simp [ByteArray.size]
theorem termWord_le (K : Int) : (termWord K).size ≤ 10 := by
  unfold termWord; repeat' split
  all_goals decide
theorem stmtWord_le (K : Int) : (stmtWord K).size ≤ 10 := by
  unfold stmtWord; repeat' split
  all_goals decide
theorem lifeWord_le (K : Int) : (lifeWord K).size ≤ 10 := by
  unfold lifeWord; repeat' split
  all_goals decide
theorem eventWord_le (K : Int) : (eventWord K).size ≤ 10 := by
  unfold eventWord; repeat' split
  all_goals decide
theorem branchWord_le (w : Tw) : (branchWord w).size ≤ 10 := by
  unfold branchWord; repeat' split
  all_goals decide
theorem itoaB_le {n : Int} (h0 : -1 ≤ n) (h1 : n ≤ 2147483647) : (itoaB n).size ≤ 21 := by
  have := Lib.itoa_length_le n (by omega) (by omega)
  rw [itoaB, szl]; exact this

section
variable {F : Nat → ByteArray → List UInt8} {T : List Tw} {w : Tw} {ind : ByteArray} {cs : List Nat}
theorem cost_stmt (hs : w.s.size ≤ 100) (hW : WOk w) (k0 : (kidT F T w ind 0).length ≤ cs.getD 0 0) (k1 : (kidT F T w ind 1).length ≤ cs.getD 1 0) (k2 : (kidT F T w ind 2).length ≤ cs.getD 2 0) (s3 : cs.getD 0 0 + cs.getD 1 0 + cs.getD 2 0 ≤ cs.sum)
    (r0 : (rowT F T w ind (stmtWord w.K) 0).length ≤ 10 + cs.sum) : (stmtT F T w ind).length ≤ 400 + cs.sum := by
  have e4 := branchWord_le w
  have t1 : (toT F T w ind).length ≤ 10 + cs.getD 1 0 := by
    unfold toT
    split
    · simp only [lens]; omega
    rw [List.length_nil]; omega
  have t2 : (elseT F T w ind).length ≤ 10 + cs.getD 2 0 := by
    unfold elseT
    split
    · simp only [lens]; omega
    rw [List.length_nil]; omega
  have t3 : w.K = 19 → (if 0 < w.N then catL [⟨#[32, 97, 102, 116, 101, 114, 32]⟩, itoaB w.N] else []).length ≤ 40 := by
    intro e
    have hit := itoaB_le (hW.n19 e).1 (hW.n19 e).2
    split
    · simp only [lens]; omega
    rw [List.length_nil]; omega
  have t4 : (if w.N < 0 then catL [⟨#[32, 102, 114, 111, 110, 116]⟩] else []).length ≤ 40 := by
    split
    · simp only [lens]; omega
    rw [List.length_nil]; omega
  unfold stmtT
  split
  · simp only [lens]; omega
  split
  · simp only [lens]; omega
  split
  · rename_i e
    have := t3 e
    simp only [lens] at *; omega
  split
  · simp only [lens]; omega
  split
  · simp only [lens]; omega
  split
  · simp only [lens]; omega
  split
  · simp only [lens]; omega
  split
  · unfold branchT
    simp only [lens]; omega
  simp only [lens]; omega
theorem cost_term (hs : w.s.size ≤ 100) (hW : WOk w) (k0 : (kidT F T w ind 0).length ≤ cs.getD 0 0) (k1 : (kidT F T w ind 1).length ≤ cs.getD 1 0) (s3 : cs.getD 0 0 + cs.getD 1 0 + cs.getD 2 0 ≤ cs.sum)
    (r0 : (rowT F T w ind (termWord w.K) 0).length ≤ 10 + cs.sum) : (termT F T w ind).length ≤ 400 + cs.sum := by
  unfold termT
  split
  · rename_i e
    have hit := itoaB_le (show -1 ≤ w.N by have := (hW.n26 e).1; omega) (hW.n26 e).2
    rw [cat_len]; omega
  split
  · simp only [lens]; omega
  split
  · simp only [lens]; omega
  split
  · rw [cat_len]; omega
  split
  · simp only [lens]; omega
  split
  · simp only [lens]; omega
  split
  · simp only [lens]; omega
  split
  · simp only [lens]; omega
  omega
theorem cost_decl (hs : w.s.size ≤ 100) (hi : ind.size ≤ 2000) (k0 : (kidT F T w ind 0).length ≤ (cs.take 1).sum) (d1 : (cs.take 1).sum + (cs.drop 1).sum = cs.sum)
    (r0 : ∀ word : ByteArray, (rowT F T w ind word 0).length ≤ word.size + cs.sum) (r1 : ∀ word : ByteArray, (rowT F T w ind word 1).length ≤ word.size + (cs.drop 1).sum) (hb : (bracesT F ind (w.kids.drop 1)).length ≤ ind.size + 10 + (cs.drop 1).sum) : (declT F T w ind).length ≤ 2400 + cs.sum := by
  have e2 := lifeWord_le w.N
  have e3 := eventWord_le w.N
  unfold declT
  split
  · simp only [lens]; omega
  split
  · have a1 := r0 (⟨#[99, 108, 97, 115, 115, 32]⟩ ++ w.s ++ ⟨#[32, 123]⟩)
    simp only [lens] at a1
    simp only [lens]; omega
  split
  · have a1 := r0 w.s
    simp only [lens]; omega
  split
  · rw [cat_len]; omega
  split
  · have a1 := r0 (⟨#[118, 97, 114, 32]⟩ ++ w.s)
    simp only [lens] at a1
    simp only [lens]; omega
  split
  · have a1 := r0 (⟨#[102, 110, 32]⟩ ++ w.s)
    simp only [lens] at a1
    omega
  split
  · simp only [lens] at *; omega
  split
  · have a1 := r0 (lifeWord w.N)
    omega
  split
  · have a1 := r1 (eventWord w.N)
    simp only [lens] at *; omega
  split
  · have a1 := r0 ⟨#[109, 97, 105, 110]⟩
    simp only [lens] at a1
    omega
  rw [List.length_nil]; omega
theorem cost_tw (h : CostK F w.kids cs) (hlo : ∀ q : Nat, (q : Int) ∈ w.kids → ind.size + 2 ≤ 2 * q) (hi : ind.size ≤ 2000) (hs : w.s.size ≤ 100) (hW : WOk w) : (twT F T w ind).length ≤ 2400 + cs.sum := by
  have hlo' : ∀ q : Nat, (q : Int) ∈ w.kids → ind.size ≤ 2 * q := fun q hq => by have := hlo q hq; omega
  have k0 := (cost_kid (T := T) h hlo' 0).1
  have k1 := (cost_kid (T := T) h hlo' 1).1
  have k2 := (cost_kid (T := T) h hlo' 2).1
  have s3 := sum_ge3 cs
  have r0 := fun word => cost_row (T := T) h hlo' word 0
  have r1 := fun word => cost_row (T := T) h hlo' word 1
  have d1 := sum_drop cs 1
  have d2 : cs.getD 0 0 = (cs.take 1).sum := by cases cs <;> simp
  rw [List.drop_zero] at r0
  unfold twT
  split
  · have e5 : (catL [⟨#[10]⟩]).length = 1 := by rw [cat_len]; rfl
    have := flat_cost (fun k => F k.toNat ind ++ catL [⟨#[10]⟩]) w.kids cs h.1 (fun j k hj => by
      obtain ⟨q, rfl, h2⟩ := h.2 j k hj
      have h4 := h2 ind (hlo' q (List.mem_of_getElem? hj))
      simp only [Int.toNat_natCast, List.length_append, e5]
      omega)
    omega
  split
  · have := cost_braces h hlo hi
    omega
  split
  · have := cost_stmt hs hW k0 k1 k2 s3 (by have := r0 (stmtWord w.K); have := stmtWord_le w.K; omega)
    omega
  split
  · have := cost_term hs hW k0 k1 s3 (by have := r0 (termWord w.K); have := termWord_le w.K; omega)
    omega
  refine cost_decl hs hi (by rw [← d2]; exact k0) d1 r0 r1 (cost_braces ⟨by simp [h.1], fun j k hj => ?_⟩ (fun q hq => hlo q (List.mem_of_mem_drop hq)) hi)
  rw [List.getElem?_drop] at hj
  obtain ⟨q, e, h2⟩ := h.2 (1 + j) k hj
  have : (cs.drop 1).getD j 0 = cs.getD (1 + j) 0 := by simp [List.getD_eq_getElem?_getD, Nat.add_comm]
  rw [this]
  exact ⟨q, e, h2⟩
end

/-- A text costs no more than so much for each twig. -/
theorem cost_walk {T : List Tw} (hT : T.length ≤ 1000) (hW : ∀ w, w ∈ T → WOk w) (hs : ∀ t, t ∈ T → t.s.size ≤ 100) : ∀ {f at' : Nat} {nest : Int} {n : Nat}, walkS T f at' nest = some n → at' < n ∧ ∀ f2, f ≤ f2 → ∀ ind : ByteArray, ind.size ≤ 2 * at' → (textS T f2 at' ind).length + 2100 ≤ 6000 * (n - at')
  | 0, _, _, _, e => by simp [walkS] at e
  | f + 1, at', nest, n, e => by
    have hle := (walkS_lt e).1
    have hle2 := (walkS_lt e).2
    simp only [walkS] at e
    split at e
    · rename_i w hw
      split at e
      · cases e
      cases hq : kidsW (walkS T f) T w nest w.kids 0 (at' + 1) with
      | none => rw [hq] at e; cases e
      | some q =>
        rw [hq] at e
        simp only [finW] at e
        split at e
        · cases e
          refine ⟨hle, fun f2 hf2 ind hi => ?_⟩
          obtain ⟨f3, rfl⟩ : ∃ f3, f2 = f3 + 1 := ⟨f2 - 1, by omega⟩
          have hat := (List.getElem?_eq_some_iff.1 hw).1
          obtain ⟨h1, cs, h2, h3, h4⟩ := cost_kids (F := textS T f3) (fun a b c h => ⟨(cost_walk hT hW hs (f := f) h).1, fun ind hi => (cost_walk hT hW hs (f := f) h).2 f3 (by omega) ind hi⟩) hq
          have hm := List.mem_of_getElem? hw
          have := cost_tw (T := T) h2 (ind := ind) (fun q' hq' => by have := h4 _ hq'; omega) (by omega) (hs w hm) (hW w hm)
          have e5 : textS T (f3 + 1) at' ind = twT (textS T f3) T w ind := by simp only [textS, hw]
          rw [e5]
          omega
        cases e
    cases e
theorem may_text {T : List Tw} (h : mayS T = true) (hT : T.length ≤ 1000) (hs : ∀ t, t ∈ T → t.s.toList.length ≤ 100) : (textS T (T.length + 1) 0 .empty).length ≤ 1000000000 := by
  have hW := may_wok h hs
  simp only [mayS, Bool.and_eq_true, decide_eq_true_eq] at h
  obtain ⟨⟨h1, _⟩, h2⟩ := h
  cases hw : walkS T (T.length + 1) 0 0 with
  | none => rw [hw] at h2; exact absurd h2 (show ¬ (-1 : Int) = T.length by omega)
  | some n =>
    have := (cost_walk hT hW (fun t ht => by
      have := hs t ht
      have e : t.s.size = t.s.toList.length := by rw [ByteArray.toList_eq]; rfl
      omega) hw).2 (T.length + 1) (Nat.le_refl _) .empty (by decide)
    have := (walkS_lt hw).2
    omega
end Go.Proofs.YtoejddhaiogonaaDoor

namespace Go.Proofs.YtoejddhaiogonaaDoor
open Go.ChangeShapes Go.WideShapes Go.ChangeAt Go.RowKit Go.Deep Go.X

set_option maxRecDepth 100000

theorem trp_named : Tryd.prog.globalNamed "internal/strconv.uint64pow10" = some 0 := by kernel_rfl
theorem trp_type : (Tryd.prog.globals[0]?).map (·.type) = some 115 := by kernel_rfl
theorem trp_arr : Tryd.prog.underlying 115 = some (.array 20 107) := by kernel_rfl
theorem trp_u64 : Tryd.prog.underlying 107 = some (.int .u64) := by kernel_rfl
theorem trp_cell : Tryd.prog.cellsOf 107 = 1 := by kernel_rfl
theorem trp_cells : Tryd.prog.cellsOf 115 = 20 := by kernel_rfl
theorem pow_of {L : List (String × DataW Unit)} (hb : ((L.filter fun x => x.2.handleName?.isNone).filter fun x => x.1 == "internal/strconv.uint64pow10") = [("internal/strconv.uint64pow10", Lib.tabData .u64 Lib.pow10Tab)]) {W : World} (h : laidMetH Tryd.prog L W) : Pow (Hp.all W) := by
  refine ⟨?_, by have := topB_256 W; show 0 < topB W; omega⟩
  have h1 := (laidMetH_iff.1 h).1.filter fun x => x.1 == "internal/strconv.uint64pow10"
  rw [hb] at h1
  have hT : Lib.TabIs Tryd.prog W "internal/strconv.uint64pow10" .u64 Lib.pow10Tab := Lib.tabIs_of_head trp_named trp_type trp_arr trp_u64 trp_cell trp_cells (rest := []) h1
  obtain ⟨e, fr, hg⟩ := tab_block trp_named hT
  have hget : (Hp.all W).get 0 = some (.cells (Lib.pow10Tab.map (Value.int .u64)) e 1) := by
    rw [Hp.all_get, allObj, hg]
    simp only [Option.some.injEq, AObj.cells.injEq, and_true]
    rw [List.map_map]
    refine List.map_congr_left fun n _ => ?_
    exact selfX_eq (.int _ _)
  have hs : tabThere 0 (Lib.pow10Tab.map (Value.int .u64)) (Hp.empty.put 0 (.cells (Lib.pow10Tab.map (Value.int .u64)) 0 1)) = true := by kernel_rfl
  unfold tabThere at *
  rw [hget]
  rw [Hp.get_put, if_pos rfl] at hs
  exact hs
end Go.Proofs.YtoejddhaiogonaaDoor

namespace Go.Proofs.YtoejddhaiogonaaDoor
open Go.X

/-- A twig, but for its place and for where its kids lie. -/
def Tw.pl (w : Tw) : Tw := ⟨w.K, w.s, w.N, 0, 0, .slice none 0 0, w.kids⟩
theorem pl_at (T : List Tw) (i : Nat) : (T.map Tw.pl)[i]? = (T[i]?).map Tw.pl := List.getElem?_map ..
theorem kinds_pl (T : List Tw) (l : List Int) : kindsOf (T.map Tw.pl) l = kindsOf T l := by
  unfold kindsOf
  refine List.map_congr_left fun k _ => ?_
  rw [pl_at, Option.map_map]; rfl
theorem kidsW_pl {rec rec' : Nat → Int → Option Nat} (hr : ∀ a n, rec' a n = rec a n) (T : List Tw) (w : Tw) (nest : Int) : ∀ (l : List Int) (i next : Nat), kidsW rec' (T.map Tw.pl) w.pl nest l i next = kidsW rec T w nest l i next
  | [], _, _ => rfl
  | k :: l, i, next => by
    simp only [kidsW, pl_at]
    cases T[next]? with
    | none => rfl
    | some kid =>
      simp only [Option.map_some, hr, show w.pl.K = w.K from rfl, show w.pl.s = w.s from rfl, show kid.pl.K = kid.K from rfl, show kid.pl.s = kid.s from rfl]
      split
      · split
        · exact kidsW_pl hr T w nest l (i + 1) _
        rfl
      rfl
theorem walk_pl (T : List Tw) : ∀ (f a : Nat) (n : Int), walkS (T.map Tw.pl) f a n = walkS T f a n
  | 0, _, _ => rfl
  | f + 1, a, n => by
    simp only [walkS, pl_at]
    cases T[a]? with
    | none => rfl
    | some w =>
      simp only [Option.map_some, kinds_pl, kidsW_pl (walk_pl T f), show w.pl.K = w.K from rfl, show w.pl.s = w.s from rfl, show w.pl.N = w.N from rfl, show w.pl.kids = w.kids from rfl]
theorem may_pl (T : List Tw) : mayS (T.map Tw.pl) = mayS T := by
  unfold mayS
  rw [walk_pl, List.length_map]
  cases T <;> rfl

end Go.Proofs.YtoejddhaiogonaaDoor

namespace Go.Proofs.YtoejddhaiogonaaDoor
open Go.X

section
variable {h0 h : Hp} {ds : List Nat} {L : List Res} {r a b : Res}
theorem _root_.Go.X.SH.join2 (S : SH h0 ds (a :: b :: L) h) (e : r.own = a.own ++ b.own) (hp : r.P h) : SH h0 ds (r :: L) h := by
  have eo : owns (r :: L) = owns (a :: b :: L) := by simp only [owns_cons, e, List.append_assoc]
  refine ⟨S.ext, fun q hq => ?_, by rw [eo]; exact S.lt, by rw [eo]; exact S.new, by rw [eo]; exact S.nd⟩
  rcases List.mem_cons.1 hq with rfl | hq
  · exact hp
  exact S.hold q (List.mem_cons_of_mem _ (List.mem_cons_of_mem _ hq))
end

def cellsOf (T : List Tw) : List Value := T.flatMap Tw.cells
theorem cellsOf_snoc (T : List Tw) (w : Tw) : cellsOf (T ++ [w]) = cellsOf T ++ w.cells := by simp [cellsOf]
theorem cellsOf_at : ∀ (T : List Tw) (rest : List Value) (i : Nat) (hi : i < T.length), ((cellsOf T ++ rest).drop (i * 6)).take 6 = T[i].cells
  | t :: T, rest, 0, _ => rfl
  | t :: T, rest, i + 1, hi => by
    have e : cellsOf (t :: T) ++ rest = t.cells ++ (cellsOf T ++ rest) := by simp [cellsOf]
    have e2 : (i + 1) * 6 = t.cells.length + i * 6 := by show _ = 6 + _; omega
    rw [e, e2, List.drop_append, List.drop_of_length_le (by omega), List.nil_append, Nat.add_sub_cancel_left]
    exact cellsOf_at T rest i (by simpa using hi)
/-- Rows of kids, of one's own. -/
def ksR (T : List Tw) (bs : List Nat) : Res := ⟨bs, fun h => ∀ t, t ∈ T → ∃ bk, SlC 3 0 h t.ks (isV t.kids) t.kids.length bk ∧ ∀ i, i ∈ bk → i ∈ bs, fun h h' k hn p t ht => by
  obtain ⟨bk, h1, h2⟩ := p t ht
  exact ⟨bk, (slR 3 0 t.ks (isV t.kids) t.kids.length bk).st h h' (fun i hi => k i (h2 i hi)) hn h1, h2⟩⟩
section
variable {h0 h hE : Hp} {ds bs bks : List Nat} {L : List Res} {bw b : Nat} {T : List Tw} {w : Tw}
/-- The tree, as the memory has it. -/
theorem tw_tree {v : Value} (hs : SlC 30 5 h v (cellsOf T) T.length bs) (hk : ∀ t, t ∈ T → ∃ bk, SlC 3 0 h t.ks (isV t.kids) t.kids.length bk) : TreeAt h v T := by
  refine ⟨?_, fun t ht => by obtain ⟨bk, h1⟩ := hk t ht; exact h1.row⟩
  rcases hs with ⟨h1, h2, h3, _⟩ | ⟨b, m, c, rest, h1, h2, _, h4, _, h5, _⟩
  · exact .inl ⟨List.eq_nil_of_length_eq_zero h3, none, 0, h1⟩
  refine .inr ⟨b, 0, c, _, 30, m, h1, h2, h4, by rw [List.length_append]; omega, fun i hi => ?_⟩
  rw [Nat.zero_add]
  exact cellsOf_at T rest i hi
theorem el22 : ElN trE 22 30 5 71 := ⟨by kernel_rfl, by kernel_rfl, by kernel_rfl, .agg #[.int .i64 0, .string .empty, .int .i64 0, .int .i64 0, .int .i64 0, .slice none 0 0], by kernel_rfl, rfl⟩

end
end Go.Proofs.YtoejddhaiogonaaDoor

namespace Go.X
section
variable {E : Env} {fn : FuncId} {nt : Nat} {l : Kn} {h : Hp} {dr : Bool} {ops : Array Oper} {fin rest : List (Oper × List Oper)} {R : Kn → Hp → Prop} {lt : List Oper} {d : Nat} {ty s t : TypeId} {pos : String} {af : Array Edge} {gg : Option (Nat × Bool)} {x : Operand}
/-- A row of bytes, as a string. -/
theorem o_convBS {b n c : Nat} {e e' : TypeId} {cs : List Value} {m : Nat} {bs : List UInt8} (g : Gd ops l gg) (hd : Nat.blt d nt = true) (hx : evl l x = some (.slice (some ⟨b, 0, none⟩) n c)) (hs : E.und s = some (.slice e)) (he : E.und e = some (.int .u8)) (ht : E.und t = some .string)
    (hg : h.get b = some (.cells cs e' m)) (hb : (Nat.ble (0 + n) cs.length = true ∧ bytesIn ((cs.drop 0).take n) [] = some bs)) (q : WL E fn nt dr ops fin rest ((d, .string ⟨bs.toArray⟩) :: l) h R) :
    WL E fn nt dr ops fin ((⟨some d, .convert s t x, ty, pos, af, gg⟩, lt) :: rest) l h R :=
  wl_read g (by simp only [cls, ht]) (fun _ ag => by
    simp only [readX, ag.ev hx, convertX, hs, ht, he, rowOf, hg, hb.1, cond_true, hb.2]) (wn hd) q
end
end Go.X
namespace Go.Proofs.YtoejddhaiogonaaDoor
open Go.X

/-- The digits of what is left. -/
def digsL (n : Nat) : List UInt8 := if n = 0 then [] else Lib.decDigits n
theorem digsL_step {n : Nat} (h : 0 < n) : digsL n = digsL (n / 10) ++ [UInt8.ofNat (48 + n % 10)] := by
  rw [digsL, if_neg (by omega), Lib.decDigits]
  split
  · rename_i h1
    have e : n / 10 = 0 := by omega
    rw [digsL, if_pos e, List.nil_append, Nat.mod_eq_of_lt h1]
  rename_i h1
  rw [digsL, if_neg (by omega)]
theorem itoaB_nat (n : Nat) : (itoaB (n : Int)).toList = Lib.decDigits n := by
  rw [itoaB, ByteArray.toList_eq, Lib.itoa, if_neg (by omega), Int.toNat_natCast]

theorem wrap_dig {k : Nat} (hk : k < 10) : IntKind.wrap .u8 (48 + (k : Int)) = ((48 + k : Nat) : Int) := by
  rcases (show k = 0 ∨ k = 1 ∨ k = 2 ∨ k = 3 ∨ k = 4 ∨ k = 5 ∨ k = 6 ∨ k = 7 ∨ k = 8 ∨ k = 9 by omega) with rfl | rfl | rfl | rfl | rfl | rfl | rfl | rfl | rfl | rfl <;> rfl
theorem size_toList (s : ByteArray) : s.size = s.toList.length := by rw [ByteArray.toList_eq]; rfl
section
variable {h : Hp}
/-- Digits -/
theorem c75 {n0 : Nat} (hn : n0 ≤ 2147483647) : C trE 75 [.int .i64 (n0 : Int)] h fun v h' => (∃ B, v = .string B ∧ B.toList = (itoaB (n0 : Int)).toList) ∧ Ext h h' := by
  have hlen : (Lib.decDigits n0).length ≤ 21 := by
    have := Lib.itoa_length_le (n0 : Int) (by omega) (by omega)
    rwa [Lib.itoa, if_neg (by omega), Int.toNat_natCast] at this
  refine c_enter (fu := Tryd.f75) (by kernel_rfl) rfl ?_
  have S := SH.start h
  refine w_seq ?_
  refine w_region (by kernel_rfl) ?_
  refine o_assign gn rfl rfl ?_
  refine wl_end ?_
  refine w_seq ?_
  refine w_region (by kernel_rfl) ?_
  refine o_assign gn rfl rfl ?_
  refine wl_end ?_
  refine w_seq ?_
  refine w_block ?_
  refine w_loopS [(0, _), (3, _)] [] (by repeat (first | exact trivial | refine ⟨rfl, ?_⟩)) (fun kk lv hh => ∃ (n : Nat) (s : ByteArray), lv = [(0, .int .i64 (n : Int)), (3, .string s)] ∧ kk = n + (if s.toList = [] then 1 else 0) ∧ n ≤ n0 ∧ SH h [] [] hh ∧ ((s.toList = [] ∧ n = n0) ∨ (s.toList ≠ [] ∧ digsL n ++ s.toList = Lib.decDigits n0))) (n := (n0 + 1)) ?_ fun kk lv hh hI => ?_
  · exact ⟨n0, .empty, rfl, by rw [if_pos (by rw [ByteArray.toList_eq]; rfl)], Nat.le_refl _, S, .inl ⟨by rw [ByteArray.toList_eq]; rfl, rfl⟩⟩
  obtain ⟨n, s, rfl, hkk, hn0, S, hD⟩ := hI
  refine w_seq ?_
  refine w_seq ?_
  refine w_region (by kernel_rfl) ?_
  refine o_move gn rfl rfl ?_
  refine o_gtr gn rfl rfl rfl ?_
  refine o_move gn rfl rfl ?_
  refine o_or (n := 2) rfl rfl rfl gn rfl (fun hb => by
      refine o_move (gy rfl rfl rfl hb) rfl rfl ?_
      refine o_eqS (gy rfl rfl rfl hb) rfl rfl rfl ?_
      exact wl_end ⟨rfl, rfl, 2, rfl, rfl⟩) ?_
  refine wl_end ?_
  refine w_cond rfl (fun hb => ?_) fun hb => ?_
  · skip
    refine w_skip ?_
    have hpos : s.toList = [] ∨ 0 < n := by
      rw [eqS_empty] at hb
      simp only [Bool.or_eq_true, decide_eq_true_eq, List.isEmpty_iff] at hb
      rcases hb with h1 | h1
      · exact .inr (by omega)
      exact .inl h1
    refine w_block ?_
    refine w_seq ?_
    refine w_region (by kernel_rfl) ?_
    refine o_move gn rfl rfl ?_
    refine o_remI (b := 10) gn rfl rfl rfl (by omega) ?_
    refine o_add gn rfl rfl rfl (by omega) (by omega) ?_
    refine o_convert (k := .u8) gn rfl rfl (by kernel_rfl) (by kernel_rfl) ?_
    rw [wrap_dig (Nat.mod_lt _ (by omega))]
    refine s_buildSlice (cs := #[.int .u8 ((48 + n % 10 : Nat) : Int)]) (e := 5) (z := 0) (zv := .int .u8 0) [(0, _)] S gn rfl (by kernel_rfl) (by kernel_rfl) (by kernel_rfl) (by kernel_rfl) rfl (by kernel_rfl) fun b1 g nb1 S => ?_
    refine o_convBS (e := 5) gn rfl rfl (by kernel_rfl) (by kernel_rfl) (by kernel_rfl) (S.cel 0 rfl) (bs := [UInt8.ofNat (48 + n % 10)]) ⟨rfl, rfl⟩ ?_
    refine o_move gn rfl rfl ?_
    refine o_addS gn rfl rfl rfl (by
  rw [size_toList s]
  have : s.toList.length ≤ 21 := by
    rcases hD with ⟨h1, _⟩ | ⟨_, h1⟩
    · rw [h1]; exact Nat.zero_le _
    have := congrArg List.length h1
    rw [List.length_append] at this; omega
  have e : (⟨[UInt8.ofNat (48 + n % 10)].toArray⟩ : ByteArray).size = 1 := rfl
  omega) ?_
    refine o_assign gn rfl rfl ?_
    refine wl_end ?_
    refine w_region (by kernel_rfl) ?_
    refine o_move gn rfl rfl ?_
    refine o_quoI (b := 10) gn rfl rfl rfl (by omega) (by omega) ?_
    refine o_assign gn rfl rfl ?_
    refine wl_end ?_
    refine blk_next ?_
    have etl : (⟨[UInt8.ofNat (48 + n % 10)].toArray⟩ ++ s : ByteArray).toList = UInt8.ofNat (48 + n % 10) :: s.toList := by
      rw [ByteArray.toList_eq, ByteArray.toList_eq, ByteArray.data_append, Array.toList_append]; rfl
    have hne : (⟨[UInt8.ofNat (48 + n % 10)].toArray⟩ ++ s : ByteArray).toList ≠ [] := by rw [etl]; exact List.cons_ne_nil _ _
    have hst : digsL (n / 10) ++ (⟨[UInt8.ofNat (48 + n % 10)].toArray⟩ ++ s : ByteArray).toList = Lib.decDigits n0 := by
      rw [etl]
      rcases hD with ⟨h1, rfl⟩ | ⟨_, h1⟩
      · rw [h1]
        by_cases hz : n = 0
        · subst hz; rw [Lib.decDigits_one (by omega)]; rfl
        rw [← digsL_step (by omega), digsL, if_neg hz]
      rw [← h1]
      rw [digsL_step (n := n) (by rcases hpos with h2 | h2; exact absurd h2 (by assumption); exact h2), List.append_assoc]; rfl
    have hm : n / 10 < kk := by
      rcases hpos with h2 | h2
      · rw [hkk, if_pos h2]; omega
      omega
    exact rndS (n / 10) (by omega) [(0, _), (3, _)] (by repeat (first | exact trivial | refine ⟨rfl, ?_⟩)) ⟨n / 10, _, rfl, by rw [if_neg hne, Nat.add_zero], by omega, S.drop, .inr ⟨hne, hst⟩⟩
  refine w_exit ?_
  refine thn_exit ?_
  refine rnd_exit ?_
  refine blk_eq ?_
  refine w_seq ?_
  refine w_region (by kernel_rfl) ?_
  refine o_move gn rfl rfl ?_
  refine o_assign gn rfl rfl ?_
  refine wl_end ?_
  refine w_ret ?_
  refine ⟨.inl rfl, _, rfl, ?_⟩
  exact ⟨⟨s, rfl, by
    rw [eqS_empty] at hb
    simp only [Bool.or_eq_false_iff, decide_eq_false_iff_not] at hb
    have hz : n = 0 := by omega
    rw [itoaB_nat]
    rcases hD with ⟨h1, _⟩ | ⟨_, h1⟩
    · rw [h1] at hb; simp at hb
    rw [← h1, hz]; rfl⟩, S.e0⟩
end
end Go.Proofs.YtoejddhaiogonaaDoor

namespace Go.Proofs.YtoejddhaiogonaaDoor
open Go.X

theorem tl_app (a b : ByteArray) : (a ++ b).toList = a.toList ++ b.toList := by
  rw [ByteArray.toList_eq, ByteArray.toList_eq, ByteArray.toList_eq, ByteArray.data_append, Array.toList_append]
theorem tl_lit (l : List UInt8) : (⟨l.toArray⟩ : ByteArray).toList = l := by rw [ByteArray.toList_eq]
theorem tls : (∀ a b : ByteArray, (a ++ b).toList = a.toList ++ b.toList) ∧ ∀ l : List UInt8, (⟨l.toArray⟩ : ByteArray).toList = l := ⟨tl_app, tl_lit⟩
theorem zb : (∀ a b : ByteArray, (a ++ b).size = a.size + b.size) ∧ (⟨#[32, 32]⟩ : ByteArray).size = 2 ∧ (⟨#[10]⟩ : ByteArray).size = 1 := ⟨fun _ _ => ByteArray.size_append, rfl, rfl⟩
abbrev srV (ks : List ByteArray) : List Value := ks.map Value.string
/-- Texts in braces. -/
def bracesL (ks : List ByteArray) (ind : ByteArray) : List UInt8 := if ks = [] then [123, 32, 125] else
  [123, 10] ++ (ks.flatMap fun k => ind.toList ++ [32, 32] ++ k.toList ++ [10]) ++ ind.toList ++ [125]
theorem flatMap_snoc {α β : Type} (f : α → List β) (l : List α) {i : Nat} (h : i < l.length) : (l.take (i + 1)).flatMap f = (l.take i).flatMap f ++ f l[i] := by
  rw [List.take_add_one, List.getElem?_eq_getElem h, List.flatMap_append]; simp

section
variable {h : Hp} {v : Value} {ks : List ByteArray} {ind : ByteArray}
/-- braces -/
theorem c52 (R : RowV h v (srV ks)) (hl : ks.length ≤ 1000) (hk : ∀ k, k ∈ ks → k.size ≤ 100000000) (hi0 : ind.size ≤ 1000000) : C trE 52 [v, .string ind] h fun v h' => (∃ B, v = .string B ∧ B.toList = bracesL ks ind) ∧ Ext h h' := by
  obtain ⟨ka, kc, rfl⟩ := R.valM
  refine c_enter (fu := Tryd.f52) (by kernel_rfl) rfl ?_
  have S := SH.start h
  refine w_seq ?_
  refine w_region (by kernel_rfl) ?_
  refine o_assign gn rfl rfl ?_
  refine wl_end ?_
  refine w_seq ?_
  refine w_seq ?_
  refine w_region (by kernel_rfl) ?_
  refine o_move gn rfl rfl ?_
  refine o_len gn rfl rfl (by kernel_rfl) ?_
  refine o_eqi gn rfl rfl rfl ?_
  refine wl_end ?_
  refine w_cond rfl (fun hb => ?_) fun hb => ?_
  · skip
    refine w_seq ?_
    refine w_region (by kernel_rfl) ?_
    refine o_assign gn rfl rfl ?_
    refine wl_end ?_
    refine w_ret ?_
    refine ⟨.inl rfl, _, rfl, ?_⟩
    exact ⟨⟨_, rfl, by
      have : ks = [] := by simpa using hb
      rw [bracesL, if_pos this]; exact tl_lit _⟩, S.e0⟩
  refine w_skip ?_
  have hne : ks ≠ [] := by simpa using hb
  refine w_seq ?_
  refine w_region (by kernel_rfl) ?_
  refine o_assign gn rfl rfl ?_
  refine wl_end ?_
  refine w_seq ?_
  refine w_seq ?_
  refine w_region (by kernel_rfl) ?_
  refine o_assign gn rfl rfl ?_
  refine wl_end ?_
  refine w_block ?_
  refine w_loopS [(5, _), (6, _)] [(0, _), (1, _)] (by repeat (first | exact trivial | refine ⟨rfl, ?_⟩)) (fun kk lv hh => ∃ (i : Nat) (s : ByteArray), lv = [(5, .string s), (6, iV i)] ∧ kk = ks.length - i ∧ i ≤ ks.length ∧ SH h [] [] hh ∧ s.toList = [123, 10] ++ ((ks.take i).flatMap fun k => ind.toList ++ [32, 32] ++ k.toList ++ [10]) ∧ s.size ≤ 200000000 * (i + 1)) (n := (ks.length)) ?_ fun kk lv hh hI => ?_
  · exact ⟨0, ⟨#[123, 10]⟩, rfl, rfl, by omega, S, by rw [tl_lit]; rfl, by decide⟩
  obtain ⟨i, s, rfl, hkk, hi3, S, hst, hsz⟩ := hI
  refine w_seq ?_
  refine w_seq ?_
  refine w_region (by kernel_rfl) ?_
  refine o_move gn rfl rfl ?_
  refine o_move gn rfl rfl ?_
  refine o_len gn rfl rfl (by kernel_rfl) ?_
  refine o_lss gn rfl rfl rfl ?_
  refine wl_end ?_
  refine w_cond rfl (fun hb => ?_) fun hb => ?_
  · skip
    refine w_skip ?_
    have hi : i < ks.length := by simp at hb; omega
    obtain ⟨kb, ko, kc', kcs, ke, km, hv2, hg2, hlt2, hat2⟩ := R.atM (by omega)
    have hka2 : ka = some ⟨kb, ko, none⟩ := by injection hv2
    have hki := hk _ (List.getElem_mem hi)
    have hat3 : kcs[ko + i]? = some (.string ks[i]) := hat2 i hi
    refine w_seq ?_
    refine w_block ?_
    refine w_region (by kernel_rfl) ?_
    refine o_move gn rfl rfl ?_
    refine o_move gn rfl rfl ?_
    refine o_addS gn rfl rfl rfl (by first | omega | (simp only [zb]; omega)) ?_
    refine o_addS gn rfl rfl rfl (by first | omega | (simp only [zb]; omega)) ?_
    refine o_move gn rfl rfl ?_
    refine o_move gn rfl rfl ?_
    rw [hka2]
    refine o_indexAddr (zz := 1) gn rfl rfl rfl (by kernel_rfl) (by omega) (by omega) ?_
    rw [← hka2]
    refine o_load gn rfl rfl (by kernel_rfl) (S.old0 hg2 hlt2) (by rw [Int.toNat_natCast, Nat.mul_one]; exact hat3) ?_
    refine o_addS gn rfl rfl rfl (by first | omega | (simp only [zb]; omega)) ?_
    refine o_addS gn rfl rfl rfl (by first | omega | (simp only [zb]; omega)) ?_
    refine o_assign gn rfl rfl ?_
    refine wl_end ?_
    refine w_region (by kernel_rfl) ?_
    refine o_move gn rfl rfl ?_
    refine o_add gn rfl rfl rfl (by omega) (by omega) ?_
    refine o_assign gn rfl rfl ?_
    refine wl_end ?_
    exact rndS (ks.length - (i + 1)) (by omega) [(5, _), (6, _)] (by repeat (first | exact trivial | refine ⟨rfl, ?_⟩)) ⟨i + 1, _, rfl, rfl, by omega, S, by
      rw [flatMap_snoc _ _ hi]
      simp only [tl_app, hst, tl_lit, List.append_assoc], by
      simp only [zb]; omega⟩
  refine w_exit ?_
  refine thn_exit ?_
  refine rnd_exit ?_
  refine blk_eq ?_
  refine w_seq ?_
  have hi4 : i = ks.length := by simp at hb; omega
  subst hi4
  have z1 : (⟨#[125]⟩ : ByteArray).size = 1 := rfl
  refine w_region (by kernel_rfl) ?_
  refine o_move gn rfl rfl ?_
  refine o_move gn rfl rfl ?_
  refine o_addS gn rfl rfl rfl (by first | omega | (simp only [ByteArray.size_append]; omega)) ?_
  refine o_addS gn rfl rfl rfl (by first | omega | (simp only [ByteArray.size_append]; omega)) ?_
  refine o_assign gn rfl rfl ?_
  refine wl_end ?_
  refine w_ret ?_
  refine ⟨.inl rfl, _, rfl, ?_⟩
  exact ⟨⟨_, rfl, by
    rw [List.take_length] at hst
    rw [bracesL, if_neg hne]
    simp only [tl_app, hst, tl_lit, List.append_assoc]⟩, S.e0⟩
end
end Go.Proofs.YtoejddhaiogonaaDoor

namespace Go.Proofs.YtoejddhaiogonaaDoor
open Go.X

def kd (ks : List ByteArray) (i : Nat) : ByteArray := ks.getD i .empty
theorem row_get {h : Hp} {ks : List ByteArray} {ka : Option Addr} {kc : Nat} (R : RowV h (.slice ka ks.length kc) (srV ks)) (h0 : 0 < ks.length) : ∃ kb ko kcs ke km, ka = some ⟨kb, ko, none⟩ ∧ h.get kb = some (.cells kcs ke km) ∧ kb < h.n ∧ ∀ i, i < ks.length → kcs[ko + i * 1]? = some (.string (kd ks i)) := by
  obtain ⟨kb, ko, kc', kcs, ke, km, hv2, hg2, hlt2, hat2⟩ := R.atM h0
  refine ⟨kb, ko, kcs, ke, km, by injection hv2, hg2, hlt2, fun i hi => ?_⟩
  rw [Nat.mul_one, kd, List.getD_eq_getElem?_getD, List.getElem?_eq_getElem hi]
  exact hat2 i hi
theorem kd_le {ks : List ByteArray} (hk : ∀ k, k ∈ ks → k.size ≤ 100000000) (i : Nat) : (kd ks i).size ≤ 100000000 := by
  rw [kd, List.getD_eq_getElem?_getD]
  cases e : ks[i]? with
  | none => exact Nat.zero_le _
  | some k => exact hk k (List.mem_of_getElem? e)
theorem lens3 : (∀ a b : ByteArray, (a ++ b).size = a.size + b.size) ∧ (⟨#[110, 117, 108, 108]⟩ : ByteArray).size = 4 ∧ (⟨#[105, 116]⟩ : ByteArray).size = 2 ∧ (⟨#[46]⟩ : ByteArray).size = 1 ∧ (⟨#[91]⟩ : ByteArray).size = 1 ∧ (⟨#[93]⟩ : ByteArray).size = 1 ∧ (⟨#[32]⟩ : ByteArray).size = 1 ∧ (⟨#[110, 101, 119, 32]⟩ : ByteArray).size = 4 ∧ (⟨#[97, 114, 114, 32]⟩ : ByteArray).size = 4 ∧ (⟨#[108, 101, 110, 32]⟩ : ByteArray).size = 4 ∧ (⟨#[102, 110, 32]⟩ : ByteArray).size = 3 ∧ (⟨#[32, 116, 111, 32]⟩ : ByteArray).size = 4 ∧ (⟨#[118, 97, 114, 32]⟩ : ByteArray).size = 4 ∧ (⟨#[32, 61, 32]⟩ : ByteArray).size = 3 ∧ (⟨#[59]⟩ : ByteArray).size = 1 ∧ (⟨#[99, 97, 108, 108, 32]⟩ : ByteArray).size = 5 ∧ (⟨#[99, 97, 110, 99, 101, 108, 32]⟩ : ByteArray).size = 7 ∧ (⟨#[106, 111, 105, 110, 32]⟩ : ByteArray).size = 5 ∧ (⟨#[108, 111, 103, 32]⟩ : ByteArray).size = 4 ∧ (⟨#[112, 111, 115, 116, 32]⟩ : ByteArray).size = 5 ∧ (⟨#[32, 97, 102, 116, 101, 114, 32]⟩ : ByteArray).size = 7 ∧ (⟨#[32, 102, 114, 111, 110, 116]⟩ : ByteArray).size = 6 ∧ (⟨#[115, 112, 97, 119, 110, 32]⟩ : ByteArray).size = 6 ∧ (⟨#[101, 110, 97, 98, 108, 101, 32]⟩ : ByteArray).size = 7 ∧ (⟨#[100, 105, 115, 97, 98, 108, 101, 32]⟩ : ByteArray).size = 8 ∧ (⟨#[119, 104, 105, 108, 101, 32]⟩ : ByteArray).size = 6 ∧ (⟨#[105, 102, 32]⟩ : ByteArray).size = 3 ∧ (⟨#[32, 101, 108, 115, 101, 32]⟩ : ByteArray).size = 6 ∧ (⟨#[114, 101, 116, 117, 114, 110, 59]⟩ : ByteArray).size = 7 ∧ (⟨#[108, 111, 111, 112, 101, 114, 32]⟩ : ByteArray).size = 7 ∧ (⟨#[99, 108, 97, 115, 115, 32]⟩ : ByteArray).size = 6 ∧ (⟨#[32, 123]⟩ : ByteArray).size = 2 ∧ (⟨#[32, 125]⟩ : ByteArray).size = 2 ∧ (⟨#[99, 114, 101, 97, 116, 101, 32]⟩ : ByteArray).size = 7 ∧ (⟨#[115, 116, 97, 114, 116, 32]⟩ : ByteArray).size = 6 ∧ (⟨#[115, 116, 111, 112, 32]⟩ : ByteArray).size = 5 ∧ (⟨#[100, 101, 115, 116, 114, 111, 121, 32]⟩ : ByteArray).size = 8 ∧ (⟨#[101, 118, 101, 110, 116, 32]⟩ : ByteArray).size = 6 ∧ (⟨#[32, 111, 110, 32]⟩ : ByteArray).size = 4 ∧ (⟨#[32, 111, 102, 102, 32]⟩ : ByteArray).size = 5 ∧ (⟨#[109, 97, 105, 110, 32]⟩ : ByteArray).size = 5 ∧ (⟨#[32, 32]⟩ : ByteArray).size = 2 ∧ (⟨#[40]⟩ : ByteArray).size = 1 ∧ (⟨#[41]⟩ : ByteArray).size = 1 ∧ (⟨#[10]⟩ : ByteArray).size = 1 ∧ (⟨#[99, 111, 109, 112, 32]⟩ : ByteArray).size = 5 := ⟨fun _ _ => ByteArray.size_append, rfl, rfl, rfl, rfl, rfl, rfl, rfl, rfl, rfl, rfl, rfl, rfl, rfl, rfl, rfl, rfl, rfl, rfl, rfl, rfl, rfl, rfl, rfl, rfl, rfl, rfl, rfl, rfl, rfl, rfl, rfl, rfl, rfl, rfl, rfl, rfl, rfl, rfl, rfl, rfl, rfl, rfl, rfl, rfl, rfl⟩
/-- A term's text, of its kids' texts. -/
def termL (w : Tw) (ks : List ByteArray) : List UInt8 :=
  if w.K = 26 then (itoaB w.N).toList else
  if w.K = 27 then [110, 117, 108, 108] else
  if w.K = 28 then [105, 116] else
  if w.K = 30 then (kd ks 0).toList ++ [46] ++ w.s.toList else
  if w.K = 31 then (kd ks 0).toList ++ [91] ++ (kd ks 1).toList ++ [93] else
  if w.K = 32 then (kd ks 0).toList ++ [32] ++ w.s.toList ++ [32] ++ (kd ks 1).toList else
  if w.K = 33 then [110, 101, 119, 32] ++ w.s.toList else
  if w.K = 34 then [97, 114, 114, 32] ++ (kd ks 0).toList else
  if w.K = 35 then [108, 101, 110, 32] ++ (kd ks 0).toList else
  if w.K = 36 then [102, 110, 32] ++ (kd ks 0).toList else w.s.toList

section
variable {h : Hp} {v : Value} {ks : List ByteArray} {w : Tw}
/-- term -/
theorem c53 (R : RowV h v (srV ks)) (hk : ∀ k, k ∈ ks → k.size ≤ 100000000) (hs : w.s.size ≤ 1000000) (hn : w.K = 26 → 0 ≤ w.N ∧ w.N ≤ 2147483647) (hcv : cellV w.ks = true) (h1 : w.K = 30 ∨ w.K = 34 ∨ w.K = 35 ∨ w.K = 36 → 1 ≤ ks.length) (h2 : w.K = 31 ∨ w.K = 32 → 2 ≤ ks.length) :
    C trE 53 [w.val, v] h fun v h' => (∃ B, v = .string B ∧ B.toList = termL w ks) ∧ Ext h h' := by
  obtain ⟨K, s, N, L, Co, kv, kids⟩ := w
  simp only at hs hn hcv h1 h2
  obtain ⟨ka, kc, rfl⟩ := R.valM
  have q0 := kd_le hk 0
  have q1 := kd_le hk 1
  refine c_enter (fu := Tryd.f53) (by kernel_rfl) rfl ?_
  have S := SH.start h
  refine w_seq ?_
  refine w_region (by kernel_rfl) ?_
  refine s_box S gn rfl rfl fun b1 g nb1 S => ?_
  refine o_assign gn rfl rfl ?_
  refine wl_end ?_
  refine w_seq ?_
  refine w_seq ?_
  refine w_region (by kernel_rfl) ?_
  refine o_fieldAddr (off := 0) gn rfl rfl (by kernel_rfl) ?_
  refine o_load gn rfl rfl (by kernel_rfl) (by exact S.cel 0 rfl) rfl ?_
  refine wl_end ?_
  refine w_block ?_
  refine w_seq ?_
  refine w_region (by kernel_rfl) ?_
  refine o_eqi gn rfl rfl rfl ?_
  refine o_assign gn rfl rfl ?_
  refine wl_end ?_
  refine w_cond rfl (fun hb => ?_) fun hb => ?_
  · skip
    refine w_seq ?_
    have hK0 : K = 26 := by simpa using hb
    subst hK0
    obtain ⟨n0, rfl⟩ : ∃ n0 : Nat, N = n0 := ⟨N.toNat, by have := hn rfl; omega⟩
    refine w_region (by kernel_rfl) ?_
    refine o_fieldAddr (off := 2) gn rfl rfl (by kernel_rfl) ?_
    refine o_load gn rfl rfl (by kernel_rfl) (by exact S.cel 0 rfl) rfl ?_
    refine o_call [_] gn rfl rfl (by kernel_rfl) rfl (C.mono (c75 (by have := hn rfl; omega)) ?_)
    rintro v g ⟨⟨B, rfl, hB⟩, x⟩
    have S := S.grow x
    refine ⟨ag0, ?_⟩
    refine o_assign gn rfl rfl ?_
    refine wl_end ?_
    refine w_ret ?_
    refine ⟨.inl rfl, _, rfl, ?_⟩
    exact ⟨⟨B, rfl, hB⟩, S.e0⟩
  refine w_seq ?_
  refine w_region (by kernel_rfl) ?_
  refine o_eqi gn rfl rfl rfl ?_
  refine o_assign gn rfl rfl ?_
  refine wl_end ?_
  refine w_cond rfl (fun hb => ?_) fun hb => ?_
  · skip
    refine w_seq ?_
    have hK0 : K = 27 := by simpa using hb
    subst hK0
    refine w_region (by kernel_rfl) ?_
    refine o_assign gn rfl rfl ?_
    refine wl_end ?_
    refine w_ret ?_
    refine ⟨.inl rfl, _, rfl, ?_⟩
    exact ⟨⟨_, rfl, by simp only [tls]; rfl⟩, S.e0⟩
  refine w_seq ?_
  refine w_region (by kernel_rfl) ?_
  refine o_eqi gn rfl rfl rfl ?_
  refine o_assign gn rfl rfl ?_
  refine wl_end ?_
  refine w_cond rfl (fun hb => ?_) fun hb => ?_
  · skip
    refine w_seq ?_
    have hK0 : K = 28 := by simpa using hb
    subst hK0
    refine w_region (by kernel_rfl) ?_
    refine o_assign gn rfl rfl ?_
    refine wl_end ?_
    refine w_ret ?_
    refine ⟨.inl rfl, _, rfl, ?_⟩
    exact ⟨⟨_, rfl, by simp only [tls]; rfl⟩, S.e0⟩
  refine w_seq ?_
  refine w_region (by kernel_rfl) ?_
  refine o_eqi gn rfl rfl rfl ?_
  refine o_assign gn rfl rfl ?_
  refine wl_end ?_
  refine w_cond rfl (fun hb => ?_) fun hb => ?_
  · skip
    refine w_seq ?_
    have hK0 : K = 30 := by simpa using hb
    subst hK0
    have hl1 := h1 (by decide)
    obtain ⟨kb, ko, kcs, ke, km, rfl, hg2, hlt2, hat2⟩ := row_get R (by omega)
    refine w_draw [(0, []), (1, []), (2, []), (3, []), (4, []), (5, []), (6, []), (7, [])] (by kernel_rfl) (by kernel_rfl) (by kernel_rfl) (by kernel_rfl) ?_
    refine o_move gn rfl rfl ?_
    refine o_indexAddr (zz := 1) gn rfl rfl rfl (by kernel_rfl) (by omega) (by omega) ?_
    refine o_load gn rfl rfl (by kernel_rfl) (S.old0 hg2 hlt2) (hat2 0 (by omega)) ?_
    refine o_addS gn rfl rfl rfl (by first | omega | (simp only [lens3]; omega)) ?_
    refine o_fieldAddr (off := 1) gn rfl rfl (by kernel_rfl) ?_
    refine o_load gn rfl rfl (by kernel_rfl) (by exact S.cel 0 rfl) rfl ?_
    refine o_addS gn rfl rfl rfl (by first | omega | (simp only [lens3]; omega)) ?_
    refine o_assign gn rfl rfl ?_
    refine wl_end ?_
    refine w_ret ?_
    refine ⟨.inl rfl, _, rfl, ?_⟩
    exact ⟨⟨_, rfl, by simp only [tls]; rfl⟩, S.e0⟩
  refine w_seq ?_
  refine w_region (by kernel_rfl) ?_
  refine o_eqi gn rfl rfl rfl ?_
  refine o_assign gn rfl rfl ?_
  refine wl_end ?_
  refine w_cond rfl (fun hb => ?_) fun hb => ?_
  · skip
    refine w_seq ?_
    have hK0 : K = 31 := by simpa using hb
    subst hK0
    have hl2 := h2 (by decide)
    obtain ⟨kb, ko, kcs, ke, km, rfl, hg2, hlt2, hat2⟩ := row_get R (by omega)
    refine w_draw [(0, []), (1, []), (2, []), (3, []), (4, []), (5, []), (6, []), (7, []), (8, []), (9, [])] (by kernel_rfl) (by kernel_rfl) (by kernel_rfl) (by kernel_rfl) ?_
    refine o_move gn rfl rfl ?_
    refine o_indexAddr (zz := 1) gn rfl rfl rfl (by kernel_rfl) (by omega) (by omega) ?_
    refine o_load gn rfl rfl (by kernel_rfl) (S.old0 hg2 hlt2) (hat2 0 (by omega)) ?_
    refine o_addS gn rfl rfl rfl (by first | omega | (simp only [lens3]; omega)) ?_
    refine o_move gn rfl rfl ?_
    refine o_indexAddr (zz := 1) gn rfl rfl rfl (by kernel_rfl) (by omega) (by omega) ?_
    refine o_load gn rfl rfl (by kernel_rfl) (S.old0 hg2 hlt2) (hat2 1 (by omega)) ?_
    refine o_addS gn rfl rfl rfl (by first | omega | (simp only [lens3]; omega)) ?_
    refine o_addS gn rfl rfl rfl (by first | omega | (simp only [lens3]; omega)) ?_
    refine o_assign gn rfl rfl ?_
    refine wl_end ?_
    refine w_ret ?_
    refine ⟨.inl rfl, _, rfl, ?_⟩
    exact ⟨⟨_, rfl, by simp only [tls]; rfl⟩, S.e0⟩
  refine w_seq ?_
  refine w_region (by kernel_rfl) ?_
  refine o_eqi gn rfl rfl rfl ?_
  refine o_assign gn rfl rfl ?_
  refine wl_end ?_
  refine w_cond rfl (fun hb => ?_) fun hb => ?_
  · skip
    refine w_seq ?_
    have hK0 : K = 32 := by simpa using hb
    subst hK0
    have hl2 := h2 (by decide)
    obtain ⟨kb, ko, kcs, ke, km, rfl, hg2, hlt2, hat2⟩ := row_get R (by omega)
    refine w_draw [(0, []), (1, []), (2, []), (3, []), (4, []), (5, []), (6, []), (7, []), (8, []), (9, []), (10, []), (11, []), (12, [])] (by kernel_rfl) (by kernel_rfl) (by kernel_rfl) (by kernel_rfl) ?_
    refine o_move gn rfl rfl ?_
    refine o_indexAddr (zz := 1) gn rfl rfl rfl (by kernel_rfl) (by omega) (by omega) ?_
    refine o_load gn rfl rfl (by kernel_rfl) (S.old0 hg2 hlt2) (hat2 0 (by omega)) ?_
    refine o_addS gn rfl rfl rfl (by first | omega | (simp only [lens3]; omega)) ?_
    refine o_fieldAddr (off := 1) gn rfl rfl (by kernel_rfl) ?_
    refine o_load gn rfl rfl (by kernel_rfl) (by exact S.cel 0 rfl) rfl ?_
    refine o_addS gn rfl rfl rfl (by first | omega | (simp only [lens3]; omega)) ?_
    refine o_addS gn rfl rfl rfl (by first | omega | (simp only [lens3]; omega)) ?_
    refine o_move gn rfl rfl ?_
    refine o_indexAddr (zz := 1) gn rfl rfl rfl (by kernel_rfl) (by omega) (by omega) ?_
    refine o_load gn rfl rfl (by kernel_rfl) (S.old0 hg2 hlt2) (hat2 1 (by omega)) ?_
    refine o_addS gn rfl rfl rfl (by first | omega | (simp only [lens3]; omega)) ?_
    refine o_assign gn rfl rfl ?_
    refine wl_end ?_
    refine w_ret ?_
    refine ⟨.inl rfl, _, rfl, ?_⟩
    exact ⟨⟨_, rfl, by simp only [tls]; rfl⟩, S.e0⟩
  refine w_seq ?_
  refine w_region (by kernel_rfl) ?_
  refine o_eqi gn rfl rfl rfl ?_
  refine o_assign gn rfl rfl ?_
  refine wl_end ?_
  refine w_cond rfl (fun hb => ?_) fun hb => ?_
  · skip
    refine w_seq ?_
    have hK0 : K = 33 := by simpa using hb
    subst hK0
    refine w_region (by kernel_rfl) ?_
    refine o_fieldAddr (off := 1) gn rfl rfl (by kernel_rfl) ?_
    refine o_load gn rfl rfl (by kernel_rfl) (by exact S.cel 0 rfl) rfl ?_
    refine o_addS gn rfl rfl rfl (by first | omega | (simp only [lens3]; omega)) ?_
    refine o_assign gn rfl rfl ?_
    refine wl_end ?_
    refine w_ret ?_
    refine ⟨.inl rfl, _, rfl, ?_⟩
    exact ⟨⟨_, rfl, by simp only [tls]; rfl⟩, S.e0⟩
  refine w_seq ?_
  refine w_region (by kernel_rfl) ?_
  refine o_eqi gn rfl rfl rfl ?_
  refine o_assign gn rfl rfl ?_
  refine wl_end ?_
  refine w_cond rfl (fun hb => ?_) fun hb => ?_
  · skip
    refine w_seq ?_
    have hK0 : K = 34 := by simpa using hb
    subst hK0
    have hl1 := h1 (by decide)
    obtain ⟨kb, ko, kcs, ke, km, rfl, hg2, hlt2, hat2⟩ := row_get R (by omega)
    refine w_region (by kernel_rfl) ?_
    refine o_move gn rfl rfl ?_
    refine o_indexAddr (zz := 1) gn rfl rfl rfl (by kernel_rfl) (by omega) (by omega) ?_
    refine o_load gn rfl rfl (by kernel_rfl) (S.old0 hg2 hlt2) (hat2 0 (by omega)) ?_
    refine o_addS gn rfl rfl rfl (by first | omega | (simp only [lens3]; omega)) ?_
    refine o_assign gn rfl rfl ?_
    refine wl_end ?_
    refine w_ret ?_
    refine ⟨.inl rfl, _, rfl, ?_⟩
    exact ⟨⟨_, rfl, by simp only [tls]; rfl⟩, S.e0⟩
  refine w_seq ?_
  refine w_region (by kernel_rfl) ?_
  refine o_eqi gn rfl rfl rfl ?_
  refine o_assign gn rfl rfl ?_
  refine wl_end ?_
  refine w_cond rfl (fun hb => ?_) fun hb => ?_
  · skip
    refine w_seq ?_
    have hK0 : K = 35 := by simpa using hb
    subst hK0
    have hl1 := h1 (by decide)
    obtain ⟨kb, ko, kcs, ke, km, rfl, hg2, hlt2, hat2⟩ := row_get R (by omega)
    refine w_region (by kernel_rfl) ?_
    refine o_move gn rfl rfl ?_
    refine o_indexAddr (zz := 1) gn rfl rfl rfl (by kernel_rfl) (by omega) (by omega) ?_
    refine o_load gn rfl rfl (by kernel_rfl) (S.old0 hg2 hlt2) (hat2 0 (by omega)) ?_
    refine o_addS gn rfl rfl rfl (by first | omega | (simp only [lens3]; omega)) ?_
    refine o_assign gn rfl rfl ?_
    refine wl_end ?_
    refine w_ret ?_
    refine ⟨.inl rfl, _, rfl, ?_⟩
    exact ⟨⟨_, rfl, by simp only [tls]; rfl⟩, S.e0⟩
  refine w_seq ?_
  refine w_region (by kernel_rfl) ?_
  refine o_eqi gn rfl rfl rfl ?_
  refine o_assign gn rfl rfl ?_
  refine wl_end ?_
  refine w_cond rfl (fun hb => ?_) fun hb => ?_
  · skip
    refine w_seq ?_
    have hK0 : K = 36 := by simpa using hb
    subst hK0
    have hl1 := h1 (by decide)
    obtain ⟨kb, ko, kcs, ke, km, rfl, hg2, hlt2, hat2⟩ := row_get R (by omega)
    refine w_region (by kernel_rfl) ?_
    refine o_move gn rfl rfl ?_
    refine o_indexAddr (zz := 1) gn rfl rfl rfl (by kernel_rfl) (by omega) (by omega) ?_
    refine o_load gn rfl rfl (by kernel_rfl) (S.old0 hg2 hlt2) (hat2 0 (by omega)) ?_
    refine o_addS gn rfl rfl rfl (by first | omega | (simp only [lens3]; omega)) ?_
    refine o_assign gn rfl rfl ?_
    refine wl_end ?_
    refine w_ret ?_
    refine ⟨.inl rfl, _, rfl, ?_⟩
    exact ⟨⟨_, rfl, by simp only [tls]; rfl⟩, S.e0⟩
  refine w_skip ?_
  refine w_seq ?_
  have hK : K ≠ 26 ∧ K ≠ 27 ∧ K ≠ 28 ∧ K ≠ 30 ∧ K ≠ 31 ∧ K ≠ 32 ∧ K ≠ 33 ∧ K ≠ 34 ∧ K ≠ 35 ∧ K ≠ 36 := by
    simp only [decide_eq_false_iff_not] at *; omega
  refine w_region (by kernel_rfl) ?_
  refine o_fieldAddr (off := 1) gn rfl rfl (by kernel_rfl) ?_
  refine o_load gn rfl rfl (by kernel_rfl) (by exact S.cel 0 rfl) rfl ?_
  refine o_assign gn rfl rfl ?_
  refine wl_end ?_
  refine w_ret ?_
  refine ⟨.inl rfl, _, rfl, ?_⟩
  exact ⟨⟨_, rfl, by simp only [termL, if_neg hK.1, if_neg hK.2.1, if_neg hK.2.2.1, if_neg hK.2.2.2.1, if_neg hK.2.2.2.2.1, if_neg hK.2.2.2.2.2.1, if_neg hK.2.2.2.2.2.2.1, if_neg hK.2.2.2.2.2.2.2.1, if_neg hK.2.2.2.2.2.2.2.2.1, if_neg hK.2.2.2.2.2.2.2.2.2]⟩, S.e0⟩
end
end Go.Proofs.YtoejddhaiogonaaDoor

namespace Go.Proofs.YtoejddhaiogonaaDoor
open Go.X

def toL (w : Tw) (ks : List ByteArray) : List UInt8 := if (w.K = 19 ∨ w.K = 20) ∧ 1 < ks.length then [32, 116, 111, 32] ++ (kd ks 1).toList else []
def aftL (N : Int) : List UInt8 := if 0 < N then [32, 97, 102, 116, 101, 114, 32] ++ (itoaB N).toList else if N < 0 then [32, 102, 114, 111, 110, 116] else []
/-- A statement's text, of its kids' texts. -/
def stmtL (w : Tw) (ks : List ByteArray) (e : Bool) : List UInt8 :=
  if w.K = 13 then [118, 97, 114, 32] ++ w.s.toList ++ [32] ++ (kd ks 0).toList ++ [32, 61, 32] ++ (kd ks 1).toList ++ [59] else
  if w.K = 14 then (kd ks 0).toList ++ [32, 61, 32] ++ (kd ks 1).toList ++ [59] else
  if w.K = 15 then [99, 97, 108, 108, 32] ++ (kd ks 0).toList ++ [59] else
  if w.K = 16 then [99, 97, 110, 99, 101, 108, 32] ++ (kd ks 0).toList ++ [59] else
  if w.K = 17 then [106, 111, 105, 110, 32] ++ (kd ks 0).toList ++ [59] else
  if w.K = 18 then [108, 111, 103, 32] ++ (kd ks 0).toList ++ [59] else
  if w.K = 19 then [112, 111, 115, 116, 32] ++ w.s.toList ++ [32] ++ (kd ks 0).toList ++ aftL w.N ++ toL w ks ++ [59] else
  if w.K = 20 then [115, 112, 97, 119, 110, 32] ++ (kd ks 0).toList ++ toL w ks ++ [59] else
  if w.K = 21 then [101, 110, 97, 98, 108, 101, 32] ++ w.s.toList ++ [59] else
  if w.K = 22 then [100, 105, 115, 97, 98, 108, 101, 32] ++ w.s.toList ++ [59] else
  if w.K = 24 then [119, 104, 105, 108, 101, 32] ++ (kd ks 0).toList ++ [32] ++ (kd ks 1).toList else
  if w.K = 23 then [105, 102, 32] ++ (kd ks 0).toList ++ [32] ++ (kd ks 1).toList ++ (if e = true then [32, 101, 108, 115, 101, 32] ++ (kd ks 2).toList else []) else
  [114, 101, 116, 117, 114, 110, 59]

section
variable {h : Hp} {v sv : Value} {ks : List ByteArray} {w : Tw} {T : List Tw}
/-- statement -/
theorem c55 (X : TreeAt h sv T) (R : RowV h v (srV ks)) (hk : ∀ k, k ∈ ks → k.size ≤ 100000000) (hs : w.s.size ≤ 1000000) (hn : w.K = 19 → -1 ≤ w.N ∧ w.N ≤ 2147483647) (hR : RowV h w.ks (isV w.kids)) (h1 : w.K = 15 ∨ w.K = 16 ∨ w.K = 17 ∨ w.K = 18 ∨ w.K = 19 ∨ w.K = 20 → 1 ≤ ks.length) (h2 : w.K = 13 ∨ w.K = 14 ∨ w.K = 24 → 2 ≤ ks.length)
    (h3 : w.K = 23 → 3 ≤ ks.length) (h4 : w.K = 23 → w.kids.length ≤ 1000 ∧ ∃ (q : Nat) (w' : Tw), w.kids[2]? = some (q : Int) ∧ T[q]? = some w') (_ : T.length ≤ 1000) :
    C trE 55 [.agg #[sv], w.val, v] h fun v h' => (∃ B, v = .string B ∧ B.toList = stmtL w ks (decide (0 < ((kidsAt T (w.kids.getD 2 0).toNat).length : Int)))) ∧ Ext h h' := by
  obtain ⟨K, s, N, L, Co, kv, kids⟩ := w
  simp only at hs hn hR h1 h2 h3 h4
  obtain ⟨ka, kc, rfl⟩ := R.valM
  obtain ⟨ya, yc, rfl⟩ := hR.valM
  have Y := X
  obtain ⟨ta, tc, rfl⟩ := X.val
  have q0 := kd_le hk 0
  have q1 := kd_le hk 1
  have q2 := kd_le hk 2
  refine c_enter (fu := Tryd.f55) (by kernel_rfl) rfl ?_
  have S := SH.start h
  refine w_seq ?_
  refine w_region (by kernel_rfl) ?_
  refine s_box S gn rfl rfl fun b1 g nb1 S => ?_
  refine s_box S gn rfl rfl fun b2 g nb2 S => ?_
  refine o_assign gn rfl rfl ?_
  refine wl_end ?_
  refine w_seq ?_
  refine w_region (by kernel_rfl) ?_
  refine o_assign gn rfl rfl ?_
  refine wl_end ?_
  refine w_cutS [(2, .slice ka ks.length kc), (3, ptrV b1), (4, ptrV b2)] (fun lv hh => ∃ B7 : ByteArray, lv = [(7, .string B7)] ∧ SH h [] [cR b2 (.cells (twC K s N L Co (.slice ya kids.length yc)) 30 0), cR b1 (.cells [.slice ta T.length tc] 24 0)] hh ∧ B7.size ≤ 100000010 ∧ B7.toList = toL ⟨K, s, N, L, Co, .slice ya kids.length yc, kids⟩ ks) ?_ fun lv hh hJ => ?_
  · skip
    refine w_seq ?_
    refine w_region (by kernel_rfl) ?_
    refine o_fieldAddr (off := 0) gn rfl rfl (by kernel_rfl) ?_
    refine o_load gn rfl rfl (by kernel_rfl) (by exact S.cel 0 rfl) rfl ?_
    refine o_eqi gn rfl rfl rfl ?_
    refine o_move gn rfl rfl ?_
    refine o_or (n := 3) rfl rfl rfl gn rfl (fun hb => by
        refine o_fieldAddr (off := 0) (gy rfl rfl rfl hb) rfl rfl (by kernel_rfl) ?_
        refine o_load (gy rfl rfl rfl hb) rfl rfl (by kernel_rfl) (by exact S.cel 0 rfl) rfl ?_
        refine o_eqi (gy rfl rfl rfl hb) rfl rfl rfl ?_
        exact wl_end ⟨rfl, rfl, 3, rfl, rfl⟩) ?_
    refine o_move gn rfl rfl ?_
    refine o_and (n := 3) rfl rfl rfl gn rfl (fun hb => by
        refine o_move (gy rfl rfl rfl hb) rfl rfl ?_
        refine o_len (gy rfl rfl rfl hb) rfl rfl (by kernel_rfl) ?_
        refine o_gtr (gy rfl rfl rfl hb) rfl rfl rfl ?_
        exact wl_end ⟨rfl, rfl, 3, rfl, rfl⟩) ?_
    refine wl_end ?_
    refine w_cond rfl (fun hb => ?_) fun hb => ?_
    · skip
      have hl3b : 1 < ks.length := by simp at hb; omega
      have hk3 : K = 19 ∨ K = 20 := by simp at hb; exact hb.1
      obtain ⟨kb, ko, kcs, ke, km, rfl, hg2, hlt2, hat2⟩ := row_get R (by omega)
      refine w_region (by kernel_rfl) ?_
      refine o_move gn rfl rfl ?_
      refine o_indexAddr (zz := 1) gn rfl rfl rfl (by kernel_rfl) (by omega) (by omega) ?_
      refine o_load gn rfl rfl (by kernel_rfl) (S.old0 hg2 hlt2) (hat2 1 (by omega)) ?_
      refine o_addS gn rfl rfl rfl (by first | omega | (simp only [lens3]; omega)) ?_
      refine o_assign gn rfl rfl ?_
      refine wl_end ?_
      exact cutS [(7, _)] (by repeat (first | exact trivial | refine ⟨rfl, ?_⟩)) ⟨_, rfl, S, by simp only [lens3]; omega, by rw [toL, if_pos ⟨hk3, hl3b⟩]; simp only [tls]⟩
    refine w_skip ?_
    exact cutS [(7, _)] (by repeat (first | exact trivial | refine ⟨rfl, ?_⟩)) ⟨_, rfl, S, by decide, by
      rw [toL, if_neg (by
        rintro ⟨e1, e2⟩
        simp only [Bool.and_eq_false_iff, Bool.or_eq_false_iff, decide_eq_false_iff_not] at hb
        rcases hb with ⟨e3, e4⟩ | e3
        · rcases e1 with e1 | e1
          · exact e3 e1
          exact e4 e1
        omega)]
      exact tl_lit _⟩
  obtain ⟨B7, rfl, S, z7, hB7⟩ := hJ
  refine w_seq ?_
  refine w_seq ?_
  refine w_region (by kernel_rfl) ?_
  refine o_fieldAddr (off := 0) gn rfl rfl (by kernel_rfl) ?_
  refine o_load gn rfl rfl (by kernel_rfl) (by exact S.cel 0 rfl) rfl ?_
  refine wl_end ?_
  refine w_block ?_
  refine w_seq ?_
  refine w_region (by kernel_rfl) ?_
  refine o_eqi gn rfl rfl rfl ?_
  refine o_assign gn rfl rfl ?_
  refine wl_end ?_
  refine w_cond rfl (fun hb => ?_) fun hb => ?_
  · skip
    refine w_seq ?_
    have hK0 : K = 13 := by simpa using hb
    subst hK0
    have hl2 := h2 (by decide)
    obtain ⟨kb, ko, kcs, ke, km, rfl, hg2, hlt2, hat2⟩ := row_get R (by omega)
    refine w_draw [(0, []), (1, []), (2, []), (3, []), (4, []), (5, []), (6, []), (7, []), (8, []), (9, []), (10, []), (11, []), (12, []), (13, []), (14, [])] (by kernel_rfl) (by kernel_rfl) (by kernel_rfl) (by kernel_rfl) ?_
    refine o_fieldAddr (off := 1) gn rfl rfl (by kernel_rfl) ?_
    refine o_load gn rfl rfl (by kernel_rfl) (by exact S.cel 0 rfl) rfl ?_
    refine o_addS gn rfl rfl rfl (by first | omega | (simp only [lens3]; omega)) ?_
    refine o_addS gn rfl rfl rfl (by first | omega | (simp only [lens3]; omega)) ?_
    refine o_move gn rfl rfl ?_
    refine o_indexAddr (zz := 1) gn rfl rfl rfl (by kernel_rfl) (by omega) (by omega) ?_
    refine o_load gn rfl rfl (by kernel_rfl) (S.old0 hg2 hlt2) (hat2 0 (by omega)) ?_
    refine o_addS gn rfl rfl rfl (by first | omega | (simp only [lens3]; omega)) ?_
    refine o_addS gn rfl rfl rfl (by first | omega | (simp only [lens3]; omega)) ?_
    refine o_move gn rfl rfl ?_
    refine o_indexAddr (zz := 1) gn rfl rfl rfl (by kernel_rfl) (by omega) (by omega) ?_
    refine o_load gn rfl rfl (by kernel_rfl) (S.old0 hg2 hlt2) (hat2 1 (by omega)) ?_
    refine o_addS gn rfl rfl rfl (by first | omega | (simp only [lens3]; omega)) ?_
    refine o_addS gn rfl rfl rfl (by first | omega | (simp only [lens3]; omega)) ?_
    refine o_assign gn rfl rfl ?_
    refine wl_end ?_
    refine w_ret ?_
    refine ⟨.inl rfl, _, rfl, ?_⟩
    exact ⟨⟨_, rfl, by simp only [tls]; rfl⟩, S.e0⟩
  refine w_seq ?_
  refine w_region (by kernel_rfl) ?_
  refine o_eqi gn rfl rfl rfl ?_
  refine o_assign gn rfl rfl ?_
  refine wl_end ?_
  refine w_cond rfl (fun hb => ?_) fun hb => ?_
  · skip
    refine w_seq ?_
    have hK0 : K = 14 := by simpa using hb
    subst hK0
    have hl2 := h2 (by decide)
    obtain ⟨kb, ko, kcs, ke, km, rfl, hg2, hlt2, hat2⟩ := row_get R (by omega)
    refine w_draw [(0, []), (1, []), (2, []), (3, []), (4, []), (5, []), (6, []), (7, []), (8, []), (9, [])] (by kernel_rfl) (by kernel_rfl) (by kernel_rfl) (by kernel_rfl) ?_
    refine o_move gn rfl rfl ?_
    refine o_indexAddr (zz := 1) gn rfl rfl rfl (by kernel_rfl) (by omega) (by omega) ?_
    refine o_load gn rfl rfl (by kernel_rfl) (S.old0 hg2 hlt2) (hat2 0 (by omega)) ?_
    refine o_addS gn rfl rfl rfl (by first | omega | (simp only [lens3]; omega)) ?_
    refine o_move gn rfl rfl ?_
    refine o_indexAddr (zz := 1) gn rfl rfl rfl (by kernel_rfl) (by omega) (by omega) ?_
    refine o_load gn rfl rfl (by kernel_rfl) (S.old0 hg2 hlt2) (hat2 1 (by omega)) ?_
    refine o_addS gn rfl rfl rfl (by first | omega | (simp only [lens3]; omega)) ?_
    refine o_addS gn rfl rfl rfl (by first | omega | (simp only [lens3]; omega)) ?_
    refine o_assign gn rfl rfl ?_
    refine wl_end ?_
    refine w_ret ?_
    refine ⟨.inl rfl, _, rfl, ?_⟩
    exact ⟨⟨_, rfl, by simp only [tls]; rfl⟩, S.e0⟩
  refine w_seq ?_
  refine w_region (by kernel_rfl) ?_
  refine o_eqi gn rfl rfl rfl ?_
  refine o_assign gn rfl rfl ?_
  refine wl_end ?_
  refine w_cond rfl (fun hb => ?_) fun hb => ?_
  · skip
    refine w_seq ?_
    have hK0 : K = 15 := by simpa using hb
    subst hK0
    have hl1 := h1 (by decide)
    obtain ⟨kb, ko, kcs, ke, km, rfl, hg2, hlt2, hat2⟩ := row_get R (by omega)
    refine w_region (by kernel_rfl) ?_
    refine o_move gn rfl rfl ?_
    refine o_indexAddr (zz := 1) gn rfl rfl rfl (by kernel_rfl) (by omega) (by omega) ?_
    refine o_load gn rfl rfl (by kernel_rfl) (S.old0 hg2 hlt2) (hat2 0 (by omega)) ?_
    refine o_addS gn rfl rfl rfl (by first | omega | (simp only [lens3]; omega)) ?_
    refine o_addS gn rfl rfl rfl (by first | omega | (simp only [lens3]; omega)) ?_
    refine o_assign gn rfl rfl ?_
    refine wl_end ?_
    refine w_ret ?_
    refine ⟨.inl rfl, _, rfl, ?_⟩
    exact ⟨⟨_, rfl, by simp only [tls]; rfl⟩, S.e0⟩
  refine w_seq ?_
  refine w_region (by kernel_rfl) ?_
  refine o_eqi gn rfl rfl rfl ?_
  refine o_assign gn rfl rfl ?_
  refine wl_end ?_
  refine w_cond rfl (fun hb => ?_) fun hb => ?_
  · skip
    refine w_seq ?_
    have hK0 : K = 16 := by simpa using hb
    subst hK0
    have hl1 := h1 (by decide)
    obtain ⟨kb, ko, kcs, ke, km, rfl, hg2, hlt2, hat2⟩ := row_get R (by omega)
    refine w_region (by kernel_rfl) ?_
    refine o_move gn rfl rfl ?_
    refine o_indexAddr (zz := 1) gn rfl rfl rfl (by kernel_rfl) (by omega) (by omega) ?_
    refine o_load gn rfl rfl (by kernel_rfl) (S.old0 hg2 hlt2) (hat2 0 (by omega)) ?_
    refine o_addS gn rfl rfl rfl (by first | omega | (simp only [lens3]; omega)) ?_
    refine o_addS gn rfl rfl rfl (by first | omega | (simp only [lens3]; omega)) ?_
    refine o_assign gn rfl rfl ?_
    refine wl_end ?_
    refine w_ret ?_
    refine ⟨.inl rfl, _, rfl, ?_⟩
    exact ⟨⟨_, rfl, by simp only [tls]; rfl⟩, S.e0⟩
  refine w_seq ?_
  refine w_region (by kernel_rfl) ?_
  refine o_eqi gn rfl rfl rfl ?_
  refine o_assign gn rfl rfl ?_
  refine wl_end ?_
  refine w_cond rfl (fun hb => ?_) fun hb => ?_
  · skip
    refine w_seq ?_
    have hK0 : K = 17 := by simpa using hb
    subst hK0
    have hl1 := h1 (by decide)
    obtain ⟨kb, ko, kcs, ke, km, rfl, hg2, hlt2, hat2⟩ := row_get R (by omega)
    refine w_region (by kernel_rfl) ?_
    refine o_move gn rfl rfl ?_
    refine o_indexAddr (zz := 1) gn rfl rfl rfl (by kernel_rfl) (by omega) (by omega) ?_
    refine o_load gn rfl rfl (by kernel_rfl) (S.old0 hg2 hlt2) (hat2 0 (by omega)) ?_
    refine o_addS gn rfl rfl rfl (by first | omega | (simp only [lens3]; omega)) ?_
    refine o_addS gn rfl rfl rfl (by first | omega | (simp only [lens3]; omega)) ?_
    refine o_assign gn rfl rfl ?_
    refine wl_end ?_
    refine w_ret ?_
    refine ⟨.inl rfl, _, rfl, ?_⟩
    exact ⟨⟨_, rfl, by simp only [tls]; rfl⟩, S.e0⟩
  refine w_seq ?_
  refine w_region (by kernel_rfl) ?_
  refine o_eqi gn rfl rfl rfl ?_
  refine o_assign gn rfl rfl ?_
  refine wl_end ?_
  refine w_cond rfl (fun hb => ?_) fun hb => ?_
  · skip
    refine w_seq ?_
    have hK0 : K = 18 := by simpa using hb
    subst hK0
    have hl1 := h1 (by decide)
    obtain ⟨kb, ko, kcs, ke, km, rfl, hg2, hlt2, hat2⟩ := row_get R (by omega)
    refine w_region (by kernel_rfl) ?_
    refine o_move gn rfl rfl ?_
    refine o_indexAddr (zz := 1) gn rfl rfl rfl (by kernel_rfl) (by omega) (by omega) ?_
    refine o_load gn rfl rfl (by kernel_rfl) (S.old0 hg2 hlt2) (hat2 0 (by omega)) ?_
    refine o_addS gn rfl rfl rfl (by first | omega | (simp only [lens3]; omega)) ?_
    refine o_addS gn rfl rfl rfl (by first | omega | (simp only [lens3]; omega)) ?_
    refine o_assign gn rfl rfl ?_
    refine wl_end ?_
    refine w_ret ?_
    refine ⟨.inl rfl, _, rfl, ?_⟩
    exact ⟨⟨_, rfl, by simp only [tls]; rfl⟩, S.e0⟩
  refine w_seq ?_
  refine w_region (by kernel_rfl) ?_
  refine o_eqi gn rfl rfl rfl ?_
  refine o_assign gn rfl rfl ?_
  refine wl_end ?_
  refine w_cond rfl (fun hb => ?_) fun hb => ?_
  · skip
    refine w_seq ?_
    have hK0 : K = 19 := by simpa using hb
    subst hK0
    have hl1 := h1 (by decide)
    obtain ⟨kb, ko, kcs, ke, km, rfl, hg2, hlt2, hat2⟩ := row_get R (by omega)
    refine w_draw [(0, []), (1, []), (2, []), (3, []), (4, []), (5, []), (6, []), (7, []), (8, [])] (by kernel_rfl) (by kernel_rfl) (by kernel_rfl) (by kernel_rfl) ?_
    refine o_fieldAddr (off := 1) gn rfl rfl (by kernel_rfl) ?_
    refine o_load gn rfl rfl (by kernel_rfl) (by exact S.cel 0 rfl) rfl ?_
    refine o_addS gn rfl rfl rfl (by first | omega | (simp only [lens3]; omega)) ?_
    refine o_addS gn rfl rfl rfl (by first | omega | (simp only [lens3]; omega)) ?_
    refine o_move gn rfl rfl ?_
    refine o_indexAddr (zz := 1) gn rfl rfl rfl (by kernel_rfl) (by omega) (by omega) ?_
    refine o_load gn rfl rfl (by kernel_rfl) (S.old0 hg2 hlt2) (hat2 0 (by omega)) ?_
    refine o_addS gn rfl rfl rfl (by first | omega | (simp only [lens3]; omega)) ?_
    refine o_assign gn rfl rfl ?_
    refine wl_end ?_
    obtain ⟨hN0, hN1⟩ := hn rfl
    refine w_cutS [(4, ptrV b2), (7, .string B7)] (fun lv hh => ∃ B8 : ByteArray, lv = [(8, .string B8)] ∧ SH h [] [cR b2 (.cells (twC 19 s N L Co (.slice ya kids.length yc)) 30 0), cR b1 (.cells [.slice ta T.length tc] 24 0)] hh ∧ B8.size ≤ 200000000 ∧ B8.toList = [112, 111, 115, 116, 32] ++ s.toList ++ [32] ++ (kd ks 0).toList ++ aftL N) ?_ fun lv hh hJ => ?_
    · skip
      refine w_seq ?_
      refine w_region (by kernel_rfl) ?_
      refine o_fieldAddr (off := 2) gn rfl rfl (by kernel_rfl) ?_
      refine o_load gn rfl rfl (by kernel_rfl) (by exact S.cel 0 rfl) rfl ?_
      refine o_gtr gn rfl rfl rfl ?_
      refine wl_end ?_
      refine w_cond rfl (fun hb => ?_) fun hb => ?_
      · skip
        have hN2 : 0 < N := by simpa using hb
        obtain ⟨n0, rfl⟩ : ∃ n0 : Nat, N = n0 := ⟨N.toNat, by omega⟩
        refine w_region (by kernel_rfl) ?_
        refine o_move gn rfl rfl ?_
        refine o_addS gn rfl rfl rfl (by first | omega | (simp only [lens3]; omega)) ?_
        refine o_fieldAddr (off := 2) gn rfl rfl (by kernel_rfl) ?_
        refine o_load gn rfl rfl (by kernel_rfl) (by exact S.cel 0 rfl) rfl ?_
        refine o_call [_] gn rfl rfl (by kernel_rfl) rfl (C.mono (c75 (by omega)) ?_)
        rintro v g ⟨⟨B, rfl, hB⟩, x⟩
        have zB : B.size ≤ 21 := by rw [size_toList, hB, ← size_toList]; exact itoaB_le (by omega) (by omega)
        have S := S.grow x
        refine ⟨ag0, ?_⟩
        refine o_addS gn rfl rfl rfl (by first | omega | (simp only [lens3]; omega)) ?_
        refine o_assign gn rfl rfl ?_
        refine wl_end ?_
        exact cutS [(8, _)] (by repeat (first | exact trivial | refine ⟨rfl, ?_⟩)) ⟨_, rfl, S, by simp only [lens3]; omega, by
          rw [aftL, if_pos hN2]
          simp only [tls, hB, List.append_assoc]⟩
      refine w_seq ?_
      have hN2 : ¬ 0 < N := by simpa using hb
      refine w_region (by kernel_rfl) ?_
      refine o_fieldAddr (off := 2) gn rfl rfl (by kernel_rfl) ?_
      refine o_load gn rfl rfl (by kernel_rfl) (by exact S.cel 0 rfl) rfl ?_
      refine o_lss gn rfl rfl rfl ?_
      refine wl_end ?_
      refine w_cond rfl (fun hb => ?_) fun hb => ?_
      · skip
        have hN3 : N < 0 := by simpa using hb
        refine w_region (by kernel_rfl) ?_
        refine o_move gn rfl rfl ?_
        refine o_addS gn rfl rfl rfl (by first | omega | (simp only [lens3]; omega)) ?_
        refine o_assign gn rfl rfl ?_
        refine wl_end ?_
        exact cutS [(8, _)] (by repeat (first | exact trivial | refine ⟨rfl, ?_⟩)) ⟨_, rfl, S, by simp only [lens3]; omega, by
          rw [aftL, if_neg hN2, if_pos hN3]
          simp only [tls, List.append_assoc]⟩
      refine w_skip ?_
      exact cutS [(8, _)] (by repeat (first | exact trivial | refine ⟨rfl, ?_⟩)) ⟨_, rfl, S, by simp only [lens3]; omega, by
        rw [aftL, if_neg hN2, if_neg (show ¬ N < 0 by simpa using hb)]
        simp only [tls, List.append_assoc, List.append_nil]⟩
    obtain ⟨B8, rfl, S, z8, hB8⟩ := hJ
    refine w_seq ?_
    refine w_region (by kernel_rfl) ?_
    refine o_move gn rfl rfl ?_
    refine o_move gn rfl rfl ?_
    refine o_addS gn rfl rfl rfl (by first | omega | (simp only [lens3]; omega)) ?_
    refine o_addS gn rfl rfl rfl (by first | omega | (simp only [lens3]; omega)) ?_
    refine o_assign gn rfl rfl ?_
    refine wl_end ?_
    refine w_ret ?_
    refine ⟨.inl rfl, _, rfl, ?_⟩
    exact ⟨⟨_, rfl, by simp only [tls, hB8, hB7]; rfl⟩, S.e0⟩
  refine w_seq ?_
  refine w_region (by kernel_rfl) ?_
  refine o_eqi gn rfl rfl rfl ?_
  refine o_assign gn rfl rfl ?_
  refine wl_end ?_
  refine w_cond rfl (fun hb => ?_) fun hb => ?_
  · skip
    refine w_seq ?_
    have hK0 : K = 20 := by simpa using hb
    subst hK0
    have hl1 := h1 (by decide)
    obtain ⟨kb, ko, kcs, ke, km, rfl, hg2, hlt2, hat2⟩ := row_get R (by omega)
    refine w_region (by kernel_rfl) ?_
    refine o_move gn rfl rfl ?_
    refine o_indexAddr (zz := 1) gn rfl rfl rfl (by kernel_rfl) (by omega) (by omega) ?_
    refine o_load gn rfl rfl (by kernel_rfl) (S.old0 hg2 hlt2) (hat2 0 (by omega)) ?_
    refine o_addS gn rfl rfl rfl (by first | omega | (simp only [lens3]; omega)) ?_
    refine o_move gn rfl rfl ?_
    refine o_addS gn rfl rfl rfl (by first | omega | (simp only [lens3]; omega)) ?_
    refine o_addS gn rfl rfl rfl (by first | omega | (simp only [lens3]; omega)) ?_
    refine o_assign gn rfl rfl ?_
    refine wl_end ?_
    refine w_ret ?_
    refine ⟨.inl rfl, _, rfl, ?_⟩
    exact ⟨⟨_, rfl, by simp only [tls, hB7]; rfl⟩, S.e0⟩
  refine w_seq ?_
  refine w_region (by kernel_rfl) ?_
  refine o_eqi gn rfl rfl rfl ?_
  refine o_assign gn rfl rfl ?_
  refine wl_end ?_
  refine w_cond rfl (fun hb => ?_) fun hb => ?_
  · skip
    refine w_seq ?_
    have hK0 : K = 21 := by simpa using hb
    subst hK0
    refine w_region (by kernel_rfl) ?_
    refine o_fieldAddr (off := 1) gn rfl rfl (by kernel_rfl) ?_
    refine o_load gn rfl rfl (by kernel_rfl) (by exact S.cel 0 rfl) rfl ?_
    refine o_addS gn rfl rfl rfl (by first | omega | (simp only [lens3]; omega)) ?_
    refine o_addS gn rfl rfl rfl (by first | omega | (simp only [lens3]; omega)) ?_
    refine o_assign gn rfl rfl ?_
    refine wl_end ?_
    refine w_ret ?_
    refine ⟨.inl rfl, _, rfl, ?_⟩
    exact ⟨⟨_, rfl, by simp only [tls]; rfl⟩, S.e0⟩
  refine w_seq ?_
  refine w_region (by kernel_rfl) ?_
  refine o_eqi gn rfl rfl rfl ?_
  refine o_assign gn rfl rfl ?_
  refine wl_end ?_
  refine w_cond rfl (fun hb => ?_) fun hb => ?_
  · skip
    refine w_seq ?_
    have hK0 : K = 22 := by simpa using hb
    subst hK0
    refine w_region (by kernel_rfl) ?_
    refine o_fieldAddr (off := 1) gn rfl rfl (by kernel_rfl) ?_
    refine o_load gn rfl rfl (by kernel_rfl) (by exact S.cel 0 rfl) rfl ?_
    refine o_addS gn rfl rfl rfl (by first | omega | (simp only [lens3]; omega)) ?_
    refine o_addS gn rfl rfl rfl (by first | omega | (simp only [lens3]; omega)) ?_
    refine o_assign gn rfl rfl ?_
    refine wl_end ?_
    refine w_ret ?_
    refine ⟨.inl rfl, _, rfl, ?_⟩
    exact ⟨⟨_, rfl, by simp only [tls]; rfl⟩, S.e0⟩
  refine w_seq ?_
  refine w_region (by kernel_rfl) ?_
  refine o_eqi gn rfl rfl rfl ?_
  refine o_assign gn rfl rfl ?_
  refine wl_end ?_
  refine w_cond rfl (fun hb => ?_) fun hb => ?_
  · skip
    refine w_seq ?_
    have hK0 : K = 24 := by simpa using hb
    subst hK0
    have hl2 := h2 (by decide)
    obtain ⟨kb, ko, kcs, ke, km, rfl, hg2, hlt2, hat2⟩ := row_get R (by omega)
    refine w_draw [(0, []), (1, []), (2, []), (3, []), (4, []), (5, []), (6, []), (7, []), (8, []), (9, [])] (by kernel_rfl) (by kernel_rfl) (by kernel_rfl) (by kernel_rfl) ?_
    refine o_move gn rfl rfl ?_
    refine o_indexAddr (zz := 1) gn rfl rfl rfl (by kernel_rfl) (by omega) (by omega) ?_
    refine o_load gn rfl rfl (by kernel_rfl) (S.old0 hg2 hlt2) (hat2 0 (by omega)) ?_
    refine o_addS gn rfl rfl rfl (by first | omega | (simp only [lens3]; omega)) ?_
    refine o_addS gn rfl rfl rfl (by first | omega | (simp only [lens3]; omega)) ?_
    refine o_move gn rfl rfl ?_
    refine o_indexAddr (zz := 1) gn rfl rfl rfl (by kernel_rfl) (by omega) (by omega) ?_
    refine o_load gn rfl rfl (by kernel_rfl) (S.old0 hg2 hlt2) (hat2 1 (by omega)) ?_
    refine o_addS gn rfl rfl rfl (by first | omega | (simp only [lens3]; omega)) ?_
    refine o_assign gn rfl rfl ?_
    refine wl_end ?_
    refine w_ret ?_
    refine ⟨.inl rfl, _, rfl, ?_⟩
    exact ⟨⟨_, rfl, by simp only [tls]; rfl⟩, S.e0⟩
  refine w_seq ?_
  refine w_region (by kernel_rfl) ?_
  refine o_eqi gn rfl rfl rfl ?_
  refine o_assign gn rfl rfl ?_
  refine wl_end ?_
  refine w_cond rfl (fun hb => ?_) fun hb => ?_
  · skip
    refine w_seq ?_
    have hK0 : K = 23 := by simpa using hb
    subst hK0
    have hl3 := h3 rfl
    obtain ⟨kb, ko, kcs, ke, km, rfl, hg2, hlt2, hat2⟩ := row_get R (by omega)
    refine w_draw [(0, []), (1, []), (2, []), (3, []), (4, []), (5, []), (6, []), (7, []), (8, []), (9, [])] (by kernel_rfl) (by kernel_rfl) (by kernel_rfl) (by kernel_rfl) ?_
    refine o_move gn rfl rfl ?_
    refine o_indexAddr (zz := 1) gn rfl rfl rfl (by kernel_rfl) (by omega) (by omega) ?_
    refine o_load gn rfl rfl (by kernel_rfl) (S.old0 hg2 hlt2) (hat2 0 (by omega)) ?_
    refine o_addS gn rfl rfl rfl (by first | omega | (simp only [lens3]; omega)) ?_
    refine o_addS gn rfl rfl rfl (by first | omega | (simp only [lens3]; omega)) ?_
    refine o_move gn rfl rfl ?_
    refine o_indexAddr (zz := 1) gn rfl rfl rfl (by kernel_rfl) (by omega) (by omega) ?_
    refine o_load gn rfl rfl (by kernel_rfl) (S.old0 hg2 hlt2) (hat2 1 (by omega)) ?_
    refine o_addS gn rfl rfl rfl (by first | omega | (simp only [lens3]; omega)) ?_
    refine o_assign gn rfl rfl ?_
    refine wl_end ?_
    obtain ⟨hk4, q, w', hq1, hq2⟩ := h4 rfl
    obtain ⟨hk2, hkq⟩ := List.getElem?_eq_some_iff.1 hq1
    obtain ⟨hqlt, hqw⟩ := List.getElem?_eq_some_iff.1 hq2
    have hgd : kidsAt T (kids.getD 2 0).toNat = w'.kids := by rw [List.getD_eq_getElem?_getD, List.getElem?_eq_getElem hk2, Option.getD_some, hkq, Int.toNat_natCast]; exact kidsAt_of hq2
    refine w_cutS [] (fun lv hh => ∃ B9 : ByteArray, lv = [(9, .string B9)] ∧ SH h [] [cR b2 (.cells (twC 23 s N L Co (.slice ya kids.length yc)) 30 0), cR b1 (.cells [.slice ta T.length tc] 24 0)] hh ∧ B9.toList = [105, 102, 32] ++ (kd ks 0).toList ++ [32] ++ (kd ks 1).toList ++ (if decide (0 < ((kidsAt T (kids.getD 2 0).toNat).length : Int)) = true then [32, 101, 108, 115, 101, 32] ++ (kd ks 2).toList else [])) ?_ fun lv hh hJ => ?_
    · skip
      refine w_seq ?_
      refine w_draw [(0, []), (1, []), (2, []), (3, []), (4, []), (5, []), (6, []), (7, []), (8, []), (9, []), (10, [])] (by kernel_rfl) (by kernel_rfl) (by kernel_rfl) (by kernel_rfl) ?_
      refine o_fieldAddr (off := 0) gn rfl rfl (by kernel_rfl) ?_
      refine o_load gn rfl rfl (by kernel_rfl) (by exact S.cel 1 rfl) rfl ?_
      refine o_fieldAddr (off := 5) gn rfl rfl (by kernel_rfl) ?_
      refine o_load gn rfl rfl (by kernel_rfl) (by exact S.cel 0 rfl) rfl ?_
      obtain ⟨yb, yo, yc', ycs, ye, ym, yv2, yg2, ylt2, yat2⟩ := hR.atM (by omega)
      have hya : ya = some ⟨yb, yo, none⟩ := by injection yv2
      have yat3 : ycs[yo + 2]? = some (iV q) := by rw [yat2 2 hk2, hkq]
      obtain ⟨b, o, c, cs, e, m, hv, hg, hlb, hl6, hat⟩ := Y.at (by omega)
      have hta : ta = some ⟨b, o, none⟩ := by injection hv
      have hm := Y.2 w' (List.mem_of_getElem? hq2)
      obtain ⟨ka', kc2, hks'⟩ := hm.valM
      have hw5 : cs[o + Int.toNat (q : Int) * 6 + 5]? = some (.slice ka' w'.kids.length kc2) := by rw [Int.toNat_natCast, ← hks']; exact cut_at ((hat q hqlt).trans (by rw [hqw])) (by omega) rfl
      rw [hya]
      refine o_indexAddr (zz := 1) gn rfl rfl rfl (by kernel_rfl) (by omega) (by omega) ?_
      rw [← hya]
      refine o_load gn rfl rfl (by kernel_rfl) (S.old0 yg2 ylt2) yat3 ?_
      rw [hta]
      refine o_indexAddr (zz := 6) gn rfl rfl rfl (by kernel_rfl) (by omega) (by omega) ?_
      refine o_fieldAddr (off := 5) gn rfl rfl (by kernel_rfl) ?_
      refine o_load gn rfl rfl (by kernel_rfl) (S.old0 hg hlb) hw5 ?_
      refine o_len gn rfl rfl (by kernel_rfl) ?_
      refine o_gtr gn rfl rfl rfl ?_
      rw [← hta]
      refine wl_end ?_
      refine w_cond rfl (fun hb => ?_) fun hb => ?_
      · skip
        refine w_region (by kernel_rfl) ?_
        refine o_move gn rfl rfl ?_
        refine o_addS gn rfl rfl rfl (by first | omega | (simp only [lens3]; omega)) ?_
        refine o_move gn rfl rfl ?_
        refine o_indexAddr (zz := 1) gn rfl rfl rfl (by kernel_rfl) (by omega) (by omega) ?_
        refine o_load gn rfl rfl (by kernel_rfl) (S.old0 hg2 hlt2) (hat2 2 (by omega)) ?_
        refine o_addS gn rfl rfl rfl (by first | omega | (simp only [lens3]; omega)) ?_
        refine o_assign gn rfl rfl ?_
        refine wl_end ?_
        exact cutS [(9, _)] (by repeat (first | exact trivial | refine ⟨rfl, ?_⟩)) ⟨_, rfl, S, by
          rw [hgd, if_pos (show decide (0 < ((w'.kids).length : Int)) = true from hb)]
          simp only [tls, List.append_assoc]⟩
      refine w_skip ?_
      exact cutS [(9, _)] (by repeat (first | exact trivial | refine ⟨rfl, ?_⟩)) ⟨_, rfl, S, by
        rw [hgd, if_neg (show ¬ decide (0 < ((w'.kids).length : Int)) = true by rw [Bool.not_eq_true]; exact hb)]
        simp only [tls, List.append_assoc, List.append_nil]⟩
    obtain ⟨B9, rfl, S, hB9⟩ := hJ
    refine w_seq ?_
    refine w_region (by kernel_rfl) ?_
    refine o_move gn rfl rfl ?_
    refine o_assign gn rfl rfl ?_
    refine wl_end ?_
    refine w_ret ?_
    refine ⟨.inl rfl, _, rfl, ?_⟩
    exact ⟨⟨_, rfl, hB9⟩, S.e0⟩
  refine w_skip ?_
  refine w_seq ?_
  have hK : K ≠ 13 ∧ K ≠ 14 ∧ K ≠ 15 ∧ K ≠ 16 ∧ K ≠ 17 ∧ K ≠ 18 ∧ K ≠ 19 ∧ K ≠ 20 ∧ K ≠ 21 ∧ K ≠ 22 ∧ K ≠ 24 ∧ K ≠ 23 := by
    simp only [decide_eq_false_iff_not] at *; omega
  refine w_region (by kernel_rfl) ?_
  refine o_assign gn rfl rfl ?_
  refine wl_end ?_
  refine w_ret ?_
  refine ⟨.inl rfl, _, rfl, ?_⟩
  exact ⟨⟨_, rfl, by
    obtain ⟨e1, e2, e3, e4, e5, e6, e7, e8, e9, e10, e11, e12⟩ := hK
    rw [stmtL]
    simp only [if_neg e1, if_neg e2, if_neg e3, if_neg e4, if_neg e5, if_neg e6, if_neg e7, if_neg e8, if_neg e9, if_neg e10, if_neg e11, if_neg e12]
    exact tl_lit _⟩, S.e0⟩
end
end Go.Proofs.YtoejddhaiogonaaDoor

namespace Go.Proofs.YtoejddhaiogonaaDoor
open Go.X

def lifeD (N : Int) : ByteArray := if N = 0 then ⟨#[99, 114, 101, 97, 116, 101, 32]⟩ else if N = 1 then ⟨#[115, 116, 97, 114, 116, 32]⟩ else if N = 2 then ⟨#[115, 116, 111, 112, 32]⟩ else ⟨#[100, 101, 115, 116, 114, 111, 121, 32]⟩
def eventD (N : Int) : ByteArray := if N = 0 then ⟨#[32, 111, 102, 102, 32]⟩ else ⟨#[32, 111, 110, 32]⟩
theorem lifeD_at {N : Int} (h0 : 0 ≤ N) (h1 : N ≤ 3) : (#[Value.string ⟨#[99, 114, 101, 97, 116, 101, 32]⟩, .string ⟨#[115, 116, 97, 114, 116, 32]⟩, .string ⟨#[115, 116, 111, 112, 32]⟩, .string ⟨#[100, 101, 115, 116, 114, 111, 121, 32]⟩]).toList[0 + N.toNat * 1]? = some (.string (lifeD N)) := by
  rcases (show N = 0 ∨ N = 1 ∨ N = 2 ∨ N = 3 by omega) with rfl | rfl | rfl | rfl <;> rfl
theorem eventD_at {N : Int} (h : N = 0 ∨ N = 1) : (#[Value.string ⟨#[32, 111, 102, 102, 32]⟩, .string ⟨#[32, 111, 110, 32]⟩]).toList[0 + N.toNat * 1]? = some (.string (eventD N)) := by
  rcases h with rfl | rfl <;> rfl
theorem lifeD_le (N : Int) : (lifeD N).size ≤ 10 := by
  unfold lifeD; repeat' split
  all_goals decide
theorem eventD_le (N : Int) : (eventD N).size ≤ 10 := by
  unfold eventD; repeat' split
  all_goals decide
/-- A declaration's text, of its kids' texts. -/
def declL (w : Tw) (ks : List ByteArray) : List UInt8 :=
  if w.K = 2 then [108, 111, 111, 112, 101, 114, 32] ++ w.s.toList ++ [59] else
  if w.K = 3 then [99, 108, 97, 115, 115, 32] ++ w.s.toList ++ [32, 123] ++ (ks.flatMap fun k => [32] ++ k.toList) ++ [32, 125] else
  if w.K = 4 then w.s.toList ++ [32] ++ (kd ks 0).toList ++ [59] else
  if w.K = 6 then [118, 97, 114, 32] ++ w.s.toList ++ [32] ++ (kd ks 0).toList ++ [59] else
  if w.K = 7 then [102, 110, 32] ++ w.s.toList ++ [32] ++ (kd ks 0).toList else
  if w.K = 9 then (lifeD w.N).toList ++ (kd ks 0).toList else
  if w.K = 10 then [101, 118, 101, 110, 116, 32] ++ w.s.toList ++ [32, 111, 110, 32] ++ (kd ks 0).toList ++ (eventD w.N).toList ++ (kd ks 1).toList else
  if w.K = 11 then [109, 97, 105, 110, 32] ++ (kd ks 0).toList else w.s.toList

section
variable {h : Hp} {v : Value} {ks : List ByteArray} {w : Tw}
/-- declaration -/
theorem c56 (R : RowV h v (srV ks)) (hlen : ks.length ≤ 1000) (hk : ∀ k, k ∈ ks → k.size ≤ 100000000) (hs : w.s.size ≤ 1000000) (hn9 : w.K = 9 → 0 ≤ w.N ∧ w.N ≤ 3) (hn10 : w.K = 10 → w.N = 0 ∨ w.N = 1) (hcv : cellV w.ks = true) (h1 : w.K = 4 ∨ w.K = 6 ∨ w.K = 7 ∨ w.K = 9 ∨ w.K = 11 → 1 ≤ ks.length) (h2 : w.K = 10 → 2 ≤ ks.length) :
    C trE 56 [w.val, v] h fun v h' => (∃ B, v = .string B ∧ B.toList = declL w ks) ∧ Ext h h' := by
  obtain ⟨K, s, N, L, Co, kv, kids⟩ := w
  simp only at hs hn9 hn10 hcv h1 h2
  obtain ⟨ka, kc, rfl⟩ := R.valM
  have q0 := kd_le hk 0
  have q1 := kd_le hk 1
  have q2 := lifeD_le N
  have q3 := eventD_le N
  refine c_enter (fu := Tryd.f56) (by kernel_rfl) rfl ?_
  have S := SH.start h
  refine w_seq ?_
  refine w_region (by kernel_rfl) ?_
  refine s_box S gn rfl rfl fun b1 g nb1 S => ?_
  refine o_assign gn rfl rfl ?_
  refine wl_end ?_
  refine w_seq ?_
  refine w_seq ?_
  refine w_region (by kernel_rfl) ?_
  refine o_fieldAddr (off := 0) gn rfl rfl (by kernel_rfl) ?_
  refine o_load gn rfl rfl (by kernel_rfl) (by exact S.cel 0 rfl) rfl ?_
  refine wl_end ?_
  refine w_block ?_
  refine w_seq ?_
  refine w_region (by kernel_rfl) ?_
  refine o_eqi gn rfl rfl rfl ?_
  refine o_assign gn rfl rfl ?_
  refine wl_end ?_
  refine w_cond rfl (fun hb => ?_) fun hb => ?_
  · skip
    refine w_seq ?_
    have hK0 : K = 2 := by simpa using hb
    subst hK0
    refine w_region (by kernel_rfl) ?_
    refine o_fieldAddr (off := 1) gn rfl rfl (by kernel_rfl) ?_
    refine o_load gn rfl rfl (by kernel_rfl) (by exact S.cel 0 rfl) rfl ?_
    refine o_addS gn rfl rfl rfl (by first | omega | (simp only [lens3]; omega)) ?_
    refine o_addS gn rfl rfl rfl (by first | omega | (simp only [lens3]; omega)) ?_
    refine o_assign gn rfl rfl ?_
    refine wl_end ?_
    refine w_ret ?_
    refine ⟨.inl rfl, _, rfl, ?_⟩
    exact ⟨⟨_, rfl, by simp only [tls]; rfl⟩, S.e0⟩
  refine w_seq ?_
  refine w_region (by kernel_rfl) ?_
  refine o_eqi gn rfl rfl rfl ?_
  refine o_assign gn rfl rfl ?_
  refine wl_end ?_
  refine w_cond rfl (fun hb => ?_) fun hb => ?_
  · skip
    refine w_seq ?_
    have hK0 : K = 3 := by simpa using hb
    subst hK0
    refine w_region (by kernel_rfl) ?_
    refine o_fieldAddr (off := 1) gn rfl rfl (by kernel_rfl) ?_
    refine o_load gn rfl rfl (by kernel_rfl) (by exact S.cel 0 rfl) rfl ?_
    refine o_addS gn rfl rfl rfl (by first | omega | (simp only [lens3]; omega)) ?_
    refine o_addS gn rfl rfl rfl (by first | omega | (simp only [lens3]; omega)) ?_
    refine o_assign gn rfl rfl ?_
    refine wl_end ?_
    refine w_seq ?_
    refine w_seq ?_
    refine w_region (by kernel_rfl) ?_
    refine o_assign gn rfl rfl ?_
    refine wl_end ?_
    refine w_block ?_
    refine w_loopS [(5, _), (6, _)] [(1, _), (2, _)] (by repeat (first | exact trivial | refine ⟨rfl, ?_⟩)) (fun kk lv hh => ∃ (i : Nat) (q : ByteArray), lv = [(5, .string q), (6, iV i)] ∧ kk = ks.length - i ∧ i ≤ ks.length ∧ SH h [] [cR b1 (.cells (twC 3 s N L Co kv) 30 0)] hh ∧ q.toList = [99, 108, 97, 115, 115, 32] ++ s.toList ++ [32, 123] ++ ((ks.take i).flatMap fun k => [32] ++ k.toList) ∧ q.size ≤ 200000000 * (i + 1)) (n := (ks.length)) ?_ fun kk lv hh hI => ?_
    · exact ⟨0, _, rfl, rfl, by omega, S, by simp only [tls]; rw [List.take_zero, List.flatMap_nil, List.append_nil], by simp only [lens3]; omega⟩
    obtain ⟨i, q, rfl, hkk, hi3, S, hst, hsz⟩ := hI
    refine w_seq ?_
    refine w_seq ?_
    refine w_region (by kernel_rfl) ?_
    refine o_move gn rfl rfl ?_
    refine o_move gn rfl rfl ?_
    refine o_len gn rfl rfl (by kernel_rfl) ?_
    refine o_lss gn rfl rfl rfl ?_
    refine wl_end ?_
    refine w_cond rfl (fun hb => ?_) fun hb => ?_
    · skip
      refine w_skip ?_
      refine w_seq ?_
      refine w_block ?_
      have hi : i < ks.length := by simp at hb; omega
      have hki := kd_le hk i
      obtain ⟨kb, ko, kcs, ke, km, rfl, hg2, hlt2, hat2⟩ := row_get R (by omega)
      refine w_region (by kernel_rfl) ?_
      refine o_move gn rfl rfl ?_
      refine o_addS gn rfl rfl rfl (by first | omega | (simp only [lens3]; omega)) ?_
      refine o_move gn rfl rfl ?_
      refine o_move gn rfl rfl ?_
      refine o_indexAddr (zz := 1) gn rfl rfl rfl (by kernel_rfl) (by omega) (by omega) ?_
      refine o_load gn rfl rfl (by kernel_rfl) (S.old0 hg2 hlt2) (by rw [Int.toNat_natCast]; exact hat2 i hi) ?_
      refine o_addS gn rfl rfl rfl (by first | omega | (simp only [lens3]; omega)) ?_
      refine o_assign gn rfl rfl ?_
      refine wl_end ?_
      refine w_region (by kernel_rfl) ?_
      refine o_move gn rfl rfl ?_
      refine o_add gn rfl rfl rfl (by omega) (by omega) ?_
      refine o_assign gn rfl rfl ?_
      refine wl_end ?_
      exact rndS (ks.length - (i + 1)) (by omega) [(5, _), (6, _)] (by repeat (first | exact trivial | refine ⟨rfl, ?_⟩)) ⟨i + 1, _, rfl, rfl, by omega, S, by
        rw [flatMap_snoc _ _ hi]
        have e : (kd ks i) = ks[i] := by rw [kd, List.getD_eq_getElem?_getD, List.getElem?_eq_getElem hi, Option.getD_some]
        simp only [tl_app, hst, tl_lit, e, List.append_assoc], by
        simp only [lens3]; omega⟩
    refine w_exit ?_
    refine thn_exit ?_
    refine rnd_exit ?_
    refine blk_eq ?_
    refine w_seq ?_
    have hi4 : i = ks.length := by simp at hb; omega
    subst hi4
    refine w_region (by kernel_rfl) ?_
    refine o_move gn rfl rfl ?_
    refine o_addS gn rfl rfl rfl (by first | omega | (simp only [lens3]; omega)) ?_
    refine o_assign gn rfl rfl ?_
    refine wl_end ?_
    refine w_ret ?_
    refine ⟨.inl rfl, _, rfl, ?_⟩
    exact ⟨⟨_, rfl, by
      rw [List.take_length] at hst
      simp only [tls, hst]; rfl⟩, S.e0⟩
  refine w_seq ?_
  refine w_region (by kernel_rfl) ?_
  refine o_eqi gn rfl rfl rfl ?_
  refine o_assign gn rfl rfl ?_
  refine wl_end ?_
  refine w_cond rfl (fun hb => ?_) fun hb => ?_
  · skip
    refine w_seq ?_
    have hK0 : K = 4 := by simpa using hb
    subst hK0
    have hl1 := h1 (by decide)
    obtain ⟨kb, ko, kcs, ke, km, rfl, hg2, hlt2, hat2⟩ := row_get R (by omega)
    refine w_draw [(0, []), (1, []), (2, []), (3, []), (4, []), (5, []), (6, []), (7, []), (8, [])] (by kernel_rfl) (by kernel_rfl) (by kernel_rfl) (by kernel_rfl) ?_
    refine o_fieldAddr (off := 1) gn rfl rfl (by kernel_rfl) ?_
    refine o_load gn rfl rfl (by kernel_rfl) (by exact S.cel 0 rfl) rfl ?_
    refine o_addS gn rfl rfl rfl (by first | omega | (simp only [lens3]; omega)) ?_
    refine o_move gn rfl rfl ?_
    refine o_indexAddr (zz := 1) gn rfl rfl rfl (by kernel_rfl) (by omega) (by omega) ?_
    refine o_load gn rfl rfl (by kernel_rfl) (S.old0 hg2 hlt2) (hat2 0 (by omega)) ?_
    refine o_addS gn rfl rfl rfl (by first | omega | (simp only [lens3]; omega)) ?_
    refine o_addS gn rfl rfl rfl (by first | omega | (simp only [lens3]; omega)) ?_
    refine o_assign gn rfl rfl ?_
    refine wl_end ?_
    refine w_ret ?_
    refine ⟨.inl rfl, _, rfl, ?_⟩
    exact ⟨⟨_, rfl, by simp only [tls]; rfl⟩, S.e0⟩
  refine w_seq ?_
  refine w_region (by kernel_rfl) ?_
  refine o_eqi gn rfl rfl rfl ?_
  refine o_assign gn rfl rfl ?_
  refine wl_end ?_
  refine w_cond rfl (fun hb => ?_) fun hb => ?_
  · skip
    refine w_seq ?_
    have hK0 : K = 6 := by simpa using hb
    subst hK0
    have hl1 := h1 (by decide)
    obtain ⟨kb, ko, kcs, ke, km, rfl, hg2, hlt2, hat2⟩ := row_get R (by omega)
    refine w_draw [(0, []), (1, []), (2, []), (3, []), (4, []), (5, []), (6, []), (7, []), (8, []), (9, [])] (by kernel_rfl) (by kernel_rfl) (by kernel_rfl) (by kernel_rfl) ?_
    refine o_fieldAddr (off := 1) gn rfl rfl (by kernel_rfl) ?_
    refine o_load gn rfl rfl (by kernel_rfl) (by exact S.cel 0 rfl) rfl ?_
    refine o_addS gn rfl rfl rfl (by first | omega | (simp only [lens3]; omega)) ?_
    refine o_addS gn rfl rfl rfl (by first | omega | (simp only [lens3]; omega)) ?_
    refine o_move gn rfl rfl ?_
    refine o_indexAddr (zz := 1) gn rfl rfl rfl (by kernel_rfl) (by omega) (by omega) ?_
    refine o_load gn rfl rfl (by kernel_rfl) (S.old0 hg2 hlt2) (hat2 0 (by omega)) ?_
    refine o_addS gn rfl rfl rfl (by first | omega | (simp only [lens3]; omega)) ?_
    refine o_addS gn rfl rfl rfl (by first | omega | (simp only [lens3]; omega)) ?_
    refine o_assign gn rfl rfl ?_
    refine wl_end ?_
    refine w_ret ?_
    refine ⟨.inl rfl, _, rfl, ?_⟩
    exact ⟨⟨_, rfl, by simp only [tls]; rfl⟩, S.e0⟩
  refine w_seq ?_
  refine w_region (by kernel_rfl) ?_
  refine o_eqi gn rfl rfl rfl ?_
  refine o_assign gn rfl rfl ?_
  refine wl_end ?_
  refine w_cond rfl (fun hb => ?_) fun hb => ?_
  · skip
    refine w_seq ?_
    have hK0 : K = 7 := by simpa using hb
    subst hK0
    have hl1 := h1 (by decide)
    obtain ⟨kb, ko, kcs, ke, km, rfl, hg2, hlt2, hat2⟩ := row_get R (by omega)
    refine w_draw [(0, []), (1, []), (2, []), (3, []), (4, []), (5, []), (6, []), (7, []), (8, [])] (by kernel_rfl) (by kernel_rfl) (by kernel_rfl) (by kernel_rfl) ?_
    refine o_fieldAddr (off := 1) gn rfl rfl (by kernel_rfl) ?_
    refine o_load gn rfl rfl (by kernel_rfl) (by exact S.cel 0 rfl) rfl ?_
    refine o_addS gn rfl rfl rfl (by first | omega | (simp only [lens3]; omega)) ?_
    refine o_addS gn rfl rfl rfl (by first | omega | (simp only [lens3]; omega)) ?_
    refine o_move gn rfl rfl ?_
    refine o_indexAddr (zz := 1) gn rfl rfl rfl (by kernel_rfl) (by omega) (by omega) ?_
    refine o_load gn rfl rfl (by kernel_rfl) (S.old0 hg2 hlt2) (hat2 0 (by omega)) ?_
    refine o_addS gn rfl rfl rfl (by first | omega | (simp only [lens3]; omega)) ?_
    refine o_assign gn rfl rfl ?_
    refine wl_end ?_
    refine w_ret ?_
    refine ⟨.inl rfl, _, rfl, ?_⟩
    exact ⟨⟨_, rfl, by simp only [tls]; rfl⟩, S.e0⟩
  refine w_seq ?_
  refine w_region (by kernel_rfl) ?_
  refine o_eqi gn rfl rfl rfl ?_
  refine o_assign gn rfl rfl ?_
  refine wl_end ?_
  refine w_cond rfl (fun hb => ?_) fun hb => ?_
  · skip
    refine w_seq ?_
    have hK0 : K = 9 := by simpa using hb
    subst hK0
    have hl1 := h1 (by decide)
    obtain ⟨hN3, hN4⟩ := hn9 rfl
    have hN3 : 0 ≤ N := hN3
    have hN4 : N ≤ 3 := hN4
    obtain ⟨kb, ko, kcs, ke, km, rfl, hg2, hlt2, hat2⟩ := row_get R (by omega)
    refine w_draw [(0, []), (1, []), (2, []), (3, []), (4, []), (5, []), (6, []), (7, []), (8, []), (9, [])] (by kernel_rfl) (by kernel_rfl) (by kernel_rfl) (by kernel_rfl) ?_
    refine s_buildSlice (cs := #[Value.string ⟨#[99, 114, 101, 97, 116, 101, 32]⟩, .string ⟨#[115, 116, 97, 114, 116, 32]⟩, .string ⟨#[115, 116, 111, 112, 32]⟩, .string ⟨#[100, 101, 115, 116, 114, 111, 121, 32]⟩]) (e := 9) (z := 0) (zv := .string .empty) [(0, _), (1, _), (2, _), (3, _)] S gn rfl (by kernel_rfl) (by kernel_rfl) (by kernel_rfl) (by kernel_rfl) rfl (by kernel_rfl) fun b2 g nb2 S => ?_
    refine o_fieldAddr (off := 2) gn rfl rfl (by kernel_rfl) ?_
    refine o_load gn rfl rfl (by kernel_rfl) (by exact S.cel 1 rfl) rfl ?_
    refine o_indexAddr (zz := 1) gn rfl rfl rfl (by kernel_rfl) (by show (0 : Int) ≤ N; omega) (by show N < (4 : Nat); omega) ?_
    refine o_load gn rfl rfl (by kernel_rfl) (S.cel 0 rfl) (lifeD_at hN3 hN4) ?_
    refine o_move gn rfl rfl ?_
    refine o_indexAddr (zz := 1) gn rfl rfl rfl (by kernel_rfl) (by omega) (by omega) ?_
    refine o_load gn rfl rfl (by kernel_rfl) (S.old0 hg2 hlt2) (hat2 0 (by omega)) ?_
    refine o_addS gn rfl rfl rfl (by show (lifeD N).size + (kd ks 0).size < _; omega) ?_
    refine o_assign gn rfl rfl ?_
    refine wl_end ?_
    refine w_ret ?_
    refine ⟨.inl rfl, _, rfl, ?_⟩
    exact ⟨⟨_, rfl, by simp only [tl_app]; rfl⟩, S.e0⟩
  refine w_seq ?_
  refine w_region (by kernel_rfl) ?_
  refine o_eqi gn rfl rfl rfl ?_
  refine o_assign gn rfl rfl ?_
  refine wl_end ?_
  refine w_cond rfl (fun hb => ?_) fun hb => ?_
  · skip
    refine w_seq ?_
    have hK0 : K = 10 := by simpa using hb
    subst hK0
    have hl2 := h2 rfl
    have hN3 : N = 0 ∨ N = 1 := hn10 rfl
    obtain ⟨kb, ko, kcs, ke, km, rfl, hg2, hlt2, hat2⟩ := row_get R (by omega)
    refine w_draw [(0, []), (1, []), (2, []), (3, []), (4, []), (5, []), (6, []), (7, []), (8, []), (9, []), (10, []), (11, []), (12, []), (13, []), (14, []), (15, []), (16, []), (17, []), (18, [])] (by kernel_rfl) (by kernel_rfl) (by kernel_rfl) (by kernel_rfl) ?_
    refine o_fieldAddr (off := 1) gn rfl rfl (by kernel_rfl) ?_
    refine o_load gn rfl rfl (by kernel_rfl) (by exact S.cel 0 rfl) rfl ?_
    refine o_addS gn rfl rfl rfl (by first | omega | (simp only [lens3]; omega)) ?_
    refine o_addS gn rfl rfl rfl (by first | omega | (simp only [lens3]; omega)) ?_
    refine o_move gn rfl rfl ?_
    refine o_indexAddr (zz := 1) gn rfl rfl rfl (by kernel_rfl) (by omega) (by omega) ?_
    refine o_load gn rfl rfl (by kernel_rfl) (S.old0 hg2 hlt2) (hat2 0 (by omega)) ?_
    refine o_addS gn rfl rfl rfl (by first | omega | (simp only [lens3]; omega)) ?_
    refine s_buildSlice (cs := #[Value.string ⟨#[32, 111, 102, 102, 32]⟩, .string ⟨#[32, 111, 110, 32]⟩]) (e := 9) (z := 0) (zv := .string .empty) [(0, _), (1, _)] S gn rfl (by kernel_rfl) (by kernel_rfl) (by kernel_rfl) (by kernel_rfl) rfl (by kernel_rfl) fun b3 g nb3 S => ?_
    refine o_fieldAddr (off := 2) gn rfl rfl (by kernel_rfl) ?_
    refine o_load gn rfl rfl (by kernel_rfl) (by exact S.cel 1 rfl) rfl ?_
    refine o_indexAddr (zz := 1) gn rfl rfl rfl (by kernel_rfl) (by show (0 : Int) ≤ N; omega) (by show N < (2 : Nat); omega) ?_
    refine o_load gn rfl rfl (by kernel_rfl) (S.cel 0 rfl) (eventD_at hN3) ?_
    refine o_addS gn rfl rfl rfl (by first | omega | (simp only [lens3]; omega)) ?_
    refine o_move gn rfl rfl ?_
    refine o_indexAddr (zz := 1) gn rfl rfl rfl (by kernel_rfl) (by omega) (by omega) ?_
    refine o_load gn rfl rfl (by kernel_rfl) (S.old0 hg2 hlt2) (hat2 1 (by omega)) ?_
    refine o_addS gn rfl rfl rfl (by first | omega | (simp only [lens3]; omega)) ?_
    refine o_assign gn rfl rfl ?_
    refine wl_end ?_
    refine w_ret ?_
    refine ⟨.inl rfl, _, rfl, ?_⟩
    exact ⟨⟨_, rfl, by simp only [tls]; rfl⟩, S.e0⟩
  refine w_seq ?_
  refine w_region (by kernel_rfl) ?_
  refine o_eqi gn rfl rfl rfl ?_
  refine o_assign gn rfl rfl ?_
  refine wl_end ?_
  refine w_cond rfl (fun hb => ?_) fun hb => ?_
  · skip
    refine w_seq ?_
    have hK0 : K = 11 := by simpa using hb
    subst hK0
    have hl1 := h1 (by decide)
    obtain ⟨kb, ko, kcs, ke, km, rfl, hg2, hlt2, hat2⟩ := row_get R (by omega)
    refine w_region (by kernel_rfl) ?_
    refine o_move gn rfl rfl ?_
    refine o_indexAddr (zz := 1) gn rfl rfl rfl (by kernel_rfl) (by omega) (by omega) ?_
    refine o_load gn rfl rfl (by kernel_rfl) (S.old0 hg2 hlt2) (hat2 0 (by omega)) ?_
    refine o_addS gn rfl rfl rfl (by first | omega | (simp only [lens3]; omega)) ?_
    refine o_assign gn rfl rfl ?_
    refine wl_end ?_
    refine w_ret ?_
    refine ⟨.inl rfl, _, rfl, ?_⟩
    exact ⟨⟨_, rfl, by simp only [tls]; rfl⟩, S.e0⟩
  refine w_skip ?_
  refine w_seq ?_
  have hK : K ≠ 2 ∧ K ≠ 3 ∧ K ≠ 4 ∧ K ≠ 6 ∧ K ≠ 7 ∧ K ≠ 9 ∧ K ≠ 10 ∧ K ≠ 11 := by
    simp only [decide_eq_false_iff_not] at *; omega
  refine w_region (by kernel_rfl) ?_
  refine o_fieldAddr (off := 1) gn rfl rfl (by kernel_rfl) ?_
  refine o_load gn rfl rfl (by kernel_rfl) (by exact S.cel 0 rfl) rfl ?_
  refine o_assign gn rfl rfl ?_
  refine wl_end ?_
  refine w_ret ?_
  refine ⟨.inl rfl, _, rfl, ?_⟩
  exact ⟨⟨_, rfl, by
    obtain ⟨e1, e2, e3, e4, e5, e6, e7, e8⟩ := hK
    rw [declL]
    simp only [if_neg e1, if_neg e2, if_neg e3, if_neg e4, if_neg e5, if_neg e6, if_neg e7, if_neg e8]⟩, S.e0⟩
end
end Go.Proofs.YtoejddhaiogonaaDoor

namespace Go.Proofs.YtoejddhaiogonaaDoor
open Go.X

theorem fit_len {F : FS} {s : ByteArray} {N : Int} {kinds : List Int} (h : fitsF F s N kinds = true) (hm : F.more = none) (hy : F.maybe = none) : kinds.length = F.kids.length := by
  rw [fitsF, Bool.and_eq_true, Bool.and_eq_true] at h
  obtain ⟨h1, _, h3⟩ := h
  unfold headOk at h1
  simp only [Bool.and_eq_true, decide_eq_true_eq] at h1
  unfold restOk at h3
  rw [hm, hy] at h3
  have hd : kinds.drop F.kids.length = [] := by
    cases e : kinds.drop F.kids.length with
    | nil => rfl
    | cons a l => rw [e] at h3; simp at h3
  have := congrArg List.length hd
  rw [List.length_drop, List.length_nil] at this
  omega
theorem fit_least {F : FS} {s : ByteArray} {N : Int} {kinds : List Int} (h : fitsF F s N kinds = true) : F.kids.length ≤ kinds.length := by
  rw [fitsF, Bool.and_eq_true] at h
  have h1 := h.1
  unfold headOk at h1
  simp only [Bool.and_eq_true, decide_eq_true_eq] at h1
  exact h1.2
/-- How many kids there are. -/
structure Shape (K : Int) (n : Nat) : Prop where
  range : 1 ≤ K ∧ K ≤ 36
  one : K = 4 ∨ K = 6 ∨ K = 7 ∨ K = 9 ∨ K = 11 ∨ K = 15 ∨ K = 16 ∨ K = 17 ∨ K = 18 ∨ K = 30 ∨ K = 34 ∨ K = 35 ∨ K = 36 → n = 1
  two : K = 10 ∨ K = 13 ∨ K = 14 ∨ K = 24 ∨ K = 31 ∨ K = 32 → n = 2
  three : K = 23 → n = 3
  least : K = 8 ∨ K = 19 ∨ K = 20 → 1 ≤ n
theorem shape_of {K : Int} {s : ByteArray} {N : Int} {kinds : List Int} (h : formOk K s N kinds = true) : Shape K kinds.length := by
  have key : ∀ F, formOf formT K = some F → fitsF F s N kinds = true := by
    intro F hF
    rw [formOk, hF] at h
    exact h
  refine ⟨?_, fun e => ?_, fun e => ?_, fun e => ?_, fun e => ?_⟩
  · by_cases hr : 1 ≤ K ∧ K ≤ 36
    · exact hr
    have hn : formOf formT K = none := by
      unfold formT
      simp only [formOf]
      repeat' (rw [if_neg (by omega)])
    rw [formOk, hn] at h
    cases h
  · rcases e with rfl | rfl | rfl | rfl | rfl | rfl | rfl | rfl | rfl | rfl | rfl | rfl | rfl <;> exact fit_len (key _ rfl) rfl rfl
  · rcases e with rfl | rfl | rfl | rfl | rfl | rfl <;> exact fit_len (key _ rfl) rfl rfl
  · subst e; exact fit_len (key _ rfl) rfl rfl
  rcases e with rfl | rfl | rfl <;> exact fit_least (key _ rfl)

section
variable {F : Nat → ByteArray → List UInt8} {T : List Tw} {w : Tw} {ind : ByteArray} {ks : List ByteArray}
theorem row_one (h : w.kids.length = 1) (word : ByteArray) : rowT F T w ind word 0 = word.toList ++ [32] ++ kidT F T w ind 0 := by
  rw [rowT, h]
  simp [catL]
theorem row_two (h : w.kids.length = 2) (word : ByteArray) : rowT F T w ind word 1 = word.toList ++ [32] ++ kidT F T w ind 1 := by
  rw [rowT, h]
  simp [catL]
theorem cat1 (a : ByteArray) : catL [a] = a.toList := by simp [catL]
theorem cat2 (a b : ByteArray) : catL [a, b] = a.toList ++ b.toList := by simp [catL]
theorem cat3 (a b c : ByteArray) : catL [a, b, c] = a.toList ++ (b.toList ++ c.toList) := by simp [catL]
theorem doc_term (hl : ks.length = w.kids.length) (h : ∀ i, i < w.kids.length → (kd ks i).toList = kidT F T w ind i) (hS : Shape w.K w.kids.length) (ht : termK w.K = true) : termL w ks = termT F T w ind := by
  obtain ⟨K, s, N, L, Co, kv, kids⟩ := w
  simp only at hl h hS ht
  simp only [termK, Bool.and_eq_true, decide_eq_true_eq] at ht
  rcases (show K = 26 ∨ K = 27 ∨ K = 28 ∨ K = 29 ∨ K = 30 ∨ K = 31 ∨ K = 32 ∨ K = 33 ∨ K = 34 ∨ K = 35 ∨ K = 36 by omega) with rfl | rfl | rfl | rfl | rfl | rfl | rfl | rfl | rfl | rfl | rfl
  · show (itoaB N).toList = catL [itoaB N]
    rw [cat1]
  · show _ = catL [_]
    rw [cat1, tl_lit]; rfl
  · show _ = catL [_]
    rw [cat1, tl_lit]; rfl
  · show s.toList = catL [s]
    rw [cat1]
  · have hn := hS.one (by decide)
    show (kd ks 0).toList ++ [46] ++ s.toList = kidT F T _ ind 0 ++ catL [_, s]
    rw [h 0 (by omega)]
    simp only [cat2, tl_lit, List.append_assoc]
  · have hn := hS.two (by decide)
    show (kd ks 0).toList ++ [91] ++ (kd ks 1).toList ++ [93] = kidT F T _ ind 0 ++ catL [_] ++ kidT F T _ ind 1 ++ catL [_]
    rw [h 0 (by omega), h 1 (by omega), cat1, cat1, tl_lit, tl_lit]
  · have hn := hS.two (by decide)
    show (kd ks 0).toList ++ [32] ++ s.toList ++ [32] ++ (kd ks 1).toList = kidT F T _ ind 0 ++ catL [_, s, _] ++ kidT F T _ ind 1
    rw [h 0 (by omega), h 1 (by omega)]
    simp only [cat3, tl_lit, List.append_assoc]
  · show [110, 101, 119, 32] ++ s.toList = catL [_, s]
    simp only [cat2, tl_lit]
  · have hn := hS.one (by decide)
    show [97, 114, 114, 32] ++ (kd ks 0).toList = rowT F T _ ind ⟨#[97, 114, 114]⟩ 0
    rw [h 0 (by omega), row_one hn, tl_lit]; rfl
  · have hn := hS.one (by decide)
    show [108, 101, 110, 32] ++ (kd ks 0).toList = rowT F T _ ind ⟨#[108, 101, 110]⟩ 0
    rw [h 0 (by omega), row_one hn, tl_lit]; rfl
  have hn := hS.one (by decide)
  show [102, 110, 32] ++ (kd ks 0).toList = rowT F T _ ind ⟨#[102, 110]⟩ 0
  rw [h 0 (by omega), row_one hn, tl_lit]; rfl
theorem doc_to (hK : w.K = 19 ∨ w.K = 20) (hl : ks.length = w.kids.length) (h : ∀ i, i < w.kids.length → (kd ks i).toList = kidT F T w ind i) : toL w ks = toT F T w ind := by
  rw [toL, toT, hl]
  by_cases e : 1 < w.kids.length
  · rw [if_pos ⟨hK, e⟩, if_pos e, cat1, h 1 e]
    simp only [tl_lit]
  rw [if_neg (fun x => e x.2), if_neg e]
theorem doc_stmt (hl : ks.length = w.kids.length) (h : ∀ i, i < w.kids.length → (kd ks i).toList = kidT F T w ind i) (hS : Shape w.K w.kids.length) (ht : stmtK w.K = true) : stmtL w ks (decide (0 < ((kidsAt T (w.kids.getD 2 0).toNat).length : Int))) = stmtT F T w ind := by
  have hto := fun hK => doc_to (F := F) (T := T) (ind := ind) hK hl h
  obtain ⟨K, s, N, L, Co, kv, kids⟩ := w
  simp only at hl h hS ht hto
  simp only [stmtK, Bool.and_eq_true, decide_eq_true_eq] at ht
  rcases (show K = 13 ∨ K = 14 ∨ K = 15 ∨ K = 16 ∨ K = 17 ∨ K = 18 ∨ K = 19 ∨ K = 20 ∨ K = 21 ∨ K = 22 ∨ K = 23 ∨ K = 24 ∨ K = 25 by omega) with rfl | rfl | rfl | rfl | rfl | rfl | rfl | rfl | rfl | rfl | rfl | rfl | rfl
  · have hn := hS.two (by decide)
    show [118, 97, 114, 32] ++ s.toList ++ [32] ++ (kd ks 0).toList ++ [32, 61, 32] ++ (kd ks 1).toList ++ [59] = catL [_, s, _] ++ kidT F T _ ind 0 ++ catL [_] ++ kidT F T _ ind 1 ++ catL [_]
    rw [h 0 (by omega), h 1 (by omega)]
    simp only [cat1, cat3, tl_lit, List.append_assoc]
  · have hn := hS.two (by decide)
    show (kd ks 0).toList ++ [32, 61, 32] ++ (kd ks 1).toList ++ [59] = kidT F T _ ind 0 ++ catL [_] ++ kidT F T _ ind 1 ++ catL [_]
    rw [h 0 (by omega), h 1 (by omega)]
    simp only [cat1, tl_lit]
  · have hn := hS.one (by decide)
    show [99, 97, 108, 108, 32] ++ (kd ks 0).toList ++ [59] = rowT F T _ ind ⟨#[99, 97, 108, 108]⟩ 0 ++ catL [_]
    rw [h 0 (by omega), row_one hn]
    simp only [cat1, tl_lit]; rfl
  · have hn := hS.one (by decide)
    show [99, 97, 110, 99, 101, 108, 32] ++ (kd ks 0).toList ++ [59] = rowT F T _ ind ⟨#[99, 97, 110, 99, 101, 108]⟩ 0 ++ catL [_]
    rw [h 0 (by omega), row_one hn]
    simp only [cat1, tl_lit]; rfl
  · have hn := hS.one (by decide)
    show [106, 111, 105, 110, 32] ++ (kd ks 0).toList ++ [59] = rowT F T _ ind ⟨#[106, 111, 105, 110]⟩ 0 ++ catL [_]
    rw [h 0 (by omega), row_one hn]
    simp only [cat1, tl_lit]; rfl
  · have hn := hS.one (by decide)
    show [108, 111, 103, 32] ++ (kd ks 0).toList ++ [59] = rowT F T _ ind ⟨#[108, 111, 103]⟩ 0 ++ catL [_]
    rw [h 0 (by omega), row_one hn]
    simp only [cat1, tl_lit]; rfl
  · have hn := hS.least (by decide)
    show [112, 111, 115, 116, 32] ++ s.toList ++ [32] ++ (kd ks 0).toList ++ aftL N ++ toL _ ks ++ [59] = catL [_, s, _] ++ kidT F T _ ind 0 ++ (if N < 0 then catL [⟨#[32, 102, 114, 111, 110, 116]⟩] else []) ++ (if 0 < N then catL [⟨#[32, 97, 102, 116, 101, 114, 32]⟩, itoaB N] else []) ++ toT F T _ ind ++ catL [_]
    have ea : (if N < 0 then catL [⟨#[32, 102, 114, 111, 110, 116]⟩] else []) ++ (if 0 < N then catL [⟨#[32, 97, 102, 116, 101, 114, 32]⟩, itoaB N] else []) = aftL N := by
      unfold aftL
      by_cases e1 : 0 < N
      · rw [if_neg (by omega), if_pos e1, if_pos e1, cat2, tl_lit]; rfl
      by_cases e2 : N < 0
      · rw [if_pos e2, if_neg e1, if_neg e1, if_pos e2, cat1, tl_lit, List.append_nil]
      rw [if_neg e2, if_neg e1, if_neg e1, if_neg e2]; rfl
    rw [h 0 (by omega), hto (.inl rfl), ← ea]
    simp only [cat1, cat3, tl_lit, List.append_assoc]
  · have hn := hS.least (by decide)
    show [115, 112, 97, 119, 110, 32] ++ (kd ks 0).toList ++ toL _ ks ++ [59] = catL [_] ++ kidT F T _ ind 0 ++ toT F T _ ind ++ catL [_]
    rw [h 0 (by omega), hto (.inr rfl)]
    simp only [cat1, tl_lit]
  · show [101, 110, 97, 98, 108, 101, 32] ++ s.toList ++ [59] = catL [_, s] ++ catL [_]
    simp only [cat1, cat2, tl_lit]
  · show [100, 105, 115, 97, 98, 108, 101, 32] ++ s.toList ++ [59] = catL [_, s] ++ catL [_]
    simp only [cat1, cat2, tl_lit]
  · have hn := hS.three rfl
    show [105, 102, 32] ++ (kd ks 0).toList ++ [32] ++ (kd ks 1).toList ++ (if decide (0 < ((kidsAt T (kids.getD 2 0).toNat).length : Int)) = true then [32, 101, 108, 115, 101, 32] ++ (kd ks 2).toList else []) = catL [⟨#[105, 102, 32]⟩] ++ kidT F T _ ind 0 ++ catL [_] ++ kidT F T _ ind 1 ++ (if (decide (2 < (kids.length : Int)) && decide (0 < ((kidsAt T (kids.getD 2 0).toNat).length : Int))) = true then catL [⟨#[32, 101, 108, 115, 101, 32]⟩] ++ kidT F T _ ind 2 else [])
    have e2 : decide (2 < (kids.length : Int)) = true := by rw [hn]; rfl
    rw [h 0 (by omega), h 1 (by omega), h 2 (by omega), e2, Bool.true_and]
    simp only [cat1, tl_lit]
  · have hn := hS.two (by decide)
    show [119, 104, 105, 108, 101, 32] ++ (kd ks 0).toList ++ [32] ++ (kd ks 1).toList = catL [⟨#[119, 104, 105, 108, 101, 32]⟩] ++ kidT F T _ ind 0 ++ catL [_] ++ kidT F T _ ind 1 ++ (if (decide (2 < (kids.length : Int)) && decide (0 < ((kidsAt T (kids.getD 2 0).toNat).length : Int))) = true then catL [⟨#[32, 101, 108, 115, 101, 32]⟩] ++ kidT F T _ ind 2 else [])
    have e2 : decide (2 < (kids.length : Int)) = false := by rw [hn]; rfl
    rw [h 0 (by omega), h 1 (by omega), e2, Bool.false_and, if_neg (by simp), List.append_nil]
    simp only [cat1, tl_lit]
  show _ = catL [_] ++ catL [_]
  simp only [cat1, tl_lit]; rfl
theorem doc_life {N : Int} (h0 : 0 ≤ N) (h1 : N ≤ 3) : (lifeD N).toList = (lifeWord N).toList ++ [32] := by
  rcases (show N = 0 ∨ N = 1 ∨ N = 2 ∨ N = 3 by omega) with rfl | rfl | rfl | rfl <;> (show (⟨_⟩ : ByteArray).toList = (⟨_⟩ : ByteArray).toList ++ [32]; rw [ByteArray.toList_eq, ByteArray.toList_eq]; rfl)
theorem doc_event {N : Int} (h : N = 0 ∨ N = 1) : (eventD N).toList = (eventWord N).toList ++ [32] := by
  rcases h with rfl | rfl <;> (show (⟨_⟩ : ByteArray).toList = (⟨_⟩ : ByteArray).toList ++ [32]; rw [ByteArray.toList_eq, ByteArray.toList_eq]; rfl)
theorem doc_class {l : List ByteArray} {G : Nat → List UInt8} (h : ∀ i, i < l.length → (kd l i).toList = G i) : (l.flatMap fun k => [32] ++ k.toList) = (List.range l.length).flatMap fun i => [32] ++ G i := by
  have key : ∀ m, m ≤ l.length → ((l.take m).flatMap fun k => [32] ++ k.toList) = (List.range m).flatMap fun i => [32] ++ G i := by
    intro m
    induction m with
    | zero => intro _; rfl
    | succ m ih =>
      intro hm
      have e : kd l m = l[m] := by rw [kd, List.getD_eq_getElem?_getD, List.getElem?_eq_getElem (by omega), Option.getD_some]
      rw [flatMap_snoc _ _ (by omega), flat_take, ih (by omega), ← h m (by omega), e]
  have := key l.length (Nat.le_refl _)
  rwa [List.take_length] at this
theorem doc_decl (hl : ks.length = w.kids.length) (h : ∀ i, i < w.kids.length → (kd ks i).toList = kidT F T w ind i) (hS : Shape w.K w.kids.length) (hn9 : w.K = 9 → 0 ≤ w.N ∧ w.N ≤ 3) (hn10 : w.K = 10 → w.N = 0 ∨ w.N = 1) (ht : w.K ≠ 1 ∧ w.K ≠ 8 ∧ w.K ≤ 11) : declL w ks = declT F T w ind := by
  obtain ⟨K, s, N, L, Co, kv, kids⟩ := w
  simp only at hl h hS ht hn9 hn10
  have hr := hS.range
  rcases (show K = 2 ∨ K = 3 ∨ K = 4 ∨ K = 5 ∨ K = 6 ∨ K = 7 ∨ K = 9 ∨ K = 10 ∨ K = 11 by omega) with rfl | rfl | rfl | rfl | rfl | rfl | rfl | rfl | rfl
  · show [108, 111, 111, 112, 101, 114, 32] ++ s.toList ++ [59] = catL [_, s, _]
    simp only [cat3, tl_lit, List.append_assoc]
  · show [99, 108, 97, 115, 115, 32] ++ s.toList ++ [32, 123] ++ (ks.flatMap fun k => [32] ++ k.toList) ++ [32, 125] = rowT F T _ ind (⟨#[99, 108, 97, 115, 115, 32]⟩ ++ s ++ ⟨#[32, 123]⟩) 0 ++ catL [_]
    rw [rowT, doc_class (G := fun i => kidT F T ⟨3, s, N, L, Co, kv, kids⟩ ind i) (fun i hi => h i (by omega)), hl]
    simp only [cat1, tl_lit, tl_app, Nat.sub_zero, Nat.zero_add]
  · have hn := hS.one (by decide)
    show s.toList ++ [32] ++ (kd ks 0).toList ++ [59] = rowT F T _ ind s 0 ++ catL [_]
    rw [h 0 (by omega), row_one hn]
    simp only [cat1, tl_lit]
  · show s.toList = catL [s]
    rw [cat1]
  · have hn := hS.one (by decide)
    show [118, 97, 114, 32] ++ s.toList ++ [32] ++ (kd ks 0).toList ++ [59] = rowT F T _ ind (⟨#[118, 97, 114, 32]⟩ ++ s) 0 ++ catL [_]
    rw [h 0 (by omega), row_one hn]
    simp only [cat1, tl_lit, tl_app]
  · have hn := hS.one (by decide)
    show [102, 110, 32] ++ s.toList ++ [32] ++ (kd ks 0).toList = rowT F T _ ind (⟨#[102, 110, 32]⟩ ++ s) 0
    rw [h 0 (by omega), row_one hn]
    simp only [tl_lit, tl_app]
  · have hn := hS.one (by decide)
    show (lifeD N).toList ++ (kd ks 0).toList = rowT F T _ ind (lifeWord N) 0
    rw [h 0 (by omega), row_one hn, doc_life (hn9 rfl).1 (hn9 rfl).2]
  · have hn := hS.two (by decide)
    show [101, 118, 101, 110, 116, 32] ++ s.toList ++ [32, 111, 110, 32] ++ (kd ks 0).toList ++ (eventD N).toList ++ (kd ks 1).toList = catL [_, s, _] ++ kidT F T _ ind 0 ++ rowT F T _ ind (eventWord N) 1
    rw [h 0 (by omega), h 1 (by omega), row_two hn, doc_event (hn10 rfl)]
    simp only [cat3, tl_lit, List.append_assoc]
  have hn := hS.one (by decide)
  show [109, 97, 105, 110, 32] ++ (kd ks 0).toList = rowT F T _ ind ⟨#[109, 97, 105, 110]⟩ 0
  rw [h 0 (by omega), row_one hn]
  simp only [tl_lit]; rfl
end
end Go.Proofs.YtoejddhaiogonaaDoor

namespace Go.X
theorem same_str {s : ByteArray} : sameV 20 (.string s) (.string s) = true := by simp [sameV]
section
variable {E : Env} {l : Kn} {h : Hp} {ops : Array Oper} {d : Nat} {ty t ty2 : TypeId} {pos : String} {af : Array Edge} {gg : Option (Nat × Bool)} {x y : Operand}
theorem ag_addS {s u : ByteArray} (g : Gd ops l gg) (hx : evl l x = some (.string s)) (hy : evl l y = some (.string u)) (hs : s.size + u.size < 9223372036854775808) (hl : lk l d = some (.string (s ++ u))) : Again E ops l h ⟨some d, .binOp .add t x y ty2, ty, pos, af, gg⟩ :=
  .inr ⟨g, _, d, rfl, hl, same_str, fun _ ag => by
    have : ¬ (((s.size + u.size : Nat) : Int) > IntKind.i64.max) := by
      have e : IntKind.i64.max = 9223372036854775807 := by decide
      rw [e]; omega
    simp only [readX, ag.ev hx, ag.ev hy, binX, strBin, this, decide_false, cond_false]⟩
end
end Go.X
namespace Go.Proofs.YtoejddhaiogonaaDoor
open Go.X

def dInd (K : Int) (i : Nat) (ind : ByteArray) : ByteArray := if K = 12 ∨ (K = 8 ∧ 0 < i) then ind ++ ⟨#[32, 32]⟩ else ind
theorem dInd_no {K : Int} (h : K ≠ 12 ∧ K ≠ 8) (i : Nat) (ind : ByteArray) : dInd K i ind = ind := by
  rw [dInd, if_neg]; rintro (e | e)
  · exact h.1 e
  exact h.2 e.1
theorem el74 : ElN trE 74 9 0 15 := ⟨by kernel_rfl, by kernel_rfl, by kernel_rfl, .string .empty, by kernel_rfl, rfl⟩
theorem flat_zip {α β γ : Type} {f : α → List γ} {g : β → List γ} : ∀ {l : List α} {m : List β}, l.length = m.length → (∀ j (h1 : j < l.length) (h2 : j < m.length), f l[j] = g m[j]) → l.flatMap f = m.flatMap g
  | [], [], _, _ => rfl
  | [], _ :: _, e, _ => by simp at e
  | _ :: _, [], e, _ => by simp at e
  | a :: l, b :: m, e, h => by
    rw [List.flatMap_cons, List.flatMap_cons, flat_zip (l := l) (m := m) (by simpa using e) fun j h1 h2 => h (j + 1) (Nat.succ_lt_succ h1) (Nat.succ_lt_succ h2)]
    have := h 0 (by simp) (by simp)
    simp only [List.getElem_cons_zero] at this
    rw [this]
section
variable {F : Nat → ByteArray → List UInt8} {T : List Tw} {w : Tw} {ind : ByteArray} {ks : List ByteArray} {lo : Nat}
theorem kid_plain (hK : w.K = 1 ∨ w.K = 8 ∨ w.K = 12) {i j : Nat} {w' : Tw} (h1 : w.kids[i]? = some (j : Int)) (h2 : T[j]? = some w') : kidT F T w ind i = F j ind := by
  rw [kidT_of h1 h2, if_neg]
  have hm : mustK w.K w.s i = 0 := by
    unfold mustK
    rcases hK with e | e | e <;> rw [e] <;> rfl
  rw [parenK, hm, ← binds_pos (s := w'.s)]
  simp only [Bool.and_eq_true, decide_eq_true_eq]
  omega
theorem zz40 : (⟨#[40]⟩ : ByteArray).size = 1 := rfl
theorem zz41 : (⟨#[41]⟩ : ByteArray).size = 1 := rfl
theorem zz10 : (⟨#[10]⟩ : ByteArray).size = 1 := rfl
theorem flat_const {α β : Type} {f : α → List β} {c : Nat} : ∀ {l : List α}, (∀ a, a ∈ l → (f a).length ≤ c) → (l.flatMap f).length ≤ l.length * c
  | [], _ => by simp
  | a :: l, h => by
    have h1 := flat_const (l := l) fun b hb => h b (List.mem_cons_of_mem _ hb)
    have h2 := h a List.mem_cons_self
    rw [List.flatMap_cons, List.length_append, List.length_cons, Nat.add_mul]
    omega
theorem braces_le {l : List ByteArray} (hl : l.length ≤ 1000) (hk : ∀ k, k ∈ l → k.size ≤ 100000000) (hi : ind.size ≤ 2000) : (bracesL l ind).length ≤ 200000000000 := by
  unfold bracesL
  split
  · decide
  have hi2 : ind.toList.length ≤ 2000 := by rw [← size_toList]; exact hi
  have := flat_const (f := fun k : ByteArray => ind.toList ++ [32, 32] ++ k.toList ++ [10]) (c := 100003000) (l := l) fun k hk' => by
    have := hk k hk'
    rw [size_toList] at this
    simp only [List.length_append, List.length_cons, List.length_nil]; omega
  have h2 : l.length * 100003000 ≤ 1000 * 100003000 := Nat.mul_le_mul_right _ hl
  simp only [List.length_append, List.length_cons, List.length_nil]; omega
theorem kd_at {i : Nat} (hi : i < ks.length) : ks[i] = kd ks i := by rw [kd, List.getD_eq_getElem?_getD, List.getElem?_eq_getElem hi, Option.getD_some]
theorem doc_kid (hK : KidsOk T w lo) (hp : w.K = 1 ∨ w.K = 8 ∨ w.K = 12) (h : ∀ j, j < w.kids.length → (kd ks j).toList = kidT F T w (dInd w.K j ind) j) (j : Nat) (hj : j < w.kids.length) : (kd ks j).toList = F (w.kids[j]).toNat (dInd w.K j ind) := by
  obtain ⟨q, w', h1, h2, _⟩ := hK.2 j hj
  have e : w.kids[j] = (q : Int) := (List.getElem?_eq_some_iff.1 h1).2
  rw [h j hj, kid_plain hp h1 h2, e, Int.toNat_natCast]
theorem doc_prog (h0 : w.K = 1) (hK : KidsOk T w lo) (hl : ks.length = w.kids.length) (h : ∀ j, j < w.kids.length → (kd ks j).toList = kidT F T w (dInd w.K j ind) j) : (ks.flatMap fun k => k.toList ++ [10]) = twT F T w ind := by
  rw [twT, if_pos h0]
  refine flat_zip hl fun j h1 h2 => ?_
  rw [kd_at h1, doc_kid hK (.inl h0) h j h2, dInd_no (by omega), cat1, tl_lit]
theorem doc_braces {l : List Int} (hl : ks.length = l.length) (h : ∀ j (h1 : j < ks.length) (h2 : j < l.length), (ks[j]).toList = F (l[j]).toNat (ind ++ ⟨#[32, 32]⟩)) : bracesL ks ind = bracesT F ind l := by
  rw [bracesL, bracesT]
  by_cases e : ks = []
  · have e2 : l = [] := List.eq_nil_of_length_eq_zero (by rw [← hl, e]; rfl)
    rw [if_pos e, if_pos e2, cat1, tl_lit]
  have e2 : l ≠ [] := fun e2 => e (List.eq_nil_of_length_eq_zero (by rw [hl, e2]; rfl))
  rw [if_neg e, if_neg e2, flat_zip (g := fun k => catL [ind ++ ⟨#[32, 32]⟩] ++ F k.toNat (ind ++ ⟨#[32, 32]⟩) ++ catL [⟨#[10]⟩]) hl fun j h1 h2 => by
    rw [h j h1 h2]
    simp only [cat1, tl_lit, tl_app]]
  simp only [cat1, cat2, tl_lit, List.append_assoc]
theorem doc_block (h0 : w.K = 12) (hK : KidsOk T w lo) (hl : ks.length = w.kids.length) (h : ∀ j, j < w.kids.length → (kd ks j).toList = kidT F T w (dInd w.K j ind) j) : bracesL ks ind = twT F T w ind := by
  rw [twT, if_neg (by omega), if_pos h0]
  refine doc_braces hl fun j h1 h2 => ?_
  rw [kd_at h1, doc_kid hK (.inr (.inr h0)) h j h2, dInd, if_pos (.inl h0)]
theorem doc_comp (h0 : w.K = 8) (h1 : 1 ≤ w.kids.length) (hK : KidsOk T w lo) (hl : ks.length = w.kids.length) (h : ∀ j, j < w.kids.length → (kd ks j).toList = kidT F T w (dInd w.K j ind) j) :
    [99, 111, 109, 112, 32] ++ w.s.toList ++ [32, 111, 110, 32] ++ (kd ks 0).toList ++ [32] ++ bracesL (ks.drop 1) ind = twT F T w ind := by
  have e0 : kidT F T w ind 0 = (kd ks 0).toList := by
    have := h 0 (by omega)
    rw [dInd, if_neg (by omega)] at this
    exact this.symm
  have eb : bracesL (ks.drop 1) ind = bracesT F ind (w.kids.drop 1) := by
    refine doc_braces (by rw [List.length_drop, List.length_drop, hl]) fun j h1 h2 => ?_
    rw [List.length_drop] at h1 h2
    rw [List.getElem_drop, List.getElem_drop, kd_at (by omega), doc_kid hK (.inr (.inl h0)) h (1 + j) (by omega), dInd, if_pos (.inr ⟨h0, by omega⟩)]
  obtain ⟨K, s, N, L, Co, kv, kids⟩ := w
  simp only at h0 e0 eb
  subst h0
  show _ = catL [_, s, _] ++ kidT F T _ ind 0 ++ catL [_] ++ bracesT F ind (kids.drop 1)
  rw [e0, eb]
  simp only [cat1, cat3, tl_lit, List.append_assoc]
theorem doc_rest (hl : ks.length = w.kids.length) (h : ∀ j, j < w.kids.length → (kd ks j).toList = kidT F T w (dInd w.K j ind) j) (hS : Shape w.K w.kids.length) (h1 : w.K ≠ 1) (h8 : w.K ≠ 8) (h12 : w.K ≠ 12) (hW : WOk w) :
    (termK w.K = true → termL w ks = twT F T w ind) ∧ (termK w.K = false → stmtK w.K = true → stmtL w ks (decide (0 < ((kidsAt T (w.kids.getD 2 0).toNat).length : Int))) = twT F T w ind) ∧ (termK w.K = false → stmtK w.K = false → declL w ks = twT F T w ind) := by
  have h' : ∀ j, j < w.kids.length → (kd ks j).toList = kidT F T w ind j := fun j hj => by rw [h j hj, dInd_no ⟨h12, h8⟩]
  have hr := hS.range
  refine ⟨fun ht => ?_, fun ht hs => ?_, fun ht hs => ?_⟩
  · have hs : ¬ stmtK w.K = true := by
      simp only [termK, stmtK, Bool.and_eq_true, decide_eq_true_eq] at ht ⊢
      omega
    rw [twT, if_neg h1, if_neg h12, if_neg hs, if_pos ht]
    exact doc_term hl h' hS ht
  · rw [twT, if_neg h1, if_neg h12, if_pos hs]
    exact doc_stmt hl h' hS hs
  rw [twT, if_neg h1, if_neg h12, if_neg (by rw [hs]; simp), if_neg (by rw [ht]; simp)]
  refine doc_decl hl h' hS hW.n9 hW.n10 ⟨h1, h8, ?_⟩
  simp only [termK, stmtK, Bool.and_eq_false_iff, decide_eq_false_iff_not] at ht hs
  omega
end
section
variable {h : Hp} {sv : Value} {T : List Tw} {F : Nat → ByteArray → List UInt8} {at' : Nat} {ind : ByteArray} {w : Tw}
/-- Text -/
theorem c29 (X : TreeAt h sv T) (hT : T.length ≤ 1000) (hw : T[at']? = some w) (hi0 : ind.size ≤ 2000) (hK : KidsOk T w at') (hS : Shape w.K w.kids.length) (hW : WOk w)
    (ih : ∀ (g : Hp) (q : Nat) (i : Nat), Ext h g → w.kids[i]? = some (q : Int) → C trE 29 [.agg #[sv], iV q, .string (dInd w.K i ind)] g fun v g' => (∃ B, v = .string B ∧ B.toList = F q (dInd w.K i ind) ∧ B.size ≤ 10000000) ∧ Ext g g') :
    C trE 29 [.agg #[sv], iV at', .string ind] h fun v h' => (∃ B, v = .string B ∧ B.toList = twT F T w ind) ∧ Ext h h' := by
  have hR := X.2 w (List.mem_of_getElem? hw)
  obtain ⟨K, s, N, L, Co, kv, kids⟩ := w
  simp only at hR ih hS
  have hs : s.size ≤ 1000000 := hW.sz
  have hkl : kids.length ≤ 1000 := hK.1
  obtain ⟨ya, yc, rfl⟩ := hR.valM
  have Y := X
  obtain ⟨ta, tc, rfl⟩ := X.val
  obtain ⟨hlt, hwe⟩ := List.getElem?_eq_some_iff.1 hw
  obtain ⟨b, o, c, cs, e, m, hv, hg, hlb, hl6, hat⟩ := Y.at (by omega)
  have hta : ta = some ⟨b, o, none⟩ := by injection hv
  have hw6 : (cs.drop (o + Int.toNat (at' : Int) * 6)).take 6 = twC K s N L Co (.slice ya kids.length yc) := by rw [Int.toNat_natCast]; exact (hat at' hlt).trans (by rw [hwe])
  have zz : (⟨#[32, 32]⟩ : ByteArray).size = 2 := rfl
  refine c_enter (fu := Tryd.f29) (by kernel_rfl) rfl ?_
  have S := SH.start h
  refine w_seq ?_
  refine w_region (by kernel_rfl) ?_
  refine s_box S gn rfl rfl fun b1 g nb1 S => ?_
  refine o_assign gn rfl rfl ?_
  refine wl_end ?_
  refine w_seq ?_
  refine w_region (by kernel_rfl) ?_
  refine o_fieldAddr (off := 0) gn rfl rfl (by kernel_rfl) ?_
  refine o_load gn rfl rfl (by kernel_rfl) (by exact S.cel 0 rfl) rfl ?_
  refine o_move gn rfl rfl ?_
  rw [hta]
  refine o_indexAddr (zz := 6) gn rfl rfl rfl (by kernel_rfl) (by omega) (by omega) ?_
  refine o_loadA (n := 6) gn rfl rfl (by kernel_rfl) (by kernel_rfl) (S.old0 hg hlb) (by rw [Int.toNat_natCast]; omega) ?_
  rw [hw6, ← hta]
  refine s_alloc (zv := .agg #[.int .i64 0, .string .empty, .int .i64 0, .int .i64 0, .int .i64 0, .slice none 0 0]) S gn rfl (by kernel_rfl) fun b2 g nb2 S => ?_
  refine s_storeA (n := 6) 0 S gn rfl rfl (by kernel_rfl) (by kernel_rfl) rfl rfl (by decide) rfl (fun g S => ag0) fun g S => ?_
  refine wl_end ?_
  refine w_seq ?_
  refine w_region (by kernel_rfl) ?_
  refine o_assign gn rfl rfl ?_
  refine wl_end ?_
  refine w_seq ?_
  refine w_seq ?_
  refine w_region (by kernel_rfl) ?_
  refine o_assign gn rfl rfl ?_
  refine wl_end ?_
  refine w_block ?_
  refine w_loopS [(8, _), (9, _)] [(2, _), (3, _), (7, _)] (by repeat (first | exact trivial | refine ⟨rfl, ?_⟩)) (fun kk lv hh => ∃ (i : Nat) (kt : Value) (ks : List ByteArray) (bs : List Nat), lv = [(8, kt), (9, iV i)] ∧ kk = kids.length - i ∧ i ≤ kids.length ∧ SH h [] [slR 9 0 kt (srV ks) i bs, cR b2 (.cells (twC K s N L Co (.slice ya kids.length yc)) 30 0), cR b1 (.cells [.slice ta T.length tc] 24 0)] hh ∧ ks.length = i ∧ (∀ k, k ∈ ks → k.size ≤ 10000002) ∧ ∀ j, j < i → (kd ks j).toList = kidT F T ⟨K, s, N, L, Co, .slice ya kids.length yc, kids⟩ (dInd K j ind) j) (n := (kids.length)) ?_ fun kk lv hh hI => ?_
  · exact ⟨0, _, [], [], rfl, rfl, by omega, S.nilSl 9 0, rfl, by simp, by intro j hj; omega⟩
  obtain ⟨i, kt, ks, bs, rfl, hkk, hi3, S, hkn, hks, htx⟩ := hI
  refine w_seq ?_
  refine w_seq ?_
  refine w_region (by kernel_rfl) ?_
  refine o_move gn rfl rfl ?_
  refine o_fieldAddr (off := 5) gn rfl rfl (by kernel_rfl) ?_
  refine o_load gn rfl rfl (by kernel_rfl) (by exact S.cel 1 rfl) rfl ?_
  refine o_len gn rfl rfl (by kernel_rfl) ?_
  refine o_lss gn rfl rfl rfl ?_
  refine wl_end ?_
  refine w_cond rfl (fun hb => ?_) fun hb => ?_
  · skip
    refine w_skip ?_
    have hil : i < kids.length := by simp at hb; omega
    obtain ⟨q, w', hq1, hq2, hq3⟩ := hK.2 i hil
    have hkq : kids[i] = (q : Int) := (List.getElem?_eq_some_iff.1 hq1).2
    refine w_seq ?_
    refine w_block ?_
    refine w_seq ?_
    refine w_region (by kernel_rfl) ?_
    refine o_move gn rfl rfl ?_
    refine o_assign gn rfl rfl ?_
    refine wl_end ?_
    refine w_cutS [(2, .string ind), (3, ptrV b1), (7, ptrV b2), (8, kt), (9, iV i)] (fun lv hh => lv = [(10, .string (dInd K i ind))] ∧ SH h [] [slR 9 0 kt (srV ks) i bs, cR b2 (.cells (twC K s N L Co (.slice ya kids.length yc)) 30 0), cR b1 (.cells [.slice ta T.length tc] 24 0)] hh) ?_ fun lv hh hJ => ?_
    · skip
      refine w_seq ?_
      refine w_region (by kernel_rfl) ?_
      refine o_fieldAddr (off := 0) gn rfl rfl (by kernel_rfl) ?_
      refine o_load gn rfl rfl (by kernel_rfl) (by exact S.cel 1 rfl) rfl ?_
      refine o_eqi gn rfl rfl rfl ?_
      refine o_move gn rfl rfl ?_
      refine o_or (n := 7) rfl rfl rfl gn rfl (fun hb => by
          refine o_fieldAddr (off := 0) (gy rfl rfl rfl hb) rfl rfl (by kernel_rfl) ?_
          refine o_load (gy rfl rfl rfl hb) rfl rfl (by kernel_rfl) (by exact S.cel 1 rfl) rfl ?_
          refine o_eqi (gy rfl rfl rfl hb) rfl rfl rfl ?_
          refine o_move (gy rfl rfl rfl hb) rfl rfl ?_
          refine o_and (n := 2) rfl rfl rfl (gy rfl rfl rfl hb) rfl (fun hb => by
              refine o_move (gy rfl rfl rfl hb) rfl rfl ?_
              refine o_gtr (gy rfl rfl rfl hb) rfl rfl rfl ?_
              exact wl_end ⟨rfl, rfl, 2, rfl, rfl⟩) ?_
          exact wl_end ⟨rfl, rfl, 5, rfl, rfl⟩) ?_
      refine wl_end ?_
      refine w_cond rfl (fun hb => ?_) fun hb => ?_
      · skip
        refine w_region (by kernel_rfl) ?_
        refine o_move gn rfl rfl ?_
        refine o_addS gn rfl rfl rfl (by rw [zz]; omega) ?_
        refine o_assign gn rfl rfl ?_
        refine wl_end ?_
        exact cutS [(10, _)] (by repeat (first | exact trivial | refine ⟨rfl, ?_⟩)) ⟨by rw [dInd, if_pos (by simp only [Bool.or_eq_true, Bool.and_eq_true, decide_eq_true_eq] at hb; omega)], S⟩
      refine w_skip ?_
      exact cutS [(10, _)] (by repeat (first | exact trivial | refine ⟨rfl, ?_⟩)) ⟨by rw [dInd, if_neg (by simp only [Bool.or_eq_false_iff, Bool.and_eq_false_iff, decide_eq_false_iff_not] at hb; omega)], S⟩
    obtain ⟨rfl, S⟩ := hJ
    refine w_seq ?_
    refine w_draw [(0, []), (1, []), (2, []), (3, []), (4, []), (5, []), (6, []), (7, []), (8, [])] (by kernel_rfl) (by kernel_rfl) (by kernel_rfl) (by kernel_rfl) ?_
    refine o_loadA (n := 1) gn rfl rfl (by kernel_rfl) (by kernel_rfl) (by exact S.cel 2 rfl) (Nat.le_refl _) ?_
    refine o_fieldAddr (off := 5) gn rfl rfl (by kernel_rfl) ?_
    refine o_load gn rfl rfl (by kernel_rfl) (by exact S.cel 1 rfl) rfl ?_
    refine o_move gn rfl rfl ?_
    obtain ⟨yb, yo, yc', ycs, ye, ym, yv2, yg2, ylt2, yat2⟩ := hR.atM (by omega)
    have hya : ya = some ⟨yb, yo, none⟩ := by injection yv2
    have yat3 : ycs[yo + i]? = some (iV q) := by rw [yat2 i hil, hkq]
    rw [hya]
    refine o_indexAddr (zz := 1) gn rfl rfl rfl (by kernel_rfl) (by omega) (by omega) ?_
    rw [← hya]
    refine o_load gn rfl rfl (by kernel_rfl) (S.old0 yg2 ylt2) (by rw [Int.toNat_natCast, Nat.mul_one]; exact yat3) ?_
    refine o_move gn rfl rfl ?_
    refine o_call [_, _, _] gn rfl rfl (by kernel_rfl) rfl (C.mono (ih _ q i S.e0 hq1) ?_)
    rintro v g ⟨⟨B, rfl, hB, zB⟩, x⟩
    have S := S.grow x
    refine ⟨ag0, ?_⟩
    refine o_assign gn rfl rfl ?_
    refine wl_end ?_
    refine w_cutS [(2, .string ind), (3, ptrV b1), (7, ptrV b2), (8, kt), (9, iV i)] (fun lv hh => ∃ B2 : ByteArray, lv = [(11, .string B2)] ∧ SH h [] [slR 9 0 kt (srV ks) i bs, cR b2 (.cells (twC K s N L Co (.slice ya kids.length yc)) 30 0), cR b1 (.cells [.slice ta T.length tc] 24 0)] hh ∧ B2.toList = kidT F T ⟨K, s, N, L, Co, .slice ya kids.length yc, kids⟩ (dInd K i ind) i ∧ B2.size ≤ 10000002) ?_ fun lv hh hJ => ?_
    · skip
      refine w_seq ?_
      refine w_region (by kernel_rfl) ?_
      refine o_loadA (n := 1) gn rfl rfl (by kernel_rfl) (by kernel_rfl) (by exact S.cel 2 rfl) (Nat.le_refl _) ?_
      refine o_loadA (n := 6) gn rfl rfl (by kernel_rfl) (by kernel_rfl) (by exact S.cel 1 rfl) (Nat.le_refl _) ?_
      refine o_move gn rfl rfl ?_
      refine o_call [_, _, _] gn rfl rfl (by kernel_rfl) rfl (C.mono (c45 (Y.ext S.e0) hT (hR.ext S.e0) hil (by omega) hkq hq2) ?_)
      rintro v g ⟨rfl, x⟩
      have S := S.grow x
      refine ⟨ag0, ?_⟩
      refine wl_end ?_
      refine w_cond rfl (fun hb => ?_) fun hb => ?_
      · skip
        refine w_region (by kernel_rfl) ?_
        refine o_move gn rfl rfl ?_
        refine o_addS gn rfl rfl rfl (by rw [zz40]; omega) ?_
        refine o_addS gn rfl rfl rfl (by rw [ByteArray.size_append, zz40, zz41]; omega) ?_
        refine o_assign gn rfl rfl ?_
        refine wl_end ?_
        exact cutS [(11, _)] (by repeat (first | exact trivial | refine ⟨rfl, ?_⟩)) ⟨_, rfl, S, by
          rw [kidT_of hq1 hq2, if_pos hb]
          simp only [tls, cat1, hB], by rw [ByteArray.size_append, ByteArray.size_append, zz40, zz41]; omega⟩
      refine w_skip ?_
      exact cutS [(11, _)] (by repeat (first | exact trivial | refine ⟨rfl, ?_⟩)) ⟨B, rfl, S, by rw [kidT_of hq1 hq2, if_neg (by rw [Bool.not_eq_true]; exact hb), hB], by omega⟩
    obtain ⟨B2, rfl, S, hB2, zB2⟩ := hJ
    refine w_region (by kernel_rfl) ?_
    refine o_move gn rfl rfl ?_
    refine o_move gn rfl rfl ?_
    refine s_buildSlice (cs := #[.string B2]) (e := 9) (z := 0) (zv := .string .empty) [(0, _)] S gn rfl (by kernel_rfl) (by kernel_rfl) (by kernel_rfl) (by kernel_rfl) rfl (by kernel_rfl) fun b3 g nb3 S => ?_
    refine s_append (e := 9) (z := 0) (by' := 15) 1 0 S el74 gn rfl rfl rfl rfl rfl rfl (by rfl) (by omega) (fun s' bs' g S => ag0) fun s' bs' g S => ?_
    have S : SH h [] [slR 9 0 s' (srV (ks ++ [B2])) (i + 1) bs', cR b2 (.cells (twC K s N L Co (.slice ya kids.length yc)) 30 0), cR b1 (.cells [.slice ta T.length tc] 24 0)] g := by rw [srV, List.map_append]; exact S.drop
    refine o_assign gn rfl rfl ?_
    refine wl_end ?_
    refine w_region (by kernel_rfl) ?_
    refine o_move gn rfl rfl ?_
    refine o_add gn rfl rfl rfl (by omega) (by omega) ?_
    refine o_assign gn rfl rfl ?_
    refine wl_end ?_
    exact rndS (kids.length - (i + 1)) (by omega) [(8, _), (9, _)] (by repeat (first | exact trivial | refine ⟨rfl, ?_⟩)) ⟨i + 1, _, ks ++ [B2], _, rfl, rfl, by omega, S, by rw [List.length_append, hkn]; rfl, fun k hk => by
      rcases List.mem_append.1 hk with hk | hk
      · exact hks k hk
      · rw [List.mem_singleton] at hk; rw [hk]; exact zB2, fun j hj => by
      by_cases hji : j < i
      · rw [← htx j hji, kd, kd, List.getD_eq_getElem?_getD, List.getD_eq_getElem?_getD, List.getElem?_append_left (by omega)]
      have : j = i := by omega
      subst this
      rw [← hB2, kd, List.getD_eq_getElem?_getD, List.getElem?_append_right (by omega), hkn, Nat.sub_self]; rfl⟩
  refine w_exit ?_
  refine thn_exit ?_
  refine rnd_exit ?_
  refine blk_eq ?_
  refine w_seq ?_
  refine w_seq ?_
  have hil : i = kids.length := by simp at hb; omega
  subst hil
  obtain ⟨ka, kc, rfl⟩ := (S.sl 0 rfl).val
  have hks2 : ∀ k, k ∈ ks → k.size ≤ 100000000 := fun k hk => by have := hks k hk; omega
  refine w_region (by kernel_rfl) ?_
  refine o_fieldAddr (off := 0) gn rfl rfl (by kernel_rfl) ?_
  refine o_load gn rfl rfl (by kernel_rfl) (by exact S.cel 1 rfl) rfl ?_
  refine wl_end ?_
  refine w_block ?_
  refine w_seq ?_
  refine w_region (by kernel_rfl) ?_
  refine o_eqi gn rfl rfl rfl ?_
  refine o_assign gn rfl rfl ?_
  refine wl_end ?_
  refine w_cond rfl (fun hb => ?_) fun hb => ?_
  · skip
    refine w_seq ?_
    refine w_region (by kernel_rfl) ?_
    refine o_assign gn rfl rfl ?_
    refine wl_end ?_
    refine w_seq ?_
    refine w_seq ?_
    refine w_region (by kernel_rfl) ?_
    refine o_assign gn rfl rfl ?_
    refine wl_end ?_
    refine w_block ?_
    refine w_loopS [(12, _), (13, _)] [(3, _), (7, _), (8, _)] (by repeat (first | exact trivial | refine ⟨rfl, ?_⟩)) (fun kk lv hh => ∃ (i : Nat) (q : ByteArray), lv = [(12, .string q), (13, iV i)] ∧ kk = kids.length - i ∧ i ≤ kids.length ∧ SH h [] [slR 9 0 (.slice ka kids.length kc) (srV ks) kids.length bs, cR b2 (.cells (twC K s N L Co (.slice ya kids.length yc)) 30 0), cR b1 (.cells [.slice ta T.length tc] 24 0)] hh ∧ q.toList = ((ks.take i).flatMap fun k => k.toList ++ [10]) ∧ q.size ≤ 200000000 * (i + 1)) (n := (kids.length)) ?_ fun kk lv hh hI => ?_
    · exact ⟨0, .empty, rfl, rfl, by omega, S, by rw [ByteArray.toList_eq]; rfl, Nat.zero_le _⟩
    obtain ⟨i, q, rfl, hkk, hi3, S, hst, hsz⟩ := hI
    refine w_seq ?_
    refine w_seq ?_
    refine w_region (by kernel_rfl) ?_
    refine o_move gn rfl rfl ?_
    refine o_move gn rfl rfl ?_
    refine o_len gn rfl rfl (by kernel_rfl) ?_
    refine o_lss gn rfl rfl rfl ?_
    refine wl_end ?_
    refine w_cond rfl (fun hb => ?_) fun hb => ?_
    · skip
      refine w_skip ?_
      refine w_seq ?_
      refine w_block ?_
      have hi : i < kids.length := by simp at hb; omega
      have R2 : RowV hh (.slice ka ks.length kc) (srV ks) := by rw [hkn]; exact (S.sl 0 rfl).row
      obtain ⟨kb, ko, kcs, ke, km, hka, hg2, hlt2, hat2⟩ := row_get R2 (by omega)
      have q0 := kd_le hks2 i
      refine w_region (by kernel_rfl) ?_
      refine o_move gn rfl rfl ?_
      refine o_move gn rfl rfl ?_
      refine o_move gn rfl rfl ?_
      rw [hka]
      refine o_indexAddr (zz := 1) gn rfl rfl rfl (by kernel_rfl) (by omega) (by omega) ?_
      rw [← hka]
      refine o_load gn rfl rfl (by kernel_rfl) hg2 (by rw [Int.toNat_natCast]; exact hat2 i (by omega)) ?_
      refine o_addS gn rfl rfl rfl (by omega) ?_
      refine o_addS gn rfl rfl rfl (by rw [ByteArray.size_append, zz10]; omega) ?_
      refine o_assign gn rfl rfl ?_
      refine wl_end ?_
      refine w_region (by kernel_rfl) ?_
      refine o_move gn rfl rfl ?_
      refine o_add gn rfl rfl rfl (by omega) (by omega) ?_
      refine o_assign gn rfl rfl ?_
      refine wl_end ?_
      exact rndS (kids.length - (i + 1)) (by omega) [(12, _), (13, _)] (by repeat (first | exact trivial | refine ⟨rfl, ?_⟩)) ⟨i + 1, _, rfl, rfl, by omega, S, by
        rw [flatMap_snoc _ _ (show i < ks.length by omega)]
        simp only [tl_app, hst, tl_lit, kd_at (show i < ks.length by omega), List.append_assoc], by
        rw [ByteArray.size_append, ByteArray.size_append, zz10]; omega⟩
    refine w_exit ?_
    refine thn_exit ?_
    refine rnd_exit ?_
    refine blk_eq ?_
    refine w_seq ?_
    have hi4 : i = ks.length := by simp at hb; omega
    refine w_region (by kernel_rfl) ?_
    refine o_move gn rfl rfl ?_
    refine o_assign gn rfl rfl ?_
    refine wl_end ?_
    refine w_ret ?_
    refine ⟨.inl rfl, _, rfl, ?_⟩
    exact ⟨⟨_, rfl, by
      rw [hi4, List.take_length] at hst
      have hK1 : K = 1 := by simp only [decide_eq_true_eq] at *; assumption
      rw [hst]
      exact doc_prog hK1 hK hkn htx⟩, S.e0⟩
  refine w_seq ?_
  refine w_region (by kernel_rfl) ?_
  refine o_eqi gn rfl rfl rfl ?_
  refine o_assign gn rfl rfl ?_
  refine wl_end ?_
  refine w_cond rfl (fun hb => ?_) fun hb => ?_
  · skip
    refine w_seq ?_
    refine w_region (by kernel_rfl) ?_
    refine o_move gn rfl rfl ?_
    refine o_move gn rfl rfl ?_
    refine o_call [_, _] gn rfl rfl (by kernel_rfl) rfl (C.mono (c52 (S.sl 0 rfl).row (by omega) hks2 (by omega)) ?_)
    rintro v g ⟨⟨B, rfl, hB⟩, x⟩
    have S := S.grow x
    refine ⟨ag0, ?_⟩
    refine o_assign gn rfl rfl ?_
    refine wl_end ?_
    refine w_ret ?_
    refine ⟨.inl rfl, _, rfl, ?_⟩
    exact ⟨⟨B, rfl, by
      have hK1 : K = 12 := by simpa using hb
      rw [hB]
      exact doc_block hK1 hK hkn htx⟩, S.e0⟩
  refine w_seq ?_
  refine w_region (by kernel_rfl) ?_
  refine o_eqi gn rfl rfl rfl ?_
  refine o_assign gn rfl rfl ?_
  refine wl_end ?_
  refine w_cond rfl (fun hb => ?_) fun hb => ?_
  · skip
    refine w_seq ?_
    have hK8 : K = 8 := by simpa using hb
    have hl1 : 1 ≤ kids.length := hS.least (.inl hK8)
    have R2 : RowV hh (.slice ka ks.length kc) (srV ks) := by rw [hkn]; exact (S.sl 0 rfl).row
    obtain ⟨kb, ko, kcs, ke, km, hka, hg2, hlt2, hat2⟩ := row_get R2 (by omega)
    have q0 := kd_le hks2 0
    obtain ⟨sl, hsl, hslr⟩ := sliceF_C el74 (S.sl 0 rfl) hl1
    rw [srV, ← List.map_drop] at hslr
    refine w_draw [(0, []), (1, []), (2, []), (3, []), (4, []), (5, []), (6, []), (7, []), (8, []), (9, []), (10, []), (11, []), (12, [1, 2, 3, 6, 7, 8]), (13, []), (14, [])] (by kernel_rfl) (by kernel_rfl) (by kernel_rfl) (by kernel_rfl) ?_
    refine o_fieldAddr (off := 1) gn rfl rfl (by kernel_rfl) ?_
    refine o_load gn rfl rfl (by kernel_rfl) (by exact S.cel 1 rfl) rfl ?_
    refine o_addS gn rfl rfl rfl (by first | omega | (simp only [lens3]; omega)) ?_
    refine o_addS gn rfl rfl rfl (by first | omega | (simp only [lens3]; omega)) ?_
    refine o_move gn rfl rfl ?_
    rw [hka]
    refine o_indexAddr (zz := 1) gn rfl rfl rfl (by kernel_rfl) (by omega) (by omega) ?_
    rw [← hka]
    refine o_load gn rfl rfl (by kernel_rfl) hg2 (hat2 0 (by omega)) ?_
    refine o_addS gn rfl rfl rfl (by first | omega | (simp only [lens3]; omega)) ?_
    refine o_addS gn rfl rfl rfl (by first | omega | (simp only [lens3]; omega)) ?_
    refine o_move gn rfl rfl ?_
    refine o_sliceF gn rfl rfl rfl hsl ?_
    refine o_move gn rfl rfl ?_
    refine o_call [_, _] gn rfl rfl (by kernel_rfl) rfl (C.mono (c52 hslr (by rw [List.length_drop]; omega) (fun k hk => hks2 k (List.mem_of_mem_drop hk)) (by omega)) ?_)
    rintro v g ⟨⟨B, rfl, hB⟩, x⟩
    have zB : B.size ≤ 200000000000 := by rw [size_toList, hB]; exact braces_le (by rw [List.length_drop]; omega) (fun k hk => hks2 k (List.mem_of_mem_drop hk)) hi0
    have S := S.grow x
    refine ⟨(ag1 (ag_load gn rfl (by kernel_rfl) (S.cel 1 rfl) rfl rfl same_str) (ag1 (ag_addS gn rfl rfl (by first | omega | (simp only [lens3]; omega)) rfl) (ag1 (ag_addS gn rfl rfl (by first | omega | (simp only [lens3]; omega)) rfl) (ag1 (ag_load gn rfl (by kernel_rfl) ((x.get kb hlt2).trans hg2) (hat2 0 (by omega)) rfl same_str) (ag1 (ag_addS gn rfl rfl (by first | omega | (simp only [lens3]; omega)) rfl) (ag1 (ag_addS gn rfl rfl (by first | omega | (simp only [lens3]; omega)) rfl) ag0)))))), ?_⟩
    refine o_addS gn rfl rfl rfl (by first | omega | (simp only [lens3]; omega)) ?_
    refine o_assign gn rfl rfl ?_
    refine wl_end ?_
    refine w_ret ?_
    refine ⟨.inl rfl, _, rfl, ?_⟩
    exact ⟨⟨_, rfl, by
      simp only [tls, hB]
      exact doc_comp hK8 hl1 hK hkn htx⟩, S.e0⟩
  refine w_skip ?_
  refine w_seq ?_
  refine w_seq ?_
  have hK1 : K ≠ 1 ∧ K ≠ 12 ∧ K ≠ 8 := by simp only [decide_eq_false_iff_not] at *; omega
  obtain ⟨d1, d2, d3⟩ := doc_rest hkn htx hS hK1.1 hK1.2.2 hK1.2.1 hW
  refine w_region (by kernel_rfl) ?_
  refine o_fieldAddr (off := 0) gn rfl rfl (by kernel_rfl) ?_
  refine o_load gn rfl rfl (by kernel_rfl) (by exact S.cel 1 rfl) rfl ?_
  refine o_call [_] gn rfl rfl (by kernel_rfl) rfl (c_pure (c17) ⟨ag0, ?_⟩)
  refine wl_end ?_
  refine w_cond rfl (fun hb => ?_) fun hb => ?_
  · skip
    refine w_seq ?_
    refine w_region (by kernel_rfl) ?_
    refine o_loadA (n := 6) gn rfl rfl (by kernel_rfl) (by kernel_rfl) (by exact S.cel 1 rfl) (Nat.le_refl _) ?_
    refine o_move gn rfl rfl ?_
    refine o_call [_, _] gn rfl rfl (by kernel_rfl) rfl (C.mono (c53 (w := ⟨K, s, N, L, Co, .slice ya kids.length yc, kids⟩) (S.sl 0 rfl).row hks2 hs hW.n26 rfl (fun e => by have e : K = 30 ∨ K = 34 ∨ K = 35 ∨ K = 36 := e; have := hS.one (by omega); omega) (fun e => by have e : K = 31 ∨ K = 32 := e; have := hS.two (by omega); omega)) ?_)
    rintro v g ⟨⟨B, rfl, hB⟩, x⟩
    have S := S.grow x
    refine ⟨ag0, ?_⟩
    refine o_assign gn rfl rfl ?_
    refine wl_end ?_
    refine w_ret ?_
    refine ⟨.inl rfl, _, rfl, ?_⟩
    exact ⟨⟨B, rfl, hB.trans (d1 hb)⟩, S.e0⟩
  refine w_skip ?_
  refine w_seq ?_
  refine w_seq ?_
  have ht : termK K = false := hb
  refine w_region (by kernel_rfl) ?_
  refine o_fieldAddr (off := 0) gn rfl rfl (by kernel_rfl) ?_
  refine o_load gn rfl rfl (by kernel_rfl) (by exact S.cel 1 rfl) rfl ?_
  refine o_call [_] gn rfl rfl (by kernel_rfl) rfl (c_pure (c54) ⟨ag0, ?_⟩)
  refine wl_end ?_
  refine w_cond rfl (fun hb => ?_) fun hb => ?_
  · skip
    refine w_seq ?_
    refine w_region (by kernel_rfl) ?_
    refine o_loadA (n := 1) gn rfl rfl (by kernel_rfl) (by kernel_rfl) (by exact S.cel 2 rfl) (Nat.le_refl _) ?_
    refine o_loadA (n := 6) gn rfl rfl (by kernel_rfl) (by kernel_rfl) (by exact S.cel 1 rfl) (Nat.le_refl _) ?_
    refine o_move gn rfl rfl ?_
    refine o_call [_, _, _] gn rfl rfl (by kernel_rfl) rfl (C.mono (c55 (w := ⟨K, s, N, L, Co, .slice ya kids.length yc, kids⟩) (Y.ext S.e0) (S.sl 0 rfl).row hks2 hs hW.n19 (hR.ext S.e0) (fun e => by
  have e : K = 15 ∨ K = 16 ∨ K = 17 ∨ K = 18 ∨ K = 19 ∨ K = 20 := e
  by_cases e2 : K = 19 ∨ K = 20
  · have := hS.least (by omega); omega
  · have := hS.one (by omega); omega) (fun e => by have e : K = 13 ∨ K = 14 ∨ K = 24 := e; have := hS.two (by omega); omega) (fun e => by have e : K = 23 := e; have := hS.three e; omega)
  (fun e => by
    have e : K = 23 := e
    have := hS.three e
    obtain ⟨q, w', h1, h2, _⟩ := hK.2 2 (show 2 < kids.length by omega)
    exact ⟨hkl, q, w', h1, h2⟩) hT) ?_)  -- detent/detentref02.statement
    rintro v g ⟨⟨B, rfl, hB⟩, x⟩
    have S := S.grow x
    refine ⟨ag0, ?_⟩
    refine o_assign gn rfl rfl ?_
    refine wl_end ?_
    refine w_ret ?_
    refine ⟨.inl rfl, _, rfl, ?_⟩
    exact ⟨⟨B, rfl, hB.trans (d2 ht hb)⟩, S.e0⟩
  refine w_skip ?_
  refine w_seq ?_
  have hst : stmtK K = false := hb
  refine w_region (by kernel_rfl) ?_
  refine o_loadA (n := 6) gn rfl rfl (by kernel_rfl) (by kernel_rfl) (by exact S.cel 1 rfl) (Nat.le_refl _) ?_
  refine o_move gn rfl rfl ?_
  refine o_call [_, _] gn rfl rfl (by kernel_rfl) rfl (C.mono (c56 (w := ⟨K, s, N, L, Co, .slice ya kids.length yc, kids⟩) (S.sl 0 rfl).row (by omega) hks2 hs hW.n9 hW.n10 rfl (fun e => by have e : K = 4 ∨ K = 6 ∨ K = 7 ∨ K = 9 ∨ K = 11 := e; have := hS.one (by omega); omega) (fun e => by have e : K = 10 := e; have := hS.two (by omega); omega)) ?_)
  rintro v g ⟨⟨B, rfl, hB⟩, x⟩
  have S := S.grow x
  refine ⟨ag0, ?_⟩
  refine o_assign gn rfl rfl ?_
  refine wl_end ?_
  refine w_ret ?_
  refine ⟨.inl rfl, _, rfl, ?_⟩
  exact ⟨⟨B, rfl, hB.trans (d3 ht hst)⟩, S.e0⟩
end
end Go.Proofs.YtoejddhaiogonaaDoor

namespace Go.Proofs.YtoejddhaiogonaaDoor
open Go.X

theorem cost_any {T : List Tw} (hT : T.length ≤ 1000) (hW : ∀ w, w ∈ T → WOk w) (hs : ∀ t, t ∈ T → t.s.size ≤ 100) : ∀ {f at' : Nat} {nest : Int} {n : Nat}, walkS T f at' nest = some n → at' < n ∧ ∀ (f2 : Nat) (ind : ByteArray), ind.size ≤ 2 * at' → (textS T f2 at' ind).length + 2100 ≤ 6000 * (n - at')
  | 0, _, _, _, e => by simp [walkS] at e
  | f + 1, at', nest, n, e => by
    have hle := (walkS_lt e).1
    simp only [walkS] at e
    split at e
    · rename_i w hw
      split at e
      · cases e
      cases hq : kidsW (walkS T f) T w nest w.kids 0 (at' + 1) with
      | none => rw [hq] at e; cases e
      | some q =>
        rw [hq] at e
        simp only [finW] at e
        split at e
        · cases e
          refine ⟨hle, fun f2 ind hi => ?_⟩
          cases f2 with
          | zero => rw [textS, List.length_nil]; omega
          | succ f3 =>
            have hat := (List.getElem?_eq_some_iff.1 hw).1
            obtain ⟨h1, cs, h2, h3, h4⟩ := cost_kids (F := textS T f3) (fun a b c h => ⟨(cost_any hT hW hs (f := f) h).1, fun ind hi => (cost_any hT hW hs (f := f) h).2 f3 ind hi⟩) hq
            have hm := List.mem_of_getElem? hw
            have := cost_tw (T := T) h2 (ind := ind) (fun q' hq' => by have := h4 _ hq'; omega) (by omega) (hs w hm) (hW w hm)
            have e5 : textS T (f3 + 1) at' ind = twT (textS T f3) T w ind := by simp only [textS, hw]
            rw [e5]
            omega
        cases e
    cases e
theorem sub_walk {T : List Tw} : ∀ {f at' : Nat} {nest : Int} {n : Nat}, walkS T f at' nest = some n → ∀ i, at' ≤ i → i < n → ∃ (f' : Nat) (nest' : Int) (n' : Nat), walkS T f' i nest' = some n'
  | 0, _, _, _, e => by simp [walkS] at e
  | f + 1, at', nest, n, e => by
    have e0 := e
    simp only [walkS] at e
    split at e
    · split at e
      · cases e
      rename_i w _ _
      cases hq : kidsW (walkS T f) T w nest w.kids 0 (at' + 1) with
      | none => rw [hq] at e; cases e
      | some q =>
        rw [hq] at e
        simp only [finW] at e
        split at e
        · cases e
          obtain ⟨_, h2⟩ := all_kids (Q := fun i => ∃ (f' : Nat) (nest' : Int) (n' : Nat), walkS T f' i nest' = some n') (fun _ _ _ h => ⟨(walkS_lt h).1, sub_walk (f := f) h⟩) hq
          intro i hi1 hi2
          by_cases h : i = at'
          · subst h; exact ⟨_, _, _, e0⟩
          exact h2 i (by omega) hi2
        cases e
    cases e
theorem may_any {T : List Tw} (h : mayS T = true) (hT : T.length ≤ 1000) (hs : ∀ t, t ∈ T → t.s.toList.length ≤ 100) (i : Nat) (hi : i < T.length) (f2 : Nat) (ind : ByteArray) (hd : ind.size ≤ 2 * i) : (textS T f2 i ind).length ≤ 10000000 := by
  have hW := may_wok h hs
  simp only [mayS, Bool.and_eq_true, decide_eq_true_eq] at h
  obtain ⟨⟨h1, _⟩, h2⟩ := h
  cases hw : walkS T (T.length + 1) 0 0 with
  | none => rw [hw] at h2; exact absurd h2 (show ¬ (-1 : Int) = T.length by omega)
  | some n =>
    rw [hw] at h2
    have hn : n = T.length := by have : (n : Int) = T.length := h2; omega
    obtain ⟨f', nest', n', h3⟩ := sub_walk hw i (Nat.zero_le _) (by omega)
    have := (cost_any hT hW (fun t ht => by rw [size_toList]; exact hs t ht) h3).2 f2 ind hd
    have := (walkS_lt h3).2
    omega

section
variable {h : Hp} {sv : Value} {T : List Tw}
theorem text_all (hM : mayS T = true) (hT : T.length ≤ 1000) (hs : ∀ t, t ∈ T → t.s.toList.length ≤ 100) : ∀ (f at' : Nat) (h : Hp) (ind : ByteArray), TreeAt h sv T → at' < T.length → T.length - at' ≤ f → ind.size ≤ 2 * at' →
    C trE 29 [.agg #[sv], iV at', .string ind] h fun v h' => (∃ B, v = .string B ∧ B.toList = textS T f at' ind ∧ B.size ≤ 10000000) ∧ Ext h h' := by
  intro f
  induction f with
  | zero => intro at' h ind X h1 h2 _; omega
  | succ f ih =>
    intro at' h ind X h1 h2 h3
    have hw : T[at']? = some T[at'] := List.getElem?_eq_getElem h1
    have e5 : textS T (f + 1) at' ind = twT (textS T f) T T[at'] ind := by simp only [textS, hw]
    have hf := (may_all hM at' T[at'] hw).1
    have hS := shape_of hf
    rw [show (kindsOf T T[at'].kids).length = T[at'].kids.length by rw [kindsOf, List.length_map]] at hS
    have hK := may_kids hM hT hw
    refine C.mono (c29 (F := textS T f) X hT hw (by omega) hK hS (may_wok hM hs _ (List.getElem_mem h1)) fun g q i hg hq => ?_) ?_
    · have hil := (List.getElem?_eq_some_iff.1 hq).1
      obtain ⟨q', w', k1, k2, k3⟩ := hK.2 i hil
      have eq : q' = q := by rw [k1] at hq; have := Option.some.inj hq; omega
      subst eq
      have hql := (List.getElem?_eq_some_iff.1 k2).1
      have hd : (dInd T[at'].K i ind).size ≤ ind.size + 2 := by
        unfold dInd; split
        · rw [ByteArray.size_append]; exact Nat.le_refl _
        omega
      exact ih q' g _ (X.ext hg) hql (by omega) (by omega)
    rintro v g ⟨⟨B, rfl, hB⟩, x⟩
    rw [← e5] at hB
    exact ⟨⟨B, rfl, hB, by rw [size_toList, hB]; exact may_any hM hT hs at' h1 _ _ h3⟩, x⟩

/-- Print -/
theorem c13 (X : TreeAt h sv T) (hT : T.length ≤ 1000) (hs : ∀ t, t ∈ T → t.s.toList.length ≤ 100) : C trE 13 [.agg #[sv]] h fun v h' => (∃ B, v = .string B ∧ B.toList = if mayS T = true then textS T (T.length + 1) 0 .empty else []) ∧ Ext h h' := by
  have Y := X
  obtain ⟨ta, tc, rfl⟩ := X.val
  refine c_enter (fu := Tryd.f13) (by kernel_rfl) rfl ?_
  have S := SH.start h
  refine w_seq ?_
  refine w_region (by kernel_rfl) ?_
  refine s_box S gn rfl rfl fun b1 g nb1 S => ?_
  refine o_assign gn rfl rfl ?_
  refine wl_end ?_
  refine w_seq ?_
  refine w_seq ?_
  refine w_region (by kernel_rfl) ?_
  refine o_loadA (n := 1) gn rfl rfl (by kernel_rfl) (by kernel_rfl) (by exact S.cel 0 rfl) (Nat.le_refl _) ?_
  refine o_call [_] gn rfl rfl (by kernel_rfl) rfl (C.mono (c11 (Y.ext S.e0) hT hs) ?_)
  rintro v g ⟨rfl, x⟩
  have S := S.grow x
  refine ⟨ag0, ?_⟩
  refine o_not gn rfl rfl ?_
  refine wl_end ?_
  refine w_cond rfl (fun hb => ?_) fun hb => ?_
  · skip
    refine w_seq ?_
    refine w_region (by kernel_rfl) ?_
    refine o_assign gn rfl rfl ?_
    refine wl_end ?_
    refine w_ret ?_
    refine ⟨.inl rfl, _, rfl, ?_⟩
    exact ⟨⟨_, rfl, by
      rw [if_neg (show ¬ mayS T = true by simpa using hb)]
      exact tl_lit _⟩, S.e0⟩
  refine w_skip ?_
  have hM : mayS T = true := by simpa using hb
  have h0 := (may_own hM).1
  refine w_seq ?_
  refine w_region (by kernel_rfl) ?_
  refine o_loadA (n := 1) gn rfl rfl (by kernel_rfl) (by kernel_rfl) (by exact S.cel 0 rfl) (Nat.le_refl _) ?_
  refine o_call [_, _, _] gn rfl rfl (by kernel_rfl) rfl (C.mono (text_all hM hT hs (T.length + 1) 0 _ .empty (Y.ext S.e0) h0 (by omega) (Nat.zero_le _)) ?_)
  rintro v g ⟨⟨B, rfl, hB, _⟩, x⟩
  have S := S.grow x
  refine ⟨ag0, ?_⟩
  refine o_assign gn rfl rfl ?_
  refine wl_end ?_
  refine w_ret ?_
  refine ⟨.inl rfl, _, rfl, ?_⟩
  exact ⟨⟨B, rfl, by rw [if_pos hM]; exact hB⟩, S.e0⟩
end
end Go.Proofs.YtoejddhaiogonaaDoor

