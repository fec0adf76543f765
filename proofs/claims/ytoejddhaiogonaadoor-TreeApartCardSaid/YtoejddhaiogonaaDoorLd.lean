/- Chapter 2: Print. Conditions: the tables; the text stays short. Chapter 2: what each twig of a tree that may be has (plain). Conditions: none. Chapter 2: how long a text is (plain). Conditions: the tree may be; texts of at most 100 bytes. Chapter 2: a tree's text is short (plain). Conditions: the tree may be; at most 1000 twigs, texts of at most 100 bytes. Chapter 2: trees that are arguments, and the table of blanks, as X has them. Conditions: none. Chapter 2: the library's table of powers of ten, as X has it. Conditions: none. Chapter 2: trees that are arguments, their rows of any capacity. Conditions: none. Texts that are read from the left: words, numbers, what may stand behind a term (plain). Conditions: none. Trees of twigs, which may be, and their texts (plain). Conditions: none. Terms are read from the left in one way alone (plain). Conditions: none. Terms of operations are read from the left in one way alone (plain). Conditions: none. Statements and blocks are read from the left in one way alone (plain). Conditions: none. Statements, declarations and whole trees are read from the left in one way alone (plain). Conditions: none. Declarations and whole trees are read from the left in one way alone (plain). Conditions: none. Chapter 2: the forms of twigs, as the plain texts on trees have them. Conditions: none. Chapter 2: a twig's text, as the plain texts on trees have it. Conditions: none. Chapter 2: a twig's text, as the plain texts on trees have it: all kinds. Conditions: none. Chapter 2: a tree that may be, as one term; trees of one text are the same (plain). Conditions: none. Chapter 2: the law of trees that are printed alike. Conditions: the table of blanks, for names; the table of powers of ten; the arguments' rows. -/
import Derived.Test.YtoejddhaiogonaaDoorLc
import Derived.Lib.ItoaLen
import Derived.Test.YtoejddhaiogonaaDoorXc
import Derived.Test.YtoejddhaiogonaaDoorTie
import Derived.Test.YtoejddhaiogonaaDoorCards
import Derived.SevenTiedAt
import Derived.LaidMore
import Derived.LaidHandle
import Derived.ProofKit
import Derived.Test.YtoejddhaiogonaaDoorXd
import Derived.Lib.ItoaNum
namespace Go.Proofs.YtoejddhaiogonaaDoor
open Go.X

section
variable {h : Hp} {sv : Value} {T : List Tw}
/-- Print -/
theorem c12 (B : Blk h) (hP : Pow h) (X : TreeAt h sv T) (hT : T.length ≤ 1000) (hs : ∀ t, t ∈ T → t.s.toList.length ≤ 100) (hS : ∀ t, t ∈ T → RowG h t.ks (isV t.kids)) (hW : mayS T = true → ∀ w, w ∈ T → WOk w)
    (hn0 : mayS T = true → (textS T (T.length + 1) 0 .empty).length ≤ 1000000000) : C trE 12 [.agg #[sv]] h fun v h' => v = .string (if mayS T = true then ⟨(textS T (T.length + 1) 0 .empty).toArray⟩ else ⟨#[]⟩) ∧ Ext h h' := by
  have Y := X
  obtain ⟨ta, tc, rfl⟩ := X.val
  refine c_enter (fu := Tryd.f12) (by kernel_rfl) rfl ?_
  have S := SH.start h
  refine w_seq ?_
  refine w_region (by kernel_rfl) ?_
  refine s_box S gn rfl rfl fun b1 g nb1 S => ?_
  refine o_assign gn rfl rfl ?_
  refine wl_end ?_
  refine w_seq ?_
  refine w_seq ?_
  refine w_region (by kernel_rfl) ?_
  refine o_loadA (n := 1) gn rfl rfl (by kernel_rfl) (by kernel_rfl) (by exact S.cel 0 rfl) (Nat.le_refl _) ?_
  refine o_call [_] gn rfl rfl (by kernel_rfl) rfl (C.mono (c10 (B.ext S.e0) (Y.ext S.e0) hT hs) ?_)
  rintro v g ⟨rfl, x⟩
  have S := S.grow x
  refine ⟨ag0, ?_⟩
  refine o_not gn rfl rfl ?_
  refine wl_end ?_
  refine w_cond rfl (fun hb => ?_) fun hb => ?_
  · skip
    refine w_seq ?_
    refine w_region (by kernel_rfl) ?_
    refine o_assign gn rfl rfl ?_
    refine wl_end ?_
    refine w_ret ?_
    refine ⟨.inl rfl, _, rfl, ?_⟩
    exact ⟨by rw [if_neg (show ¬ mayS T = true by simpa using hb)]; rfl, S.e0⟩
  refine w_skip ?_
  have hmay : mayS T = true := by simpa using hb
  have hn := hn0 hmay
  have h0 := (may_own hmay).1
  obtain ⟨b, o, c, cs, e, m, hv, hg, hlb, hl6, hat⟩ := Y.at h0
  have hta : ta = some ⟨b, o, none⟩ := by injection hv
  have hq : T[0]? = some T[0] := List.getElem?_eq_getElem h0
  have hw4 : (cs.drop (o + Int.toNat 0 * 6)).take 6 = T[0].cells := hat 0 h0
  have hm0 := List.getElem_mem h0
  have e0 : textS T (T.length + 1) 0 .empty = twT (textS T T.length) T T[0] .empty := by simp only [textS, hq]
  rw [e0] at hn ⊢
  refine w_seq ?_
  refine w_region (by kernel_rfl) ?_
  refine o_loadA (n := 1) gn rfl rfl (by kernel_rfl) (by kernel_rfl) (by exact S.cel 0 rfl) (Nat.le_refl _) ?_
  refine o_build (cs := #[.slice ta T.length tc, .pointer none, .slice none 0 0, .string .empty]) (zv := .agg #[.slice none 0 0, .pointer none, .slice none 0 0, .string .empty]) (pl := [(0, 1), (1, 2), (3, 1)]) [(0, _)] gn rfl (by kernel_rfl) (by kernel_rfl) rfl (by kernel_rfl) ?_
  refine s_box S gn rfl rfl fun b2 g nb2 S => ?_
  refine o_assign gn rfl rfl ?_
  refine wl_end ?_
  refine w_seq ?_
  have S : SH h [] [prR b2 (.slice ta T.length tc) [] .empty [], cR b1 (.cells [.slice ta T.length tc] 24 0)] g :=
    pr_shut (.inl rfl) (fun _ => rfl) ((S.push (r := snR 5 0 (.slice none 0 0) (byV []) 0 []) (Ext.refl _) (.inl ⟨rfl, rfl, rfl, rfl⟩) (by simp [snR]) (by simp [snR]) (by simp [snR])).swap)
  refine w_region (by kernel_rfl) ?_
  refine o_move gn rfl rfl ?_
  refine o_fieldAddr (off := 0) gn rfl rfl (by kernel_rfl) ?_
  refine o_load gn rfl rfl (by kernel_rfl) (by exact S.cel 1 rfl) rfl ?_
  rw [hta]
  refine o_indexAddr (zz := 6) gn rfl rfl rfl (by kernel_rfl) (by omega) (by omega) ?_
  refine o_loadA (n := 6) gn rfl rfl (by kernel_rfl) (by kernel_rfl) (S.old0 hg hlb) (by show o + 0 * 6 + 6 ≤ _; omega) ?_
  rw [hw4, ← hta]
  refine o_call [_, _] gn rfl rfl (by kernel_rfl) rfl (C.mono (c27s (S.pick 0 rfl) Y (tw_all Y hP hS (fun i w hi => may_kids hmay hT hi) (hW hmay) T.length 0 (by omega)) (may_kids hmay hT hq) (hS _ hm0) hP (hW hmay _ hm0) (by rw [List.length_nil]; omega)) ?_)
  rintro v g ⟨bs', S2⟩
  have S := S.ret 0 rfl S2
  refine ⟨ag0, ?_⟩
  refine wl_end ?_
  refine w_seq ?_
  rw [List.nil_append] at S
  obtain ⟨g2, hs1, hs2, hs3⟩ := string_pr S hn
  refine w_region (by kernel_rfl) ?_
  refine o_move gn rfl rfl ?_
  refine o_nilCheck gn rfl rfl ?_
  refine o_fieldAddr (off := 1) gn rfl rfl (by kernel_rfl) ?_
  refine o_sm [_] gn rfl rfl (by kernel_rfl) (by kernel_rfl) sm28 rfl hs1 hs2 ag0 ?_
  refine o_assign gn rfl rfl ?_
  refine wl_end ?_
  refine w_ret ?_
  refine ⟨.inl rfl, _, rfl, ?_⟩
  exact ⟨by rw [if_pos hmay]; rfl, hs3⟩
end
end Go.Proofs.YtoejddhaiogonaaDoor

namespace Go.Proofs.YtoejddhaiogonaaDoor
open Go.X

theorem wok_of {w : Tw} {kinds : List Int} (h : formOk w.K w.s w.N kinds = true) (hk : kinds.length = w.kids.length) (hs : w.s.size ≤ 1000000) : WOk w := by
  obtain ⟨K, s, N, L, Co, ks, kids⟩ := w
  simp only at h hk hs
  have key : ∀ F, formOf formT K = some F → F.kids.length ≤ kids.length ∧ F.least ≤ N ∧ N ≤ F.most := by
    intro F hF
    rw [formOk, hF] at h
    have h : fitsF F s N kinds = true := h
    rw [fitsF, Bool.and_eq_true] at h
    have h1 := h.1
    unfold headOk at h1
    simp only [Bool.and_eq_true, decide_eq_true_eq] at h1
    exact ⟨by omega, h1.1.1.2, h1.1.2⟩
  refine ⟨fun e => ?_, fun e => ?_, fun e => ?_, fun e => ?_, fun e => ?_, fun e => ?_, fun e => ?_, fun e => ?_, fun e => ?_, hs⟩
  · have e : K = 30 := e
    subst e; exact (key _ rfl).1
  · have e : K = 31 ∨ K = 32 := e
    rcases e with rfl | rfl <;> exact (key _ rfl).1
  · have e : K = 26 := e
    subst e; exact (key _ rfl).2
  · have e : K = 19 ∨ K = 20 := e
    rcases e with rfl | rfl <;> exact (key _ rfl).1
  · have e : K = 13 ∨ K = 14 ∨ K = 23 ∨ K = 24 := e
    rcases e with rfl | rfl | rfl | rfl
    · exact (key _ rfl).1
    · exact (key _ rfl).1
    · exact Nat.le_trans (show 2 ≤ 3 by omega) (key _ rfl).1
    exact (key _ rfl).1
  · have e : K = 19 := e
    subst e; exact (key _ rfl).2
  · have e : K = 8 ∨ K = 10 := e
    rcases e with rfl | rfl
    · exact (key _ rfl).1
    exact Nat.le_trans (show 1 ≤ 2 by omega) (key _ rfl).1
  · have e : K = 9 := e
    subst e; exact (key _ rfl).2
  have e : K = 10 := e
  subst e
  have h1 : (0 : Int) ≤ N := (key _ rfl).2.1
  have h2 : N ≤ (1 : Int) := (key _ rfl).2.2
  show N = 0 ∨ N = 1
  omega
theorem may_wok {T : List Tw} (h : mayS T = true) (hs : ∀ t, t ∈ T → t.s.toList.length ≤ 100) : ∀ w, w ∈ T → WOk w := by
  intro w hw
  obtain ⟨i, hi, rfl⟩ := List.mem_iff_getElem.1 hw
  have h1 := (may_all h i T[i] (List.getElem?_eq_getElem hi)).1
  refine wok_of h1 (by simp [kindsOf]) ?_
  have := hs _ hw
  have e : T[i].s.size = T[i].s.toList.length := by rw [ByteArray.toList_eq]; rfl
  omega
end Go.Proofs.YtoejddhaiogonaaDoor

namespace Go.Proofs.YtoejddhaiogonaaDoor
open Go.X

/-- A twig's kids' texts cost no more than so much each. -/
def CostK (F : Nat → ByteArray → List UInt8) (kids : List Int) (cs : List Nat) : Prop := cs.length = kids.length ∧ ∀ (j : Nat) (k : Int), kids[j]? = some k → ∃ q : Nat, k = q ∧ ∀ ind : ByteArray, ind.size ≤ 2 * q → (F q ind).length + 2100 ≤ cs.getD j 0
theorem cost_kids {F : Nat → ByteArray → List UInt8} {rec : Nat → Int → Option Nat} {T : List Tw} {w : Tw} {nest : Int} (hr : ∀ at' nest n, rec at' nest = some n → at' < n ∧ ∀ ind : ByteArray, ind.size ≤ 2 * at' → (F at' ind).length + 2100 ≤ 6000 * (n - at')) :
    ∀ {l : List Int} {i next n : Nat}, kidsW rec T w nest l i next = some n → next ≤ n ∧ ∃ cs, CostK F l cs ∧ cs.sum ≤ 6000 * (n - next) ∧ ∀ k, k ∈ l → (next : Int) ≤ k
  | [], i, next, n, e => by
    simp [kidsW] at e
    subst e
    exact ⟨Nat.le_refl _, [], ⟨rfl, fun j k h => by simp at h⟩, by simp, fun k h => by simp at h⟩
  | k :: l, i, next, n, e => by
    simp only [kidsW] at e
    split at e
    · rename_i hk
      split at e
      · split at e
        · rename_i q hq
          obtain ⟨h1, h2⟩ := hr _ _ _ hq
          obtain ⟨h3, cs, h4, h5, h6⟩ := cost_kids hr e
          refine ⟨by omega, (6000 * (q - next)) :: cs, ⟨by simp [h4.1], ?_⟩, ?_, ?_⟩
          · intro j k' hj
            cases j with
            | zero =>
              simp only [List.getElem?_cons_zero, Option.some.injEq] at hj
              exact ⟨next, by rw [← hj, hk], fun ind hi => h2 ind hi⟩
            | succ j =>
              simp only [List.getElem?_cons_succ] at hj
              obtain ⟨q', e1, e2⟩ := h4.2 j k' hj
              exact ⟨q', e1, fun ind hi => by simpa using e2 ind hi⟩
          · rw [List.sum_cons]; omega
          intro k' hm
          rcases List.mem_cons.1 hm with rfl | hm
          · omega
          have := h6 k' hm; omega
        cases e
      cases e
    cases e
theorem cat_len (b : ByteArray) : (catL [b]).length = b.size := by
  simp [catL, ByteArray.toList_eq]
theorem cat_len2 (a b : ByteArray) : (catL [a, b]).length = a.size + b.size := by
  simp [catL, ByteArray.toList_eq]
theorem cat_len3 (a b c : ByteArray) : (catL [a, b, c]).length = a.size + b.size + c.size := by
  simp [catL, ByteArray.toList_eq]; omega

section
variable {F : Nat → ByteArray → List UInt8} {T : List Tw} {w : Tw} {ind : ByteArray} {cs : List Nat}
theorem cost_kid (h : CostK F w.kids cs) (hlo : ∀ q : Nat, (q : Int) ∈ w.kids → ind.size ≤ 2 * q) (i : Nat) : (kidT F T w ind i).length ≤ cs.getD i 0 ∧ (i < cs.length → (kidT F T w ind i).length + 2000 ≤ cs.getD i 0) := by
  unfold kidT
  split
  · rename_i e
    have hl : w.kids.length ≤ i := List.getElem?_eq_none_iff.1 e
    exact ⟨Nat.zero_le _, fun hi => by rw [h.1] at hi; omega⟩
  rename_i k e
  obtain ⟨q, rfl, h2⟩ := h.2 i k e
  have := h2 ind (hlo q (List.mem_of_getElem? e))
  simp only [Int.toNat_natCast]
  split
  · exact ⟨by simp, fun _ => by rw [List.length_nil]; omega⟩
  split
  · have e1 : (catL [⟨#[40]⟩]).length = 1 := by rw [cat_len]; rfl
    have e2 : (catL [⟨#[41]⟩]).length = 1 := by rw [cat_len]; rfl
    simp only [List.length_append, e1, e2]
    omega
  omega
theorem sum_ge3 : ∀ cs : List Nat, cs.getD 0 0 + cs.getD 1 0 + cs.getD 2 0 ≤ cs.sum
  | [] => by simp
  | [a] => by simp
  | [a, b] => by simp
  | a :: b :: c :: l => by simp; omega
theorem sum_drop (cs : List Nat) (k : Nat) : (cs.take k).sum + (cs.drop k).sum = cs.sum := by
  rw [← List.sum_append, List.take_append_drop]
theorem cost_range (G : Nat → List UInt8) (cs : List Nat) (hG : ∀ i, i < cs.length → (G i).length ≤ cs.getD i 0) : ∀ m, m ≤ cs.length → ((List.range m).flatMap G).length ≤ (cs.take m).sum
  | 0, _ => by simp
  | m + 1, h => by
    have h1 := cost_range G cs hG m (by omega)
    have h2 := hG m (by omega)
    rw [List.getD_eq_getElem?_getD, List.getElem?_eq_getElem (by omega), Option.getD_some] at h2
    rw [flat_take, List.length_append, List.take_add_one, List.sum_append, List.getElem?_eq_getElem (by omega), Option.toList_some, List.sum_singleton]
    omega
theorem cost_row (h : CostK F w.kids cs) (hlo : ∀ q : Nat, (q : Int) ∈ w.kids → ind.size ≤ 2 * q) (word : ByteArray) (from' : Nat) : (rowT F T w ind word from').length ≤ word.size + (cs.drop from').sum := by
  unfold rowT
  rw [List.length_append, cat_len]
  have := cost_range (fun i => catL [⟨#[32]⟩] ++ kidT F T w ind (from' + i)) (cs.drop from') (fun i hi => by
    rw [List.length_drop] at hi
    have h1 := (cost_kid (T := T) h hlo (from' + i)).2 (by omega)
    have e1 : (catL [⟨#[32]⟩]).length = 1 := by rw [cat_len]; rfl
    have e2 : (cs.drop from').getD i 0 = cs.getD (from' + i) 0 := by simp [List.getD_eq_getElem?_getD]
    rw [List.length_append, e1, e2]
    omega) (w.kids.length - from') (by rw [List.length_drop, h.1]; omega)
  have e3 : ((cs.drop from').take (w.kids.length - from')) = cs.drop from' := List.take_of_length_le (by rw [List.length_drop, h.1]; omega)
  rw [e3] at this
  omega
theorem flat_cost (G : Int → List UInt8) : ∀ (l : List Int) (cs : List Nat), cs.length = l.length → (∀ j k, l[j]? = some k → (G k).length ≤ cs.getD j 0) → (l.flatMap G).length ≤ cs.sum
  | [], [], _, _ => by simp
  | [], _ :: _, h, _ => by simp at h
  | _ :: _, [], h, _ => by simp at h
  | k :: l, c :: cs, h, hG => by
    have h1 := flat_cost G l cs (by simpa using h) (fun j k' hj => by simpa using hG (j + 1) k' (by simpa using hj))
    have h2 := hG 0 k rfl
    simp at h2
    rw [List.flatMap_cons, List.length_append, List.sum_cons]
    omega
theorem cost_braces {l : List Int} (h : CostK F l cs) (hlo : ∀ q : Nat, (q : Int) ∈ l → ind.size + 2 ≤ 2 * q) (hi : ind.size ≤ 2000) : (bracesT F ind l).length ≤ ind.size + 10 + cs.sum := by
  unfold bracesT
  split
  · have e1 : (catL [⟨#[123, 32, 125]⟩]).length = 3 := by rw [cat_len]; rfl
    omega
  have e1 : (catL [⟨#[123, 10]⟩]).length = 2 := by rw [cat_len]; rfl
  have e2 : (⟨#[125]⟩ : ByteArray).size = 1 := rfl
  have e3 : (catL [⟨#[10]⟩]).length = 1 := by rw [cat_len]; rfl
  have e4 : (ind ++ ⟨#[32, 32]⟩ : ByteArray).size = ind.size + 2 := by rw [ByteArray.size_append]; rfl
  have := flat_cost (fun k => catL [ind ++ ⟨#[32, 32]⟩] ++ F k.toNat (ind ++ ⟨#[32, 32]⟩) ++ catL [⟨#[10]⟩]) l cs h.1 (fun j k hj => by
    obtain ⟨q, rfl, h2⟩ := h.2 j k hj
    have h3 := hlo q (List.mem_of_getElem? hj)
    have h4 := h2 (ind ++ ⟨#[32, 32]⟩) (by rw [e4]; omega)
    simp only [Int.toNat_natCast, List.length_append, cat_len, e4, e3]
    omega)
  simp only [List.length_append, e1, cat_len2, e2]
  omega
end
end Go.Proofs.YtoejddhaiogonaaDoor

namespace Go.Proofs.YtoejddhaiogonaaDoor
open Go.X

theorem lens : (∀ a b : List UInt8, (a ++ b).length = a.length + b.length) ∧ (∀ a, (catL [a]).length = a.size) ∧ (∀ a b, (catL [a, b]).length = a.size + b.size) ∧ (∀ a b c, (catL [a, b, c]).length = a.size + b.size + c.size) ∧ (∀ a b : ByteArray, (a ++ b).size = a.size + b.size) ∧ (⟨#[40]⟩ : ByteArray).size = 1 ∧ (⟨#[41]⟩ : ByteArray).size = 1 ∧ (⟨#[123, 32, 125]⟩ : ByteArray).size = 3 ∧ (⟨#[123, 10]⟩ : ByteArray).size = 2 ∧ (⟨#[32, 32]⟩ : ByteArray).size = 2 ∧ (⟨#[10]⟩ : ByteArray).size = 1 ∧ (⟨#[125]⟩ : ByteArray).size = 1 ∧ (⟨#[32]⟩ : ByteArray).size = 1 ∧ (⟨#[32, 116, 111, 32]⟩ : ByteArray).size = 4 ∧ (⟨#[32, 101, 108, 115, 101, 32]⟩ : ByteArray).size = 6 ∧ (⟨#[119, 104, 105, 108, 101, 32]⟩ : ByteArray).size = 6 ∧ (⟨#[105, 102, 32]⟩ : ByteArray).size = 3 ∧ (⟨#[97, 114, 114]⟩ : ByteArray).size = 3 ∧ (⟨#[108, 101, 110]⟩ : ByteArray).size = 3 ∧ (⟨#[102, 110]⟩ : ByteArray).size = 2 ∧ (⟨#[110, 117, 108, 108]⟩ : ByteArray).size = 4 ∧ (⟨#[105, 116]⟩ : ByteArray).size = 2 ∧ (⟨#[46]⟩ : ByteArray).size = 1 ∧ (⟨#[91]⟩ : ByteArray).size = 1 ∧ (⟨#[93]⟩ : ByteArray).size = 1 ∧ (⟨#[110, 101, 119, 32]⟩ : ByteArray).size = 4 ∧ (⟨#[99, 97, 108, 108]⟩ : ByteArray).size = 4 ∧ (⟨#[99, 97, 110, 99, 101, 108]⟩ : ByteArray).size = 6 ∧ (⟨#[106, 111, 105, 110]⟩ : ByteArray).size = 4 ∧ (⟨#[108, 111, 103]⟩ : ByteArray).size = 3 ∧ (⟨#[118, 97, 114, 32]⟩ : ByteArray).size = 4 ∧ (⟨#[32, 61, 32]⟩ : ByteArray).size = 3 ∧ (⟨#[59]⟩ : ByteArray).size = 1 ∧ (⟨#[112, 111, 115, 116, 32]⟩ : ByteArray).size = 5 ∧ (⟨#[32, 102, 114, 111, 110, 116]⟩ : ByteArray).size = 6 ∧ (⟨#[32, 97, 102, 116, 101, 114, 32]⟩ : ByteArray).size = 7 ∧ (⟨#[115, 112, 97, 119, 110, 32]⟩ : ByteArray).size = 6 ∧ (⟨#[101, 110, 97, 98, 108, 101, 32]⟩ : ByteArray).size = 7 ∧ (⟨#[100, 105, 115, 97, 98, 108, 101, 32]⟩ : ByteArray).size = 8 ∧ (⟨#[114, 101, 116, 117, 114, 110]⟩ : ByteArray).size = 6 ∧ (⟨#[99, 114, 101, 97, 116, 101]⟩ : ByteArray).size = 6 ∧ (⟨#[115, 116, 97, 114, 116]⟩ : ByteArray).size = 5 ∧ (⟨#[115, 116, 111, 112]⟩ : ByteArray).size = 4 ∧ (⟨#[100, 101, 115, 116, 114, 111, 121]⟩ : ByteArray).size = 7 ∧ (⟨#[32, 111, 102, 102]⟩ : ByteArray).size = 4 ∧ (⟨#[32, 111, 110]⟩ : ByteArray).size = 3 ∧ (⟨#[108, 111, 111, 112, 101, 114, 32]⟩ : ByteArray).size = 7 ∧ (⟨#[99, 108, 97, 115, 115, 32]⟩ : ByteArray).size = 6 ∧ (⟨#[32, 123]⟩ : ByteArray).size = 2 ∧ (⟨#[32, 125]⟩ : ByteArray).size = 2 ∧ (⟨#[102, 110, 32]⟩ : ByteArray).size = 3 ∧ (⟨#[99, 111, 109, 112, 32]⟩ : ByteArray).size = 5 ∧ (⟨#[32, 111, 110, 32]⟩ : ByteArray).size = 4 ∧ (⟨#[101, 118, 101, 110, 116, 32]⟩ : ByteArray).size = 6 ∧ (⟨#[109, 97, 105, 110]⟩ : ByteArray).size = 4 :=
  ⟨fun _ _ => List.length_append, cat_len, cat_len2, cat_len3, fun _ _ => ByteArray.size_append, rfl, rfl, rfl, rfl, rfl, rfl, rfl, rfl, rfl, rfl, rfl, rfl, rfl, rfl, rfl, rfl, rfl, rfl, rfl, rfl, rfl, rfl, rfl, rfl, rfl, rfl, rfl, rfl, rfl, rfl, rfl, rfl, rfl, rfl, rfl, rfl, rfl, rfl, rfl, rfl, rfl, rfl, rfl, rfl, rfl, rfl, rfl, rfl, rfl, rfl⟩
theorem szl (l : List UInt8) : (⟨l.toArray⟩ : ByteArray).size = l.length := by simp [ByteArray.size]
theorem termWord_le (K : Int) : (termWord K).size ≤ 10 := by
  unfold termWord; repeat' split
  all_goals decide
theorem stmtWord_le (K : Int) : (stmtWord K).size ≤ 10 := by
  unfold stmtWord; repeat' split
  all_goals decide
theorem lifeWord_le (K : Int) : (lifeWord K).size ≤ 10 := by
  unfold lifeWord; repeat' split
  all_goals decide
theorem eventWord_le (K : Int) : (eventWord K).size ≤ 10 := by
  unfold eventWord; repeat' split
  all_goals decide
theorem branchWord_le (w : Tw) : (branchWord w).size ≤ 10 := by
  unfold branchWord; repeat' split
  all_goals decide
theorem itoaB_le {n : Int} (h0 : -1 ≤ n) (h1 : n ≤ 2147483647) : (itoaB n).size ≤ 21 := by
  have := Lib.itoa_length_le n (by omega) (by omega)
  rw [itoaB, szl]; exact this

section
variable {F : Nat → ByteArray → List UInt8} {T : List Tw} {w : Tw} {ind : ByteArray} {cs : List Nat}
theorem cost_stmt (hs : w.s.size ≤ 100) (hW : WOk w) (k0 : (kidT F T w ind 0).length ≤ cs.getD 0 0) (k1 : (kidT F T w ind 1).length ≤ cs.getD 1 0) (k2 : (kidT F T w ind 2).length ≤ cs.getD 2 0) (s3 : cs.getD 0 0 + cs.getD 1 0 + cs.getD 2 0 ≤ cs.sum)
    (r0 : (rowT F T w ind (stmtWord w.K) 0).length ≤ 10 + cs.sum) : (stmtT F T w ind).length ≤ 400 + cs.sum := by
  have e4 := branchWord_le w
  have t1 : (toT F T w ind).length ≤ 10 + cs.getD 1 0 := by
    unfold toT
    split
    · simp only [lens]; omega
    rw [List.length_nil]; omega
  have t2 : (elseT F T w ind).length ≤ 10 + cs.getD 2 0 := by
    unfold elseT
    split
    · simp only [lens]; omega
    rw [List.length_nil]; omega
  have t3 : w.K = 19 → (if 0 < w.N then catL [⟨#[32, 97, 102, 116, 101, 114, 32]⟩, itoaB w.N] else []).length ≤ 40 := by
    intro e
    have hit := itoaB_le (hW.n19 e).1 (hW.n19 e).2
    split
    · simp only [lens]; omega
    rw [List.length_nil]; omega
  have t4 : (if w.N < 0 then catL [⟨#[32, 102, 114, 111, 110, 116]⟩] else []).length ≤ 40 := by
    split
    · simp only [lens]; omega
    rw [List.length_nil]; omega
  unfold stmtT
  split
  · simp only [lens]; omega
  split
  · simp only [lens]; omega
  split
  · rename_i e
    have := t3 e
    simp only [lens] at *; omega
  split
  · simp only [lens]; omega
  split
  · simp only [lens]; omega
  split
  · simp only [lens]; omega
  split
  · simp only [lens]; omega
  split
  · unfold branchT
    simp only [lens]; omega
  simp only [lens]; omega
theorem cost_term (hs : w.s.size ≤ 100) (hW : WOk w) (k0 : (kidT F T w ind 0).length ≤ cs.getD 0 0) (k1 : (kidT F T w ind 1).length ≤ cs.getD 1 0) (s3 : cs.getD 0 0 + cs.getD 1 0 + cs.getD 2 0 ≤ cs.sum)
    (r0 : (rowT F T w ind (termWord w.K) 0).length ≤ 10 + cs.sum) : (termT F T w ind).length ≤ 400 + cs.sum := by
  unfold termT
  split
  · rename_i e
    have hit := itoaB_le (show -1 ≤ w.N by have := (hW.n26 e).1; omega) (hW.n26 e).2
    rw [cat_len]; omega
  split
  · simp only [lens]; omega
  split
  · simp only [lens]; omega
  split
  · rw [cat_len]; omega
  split
  · simp only [lens]; omega
  split
  · simp only [lens]; omega
  split
  · simp only [lens]; omega
  split
  · simp only [lens]; omega
  omega
theorem cost_decl (hs : w.s.size ≤ 100) (hi : ind.size ≤ 2000) (k0 : (kidT F T w ind 0).length ≤ (cs.take 1).sum) (d1 : (cs.take 1).sum + (cs.drop 1).sum = cs.sum)
    (r0 : ∀ word : ByteArray, (rowT F T w ind word 0).length ≤ word.size + cs.sum) (r1 : ∀ word : ByteArray, (rowT F T w ind word 1).length ≤ word.size + (cs.drop 1).sum) (hb : (bracesT F ind (w.kids.drop 1)).length ≤ ind.size + 10 + (cs.drop 1).sum) : (declT F T w ind).length ≤ 2400 + cs.sum := by
  have e2 := lifeWord_le w.N
  have e3 := eventWord_le w.N
  unfold declT
  split
  · simp only [lens]; omega
  split
  · have a1 := r0 (⟨#[99, 108, 97, 115, 115, 32]⟩ ++ w.s ++ ⟨#[32, 123]⟩)
    simp only [lens] at a1
    simp only [lens]; omega
  split
  · have a1 := r0 w.s
    simp only [lens]; omega
  split
  · rw [cat_len]; omega
  split
  · have a1 := r0 (⟨#[118, 97, 114, 32]⟩ ++ w.s)
    simp only [lens] at a1
    simp only [lens]; omega
  split
  · have a1 := r0 (⟨#[102, 110, 32]⟩ ++ w.s)
    simp only [lens] at a1
    omega
  split
  · simp only [lens] at *; omega
  split
  · have a1 := r0 (lifeWord w.N)
    omega
  split
  · have a1 := r1 (eventWord w.N)
    simp only [lens] at *; omega
  split
  · have a1 := r0 ⟨#[109, 97, 105, 110]⟩
    simp only [lens] at a1
    omega
  rw [List.length_nil]; omega
theorem cost_tw (h : CostK F w.kids cs) (hlo : ∀ q : Nat, (q : Int) ∈ w.kids → ind.size + 2 ≤ 2 * q) (hi : ind.size ≤ 2000) (hs : w.s.size ≤ 100) (hW : WOk w) : (twT F T w ind).length ≤ 2400 + cs.sum := by
  have hlo' : ∀ q : Nat, (q : Int) ∈ w.kids → ind.size ≤ 2 * q := fun q hq => by have := hlo q hq; omega
  have k0 := (cost_kid (T := T) h hlo' 0).1
  have k1 := (cost_kid (T := T) h hlo' 1).1
  have k2 := (cost_kid (T := T) h hlo' 2).1
  have s3 := sum_ge3 cs
  have r0 := fun word => cost_row (T := T) h hlo' word 0
  have r1 := fun word => cost_row (T := T) h hlo' word 1
  have d1 := sum_drop cs 1
  have d2 : cs.getD 0 0 = (cs.take 1).sum := by cases cs <;> simp
  rw [List.drop_zero] at r0
  unfold twT
  split
  · have e5 : (catL [⟨#[10]⟩]).length = 1 := by rw [cat_len]; rfl
    have := flat_cost (fun k => F k.toNat ind ++ catL [⟨#[10]⟩]) w.kids cs h.1 (fun j k hj => by
      obtain ⟨q, rfl, h2⟩ := h.2 j k hj
      have h4 := h2 ind (hlo' q (List.mem_of_getElem? hj))
      simp only [Int.toNat_natCast, List.length_append, e5]
      omega)
    omega
  split
  · have := cost_braces h hlo hi
    omega
  split
  · have := cost_stmt hs hW k0 k1 k2 s3 (by have := r0 (stmtWord w.K); have := stmtWord_le w.K; omega)
    omega
  split
  · have := cost_term hs hW k0 k1 s3 (by have := r0 (termWord w.K); have := termWord_le w.K; omega)
    omega
  refine cost_decl hs hi (by rw [← d2]; exact k0) d1 r0 r1 (cost_braces ⟨by simp [h.1], fun j k hj => ?_⟩ (fun q hq => hlo q (List.mem_of_mem_drop hq)) hi)
  rw [List.getElem?_drop] at hj
  obtain ⟨q, e, h2⟩ := h.2 (1 + j) k hj
  have : (cs.drop 1).getD j 0 = cs.getD (1 + j) 0 := by simp [List.getD_eq_getElem?_getD, Nat.add_comm]
  rw [this]
  exact ⟨q, e, h2⟩
end

/-- A text costs no more than so much for each twig. -/
theorem cost_walk {T : List Tw} (hT : T.length ≤ 1000) (hW : ∀ w, w ∈ T → WOk w) (hs : ∀ t, t ∈ T → t.s.size ≤ 100) : ∀ {f at' : Nat} {nest : Int} {n : Nat}, walkS T f at' nest = some n → at' < n ∧ ∀ f2, f ≤ f2 → ∀ ind : ByteArray, ind.size ≤ 2 * at' → (textS T f2 at' ind).length + 2100 ≤ 6000 * (n - at')
  | 0, _, _, _, e => by simp [walkS] at e
  | f + 1, at', nest, n, e => by
    have hle := (walkS_lt e).1
    have hle2 := (walkS_lt e).2
    simp only [walkS] at e
    split at e
    · rename_i w hw
      split at e
      · cases e
      cases hq : kidsW (walkS T f) T w nest w.kids 0 (at' + 1) with
      | none => rw [hq] at e; cases e
      | some q =>
        rw [hq] at e
        simp only [finW] at e
        split at e
        · cases e
          refine ⟨hle, fun f2 hf2 ind hi => ?_⟩
          obtain ⟨f3, rfl⟩ : ∃ f3, f2 = f3 + 1 := ⟨f2 - 1, by omega⟩
          have hat := (List.getElem?_eq_some_iff.1 hw).1
          obtain ⟨h1, cs, h2, h3, h4⟩ := cost_kids (F := textS T f3) (fun a b c h => ⟨(cost_walk hT hW hs (f := f) h).1, fun ind hi => (cost_walk hT hW hs (f := f) h).2 f3 (by omega) ind hi⟩) hq
          have hm := List.mem_of_getElem? hw
          have := cost_tw (T := T) h2 (ind := ind) (fun q' hq' => by have := h4 _ hq'; omega) (by omega) (hs w hm) (hW w hm)
          have e5 : textS T (f3 + 1) at' ind = twT (textS T f3) T w ind := by simp only [textS, hw]
          rw [e5]
          omega
        cases e
    cases e
theorem may_text {T : List Tw} (h : mayS T = true) (hT : T.length ≤ 1000) (hs : ∀ t, t ∈ T → t.s.toList.length ≤ 100) : (textS T (T.length + 1) 0 .empty).length ≤ 1000000000 := by
  have hW := may_wok h hs
  simp only [mayS, Bool.and_eq_true, decide_eq_true_eq] at h
  obtain ⟨⟨h1, _⟩, h2⟩ := h
  cases hw : walkS T (T.length + 1) 0 0 with
  | none => rw [hw] at h2; exact absurd h2 (show ¬ (-1 : Int) = T.length by omega)
  | some n =>
    have := (cost_walk hT hW (fun t ht => by
      have := hs t ht
      have e : t.s.size = t.s.toList.length := by rw [ByteArray.toList_eq]; rfl
      omega) hw).2 (T.length + 1) (Nat.le_refl _) .empty (by decide)
    have := (walkS_lt hw).2
    omega
end Go.Proofs.YtoejddhaiogonaaDoor

namespace Go.Proofs.YtoejddhaiogonaaDoor
open Go.ChangeShapes Go.WideShapes Go.ChangeAt Go.RowKit Go.Deep Go.X

set_option maxRecDepth 100000

theorem tre_bool : Tryd.prog.underlying 4 = some .bool := by kernel_rfl
theorem tre_own : ownKnob Tryd.prog.godebug = none := by kernel_rfl
theorem tre_laid : laidOutB Tryd.prog = true := by kernel_rfl
theorem tre_int : Tryd.prog.underlying 3 = some (.int .i64) := by kernel_rfl
theorem tre_i64 : Tryd.prog.underlying 2 = some (.int .i64) := by kernel_rfl
theorem tre_kind : Tryd.prog.underlying 27 = some (.int .i64) := by kernel_rfl
theorem tre_str : Tryd.prog.underlying 9 = some .string := by kernel_rfl
theorem tre_ints : Tryd.prog.underlying 28 = some (.slice 3) := by kernel_rfl
theorem tre_twigs : Tryd.prog.underlying 22 = some (.slice 30) := by kernel_rfl
theorem tre_c24 : Tryd.prog.cellsOf 24 = 1 := by kernel_rfl
theorem tre_ct24 : Tryd.prog.cellTypes Tryd.prog.depth 24 = some [22] := by kernel_rfl
theorem tre_c22 : Tryd.prog.cellsOf 22 = 1 := by kernel_rfl
theorem tre_c30 : Tryd.prog.cellsOf 30 = 6 := by kernel_rfl
theorem tre_c27 : Tryd.prog.cellsOf 27 = 1 := by kernel_rfl
theorem tre_c9 : Tryd.prog.cellsOf 9 = 1 := by kernel_rfl
theorem tre_c2 : Tryd.prog.cellsOf 2 = 1 := by kernel_rfl
theorem tre_c3 : Tryd.prog.cellsOf 3 = 1 := by kernel_rfl
theorem tre_c28 : Tryd.prog.cellsOf 28 = 1 := by kernel_rfl
noncomputable def treeFs : Array Field := match Tryd.prog.underlying 24 with | some (.struct fs) => fs | _ => #[]
theorem tree_struct : Tryd.prog.underlying 24 = some (.struct treeFs) := by kernel_rfl
noncomputable def twigFs : Array Field := match Tryd.prog.underlying 30 with | some (.struct fs) => fs | _ => #[]
theorem twig_struct : Tryd.prog.underlying 30 = some (.struct twigFs) := by kernel_rfl
theorem tre_named : Tryd.prog.globalNamed "strings.asciiSpace" = some 1 := by kernel_rfl
theorem tre_type : (Tryd.prog.globals[1]?).map (·.type) = some 121 := by kernel_rfl
theorem tre_arr : Tryd.prog.underlying 121 = some (.array 256 5) := by kernel_rfl
theorem tre_u8 : Tryd.prog.underlying 5 = some (.int .u8) := by kernel_rfl
theorem tre_cell : Tryd.prog.cellsOf 5 = 1 := by kernel_rfl
theorem tre_cells : Tryd.prog.cellsOf 121 = 256 := by kernel_rfl

/-- strings.asciiSpace, as numbers -/
def spaceI : List Int := (List.range 256).map fun i => cond (Nat.beq i 32 || (Nat.ble 9 i && Nat.ble i 13)) 1 0
theorem spaceI_eq : spaceI.map (Value.int .u8) = spaces := by unfold spaceI spaces; rw [List.map_map]; apply List.map_congr_left; intro i _; simp only [Function.comp]
theorem blank_of {L : List (String × DataW Unit)} (hb : ((L.filter fun x => x.2.handleName?.isNone).filter fun x => x.1 == "strings.asciiSpace") = [("strings.asciiSpace", Lib.tabData .u8 spaceI)]) {W : World} (h : laidMetH Tryd.prog L W) : tabThere 1 spaces (Hp.all W) = true := by
  have h1 := (laidMetH_iff.1 h).1.filter fun x => x.1 == "strings.asciiSpace"
  rw [hb] at h1
  have hT : Lib.TabIs Tryd.prog W "strings.asciiSpace" .u8 spaceI := Lib.tabIs_of_head tre_named tre_type tre_arr tre_u8 tre_cell tre_cells (rest := []) h1
  obtain ⟨e, fr, hg⟩ := tab_block tre_named hT
  have hget : (Hp.all W).get 1 = some (.cells spaces e 1) := by
    rw [Hp.all_get, allObj, hg]
    simp only [Option.some.injEq, AObj.cells.injEq, and_true]
    rw [← spaceI_eq, List.map_map]
    refine List.map_congr_left fun n _ => ?_
    exact selfX_eq (.int _ _)
  have hs : tabThere 1 spaces (Hp.empty.put 1 (.cells spaces 0 1)) = true := by kernel_rfl
  unfold tabThere at *
  rw [hget]
  rw [Hp.get_put, if_pos rfl] at hs
  exact hs
theorem blk_of {L : List (String × DataW Unit)} (hb : ((L.filter fun x => x.2.handleName?.isNone).filter fun x => x.1 == "strings.asciiSpace") = [("strings.asciiSpace", Lib.tabData .u8 spaceI)]) {W : World} (h : laidMetH Tryd.prog L W) : Blk (Hp.all W) :=
  ⟨blank_of hb h, by have := topB_256 W; show 1 < topB W; omega⟩

end Go.Proofs.YtoejddhaiogonaaDoor

namespace Go.Proofs.YtoejddhaiogonaaDoor
open Go.ChangeShapes Go.WideShapes Go.ChangeAt Go.RowKit Go.Deep Go.X

set_option maxRecDepth 100000

theorem trp_named : Tryd.prog.globalNamed "internal/strconv.uint64pow10" = some 0 := by kernel_rfl
theorem trp_type : (Tryd.prog.globals[0]?).map (·.type) = some 115 := by kernel_rfl
theorem trp_arr : Tryd.prog.underlying 115 = some (.array 20 107) := by kernel_rfl
theorem trp_u64 : Tryd.prog.underlying 107 = some (.int .u64) := by kernel_rfl
theorem trp_cell : Tryd.prog.cellsOf 107 = 1 := by kernel_rfl
theorem trp_cells : Tryd.prog.cellsOf 115 = 20 := by kernel_rfl
theorem pow_of {L : List (String × DataW Unit)} (hb : ((L.filter fun x => x.2.handleName?.isNone).filter fun x => x.1 == "internal/strconv.uint64pow10") = [("internal/strconv.uint64pow10", Lib.tabData .u64 Lib.pow10Tab)]) {W : World} (h : laidMetH Tryd.prog L W) : Pow (Hp.all W) := by
  refine ⟨?_, by have := topB_256 W; show 0 < topB W; omega⟩
  have h1 := (laidMetH_iff.1 h).1.filter fun x => x.1 == "internal/strconv.uint64pow10"
  rw [hb] at h1
  have hT : Lib.TabIs Tryd.prog W "internal/strconv.uint64pow10" .u64 Lib.pow10Tab := Lib.tabIs_of_head trp_named trp_type trp_arr trp_u64 trp_cell trp_cells (rest := []) h1
  obtain ⟨e, fr, hg⟩ := tab_block trp_named hT
  have hget : (Hp.all W).get 0 = some (.cells (Lib.pow10Tab.map (Value.int .u64)) e 1) := by
    rw [Hp.all_get, allObj, hg]
    simp only [Option.some.injEq, AObj.cells.injEq, and_true]
    rw [List.map_map]
    refine List.map_congr_left fun n _ => ?_
    exact selfX_eq (.int _ _)
  have hs : tabThere 0 (Lib.pow10Tab.map (Value.int .u64)) (Hp.empty.put 0 (.cells (Lib.pow10Tab.map (Value.int .u64)) 0 1)) = true := by kernel_rfl
  unfold tabThere at *
  rw [hget]
  rw [Hp.get_put, if_pos rfl] at hs
  exact hs
end Go.Proofs.YtoejddhaiogonaaDoor

namespace Go.Proofs.YtoejddhaiogonaaDoor
open Go.ChangeShapes Go.WideShapes Go.ChangeAt Go.RowKit Go.Deep Go.X

set_option maxRecDepth 100000

/-- A row of whole numbers. -/
theorem ints_rdG {h : Hp} {cs : List Value} (x : Rd Tryd.prog h 28 cs) : ∃ v kids, cs = [v] ∧ RowG h v (isV kids) ∧ kids.length ≤ 9223372036854775807 := by
  obtain ⟨a, n, c, rfl, hn, hc, hnil, _, hrow⟩ := x.inv_slice tre_ints (by rw [tre_c3]; omega)
  have hm : n ≤ 9223372036854775807 := by have : maxLen = 9223372036854775807 := by decide
                                          omega
  rcases hrow with rfl | ⟨b, o, xs, u, rfl, hb, hg, hl, hr⟩
  · refine ⟨_, [], rfl, .inl ⟨rfl, ?_⟩, by simp⟩
    cases a with
    | none => rw [(hnil rfl).2]; exact .inl rfl
    | some a => exact .inr ⟨a, c, rfl⟩
  rw [tre_c3] at hl hr
  obtain ⟨kids, hkl, hk⟩ := rows_of (Q := fun i (k : Int) => (xs.drop (o + i * 1)).take 1 = [.int .i64 k]) fun i hi => by
    obtain ⟨k, e, _⟩ := (hr i hi).inv_int tre_int; exact ⟨k, e⟩
  refine ⟨_, kids, rfl, .inr ⟨b, o, c, xs, u, 1, by rw [List.length_map, hkl], by rw [List.length_map, hkl]; exact hn, hg, hb, .inr (.inl rfl), fun i hi => ?_⟩, by omega⟩
  have hi' : i < kids.length := by simpa using hi
  have := one_at (hk i hi')
  rw [Nat.mul_one] at this
  rw [this, List.getElem_map]
/-- A twig. -/
theorem twig_rdG {h : Hp} {cs : List Value} (x : Rd Tryd.prog h 30 cs) : ∃ w : Tw, cs = w.cells ∧ RowG h w.ks (isV w.kids) ∧ w.kids.length ≤ 9223372036854775807 := by
  have hl := (x.inv_struct twig_struct).1
  rw [tre_c30] at hl
  obtain ⟨K, e0, _⟩ := x.fld_int twig_struct 0 0 27 rfl ⟨rfl, rfl⟩ tre_kind tre_c27
  obtain ⟨s, e1, _⟩ := x.fld_string twig_struct 1 1 9 rfl ⟨rfl, rfl⟩ tre_str tre_c9
  obtain ⟨N, e2, _⟩ := x.fld_int twig_struct 2 2 2 rfl ⟨rfl, rfl⟩ tre_i64 tre_c2
  obtain ⟨L, e3, _⟩ := x.fld_int twig_struct 3 3 3 rfl ⟨rfl, rfl⟩ tre_int tre_c3
  obtain ⟨Co, e4, _⟩ := x.fld_int twig_struct 4 4 3 rfl ⟨rfl, rfl⟩ tre_int tre_c3
  have h5 := x.fld twig_struct 5 5 28 rfl ⟨rfl, rfl⟩
  rw [tre_c28] at h5
  obtain ⟨v, kids, e5, hk, hkl⟩ := ints_rdG h5
  match cs, hl with
  | [c0, c1, c2, c3, c4, c5], _ =>
    simp only [List.getElem?_cons_zero, List.getElem?_cons_succ, Option.some.injEq] at e0 e1 e2 e3 e4
    simp only [List.drop_succ_cons, List.drop_zero, List.take_succ_cons, List.take_zero, List.cons.injEq, and_true] at e5
    subst e0; subst e1; subst e2; subst e3; subst e4; subst e5
    exact ⟨⟨K, s, N, L, Co, c5, kids⟩, rfl, hk, hkl⟩
/-- A tree's twigs. -/
theorem twigs_rdG {h : Hp} {v : Value} (x : Rd Tryd.prog h 22 [v]) : ∃ T, TreeAt h v T ∧ ∀ t, t ∈ T → t.kids.length ≤ 9223372036854775807 ∧ RowG h t.ks (isV t.kids) := by
  obtain ⟨a, n, c, e, _, _, _, _, hrow⟩ := x.inv_slice tre_twigs (by rw [tre_c30]; omega)
  simp only [List.cons.injEq, and_true] at e
  subst e
  rcases hrow with rfl | ⟨b, o, xs, u, rfl, hb, hg, hl, hr⟩
  · exact ⟨[], ⟨.inl ⟨rfl, a, c, rfl⟩, by simp⟩, by simp⟩
  rw [tre_c30] at hl hr
  obtain ⟨T, hTl, hT⟩ := rows_of (Q := fun i (w : Tw) => (xs.drop (o + i * 6)).take 6 = w.cells ∧ RowG h w.ks (isV w.kids) ∧ w.kids.length ≤ 9223372036854775807) fun i hi => twig_rdG (hr i hi)
  refine ⟨T, ⟨.inr ⟨b, o, c, xs, u, 1, by rw [hTl], hg, hb, by rw [hTl]; exact hl, fun i hi => (hT i hi).1⟩, fun t ht => ?_⟩, fun t ht => ?_⟩
  · obtain ⟨i, hi, rfl⟩ := List.mem_iff_getElem.1 ht
    exact (hT i hi).2.1.row
  obtain ⟨i, hi, rfl⟩ := List.mem_iff_getElem.1 ht
  exact ⟨(hT i hi).2.2, (hT i hi).2.1⟩
/-- A tree that is an argument. -/
theorem tree_argG {H : Type} {enc : TypeId × Value → H} {W : World} {r : Reach} {base : Nat} {v : Value} {d : DataW H} {ps : List MemPlace} (hok : Value.okWide Tryd.prog W r base 24 v) (ht : DataW.Trod enc Tryd.prog W 0 (fun _ => true) true 24 v d ps) :
    ∃ sv T, v = .agg #[sv] ∧ VRel (Mp.all W) sv sv ∧ TreeAt (Hp.all W) sv T ∧ ∀ t, t ∈ T → t.kids.length ≤ 9223372036854775807 ∧ RowG (Hp.all W) t.ks (isV t.kids) := by
  simp only [Value.okWide, tree_struct] at hok
  obtain ⟨cs, rfl, hsz, ts, hts, _, hc⟩ := hok
  rw [tre_ct24, Option.some.injEq] at hts
  subst hts
  rw [tre_c24] at hsz
  obtain ⟨cs⟩ := cs
  match cs, hsz with
  | [f], _ =>
    obtain ⟨_, e0, h0⟩ := hc 0 f rfl
    simp at e0
    subst e0
    have h6 : Value.okWide Tryd.prog W r base 22 f := by simp only [Value.okWide, tre_twigs]; exact h0
    obtain ⟨fuel, hf⟩ := ht
    have hcl : (Value.agg #[f]).cells.toList = [f] := rfl
    rw [hcl] at hf
    have hv : VRel (Mp.all W) f f ∧ refB f ≤ topB W := by
      rcases okSlice tre_twigs h6 with rfl | ⟨a, len, cap, rfl, hb⟩
      · exact ⟨.nils 0 0, by simp [refB]⟩
      refine ⟨all_slice (w := W) a len cap hb, ?_⟩
      have := topB_size W
      simp only [refB]; omega
    have hr := rd_of_trod fuel 24 _ _ (fun v hv' => by
      simp only [List.mem_singleton] at hv'
      subst hv'; exact hv.2) hf
    rw [selfX_of hv.1] at hr
    have h7 := hr.fld tree_struct 0 0 22 rfl ⟨rfl, rfl⟩
    rw [tre_c22] at h7
    obtain ⟨T, hT, hk⟩ := twigs_rdG (v := f) h7
    exact ⟨f, T, rfl, hv.1, hT, hk⟩

end Go.Proofs.YtoejddhaiogonaaDoor

namespace Go.Ap
open Go.Lib

abbrev B := List UInt8
/-- A letter, a digit, or '_'. -/
def isW (b : UInt8) : Bool := (decide (48 ≤ b.toNat) && decide (b.toNat ≤ 57)) || (decide (97 ≤ b.toNat) && decide (b.toNat ≤ 122)) || (decide (65 ≤ b.toNat) && decide (b.toNat ≤ 90)) || decide (b.toNat = 95)
def isG (b : UInt8) : Bool := decide (48 ≤ b.toNat) && decide (b.toNat ≤ 57)
abbrev AllW (s : B) : Prop := ∀ b, b ∈ s → isW b = true
/-- No word goes on. -/
def Nw (r : B) : Prop := ∀ b l, r = b :: l → isW b = false
theorem nw_cons {b : UInt8} {l : B} (h : isW b = false) : Nw (b :: l) := fun c m e => by cases e; exact h
/-- A word, then no word. -/
theorem word_cut : ∀ {s s' r r' : B}, AllW s → AllW s' → Nw r → Nw r' → s ++ r = s' ++ r' → s = s' ∧ r = r'
  | [], [], _, _, _, _, _, _, e => ⟨rfl, e⟩
  | [], b :: s', r, r', _, hs', hr, _, e => by
    have := hr b (s' ++ r') e
    rw [hs' b (by simp)] at this; cases this
  | b :: s, [], r, r', hs, _, _, hr', e => by
    have := hr' b (s ++ r) e.symm
    rw [hs b (by simp)] at this; cases this
  | b :: s, b' :: s', r, r', hs, hs', hr, hr', e => by
    injection e with e1 e2
    obtain ⟨h1, h2⟩ := word_cut (fun c hc => hs c (by simp [hc])) (fun c hc => hs' c (by simp [hc])) hr hr' e2
    exact ⟨by rw [e1, h1], h2⟩
/-- The words of the language. -/
def kws : List B := [[110, 117, 108, 108], [105, 116], [110, 101, 119], [102, 110], [97, 114, 114], [108, 101, 110], [118, 97, 114], [99, 97, 108, 108], [99, 97, 110, 99, 101, 108], [106, 111, 105, 110], [108, 111, 103], [112, 111, 115, 116], [115, 112, 97, 119, 110], [101, 110, 97, 98, 108, 101], [100, 105, 115, 97, 98, 108, 101], [114, 101, 116, 117, 114, 110], [105, 102], [119, 104, 105, 108, 101]]
/-- A name. -/
structure Nm (s : B) : Prop where
  all : AllW s
  ne : s ≠ []
  dg : ∀ b l, s = b :: l → isG b = false
  kw : s ∉ kws
/-! Numbers -/
theorem ofNat_toNat {k : Nat} (h : k < 256) : (UInt8.ofNat k).toNat = k := by
  rw [UInt8.toNat_ofNat']; omega
theorem dig_all : ∀ (n u : Nat), u ≤ n → ∀ c, c ∈ decDigits u → isG c = true := by
  intro n
  induction n with
  | zero =>
    intro u hu c hc
    rw [decDigits, dif_pos (by omega), List.mem_singleton] at hc
    subst hc
    simp only [isG, ofNat_toNat (show 48 + u < 256 by omega), Bool.and_eq_true, decide_eq_true_eq]; omega
  | succ n ih =>
    intro u hu c hc
    rw [decDigits] at hc
    split at hc
    · rw [List.mem_singleton] at hc
      subst hc
      simp only [isG, ofNat_toNat (show 48 + u < 256 by omega), Bool.and_eq_true, decide_eq_true_eq]; omega
    rcases List.mem_append.1 hc with hc | hc
    · exact ih (u / 10) (by omega) c hc
    rw [List.mem_singleton] at hc
    subst hc
    simp only [isG, ofNat_toNat (show 48 + u % 10 < 256 by omega), Bool.and_eq_true, decide_eq_true_eq]; omega
theorem dig_ne (u : Nat) : decDigits u ≠ [] := by
  rw [decDigits]; split <;> simp
def valD (l : B) : Nat := l.foldl (fun a b => a * 10 + (b.toNat - 48)) 0
theorem val_dig : ∀ (n u : Nat), u ≤ n → valD (decDigits u) = u := by
  intro n
  induction n with
  | zero =>
    intro u hu
    rw [decDigits, dif_pos (by omega)]
    simp only [valD, List.foldl_cons, List.foldl_nil, ofNat_toNat (show 48 + u < 256 by omega)]; omega
  | succ n ih =>
    intro u hu
    rw [decDigits]
    split
    · simp only [valD, List.foldl_cons, List.foldl_nil, ofNat_toNat (show 48 + u < 256 by omega)]; omega
    have := ih (u / 10) (by omega)
    simp only [valD] at this
    simp only [valD, List.foldl_append, this, List.foldl_cons, List.foldl_nil, ofNat_toNat (show 48 + u % 10 < 256 by omega)]; omega
/-- A number's digits. -/
abbrev nt (N : Int) : B := itoa N
theorem isG_W {b : UInt8} (h : isG b = true) : isW b = true := by
  simp only [isG, isW] at *; rw [h]; simp
theorem nt_G {N : Int} (h : 0 ≤ N) : ∀ b, b ∈ nt N → isG b = true := by
  rw [nt, itoa, if_neg (by omega)]
  exact dig_all _ _ (Nat.le_refl _)
theorem nt_W {N : Int} (h : 0 ≤ N) : AllW (nt N) := fun b hb => isG_W (nt_G h b hb)
theorem nt_ne {N : Int} (h : 0 ≤ N) : nt N ≠ [] := by
  rw [nt, itoa, if_neg (by omega)]
  exact dig_ne _
theorem nt_inj {N M : Int} (h : 0 ≤ N) (h2 : 0 ≤ M) (e : nt N = nt M) : N = M := by
  rw [nt, nt, itoa, itoa, if_neg (by omega), if_neg (by omega)] at e
  have := congrArg valD e
  rw [val_dig _ _ (Nat.le_refl _), val_dig _ _ (Nat.le_refl _)] at this
  omega
/-! Operations -/
def opL : List B := [[43], [45], [42], [60], [61, 61]]
/-- How tightly an operation binds. -/
def bo (s : B) : Int := if s = [60] ∨ s = [61, 61] then 1 else if s = [43] ∨ s = [45] then 2 else 3
theorem bo_is (s : B) : bo s = 1 ∨ bo s = 2 ∨ bo s = 3 := by
  unfold bo; split
  · exact .inl rfl
  split
  · exact .inr (.inl rfl)
  exact .inr (.inr rfl)
/-- An operation, blanks around. -/
abbrev sp (s : B) : B := 32 :: (s ++ [32])
theorem op_cut {s s' r r' : B} (h : s ∈ opL) (h' : s' ∈ opL) (e : sp s ++ r = sp s' ++ r') : s = s' ∧ r = r' := by
  simp only [opL, List.mem_cons, List.not_mem_nil, or_false] at h h'
  rcases h with rfl | rfl | rfl | rfl | rfl <;> rcases h' with rfl | rfl | rfl | rfl | rfl <;> simp_all
/-- What may stand behind a term that binds with m at least. -/
structure St (m : Int) (r : B) : Prop where
  nw : Nw r
  dot : ∀ l, r ≠ 46 :: l
  ix : ∀ l, r ≠ 91 :: l
  op : ∀ s l, s ∈ opL → m ≤ bo s → r ≠ sp s ++ l
theorem St.mono {m m' : Int} {r : B} (h : St m r) (hm : m ≤ m') : St m' r := ⟨h.nw, h.dot, h.ix, fun s l hs h1 => h.op s l hs (by omega)⟩
theorem st_ch {m : Int} {b : UInt8} {l : B} (h : isW b = false) (h1 : b ≠ 46) (h2 : b ≠ 91) (h3 : b ≠ 32) : St m (b :: l) := ⟨nw_cons h, fun _ e => by injection e with e _; exact h1 e, fun _ e => by injection e with e _; exact h2 e, fun _ _ _ _ e => by injection e with e _; exact h3 e⟩
theorem st_sp {m : Int} {c d : UInt8} {l : B} (h1 : c ≠ 43) (h2 : c ≠ 45) (h3 : c ≠ 42) (h4 : c ≠ 60) (h5 : c ≠ 61 ∨ d ≠ 61) : St m (32 :: c :: d :: l) := ⟨nw_cons (by decide), fun _ e => by injection e with e _; exact absurd e (by decide), fun _ e => by injection e with e _; exact absurd e (by decide), fun s r hs _ e => by
  simp only [opL, List.mem_cons, List.not_mem_nil, or_false] at hs
  rcases hs with rfl | rfl | rfl | rfl | rfl <;> simp_all⟩
theorem st_op {m : Int} {s l : B} (hs : s ∈ opL) (h : bo s < m) : St m (sp s ++ l) := ⟨nw_cons (by decide), fun _ e => by injection e with e _; exact absurd e (by decide), fun _ e => by injection e with e _; exact absurd e (by decide), fun s' r hs' h' e => by
  have := (op_cut hs hs' e).1
  subst this; omega⟩
end Go.Ap

namespace Go.Ap

inductive G where
  | mk (K : Int) (s : B) (N : Int) (ks : List G)
def G.K : G → Int
  | .mk K _ _ _ => K
def G.s : G → B
  | .mk _ s _ _ => s
def G.ks : G → List G
  | .mk _ _ _ ks => ks
abbrev isT (K : Int) : Prop := 26 ≤ K ∧ K ≤ 36
abbrev isS (K : Int) : Prop := 13 ≤ K ∧ K ≤ 25
abbrev isV (K : Int) : Prop := 29 ≤ K ∧ K ≤ 31
abbrev isD (K : Int) : Prop := K = 2 ∨ K = 3 ∨ K = 6 ∨ K = 7 ∨ K = 8 ∨ K = 10 ∨ K = 11
/-- How tightly a term binds. -/
def bg (g : G) : Int := if g.K = 32 then bo g.s else if g.K = 34 ∨ g.K = 35 then 4 else 5
theorem bg_is (g : G) : bg g = 1 ∨ bg g = 2 ∨ bg g = 3 ∨ bg g = 4 ∨ bg g = 5 := by
  unfold bg
  split
  · rcases bo_is g.s with h | h | h <;> omega
  split <;> omega
abbrev Big (N : Int) : Prop := 0 ≤ N ∧ N ≤ 2147483647
/-- What a twig has. -/
inductive Fm : Int → B → Int → List G → Prop
  | prog {ks} (h : ∀ k, k ∈ ks → isD k.K) : Fm 1 [] 0 ks
  | looper {s} (h : Nm s) : Fm 2 s 0 []
  | cls {s ks} (h : Nm s) (hk : ∀ k, k ∈ ks → k.K = 4) : Fm 3 s 0 ks
  | mem {s t} (h : Nm s) (ht : t.K = 5) : Fm 4 s 0 [t]
  | typ {s} (h : AllW s) (h1 : s ≠ []) : Fm 5 s 0 []
  | glob {s t} (h : Nm s) (ht : t.K = 5) : Fm 6 s 0 [t]
  | func {s b} (h : Nm s) (hb : b.K = 12) : Fm 7 s 0 [b]
  | comp {s u ks} (h : Nm s) (hu : u.K = 29) (hk : ∀ k, k ∈ ks → k.K = 9) : Fm 8 s 0 (u :: ks)
  | life {N b} (h : 0 ≤ N ∧ N ≤ 3) (hb : b.K = 12) : Fm 9 [] N [b]
  | event {s N u b} (h : Nm s) (hN : N = 0 ∨ N = 1) (hu : u.K = 29) (hb : b.K = 12) : Fm 10 s N [u, b]
  | main {b} (hb : b.K = 12) : Fm 11 [] 0 [b]
  | block {ks} (h : ∀ k, k ∈ ks → isS k.K) : Fm 12 [] 0 ks
  | var {s t x} (h : Nm s) (ht : t.K = 5) (hx : isT x.K) : Fm 13 s 0 [t, x]
  | set {v x} (hv : isV v.K) (hx : isT x.K) : Fm 14 [] 0 [v, x]
  | word {K x} (hK : 15 ≤ K ∧ K ≤ 18) (hx : isT x.K) : Fm K [] 0 [x]
  | post {s N x} (h : Nm s) (hN : -1 ≤ N ∧ N ≤ 2147483647) (hx : isT x.K) : Fm 19 s N [x]
  | posto {s N x v} (h : Nm s) (hN : -1 ≤ N ∧ N ≤ 2147483647) (hx : isT x.K) (hv : isV v.K) : Fm 19 s N [x, v]
  | spawn {x} (hx : isT x.K) : Fm 20 [] 0 [x]
  | spawno {x v} (hx : isT x.K) (hv : isV v.K) : Fm 20 [] 0 [x, v]
  | able {K s} (hK : K = 21 ∨ K = 22) (h : Nm s) : Fm K s 0 []
  | iff {c a b} (hc : isT c.K) (ha : a.K = 12) (hb : b.K = 12) : Fm 23 [] 0 [c, a, b]
  | whil {c a} (hc : isT c.K) (ha : a.K = 12) : Fm 24 [] 0 [c, a]
  | ret : Fm 25 [] 0 []
  | num {N} (h : Big N) : Fm 26 [] N []
  | null : Fm 27 [] 0 []
  | it : Fm 28 [] 0 []
  | use {s} (h : Nm s) : Fm 29 s 0 []
  | dot {s x} (h : Nm s) (hx : isT x.K) : Fm 30 s 0 [x]
  | ix {x y} (hx : isT x.K) (hy : isT y.K) : Fm 31 [] 0 [x, y]
  | op {s x y} (h : s ∈ opL) (hx : isT x.K) (hy : isT y.K) : Fm 32 s 0 [x, y]
  | new {s} (h : Nm s) : Fm 33 s 0 []
  | arr {K x} (hK : K = 34 ∨ K = 35) (hx : isT x.K) : Fm K [] 0 [x]
  | fn {b} (hb : b.K = 12) : Fm 36 [] 0 [b]
/-- A tree that may be. -/
def ok : Nat → G → Prop
  | 0, _ => False
  | f + 1, .mk K s N ks => Fm K s N ks ∧ ∀ k, k ∈ ks → ok f k
theorem ok_up : ∀ {f : Nat} {g : G}, ok f g → ok (f + 1) g
  | f + 1, .mk _ _ _ _, h => ⟨h.1, fun k hk => ok_up (h.2 k hk)⟩
theorem ok_le {f f' : Nat} {g : G} (h : ok f g) (hf : f ≤ f') : ok f' g := by
  induction hf with
  | refl => exact h
  | step _ ih => exact ok_up ih
abbrev Pr := G → B → B
/-- A kid's text, in parentheses where it binds too little. -/
def kt (rec : Pr) (m : Int) (g : G) (ind : B) : B := if bg g < m then 40 :: (rec g ind ++ [41]) else rec g ind
def at0 (p : G → B) : List G → B
  | a :: _ => p a
  | [] => []
def at1 (p : G → B) : List G → B
  | _ :: a :: _ => p a
  | _ => []
def at2 (p : G → B) : List G → B
  | _ :: _ :: a :: _ => p a
  | _ => []
def lns (rec : Pr) (ind : B) (l : List G) : B := l.flatMap fun k => ind ++ 32 :: 32 :: (rec k (ind ++ [32, 32]) ++ [10])
def braces (rec : Pr) (ind : B) (l : List G) : B := if l.isEmpty then [123, 32, 125] else 123 :: 10 :: (lns rec ind l ++ (ind ++ [125]))
/-- The word of a life. -/
def lw (N : Int) : B := if N = 0 then [99, 114, 101, 97, 116, 101] else if N = 1 then [115, 116, 97, 114, 116] else if N = 2 then [115, 116, 111, 112] else [100, 101, 115, 116, 114, 111, 121]
def ew (N : Int) : B := if N = 0 then [32, 111, 102, 102] else [32, 111, 110]
def kw (K : Int) : B := if K = 15 then [99, 97, 108, 108] else if K = 16 then [99, 97, 110, 99, 101, 108] else if K = 17 then [106, 111, 105, 110] else if K = 18 then [108, 111, 103] else if K = 21 then [101, 110, 97, 98, 108, 101] else if K = 22 then [100, 105, 115, 97, 98, 108, 101] else if K = 34 then [97, 114, 114] else [108, 101, 110]
def mL (s : B) : Int := if bo s = 1 then 2 else bo s
def mR (s : B) : Int := if bo s = 1 then 2 else bo s + 1
def fr (N : Int) : B := if N < 0 then [32, 102, 114, 111, 110, 116] else if 0 < N then 32 :: 97 :: 102 :: 116 :: 101 :: 114 :: 32 :: nt N else []
def to (o : Bool) (t : B) : B := if o = true then 32 :: 116 :: 111 :: 32 :: t else []
def els (rec : Pr) (ind : B) (ks : List G) : B := at2 (fun b => if b.ks.isEmpty then [] else 32 :: 101 :: 108 :: 115 :: 101 :: 32 :: rec b ind) ks
/-- A twig's text, of its parts. -/
def bdT (K : Int) (s : B) (N : Int) (t0 t1 e2 p0 l0 r1 q0 lines mems br br1 : B) (o : Bool) : B :=
  if K = 1 then lines else
  if K = 2 then [108, 111, 111, 112, 101, 114, 32] ++ (s ++ [59]) else
  if K = 3 then [99, 108, 97, 115, 115, 32] ++ (s ++ 32 :: 123 :: (mems ++ [32, 125])) else
  if K = 4 then s ++ 32 :: (t0 ++ [59]) else
  if K = 5 then s else
  if K = 6 then [118, 97, 114, 32] ++ (s ++ 32 :: (t0 ++ [59])) else
  if K = 7 then [102, 110, 32] ++ (s ++ 32 :: t0) else
  if K = 8 then [99, 111, 109, 112, 32] ++ (s ++ 32 :: 111 :: 110 :: 32 :: (t0 ++ 32 :: br1)) else
  if K = 9 then lw N ++ 32 :: t0 else
  if K = 10 then [101, 118, 101, 110, 116, 32] ++ (s ++ 32 :: 111 :: 110 :: 32 :: (t0 ++ (ew N ++ 32 :: t1))) else
  if K = 11 then [109, 97, 105, 110] ++ 32 :: t0 else
  if K = 12 then br else
  if K = 13 then [118, 97, 114, 32] ++ (s ++ 32 :: (t0 ++ 32 :: 61 :: 32 :: (t1 ++ [59]))) else
  if K = 14 then t0 ++ 32 :: 61 :: 32 :: (t1 ++ [59]) else
  if 15 ≤ K ∧ K ≤ 18 then kw K ++ 32 :: (t0 ++ [59]) else
  if K = 19 then [112, 111, 115, 116, 32] ++ (s ++ 32 :: (t0 ++ (fr N ++ (to o t1 ++ [59])))) else
  if K = 20 then [115, 112, 97, 119, 110, 32] ++ (t0 ++ (to o t1 ++ [59])) else
  if K = 21 ∨ K = 22 then kw K ++ 32 :: (s ++ [59]) else
  if K = 23 then [105, 102, 32] ++ (t0 ++ 32 :: (t1 ++ e2)) else
  if K = 24 then [119, 104, 105, 108, 101, 32] ++ (t0 ++ 32 :: t1) else
  if K = 25 then [114, 101, 116, 117, 114, 110, 59] else
  if K = 26 then nt N else
  if K = 27 then [110, 117, 108, 108] else
  if K = 28 then [105, 116] else
  if K = 29 then s else
  if K = 30 then p0 ++ 46 :: s else
  if K = 31 then p0 ++ 91 :: (t1 ++ [93]) else
  if K = 32 then l0 ++ (sp s ++ r1) else
  if K = 33 then [110, 101, 119, 32] ++ s else
  if K = 34 ∨ K = 35 then kw K ++ 32 :: q0 else
  if K = 36 then [102, 110, 32] ++ t0 else []
def bd (rec : Pr) (K : Int) (s : B) (N : Int) (ks : List G) (ind : B) : B :=
  bdT K s N (at0 (rec · ind) ks) (at1 (rec · ind) ks) (els rec ind ks) (at0 (kt rec 5 · ind) ks) (at0 (kt rec (mL s) · ind) ks) (at1 (kt rec (mR s) · ind) ks) (at0 (kt rec 4 · ind) ks)
    (ks.flatMap fun k => rec k ind ++ [10]) (ks.flatMap fun k => 32 :: rec k ind) (braces rec ind ks) (braces rec ind ks.tail) (decide (1 < ks.length))
/-- A tree's text. -/
def pr : Nat → Pr
  | 0, _, _ => []
  | f + 1, .mk K s N ks, ind => bd (pr f) K s N ks ind
theorem kt_eq {rec rec' : Pr} {m : Int} {g : G} {ind : B} (h : rec g ind = rec' g ind) : kt rec m g ind = kt rec' m g ind := by rw [kt, kt, h]
theorem at0_eq {p q : G → B} {ks : List G} (h : ∀ k, k ∈ ks → p k = q k) : at0 p ks = at0 q ks := by
  cases ks with
  | nil => rfl
  | cons a l => exact h a (by simp)
theorem at1_eq {p q : G → B} {ks : List G} (h : ∀ k, k ∈ ks → p k = q k) : at1 p ks = at1 q ks := by
  match ks, h with
  | [], _ => rfl
  | [_], _ => rfl
  | _ :: a :: _, h => exact h a (by simp)
theorem at2_eq {p q : G → B} {ks : List G} (h : ∀ k, k ∈ ks → p k = q k) : at2 p ks = at2 q ks := by
  match ks, h with
  | [], _ => rfl
  | [_], _ => rfl
  | [_, _], _ => rfl
  | _ :: _ :: a :: _, h => exact h a (by simp)
theorem flat_eq {p q : G → B} : ∀ {ks : List G}, (∀ k, k ∈ ks → p k = q k) → ks.flatMap p = ks.flatMap q
  | [], _ => rfl
  | a :: l, h => by rw [List.flatMap_cons, List.flatMap_cons, h a (by simp), flat_eq fun k hk => h k (by simp [hk])]
theorem braces_eq {rec rec' : Pr} {ind : B} {ks : List G} (h : ∀ k, k ∈ ks → ∀ i, rec k i = rec' k i) : braces rec ind ks = braces rec' ind ks := by
  rw [braces, braces, lns, lns, flat_eq fun k hk => by rw [h k hk]]
theorem bd_eq {rec rec' : Pr} {K : Int} {s : B} {N : Int} {ks : List G} {ind : B} (h : ∀ k, k ∈ ks → ∀ i, rec k i = rec' k i) : bd rec K s N ks ind = bd rec' K s N ks ind := by
  rw [bd, bd, at0_eq fun k hk => h k hk ind, at1_eq (p := (rec · ind)) fun k hk => h k hk ind, els, at2_eq fun k hk => by rw [h k hk], at0_eq (p := (kt rec 5 · ind)) fun k hk => kt_eq (h k hk ind), at0_eq (p := (kt rec (mL s) · ind)) fun k hk => kt_eq (h k hk ind), at1_eq (p := (kt rec (mR s) · ind)) fun k hk => kt_eq (h k hk ind),
    at0_eq (p := (kt rec 4 · ind)) fun k hk => kt_eq (h k hk ind), flat_eq (p := fun k => rec k ind ++ [10]) fun k hk => by rw [h k hk], flat_eq (p := fun k => 32 :: rec k ind) fun k hk => by rw [h k hk], braces_eq h, braces_eq (ks := ks.tail) fun k hk => h k (List.mem_of_mem_tail hk)]
  rfl
theorem pr_up : ∀ {f : Nat} {g : G}, ok f g → ∀ ind, pr (f + 1) g ind = pr f g ind
  | f + 1, .mk K s N ks, h, ind => bd_eq fun k hk i => pr_up (h.2 k hk) i
theorem pr_le {f f' : Nat} {g : G} (h : ok f g) (hf : f ≤ f') (ind : B) : pr f' g ind = pr f g ind := by
  induction hf with
  | refl => rfl
  | step h1 ih => rw [pr_up (ok_le h h1), ih]
end Go.Ap

namespace Go.Ap

/-- What a term may be. -/
inductive Tc (f : Nat) : G → Prop
  | num {N} (h : Big N) : Tc f (.mk 26 [] N [])
  | null : Tc f (.mk 27 [] 0 [])
  | it : Tc f (.mk 28 [] 0 [])
  | use {s} (h : Nm s) : Tc f (.mk 29 s 0 [])
  | dot {s x} (h : Nm s) (hx : isT x.K) (ox : ok f x) : Tc f (.mk 30 s 0 [x])
  | ix {x y} (hx : isT x.K) (hy : isT y.K) (ox : ok f x) (oy : ok f y) : Tc f (.mk 31 [] 0 [x, y])
  | op {s x y} (h : s ∈ opL) (hx : isT x.K) (hy : isT y.K) (ox : ok f x) (oy : ok f y) : Tc f (.mk 32 s 0 [x, y])
  | new {s} (h : Nm s) : Tc f (.mk 33 s 0 [])
  | arr {K x} (hK : K = 34 ∨ K = 35) (hx : isT x.K) (ox : ok f x) : Tc f (.mk K [] 0 [x])
  | fn {b} (hb : b.K = 12) (ob : ok f b) : Tc f (.mk 36 [] 0 [b])
theorem tc_of {f : Nat} {g : G} (h : ok (f + 1) g) (ht : isT g.K) : Tc f g := by
  obtain ⟨K, s, N, ks⟩ := g
  obtain ⟨hf, hk⟩ := h
  change isT K at ht
  cases hf <;> first | (exfalso; omega) | skip
  case num h => exact .num h
  case null => exact .null
  case it => exact .it
  case use h => exact .use h
  case dot => exact .dot (by assumption) (by assumption) (hk _ (by simp))
  case ix => exact .ix (by assumption) (by assumption) (hk _ (by simp)) (hk _ (by simp))
  case op => exact .op (by assumption) (by assumption) (by assumption) (hk _ (by simp)) (hk _ (by simp))
  case new h => exact .new h
  case arr => exact .arr (by assumption) (by assumption) (hk _ (by simp))
  case fn hb => exact .fn hb (hk _ (by simp))
def PT (f : Nat) : Prop := ∀ (g g' : G) (ind r r' : B), ok f g → ok f g' → isT g.K → isT g'.K → St 1 r → St 1 r' → pr f g ind ++ r = pr f g' ind ++ r' → g = g' ∧ r = r'
def PB (f : Nat) : Prop := ∀ (g g' : G) (ind r r' : B), ok f g → ok f g' → g.K = 12 → g'.K = 12 → pr f g ind ++ r = pr f g' ind ++ r' → g = g' ∧ r = r'
/-- An operand where m is wanted. -/
structure Od (f : Nat) (m : Int) (g : G) : Prop where
  ok : ok (f + 1) g
  t : isT g.K
  lo : bg g < m → Ap.ok f g
def Q (f : Nat) (m : Int) : Prop := ∀ (g g' : G) (ind r r' : B), Od f m g → Od f m g' → St m r → St m r' → kt (pr (f + 1)) m g ind ++ r = kt (pr (f + 1)) m g' ind ++ r' → g = g' ∧ r = r'
/-- The first one of a row of points and brackets: its word, and what is behind it. -/
inductive Hv (f : Nat) (ind : B) : Nat → G → B → B → Prop
  | par {g} (h : ok f g) (ht : isT g.K) : Hv f ind 0 g [] (40 :: (pr f g ind ++ [41]))
  | num {N} (h : Big N) : Hv f ind 1 (.mk 26 [] N []) (nt N) []
  | null : Hv f ind 2 (.mk 27 [] 0 []) [110, 117, 108, 108] []
  | it : Hv f ind 3 (.mk 28 [] 0 []) [105, 116] []
  | use {s} (h : Nm s) : Hv f ind 4 (.mk 29 s 0 []) s []
  | new {s} (h : Nm s) : Hv f ind 5 (.mk 33 s 0 []) [110, 101, 119] (32 :: s)
  | fn {b} (hb : b.K = 12) (ob : ok f b) : Hv f ind 6 (.mk 36 [] 0 [b]) [102, 110] (32 :: pr f b ind)
section
variable {f : Nat} {g g' x y : G} {ind r r' s w t w' t' : B} {m : Int} {c c' : Nat}
/-- What a word is. -/
def kc (w : B) : Nat := match w with
  | [] => 0
  | b :: _ => if isG b = true then 1 else if w = [110, 117, 108, 108] then 2 else if w = [105, 116] then 3 else if w = [110, 101, 119] then 5 else if w = [102, 110] then 6 else 4
theorem nm_kc (h : Nm s) : kc s = 4 := by
  cases s with
  | nil => exact absurd rfl h.ne
  | cons b l =>
    have hk := h.kw
    simp only [kws, List.mem_cons, List.not_mem_nil, or_false, not_or] at hk
    simp only [kc, h.dg b l rfl, Bool.false_eq_true, if_false]
    rw [if_neg hk.1, if_neg hk.2.1, if_neg hk.2.2.1, if_neg hk.2.2.2.1]
theorem nt_kc {N : Int} (h : 0 ≤ N) : kc (nt N) = 1 := by
  have h1 := nt_G h
  have h2 := nt_ne h
  revert h1 h2
  generalize nt N = l
  intro h1 h2
  cases l with
  | nil => exact absurd rfl h2
  | cons b l => simp only [kc, h1 b (by simp), if_true]
theorem Hv.kc (h : Hv f ind c g w t) : kc w = c := by
  cases h
  case par => rfl
  case num h => exact nt_kc h.1
  case null => decide
  case it => decide
  case use h => exact nm_kc h
  case new => decide
  case fn => decide
theorem Hv.all (h : Hv f ind c g w t) : AllW w := by
  cases h
  case par => intro b hb; cases hb
  case num h => exact nt_W h.1
  case null => decide
  case it => decide
  case use h => exact h.all
  case new => decide
  case fn => decide
theorem Hv.nw (h : Hv f ind c g w t) (hr : Nw r) : Nw (t ++ r) := by
  cases h
  case par => exact nw_cons (by decide)
  case num => exact hr
  case null => exact hr
  case it => exact hr
  case use => exact hr
  case new => exact nw_cons (by decide)
  case fn => exact nw_cons (by decide)
/-- No first one's word is a statement's, or that of arr, len. -/
theorem Hv.kw (h : Hv f ind c g w t) : w ∉ kws.drop 4 := by
  cases h
  case par => decide
  case num N h =>
    intro hm
    have h1 := nt_kc h.1
    have : ∀ l, l ∈ kws.drop 4 → Ap.kc l = 4 := by decide
    rw [this _ hm] at h1; cases h1
  case null => decide
  case it => decide
  case use h => exact fun hm => h.kw (List.mem_of_mem_drop hm)
  case new => decide
  case fn => decide
theorem hd_dec (hP : PT f) (hB : PB f) (h1 : Hv f ind c g w t) (h2 : Hv f ind c' g' w' t') (hr : Nw r) (hr' : Nw r') (e : w ++ (t ++ r) = w' ++ (t' ++ r')) : g = g' ∧ r = r' := by
  obtain ⟨e1, e2⟩ := word_cut h1.all h2.all (h1.nw hr) (h2.nw hr') e
  have ec : c = c' := by rw [← h1.kc, ← h2.kc, e1]
  subst ec
  cases h1
  case par o1 t1 =>
    cases h2
    case par o2 t2 =>
      simp only [List.cons_append, List.append_assoc, List.cons.injEq, true_and, List.nil_append] at e2
      obtain ⟨q1, q2⟩ := hP _ _ _ _ _ o1 o2 t1 t2 (st_ch (by decide) (by decide) (by decide) (by decide)) (st_ch (by decide) (by decide) (by decide) (by decide)) e2
      injection q2 with _ q2
      exact ⟨q1, q2⟩
  case num n1 =>
    cases h2
    case num n2 => rw [nt_inj n1.1 n2.1 e1]; exact ⟨rfl, e2⟩
  case null => cases h2; exact ⟨rfl, e2⟩
  case it => cases h2; exact ⟨rfl, e2⟩
  case use => cases h2; subst e1; exact ⟨rfl, e2⟩
  case new n1 =>
    cases h2
    case new n2 =>
      simp only [List.cons_append, List.cons.injEq, true_and] at e2
      obtain ⟨q1, q2⟩ := word_cut n1.all n2.all hr hr' e2
      subst q1
      exact ⟨rfl, q2⟩
  case fn b1 o1 =>
    cases h2
    case fn b2 o2 =>
      simp only [List.cons_append, List.cons.injEq, true_and] at e2
      obtain ⟨q1, q2⟩ := hB _ _ _ _ _ o1 o2 b1 b2 e2
      subst q1
      exact ⟨rfl, q2⟩
/-- A point, brackets. -/
inductive Ps where
  | dot (s : B)
  | ix (y : G)
def ap5 (a : G) : Ps → G
  | .dot s => .mk 30 s 0 [a]
  | .ix y => .mk 31 [] 0 [a, y]
def pt (f : Nat) (ind : B) : Ps → B
  | .dot s => 46 :: s
  | .ix y => 91 :: (pr f y ind ++ [93])
def okP (f : Nat) : Ps → Prop
  | .dot s => Nm s
  | .ix y => isT y.K ∧ ok f y
theorem kt_hi {rec : Pr} (h : ¬ bg g < m) : kt rec m g ind = rec g ind := by rw [kt, if_neg h]
theorem kt_lo {rec : Pr} (h : bg g < m) : kt rec m g ind = 40 :: (rec g ind ++ [41]) := by rw [kt, if_pos h]
theorem chain5 : ∀ n, n ≤ f + 1 → ∀ g, ok n g → isT g.K → (bg g < 5 → ok f g) → ∃ h os c w t, g = List.foldl ap5 h os ∧ Hv f ind c h w t ∧ (∀ p, p ∈ os → okP f p) ∧ kt (pr (f + 1)) 5 g ind = w ++ (t ++ os.flatMap (pt f ind)) := by
  intro n
  induction n with
  | zero => intro _ g h; exact h.elim
  | succ n ih =>
    intro hn g hg ht hlo
    by_cases hb : bg g < 5
    · have o := hlo hb
      exact ⟨g, [], _, _, _, rfl, .par o ht, by simp, by rw [kt_lo hb, pr_up o]; simp⟩
    have hpar : ∀ z, ok n z → (bg z < 5 → ok f z) := fun z hz _ => ok_le hz (by omega)
    have o1 := ok_le hg hn
    rw [kt_hi hb]
    cases tc_of hg ht
    case num h => exact ⟨_, [], _, _, _, rfl, .num h, by simp, by simp; rfl⟩
    case null => exact ⟨_, [], _, _, _, rfl, .null, by simp, rfl⟩
    case it => exact ⟨_, [], _, _, _, rfl, .it, by simp, rfl⟩
    case use h => exact ⟨_, [], _, _, _, rfl, .use h, by simp, by simp; rfl⟩
    case dot s x h hx ox =>
      obtain ⟨h', os, c, w, t, e1, e2, e3, e4⟩ := ih (by omega) x ox hx (hpar x ox)
      refine ⟨h', os ++ [.dot s], c, w, t, by rw [List.foldl_append, ← e1]; rfl, e2, fun p hp => ?_, ?_⟩
      · rcases List.mem_append.1 hp with hp | hp
        · exact e3 p hp
        rw [List.mem_singleton.1 hp]; exact h
      have e5 : pr (f + 1) (.mk 30 s 0 [x]) ind = kt (pr f) 5 x ind ++ 46 :: s := rfl
      rw [e5, kt_eq (rec' := pr (f + 1)) (pr_up (ok_le ox (by omega)) ind).symm, e4]
      simp [pt]
    case ix x y hx hy ox oy =>
      obtain ⟨h', os, c, w, t, e1, e2, e3, e4⟩ := ih (by omega) x ox hx (hpar x ox)
      refine ⟨h', os ++ [.ix y], c, w, t, by rw [List.foldl_append, ← e1]; rfl, e2, fun p hp => ?_, ?_⟩
      · rcases List.mem_append.1 hp with hp | hp
        · exact e3 p hp
        rw [List.mem_singleton.1 hp]; exact ⟨hy, ok_le oy (by omega)⟩
      have e5 : pr (f + 1) (.mk 31 [] 0 [x, y]) ind = kt (pr f) 5 x ind ++ 91 :: (pr f y ind ++ [93]) := rfl
      rw [e5, kt_eq (rec' := pr (f + 1)) (pr_up (ok_le ox (by omega)) ind).symm, e4]
      simp [pt]
    case op s x y h hx hy ox oy =>
      exfalso
      apply hb
      show (if (32 : Int) = 32 then bo s else _) < 5
      rw [if_pos rfl]
      rcases bo_is s with q | q | q <;> omega
    case new h => exact ⟨_, [], _, _, _, rfl, .new h, by simp, by simp; rfl⟩
    case arr K x hK hx ox =>
      exfalso
      apply hb
      rcases hK with rfl | rfl <;> exact (by decide : (4 : Int) < 5)
    case fn b hb' ob => exact ⟨_, [], _, _, _, rfl, .fn hb' (ok_le ob (by omega)), by simp, by simp; rfl⟩
theorem ps_nw {os : List Ps} (hr : Nw r) : Nw (os.flatMap (pt f ind) ++ r) := by
  cases os with
  | nil => exact hr
  | cons p os => cases p <;> exact nw_cons (by decide)
theorem ps_dec (hP : PT f) : ∀ {os os' : List Ps} {r r' : B}, (∀ p, p ∈ os → okP f p) → (∀ p, p ∈ os' → okP f p) → St 5 r → St 5 r' → os.flatMap (pt f ind) ++ r = os'.flatMap (pt f ind) ++ r' → os = os' ∧ r = r'
  | [], [], _, _, _, _, _, _, e => ⟨rfl, e⟩
  | [], p :: os', r, r', _, _, hr, _, e => by
    cases p
    · exact absurd e (hr.dot _)
    exact absurd e (hr.ix _)
  | p :: os, [], r, r', _, _, _, hr', e => by
    cases p
    · exact absurd e.symm (hr'.dot _)
    exact absurd e.symm (hr'.ix _)
  | p :: os, p' :: os', r, r', h, h', hr, hr', e => by
    have hp := h p (by simp)
    have hp' := h' p' (by simp)
    have ht : ∀ q, q ∈ os → okP f q := fun q hq => h q (by simp [hq])
    have ht' : ∀ q, q ∈ os' → okP f q := fun q hq => h' q (by simp [hq])
    cases p with
    | dot s =>
      cases p' with
      | dot s' =>
        simp only [List.flatMap_cons, pt, List.cons_append, List.append_assoc, List.cons.injEq, true_and] at e
        obtain ⟨q1, q2⟩ := word_cut hp.all hp'.all (ps_nw hr.nw) (ps_nw hr'.nw) e
        obtain ⟨q3, q4⟩ := ps_dec hP ht ht' hr hr' q2
        exact ⟨by rw [q1, q3], q4⟩
      | ix y =>
        simp only [List.flatMap_cons, pt, List.cons_append, List.cons.injEq] at e
        exact absurd e.1 (by decide)
    | ix y =>
      cases p' with
      | dot s' =>
        simp only [List.flatMap_cons, pt, List.cons_append, List.cons.injEq] at e
        exact absurd e.1 (by decide)
      | ix y' =>
        simp only [List.flatMap_cons, pt, List.cons_append, List.append_assoc, List.cons.injEq, true_and, List.nil_append] at e
        obtain ⟨q1, q2⟩ := hP _ _ _ _ _ hp.2 hp'.2 hp.1 hp'.1 (st_ch (by decide) (by decide) (by decide) (by decide)) (st_ch (by decide) (by decide) (by decide) (by decide)) e
        injection q2 with _ q2
        obtain ⟨q3, q4⟩ := ps_dec hP ht ht' hr hr' q2
        exact ⟨by rw [q1, q3], q4⟩
theorem q5 (hP : PT f) (hB : PB f) : Q f 5 := fun g g' ind r r' o o' hr hr' e => by
  obtain ⟨h, os, c, w, t, e1, e2, e3, e4⟩ := chain5 (ind := ind) _ (Nat.le_refl _) g o.ok o.t o.lo
  obtain ⟨h', os', c', w', t', e1', e2', e3', e4'⟩ := chain5 (ind := ind) _ (Nat.le_refl _) g' o'.ok o'.t o'.lo
  rw [e4, e4', List.append_assoc, List.append_assoc, List.append_assoc, List.append_assoc] at e
  obtain ⟨q1, q2⟩ := hd_dec hP hB e2 e2' (ps_nw hr.nw) (ps_nw hr'.nw) e
  obtain ⟨q3, q4⟩ := ps_dec hP e3 e3' hr hr' q2
  exact ⟨by rw [e1, e1', q1, q3], q4⟩
end
end Go.Ap

namespace Go.Ap

section
variable {f : Nat} {g g' x y : G} {ind r r' s w t w' t' : B} {m : Int} {c c' : Nat}
theorem kw_arr {K : Int} (h : K = 34 ∨ K = 35) : AllW (kw K) ∧ kw K ∈ kws.drop 4 := by
  rcases h with rfl | rfl <;> decide
theorem kw_arr_inj {K K' : Int} (h : K = 34 ∨ K = 35) (h' : K' = 34 ∨ K' = 35) (e : kw K = kw K') : K = K' := by
  rcases h with rfl | rfl <;> rcases h' with rfl | rfl <;> first | rfl | exact absurd e (by decide)
/-- What an operand of 4 is: arr, len; or one of 5. -/
theorem od4 (o : Od f 4 g) : (∃ K x, (K = 34 ∨ K = 35) ∧ isT x.K ∧ ok f x ∧ g = .mk K [] 0 [x]) ∨ (Od f 5 g ∧ ∀ ind, kt (pr (f + 1)) 4 g ind = kt (pr (f + 1)) 5 g ind) := by
  by_cases hb : bg g < 4
  · right
    refine ⟨⟨o.ok, o.t, fun _ => o.lo hb⟩, fun ind => ?_⟩
    rw [kt_lo hb, kt_lo (by omega)]
  by_cases h4 : bg g = 4
  · left
    have hp := tc_of o.ok o.t
    cases hp
    case arr K x hK hx ox => exact ⟨K, x, hK, hx, ox, rfl⟩
    case op s x y h _ _ _ _ =>
      exfalso
      have : bo s = 4 := h4
      rcases bo_is s with q | q | q <;> omega
    all_goals exact absurd (show (5 : Int) = 4 from h4) (by decide)
  right
  have := bg_is g
  refine ⟨⟨o.ok, o.t, fun _ => by omega⟩, fun ind => ?_⟩
  rw [kt_hi (by omega), kt_hi (by omega)]
theorem arr_kt {K : Int} (hK : K = 34 ∨ K = 35) (ox : ok f x) : kt (pr (f + 1)) 4 (.mk K [] 0 [x]) ind = kw K ++ 32 :: kt (pr (f + 1)) 4 x ind := by
  have e : kt (pr (f + 1)) 4 (.mk K [] 0 [x]) ind = kw K ++ 32 :: kt (pr f) 4 x ind := by
    rcases hK with rfl | rfl <;> rfl
  rw [e, kt_eq (rec' := pr (f + 1)) (pr_up ox ind).symm]
theorem q4 (hP : PT f) (hB : PB f) : Q f 4 := by
  have key : ∀ n, ∀ (g g' : G) (ind r r' : B), ok n g → Od f 4 g → Od f 4 g' → St 4 r → St 4 r' → kt (pr (f + 1)) 4 g ind ++ r = kt (pr (f + 1)) 4 g' ind ++ r' → g = g' ∧ r = r' := by
    intro n
    induction n with
    | zero => intro g g' ind r r' h; exact h.elim
    | succ n ih =>
      intro g g' ind r r' hn o o' hr hr' e
      have hno : ∀ {K : Int} {x z : G} {r r' : B}, (K = 34 ∨ K = 35) → ok f x → Od f 5 z → St 4 r' → kt (pr (f + 1)) 4 (.mk K [] 0 [x]) ind ++ r = kt (pr (f + 1)) 5 z ind ++ r' → False := fun {K x z r r'} hK ox oz hz e => by
        obtain ⟨h, os, c, w, t, e1, e2, e3, e4⟩ := chain5 (ind := ind) _ (Nat.le_refl _) z oz.ok oz.t oz.lo
        rw [e4, arr_kt hK ox, List.append_assoc, List.append_assoc, List.append_assoc, List.cons_append] at e
        obtain ⟨h1, h2⟩ := kw_arr hK
        obtain ⟨q1, _⟩ := word_cut h1 e2.all (nw_cons (by decide)) (e2.nw (ps_nw hz.nw)) e
        exact e2.kw (q1 ▸ h2)
      rcases od4 o with ⟨K, x, hK, hx, ox, rfl⟩ | ⟨o5, h5⟩
      · rcases od4 o' with ⟨K', x', hK', hx', ox', rfl⟩ | ⟨o5', h5'⟩
        · rw [arr_kt hK ox, arr_kt hK' ox', List.append_assoc, List.append_assoc, List.cons_append, List.cons_append] at e
          obtain ⟨h1, _⟩ := kw_arr hK
          obtain ⟨h1', _⟩ := kw_arr hK'
          obtain ⟨q1, q2⟩ := word_cut h1 h1' (nw_cons (by decide)) (nw_cons (by decide)) e
          injection q2 with _ q2
          obtain ⟨q3, q4⟩ := ih x x' ind r r' (hn.2 x (by simp)) ⟨ok_up ox, hx, fun _ => ox⟩ ⟨ok_up ox', hx', fun _ => ox'⟩ hr hr' q2
          exact ⟨by rw [kw_arr_inj hK hK' q1, q3], q4⟩
        rw [h5'] at e
        exact (hno hK ox o5' hr' e).elim
      rcases od4 o' with ⟨K', x', hK', hx', ox', rfl⟩ | ⟨o5', h5'⟩
      · rw [h5] at e
        exact (hno hK' ox' o5 hr e.symm).elim
      rw [h5, h5'] at e
      exact q5 hP hB g g' ind r r' o5 o5' (hr.mono (by decide)) (hr'.mono (by decide)) e
  exact fun g g' ind r r' o o' hr hr' e => key (f + 1) g g' ind r r' o.ok o o' hr hr' e
/-- An operation and its right side. -/
def apo (a : G) (o : B × G) : G := .mk 32 o.1 0 [a, o.2]
theorem mL_of (h : bo s = m) (hm : m ≠ 1) : mL s = m := by rw [mL, if_neg (by omega), h]
theorem mR_of (h : bo s = m) : mR s = m + 1 := by
  unfold mR
  split <;> omega
theorem chainM (h1 : 1 ≤ m) (h3 : m ≤ 3) : ∀ n, n ≤ f + 1 → ∀ g, ok n g → isT g.K → (bg g < m → ok f g) → ∃ h os, g = List.foldl apo h os ∧ Od f (m + 1) h ∧ (∀ o, o ∈ os → o.1 ∈ opL ∧ bo o.1 = m ∧ Od f (m + 1) o.2) ∧
    ∀ ind, kt (pr (f + 1)) m g ind = kt (pr (f + 1)) (m + 1) h ind ++ os.flatMap fun o => sp o.1 ++ kt (pr (f + 1)) (m + 1) o.2 ind := by
  intro n
  induction n with
  | zero => intro _ g h; exact h.elim
  | succ n ih =>
    intro hn g hg ht hlo
    by_cases hb : bg g = m
    · have hp := tc_of hg ht
      cases hp
      case op s x y h hx hy ox oy =>
        have hbo : bo s = m := hb
        have ox' := ok_le ox (show n ≤ f by omega)
        have oy' := ok_le oy (show n ≤ f by omega)
        have e5 : ∀ ind, kt (pr (f + 1)) m (.mk 32 s 0 [x, y]) ind = kt (pr (f + 1)) (mL s) x ind ++ (sp s ++ kt (pr (f + 1)) (m + 1) y ind) := fun ind => by
          rw [kt_hi (by omega)]
          have e : pr (f + 1) (.mk 32 s 0 [x, y]) ind = kt (pr f) (mL s) x ind ++ (sp s ++ kt (pr f) (mR s) y ind) := rfl
          rw [e, mR_of hbo, kt_eq (rec' := pr (f + 1)) (pr_up ox' ind).symm, kt_eq (g := y) (rec' := pr (f + 1)) (pr_up oy' ind).symm]
        have oY : Od f (m + 1) y := ⟨ok_up oy', hy, fun _ => oy'⟩
        by_cases hm : m = 1
        · refine ⟨x, [(s, y)], rfl, ⟨ok_up ox', hx, fun _ => ox'⟩, fun o ho => ?_, fun ind => ?_⟩
          · rw [List.mem_singleton.1 ho]; exact ⟨h, hbo, oY⟩
          rw [e5, mL, if_pos (by omega)]
          subst hm
          simp
        obtain ⟨h', os, e1, e2, e3, e4⟩ := ih (by omega) x ox hx (fun _ => ox')
        refine ⟨h', os ++ [(s, y)], by rw [List.foldl_append, ← e1]; rfl, e2, fun o ho => ?_, fun ind => ?_⟩
        · rcases List.mem_append.1 ho with ho | ho
          · exact e3 o ho
          rw [List.mem_singleton.1 ho]; exact ⟨h, hbo, oY⟩
        rw [e5, mL_of hbo hm, e4]
        simp
      case arr K x hK _ _ =>
        exfalso
        have : (4 : Int) = m := by rcases hK with rfl | rfl <;> exact hb
        omega
      all_goals
        exfalso
        have : (5 : Int) = m := hb
        omega
    refine ⟨g, [], rfl, ⟨ok_le hg hn, ht, fun h => hlo (by omega)⟩, by simp, fun ind => ?_⟩
    by_cases hl : bg g < m
    · rw [kt_lo hl, kt_lo (by omega)]; simp
    rw [kt_hi hl, kt_hi (by omega)]; simp
theorem os_st {os : List (B × G)} {k : Pr} (h : ∀ o, o ∈ os → o.1 ∈ opL ∧ bo o.1 = m ∧ Od f (m + 1) o.2) (hr : St m r) : St (m + 1) ((os.flatMap fun o => sp o.1 ++ k o.2 ind) ++ r) := by
  cases os with
  | nil => exact hr.mono (by omega)
  | cons o os =>
    obtain ⟨h1, h2, _⟩ := h o (by simp)
    rw [List.flatMap_cons, List.append_assoc, List.append_assoc]
    exact st_op h1 (by omega)
theorem os_dec (hQ : Q f (m + 1)) : ∀ {os os' : List (B × G)} {r r' : B}, (∀ o, o ∈ os → o.1 ∈ opL ∧ bo o.1 = m ∧ Od f (m + 1) o.2) → (∀ o, o ∈ os' → o.1 ∈ opL ∧ bo o.1 = m ∧ Od f (m + 1) o.2) → St m r → St m r' →
    (os.flatMap fun o => sp o.1 ++ kt (pr (f + 1)) (m + 1) o.2 ind) ++ r = (os'.flatMap fun o => sp o.1 ++ kt (pr (f + 1)) (m + 1) o.2 ind) ++ r' → os = os' ∧ r = r'
  | [], [], _, _, _, _, _, _, e => ⟨rfl, e⟩
  | [], o :: os', r, r', _, h', hr, _, e => by
    obtain ⟨a1, a2, _⟩ := h' o (by simp)
    rw [List.flatMap_cons, List.append_assoc, List.append_assoc] at e
    exact absurd e (hr.op _ _ a1 (by omega))
  | o :: os, [], r, r', h, _, _, hr', e => by
    obtain ⟨a1, a2, _⟩ := h o (by simp)
    rw [List.flatMap_cons, List.append_assoc, List.append_assoc] at e
    exact absurd e.symm (hr'.op _ _ a1 (by omega))
  | (s, y) :: os, (s', y') :: os', r, r', h, h', hr, hr', e => by
    obtain ⟨a1, a2, a3⟩ := h (s, y) (by simp)
    obtain ⟨b1, b2, b3⟩ := h' (s', y') (by simp)
    have ht : ∀ o, o ∈ os → o.1 ∈ opL ∧ bo o.1 = m ∧ Od f (m + 1) o.2 := fun q hq => h q (by simp [hq])
    have ht' : ∀ o, o ∈ os' → o.1 ∈ opL ∧ bo o.1 = m ∧ Od f (m + 1) o.2 := fun q hq => h' q (by simp [hq])
    rw [List.flatMap_cons, List.flatMap_cons, List.append_assoc, List.append_assoc, List.append_assoc, List.append_assoc] at e
    obtain ⟨q1, q2⟩ := op_cut a1 b1 e
    obtain ⟨q3, q4⟩ := hQ y y' ind _ _ a3 b3 (os_st ht hr) (os_st ht' hr') q2
    obtain ⟨q5, q6⟩ := os_dec hQ ht ht' hr hr' q4
    simp only at q1
    exact ⟨by rw [q1, q3, q5], q6⟩
theorem qM (h1 : 1 ≤ m) (h3 : m ≤ 3) (hQ : Q f (m + 1)) : Q f m := fun g g' ind r r' o o' hr hr' e => by
  obtain ⟨h, os, e1, e2, e3, e4⟩ := chainM h1 h3 _ (Nat.le_refl _) g o.ok o.t o.lo
  obtain ⟨h', os', e1', e2', e3', e4'⟩ := chainM h1 h3 _ (Nat.le_refl _) g' o'.ok o'.t o'.lo
  rw [e4, e4', List.append_assoc, List.append_assoc] at e
  obtain ⟨q1, q2⟩ := hQ h h' ind _ _ e2 e2' (os_st e3 hr) (os_st e3' hr') e
  obtain ⟨q3, q4⟩ := os_dec hQ e3 e3' hr hr' q2
  exact ⟨by rw [e1, e1', q1, q3], q4⟩
theorem p_succ (hP : PT f) (hB : PB f) : PT (f + 1) := fun g g' ind r r' o o' ht ht' hr hr' e => by
  have q1 : Q f 1 := qM (by decide) (by decide) (qM (by decide) (by decide) (qM (by decide) (by decide) (q4 hP hB)))
  have h1 := bg_is g
  have h2 := bg_is g'
  exact q1 g g' ind r r' ⟨o, ht, fun h => by omega⟩ ⟨o', ht', fun h => by omega⟩ hr hr' (by rw [kt_hi (by omega), kt_hi (by omega)]; exact e)
end
end Go.Ap

namespace Go.Ap

theorem st_sp1 {m : Int} {c : UInt8} {l : B} (h1 : c ≠ 43) (h2 : c ≠ 45) (h3 : c ≠ 42) (h4 : c ≠ 60) (h5 : c ≠ 61) : St m (32 :: c :: l) := ⟨nw_cons (by decide), fun _ e => by injection e with e _; exact absurd e (by decide), fun _ e => by injection e with e _; exact absurd e (by decide), fun s r hs _ e => by
  simp only [opL, List.mem_cons, List.not_mem_nil, or_false] at hs
  rcases hs with rfl | rfl | rfl | rfl | rfl <;> simp_all⟩
theorem st_semi {m : Int} {l : B} : St m (59 :: l) := st_ch (by decide) (by decide) (by decide) (by decide)
/-- Rows of lines are read in one way. -/
def El (f : Nat) (C : Int → Prop) : Prop := ∀ (g g' : G) (ind r r' : B), ok f g → ok f g' → C g.K → C g'.K → pr f g ind ++ 10 :: r = pr f g' ind ++ 10 :: r' → g = g' ∧ r = r'
section
variable {f : Nat} {g g' x y : G} {ind r r' s w t w' t' : B} {m : Int} {c c' : Nat}
theorem lns_dec {C : Int → Prop} (hE : El f C) : ∀ {ks ks' : List G} {r r' : B}, (∀ k, k ∈ ks → ok f k ∧ C k.K) → (∀ k, k ∈ ks' → ok f k ∧ C k.K) → lns (pr f) ind ks ++ (ind ++ 125 :: r) = lns (pr f) ind ks' ++ (ind ++ 125 :: r') → ks = ks' ∧ r = r'
  | [], [], r, r', _, _, e => by
    have e := List.append_cancel_left (List.append_cancel_left e)
    injection e with _ e
    exact ⟨rfl, e⟩
  | [], k :: ks', r, r', _, _, e => by
    simp only [lns, List.flatMap_nil, List.nil_append, List.flatMap_cons, List.append_assoc] at e
    have e := List.append_cancel_left e
    injection e with e _
    exact absurd e (by decide)
  | k :: ks, [], r, r', _, _, e => by
    simp only [lns, List.flatMap_nil, List.nil_append, List.flatMap_cons, List.append_assoc] at e
    have e := List.append_cancel_left e
    injection e with e _
    exact absurd e (by decide)
  | k :: ks, k' :: ks', r, r', h, h', e => by
    have e0 : ∀ (q : G) (l : List G) (z : B), lns (pr f) ind (q :: l) ++ z = ind ++ 32 :: 32 :: (pr f q (ind ++ [32, 32]) ++ 10 :: (lns (pr f) ind l ++ z)) := fun q l z => by
      simp only [lns, List.flatMap_cons, List.append_assoc, List.cons_append, List.nil_append]
    rw [e0, e0] at e
    have e := List.append_cancel_left e
    injection e with _ e
    injection e with _ e
    obtain ⟨q1, q2⟩ := hE _ _ _ _ _ (h k (by simp)).1 (h' k' (by simp)).1 (h k (by simp)).2 (h' k' (by simp)).2 e
    obtain ⟨q3, q4⟩ := lns_dec hE (fun q hq => h q (by simp [hq])) (fun q hq => h' q (by simp [hq])) q2
    exact ⟨by rw [q1, q3], q4⟩
theorem br_dec {C : Int → Prop} (hE : El f C) {ks ks' : List G} (h : ∀ k, k ∈ ks → ok f k ∧ C k.K) (h' : ∀ k, k ∈ ks' → ok f k ∧ C k.K) (e : braces (pr f) ind ks ++ r = braces (pr f) ind ks' ++ r') : ks = ks' ∧ r = r' := by
  cases ks with
  | nil =>
    cases ks' with
    | nil =>
      have e : [123, 32, 125] ++ r = [123, 32, 125] ++ r' := e
      exact ⟨rfl, List.append_cancel_left e⟩
    | cons k l =>
      injection e with _ e
      injection e with e _
      exact absurd e (by decide)
  | cons k l =>
    cases ks' with
    | nil =>
      injection e with _ e
      injection e with e _
      exact absurd e (by decide)
    | cons k' l' =>
      have e0 : ∀ (q : G) (l : List G) (z : B), braces (pr f) ind (q :: l) ++ z = 123 :: 10 :: (lns (pr f) ind (q :: l) ++ (ind ++ 125 :: z)) := fun q l z => by
        simp only [braces, List.isEmpty_cons, Bool.false_eq_true, if_false, List.append_assoc, List.cons_append, List.nil_append]
      rw [e0, e0] at e
      injection e with _ e
      injection e with _ e
      exact lns_dec hE h h' e
theorem blk_of (h : ok (f + 1) g) (hk : g.K = 12) : ∃ ks, g = .mk 12 [] 0 ks ∧ (∀ k, k ∈ ks → ok f k ∧ isS k.K) := by
  obtain ⟨K, s, N, ks⟩ := g
  obtain ⟨hf, ho⟩ := h
  change K = 12 at hk
  subst hk
  cases hf
  case block h => exact ⟨ks, rfl, fun k hk => ⟨ho k hk, h k hk⟩⟩
  all_goals (exfalso; omega)
theorem blk_empty (h : ok f g) (hk : g.K = 12) (he : g.ks.isEmpty = true) : g = .mk 12 [] 0 [] := by
  cases f with
  | zero => exact h.elim
  | succ f =>
    obtain ⟨ks, rfl, _⟩ := blk_of h hk
    cases ks with
    | nil => rfl
    | cons a l => cases he
theorem ty_of (h : ok f g) (hk : g.K = 5) : ∃ s, AllW s ∧ s ≠ [] ∧ g = .mk 5 s 0 [] ∧ ∀ ind, pr f g ind = s := by
  cases f with
  | zero => exact h.elim
  | succ f =>
    obtain ⟨K, s, N, ks⟩ := g
    obtain ⟨hf, ho⟩ := h
    change K = 5 at hk
    subst hk
    cases hf
    case typ h1 h2 => exact ⟨s, h1, h2, rfl, fun _ => rfl⟩
    all_goals (exfalso; omega)
theorem use_of (h : ok f g) (hk : g.K = 29) : ∃ s, Nm s ∧ g = .mk 29 s 0 [] ∧ ∀ ind, pr f g ind = s := by
  cases f with
  | zero => exact h.elim
  | succ f =>
    obtain ⟨K, s, N, ks⟩ := g
    obtain ⟨hf, ho⟩ := h
    change K = 29 at hk
    subst hk
    cases hf
    case use h1 => exact ⟨s, h1, rfl, fun _ => rfl⟩
    all_goals (exfalso; omega)
theorem pb_succ (hS : El f isS) : PB (f + 1) := fun g g' ind r r' o o' hk hk' e => by
  obtain ⟨ks, rfl, h⟩ := blk_of o hk
  obtain ⟨ks', rfl, h'⟩ := blk_of o' hk'
  obtain ⟨q1, q2⟩ := br_dec (ind := ind) (r := r) (r' := r') hS h h' e
  exact ⟨by rw [q1], q2⟩
/-- A block begins with a brace. -/
theorem blk_text (h : ok f g) (hk : g.K = 12) : ∃ l, pr f g ind = 123 :: l := by
  cases f with
  | zero => exact h.elim
  | succ f =>
    obtain ⟨ks, rfl, _⟩ := blk_of h hk
    have e : pr (f + 1) (.mk 12 [] 0 ks) ind = braces (pr f) ind ks := rfl
    rw [e, braces]
    split <;> exact ⟨_, rfl⟩
/-- What something goes to. -/
def tov (f : Nat) (ind : B) : Option G → B
  | none => []
  | some v => 32 :: 116 :: 111 :: 32 :: pr f v ind
/-- What a statement's word says. -/
def cs (w : B) : Nat :=
  if w = [118, 97, 114] then 0 else if w = [99, 97, 108, 108] ∨ w = [99, 97, 110, 99, 101, 108] ∨ w = [106, 111, 105, 110] ∨ w = [108, 111, 103] then 1 else if w = [112, 111, 115, 116] then 2 else if w = [115, 112, 97, 119, 110] then 3 else
  if w = [101, 110, 97, 98, 108, 101] ∨ w = [100, 105, 115, 97, 98, 108, 101] then 4 else if w = [105, 102] then 5 else if w = [119, 104, 105, 108, 101] then 6 else if w = [114, 101, 116, 117, 114, 110] then 7 else 8
end
/-- A statement, by its word. -/
inductive Sv (f : Nat) (ind : B) : Nat → G → B → B → Prop
  | var {s t x} (h : Nm s) (ht : t.K = 5) (hx : isT x.K) (ot : ok f t) (ox : ok f x) : Sv f ind 0 (.mk 13 s 0 [t, x]) [118, 97, 114] (32 :: (s ++ 32 :: (pr f t ind ++ 32 :: 61 :: 32 :: (pr f x ind ++ [59]))))
  | word {K x} (hK : 15 ≤ K ∧ K ≤ 18) (hx : isT x.K) (ox : ok f x) : Sv f ind 1 (.mk K [] 0 [x]) (kw K) (32 :: (pr f x ind ++ [59]))
  | post {s N x} (o : Option G) (h : Nm s) (hN : -1 ≤ N ∧ N ≤ 2147483647) (hx : isT x.K) (ox : ok f x) (hv : ∀ v, o = some v → isV v.K ∧ ok f v) : Sv f ind 2 (.mk 19 s N (x :: o.toList)) [112, 111, 115, 116] (32 :: (s ++ 32 :: (pr f x ind ++ (fr N ++ (tov f ind o ++ [59])))))
  | spawn {x} (o : Option G) (hx : isT x.K) (ox : ok f x) (hv : ∀ v, o = some v → isV v.K ∧ ok f v) : Sv f ind 3 (.mk 20 [] 0 (x :: o.toList)) [115, 112, 97, 119, 110] (32 :: (pr f x ind ++ (tov f ind o ++ [59])))
  | able {K s} (hK : K = 21 ∨ K = 22) (h : Nm s) : Sv f ind 4 (.mk K s 0 []) (kw K) (32 :: (s ++ [59]))
  | iff {c a b} (hc : isT c.K) (ha : a.K = 12) (hb : b.K = 12) (oc : ok f c) (oa : ok f a) (ob : ok f b) : Sv f ind 5 (.mk 23 [] 0 [c, a, b]) [105, 102] (32 :: (pr f c ind ++ 32 :: (pr f a ind ++ els (pr f) ind [c, a, b])))
  | whil {c a} (hc : isT c.K) (ha : a.K = 12) (oc : ok f c) (oa : ok f a) : Sv f ind 6 (.mk 24 [] 0 [c, a]) [119, 104, 105, 108, 101] (32 :: (pr f c ind ++ 32 :: pr f a ind))
  | ret : Sv f ind 7 (.mk 25 [] 0 []) [114, 101, 116, 117, 114, 110] [59]
  | set {v x w t} (hv : isV v.K) (hx : isT x.K) (ov : ok f v) (ox : ok f x) (hw : AllW w) (hn : w ∉ kws.drop 4) (ht : ∀ r, Nw (t ++ r)) (e : w ++ t = pr f v ind ++ 32 :: 61 :: 32 :: (pr f x ind ++ [59])) : Sv f ind 8 (.mk 14 [] 0 [v, x]) w t
section
variable {f : Nat} {g g' x y : G} {ind r r' s w t w' t' : B} {m : Int} {c c' : Nat}
/-- The word ahead of a term. -/
theorem lead_of (h : ok f g) (ht : isV g.K) : ∃ w t, pr f g ind = w ++ t ∧ AllW w ∧ w ∉ kws.drop 4 ∧ ∀ r, Nw r → Nw (t ++ r) := by
  cases f with
  | zero => exact h.elim
  | succ f =>
    have hT : isT g.K := by omega
    have hb : ¬ bg g < 5 := by
      cases tc_of h hT
      case op => exact absurd ht (by decide : ¬ isV 32)
      case arr K x hK _ _ => exact absurd ht (by rcases hK with rfl | rfl <;> decide : ¬ isV K)
      all_goals exact (by decide : ¬ (5 : Int) < 5)
    obtain ⟨h', os, c, w, t, e1, e2, e3, e4⟩ := chain5 (ind := ind) _ (Nat.le_refl _) g h hT (fun q => absurd q hb)
    rw [kt_hi hb] at e4
    exact ⟨w, t ++ os.flatMap (pt f ind), e4, e2.all, e2.kw, fun r hr => by rw [List.append_assoc]; exact e2.nw (ps_nw hr)⟩
theorem sv_of (h : ok (f + 1) g) (hs : isS g.K) : ∃ c w t, pr (f + 1) g ind = w ++ t ∧ Sv f ind c g w t := by
  obtain ⟨K, s, N, ks⟩ := g
  obtain ⟨hf, hk⟩ := h
  change isS K at hs
  cases hf <;> first | (exfalso; omega) | skip
  case var => exact ⟨_, _, _, by rfl, .var (by assumption) (by assumption) (by assumption) (hk _ (by simp)) (hk _ (by simp))⟩
  case set v x hv hx =>
    have ov := hk v (by simp)
    have ox := hk x (by simp)
    obtain ⟨w, t, e1, e2, e3, e4⟩ := lead_of (ind := ind) ov hv
    refine ⟨8, w, t ++ 32 :: 61 :: 32 :: (pr f x ind ++ [59]), ?_, .set hv hx ov ox e2 e3 (fun r => ?_) ?_⟩
    · have e : pr (f + 1) (.mk 14 [] 0 [v, x]) ind = pr f v ind ++ 32 :: 61 :: 32 :: (pr f x ind ++ [59]) := rfl
      rw [e, e1, List.append_assoc]
    · rw [List.append_assoc]
      exact e4 _ (nw_cons (by decide))
    rw [e1, List.append_assoc]
  case word =>
    have hK : 15 ≤ K ∧ K ≤ 18 := by assumption
    rename_i x _ _
    have hx : isT x.K := by assumption
    refine ⟨1, kw K, 32 :: (pr f x ind ++ [59]), ?_, .word hK hx (hk _ (by simp))⟩
    rcases (show K = 15 ∨ K = 16 ∨ K = 17 ∨ K = 18 by omega) with rfl | rfl | rfl | rfl <;> rfl
  case post x _ _ _ => exact ⟨_, _, _, by rfl, .post (x := x) none (by assumption) (by assumption) (by assumption) (hk _ (by simp)) (fun v e => by cases e)⟩
  case posto x v _ _ _ _ => exact ⟨_, _, _, by rfl, .post (x := x) (some v) (by assumption) (by assumption) (by assumption) (hk _ (by simp)) (fun v' e => by cases e; exact ⟨by assumption, hk _ (by simp)⟩)⟩
  case spawn x _ => exact ⟨_, _, _, by rfl, .spawn (x := x) none (by assumption) (hk _ (by simp)) (fun v e => by cases e)⟩
  case spawno x v _ _ => exact ⟨_, _, _, by rfl, .spawn (x := x) (some v) (by assumption) (hk _ (by simp)) (fun v' e => by cases e; exact ⟨by assumption, hk _ (by simp)⟩)⟩
  case able =>
    have hK : K = 21 ∨ K = 22 := by assumption
    have h : Nm s := by assumption
    refine ⟨4, kw K, 32 :: (s ++ [59]), ?_, .able hK h⟩
    rcases hK with rfl | rfl <;> rfl
  case iff => exact ⟨_, _, _, by rfl, .iff (by assumption) (by assumption) (by assumption) (hk _ (by simp)) (hk _ (by simp)) (hk _ (by simp))⟩
  case whil => exact ⟨_, _, _, by rfl, .whil (by assumption) (by assumption) (hk _ (by simp)) (hk _ (by simp))⟩
  case ret => exact ⟨_, _, _, by rfl, .ret⟩
theorem Sv.cs (h : Sv f ind c g w t) : cs w = c := by
  cases h
  case word K x hK _ _ => rcases (show K = 15 ∨ K = 16 ∨ K = 17 ∨ K = 18 by omega) with rfl | rfl | rfl | rfl <;> decide
  case able hK _ => rcases hK with rfl | rfl <;> decide
  case set hn _ _ =>
    simp only [kws, List.drop_succ_cons, List.drop_zero, List.mem_cons, List.not_mem_nil, or_false, not_or] at hn
    obtain ⟨_, _, h0, h1, h2, h3, h4, h5, h6, h7, h8, h9, h10, h11⟩ := hn
    unfold Ap.cs
    rw [if_neg h0, if_neg (by simp only [not_or]; exact ⟨h1, h2, h3, h4⟩), if_neg h5, if_neg h6, if_neg (by simp only [not_or]; exact ⟨h7, h8⟩), if_neg h10, if_neg h11, if_neg h9]
  all_goals decide
theorem Sv.all (h : Sv f ind c g w t) : AllW w := by
  cases h
  case word K x hK _ _ => rcases (show K = 15 ∨ K = 16 ∨ K = 17 ∨ K = 18 by omega) with rfl | rfl | rfl | rfl <;> decide
  case able hK _ => rcases hK with rfl | rfl <;> decide
  case set hw _ _ _ => exact hw
  all_goals decide
theorem Sv.nw (h : Sv f ind c g w t) (r : B) : Nw (t ++ r) := by
  cases h
  case set ht _ => exact ht r
  all_goals exact nw_cons (by decide)
end
end Go.Ap

namespace Go.Ap

section
variable {f : Nat} {g g' x y : G} {ind r r' s w t w' t' : B} {m : Int} {c c' : Nat}
theorem tov_st {o : Option G} {l : B} : St 1 (tov f ind o ++ 59 :: l) := by
  cases o with
  | none => exact st_semi
  | some v => exact st_sp1 (by decide) (by decide) (by decide) (by decide) (by decide)
theorem tov_nw {o : Option G} {l : B} : Nw (tov f ind o ++ 59 :: l) := (tov_st (f := f)).nw
theorem fr_st {N : Int} {o : Option G} {l : B} : St 1 (fr N ++ (tov f ind o ++ 59 :: l)) := by
  unfold fr
  split
  · exact st_sp1 (by decide) (by decide) (by decide) (by decide) (by decide)
  split
  · exact st_sp1 (by decide) (by decide) (by decide) (by decide) (by decide)
  exact tov_st
theorem tov_dec (hP : PT f) {o o' : Option G} (h : ∀ v, o = some v → isV v.K ∧ ok f v) (h' : ∀ v, o' = some v → isV v.K ∧ ok f v) (e : tov f ind o ++ 59 :: r = tov f ind o' ++ 59 :: r') : o = o' ∧ r = r' := by
  cases o with
  | none =>
    cases o' with
    | none => injection e with _ e; exact ⟨rfl, e⟩
    | some v => injection e with e _; exact absurd e (by decide)
  | some v =>
    cases o' with
    | none => injection e with e _; exact absurd e (by decide)
    | some v' =>
      simp only [tov, List.cons_append, List.cons.injEq, true_and] at e
      obtain ⟨a1, a2⟩ := h v rfl
      obtain ⟨b1, b2⟩ := h' v' rfl
      obtain ⟨q1, q2⟩ := hP v v' ind _ _ a2 b2 (by omega) (by omega) st_semi st_semi e
      injection q2 with _ q2
      exact ⟨by rw [q1], q2⟩
theorem tov_ne {o : Option G} {b d : UInt8} {l z : B} (h : b ≠ 116 ∨ d ≠ 111) : 32 :: b :: d :: l ≠ tov f ind o ++ 59 :: z := by
  cases o with
  | none => intro e; injection e with e _; exact absurd e (by decide)
  | some v =>
    intro e
    simp only [tov, List.cons_append, List.cons.injEq, true_and] at e
    rcases h with h | h
    · exact h e.1
    exact h e.2.1
theorem fr_dec {N N' : Int} {o o' : Option G} (h : -1 ≤ N ∧ N ≤ 2147483647) (h' : -1 ≤ N' ∧ N' ≤ 2147483647) (e : fr N ++ (tov f ind o ++ 59 :: r) = fr N' ++ (tov f ind o' ++ 59 :: r')) : N = N' ∧ tov f ind o ++ 59 :: r = tov f ind o' ++ 59 :: r' := by
  have f1 : N < 0 → fr N = [32, 102, 114, 111, 110, 116] := fun q => by rw [fr, if_pos q]
  have f1' : N' < 0 → fr N' = [32, 102, 114, 111, 110, 116] := fun q => by rw [fr, if_pos q]
  have f2 : 0 < N → fr N = 32 :: 97 :: 102 :: 116 :: 101 :: 114 :: 32 :: nt N := fun q => by rw [fr, if_neg (by omega), if_pos q]
  have f2' : 0 < N' → fr N' = 32 :: 97 :: 102 :: 116 :: 101 :: 114 :: 32 :: nt N' := fun q => by rw [fr, if_neg (by omega), if_pos q]
  have f3 : N = 0 → fr N = [] := fun q => by subst q; rfl
  have f3' : N' = 0 → fr N' = [] := fun q => by subst q; rfl
  rcases (show N < 0 ∨ 0 < N ∨ N = 0 by omega) with q | q | q <;> rcases (show N' < 0 ∨ 0 < N' ∨ N' = 0 by omega) with q' | q' | q'
  · rw [f1 q, f1' q'] at e
    exact ⟨by omega, List.append_cancel_left e⟩
  · rw [f1 q, f2' q'] at e
    injection e with _ e; injection e with e _; exact absurd e (by decide)
  · rw [f1 q, f3' q'] at e
    exact absurd e (tov_ne (.inl (by decide)))
  · rw [f2 q, f1' q'] at e
    injection e with _ e; injection e with e _; exact absurd e (by decide)
  · rw [f2 q, f2' q'] at e
    simp only [List.cons_append, List.cons.injEq, true_and] at e
    obtain ⟨q1, q2⟩ := word_cut (nt_W (by omega)) (nt_W (by omega)) tov_nw tov_nw e
    exact ⟨nt_inj (by omega) (by omega) q1, q2⟩
  · rw [f2 q, f3' q'] at e
    exact absurd e (tov_ne (.inl (by decide)))
  · rw [f3 q, f1' q'] at e
    exact absurd e.symm (tov_ne (.inl (by decide)))
  · rw [f3 q, f2' q'] at e
    exact absurd e.symm (tov_ne (.inl (by decide)))
  rw [f3 q, f3' q'] at e
  exact ⟨by omega, e⟩
theorem els_dec (hB : PB f) {c a b c' a' b' : G} (ob : ok f b) (ob' : ok f b') (hb : b.K = 12) (hb' : b'.K = 12) (e : els (pr f) ind [c, a, b] ++ 10 :: r = els (pr f) ind [c', a', b'] ++ 10 :: r') : b = b' ∧ r = r' := by
  have e1 : ∀ (c a b : G), b.ks.isEmpty = true → els (pr f) ind [c, a, b] = [] := fun c a b h => by
    show (if b.ks.isEmpty = true then _ else _) = _
    rw [if_pos h]
  have e2 : ∀ (c a b : G), ¬ b.ks.isEmpty = true → els (pr f) ind [c, a, b] = 32 :: 101 :: 108 :: 115 :: 101 :: 32 :: pr f b ind := fun c a b h => by
    show (if b.ks.isEmpty = true then _ else _) = _
    rw [if_neg h]
  by_cases h : b.ks.isEmpty = true
  · by_cases h' : b'.ks.isEmpty = true
    · rw [e1 _ _ _ h, e1 _ _ _ h'] at e
      injection e with _ e
      exact ⟨by rw [blk_empty ob hb h, blk_empty ob' hb' h'], e⟩
    rw [e1 _ _ _ h, e2 _ _ _ h'] at e
    injection e with e _; exact absurd e (by decide)
  by_cases h' : b'.ks.isEmpty = true
  · rw [e2 _ _ _ h, e1 _ _ _ h'] at e
    injection e with e _; exact absurd e (by decide)
  rw [e2 _ _ _ h, e2 _ _ _ h'] at e
  simp only [List.cons_append, List.cons.injEq, true_and] at e
  obtain ⟨q1, q2⟩ := hB b b' ind _ _ ob ob' hb hb' e
  injection q2 with _ q2
  exact ⟨q1, q2⟩
theorem blk_st (h : ok f g) (hk : g.K = 12) {l : B} : St 1 (32 :: (pr f g ind ++ l)) := by
  obtain ⟨z, e⟩ := blk_text (ind := ind) h hk
  rw [e]
  exact st_sp1 (by decide) (by decide) (by decide) (by decide) (by decide)
theorem kw_inj {K K' : Int} (h : 15 ≤ K ∧ K ≤ 18) (h' : 15 ≤ K' ∧ K' ≤ 18) (e : kw K = kw K') : K = K' := by
  rcases (show K = 15 ∨ K = 16 ∨ K = 17 ∨ K = 18 by omega) with rfl | rfl | rfl | rfl <;> rcases (show K' = 15 ∨ K' = 16 ∨ K' = 17 ∨ K' = 18 by omega) with rfl | rfl | rfl | rfl <;> first | rfl | exact absurd e (by decide)
theorem kw_inj2 {K K' : Int} (h : K = 21 ∨ K = 22) (h' : K' = 21 ∨ K' = 22) (e : kw K = kw K') : K = K' := by
  rcases h with rfl | rfl <;> rcases h' with rfl | rfl <;> first | rfl | exact absurd e (by decide)
theorem sv_dec (hP : PT f) (hB : PB f) (h1 : Sv f ind c g w t) (h2 : Sv f ind c' g' w' t') (e : w ++ (t ++ 10 :: r) = w' ++ (t' ++ 10 :: r')) : g = g' ∧ r = r' := by
  obtain ⟨e1, e2⟩ := word_cut h1.all h2.all (h1.nw _) (h2.nw _) e
  have ec : c = c' := by rw [← h1.cs, ← h2.cs, e1]
  subst ec
  cases h1
  case var t1 x1 n1 ht1 hx1 ot1 ox1 =>
    cases h2
    case var t2 x2 n2 ht2 hx2 ot2 ox2 =>
      obtain ⟨y1, a1, _, rfl, p1⟩ := ty_of ot1 ht1
      obtain ⟨y2, a2, _, rfl, p2⟩ := ty_of ot2 ht2
      rw [p1, p2] at e2
      simp only [List.cons_append, List.append_assoc, List.nil_append, List.cons.injEq, true_and] at e2
      obtain ⟨q1, q2⟩ := word_cut n1.all n2.all (nw_cons (by decide)) (nw_cons (by decide)) e2
      injection q2 with _ q2
      obtain ⟨q3, q4⟩ := word_cut a1 a2 (nw_cons (by decide)) (nw_cons (by decide)) q2
      simp only [List.cons.injEq, true_and] at q4
      obtain ⟨q5, q6⟩ := hP _ _ ind _ _ ox1 ox2 hx1 hx2 st_semi st_semi q4
      simp only [List.cons.injEq, true_and] at q6
      subst q1; subst q3; subst q5
      exact ⟨rfl, q6⟩
  case word hK1 hx1 ox1 =>
    cases h2
    case word hK2 hx2 ox2 =>
      simp only [List.cons_append, List.append_assoc, List.nil_append, List.cons.injEq, true_and] at e2
      obtain ⟨q5, q6⟩ := hP _ _ ind _ _ ox1 ox2 hx1 hx2 st_semi st_semi e2
      simp only [List.cons.injEq, true_and] at q6
      have qk := kw_inj hK1 hK2 e1
      subst qk; subst q5
      exact ⟨rfl, q6⟩
  case post o1 n1 hN1 hx1 ox1 hv1 =>
    cases h2
    case post o2 n2 hN2 hx2 ox2 hv2 =>
      simp only [List.cons_append, List.append_assoc, List.nil_append, List.cons.injEq, true_and] at e2
      obtain ⟨q1, q2⟩ := word_cut n1.all n2.all (nw_cons (by decide)) (nw_cons (by decide)) e2
      injection q2 with _ q2
      obtain ⟨q3, q4⟩ := hP _ _ ind _ _ ox1 ox2 hx1 hx2 fr_st fr_st q2
      obtain ⟨q5, q6⟩ := fr_dec hN1 hN2 q4
      obtain ⟨q7, q8⟩ := tov_dec hP hv1 hv2 q6
      injection q8 with _ q8
      subst q1; subst q3; subst q5; subst q7
      exact ⟨rfl, q8⟩
  case spawn o1 hx1 ox1 hv1 =>
    cases h2
    case spawn o2 hx2 ox2 hv2 =>
      simp only [List.cons_append, List.append_assoc, List.nil_append, List.cons.injEq, true_and] at e2
      obtain ⟨q3, q4⟩ := hP _ _ ind _ _ ox1 ox2 hx1 hx2 tov_st tov_st e2
      obtain ⟨q7, q8⟩ := tov_dec hP hv1 hv2 q4
      injection q8 with _ q8
      subst q3; subst q7
      exact ⟨rfl, q8⟩
  case able hK1 n1 =>
    cases h2
    case able hK2 n2 =>
      simp only [List.cons_append, List.append_assoc, List.nil_append, List.cons.injEq, true_and] at e2
      obtain ⟨q1, q2⟩ := word_cut n1.all n2.all (nw_cons (by decide)) (nw_cons (by decide)) e2
      simp only [List.cons.injEq, true_and] at q2
      have qk := kw_inj2 hK1 hK2 e1
      subst qk; subst q1
      exact ⟨rfl, q2⟩
  case iff c1 a1 b1 hc1 ha1 hb1 oc1 oa1 ob1 =>
    cases h2
    case iff c2 a2 b2 hc2 ha2 hb2 oc2 oa2 ob2 =>
      simp only [List.cons_append, List.append_assoc, List.nil_append, List.cons.injEq, true_and] at e2
      obtain ⟨q1, q2⟩ := hP _ _ ind _ _ oc1 oc2 hc1 hc2 (blk_st oa1 ha1) (blk_st oa2 ha2) e2
      injection q2 with _ q2
      obtain ⟨q3, q4⟩ := hB _ _ ind _ _ oa1 oa2 ha1 ha2 q2
      obtain ⟨q5, q6⟩ := els_dec hB ob1 ob2 hb1 hb2 q4
      subst q1; subst q3; subst q5
      exact ⟨rfl, q6⟩
  case whil c1 a1 hc1 ha1 oc1 oa1 =>
    cases h2
    case whil c2 a2 hc2 ha2 oc2 oa2 =>
      simp only [List.cons_append, List.append_assoc, List.nil_append, List.cons.injEq, true_and] at e2
      obtain ⟨q1, q2⟩ := hP _ _ ind _ _ oc1 oc2 hc1 hc2 (blk_st oa1 ha1) (blk_st oa2 ha2) e2
      injection q2 with _ q2
      obtain ⟨q3, q4⟩ := hB _ _ ind _ _ oa1 oa2 ha1 ha2 q2
      injection q4 with _ q4
      subst q1; subst q3
      exact ⟨rfl, q4⟩
  case ret =>
    cases h2
    case ret =>
      simp only [List.cons_append, List.nil_append, List.cons.injEq, true_and] at e2
      exact ⟨rfl, e2⟩
  case set v1 x1 hv1 hx1 ov1 ox1 _ _ _ w1 =>
    cases h2
    case set v2 x2 hv2 hx2 ov2 ox2 _ _ _ w2 =>
      rw [← List.append_assoc, ← List.append_assoc, w1, w2] at e
      simp only [List.cons_append, List.append_assoc, List.nil_append] at e
      obtain ⟨q1, q2⟩ := hP _ _ ind _ _ ov1 ov2 (by omega) (by omega) (st_sp (by decide) (by decide) (by decide) (by decide) (.inr (by decide))) (st_sp (by decide) (by decide) (by decide) (by decide) (.inr (by decide))) e
      simp only [List.cons.injEq, true_and] at q2
      obtain ⟨q5, q6⟩ := hP _ _ ind _ _ ox1 ox2 hx1 hx2 st_semi st_semi q2
      simp only [List.cons.injEq, true_and] at q6
      subst q1; subst q5
      exact ⟨rfl, q6⟩
theorem ps_succ (hP : PT f) (hB : PB f) : El (f + 1) isS := fun g g' ind r r' o o' hs hs' e => by
  obtain ⟨c, w, t, e1, v1⟩ := sv_of (ind := ind) o hs
  obtain ⟨c', w', t', e2, v2⟩ := sv_of (ind := ind) o' hs'
  rw [e1, e2, List.append_assoc, List.append_assoc] at e
  exact sv_dec hP hB v1 v2 e
/-- All that is read in one way. -/
theorem all_dec : ∀ f, PT f ∧ PB f ∧ El f isS
  | 0 => ⟨fun _ _ _ _ _ h => h.elim, fun _ _ _ _ _ h => h.elim, fun _ _ _ _ _ h => h.elim⟩
  | f + 1 => by
    obtain ⟨h1, h2, h3⟩ := all_dec f
    exact ⟨p_succ h1 h2, pb_succ h3, ps_succ h1 h2⟩
end
end Go.Ap

namespace Go.Ap

section
variable {f : Nat} {g g' x y : G} {ind r r' s w t w' t' : B} {m : Int} {c c' : Nat}
theorem mem_of (h : ok f g) (hk : g.K = 4) : ∃ s y, Nm s ∧ AllW y ∧ y ≠ [] ∧ g = .mk 4 s 0 [.mk 5 y 0 []] ∧ ∀ ind, pr f g ind = s ++ 32 :: (y ++ [59]) := by
  cases f with
  | zero => exact h.elim
  | succ f =>
    obtain ⟨K, s, N, ks⟩ := g
    obtain ⟨hf, ho⟩ := h
    change K = 4 at hk
    subst hk
    cases hf
    case mem t ht h1 =>
      obtain ⟨y, a1, a2, rfl, p⟩ := ty_of (ho t (by simp)) ht
      refine ⟨s, y, h1, a1, a2, rfl, fun ind => ?_⟩
      have e : pr (f + 1) (.mk 4 s 0 [.mk 5 y 0 []]) ind = s ++ 32 :: (pr f (.mk 5 y 0 []) ind ++ [59]) := rfl
      rw [e, p]
    all_goals (exfalso; omega)
theorem mems_dec : ∀ {ks ks' : List G} {r r' : B}, (∀ k, k ∈ ks → ok f k ∧ k.K = 4) → (∀ k, k ∈ ks' → ok f k ∧ k.K = 4) → (ks.flatMap fun k => 32 :: pr f k ind) ++ 32 :: 125 :: r = (ks'.flatMap fun k => 32 :: pr f k ind) ++ 32 :: 125 :: r' → ks = ks' ∧ r = r'
  | [], [], r, r', _, _, e => by
    simp only [List.flatMap_nil, List.nil_append, List.cons.injEq, true_and] at e
    exact ⟨rfl, e⟩
  | [], k :: ks', r, r', _, h', e => by
    obtain ⟨s, y, n1, _, _, _, p⟩ := mem_of (h' k (by simp)).1 (h' k (by simp)).2
    rw [List.flatMap_cons, p] at e
    simp only [List.flatMap_nil, List.nil_append, List.cons_append, List.cons.injEq, true_and] at e
    cases s with
    | nil => exact absurd rfl n1.ne
    | cons b l =>
      injection e with e _
      have := n1.all b (by simp)
      rw [← e] at this
      exact absurd this (by decide)
  | k :: ks, [], r, r', h, _, e => by
    obtain ⟨s, y, n1, _, _, _, p⟩ := mem_of (h k (by simp)).1 (h k (by simp)).2
    rw [List.flatMap_cons, p] at e
    simp only [List.flatMap_nil, List.nil_append, List.cons_append, List.cons.injEq, true_and] at e
    cases s with
    | nil => exact absurd rfl n1.ne
    | cons b l =>
      injection e with e _
      have := n1.all b (by simp)
      rw [e] at this
      exact absurd this (by decide)
  | k :: ks, k' :: ks', r, r', h, h', e => by
    obtain ⟨s, y, n1, a1, _, g1, p⟩ := mem_of (h k (by simp)).1 (h k (by simp)).2
    obtain ⟨s', y', n1', a1', _, g1', p'⟩ := mem_of (h' k' (by simp)).1 (h' k' (by simp)).2
    rw [List.flatMap_cons, List.flatMap_cons, p, p'] at e
    simp only [List.cons_append, List.append_assoc, List.nil_append, List.cons.injEq, true_and] at e
    obtain ⟨q1, q2⟩ := word_cut n1.all n1'.all (nw_cons (by decide)) (nw_cons (by decide)) e
    injection q2 with _ q2
    obtain ⟨q3, q4⟩ := word_cut a1 a1' (nw_cons (by decide)) (nw_cons (by decide)) q2
    injection q4 with _ q4
    obtain ⟨q5, q6⟩ := mems_dec (fun q hq => h q (by simp [hq])) (fun q hq => h' q (by simp [hq])) q4
    exact ⟨by rw [g1, g1', q1, q3, q5], q6⟩
theorem lw_W (N : Int) : AllW (lw N) := by
  unfold lw
  split
  · decide
  split
  · decide
  split <;> decide
theorem lw_inj {N N' : Int} (h : 0 ≤ N ∧ N ≤ 3) (h' : 0 ≤ N' ∧ N' ≤ 3) (e : lw N = lw N') : N = N' := by
  rcases (show N = 0 ∨ N = 1 ∨ N = 2 ∨ N = 3 by omega) with rfl | rfl | rfl | rfl <;> rcases (show N' = 0 ∨ N' = 1 ∨ N' = 2 ∨ N' = 3 by omega) with rfl | rfl | rfl | rfl <;> first | rfl | exact absurd e (by decide)
theorem life_of (h : ok (f + 1) g) (hk : g.K = 9) : ∃ N b, (0 ≤ N ∧ N ≤ 3) ∧ b.K = 12 ∧ ok f b ∧ g = .mk 9 [] N [b] := by
  obtain ⟨K, s, N, ks⟩ := g
  obtain ⟨hf, ho⟩ := h
  change K = 9 at hk
  subst hk
  cases hf
  case life b hb h1 => exact ⟨N, b, h1, hb, ho b (by simp), rfl⟩
  all_goals (exfalso; omega)
theorem lives_dec : ∀ f, El f (· = 9)
  | 0 => fun _ _ _ _ _ h => h.elim
  | f + 1 => fun g g' ind r r' o o' hk hk' e => by
    obtain ⟨N, b, h1, hb, ob, rfl⟩ := life_of o hk
    obtain ⟨N', b', h1', hb', ob', rfl⟩ := life_of o' hk'
    have e0 : ∀ (N : Int) (b : G), pr (f + 1) (.mk 9 [] N [b]) ind = lw N ++ 32 :: pr f b ind := fun N b => rfl
    rw [e0, e0, List.append_assoc, List.append_assoc] at e
    obtain ⟨q1, q2⟩ := word_cut (lw_W N) (lw_W N') (nw_cons (by decide)) (nw_cons (by decide)) e
    injection q2 with _ q2
    obtain ⟨q3, q4⟩ := (all_dec f).2.1 b b' ind _ _ ob ob' hb hb' q2
    injection q4 with _ q4
    have qN := lw_inj h1 h1' q1
    subst qN; subst q3
    exact ⟨rfl, q4⟩
/-- What a declaration's word says. -/
def cd (w : B) : Nat :=
  if w = [108, 111, 111, 112, 101, 114] then 0 else if w = [99, 108, 97, 115, 115] then 1 else if w = [118, 97, 114] then 2 else if w = [102, 110] then 3 else if w = [99, 111, 109, 112] then 4 else if w = [101, 118, 101, 110, 116] then 5 else 6
end
/-- A declaration, by its word. -/
inductive Dv (f : Nat) (ind : B) : Nat → G → B → B → Prop
  | looper {s} (h : Nm s) : Dv f ind 0 (.mk 2 s 0 []) [108, 111, 111, 112, 101, 114] (32 :: (s ++ [59]))
  | cls {s ks} (h : Nm s) (hk : ∀ k, k ∈ ks → ok f k ∧ k.K = 4) : Dv f ind 1 (.mk 3 s 0 ks) [99, 108, 97, 115, 115] (32 :: (s ++ 32 :: 123 :: ((ks.flatMap fun k => 32 :: pr f k ind) ++ [32, 125])))
  | glob {s t} (h : Nm s) (ht : t.K = 5) (ot : ok f t) : Dv f ind 2 (.mk 6 s 0 [t]) [118, 97, 114] (32 :: (s ++ 32 :: (pr f t ind ++ [59])))
  | func {s b} (h : Nm s) (hb : b.K = 12) (ob : ok f b) : Dv f ind 3 (.mk 7 s 0 [b]) [102, 110] (32 :: (s ++ 32 :: pr f b ind))
  | comp {s u ks} (h : Nm s) (hu : u.K = 29) (ou : ok f u) (hk : ∀ k, k ∈ ks → ok f k ∧ k.K = 9) : Dv f ind 4 (.mk 8 s 0 (u :: ks)) [99, 111, 109, 112] (32 :: (s ++ 32 :: 111 :: 110 :: 32 :: (pr f u ind ++ 32 :: braces (pr f) ind ks)))
  | event {s N u b} (h : Nm s) (hN : N = 0 ∨ N = 1) (hu : u.K = 29) (hb : b.K = 12) (ou : ok f u) (ob : ok f b) : Dv f ind 5 (.mk 10 s N [u, b]) [101, 118, 101, 110, 116] (32 :: (s ++ 32 :: 111 :: 110 :: 32 :: (pr f u ind ++ (ew N ++ 32 :: pr f b ind))))
  | main {b} (hb : b.K = 12) (ob : ok f b) : Dv f ind 6 (.mk 11 [] 0 [b]) [109, 97, 105, 110] (32 :: pr f b ind)
section
variable {f : Nat} {g g' x y : G} {ind r r' s w t w' t' : B} {m : Int} {c c' : Nat}
theorem dv_of (h : ok (f + 1) g) (hs : isD g.K) : ∃ c w t, pr (f + 1) g ind = w ++ t ∧ Dv f ind c g w t := by
  obtain ⟨K, s, N, ks⟩ := g
  obtain ⟨hf, hk⟩ := h
  change isD K at hs
  cases hf <;> first | (exfalso; omega) | skip
  case looper => exact ⟨_, _, _, by rfl, .looper (by assumption)⟩
  case cls => exact ⟨_, _, _, by rfl, .cls (by assumption) (fun k h => ⟨hk k h, (by assumption : ∀ k, k ∈ ks → k.K = 4) k h⟩)⟩
  case glob => exact ⟨_, _, _, by rfl, .glob (by assumption) (by assumption) (hk _ (by simp))⟩
  case func => exact ⟨_, _, _, by rfl, .func (by assumption) (by assumption) (hk _ (by simp))⟩
  case comp u ks _ _ _ => exact ⟨_, _, _, by rfl, .comp (by assumption) (by assumption) (hk _ (by simp)) (fun k h => ⟨hk k (by simp [h]), (by assumption : ∀ k, k ∈ ks → k.K = 9) k h⟩)⟩
  case event => exact ⟨_, _, _, by rfl, .event (by assumption) (by assumption) (by assumption) (by assumption) (hk _ (by simp)) (hk _ (by simp))⟩
  case main => exact ⟨_, _, _, by rfl, .main (by assumption) (hk _ (by simp))⟩
theorem Dv.cd (h : Dv f ind c g w t) : cd w = c := by cases h <;> decide
theorem Dv.all (h : Dv f ind c g w t) : AllW w := by cases h <;> decide
theorem Dv.nw (h : Dv f ind c g w t) (r : B) : Nw (t ++ r) := by cases h <;> exact nw_cons (by decide)
theorem dv_dec (h1 : Dv f ind c g w t) (h2 : Dv f ind c' g' w' t') (e : w ++ (t ++ 10 :: r) = w' ++ (t' ++ 10 :: r')) : g = g' ∧ r = r' := by
  obtain ⟨hP, hB, _⟩ := all_dec f
  obtain ⟨e1, e2⟩ := word_cut h1.all h2.all (h1.nw _) (h2.nw _) e
  have ec : c = c' := by rw [← h1.cd, ← h2.cd, e1]
  subst ec
  cases h1
  case looper n1 =>
    cases h2
    case looper n2 =>
      simp only [List.cons_append, List.append_assoc, List.nil_append, List.cons.injEq, true_and] at e2
      obtain ⟨q1, q2⟩ := word_cut n1.all n2.all (nw_cons (by decide)) (nw_cons (by decide)) e2
      simp only [List.cons.injEq, true_and] at q2
      subst q1
      exact ⟨rfl, q2⟩
  case cls n1 k1 =>
    cases h2
    case cls n2 k2 =>
      simp only [List.cons_append, List.append_assoc, List.nil_append, List.cons.injEq, true_and] at e2
      obtain ⟨q1, q2⟩ := word_cut n1.all n2.all (nw_cons (by decide)) (nw_cons (by decide)) e2
      simp only [List.cons.injEq, true_and] at q2
      obtain ⟨q3, q4⟩ := mems_dec k1 k2 q2
      injection q4 with _ q4
      subst q1; subst q3
      exact ⟨rfl, q4⟩
  case glob t1 n1 ht1 ot1 =>
    cases h2
    case glob t2 n2 ht2 ot2 =>
      obtain ⟨y1, a1, _, rfl, p1⟩ := ty_of ot1 ht1
      obtain ⟨y2, a2, _, rfl, p2⟩ := ty_of ot2 ht2
      rw [p1, p2] at e2
      simp only [List.cons_append, List.append_assoc, List.nil_append, List.cons.injEq, true_and] at e2
      obtain ⟨q1, q2⟩ := word_cut n1.all n2.all (nw_cons (by decide)) (nw_cons (by decide)) e2
      injection q2 with _ q2
      obtain ⟨q3, q4⟩ := word_cut a1 a2 (nw_cons (by decide)) (nw_cons (by decide)) q2
      simp only [List.cons.injEq, true_and] at q4
      subst q1; subst q3
      exact ⟨rfl, q4⟩
  case func n1 hb1 ob1 =>
    cases h2
    case func n2 hb2 ob2 =>
      simp only [List.cons_append, List.append_assoc, List.nil_append, List.cons.injEq, true_and] at e2
      obtain ⟨q1, q2⟩ := word_cut n1.all n2.all (nw_cons (by decide)) (nw_cons (by decide)) e2
      injection q2 with _ q2
      obtain ⟨q3, q4⟩ := hB _ _ ind _ _ ob1 ob2 hb1 hb2 q2
      injection q4 with _ q4
      subst q1; subst q3
      exact ⟨rfl, q4⟩
  case comp u1 ks1 n1 hu1 ou1 k1 =>
    cases h2
    case comp u2 ks2 n2 hu2 ou2 k2 =>
      obtain ⟨y1, a1, rfl, p1⟩ := use_of ou1 hu1
      obtain ⟨y2, a2, rfl, p2⟩ := use_of ou2 hu2
      rw [p1, p2] at e2
      simp only [List.cons_append, List.append_assoc, List.nil_append, List.cons.injEq, true_and] at e2
      obtain ⟨q1, q2⟩ := word_cut n1.all n2.all (nw_cons (by decide)) (nw_cons (by decide)) e2
      simp only [List.cons.injEq, true_and] at q2
      obtain ⟨q3, q4⟩ := word_cut a1.all a2.all (nw_cons (by decide)) (nw_cons (by decide)) q2
      injection q4 with _ q4
      obtain ⟨q5, q6⟩ := br_dec (C := (· = 9)) (ind := ind) (lives_dec f) k1 k2 q4
      injection q6 with _ q6
      subst q1; subst q3; subst q5
      exact ⟨rfl, q6⟩
  case event N1 u1 b1 n1 hN1 hu1 hb1 ou1 ob1 =>
    cases h2
    case event N2 u2 b2 n2 hN2 hu2 hb2 ou2 ob2 =>
      obtain ⟨y1, a1, rfl, p1⟩ := use_of ou1 hu1
      obtain ⟨y2, a2, rfl, p2⟩ := use_of ou2 hu2
      rw [p1, p2] at e2
      simp only [List.cons_append, List.append_assoc, List.nil_append, List.cons.injEq, true_and] at e2
      obtain ⟨q1, q2⟩ := word_cut n1.all n2.all (nw_cons (by decide)) (nw_cons (by decide)) e2
      simp only [List.cons.injEq, true_and] at q2
      have hew : ∀ (N : Int) (l : B), Nw (ew N ++ l) := fun N l => by
        unfold ew
        split <;> exact nw_cons (by decide)
      obtain ⟨q3, q4⟩ := word_cut a1.all a2.all (hew _ _) (hew _ _) q2
      have qq : N1 = N2 ∧ pr f b1 ind ++ 10 :: r = pr f b2 ind ++ 10 :: r' := by
        have w0 : ew 0 = [32, 111, 102, 102] := rfl
        have w1 : ew 1 = [32, 111, 110] := rfl
        rcases hN1 with rfl | rfl <;> rcases hN2 with rfl | rfl
        · have := List.append_cancel_left q4
          injection this with _ this
          exact ⟨rfl, this⟩
        · rw [w0, w1] at q4
          injection q4 with _ q4; injection q4 with _ q4; injection q4 with q4 _; exact absurd q4 (by decide)
        · rw [w0, w1] at q4
          injection q4 with _ q4; injection q4 with _ q4; injection q4 with q4 _; exact absurd q4 (by decide)
        have := List.append_cancel_left q4
        injection this with _ this
        exact ⟨rfl, this⟩
      obtain ⟨qN, q5⟩ := qq
      obtain ⟨q6, q7⟩ := hB _ _ ind _ _ ob1 ob2 hb1 hb2 q5
      injection q7 with _ q7
      subst q1; subst q3; subst qN; subst q6
      exact ⟨rfl, q7⟩
  case main hb1 ob1 =>
    cases h2
    case main hb2 ob2 =>
      simp only [List.cons_append, List.cons.injEq, true_and] at e2
      obtain ⟨q3, q4⟩ := hB _ _ ind _ _ ob1 ob2 hb1 hb2 e2
      injection q4 with _ q4
      subst q3
      exact ⟨rfl, q4⟩
theorem decls_dec : ∀ f, El f isD
  | 0 => fun _ _ _ _ _ h => h.elim
  | f + 1 => fun g g' ind r r' o o' hs hs' e => by
    obtain ⟨c, w, t, e1, v1⟩ := dv_of (ind := ind) o hs
    obtain ⟨c', w', t', e2, v2⟩ := dv_of (ind := ind) o' hs'
    rw [e1, e2, List.append_assoc, List.append_assoc] at e
    exact dv_dec v1 v2 e
theorem prog_dec : ∀ {ks ks' : List G}, (∀ k, k ∈ ks → ok f k ∧ isD k.K) → (∀ k, k ∈ ks' → ok f k ∧ isD k.K) → (ks.flatMap fun k => pr f k ind ++ [10]) = (ks'.flatMap fun k => pr f k ind ++ [10]) → ks = ks'
  | [], [], _, _, _ => rfl
  | [], k :: ks', _, _, e => by simp at e
  | k :: ks, [], _, _, e => by simp at e
  | k :: ks, k' :: ks', h, h', e => by
    simp only [List.flatMap_cons, List.append_assoc, List.cons_append, List.nil_append] at e
    obtain ⟨q1, q2⟩ := decls_dec f k k' ind _ _ (h k (by simp)).1 (h' k' (by simp)).1 (h k (by simp)).2 (h' k' (by simp)).2 e
    rw [q1, prog_dec (fun q hq => h q (by simp [hq])) (fun q hq => h' q (by simp [hq])) q2]
/-- Trees that may be, of one text, are the same. -/
theorem tree_dec (h : ok f g) (h' : ok f g') (hk : g.K = 1) (hk' : g'.K = 1) (e : pr f g ind = pr f g' ind) : g = g' := by
  cases f with
  | zero => exact h.elim
  | succ f =>
    obtain ⟨K, s, N, ks⟩ := g
    obtain ⟨K', s', N', ks'⟩ := g'
    obtain ⟨hf, ho⟩ := h
    obtain ⟨hf', ho'⟩ := h'
    change K = 1 at hk
    change K' = 1 at hk'
    subst hk; subst hk'
    cases hf
    case prog p1 =>
      cases hf'
      case prog p2 =>
        have e : (ks.flatMap fun k => pr f k ind ++ [10]) = (ks'.flatMap fun k => pr f k ind ++ [10]) := e
        rw [prog_dec (fun k hk => ⟨ho k hk, p1 k hk⟩) (fun k hk => ⟨ho' k hk, p2 k hk⟩) e]
      all_goals (exfalso; omega)
    all_goals (exfalso; omega)
end
end Go.Ap

namespace Go.Proofs.YtoejddhaiogonaaDoor
open Go.X Go.Ap

theorem bt {a b : Bool} (h : (a && b) = true) : a = true ∧ b = true := by cases a <;> cases b <;> first | exact ⟨rfl, rfl⟩ | cases h
theorem isT_of {K : Int} (h : termK K = true) : isT K := by simpa [termK] using h
theorem isS_of {K : Int} (h : stmtK K = true) : isS K := by simpa [stmtK] using h
theorem isV_of {K : Int} (h : varK K = true) : Ap.isV K := by
  have : K = 29 ∨ K = 30 ∨ K = 31 := by simpa [varK] using h
  show 29 ≤ K ∧ K ≤ 31
  omega
theorem isD_of {K : Int} (h : declK K = true) : isD K := by simpa [declK] using h
theorem mem_eq {K k : Int} (h : memK [k] K = true) : K = k := by simpa [memK] using h
theorem no_text {s : ByteArray} (h : textOk none s = true) : s.toList = [] := by simpa [textOk] using h
theorem w_of {b : UInt8} (h : (letterB b || digitB b) = true) : isW b = true := by
  simp only [letterB, digitB, letterN, digitN, Bool.or_eq_true, Bool.and_eq_true, decide_eq_true_eq] at h
  simp only [isW, Bool.or_eq_true, Bool.and_eq_true, decide_eq_true_eq]
  omega
theorem g_of {b : UInt8} (h : digitB b = false) : isG b = false := by
  cases e : isG b with
  | false => rfl
  | true =>
    simp only [isG, Bool.and_eq_true, decide_eq_true_eq] at e
    have : digitB b = true := by simp only [digitB, digitN, Bool.and_eq_true, decide_eq_true_eq]; omega
    rw [this] at h; cases h
theorem kws_words : (kws.all fun l => wordS (strL l)) = true := by kernel_rfl
theorem strL_tl (l : List UInt8) : (strL l).toList = l := by rw [strL, ByteArray.toList_eq]
theorem word_same {s u : ByteArray} (h : s.toList = u.toList) : wordS s = wordS u := by
  have e : ∀ w, eqS w s = eqS w u := fun w => by
    rw [Bool.eq_iff_iff]
    simp [h]
  simp only [wordS, e]
theorem nm_of {s : ByteArray} (h : nameS s = true) : Nm s.toList := by
  obtain ⟨h1, _, h3, h4, h5⟩ := nameS_iff.1 h
  refine ⟨fun b hb => ?_, h1, fun b l e => ?_, fun hk => ?_⟩
  · obtain ⟨j, hj, rfl⟩ := List.mem_iff_getElem.1 hb
    rw [bAt_mem hj]
    exact w_of (h4 j hj)
  · refine g_of ?_
    rw [← h3, bAt, e]; rfl
  have := List.all_eq_true.1 kws_words _ hk
  rw [word_same (strL_tl _), h5] at this; cases this
theorem ty_text {s : ByteArray} (h : typS s = true) : AllW s.toList ∧ s.toList ≠ [] := by
  rw [typS, Bool.or_eq_true] at h
  rcases h with h | h
  · exact ⟨(nm_of h).all, (nm_of h).ne⟩
  have e : s.toList ∈ ([[105, 110, 116], [102, 110], [116, 111, 107], [104, 97, 110, 100], [97, 114, 114]] : List (List UInt8)) := by
    simpa [isIn, typL, strL] using h
  have key : ∀ l, l ∈ ([[105, 110, 116], [102, 110], [116, 111, 107], [104, 97, 110, 100], [97, 114, 114]] : List (List UInt8)) → AllW l ∧ l ≠ [] := by decide
  exact key _ e
theorem op_of {s : ByteArray} (h : isIn Go.Proofs.YtoejddhaiogonaaDoor.opL s = true) : s.toList ∈ Ap.opL := by
  simpa [isIn, Go.Proofs.YtoejddhaiogonaaDoor.opL, Ap.opL, strL] using h
theorem fits_of {F : FS} {s : ByteArray} {N : Int} {ks : List Int} (h : fitsF F s N ks = true) : textOk F.text s = true ∧ F.least ≤ N ∧ N ≤ F.most ∧ eachOk F.kids ks = true ∧ restOk F (ks.drop F.kids.length) = true := by
  rw [fitsF] at h
  obtain ⟨h1, h2⟩ := bt h
  obtain ⟨h3, h4⟩ := bt h2
  unfold headOk at h1
  simp only [Bool.and_eq_true, decide_eq_true_eq] at h1
  exact ⟨h1.1.1.1, h1.1.1.2, h1.1.2, h3, h4⟩
theorem form_mem {K : Int} : ∀ {T : List (Int × FS)} {F : FS}, formOf T K = some F → K ∈ T.map (·.1)
  | [], _, h => by cases h
  | (k, F) :: T, F', h => by
    rw [formOf] at h
    split at h
    · rename_i e; simp [e]
    exact List.mem_cons_of_mem _ (form_mem h)
theorem form_in {K : Int} {s : ByteArray} {N : Int} {kinds : List Int} (h : formOk K s N kinds = true) : K = 1 ∨ K = 2 ∨ K = 3 ∨ K = 4 ∨ K = 5 ∨ K = 6 ∨ K = 7 ∨ K = 8 ∨ K = 9 ∨ K = 10 ∨ K = 11 ∨ K = 12 ∨ K = 13 ∨ K = 14 ∨ K = 19 ∨ K = 20 ∨ K = 21 ∨ K = 22 ∨ K = 23 ∨ K = 24 ∨ K = 25 ∨ K = 26 ∨ K = 27 ∨ K = 28 ∨ K = 29 ∨ K = 30 ∨ K = 31 ∨ K = 32 ∨ K = 33 ∨ K = 36 ∨ K = 15 ∨ K = 16 ∨ K = 17 ∨ K = 18 ∨ K = 34 ∨ K = 35 := by
  cases e : formOf formT K with
  | none => rw [formOk, e] at h; cases h
  | some F => simpa [formT] using form_mem e
theorem fm_1 {s : ByteArray} {N : Int} {ks : List G} (h : formOk 1 s N (ks.map G.K) = true) : Fm 1 s.toList N ks := by
  obtain ⟨ht, hl, hm, he, hr⟩ := fits_of (F := _) h
  have hl : (0 : Int) ≤ N := hl
  have hm : N ≤ 0 := hm
  obtain rfl : N = 0 := by omega
  rw [no_text ht]
  match ks, he, hr with
  | l, he, hr =>
    have hr : (l.map G.K).all (declK) = true := hr
    exact .prog (fun k hk => isD_of (List.all_eq_true.1 hr _ (List.mem_map_of_mem hk)))
theorem fm_2 {s : ByteArray} {N : Int} {ks : List G} (h : formOk 2 s N (ks.map G.K) = true) : Fm 2 s.toList N ks := by
  obtain ⟨ht, hl, hm, he, hr⟩ := fits_of (F := _) h
  have hl : (0 : Int) ≤ N := hl
  have hm : N ≤ 0 := hm
  obtain rfl : N = 0 := by omega
  have n := nm_of ht
  match ks, he, hr with
  | [], he, _ =>
    exact .looper n
  | _ :: _, _, hr => exact absurd (show false = true from hr) (by decide)
theorem fm_3 {s : ByteArray} {N : Int} {ks : List G} (h : formOk 3 s N (ks.map G.K) = true) : Fm 3 s.toList N ks := by
  obtain ⟨ht, hl, hm, he, hr⟩ := fits_of (F := _) h
  have hl : (0 : Int) ≤ N := hl
  have hm : N ≤ 0 := hm
  obtain rfl : N = 0 := by omega
  have n := nm_of ht
  match ks, he, hr with
  | l, he, hr =>
    have hr : (l.map G.K).all (memK [4]) = true := hr
    exact .cls n (fun k hk => mem_eq (List.all_eq_true.1 hr _ (List.mem_map_of_mem hk)))
theorem fm_4 {s : ByteArray} {N : Int} {ks : List G} (h : formOk 4 s N (ks.map G.K) = true) : Fm 4 s.toList N ks := by
  obtain ⟨ht, hl, hm, he, hr⟩ := fits_of (F := _) h
  have hl : (0 : Int) ≤ N := hl
  have hm : N ≤ 0 := hm
  obtain rfl : N = 0 := by omega
  have n := nm_of ht
  match ks, he, hr with
  | [a], he, _ =>
    have he : (memK [5] a.K && true) = true := he
    obtain ⟨p0, he⟩ := bt he
    exact .mem n (mem_eq p0)
  | [], he, _ => simp [eachOk] at he
  | a :: _ :: _, _, hr => exact absurd (show false = true from hr) (by decide)
theorem fm_5 {s : ByteArray} {N : Int} {ks : List G} (h : formOk 5 s N (ks.map G.K) = true) : Fm 5 s.toList N ks := by
  obtain ⟨ht, hl, hm, he, hr⟩ := fits_of (F := _) h
  have hl : (0 : Int) ≤ N := hl
  have hm : N ≤ 0 := hm
  obtain rfl : N = 0 := by omega
  obtain ⟨w1, w2⟩ := ty_text ht
  match ks, he, hr with
  | [], he, _ =>
    exact .typ w1 w2
  | _ :: _, _, hr => exact absurd (show false = true from hr) (by decide)
theorem fm_6 {s : ByteArray} {N : Int} {ks : List G} (h : formOk 6 s N (ks.map G.K) = true) : Fm 6 s.toList N ks := by
  obtain ⟨ht, hl, hm, he, hr⟩ := fits_of (F := _) h
  have hl : (0 : Int) ≤ N := hl
  have hm : N ≤ 0 := hm
  obtain rfl : N = 0 := by omega
  have n := nm_of ht
  match ks, he, hr with
  | [a], he, _ =>
    have he : (memK [5] a.K && true) = true := he
    obtain ⟨p0, he⟩ := bt he
    exact .glob n (mem_eq p0)
  | [], he, _ => simp [eachOk] at he
  | a :: _ :: _, _, hr => exact absurd (show false = true from hr) (by decide)
theorem fm_7 {s : ByteArray} {N : Int} {ks : List G} (h : formOk 7 s N (ks.map G.K) = true) : Fm 7 s.toList N ks := by
  obtain ⟨ht, hl, hm, he, hr⟩ := fits_of (F := _) h
  have hl : (0 : Int) ≤ N := hl
  have hm : N ≤ 0 := hm
  obtain rfl : N = 0 := by omega
  have n := nm_of ht
  match ks, he, hr with
  | [a], he, _ =>
    have he : (memK [12] a.K && true) = true := he
    obtain ⟨p0, he⟩ := bt he
    exact .func n (mem_eq p0)
  | [], he, _ => simp [eachOk] at he
  | a :: _ :: _, _, hr => exact absurd (show false = true from hr) (by decide)
theorem fm_8 {s : ByteArray} {N : Int} {ks : List G} (h : formOk 8 s N (ks.map G.K) = true) : Fm 8 s.toList N ks := by
  obtain ⟨ht, hl, hm, he, hr⟩ := fits_of (F := _) h
  have hl : (0 : Int) ≤ N := hl
  have hm : N ≤ 0 := hm
  obtain rfl : N = 0 := by omega
  have n := nm_of ht
  match ks, he, hr with
  | a :: l, he, hr =>
    have he : (memK [29] a.K && true) = true := he
    obtain ⟨p0, he⟩ := bt he
    have hr : (l.map G.K).all (memK [9]) = true := hr
    exact .comp n (mem_eq p0) (fun k hk => mem_eq (List.all_eq_true.1 hr _ (List.mem_map_of_mem hk)))
  | [], he, _ => simp [eachOk] at he
theorem fm_9 {s : ByteArray} {N : Int} {ks : List G} (h : formOk 9 s N (ks.map G.K) = true) : Fm 9 s.toList N ks := by
  obtain ⟨ht, hl, hm, he, hr⟩ := fits_of (F := _) h
  have hl : (0 : Int) ≤ N := hl
  have hm : N ≤ 3 := hm
  rw [no_text ht]
  match ks, he, hr with
  | [a], he, _ =>
    have he : (memK [12] a.K && true) = true := he
    obtain ⟨p0, he⟩ := bt he
    exact .life ⟨hl, hm⟩ (mem_eq p0)
  | [], he, _ => simp [eachOk] at he
  | a :: _ :: _, _, hr => exact absurd (show false = true from hr) (by decide)
theorem fm_10 {s : ByteArray} {N : Int} {ks : List G} (h : formOk 10 s N (ks.map G.K) = true) : Fm 10 s.toList N ks := by
  obtain ⟨ht, hl, hm, he, hr⟩ := fits_of (F := _) h
  have hl : (0 : Int) ≤ N := hl
  have hm : N ≤ 1 := hm
  have n := nm_of ht
  match ks, he, hr with
  | [a, b], he, _ =>
    have he : (memK [29] a.K && (memK [12] b.K && true)) = true := he
    obtain ⟨p0, he⟩ := bt he
    obtain ⟨p1, he⟩ := bt he
    exact .event n (by omega) (mem_eq p0) (mem_eq p1)
  | [], he, _ => simp [eachOk] at he
  | [a], he, _ => simp [eachOk] at he
  | a :: b :: _ :: _, _, hr => exact absurd (show false = true from hr) (by decide)
theorem fm_11 {s : ByteArray} {N : Int} {ks : List G} (h : formOk 11 s N (ks.map G.K) = true) : Fm 11 s.toList N ks := by
  obtain ⟨ht, hl, hm, he, hr⟩ := fits_of (F := _) h
  have hl : (0 : Int) ≤ N := hl
  have hm : N ≤ 0 := hm
  obtain rfl : N = 0 := by omega
  rw [no_text ht]
  match ks, he, hr with
  | [a], he, _ =>
    have he : (memK [12] a.K && true) = true := he
    obtain ⟨p0, he⟩ := bt he
    exact .main (mem_eq p0)
  | [], he, _ => simp [eachOk] at he
  | a :: _ :: _, _, hr => exact absurd (show false = true from hr) (by decide)
theorem fm_12 {s : ByteArray} {N : Int} {ks : List G} (h : formOk 12 s N (ks.map G.K) = true) : Fm 12 s.toList N ks := by
  obtain ⟨ht, hl, hm, he, hr⟩ := fits_of (F := _) h
  have hl : (0 : Int) ≤ N := hl
  have hm : N ≤ 0 := hm
  obtain rfl : N = 0 := by omega
  rw [no_text ht]
  match ks, he, hr with
  | l, he, hr =>
    have hr : (l.map G.K).all (stmtK) = true := hr
    exact .block (fun k hk => isS_of (List.all_eq_true.1 hr _ (List.mem_map_of_mem hk)))
theorem fm_13 {s : ByteArray} {N : Int} {ks : List G} (h : formOk 13 s N (ks.map G.K) = true) : Fm 13 s.toList N ks := by
  obtain ⟨ht, hl, hm, he, hr⟩ := fits_of (F := _) h
  have hl : (0 : Int) ≤ N := hl
  have hm : N ≤ 0 := hm
  obtain rfl : N = 0 := by omega
  have n := nm_of ht
  match ks, he, hr with
  | [a, b], he, _ =>
    have he : (memK [5] a.K && (termK b.K && true)) = true := he
    obtain ⟨p0, he⟩ := bt he
    obtain ⟨p1, he⟩ := bt he
    exact .var n (mem_eq p0) (isT_of p1)
  | [], he, _ => simp [eachOk] at he
  | [a], he, _ => simp [eachOk] at he
  | a :: b :: _ :: _, _, hr => exact absurd (show false = true from hr) (by decide)
theorem fm_14 {s : ByteArray} {N : Int} {ks : List G} (h : formOk 14 s N (ks.map G.K) = true) : Fm 14 s.toList N ks := by
  obtain ⟨ht, hl, hm, he, hr⟩ := fits_of (F := _) h
  have hl : (0 : Int) ≤ N := hl
  have hm : N ≤ 0 := hm
  obtain rfl : N = 0 := by omega
  rw [no_text ht]
  match ks, he, hr with
  | [a, b], he, _ =>
    have he : (varK a.K && (termK b.K && true)) = true := he
    obtain ⟨p0, he⟩ := bt he
    obtain ⟨p1, he⟩ := bt he
    exact .set (isV_of p0) (isT_of p1)
  | [], he, _ => simp [eachOk] at he
  | [a], he, _ => simp [eachOk] at he
  | a :: b :: _ :: _, _, hr => exact absurd (show false = true from hr) (by decide)
theorem fm_15 {s : ByteArray} {N : Int} {ks : List G} (h : formOk 15 s N (ks.map G.K) = true) : Fm 15 s.toList N ks := by
  obtain ⟨ht, hl, hm, he, hr⟩ := fits_of (F := _) h
  have hl : (0 : Int) ≤ N := hl
  have hm : N ≤ 0 := hm
  obtain rfl : N = 0 := by omega
  rw [no_text ht]
  match ks, he, hr with
  | [a], he, _ =>
    have he : (termK a.K && true) = true := he
    obtain ⟨p0, he⟩ := bt he
    exact .word (by decide) (isT_of p0)
  | [], he, _ => simp [eachOk] at he
  | a :: _ :: _, _, hr => exact absurd (show false = true from hr) (by decide)
theorem fm_16 {s : ByteArray} {N : Int} {ks : List G} (h : formOk 16 s N (ks.map G.K) = true) : Fm 16 s.toList N ks := by
  obtain ⟨ht, hl, hm, he, hr⟩ := fits_of (F := _) h
  have hl : (0 : Int) ≤ N := hl
  have hm : N ≤ 0 := hm
  obtain rfl : N = 0 := by omega
  rw [no_text ht]
  match ks, he, hr with
  | [a], he, _ =>
    have he : (termK a.K && true) = true := he
    obtain ⟨p0, he⟩ := bt he
    exact .word (by decide) (isT_of p0)
  | [], he, _ => simp [eachOk] at he
  | a :: _ :: _, _, hr => exact absurd (show false = true from hr) (by decide)
theorem fm_17 {s : ByteArray} {N : Int} {ks : List G} (h : formOk 17 s N (ks.map G.K) = true) : Fm 17 s.toList N ks := by
  obtain ⟨ht, hl, hm, he, hr⟩ := fits_of (F := _) h
  have hl : (0 : Int) ≤ N := hl
  have hm : N ≤ 0 := hm
  obtain rfl : N = 0 := by omega
  rw [no_text ht]
  match ks, he, hr with
  | [a], he, _ =>
    have he : (termK a.K && true) = true := he
    obtain ⟨p0, he⟩ := bt he
    exact .word (by decide) (isT_of p0)
  | [], he, _ => simp [eachOk] at he
  | a :: _ :: _, _, hr => exact absurd (show false = true from hr) (by decide)
theorem fm_18 {s : ByteArray} {N : Int} {ks : List G} (h : formOk 18 s N (ks.map G.K) = true) : Fm 18 s.toList N ks := by
  obtain ⟨ht, hl, hm, he, hr⟩ := fits_of (F := _) h
  have hl : (0 : Int) ≤ N := hl
  have hm : N ≤ 0 := hm
  obtain rfl : N = 0 := by omega
  rw [no_text ht]
  match ks, he, hr with
  | [a], he, _ =>
    have he : (termK a.K && true) = true := he
    obtain ⟨p0, he⟩ := bt he
    exact .word (by decide) (isT_of p0)
  | [], he, _ => simp [eachOk] at he
  | a :: _ :: _, _, hr => exact absurd (show false = true from hr) (by decide)
theorem fm_19 {s : ByteArray} {N : Int} {ks : List G} (h : formOk 19 s N (ks.map G.K) = true) : Fm 19 s.toList N ks := by
  obtain ⟨ht, hl, hm, he, hr⟩ := fits_of (F := _) h
  have hl : (-1 : Int) ≤ N := hl
  have hm : N ≤ 2147483647 := hm
  have n := nm_of ht
  match ks, he, hr with
  | [a], he, _ =>
    have he : (termK a.K && true) = true := he
    obtain ⟨p0, he⟩ := bt he
    exact .post n ⟨hl, hm⟩ (isT_of p0)
  | [a, d], he, hr =>
    have he : (termK a.K && true) = true := he
    obtain ⟨p0, he⟩ := bt he
    have hr : varK d.K = true := hr
    exact .posto n ⟨hl, hm⟩ (isT_of p0) (isV_of hr)
  | [], he, _ => simp [eachOk] at he
  | a :: _ :: _ :: _, _, hr => exact absurd (show false = true from hr) (by decide)
theorem fm_20 {s : ByteArray} {N : Int} {ks : List G} (h : formOk 20 s N (ks.map G.K) = true) : Fm 20 s.toList N ks := by
  obtain ⟨ht, hl, hm, he, hr⟩ := fits_of (F := _) h
  have hl : (0 : Int) ≤ N := hl
  have hm : N ≤ 0 := hm
  obtain rfl : N = 0 := by omega
  rw [no_text ht]
  match ks, he, hr with
  | [a], he, _ =>
    have he : (termK a.K && true) = true := he
    obtain ⟨p0, he⟩ := bt he
    exact .spawn (isT_of p0)
  | [a, d], he, hr =>
    have he : (termK a.K && true) = true := he
    obtain ⟨p0, he⟩ := bt he
    have hr : varK d.K = true := hr
    exact .spawno (isT_of p0) (isV_of hr)
  | [], he, _ => simp [eachOk] at he
  | a :: _ :: _ :: _, _, hr => exact absurd (show false = true from hr) (by decide)
theorem fm_21 {s : ByteArray} {N : Int} {ks : List G} (h : formOk 21 s N (ks.map G.K) = true) : Fm 21 s.toList N ks := by
  obtain ⟨ht, hl, hm, he, hr⟩ := fits_of (F := _) h
  have hl : (0 : Int) ≤ N := hl
  have hm : N ≤ 0 := hm
  obtain rfl : N = 0 := by omega
  have n := nm_of ht
  match ks, he, hr with
  | [], he, _ =>
    exact .able (by decide) n
  | _ :: _, _, hr => exact absurd (show false = true from hr) (by decide)
theorem fm_22 {s : ByteArray} {N : Int} {ks : List G} (h : formOk 22 s N (ks.map G.K) = true) : Fm 22 s.toList N ks := by
  obtain ⟨ht, hl, hm, he, hr⟩ := fits_of (F := _) h
  have hl : (0 : Int) ≤ N := hl
  have hm : N ≤ 0 := hm
  obtain rfl : N = 0 := by omega
  have n := nm_of ht
  match ks, he, hr with
  | [], he, _ =>
    exact .able (by decide) n
  | _ :: _, _, hr => exact absurd (show false = true from hr) (by decide)
theorem fm_23 {s : ByteArray} {N : Int} {ks : List G} (h : formOk 23 s N (ks.map G.K) = true) : Fm 23 s.toList N ks := by
  obtain ⟨ht, hl, hm, he, hr⟩ := fits_of (F := _) h
  have hl : (0 : Int) ≤ N := hl
  have hm : N ≤ 0 := hm
  obtain rfl : N = 0 := by omega
  rw [no_text ht]
  match ks, he, hr with
  | [a, b, c], he, _ =>
    have he : (termK a.K && (memK [12] b.K && (memK [12] c.K && true))) = true := he
    obtain ⟨p0, he⟩ := bt he
    obtain ⟨p1, he⟩ := bt he
    obtain ⟨p2, he⟩ := bt he
    exact .iff (isT_of p0) (mem_eq p1) (mem_eq p2)
  | [], he, _ => simp [eachOk] at he
  | [a], he, _ => simp [eachOk] at he
  | [a, b], he, _ => simp [eachOk] at he
  | a :: b :: c :: _ :: _, _, hr => exact absurd (show false = true from hr) (by decide)
theorem fm_24 {s : ByteArray} {N : Int} {ks : List G} (h : formOk 24 s N (ks.map G.K) = true) : Fm 24 s.toList N ks := by
  obtain ⟨ht, hl, hm, he, hr⟩ := fits_of (F := _) h
  have hl : (0 : Int) ≤ N := hl
  have hm : N ≤ 0 := hm
  obtain rfl : N = 0 := by omega
  rw [no_text ht]
  match ks, he, hr with
  | [a, b], he, _ =>
    have he : (termK a.K && (memK [12] b.K && true)) = true := he
    obtain ⟨p0, he⟩ := bt he
    obtain ⟨p1, he⟩ := bt he
    exact .whil (isT_of p0) (mem_eq p1)
  | [], he, _ => simp [eachOk] at he
  | [a], he, _ => simp [eachOk] at he
  | a :: b :: _ :: _, _, hr => exact absurd (show false = true from hr) (by decide)
theorem fm_25 {s : ByteArray} {N : Int} {ks : List G} (h : formOk 25 s N (ks.map G.K) = true) : Fm 25 s.toList N ks := by
  obtain ⟨ht, hl, hm, he, hr⟩ := fits_of (F := _) h
  have hl : (0 : Int) ≤ N := hl
  have hm : N ≤ 0 := hm
  obtain rfl : N = 0 := by omega
  rw [no_text ht]
  match ks, he, hr with
  | [], he, _ =>
    exact .ret 
  | _ :: _, _, hr => exact absurd (show false = true from hr) (by decide)
theorem fm_26 {s : ByteArray} {N : Int} {ks : List G} (h : formOk 26 s N (ks.map G.K) = true) : Fm 26 s.toList N ks := by
  obtain ⟨ht, hl, hm, he, hr⟩ := fits_of (F := _) h
  have hl : (0 : Int) ≤ N := hl
  have hm : N ≤ 2147483647 := hm
  rw [no_text ht]
  match ks, he, hr with
  | [], he, _ =>
    exact .num ⟨hl, hm⟩
  | _ :: _, _, hr => exact absurd (show false = true from hr) (by decide)
theorem fm_27 {s : ByteArray} {N : Int} {ks : List G} (h : formOk 27 s N (ks.map G.K) = true) : Fm 27 s.toList N ks := by
  obtain ⟨ht, hl, hm, he, hr⟩ := fits_of (F := _) h
  have hl : (0 : Int) ≤ N := hl
  have hm : N ≤ 0 := hm
  obtain rfl : N = 0 := by omega
  rw [no_text ht]
  match ks, he, hr with
  | [], he, _ =>
    exact .null 
  | _ :: _, _, hr => exact absurd (show false = true from hr) (by decide)
theorem fm_28 {s : ByteArray} {N : Int} {ks : List G} (h : formOk 28 s N (ks.map G.K) = true) : Fm 28 s.toList N ks := by
  obtain ⟨ht, hl, hm, he, hr⟩ := fits_of (F := _) h
  have hl : (0 : Int) ≤ N := hl
  have hm : N ≤ 0 := hm
  obtain rfl : N = 0 := by omega
  rw [no_text ht]
  match ks, he, hr with
  | [], he, _ =>
    exact .it 
  | _ :: _, _, hr => exact absurd (show false = true from hr) (by decide)
theorem fm_29 {s : ByteArray} {N : Int} {ks : List G} (h : formOk 29 s N (ks.map G.K) = true) : Fm 29 s.toList N ks := by
  obtain ⟨ht, hl, hm, he, hr⟩ := fits_of (F := _) h
  have hl : (0 : Int) ≤ N := hl
  have hm : N ≤ 0 := hm
  obtain rfl : N = 0 := by omega
  have n := nm_of ht
  match ks, he, hr with
  | [], he, _ =>
    exact .use n
  | _ :: _, _, hr => exact absurd (show false = true from hr) (by decide)
theorem fm_30 {s : ByteArray} {N : Int} {ks : List G} (h : formOk 30 s N (ks.map G.K) = true) : Fm 30 s.toList N ks := by
  obtain ⟨ht, hl, hm, he, hr⟩ := fits_of (F := _) h
  have hl : (0 : Int) ≤ N := hl
  have hm : N ≤ 0 := hm
  obtain rfl : N = 0 := by omega
  have n := nm_of ht
  match ks, he, hr with
  | [a], he, _ =>
    have he : (termK a.K && true) = true := he
    obtain ⟨p0, he⟩ := bt he
    exact .dot n (isT_of p0)
  | [], he, _ => simp [eachOk] at he
  | a :: _ :: _, _, hr => exact absurd (show false = true from hr) (by decide)
theorem fm_31 {s : ByteArray} {N : Int} {ks : List G} (h : formOk 31 s N (ks.map G.K) = true) : Fm 31 s.toList N ks := by
  obtain ⟨ht, hl, hm, he, hr⟩ := fits_of (F := _) h
  have hl : (0 : Int) ≤ N := hl
  have hm : N ≤ 0 := hm
  obtain rfl : N = 0 := by omega
  rw [no_text ht]
  match ks, he, hr with
  | [a, b], he, _ =>
    have he : (termK a.K && (termK b.K && true)) = true := he
    obtain ⟨p0, he⟩ := bt he
    obtain ⟨p1, he⟩ := bt he
    exact .ix (isT_of p0) (isT_of p1)
  | [], he, _ => simp [eachOk] at he
  | [a], he, _ => simp [eachOk] at he
  | a :: b :: _ :: _, _, hr => exact absurd (show false = true from hr) (by decide)
theorem fm_32 {s : ByteArray} {N : Int} {ks : List G} (h : formOk 32 s N (ks.map G.K) = true) : Fm 32 s.toList N ks := by
  obtain ⟨ht, hl, hm, he, hr⟩ := fits_of (F := _) h
  have hl : (0 : Int) ≤ N := hl
  have hm : N ≤ 0 := hm
  obtain rfl : N = 0 := by omega
  have n := op_of ht
  match ks, he, hr with
  | [a, b], he, _ =>
    have he : (termK a.K && (termK b.K && true)) = true := he
    obtain ⟨p0, he⟩ := bt he
    obtain ⟨p1, he⟩ := bt he
    exact .op n (isT_of p0) (isT_of p1)
  | [], he, _ => simp [eachOk] at he
  | [a], he, _ => simp [eachOk] at he
  | a :: b :: _ :: _, _, hr => exact absurd (show false = true from hr) (by decide)
theorem fm_33 {s : ByteArray} {N : Int} {ks : List G} (h : formOk 33 s N (ks.map G.K) = true) : Fm 33 s.toList N ks := by
  obtain ⟨ht, hl, hm, he, hr⟩ := fits_of (F := _) h
  have hl : (0 : Int) ≤ N := hl
  have hm : N ≤ 0 := hm
  obtain rfl : N = 0 := by omega
  have n := nm_of ht
  match ks, he, hr with
  | [], he, _ =>
    exact .new n
  | _ :: _, _, hr => exact absurd (show false = true from hr) (by decide)
theorem fm_34 {s : ByteArray} {N : Int} {ks : List G} (h : formOk 34 s N (ks.map G.K) = true) : Fm 34 s.toList N ks := by
  obtain ⟨ht, hl, hm, he, hr⟩ := fits_of (F := _) h
  have hl : (0 : Int) ≤ N := hl
  have hm : N ≤ 0 := hm
  obtain rfl : N = 0 := by omega
  rw [no_text ht]
  match ks, he, hr with
  | [a], he, _ =>
    have he : (termK a.K && true) = true := he
    obtain ⟨p0, he⟩ := bt he
    exact .arr (by decide) (isT_of p0)
  | [], he, _ => simp [eachOk] at he
  | a :: _ :: _, _, hr => exact absurd (show false = true from hr) (by decide)
theorem fm_35 {s : ByteArray} {N : Int} {ks : List G} (h : formOk 35 s N (ks.map G.K) = true) : Fm 35 s.toList N ks := by
  obtain ⟨ht, hl, hm, he, hr⟩ := fits_of (F := _) h
  have hl : (0 : Int) ≤ N := hl
  have hm : N ≤ 0 := hm
  obtain rfl : N = 0 := by omega
  rw [no_text ht]
  match ks, he, hr with
  | [a], he, _ =>
    have he : (termK a.K && true) = true := he
    obtain ⟨p0, he⟩ := bt he
    exact .arr (by decide) (isT_of p0)
  | [], he, _ => simp [eachOk] at he
  | a :: _ :: _, _, hr => exact absurd (show false = true from hr) (by decide)
theorem fm_36 {s : ByteArray} {N : Int} {ks : List G} (h : formOk 36 s N (ks.map G.K) = true) : Fm 36 s.toList N ks := by
  obtain ⟨ht, hl, hm, he, hr⟩ := fits_of (F := _) h
  have hl : (0 : Int) ≤ N := hl
  have hm : N ≤ 0 := hm
  obtain rfl : N = 0 := by omega
  rw [no_text ht]
  match ks, he, hr with
  | [a], he, _ =>
    have he : (memK [12] a.K && true) = true := he
    obtain ⟨p0, he⟩ := bt he
    exact .fn (mem_eq p0)
  | [], he, _ => simp [eachOk] at he
  | a :: _ :: _, _, hr => exact absurd (show false = true from hr) (by decide)
theorem form_fm {K : Int} {s : ByteArray} {N : Int} {ks : List G} (h : formOk K s N (ks.map G.K) = true) : Fm K s.toList N ks := by
  have hK := form_in h
  rcases hK with rfl | rfl | rfl | rfl | rfl | rfl | rfl | rfl | rfl | rfl | rfl | rfl | rfl | rfl | rfl | rfl | rfl | rfl | rfl | rfl | rfl | rfl | rfl | rfl | rfl | rfl | rfl | rfl | rfl | rfl | rfl | rfl | rfl | rfl | rfl | rfl
  · exact fm_1 h
  · exact fm_2 h
  · exact fm_3 h
  · exact fm_4 h
  · exact fm_5 h
  · exact fm_6 h
  · exact fm_7 h
  · exact fm_8 h
  · exact fm_9 h
  · exact fm_10 h
  · exact fm_11 h
  · exact fm_12 h
  · exact fm_13 h
  · exact fm_14 h
  · exact fm_19 h
  · exact fm_20 h
  · exact fm_21 h
  · exact fm_22 h
  · exact fm_23 h
  · exact fm_24 h
  · exact fm_25 h
  · exact fm_26 h
  · exact fm_27 h
  · exact fm_28 h
  · exact fm_29 h
  · exact fm_30 h
  · exact fm_31 h
  · exact fm_32 h
  · exact fm_33 h
  · exact fm_36 h
  · exact fm_15 h
  · exact fm_16 h
  · exact fm_17 h
  · exact fm_18 h
  · exact fm_34 h
  exact fm_35 h
end Go.Proofs.YtoejddhaiogonaaDoor

namespace Go.Proofs.YtoejddhaiogonaaDoor
open Go.X Go.Ap

theorem fl_range {α β : Type} {F : α → List β} {Gf : Nat → List β} : ∀ {l : List α}, (∀ i k, l[i]? = some k → Gf i = F k) → (List.range l.length).flatMap Gf = l.flatMap F
  | [], _ => rfl
  | a :: l, h => by
    rw [List.length_cons, List.range_succ_eq_map, List.flatMap_cons, List.flatMap_cons, h 0 a rfl, List.flatMap_map, fl_range (Gf := fun i => Gf (i + 1)) fun i k e => h (i + 1) k (by simpa using e)]
theorem lit_tl (l : List UInt8) : (⟨l.toArray⟩ : ByteArray).toList = l := ByteArray.toList_eq _
theorem cl1 (a : ByteArray) : catL [a] = a.toList := by simp [catL]
theorem tl_app (a b : ByteArray) : (a ++ b).toList = a.toList ++ b.toList := by simp only [ByteArray.toList_eq, ByteArray.data_append, Array.toList_append]

section
variable {rec : Nat → ByteArray → List UInt8} {prr : Pr} {T : List Tw} {g : Int → G}
/-- A kid is what is said. -/
structure KidIs (rec : Nat → ByteArray → List UInt8) (prr : Pr) (T : List Tw) (g : Int → G) (k : Int) (w' : Tw) : Prop where
  tw : T[k.toNat]? = some w'
  K : (g k).K = w'.K
  s : (g k).s = w'.s.toList
  n : (g k).ks.length = w'.kids.length
  r : ∀ ind : ByteArray, rec k.toNat ind = prr (g k) ind.toList
theorem binds_bg {K : Int} {s : ByteArray} {x : G} (h : isT K) (hK : x.K = K) (hs : x.s = s.toList) : bindsK K s = bg x := by
  unfold bindsK bg
  rw [hK, hs]
  have ht : termK K = true := by simpa [termK] using h
  rw [ht]
  rfl
theorem kid_no {w w' : Tw} {ind : ByteArray} {i : Nat} {k : Int} (hi : w.kids[i]? = some k) (h : KidIs rec prr T g k w') (hm : mustK w.K w.s i = 0) : kidT rec T w ind i = prr (g k) ind.toList := by
  have hp : parenK w.K w.s i w'.K w'.s = false := by
    rw [parenK, hm, Bool.and_eq_false_iff]
    right
    have : 0 ≤ bindsK w'.K w'.s := by
      unfold bindsK
      repeat' split
      all_goals omega
    simpa using this
  simp only [kidT, hi, h.tw, hp, h.r, Bool.false_eq_true, if_false]
theorem kid_m {w w' : Tw} {ind : ByteArray} {i : Nat} {k : Int} (hi : w.kids[i]? = some k) (h : KidIs rec prr T g k w') (ht : isT (g k).K) : kidT rec T w ind i = kt prr (mustK w.K w.s i) (g k) ind.toList := by
  have hT : isT w'.K := by rw [← h.K]; exact ht
  have hp : parenK w.K w.s i w'.K w'.s = decide (bg (g k) < mustK w.K w.s i) := by
    have : termK w'.K = true := by simpa [termK] using hT
    rw [parenK, this, binds_bg hT h.K h.s, Bool.true_and]
  simp only [kidT, hi, h.tw, hp, h.r, kt, decide_eq_true_eq, cl1, lit_tl]
  rfl
theorem must_0 {K : Int} {s : ByteArray} {i : Int} (h : K ≠ 30 ∧ K ≠ 31 ∧ K ≠ 32 ∧ K ≠ 34 ∧ K ≠ 35) : mustK K s i = 0 := by
  unfold mustK
  rw [if_neg h.2.2.1, if_neg (by omega), if_neg (by omega)]
theorem bo_binds {s : ByteArray} : bindsK 32 s = bo s.toList := by
  unfold bindsK bo
  rw [if_pos rfl]
theorem must_L {s : ByteArray} : mustK 32 s ((0 : Nat) : Int) = mL s.toList := by
  unfold mustK mL
  rw [if_pos rfl, bo_binds]
  split <;> omega
theorem must_R {s : ByteArray} : mustK 32 s ((1 : Nat) : Int) = mR s.toList := by
  unfold mustK mR
  rw [if_pos rfl, bo_binds]
  split <;> omega
theorem row_all {w : Tw} {ind : ByteArray} (H : ∀ k, k ∈ w.kids → ∃ w', KidIs rec prr T g k w') (hm : ∀ i : Int, mustK w.K w.s i = 0) (word : ByteArray) : rowT rec T w ind word 0 = word.toList ++ (w.kids.map g).flatMap fun k => 32 :: prr k ind.toList := by
  rw [rowT, cl1, Nat.sub_zero, fl_range (F := fun k => 32 :: prr (g k) ind.toList) fun i k hi => ?_, List.flatMap_map]
  obtain ⟨w', h⟩ := H k (List.mem_of_getElem? hi)
  rw [Nat.zero_add, kid_no hi h (hm i), cl1, lit_tl]; rfl
theorem row_1 {w : Tw} {ind : ByteArray} (h : w.kids.length = 1) (word : ByteArray) : rowT rec T w ind word 0 = word.toList ++ 32 :: kidT rec T w ind 0 := by
  rw [rowT, cl1, h]; simp [catL]
theorem row_2 {w : Tw} {ind : ByteArray} (h : w.kids.length = 2) (word : ByteArray) : rowT rec T w ind word 1 = word.toList ++ 32 :: kidT rec T w ind 1 := by
  rw [rowT, cl1, h]; simp [catL]
theorem braces_all {ind : ByteArray} : ∀ {l : List Int}, (∀ k, k ∈ l → ∃ w', KidIs rec prr T g k w') → bracesT rec ind l = braces prr ind.toList (l.map g)
  | [], _ => by simp [bracesT, braces, catL]
  | a :: l, H => by
    have key : ∀ l : List Int, (∀ k, k ∈ l → ∃ w', KidIs rec prr T g k w') → (l.flatMap fun k => catL [ind ++ ⟨#[32, 32]⟩] ++ rec k.toNat (ind ++ ⟨#[32, 32]⟩) ++ catL [⟨#[10]⟩]) = lns prr ind.toList (l.map g) := by
      intro l
      induction l with
      | nil => intro _; rfl
      | cons b m ih =>
        intro H
        obtain ⟨w', h⟩ := H b (by simp)
        have := ih fun k hk => H k (by simp [hk])
        simp only [lns] at this ⊢
        rw [List.map_cons, List.flatMap_cons, List.flatMap_cons, this, h.r, cl1, cl1, tl_app, lit_tl, lit_tl]
        simp
    have e := key (a :: l) H
    rw [bracesT, if_neg (by simp), e, braces]
    simp [catL]
end
end Go.Proofs.YtoejddhaiogonaaDoor

namespace Go.Proofs.YtoejddhaiogonaaDoor
open Go.X Go.Ap

theorem map_1 {α β : Type} {f : α → β} {l : List α} {x : β} (h : l.map f = [x]) : ∃ a, l = [a] ∧ f a = x := by
  match l, h with
  | [a], h => injection h with h _; exact ⟨a, rfl, h⟩
  | [], h => cases h
  | _ :: _ :: _, h => injection h with _ h; cases h
theorem map_2 {α β : Type} {f : α → β} {l : List α} {x y : β} (h : l.map f = [x, y]) : ∃ a b, l = [a, b] ∧ f a = x ∧ f b = y := by
  match l, h with
  | a :: m, h =>
    injection h with h1 h2
    obtain ⟨b, rfl, h3⟩ := map_1 h2
    exact ⟨a, b, rfl, h1, h3⟩
  | [], h => cases h
theorem map_3 {α β : Type} {f : α → β} {l : List α} {x y z : β} (h : l.map f = [x, y, z]) : ∃ a b c, l = [a, b, c] ∧ f a = x ∧ f b = y ∧ f c = z := by
  match l, h with
  | a :: m, h =>
    injection h with h1 h2
    obtain ⟨b, c, rfl, h3, h4⟩ := map_2 h2
    exact ⟨a, b, c, rfl, h1, h3, h4⟩
  | [], h => cases h
theorem map_c {α β : Type} {f : α → β} {l : List α} {x : β} {m : List β} (h : l.map f = x :: m) : ∃ a n, l = a :: n ∧ f a = x ∧ n.map f = m := by
  match l, h with
  | a :: n, h => injection h with h1 h2; exact ⟨a, n, rfl, h1, h2⟩
  | [], h => cases h
section
variable {rec : Nat → ByteArray → List UInt8} {prr : Pr} {T : List Tw} {g : Int → G}
/-- A twig's text. -/
theorem tw_bd {w : Tw} {ind : ByteArray} {sl : B} {gs : List G} (H : ∀ k, k ∈ w.kids → ∃ w', KidIs rec prr T g k w') (es : w.s.toList = sl) (eg : w.kids.map g = gs) (F : Fm w.K sl w.N gs) : twT rec T w ind = bd prr w.K sl w.N gs ind.toList := by
  obtain ⟨K, s, N, L, Co, kv, kids⟩ := w
  simp only at H es eg F ⊢
  have row0 : ∀ word : ByteArray, (∀ i : Int, mustK K s i = 0) → rowT rec T ⟨K, s, N, L, Co, kv, kids⟩ ind word 0 = word.toList ++ gs.flatMap fun k => 32 :: prr k ind.toList := fun word hm => by
    rw [row_all (w := ⟨K, s, N, L, Co, kv, kids⟩) H hm word, ← eg]
  have no : ∀ (i : Nat) (k : Int), kids[i]? = some k → (∀ i : Int, mustK K s i = 0) → kidT rec T ⟨K, s, N, L, Co, kv, kids⟩ ind i = prr (g k) ind.toList := fun i k hi hm => by
    obtain ⟨w', h⟩ := H k (List.mem_of_getElem? hi)
    exact kid_no (w := ⟨K, s, N, L, Co, kv, kids⟩) hi h (hm i)
  have yes : ∀ (i : Nat) (k : Int), kids[i]? = some k → isT (g k).K → kidT rec T ⟨K, s, N, L, Co, kv, kids⟩ ind i = kt prr (mustK K s i) (g k) ind.toList := fun i k hi ht => by
    obtain ⟨w', h⟩ := H k (List.mem_of_getElem? hi)
    exact kid_m (w := ⟨K, s, N, L, Co, kv, kids⟩) hi h ht
  cases F
  case prog h =>
    show kids.flatMap (fun k => rec k.toNat ind ++ catL [⟨#[10]⟩]) = gs.flatMap fun k => prr k ind.toList ++ [10]
    rw [← eg, List.flatMap_map]
    have : ∀ l : List Int, (∀ k, k ∈ l → ∃ w', KidIs rec prr T g k w') → l.flatMap (fun k => rec k.toNat ind ++ catL [⟨#[10]⟩]) = l.flatMap fun k => prr (g k) ind.toList ++ [10] := fun l => by
      induction l with
      | nil => intro _; rfl
      | cons a l ih =>
        intro H
        obtain ⟨w', h⟩ := H a (by simp)
        rw [List.flatMap_cons, List.flatMap_cons, ih fun k hk => H k (by simp [hk]), h.r]
        simp [catL, es, tl_app]
    exact this kids H
  case looper h =>
    show catL [⟨#[108, 111, 111, 112, 101, 114, 32]⟩, s, ⟨#[59]⟩] = [108, 111, 111, 112, 101, 114, 32] ++ (sl ++ [59])
    simp [catL, es, tl_app]
  case cls h hk =>
    show rowT rec T _ ind (⟨#[99, 108, 97, 115, 115, 32]⟩ ++ s ++ ⟨#[32, 123]⟩) 0 ++ catL [⟨#[32, 125]⟩] = [99, 108, 97, 115, 115, 32] ++ (sl ++ 32 :: 123 :: ((gs.flatMap fun k => 32 :: prr k ind.toList) ++ [32, 125]))
    rw [row0 _ fun _ => must_0 (by decide)]
    simp [catL, es, tl_app]

  case mem t h ht =>
    show rowT rec T _ ind s 0 ++ catL [⟨#[59]⟩] = sl ++ 32 :: (prr t ind.toList ++ [59])
    rw [row0 _ fun _ => must_0 (by decide)]
    simp [catL, es, tl_app]

  case typ h h1 =>
    show catL [s] = sl
    simp [catL, es, tl_app]
  case glob t h ht =>
    show rowT rec T _ ind (⟨#[118, 97, 114, 32]⟩ ++ s) 0 ++ catL [⟨#[59]⟩] = [118, 97, 114, 32] ++ (sl ++ 32 :: (prr t ind.toList ++ [59]))
    rw [row0 _ fun _ => must_0 (by decide)]
    simp [catL, es, tl_app]

  case func b h hb =>
    show rowT rec T _ ind (⟨#[102, 110, 32]⟩ ++ s) 0 = [102, 110, 32] ++ (sl ++ 32 :: prr b ind.toList)
    rw [row0 _ fun _ => must_0 (by decide)]
    simp [catL, es, tl_app]

  case comp u ks h hu hk =>
    obtain ⟨k0, kr, rfl, rfl, er⟩ := map_c eg
    show catL [⟨#[99, 111, 109, 112, 32]⟩, s, ⟨#[32, 111, 110, 32]⟩] ++ kidT rec T _ ind 0 ++ catL [⟨#[32]⟩] ++ bracesT rec ind kr = [99, 111, 109, 112, 32] ++ (sl ++ 32 :: 111 :: 110 :: 32 :: (prr (g k0) ind.toList ++ 32 :: braces prr ind.toList ks))
    rw [no 0 k0 rfl fun _ => must_0 (by decide), braces_all fun k hk => H k (by simp [hk]), er]
    simp [catL, es, tl_app]

  case life b h hb =>
    show rowT rec T _ ind (lifeWord N) 0 = lw N ++ 32 :: prr b ind.toList
    rw [row0 _ fun _ => must_0 (by decide)]
    have : (lifeWord N).toList = lw N := by
      unfold lifeWord lw
      split
      · exact lit_tl _
      split
      · exact lit_tl _
      split <;> exact lit_tl _
    rw [this]; simp
  case event u b h hN hu hb =>
    obtain ⟨k0, k1, rfl, rfl, rfl⟩ := map_2 eg
    show catL [⟨#[101, 118, 101, 110, 116, 32]⟩, s, ⟨#[32, 111, 110, 32]⟩] ++ kidT rec T _ ind 0 ++ rowT rec T _ ind (eventWord N) 1 = [101, 118, 101, 110, 116, 32] ++ (sl ++ 32 :: 111 :: 110 :: 32 :: (prr (g k0) ind.toList ++ (ew N ++ 32 :: prr (g k1) ind.toList)))
    rw [no 0 k0 rfl fun _ => must_0 (by decide), row_2 rfl, no 1 k1 rfl fun _ => must_0 (by decide)]
    simp [catL, es, tl_app]
    have : (eventWord N).toList = ew N := by
      unfold eventWord ew
      split <;> exact lit_tl _
    rw [this]
  case main b hb =>
    show rowT rec T _ ind ⟨#[109, 97, 105, 110]⟩ 0 = [109, 97, 105, 110] ++ 32 :: prr b ind.toList
    rw [row0 _ fun _ => must_0 (by decide)]
    simp [catL, es, tl_app]

  case block h =>
    show bracesT rec ind kids = braces prr ind.toList gs
    rw [braces_all H, eg]
  case var t x h ht hx =>
    obtain ⟨k0, k1, rfl, rfl, rfl⟩ := map_2 eg
    show catL [⟨#[118, 97, 114, 32]⟩, s, ⟨#[32]⟩] ++ kidT rec T _ ind 0 ++ catL [⟨#[32, 61, 32]⟩] ++ kidT rec T _ ind 1 ++ catL [⟨#[59]⟩] = [118, 97, 114, 32] ++ (sl ++ 32 :: (prr (g k0) ind.toList ++ 32 :: 61 :: 32 :: (prr (g k1) ind.toList ++ [59])))
    rw [no 0 k0 rfl fun _ => must_0 (by decide), no 1 k1 rfl fun _ => must_0 (by decide)]
    simp [catL, es, tl_app]

  case set v x hv hx =>
    obtain ⟨k0, k1, rfl, rfl, rfl⟩ := map_2 eg
    show kidT rec T _ ind 0 ++ catL [⟨#[32, 61, 32]⟩] ++ kidT rec T _ ind 1 ++ catL [⟨#[59]⟩] = prr (g k0) ind.toList ++ 32 :: 61 :: 32 :: (prr (g k1) ind.toList ++ [59])
    rw [no 0 k0 rfl fun _ => must_0 (by decide), no 1 k1 rfl fun _ => must_0 (by decide)]
    simp [catL, es, tl_app]

  case word x hK hx =>
    have key : ∀ (word : ByteArray) (W : B), word.toList = W → (∀ i : Int, mustK K s i = 0) → rowT rec T ⟨K, s, 0, L, Co, kv, kids⟩ ind word 0 ++ catL [⟨#[59]⟩] = W ++ 32 :: (prr x ind.toList ++ [59]) := fun word W hw hm => by
      rw [row0 _ hm, hw]
      simp [catL, es, tl_app]
    rcases (show K = 15 ∨ K = 16 ∨ K = 17 ∨ K = 18 by omega) with rfl | rfl | rfl | rfl
    · exact key ⟨#[99, 97, 108, 108]⟩ _ (lit_tl _) fun _ => must_0 (by decide)
    · exact key ⟨#[99, 97, 110, 99, 101, 108]⟩ _ (lit_tl _) fun _ => must_0 (by decide)
    · exact key ⟨#[106, 111, 105, 110]⟩ _ (lit_tl _) fun _ => must_0 (by decide)
    exact key ⟨#[108, 111, 103]⟩ _ (lit_tl _) fun _ => must_0 (by decide)
  case post x h hN hx =>
    obtain ⟨k0, rfl, rfl⟩ := map_1 eg
    show catL [⟨#[112, 111, 115, 116, 32]⟩, s, ⟨#[32]⟩] ++ kidT rec T _ ind 0 ++ (if N < 0 then catL [⟨#[32, 102, 114, 111, 110, 116]⟩] else []) ++ (if 0 < N then catL [⟨#[32, 97, 102, 116, 101, 114, 32]⟩, itoaB N] else []) ++ [] ++ catL [⟨#[59]⟩] = [112, 111, 115, 116, 32] ++ (sl ++ 32 :: (prr (g k0) ind.toList ++ (fr N ++ ([] ++ [59]))))
    rw [no 0 k0 rfl fun _ => must_0 (by decide)]
    simp only [catL, List.flatMap_cons, List.flatMap_nil, es]
    unfold fr itoaB nt
    split
    · rw [if_neg (by omega)]; simp
    split <;> simp
  case posto x v h hN hx hv =>
    obtain ⟨k0, k1, rfl, rfl, rfl⟩ := map_2 eg
    show catL [⟨#[112, 111, 115, 116, 32]⟩, s, ⟨#[32]⟩] ++ kidT rec T _ ind 0 ++ (if N < 0 then catL [⟨#[32, 102, 114, 111, 110, 116]⟩] else []) ++ (if 0 < N then catL [⟨#[32, 97, 102, 116, 101, 114, 32]⟩, itoaB N] else []) ++ (catL [⟨#[32, 116, 111, 32]⟩] ++ kidT rec T _ ind 1) ++ catL [⟨#[59]⟩] = [112, 111, 115, 116, 32] ++ (sl ++ 32 :: (prr (g k0) ind.toList ++ (fr N ++ (32 :: 116 :: 111 :: 32 :: prr (g k1) ind.toList ++ [59]))))
    rw [no 0 k0 rfl fun _ => must_0 (by decide), no 1 k1 rfl fun _ => must_0 (by decide)]
    simp only [catL, List.flatMap_cons, List.flatMap_nil, es]
    unfold fr itoaB nt
    split
    · rw [if_neg (by omega)]; simp
    split <;> simp
  case spawn x hx =>
    obtain ⟨k0, rfl, rfl⟩ := map_1 eg
    show catL [⟨#[115, 112, 97, 119, 110, 32]⟩] ++ kidT rec T _ ind 0 ++ [] ++ catL [⟨#[59]⟩] = [115, 112, 97, 119, 110, 32] ++ (prr (g k0) ind.toList ++ ([] ++ [59]))
    rw [no 0 k0 rfl fun _ => must_0 (by decide)]
    simp [catL, es, tl_app]

  case spawno x v hx hv =>
    obtain ⟨k0, k1, rfl, rfl, rfl⟩ := map_2 eg
    show catL [⟨#[115, 112, 97, 119, 110, 32]⟩] ++ kidT rec T _ ind 0 ++ (catL [⟨#[32, 116, 111, 32]⟩] ++ kidT rec T _ ind 1) ++ catL [⟨#[59]⟩] = [115, 112, 97, 119, 110, 32] ++ (prr (g k0) ind.toList ++ (32 :: 116 :: 111 :: 32 :: prr (g k1) ind.toList ++ [59]))
    rw [no 0 k0 rfl fun _ => must_0 (by decide), no 1 k1 rfl fun _ => must_0 (by decide)]
    simp [catL, es, tl_app]

  case able hK h =>
    rcases hK with rfl | rfl
    · show catL [⟨#[101, 110, 97, 98, 108, 101, 32]⟩, s] ++ catL [⟨#[59]⟩] = [101, 110, 97, 98, 108, 101] ++ 32 :: (sl ++ [59])
      simp [catL, es, tl_app]

    show catL [⟨#[100, 105, 115, 97, 98, 108, 101, 32]⟩, s] ++ catL [⟨#[59]⟩] = [100, 105, 115, 97, 98, 108, 101] ++ 32 :: (sl ++ [59])
    simp [catL, es, tl_app]

  case iff c a b hc ha hb =>
    obtain ⟨k0, k1, k2, rfl, rfl, rfl, rfl⟩ := map_3 eg
    obtain ⟨w2, h2⟩ := H k2 (by simp)
    have he : elseT rec T ⟨23, s, 0, L, Co, kv, [k0, k1, k2]⟩ ind = els prr ind.toList [g k0, g k1, g k2] := by
      show (if (decide (2 < ((3 : Nat) : Int)) && decide (0 < ((kidsAt T k2.toNat).length : Int))) = true then catL [⟨#[32, 101, 108, 115, 101, 32]⟩] ++ kidT rec T _ ind 2 else []) = if (g k2).ks.isEmpty = true then [] else 32 :: 101 :: 108 :: 115 :: 101 :: 32 :: prr (g k2) ind.toList
      rw [no 2 k2 rfl fun _ => must_0 (by decide), kidsAt_of h2.tw, ← h2.n]
      cases (g k2).ks with
      | nil => rfl
      | cons a l =>
        have : decide (0 < (((a :: l).length : Nat) : Int)) = true := by simp
        rw [this]; simp [catL]
    show catL [⟨#[105, 102, 32]⟩] ++ kidT rec T _ ind 0 ++ catL [⟨#[32]⟩] ++ kidT rec T _ ind 1 ++ elseT rec T _ ind = [105, 102, 32] ++ (prr (g k0) ind.toList ++ 32 :: (prr (g k1) ind.toList ++ els prr ind.toList [g k0, g k1, g k2]))
    rw [he, no 0 k0 rfl fun _ => must_0 (by decide), no 1 k1 rfl fun _ => must_0 (by decide)]
    simp [catL, es, tl_app]

  case whil c a hc ha =>
    obtain ⟨k0, k1, rfl, rfl, rfl⟩ := map_2 eg
    show catL [⟨#[119, 104, 105, 108, 101, 32]⟩] ++ kidT rec T _ ind 0 ++ catL [⟨#[32]⟩] ++ kidT rec T _ ind 1 ++ [] = [119, 104, 105, 108, 101, 32] ++ (prr (g k0) ind.toList ++ 32 :: prr (g k1) ind.toList)
    rw [no 0 k0 rfl fun _ => must_0 (by decide), no 1 k1 rfl fun _ => must_0 (by decide)]
    simp [catL, es, tl_app]

  case ret =>
    show catL [⟨#[114, 101, 116, 117, 114, 110]⟩] ++ catL [⟨#[59]⟩] = [114, 101, 116, 117, 114, 110, 59]
    simp [catL, es, tl_app]
  case num h =>
    show catL [itoaB N] = nt N
    rw [itoaB]
    simp [catL, es, tl_app]
  case null =>
    show catL [⟨#[110, 117, 108, 108]⟩] = [110, 117, 108, 108]
    simp [catL, es, tl_app]
  case it =>
    show catL [⟨#[105, 116]⟩] = [105, 116]
    simp [catL, es, tl_app]
  case use h =>
    show catL [s] = sl
    simp [catL, es, tl_app]
  case dot x h hx =>
    obtain ⟨k0, rfl, rfl⟩ := map_1 eg
    show kidT rec T _ ind 0 ++ catL [⟨#[46]⟩, s] = kt prr 5 (g k0) ind.toList ++ 46 :: sl
    rw [yes 0 k0 rfl (by assumption)]
    simp [catL, es, tl_app]
    rfl
  case ix x y hx hy =>
    obtain ⟨k0, k1, rfl, rfl, rfl⟩ := map_2 eg
    show kidT rec T _ ind 0 ++ catL [⟨#[91]⟩] ++ kidT rec T _ ind 1 ++ catL [⟨#[93]⟩] = kt prr 5 (g k0) ind.toList ++ 91 :: (prr (g k1) ind.toList ++ [93])
    rw [yes 0 k0 rfl (by assumption), yes 1 k1 rfl (by assumption)]
    have e0 : kt prr (mustK 31 s ((0 : Nat) : Int)) (g k0) ind.toList = kt prr 5 (g k0) ind.toList := rfl
    have e1 : kt prr (mustK 31 s ((1 : Nat) : Int)) (g k1) ind.toList = prr (g k1) ind.toList := by
      have := bg_is (g k1)
      exact kt_hi (show ¬ bg (g k1) < 0 by omega)
    rw [e0, e1]
    simp [catL]
  case op x y h hx hy =>
    obtain ⟨k0, k1, rfl, rfl, rfl⟩ := map_2 eg
    show kidT rec T _ ind 0 ++ catL [⟨#[32]⟩, s, ⟨#[32]⟩] ++ kidT rec T _ ind 1 = kt prr (mL sl) (g k0) ind.toList ++ (sp sl ++ kt prr (mR sl) (g k1) ind.toList)
    rw [yes 0 k0 rfl (by assumption), yes 1 k1 rfl (by assumption), must_L, must_R]
    simp [catL, es, tl_app]

  case new h =>
    show catL [⟨#[110, 101, 119, 32]⟩, s] = [110, 101, 119] ++ 32 :: sl
    simp [catL, es, tl_app]
  case arr =>
    have hK : K = 34 ∨ K = 35 := by assumption
    obtain ⟨k0, rfl, rfl⟩ := map_1 eg
    rcases hK with rfl | rfl
    · show rowT rec T _ ind ⟨#[97, 114, 114]⟩ 0 = [97, 114, 114] ++ 32 :: kt prr 4 (g k0) ind.toList
      rw [row_1 rfl, yes 0 k0 rfl (by assumption)]
      simp [catL, es, tl_app]
      rfl
    show rowT rec T _ ind ⟨#[108, 101, 110]⟩ 0 = [108, 101, 110] ++ 32 :: kt prr 4 (g k0) ind.toList
    rw [row_1 rfl, yes 0 k0 rfl (by assumption)]
    simp [catL, es, tl_app]
    rfl
  case fn b hb =>
    show rowT rec T _ ind ⟨#[102, 110]⟩ 0 = [102, 110] ++ 32 :: prr b ind.toList
    rw [row0 _ fun _ => must_0 (by decide)]
    simp [catL, es, tl_app]

end
end Go.Proofs.YtoejddhaiogonaaDoor

namespace Go.Proofs.YtoejddhaiogonaaDoor
open Go.X Go.Ap

/-- A twig and all below it. -/
def gT (T : List Tw) : Nat → Int → G
  | 0, _ => .mk 0 [] 0 []
  | f + 1, k => match T[k.toNat]? with
    | some w => .mk w.K w.s.toList w.N (w.kids.map (gT T f))
    | none => .mk 0 [] 0 []
theorem gT_at {T : List Tw} {f : Nat} {k : Int} {w : Tw} (h : T[k.toNat]? = some w) : gT T (f + 1) k = .mk w.K w.s.toList w.N (w.kids.map (gT T f)) := by simp only [gT, h]
/-- What a walk says of each kid. -/
theorem kids_walk {rec : Nat → Int → Option Nat} {T : List Tw} {w : Tw} {nest : Int} : ∀ {l : List Int} {i next n : Nat}, kidsW rec T w nest l i next = some n → ∀ k, k ∈ l → ∃ (q : Nat) (w' : Tw) (nest' : Int) (n' : Nat), k = (q : Int) ∧ T[q]? = some w' ∧ rec q nest' = some n'
  | [], _, _, _, _, _, hk => by cases hk
  | a :: l, i, next, n, e, k, hk => by
    simp only [kidsW] at e
    split at e
    · rename_i ha
      split at e
      · rename_i w' hw
        split at e
        · rename_i q hq
          rcases List.mem_cons.1 hk with rfl | hk
          · exact ⟨next, w', _, q, ha, hw, hq⟩
          exact kids_walk e k hk
        cases e
      cases e
    cases e
/-- A walk's first step. -/
theorem walk_step {T : List Tw} {f at' : Nat} {nest : Int} {n : Nat} (e : walkS T (f + 1) at' nest = some n) : ∃ w, T[at']? = some w ∧ formOk w.K w.s w.N (kindsOf T w.kids) = true ∧ kidsW (walkS T f) T w nest w.kids 0 (at' + 1) = some n := by
  simp only [walkS] at e
  split at e
  · rename_i w hw
    split at e
    · cases e
    cases hq : kidsW (walkS T f) T w nest w.kids 0 (at' + 1) with
    | none => rw [hq] at e; cases e
    | some q =>
      rw [hq] at e
      simp only [finW] at e
      split at e
      · rename_i hf
        cases e
        exact ⟨w, hw, hf, hq⟩
      cases e
  cases e
theorem walk_tree {T : List Tw} : ∀ {f at' : Nat} {nest : Int} {n : Nat}, walkS T f at' nest = some n → ∀ f2, f ≤ f2 → ok f2 (gT T f2 at') ∧ (∀ ind : ByteArray, textS T f2 at' ind = pr f2 (gT T f2 at') ind.toList) ∧ gT T f2 at' = gT T f at'
  | 0, _, _, _, e => by simp [walkS] at e
  | f + 1, at', nest, n, e => fun f2 hf2 => by
    obtain ⟨w, hw, hf, hk⟩ := walk_step e
    obtain ⟨f2, rfl⟩ : ∃ m, f2 = m + 1 := ⟨f2 - 1, by omega⟩
    have hw' : T[((at' : Nat) : Int).toNat]? = some w := hw
    have key : ∀ k, k ∈ w.kids → ok f2 (gT T f2 k) ∧ (∃ w', KidIs (textS T f2) (pr f2) T (gT T f2) k w') ∧ gT T f2 k = gT T f k := fun k hkm => by
      obtain ⟨q, w', nest', n', rfl, hq, hr⟩ := kids_walk hk k hkm
      obtain ⟨h1, h2, h3⟩ := walk_tree hr f2 (by omega)
      refine ⟨h1, ⟨w', ?_⟩, h3⟩
      cases f2 with
      | zero => exact h1.elim
      | succ f2 =>
        have hq' : T[((q : Nat) : Int).toNat]? = some w' := hq
        have e1 := gT_at (f := f2) hq'
        exact ⟨hq', by rw [e1]; rfl, by rw [e1]; rfl, by rw [e1]; simp [G.ks], h2⟩
    have hks : (w.kids.map (gT T f2)).map G.K = kindsOf T w.kids := by
      rw [List.map_map, kindsOf]
      refine List.map_congr_left fun k hkm => ?_
      obtain ⟨w', h⟩ := (key k hkm).2.1
      show (gT T f2 k).K = _
      rw [h.K, h.tw]; rfl
    have F : Fm w.K w.s.toList w.N (w.kids.map (gT T f2)) := form_fm (by rw [hks]; exact hf)
    refine ⟨?_, fun ind => ?_, ?_⟩
    · rw [gT_at hw']
      exact ⟨F, fun k hkm => by
        obtain ⟨k0, hk0, rfl⟩ := List.mem_map.1 hkm
        exact (key k0 hk0).1⟩
    · rw [gT_at hw']
      show (match T[at']? with | some w => twT (textS T f2) T w ind | none => []) = bd (pr f2) w.K w.s.toList w.N (w.kids.map (gT T f2)) ind.toList
      rw [hw]
      exact tw_bd (fun k hkm => (key k hkm).2.1) rfl rfl F
    rw [gT_at hw', gT_at hw']
    rw [List.map_congr_left fun k hkm => (key k hkm).2.2]
theorem kids_same {rec rec' : Nat → Int → Option Nat} {T T' : List Tw} {w w' : Tw} {nest nest' : Int} {p p' : Int → G}
    (hr : ∀ at' nest n nest' n', rec at' nest = some n → rec' at' nest' = some n' → p at' = p' at' → n = n' ∧ at' < n ∧ ∀ i, at' ≤ i → i < n → ∃ a b, T[i]? = some a ∧ T'[i]? = some b ∧ sameW a b = true) :
    ∀ {l l' : List Int} {i i' next n n' : Nat}, kidsW rec T w nest l i next = some n → kidsW rec' T' w' nest' l' i' next = some n' → l.map p = l'.map p' → l = l' ∧ n = n' ∧ next ≤ n ∧ ∀ i, next ≤ i → i < n → ∃ a b, T[i]? = some a ∧ T'[i]? = some b ∧ sameW a b = true
  | [], [], i, i', next, n, n', e, e', _ => by
    simp only [kidsW, Option.some.injEq] at e e'
    subst e; subst e'
    exact ⟨rfl, rfl, Nat.le_refl _, fun i h1 h2 => by omega⟩
  | [], _ :: _, _, _, _, _, _, _, _, h => by cases h
  | _ :: _, [], _, _, _, _, _, _, _, h => by cases h
  | a :: l, a' :: l', i, i', next, n, n', e, e', h => by
    simp only [kidsW] at e e'
    split at e
    · rename_i ha
      split at e
      · split at e
        · rename_i q hq
          split at e'
          · rename_i ha'
            split at e'
            · split at e'
              · rename_i q' hq'
                subst ha; subst ha'
                injection h with h1 h2
                obtain ⟨rfl, h3, h4⟩ := hr _ _ _ _ _ hq hq' h1
                obtain ⟨rfl, rfl, h5, h6⟩ := kids_same hr e e' h2
                refine ⟨rfl, rfl, by omega, fun i hi1 hi2 => ?_⟩
                by_cases hi : i < q
                · exact h4 i hi1 hi
                exact h6 i (by omega) hi2
              cases e'
            cases e'
          cases e'
        cases e
      cases e
    cases e
theorem walk_same {T T' : List Tw} : ∀ {f f' at' : Nat} {nest nest' : Int} {n n' : Nat} (f2 : Nat), f ≤ f2 → f' ≤ f2 → walkS T f at' nest = some n → walkS T' f' at' nest' = some n' → gT T f2 at' = gT T' f2 at' → n = n' ∧ at' < n ∧ ∀ i, at' ≤ i → i < n → ∃ a b, T[i]? = some a ∧ T'[i]? = some b ∧ sameW a b = true
  | 0, _, _, _, _, _, _, _, _, _, e, _, _ => by simp [walkS] at e
  | _ + 1, 0, _, _, _, _, _, _, _, _, _, e', _ => by simp [walkS] at e'
  | f + 1, f' + 1, at', nest, nest', n, n', f2, hf, hf', e, e', hg => by
    obtain ⟨f2, rfl⟩ : ∃ m, f2 = m + 1 := ⟨f2 - 1, by omega⟩
    obtain ⟨w, hw, _, hk⟩ := walk_step e
    obtain ⟨w', hw', _, hk'⟩ := walk_step e'
    have q1 : T[((at' : Nat) : Int).toNat]? = some w := hw
    have q2 : T'[((at' : Nat) : Int).toNat]? = some w' := hw'
    rw [gT_at q1, gT_at q2] at hg
    injection hg with g1 g2 g3 g4
    obtain ⟨h1, h2, h3, h4⟩ := kids_same (p := gT T f2) (p' := gT T' f2) (fun a _ _ _ _ ea ea' eg => walk_same f2 (by omega) (by omega) ea ea' eg) hk hk' g4
    refine ⟨h2, by omega, fun i hi1 hi2 => ?_⟩
    by_cases hi : i = at'
    · subst hi
      exact ⟨w, w', hw, hw', sameW_iff.2 ⟨g1, g2, g3, h1⟩⟩
    exact h4 i (by omega) hi2
/-- What a tree that may be has: a walk over all of it. -/
theorem may_walk {T : List Tw} (h : mayS T = true) : 0 < T.length ∧ headK T = 1 ∧ walkS T (T.length + 1) 0 0 = some T.length := by
  simp only [mayS, Bool.and_eq_true, decide_eq_true_eq] at h
  obtain ⟨⟨h1, h2⟩, h3⟩ := h
  refine ⟨by omega, h2, ?_⟩
  cases e : walkS T (T.length + 1) 0 0 with
  | none => rw [e] at h3; simp only [enc] at h3; omega
  | some n => rw [e] at h3; simp only [enc] at h3; congr 1; omega
theorem gT_same {T T' : List Tw} (h : sameT T T' = true) : ∀ (f : Nat) (k : Int), gT T f k = gT T' f k
  | 0, _ => rfl
  | f + 1, k => by
    obtain ⟨hl, hs⟩ := sameT_iff.1 h
    by_cases hk : k.toNat < T.length
    · obtain ⟨h1, h2, h3, h4⟩ := sameW_iff.1 (hs k.toNat hk (by omega))
      rw [gT_at (List.getElem?_eq_getElem hk), gT_at (List.getElem?_eq_getElem (show k.toNat < T'.length by omega)), h1, h2, h3, h4, funext (gT_same h f)]
    simp only [gT]
    rw [List.getElem?_eq_none (by omega), List.getElem?_eq_none (by omega)]
/-- Trees that may be have one text just when they are the same. -/
theorem apart {T T' : List Tw} (h : mayS T = true) (h' : mayS T' = true) : decide (textS T (T.length + 1) 0 .empty = textS T' (T'.length + 1) 0 .empty) = sameT T T' := by
  obtain ⟨n1, k1, w1⟩ := may_walk h
  obtain ⟨n2, k2, w2⟩ := may_walk h'
  obtain ⟨f2, hf1, hf2⟩ : ∃ f2, T.length + 1 ≤ f2 ∧ T'.length + 1 ≤ f2 := ⟨T.length + 1 + (T'.length + 1), by omega, by omega⟩
  have t1 := walk_tree w1
  have t2 := walk_tree w2
  have e1 : textS T (T.length + 1) 0 .empty = pr f2 (gT T f2 ((0 : Nat) : Int)) ByteArray.empty.toList := by
    rw [(t1 _ (Nat.le_refl _)).2.1, (t1 f2 hf1).2.2, pr_le (t1 _ (Nat.le_refl _)).1 hf1]
  have e2 : textS T' (T'.length + 1) 0 .empty = pr f2 (gT T' f2 ((0 : Nat) : Int)) ByteArray.empty.toList := by
    rw [(t2 _ (Nat.le_refl _)).2.1, (t2 f2 hf2).2.2, pr_le (t2 _ (Nat.le_refl _)).1 hf2]
  rw [e1, e2, Bool.eq_iff_iff, decide_eq_true_eq]
  constructor
  · intro e
    have hK : ∀ {T : List Tw}, 0 < T.length → headK T = 1 → T.length + 1 ≤ f2 → (gT T f2 ((0 : Nat) : Int)).K = 1 := fun {T} hn hk hf => by
      obtain ⟨m, rfl⟩ : ∃ m, f2 = m + 1 := ⟨f2 - 1, by omega⟩
      rw [gT_at (w := T[0]) (List.getElem?_eq_getElem hn)]
      rw [headK_at hn] at hk
      exact hk
    have hg := tree_dec (t1 f2 hf1).1 (t2 f2 hf2).1 (hK n1 k1 hf1) (hK n2 k2 hf2) e
    obtain ⟨q1, _, q3⟩ := walk_same f2 hf1 hf2 w1 w2 hg
    exact sameT_iff.2 ⟨q1, fun i h1 h2 => by
      obtain ⟨a, b, ea, eb, es⟩ := q3 i (by omega) h1
      rw [List.getElem?_eq_getElem h1] at ea
      rw [List.getElem?_eq_getElem h2] at eb
      cases ea; cases eb; exact es⟩
  intro hs
  rw [gT_same hs]
end Go.Proofs.YtoejddhaiogonaaDoor

namespace Go.Proofs.YtoejddhaiogonaaDoor
open Go.X

theorem apartS {A D : List Tw} (h1 : mayS A = true) (h2 : mayS D = true) : eqS (if mayS A = true then ⟨(textS A (A.length + 1) 0 .empty).toArray⟩ else ⟨#[]⟩) (if mayS D = true then ⟨(textS D (D.length + 1) 0 .empty).toArray⟩ else ⟨#[]⟩) = sameT A D := by
  rw [if_pos h1, if_pos h2, ← apart h1 h2, Bool.eq_iff_iff]
  simp
section
variable {h : Hp} {va vb : Value} {A D : List Tw}
/-- TreeApart -/
theorem c6 (B : Blk h) (hP : Pow h) (X1 : TreeAt h va A) (X2 : TreeAt h vb D) (hk1 : ∀ t, t ∈ A → t.kids.length ≤ 9223372036854775807 ∧ RowG h t.ks (isV t.kids)) (hk2 : ∀ t, t ∈ D → t.kids.length ≤ 9223372036854775807 ∧ RowG h t.ks (isV t.kids)) : C trE 6 [.agg #[va], .agg #[vb]] h fun v _ => v = .bool true := by
  have Y1 := X1
  have Y2 := X2
  obtain ⟨a1, c1, rfl⟩ := X1.val
  obtain ⟨a2, c2, rfl⟩ := X2.val
  refine c_enter (fu := Tryd.f6) (by kernel_rfl) rfl ?_
  have S := SH.start h
  refine w_seq ?_
  refine w_region (by kernel_rfl) ?_
  refine s_box S gn rfl rfl fun b1 g nb1 S => ?_
  refine s_box S gn rfl rfl fun b2 g nb2 S => ?_
  refine o_assign gn rfl rfl ?_
  refine wl_end ?_
  refine w_cutS [(2, ptrV b1), (3, ptrV b2)] (fun lv hh => lv = [] ∧ SH h [] [cR b2 (.cells [.slice a2 D.length c2] 24 0), cR b1 (.cells [.slice a1 A.length c1] 24 0)] hh ∧ muchT A 300 = false ∧ muchT D 300 = false ∧ mayS A = true ∧ mayS D = true) ?_ fun lv hh hJ => ?_
  · skip
    refine w_seq ?_
    refine w_region (by kernel_rfl) ?_
    refine o_loadA (n := 1) gn rfl rfl (by kernel_rfl) (by kernel_rfl) (by first | exact S.cel 0 rfl | exact S.cel 1 rfl | exact S.cel 2 rfl | exact S.cel 3 rfl) (by first | decide | exact Nat.le_refl _ | (simp; done)) ?_
    refine o_call [_, _] gn rfl rfl (by kernel_rfl) rfl (C.mono (c8 (Y1.ext S.e0)) ?_)
    rintro v g ⟨rfl, x⟩
    have S := S.grow x
    refine ⟨ag0, ?_⟩
    refine o_move gn rfl rfl ?_
    refine wl_split (dc := 7) rfl (fun hb7 => ?_) fun hb7 => ?_
    · skip
      refine wl_skips (n := 2) (dc := 7) (w := false) rfl hb7 rfl ?_
      refine o_pickt gn rfl rfl hb7 rfl ?_
      refine o_move gn rfl rfl ?_
      refine wl_split (dc := 11) rfl (fun hb11 => ?_) fun hb11 => ?_
      · skip
        refine wl_skips (n := 3) (dc := 11) (w := false) rfl hb11 rfl ?_
        refine o_pickt gn rfl rfl hb11 rfl ?_
        refine o_move gn rfl rfl ?_
        refine wl_split (dc := 16) rfl (fun hb16 => ?_) fun hb16 => ?_
        · skip
          refine wl_skips (n := 3) (dc := 16) (w := false) rfl hb16 rfl ?_
          refine o_pickt gn rfl rfl hb16 rfl ?_
          refine wl_end ?_
          refine w_cond rfl (fun hb => ?_) fun hb => ?_
          · skip
            refine w_seq ?_
            refine w_region (by kernel_rfl) ?_
            refine o_sm [] gn rfl rfl (by kernel_rfl) (by kernel_rfl) sm9 rfl (knows (B.ext S.e0).t) (.refl _) ag0 ?_
            refine o_assign gn rfl rfl ?_
            refine wl_end ?_
            refine w_ret ?_
            refine ⟨.inl rfl, _, rfl, ?_⟩
            exact rfl
          exact absurd hb (by decide)
        exact absurd hb16 (by decide)
      exact absurd hb11 (by decide)
    refine o_loadA (n := 1) (gy rfl rfl rfl hb7) rfl rfl (by kernel_rfl) (by kernel_rfl) (by first | exact S.cel 0 rfl | exact S.cel 1 rfl | exact S.cel 2 rfl | exact S.cel 3 rfl) (by first | decide | exact Nat.le_refl _ | (simp; done)) ?_
    refine o_call [_, _] (gy rfl rfl rfl hb7) rfl rfl (by kernel_rfl) rfl (C.mono (c8 (Y2.ext S.e0)) ?_)
    rintro v g ⟨rfl, x⟩
    have S := S.grow x
    refine ⟨ag0, ?_⟩
    refine o_pickf gn rfl rfl hb7 rfl ?_
    refine o_move gn rfl rfl ?_
    refine wl_split (dc := 11) rfl (fun hb11 => ?_) fun hb11 => ?_
    · skip
      refine wl_skips (n := 3) (dc := 11) (w := false) rfl hb11 rfl ?_
      refine o_pickt gn rfl rfl hb11 rfl ?_
      refine o_move gn rfl rfl ?_
      refine wl_split (dc := 16) rfl (fun hb16 => ?_) fun hb16 => ?_
      · skip
        refine wl_skips (n := 3) (dc := 16) (w := false) rfl hb16 rfl ?_
        refine o_pickt gn rfl rfl hb16 rfl ?_
        refine wl_end ?_
        refine w_cond rfl (fun hb => ?_) fun hb => ?_
        · skip
          refine w_seq ?_
          refine w_region (by kernel_rfl) ?_
          refine o_sm [] gn rfl rfl (by kernel_rfl) (by kernel_rfl) sm9 rfl (knows (B.ext S.e0).t) (.refl _) ag0 ?_
          refine o_assign gn rfl rfl ?_
          refine wl_end ?_
          refine w_ret ?_
          refine ⟨.inl rfl, _, rfl, ?_⟩
          exact rfl
        exact absurd hb (by decide)
      exact absurd hb16 (by decide)
    refine o_loadA (n := 1) (gy rfl rfl rfl hb11) rfl rfl (by kernel_rfl) (by kernel_rfl) (by first | exact S.cel 0 rfl | exact S.cel 1 rfl | exact S.cel 2 rfl | exact S.cel 3 rfl) (by first | decide | exact Nat.le_refl _ | (simp; done)) ?_
    refine o_call [_] (gy rfl rfl rfl hb11) rfl rfl (by kernel_rfl) rfl (C.mono (c11 (Y1.ext S.e0) (by have := (much_no hb7).1; omega) (much_no hb7).2) ?_)
    rintro v g ⟨rfl, x⟩
    have S := S.grow x
    refine ⟨ag0, ?_⟩
    refine o_not (gy rfl rfl rfl hb11) rfl rfl ?_
    refine o_pickf gn rfl rfl hb11 rfl ?_
    refine o_move gn rfl rfl ?_
    refine wl_split (dc := 16) rfl (fun hb16 => ?_) fun hb16 => ?_
    · skip
      refine wl_skips (n := 3) (dc := 16) (w := false) rfl hb16 rfl ?_
      refine o_pickt gn rfl rfl hb16 rfl ?_
      refine wl_end ?_
      refine w_cond rfl (fun hb => ?_) fun hb => ?_
      · skip
        refine w_seq ?_
        refine w_region (by kernel_rfl) ?_
        refine o_sm [] gn rfl rfl (by kernel_rfl) (by kernel_rfl) sm9 rfl (knows (B.ext S.e0).t) (.refl _) ag0 ?_
        refine o_assign gn rfl rfl ?_
        refine wl_end ?_
        refine w_ret ?_
        refine ⟨.inl rfl, _, rfl, ?_⟩
        exact rfl
      exact absurd hb (by decide)
    refine o_loadA (n := 1) (gy rfl rfl rfl hb16) rfl rfl (by kernel_rfl) (by kernel_rfl) (by first | exact S.cel 0 rfl | exact S.cel 1 rfl | exact S.cel 2 rfl | exact S.cel 3 rfl) (by first | decide | exact Nat.le_refl _ | (simp; done)) ?_
    refine o_call [_] (gy rfl rfl rfl hb16) rfl rfl (by kernel_rfl) rfl (C.mono (c11 (Y2.ext S.e0) (by have := (much_no hb11).1; omega) (much_no hb11).2) ?_)
    rintro v g ⟨rfl, x⟩
    have S := S.grow x
    refine ⟨ag0, ?_⟩
    refine o_not (gy rfl rfl rfl hb16) rfl rfl ?_
    refine o_pickf gn rfl rfl hb16 rfl ?_
    refine wl_end ?_
    refine w_cond rfl (fun hb => ?_) fun hb => ?_
    · skip
      refine w_seq ?_
      refine w_region (by kernel_rfl) ?_
      refine o_sm [] gn rfl rfl (by kernel_rfl) (by kernel_rfl) sm9 rfl (knows (B.ext S.e0).t) (.refl _) ag0 ?_
      refine o_assign gn rfl rfl ?_
      refine wl_end ?_
      refine w_ret ?_
      refine ⟨.inl rfl, _, rfl, ?_⟩
      exact rfl
    refine w_skip ?_
    exact cutS [] (by repeat (first | exact trivial | refine ⟨rfl, ?_⟩)) ⟨rfl, S, hb7, hb11, by simpa using hb16, by simpa using hb⟩
  obtain ⟨rfl, S, hm1, hm2, hy1, hy2⟩ := hJ
  obtain ⟨l1, s1⟩ := much_no hm1
  obtain ⟨l2, s2⟩ := much_no hm2
  have m1 := fun t ht => (hk1 t ht).1
  have g1 := fun t ht => (hk1 t ht).2
  have g2 := fun t ht => (hk2 t ht).2
  refine w_seq ?_
  refine w_draw [(0, []), (2, []), (5, []), (6, []), (1, [2, 5, 6]), (3, [5, 6]), (4, []), (7, [4]), (8, []), (9, []), (10, []), (11, []), (12, [])] (by kernel_rfl) (by kernel_rfl) (by kernel_rfl) (by kernel_rfl) ?_
  refine o_loadA (n := 1) gn rfl rfl (by kernel_rfl) (by kernel_rfl) (by first | exact S.cel 0 rfl | exact S.cel 1 rfl | exact S.cel 2 rfl | exact S.cel 3 rfl) (by first | decide | exact Nat.le_refl _ | (simp; done)) ?_
  refine o_loadA (n := 1) gn rfl rfl (by kernel_rfl) (by kernel_rfl) (by first | exact S.cel 0 rfl | exact S.cel 1 rfl | exact S.cel 2 rfl | exact S.cel 3 rfl) (by first | decide | exact Nat.le_refl _ | (simp; done)) ?_
  refine o_loadA (n := 1) gn rfl rfl (by kernel_rfl) (by kernel_rfl) (by first | exact S.cel 0 rfl | exact S.cel 1 rfl | exact S.cel 2 rfl | exact S.cel 3 rfl) (by first | decide | exact Nat.le_refl _ | (simp; done)) ?_
  refine o_loadA (n := 1) gn rfl rfl (by kernel_rfl) (by kernel_rfl) (by first | exact S.cel 0 rfl | exact S.cel 1 rfl | exact S.cel 2 rfl | exact S.cel 3 rfl) (by first | decide | exact Nat.le_refl _ | (simp; done)) ?_
  refine o_call [_] gn rfl rfl (by kernel_rfl) rfl (C.mono (c12 (B.ext S.e0) (hP.ext S.e0) (Y1.ext S.e0) (by omega) s1 (fun t ht => (g1 t ht).ext S.e0) (fun hm => may_wok hm s1) (fun hm => may_text hm (by omega) s1)) ?_)
  rintro v g ⟨rfl, x⟩
  have S := S.grow x
  refine ⟨(ag1 (ag_loadA (n := 1) gn rfl (by kernel_rfl) (by kernel_rfl) (by first | exact S.cel 0 rfl | exact S.cel 1 rfl | exact S.cel 2 rfl | exact S.cel 3 rfl) (by first | decide | exact Nat.le_refl _ | (simp; done)) rfl (same1 _ _ _)) (ag1 (ag_loadA (n := 1) gn rfl (by kernel_rfl) (by kernel_rfl) (by first | exact S.cel 0 rfl | exact S.cel 1 rfl | exact S.cel 2 rfl | exact S.cel 3 rfl) (by first | decide | exact Nat.le_refl _ | (simp; done)) rfl (same1 _ _ _)) (ag1 (ag_loadA (n := 1) gn rfl (by kernel_rfl) (by kernel_rfl) (by first | exact S.cel 0 rfl | exact S.cel 1 rfl | exact S.cel 2 rfl | exact S.cel 3 rfl) (by first | decide | exact Nat.le_refl _ | (simp; done)) rfl (same1 _ _ _)) ag0))), ?_⟩
  refine o_call [_] gn rfl rfl (by kernel_rfl) rfl (C.mono (c12 (B.ext S.e0) (hP.ext S.e0) (Y2.ext S.e0) (by omega) s2 (fun t ht => (g2 t ht).ext S.e0) (fun hm => may_wok hm s2) (fun hm => may_text hm (by omega) s2)) ?_)
  rintro v g ⟨rfl, x⟩
  have S := S.grow x
  refine ⟨(ag1 (ag_loadA (n := 1) gn rfl (by kernel_rfl) (by kernel_rfl) (by first | exact S.cel 0 rfl | exact S.cel 1 rfl | exact S.cel 2 rfl | exact S.cel 3 rfl) (by first | decide | exact Nat.le_refl _ | (simp; done)) rfl (same1 _ _ _)) (ag1 (ag_loadA (n := 1) gn rfl (by kernel_rfl) (by kernel_rfl) (by first | exact S.cel 0 rfl | exact S.cel 1 rfl | exact S.cel 2 rfl | exact S.cel 3 rfl) (by first | decide | exact Nat.le_refl _ | (simp; done)) rfl (same1 _ _ _)) ag0)), ?_⟩
  refine o_eqS gn rfl rfl rfl ?_
  refine o_call [_, _] gn rfl rfl (by kernel_rfl) rfl (C.mono (c14 (Y1.ext S.e0) (Y2.ext S.e0) (by omega) m1) ?_)
  rintro v g ⟨rfl, x⟩
  have S := S.grow x
  refine ⟨(ag1 (ag_eqS gn rfl rfl rfl) ag0), ?_⟩
  refine o_eqb gn rfl rfl rfl (by kernel_rfl) ?_
  refine o_move gn rfl rfl ?_
  refine wl_split (dc := 31) rfl (fun hb31 => ?_) fun hb31 => ?_
  · skip
    refine o_sm [] (gy rfl rfl rfl hb31) rfl rfl (by kernel_rfl) (by kernel_rfl) sm9 rfl (knows (B.ext S.e0).t) (.refl _) ag0 ?_
    refine o_pickt gn rfl rfl hb31 rfl ?_
    refine o_assign gn rfl rfl ?_
    refine wl_end ?_
    refine w_ret ?_
    refine ⟨.inl rfl, _, rfl, ?_⟩
    exact rfl
  exact absurd hb31 (by simp [apartS hy1 hy2])
end
end Go.Proofs.YtoejddhaiogonaaDoor

