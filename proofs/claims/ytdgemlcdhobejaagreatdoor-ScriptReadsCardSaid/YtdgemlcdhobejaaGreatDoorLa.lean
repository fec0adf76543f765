/- Chapter 12: entries, their lines, and how numbers and words are read back (plain). Conditions: none. Chapter 12: a script's lines are read in one way alone; words of a line (plain). Conditions: none. Chapter 12: what a line is read as, by the program and by the document (plain). Conditions: none. . Chapter 12: a strings.Builder's copyCheck, gone through at this program. Conditions: none. Chapter 12: the machine over the chapter's program; the library's functions and the forms of entries are not gone through. Conditions: none. Chapter 12: which entries may be, and the lines of entries. Conditions: the table of powers of ten. Chapter 12: what a builder of strings owns; a script's text. Conditions: the table of powers of ten; the text stays short. Chapter 12: a line read. Conditions: the library's variables; the line is short. Chapter 12: a text read. Conditions: the library's variables; the text is short. Chapter 12: the document's entries that may be, its numbers, its lines. Conditions: numbers in their range; of a line: the entry may be. Chapter 12: the document's value of digits. Conditions: the text is short. Chapter 12: what the document reads a line as. Conditions: a line with its end; it is short. -/
import Derived.Lib.AtoiAll
import Derived.Lib.ParseIntBCases
import Derived.Lib.ItoaLen
import Derived.Lib.Split
import Derived.Shelf.Strings.Split
import Derived.Shelf.Strings.Cut
import Derived.Shelf.Strconv.AtoiAll
import Derived.Shelf.Strconv.ParseIntPublic10
import Derived.Shelf.Strconv.Itoa4
import Derived.Shelf.Strings.Builder1
import Derived.Ground.NamesProg
import Derived.Test.YtdgemlcdhobejaaGreatDoorProg
import Derived.Test.YtdgemlcdhobejaaGreatDoorXd
import Derived.Test.YtdgemlcdhobejaaGreatDoorRows
import Derived.Test.YtdgemlcdhobejaaGreatDoorXe
import Derived.Test.YtdgemlcdhobejaaGreatDoorXc
namespace Go.Scr
open Go.Lib

theorem ofNat_toNat {k : Nat} (h : k < 256) : (UInt8.ofNat k).toNat = k := by
  rw [UInt8.toNat_ofNat']; omega
theorem dig_all : ∀ (n u : Nat), u ≤ n → ∀ c, c ∈ decDigits u → 48 ≤ c.toNat ∧ c.toNat ≤ 57 := by
  intro n
  induction n with
  | zero =>
    intro u hu c hc
    rw [decDigits, dif_pos (by omega), List.mem_singleton] at hc
    rw [hc, ofNat_toNat (by omega)]; omega
  | succ n ih =>
    intro u hu c hc
    rw [decDigits] at hc
    split at hc
    · rw [List.mem_singleton] at hc
      rw [hc, ofNat_toNat (by omega)]; omega
    rcases List.mem_append.1 hc with h | h
    · exact ih (u / 10) (by omega) c h
    rw [List.mem_singleton] at h
    rw [h, ofNat_toNat (by omega)]; omega
theorem dig_mem {u : Nat} {c : UInt8} (h : c ∈ decDigits u) : 48 ≤ c.toNat ∧ c.toNat ≤ 57 := dig_all u u (Nat.le_refl _) c h
theorem dig_ne (u : Nat) : decDigits u ≠ [] := by
  rw [decDigits]
  split
  · simp
  simp
theorem parse_app : ∀ {l r : List UInt8} {a b : Nat}, parseUint10 a l = .ok b → parseUint10 a (l ++ r) = parseUint10 b r
  | [], r, a, b, h => by
    simp only [parseUint10] at h
    injection h with h
    rw [List.nil_append, h]
  | c :: l, r, a, b, h => by
    rw [List.cons_append]
    simp only [parseUint10] at h ⊢
    split at h
    · rename_i h1
      split at h
      · cases h
      rename_i h2
      split at h
      · cases h
      rename_i h3
      rw [if_pos h1, if_neg h2, if_neg h3]
      exact parse_app h
    cases h
theorem parse_one {a d : Nat} (hd : d < 10) (h : a * 10 + d < 18446744073709551616) : parseUint10 a [UInt8.ofNat (48 + d)] = .ok (a * 10 + d) := by
  simp only [parseUint10, ofNat_toNat (show 48 + d < 256 by omega)]
  rw [if_pos (by omega), if_neg (by omega), if_neg (by omega)]
  congr 1; omega
theorem parse_dig : ∀ (n u : Nat), u ≤ n → u < 18446744073709551616 → parseUint10 0 (decDigits u) = .ok u := by
  intro n
  induction n with
  | zero =>
    intro u hu _
    rw [decDigits, dif_pos (by omega), parse_one (by omega) (by omega)]
    congr 1; omega
  | succ n ih =>
    intro u hu h
    rw [decDigits]
    split
    · rw [parse_one (by omega) (by omega)]; congr 1; omega
    rw [parse_app (ih (u / 10) (by omega) (by omega)), parse_one (by omega) (by omega)]
    congr 1; omega
theorem mag_dig {u : Nat} (h : u < 18446744073709551616) : parseMag (decDigits u) = .ok u := by
  rw [parseMag, if_neg (dig_ne u)]
  exact parse_dig u u (Nat.le_refl _) h
theorem atoi_itoa {n : Int} (h0 : -9223372036854775808 ≤ n) (h1 : n ≤ 9223372036854775807) : atoiAll (itoa n) = .ok n := by
  unfold itoa
  split
  · rename_i hn
    simp only [atoiAll, show (45 : UInt8).toNat = 45 from rfl, or_true, if_true, mag_dig (show n.natAbs < 18446744073709551616 by omega)]
    rw [if_neg (by simp), if_neg (by omega)]
    congr 1; omega
  rename_i hn
  cases e : decDigits n.toNat with
  | nil => exact absurd e (dig_ne _)
  | cons c r =>
    have hc := dig_mem (u := n.toNat) (c := c) (by rw [e]; exact List.mem_cons_self)
    simp only [atoiAll]
    rw [if_neg (show ¬ (c.toNat = 43 ∨ c.toNat = 45) by omega), ← e, mag_dig (show n.toNat < 18446744073709551616 by omega)]
    simp only
    rw [if_neg (by omega), if_neg (by omega), if_neg (by omega)]
    congr 1; omega
theorem int_atoi (l : List UInt8) : parseIntB 64 l = atoiAll l := by
  cases l with
  | nil => rfl
  | cons c r =>
    simp only [parseIntB, atoiAll, parseUintB_64]
    rfl
/-- Whatever is read, is a whole number of 64 bits. -/
theorem atoi_in {l : List UInt8} {v : Int} (h : atoiAll l = .ok v) : -9223372036854775808 ≤ v ∧ v ≤ 9223372036854775807 := by
  cases l with
  | nil => cases h
  | cons c r =>
    simp only [atoiAll] at h
    split at h
    · cases h
    · cases h
    split at h
    · cases h
    split at h
    · cases h
    injection h with h
    subst h
    split <;> omega
theorem itoa_inj {n m : Int} (h0 : -9223372036854775808 ≤ n) (h1 : n ≤ 9223372036854775807) (h2 : -9223372036854775808 ≤ m) (h3 : m ≤ 9223372036854775807) (h : itoa n = itoa m) : n = m := by
  have e1 := atoi_itoa h0 h1
  rw [h, atoi_itoa h2 h3] at e1
  injection e1 with e1
  exact e1.symm
theorem itoa_no {n : Int} {c : UInt8} (h : c ∈ itoa n) : c ≠ 10 ∧ c ≠ 32 := by
  have key : c.toNat = 45 ∨ (48 ≤ c.toNat ∧ c.toNat ≤ 57) := by
    unfold itoa at h
    split at h
    · rcases List.mem_cons.1 h with rfl | h
      · exact .inl rfl
      exact .inr (dig_mem h)
    exact .inr (dig_mem h)
  constructor
  · rintro rfl; revert key; decide
  rintro rfl; revert key; decide

/-- An entry. -/
structure En where
  K : Int
  At : Int
  N : Int
def word (K : Int) : List UInt8 := if K = 1 then [114, 117, 110] else if K = 2 then [119, 111, 114, 107] else if K = 3 then [116, 105, 99, 107] else if K = 4 then [105, 110, 106, 101, 99, 116] else if K = 5 then [108, 105, 102, 101] else []
def mayE (e : En) : Bool := if e.K = 1 ∨ e.K = 2 then decide (0 ≤ e.At) && decide (e.N = 0) else if e.K = 3 then decide (e.At = 0) else if e.K = 4 ∨ e.K = 5 then decide (0 ≤ e.At) else false
def inE (e : En) : Prop := (-9223372036854775808 ≤ e.At ∧ e.At ≤ 9223372036854775807) ∧ (-9223372036854775808 ≤ e.N ∧ e.N ≤ 9223372036854775807)
def hasAt (K : Int) : Bool := decide (K = 1) || decide (K = 2) || decide (K = 4) || decide (K = 5)
def hasN (K : Int) : Bool := decide (K = 3) || decide (K = 4) || decide (K = 5)
/-- A line, without its end. -/
def bodyE (e : En) : List UInt8 := word e.K ++ (if hasAt e.K = true then 32 :: itoa e.At else []) ++ (if hasN e.K = true then 32 :: itoa e.N else [])
def lineE (e : En) : List UInt8 := bodyE e ++ [10]
def linesE (l : List En) : List UInt8 := l.flatMap lineE
theorem word_no {K : Int} {c : UInt8} (h : c ∈ word K) : c ≠ 10 ∧ c ≠ 32 := by
  unfold word at h
  repeat' split at h
  all_goals simp only [List.mem_cons, List.not_mem_nil, or_false] at h
  all_goals (try rcases h with rfl | rfl | rfl)
  all_goals (try rcases h with rfl | rfl | rfl | rfl)
  all_goals (try rcases h with rfl | rfl | rfl | rfl | rfl | rfl)
  all_goals first | (constructor <;> decide) | exact h.elim
theorem body_no {e : En} {c : UInt8} (h : c ∈ bodyE e) : c ≠ 10 := by
  unfold bodyE at h
  rcases List.mem_append.1 h with h | h
  · rcases List.mem_append.1 h with h | h
    · exact (word_no h).1
    split at h
    · rcases List.mem_cons.1 h with rfl | h
      · decide
      exact (itoa_no h).1
    cases h
  split at h
  · rcases List.mem_cons.1 h with rfl | h
    · decide
    exact (itoa_no h).1
  cases h
/-- What stands ahead of the first of a sign is known. -/
theorem cut_one {c : UInt8} : ∀ {p q x y : List UInt8}, c ∉ p → c ∉ q → p ++ c :: x = q ++ c :: y → p = q ∧ x = y
  | [], [], x, y, _, _, h => by
    rw [List.nil_append, List.nil_append] at h
    injection h with _ h
    exact ⟨rfl, h⟩
  | [], b :: q, x, y, _, hq, h => by
    rw [List.nil_append, List.cons_append] at h
    injection h with h _
    exact absurd (by rw [h]; exact List.mem_cons_self) hq
  | a :: p, [], x, y, hp, _, h => by
    rw [List.nil_append, List.cons_append] at h
    injection h with h _
    exact absurd (by rw [← h]; exact List.mem_cons_self) hp
  | a :: p, b :: q, x, y, hp, hq, h => by
    rw [List.cons_append, List.cons_append] at h
    injection h with h1 h2
    obtain ⟨e1, e2⟩ := cut_one (fun hm => hp (List.mem_cons_of_mem _ hm)) (fun hm => hq (List.mem_cons_of_mem _ hm)) h2
    exact ⟨by rw [h1, e1], e2⟩
end Go.Scr

namespace Go.Scr
open Go.Lib

theorem may_K {e : En} (h : mayE e = true) : e.K = 1 ∨ e.K = 2 ∨ e.K = 3 ∨ e.K = 4 ∨ e.K = 5 := by
  unfold mayE at h
  split at h
  · omega
  split at h
  · omega
  split at h
  · omega
  cases h
theorem word_inj {K K' : Int} (h1 : K = 1 ∨ K = 2 ∨ K = 3 ∨ K = 4 ∨ K = 5) (h2 : K' = 1 ∨ K' = 2 ∨ K' = 3 ∨ K' = 4 ∨ K' = 5) (h : word K = word K') : K = K' := by
  rcases h1 with rfl | rfl | rfl | rfl | rfl <;> rcases h2 with rfl | rfl | rfl | rfl | rfl <;> first | rfl | exact absurd h (by decide)
/-- What stands behind a line's word. -/
def tailE (e : En) : List UInt8 := if e.K = 1 ∨ e.K = 2 then itoa e.At else if e.K = 3 then itoa e.N else itoa e.At ++ 32 :: itoa e.N
theorem body_form {e : En} (h : e.K = 1 ∨ e.K = 2 ∨ e.K = 3 ∨ e.K = 4 ∨ e.K = 5) : bodyE e = word e.K ++ 32 :: tailE e := by
  obtain ⟨K, At, N⟩ := e
  simp only at h
  rcases h with rfl | rfl | rfl | rfl | rfl
  · show word 1 ++ 32 :: itoa At ++ [] = word 1 ++ 32 :: itoa At
    rw [List.append_nil]
  · show word 2 ++ 32 :: itoa At ++ [] = word 2 ++ 32 :: itoa At
    rw [List.append_nil]
  · show word 3 ++ [] ++ 32 :: itoa N = word 3 ++ 32 :: itoa N
    rw [List.append_nil]
  · show word 4 ++ 32 :: itoa At ++ 32 :: itoa N = word 4 ++ 32 :: (itoa At ++ 32 :: itoa N)
    rw [List.append_assoc]; rfl
  show word 5 ++ 32 :: itoa At ++ 32 :: itoa N = word 5 ++ 32 :: (itoa At ++ 32 :: itoa N)
  rw [List.append_assoc]; rfl
theorem En.same {a b : En} (h1 : a.K = b.K) (h2 : a.At = b.At) (h3 : a.N = b.N) : a = b := by
  obtain ⟨K, At, N⟩ := a
  obtain ⟨K', At', N'⟩ := b
  simp only at h1 h2 h3
  rw [h1, h2, h3]
theorem may_at {e : En} (h : mayE e = true) (hK : e.K = 3) : e.At = 0 := by
  unfold mayE at h
  rw [if_neg (by omega), if_pos hK] at h
  simpa using h
theorem may_n {e : En} (h : mayE e = true) (hK : e.K = 1 ∨ e.K = 2) : e.N = 0 := by
  unfold mayE at h
  rw [if_pos hK] at h
  simp only [Bool.and_eq_true, decide_eq_true_eq] at h
  exact h.2
theorem word_sp (K : Int) : (32 : UInt8) ∉ word K := fun h => (word_no h).2 rfl
theorem itoa_sp (n : Int) : (32 : UInt8) ∉ itoa n := fun h => (itoa_no h).2 rfl
theorem body_inj {a b : En} (ha : mayE a = true) (ia : inE a) (hb : mayE b = true) (ib : inE b) (h : bodyE a = bodyE b) : a = b := by
  have ka := may_K ha
  have kb := may_K hb
  rw [body_form ka, body_form kb] at h
  obtain ⟨h1, h2⟩ := cut_one (word_sp _) (word_sp _) h
  have hK := word_inj ka kb h1
  obtain ⟨⟨a1, a2⟩, a3, a4⟩ := ia
  obtain ⟨⟨b1, b2⟩, b3, b4⟩ := ib
  unfold tailE at h2
  rw [← hK] at h2
  by_cases c1 : a.K = 1 ∨ a.K = 2
  · rw [if_pos c1, if_pos c1] at h2
    exact En.same hK (itoa_inj a1 a2 b1 b2 h2) ((may_n ha c1).trans (may_n hb (by omega)).symm)
  rw [if_neg c1, if_neg c1] at h2
  by_cases c2 : a.K = 3
  · rw [if_pos c2, if_pos c2] at h2
    exact En.same hK ((may_at ha c2).trans (may_at hb (by omega)).symm) (itoa_inj a3 a4 b3 b4 h2)
  rw [if_neg c2, if_neg c2] at h2
  obtain ⟨h3, h4⟩ := cut_one (itoa_sp _) (itoa_sp _) h2
  exact En.same hK (itoa_inj a1 a2 b1 b2 h3) (itoa_inj a3 a4 b3 b4 h4)
/-- Entries that may be. -/
def AllE (l : List En) : Prop := ∀ e, e ∈ l → mayE e = true ∧ inE e
theorem AllE.tail {e : En} {l : List En} (h : AllE (e :: l)) : AllE l := fun x hx => h x (List.mem_cons_of_mem _ hx)
theorem AllE.head {e : En} {l : List En} (h : AllE (e :: l)) : mayE e = true ∧ inE e := h e List.mem_cons_self
theorem body_nl (e : En) : (10 : UInt8) ∉ bodyE e := fun h => body_no h rfl
theorem lines_cons (e : En) (l : List En) : linesE (e :: l) = bodyE e ++ 10 :: linesE l := by
  simp [linesE, lineE]
theorem lines_app (l m : List En) : linesE (l ++ m) = linesE l ++ linesE m := by simp [linesE]
/-- What is read ahead, is the script's beginning. -/
theorem lines_pre : ∀ {L M : List En} {t : List UInt8}, AllE L → AllE M → linesE L ++ t = linesE M → ∃ M', M = L ++ M' ∧ t = linesE M'
  | [], M, t, _, _, h => ⟨M, rfl, h⟩
  | e :: L, [], t, _, _, h => by
    rw [lines_cons] at h
    have := congrArg List.length h
    simp [linesE] at this
  | e :: L, f :: M, t, hL, hM, h => by
    rw [lines_cons, lines_cons, List.append_assoc, List.cons_append] at h
    obtain ⟨h1, h2⟩ := cut_one (body_nl e) (body_nl f) h
    have := body_inj hL.head.1 hL.head.2 hM.head.1 hM.head.2 h1
    subst this
    obtain ⟨M', h3, h4⟩ := lines_pre hL.tail hM.tail h2
    exact ⟨M', by rw [h3]; rfl, h4⟩
theorem lines_inj {L M : List En} (hL : AllE L) (hM : AllE M) (h : linesE L = linesE M) : L = M := by
  obtain ⟨M', h1, h2⟩ := lines_pre (t := []) hL hM (by rw [List.append_nil]; exact h)
  cases M' with
  | nil => rw [h1, List.append_nil]
  | cons e M' =>
    rw [lines_cons] at h2
    have := congrArg List.length h2
    simp at this
/-- The next line is an entry's. -/
theorem lines_next {L M : List En} {p t : List UInt8} (hL : AllE L) (hM : AllE M) (hp : (10 : UInt8) ∉ p) (h : linesE L ++ (p ++ 10 :: t) = linesE M) : ∃ e M', M = L ++ e :: M' ∧ bodyE e = p ∧ t = linesE M' := by
  obtain ⟨M', h1, h2⟩ := lines_pre hL hM h
  cases M' with
  | nil =>
    have := congrArg List.length h2
    simp [linesE] at this
  | cons e M' =>
    rw [lines_cons] at h2
    obtain ⟨h3, h4⟩ := cut_one hp (body_nl e) h2
    exact ⟨e, M', h1, h3.symm, h4⟩
/-- A script ends with a line's end. -/
theorem lines_last {L M : List En} {p : List UInt8} (hL : AllE L) (hM : AllE M) (hp : (10 : UInt8) ∉ p) (h0 : p ≠ []) (h : linesE L ++ p = linesE M) : False := by
  obtain ⟨M', _, h2⟩ := lines_pre hL hM h
  cases M' with
  | nil => exact h0 h2
  | cons e M' =>
    rw [lines_cons] at h2
    exact hp (by rw [h2]; simp)

/-- Words of a line: what stands between blanks. -/
def segs : List UInt8 → List (List UInt8)
  | [] => [[]]
  | c :: r => if c = 32 then [] :: segs r else match segs r with
    | [] => [[c]]
    | s :: l => (c :: s) :: l
theorem segs_ne (s : List UInt8) : segs s ≠ [] := by
  cases s with
  | nil => simp [segs]
  | cons c r =>
    rw [segs]
    split
    · simp
    split <;> simp
theorem segs_one : ∀ {p : List UInt8}, (32 : UInt8) ∉ p → segs p = [p]
  | [], _ => rfl
  | c :: p, h => by
    rw [segs, if_neg (fun e => h (by rw [e]; exact List.mem_cons_self)), segs_one (fun hm => h (List.mem_cons_of_mem _ hm))]
theorem segs_cut : ∀ {p : List UInt8} (t : List UInt8), (32 : UInt8) ∉ p → segs (p ++ 32 :: t) = p :: segs t
  | [], t, _ => by rw [List.nil_append, segs, if_pos rfl]
  | c :: p, t, h => by
    rw [List.cons_append, segs, if_neg (fun e => h (by rw [e]; exact List.mem_cons_self)), segs_cut t (fun hm => h (List.mem_cons_of_mem _ hm))]
theorem pre_one (c b : UInt8) (l : List UInt8) : [c].isPrefixOf (b :: l) = (c == b) := by
  simp [List.isPrefixOf]
theorem index_one : ∀ (s : List UInt8), (index s [32] = -1 ∧ (32 : UInt8) ∉ s) ∨ ∃ p t, s = p ++ 32 :: t ∧ (32 : UInt8) ∉ p ∧ index s [32] = p.length
  | [] => .inl ⟨by decide, by simp⟩
  | b :: l => by
    by_cases e : b = 32
    · subst e
      exact .inr ⟨[], l, rfl, by simp, by simp [index]⟩
    have hp : [32].isPrefixOf (b :: l) = false := by
      rw [pre_one]
      cases h : ((32 : UInt8) == b) with
      | false => rfl
      | true => exact absurd (eq_of_beq h).symm e
    rcases index_one l with ⟨h1, h2⟩ | ⟨p, t, h1, h2, h3⟩
    · left
      refine ⟨?_, ?_⟩
      · simp only [index, hp, h1]
        simp
      intro hm
      rcases List.mem_cons.1 hm with h | h
      · exact e h.symm
      exact h2 h
    right
    refine ⟨b :: p, t, by rw [h1]; rfl, ?_, ?_⟩
    · intro hm
      rcases List.mem_cons.1 hm with h | h
      · exact e h.symm
      exact h2 h
    simp only [index, hp, h3]
    rw [if_neg (by simp), if_neg (by simp)]
    simp
theorem splitK_segs : ∀ (k : Nat) (s : List UInt8), s.count 32 ≤ k → splitK [32] 0 k s = segs s
  | 0, s, h => by
    have h1 : (32 : UInt8) ∉ s := fun hm => by have := List.count_pos_iff.2 hm; omega
    rw [splitK, segs_one h1]
  | k + 1, s, h => by
    rw [splitK]
    rcases index_one s with ⟨h1, h2⟩ | ⟨p, t, h1, h2, h3⟩
    · rw [h1, if_pos (by simp), segs_one h2]
    rw [h3, if_neg (by simp)]
    subst h1
    have e1 : ((p.length : Int).toNat + 0) = p.length := by omega
    have e2 : (p.length : Int).toNat + [(32 : UInt8)].length = p.length + 1 := by simp
    rw [e1, e2, List.take_left', segs_cut t h2]
    · congr 1
      rw [show (p ++ 32 :: t).drop (p.length + 1) = t by rw [List.drop_append]; simp]
      exact splitK_segs k t (by rw [List.count_append, List.count_cons_self] at h; omega)
    rfl
end Go.Scr

namespace Go.Scr
open Go.Lib

/-- The number that a word is read as. -/
def numA (l : List UInt8) : Int := match atoiAll l with
  | .ok v => v
  | .syntax => 0
  | .range => atoiSat l
theorem numA_itoa {n : Int} (h0 : -9223372036854775808 ≤ n) (h1 : n ≤ 9223372036854775807) : numA (itoa n) = n := by
  rw [numA, atoi_itoa h0 h1]
theorem numA_in (l : List UInt8) : -9223372036854775808 ≤ numA l ∧ numA l ≤ 9223372036854775807 := by
  unfold numA
  split
  · rename_i v h; exact atoi_in h
  · omega
  unfold atoiSat; split <;> omega
def firstA (l : List (List UInt8)) : Int := match l with
  | [] => 0
  | r :: _ => numA r
theorem firstA_in (l : List (List UInt8)) : -9223372036854775808 ≤ firstA l ∧ firstA l ≤ 9223372036854775807 := by
  unfold firstA
  split
  · omega
  exact numA_in _
/-- What the program reads a line as, as an entry of a kind. -/
def readE (k : Int) (p : List UInt8) : En := ⟨k, if hasAt k = true then firstA ((segs p).drop 1) else 0, if hasN k = true then firstA (if hasAt k = true then (segs p).drop 2 else (segs p).drop 1) else 0⟩
def fitsP (k : Int) (p : List UInt8) : Bool := decide ((segs p).headD [] = word k) && (mayE (readE k p) && decide (lineE (readE k p) = p ++ [10]))
theorem in_ite {c : Prop} [Decidable c] {a b : Int} (ha : -9223372036854775808 ≤ a ∧ a ≤ 9223372036854775807) (hb : -9223372036854775808 ≤ b ∧ b ≤ 9223372036854775807) : -9223372036854775808 ≤ (if c then a else b) ∧ (if c then a else b) ≤ 9223372036854775807 := by
  split
  · exact ha
  exact hb
theorem in_0 : (-9223372036854775808 : Int) ≤ 0 ∧ (0 : Int) ≤ 9223372036854775807 := by omega
theorem read_in (k : Int) (p : List UInt8) : inE (readE k p) := ⟨in_ite (firstA_in _) in_0, in_ite (firstA_in _) in_0⟩
theorem fits_is {k : Int} {p : List UInt8} (h : fitsP k p = true) : mayE (readE k p) = true ∧ inE (readE k p) ∧ bodyE (readE k p) = p := by
  unfold fitsP at h
  simp only [Bool.and_eq_true, decide_eq_true_eq] at h
  refine ⟨h.2.1, read_in k p, ?_⟩
  have := h.2.2
  rw [lineE] at this
  exact List.append_cancel_right this
/-- The words of an entry's line. -/
theorem segs_body {e : En} (h : e.K = 1 ∨ e.K = 2 ∨ e.K = 3 ∨ e.K = 4 ∨ e.K = 5) : segs (bodyE e) = word e.K :: (if e.K = 1 ∨ e.K = 2 then [itoa e.At] else if e.K = 3 then [itoa e.N] else [itoa e.At, itoa e.N]) := by
  rw [body_form h, segs_cut _ (word_sp _), tailE]
  by_cases c1 : e.K = 1 ∨ e.K = 2
  · rw [if_pos c1, if_pos c1, segs_one (itoa_sp _)]
  rw [if_neg c1, if_neg c1]
  by_cases c2 : e.K = 3
  · rw [if_pos c2, if_pos c2, segs_one (itoa_sp _)]
  rw [if_neg c2, if_neg c2, segs_cut _ (itoa_sp _), segs_one (itoa_sp _)]
theorem read_is {e : En} (h : mayE e = true) (hi : inE e) : readE e.K (bodyE e) = e ∧ fitsP e.K (bodyE e) = true := by
  have hK := may_K h
  have hs := segs_body hK
  obtain ⟨⟨a1, a2⟩, a3, a4⟩ := hi
  have hr : readE e.K (bodyE e) = e := by
    unfold readE
    rw [hs]
    refine En.same rfl ?_ ?_
    · show (if hasAt e.K = true then _ else _) = e.At
      rcases hK with c | c | c | c | c
      · rw [c, if_pos (by decide), if_pos (by omega)]; exact numA_itoa a1 a2
      · rw [c, if_pos (by decide), if_pos (by omega)]; exact numA_itoa a1 a2
      · rw [if_neg (by rw [c]; decide)]; exact (may_at h c).symm
      · rw [c, if_pos (by decide), if_neg (by omega), if_neg (by omega)]; exact numA_itoa a1 a2
      rw [c, if_pos (by decide), if_neg (by omega), if_neg (by omega)]; exact numA_itoa a1 a2
    show (if hasN e.K = true then _ else _) = e.N
    rcases hK with c | c | c | c | c
    · rw [if_neg (by rw [c]; decide)]; exact (may_n h (.inl c)).symm
    · rw [if_neg (by rw [c]; decide)]; exact (may_n h (.inr c)).symm
    · rw [c, if_pos (by decide), if_neg (by decide), if_neg (by omega), if_pos rfl]; exact numA_itoa a3 a4
    · rw [c, if_pos (by decide), if_pos (by decide), if_neg (by omega), if_neg (by omega)]; exact numA_itoa a3 a4
    rw [c, if_pos (by decide), if_pos (by decide), if_neg (by omega), if_neg (by omega)]; exact numA_itoa a3 a4
  refine ⟨hr, ?_⟩
  unfold fitsP
  rw [hr, hs, h]
  simp [lineE]

/-! The document's -/

/-- The digits of a word, as the document adds them up (a uint64). -/
def valN : Nat → List UInt8 → Nat
  | n, [] => n
  | n, c :: r => valN (if c = 45 then n else (10 * n + (c.toNat + 208) % 256) % 18446744073709551616) r
/-- A uint64 as an int64. -/
def toI (n : Nat) : Int := if n < 9223372036854775808 then n else (n : Int) - 18446744073709551616
def valI (l : List UInt8) : Int := if l.head? = some 45 then toI ((18446744073709551616 - valN 0 l) % 18446744073709551616) else toI (valN 0 l)
theorem valN_app : ∀ (l r : List UInt8) (n : Nat), valN n (l ++ r) = valN (valN n l) r
  | [], _, _ => rfl
  | c :: l, r, n => by rw [List.cons_append, valN, valN, valN_app l r]
theorem valN_one {n d : Nat} (hd : d < 10) (h : 10 * n + d < 18446744073709551616) : valN n [UInt8.ofNat (48 + d)] = 10 * n + d := by
  have ht := ofNat_toNat (show 48 + d < 256 by omega)
  have hc : UInt8.ofNat (48 + d) ≠ 45 := fun e => by
    have := congrArg UInt8.toNat e
    rw [ht] at this
    have e45 : (45 : UInt8).toNat = 45 := rfl
    omega
  rw [valN, valN, if_neg hc, ht]
  omega
theorem valN_dig : ∀ (n u : Nat), u ≤ n → u < 18446744073709551616 → valN 0 (decDigits u) = u := by
  intro n
  induction n with
  | zero =>
    intro u hu _
    rw [decDigits, dif_pos (by omega), valN_one (by omega) (by omega)]; omega
  | succ n ih =>
    intro u hu h
    rw [decDigits]
    split
    · rw [valN_one (by omega) (by omega)]; omega
    rw [valN_app, ih (u / 10) (by omega) (by omega), valN_one (by omega) (by omega)]; omega
theorem valI_itoa {n : Int} (h0 : -9223372036854775808 ≤ n) (h1 : n ≤ 9223372036854775807) : valI (itoa n) = n := by
  unfold itoa
  split
  · rename_i hn
    rw [valI, if_pos List.head?_cons, valN, if_pos rfl, valN_dig _ _ (Nat.le_refl _) (show n.natAbs < 18446744073709551616 by omega), toI]
    split <;> omega
  rename_i hn
  have hd := valN_dig _ _ (Nat.le_refl _) (show n.toNat < 18446744073709551616 by omega)
  have hh : (decDigits n.toNat).head? ≠ some 45 := by
    cases e : decDigits n.toNat with
    | nil => simp
    | cons c r =>
      have hc := dig_mem (u := n.toNat) (c := c) (by rw [e]; exact List.mem_cons_self)
      intro h
      simp only [List.head?_cons, Option.some.injEq] at h
      rw [h] at hc
      have e45 : (45 : UInt8).toNat = 45 := rfl
      omega
  rw [valI, if_neg hh, hd, toI, if_pos (by omega)]
  omega
theorem toI_in {n : Nat} (h : n < 18446744073709551616) : -9223372036854775808 ≤ toI n ∧ toI n ≤ 9223372036854775807 := by
  unfold toI; split <;> omega
theorem valN_lt : ∀ (l : List UInt8) (n : Nat), n < 18446744073709551616 → valN n l < 18446744073709551616
  | [], n, h => h
  | c :: l, n, h => by
    rw [valN]
    refine valN_lt l _ ?_
    split
    · exact h
    exact Nat.mod_lt _ (by omega)
theorem valI_in (l : List UInt8) : -9223372036854775808 ≤ valI l ∧ valI l ≤ 9223372036854775807 := by
  unfold valI
  split
  · exact toI_in (Nat.mod_lt _ (by omega))
  exact toI_in (valN_lt _ _ (by omega))
def kindOf (w : List UInt8) : Int := if w = word 1 then 1 else if w = word 2 then 2 else if w = word 3 then 3 else if w = word 4 then 4 else if w = word 5 then 5 else 0
/-- The entry that the document reads a line as, of its words. -/
def oneE (p : List UInt8) : En :=
  let w := segs p ++ [[], [], []]
  let k := kindOf (w.getD 0 [])
  ⟨k, if k = 3 then 0 else valI (w.getD 1 []), if k = 1 ∨ k = 2 then 0 else if k = 3 then valI (w.getD 1 []) else valI (w.getD 2 [])⟩
def fitsD (p : List UInt8) : Bool := mayE (oneE p) && decide (lineE (oneE p) = p ++ [10])
theorem one_in (p : List UInt8) : inE (oneE p) := ⟨in_ite in_0 (valI_in _), in_ite in_0 (in_ite (valI_in _) (valI_in _))⟩
theorem fitsD_is {p : List UInt8} (h : fitsD p = true) : mayE (oneE p) = true ∧ inE (oneE p) ∧ bodyE (oneE p) = p := by
  unfold fitsD at h
  simp only [Bool.and_eq_true, decide_eq_true_eq] at h
  refine ⟨h.1, one_in p, ?_⟩
  have := h.2
  rw [lineE] at this
  exact List.append_cancel_right this
theorem one_is {e : En} (h : mayE e = true) (hi : inE e) : oneE (bodyE e) = e ∧ fitsD (bodyE e) = true := by
  have hK := may_K h
  have hs := segs_body hK
  obtain ⟨⟨a1, a2⟩, a3, a4⟩ := hi
  have hr : oneE (bodyE e) = e := by
    unfold oneE
    rw [hs]
    have hk : kindOf (word e.K) = e.K := by
      rcases hK with c | c | c | c | c <;> rw [c] <;> decide
    rcases hK with c | c | c | c | c
    · rw [if_pos (by omega)]
      refine En.same hk ?_ ?_
      · show (if kindOf (word e.K) = 3 then _ else _) = e.At
        rw [hk, if_neg (by omega)]; exact valI_itoa a1 a2
      show (if kindOf (word e.K) = 1 ∨ kindOf (word e.K) = 2 then _ else _) = e.N
      rw [hk, if_pos (by omega)]; exact (may_n h (.inl c)).symm
    · rw [if_pos (by omega)]
      refine En.same hk ?_ ?_
      · show (if kindOf (word e.K) = 3 then _ else _) = e.At
        rw [hk, if_neg (by omega)]; exact valI_itoa a1 a2
      show (if kindOf (word e.K) = 1 ∨ kindOf (word e.K) = 2 then _ else _) = e.N
      rw [hk, if_pos (by omega)]; exact (may_n h (.inr c)).symm
    · rw [if_neg (by omega), if_pos c]
      refine En.same hk ?_ ?_
      · show (if kindOf (word e.K) = 3 then _ else _) = e.At
        rw [hk, if_pos c]; exact (may_at h c).symm
      show (if kindOf (word e.K) = 1 ∨ kindOf (word e.K) = 2 then _ else if kindOf (word e.K) = 3 then _ else _) = e.N
      rw [hk, if_neg (by omega), if_pos c]; exact valI_itoa a3 a4
    · rw [if_neg (by omega), if_neg (by omega)]
      refine En.same hk ?_ ?_
      · show (if kindOf (word e.K) = 3 then _ else _) = e.At
        rw [hk, if_neg (by omega)]; exact valI_itoa a1 a2
      show (if kindOf (word e.K) = 1 ∨ kindOf (word e.K) = 2 then _ else if kindOf (word e.K) = 3 then _ else _) = e.N
      rw [hk, if_neg (by omega), if_neg (by omega)]; exact valI_itoa a3 a4
    rw [if_neg (by omega), if_neg (by omega)]
    refine En.same hk ?_ ?_
    · show (if kindOf (word e.K) = 3 then _ else _) = e.At
      rw [hk, if_neg (by omega)]; exact valI_itoa a1 a2
    show (if kindOf (word e.K) = 1 ∨ kindOf (word e.K) = 2 then _ else if kindOf (word e.K) = 3 then _ else _) = e.N
    rw [hk, if_neg (by omega), if_neg (by omega)]; exact valI_itoa a3 a4
  refine ⟨hr, ?_⟩
  unfold fitsD
  rw [hr, h]
  simp [lineE]
end Go.Scr

/-
  DERIVED: THE SHELF's CONTRACTS AT THIS DUMP, IN PLAIN WORDS (tools/lay-plain.mjs out of 'TryShelf.lean', which tools/lay-shelf.mjs wrote): THE SAME DECLARATIONS UNDER THE SAME NAMES: 'import', 'namespace', 'open', 'def', 'theorem' AND NOTHING ELSE: no command of the shelf's: FOR A HAND-IN. Each laying: the table of numbers ('.._ren') and one theorem, a field a fact of the dump's own or the kernel's comparison; each contract: ONE APPLICATION.
-/
namespace Go.Proofs
open Go.Shelf
def Tryz.lays146_ren : Go.Shelf.Ren := ⟨fun | 146 => 33 | 221 => 55 | 268 => 82 | 138 => 83 | 143 => 84 | 195 => 117 | 197 => 118 | 218 => 119 | 219 => 54 | 260 => 142 | 217 => 78 | 225 => 79 | 224 => 80 | 267 => 81 | 266 => 115 | 314 => 116 | n => n, fun | 9 => 9 | 31 => 70 | 3 => 3 | 4 => 4 | 0 => 0 | 105 => 223 | 21 => 21 | 5 => 5 | 46 => 173 | 119 => 274 | 139 => 277 | 138 => 276 | 146 => 220 | 51 => 217 | n => n, fun | 1 => 0 | 3 => 6 | 4 => 7 | n => n⟩
theorem Tryz.lays146 : Go.Proofs.Lays.n146 Tryz.prog Tryz.lays146_ren := {
  mixed := by kernel_rfl
  f138 := Tryz.func83.trans (congrArg some (by kernel_rfl))
  f143 := Tryz.func84.trans (congrArg some (by kernel_rfl))
  f146 := Tryz.func33.trans (congrArg some (by kernel_rfl))
  f195 := Tryz.func117.trans (congrArg some (by kernel_rfl))
  f197 := Tryz.func118.trans (congrArg some (by kernel_rfl))
  f217 := Tryz.func78.trans (congrArg some (by kernel_rfl))
  f218 := Tryz.func119.trans (congrArg some (by kernel_rfl))
  f219 := Tryz.func54.trans (congrArg some (by kernel_rfl))
  f221 := Tryz.func55.trans (congrArg some (by kernel_rfl))
  f224 := Tryz.func80.trans (congrArg some (by kernel_rfl))
  f225 := Tryz.func79.trans (congrArg some (by kernel_rfl))
  f260 := Tryz.func142.trans (congrArg some (by kernel_rfl))
  f266 := Tryz.func115.trans (congrArg some (by kernel_rfl))
  f267 := Tryz.func81.trans (congrArg some (by kernel_rfl))
  f268 := Tryz.func82.trans (congrArg some (by kernel_rfl))
  f314 := Tryz.func116.trans (congrArg some (by kernel_rfl))
  t0 := Tryz.underlying0
  a0 := Tryz.isAgg0
  z0 := Tryz.sizeOf0
  v0 := Tryz.zeroValue0
  t3 := Tryz.underlying3
  a3 := Tryz.isAgg3
  z3 := Tryz.sizeOf3
  v3 := Tryz.zeroValue3
  t4 := Tryz.underlying4
  a4 := Tryz.isAgg4
  z4 := Tryz.sizeOf4
  v4 := Tryz.zeroValue4
  t5 := Tryz.underlying5
  a5 := Tryz.isAgg5
  z5 := Tryz.sizeOf5
  v5 := Tryz.zeroValue5
  t9 := Tryz.underlying9
  a9 := Tryz.isAgg9
  z9 := Tryz.sizeOf9
  v9 := Tryz.zeroValue9
  t21 := Tryz.underlying21
  a21 := Tryz.isAgg21
  z21 := Tryz.sizeOf21
  v21 := Tryz.zeroValue21
  t31 := Tryz.underlying70
  a31 := Tryz.isAgg70
  z31 := Tryz.sizeOf70
  v31 := Tryz.zeroValue70
  t46 := Tryz.underlying173
  a46 := Tryz.isAgg173
  z46 := Tryz.sizeOf173
  v46 := Tryz.zeroValue173
  t51 := Tryz.underlying217
  a51 := Tryz.isAgg217
  z51 := Tryz.sizeOf217
  v51 := Tryz.zeroValue217
  t105 := Tryz.underlying223
  a105 := Tryz.isAgg223
  z105 := Tryz.sizeOf223
  v105 := Tryz.zeroValue223
  t119 := Tryz.underlying274
  a119 := Tryz.isAgg274
  z119 := Tryz.sizeOf274
  t138 := Tryz.underlying276
  a138 := Tryz.isAgg276
  z138 := Tryz.sizeOf276
  v138 := Tryz.zeroValue276
  t139 := Tryz.underlying277
  a139 := Tryz.isAgg277
  z139 := Tryz.sizeOf277
  v139 := Tryz.zeroValue277
  t146 := Tryz.underlying220
  a146 := Tryz.isAgg220
  z146 := Tryz.sizeOf220
  v146 := Tryz.zeroValue220
  g1 := by kernel_rfl
  g3 := by kernel_rfl
  g4 := by kernel_rfl }
def Tryz.lays145_ren : Go.Shelf.Ren := ⟨fun | 145 => 18 | 220 => 32 | 219 => 54 | 217 => 78 | 225 => 79 | 224 => 80 | 267 => 81 | 266 => 115 | 314 => 116 | n => n, fun | 9 => 9 | 4 => 4 | 59 => 54 | 3 => 3 | 5 => 5 | 46 => 173 | 146 => 220 | 51 => 217 | n => n, fun | 1 => 0 | n => n⟩
theorem Tryz.lays145 : Go.Proofs.Lays.n145 Tryz.prog Tryz.lays145_ren := {
  mixed := by kernel_rfl
  f145 := Tryz.func18.trans (congrArg some (by kernel_rfl))
  f217 := Tryz.func78.trans (congrArg some (by kernel_rfl))
  f219 := Tryz.func54.trans (congrArg some (by kernel_rfl))
  f220 := Tryz.func32.trans (congrArg some (by kernel_rfl))
  f224 := Tryz.func80.trans (congrArg some (by kernel_rfl))
  f225 := Tryz.func79.trans (congrArg some (by kernel_rfl))
  f266 := Tryz.func115.trans (congrArg some (by kernel_rfl))
  f267 := Tryz.func81.trans (congrArg some (by kernel_rfl))
  f314 := Tryz.func116.trans (congrArg some (by kernel_rfl))
  t3 := Tryz.underlying3
  a3 := Tryz.isAgg3
  z3 := Tryz.sizeOf3
  v3 := Tryz.zeroValue3
  t4 := Tryz.underlying4
  a4 := Tryz.isAgg4
  z4 := Tryz.sizeOf4
  v4 := Tryz.zeroValue4
  t5 := Tryz.underlying5
  a5 := Tryz.isAgg5
  z5 := Tryz.sizeOf5
  v5 := Tryz.zeroValue5
  t9 := Tryz.underlying9
  a9 := Tryz.isAgg9
  z9 := Tryz.sizeOf9
  v9 := Tryz.zeroValue9
  t46 := Tryz.underlying173
  a46 := Tryz.isAgg173
  z46 := Tryz.sizeOf173
  v46 := Tryz.zeroValue173
  t51 := Tryz.underlying217
  a51 := Tryz.isAgg217
  z51 := Tryz.sizeOf217
  v51 := Tryz.zeroValue217
  t59 := Tryz.underlying54
  a59 := Tryz.isAgg54
  z59 := Tryz.sizeOf54
  v59 := Tryz.zeroValue54
  t146 := Tryz.underlying220
  a146 := Tryz.isAgg220
  z146 := Tryz.sizeOf220
  v146 := Tryz.zeroValue220
  g1 := by kernel_rfl }
def Tryz.lays172_ren : Go.Shelf.Ren := ⟨fun | 172 => 34 | 244 => 56 | 245 => 57 | 247 => 58 | 279 => 85 | 280 => 86 | 281 => 87 | 282 => 88 | 287 => 89 | 316 => 120 | 171 => 29 | 205 => 121 | 321 => 122 | 322 => 123 | 243 => 51 | 246 => 52 | 283 => 74 | 284 => 75 | 285 => 76 | 286 => 77 | 129 => 111 | 317 => 110 | 318 => 112 | 319 => 113 | 320 => 114 | 337 => 140 | 338 => 141 | n => n, fun | 9 => 9 | 3 => 3 | 75 => 49 | 76 => 50 | 4 => 4 | 5 => 5 | 167 => 175 | 37 => 45 | 0 => 0 | 85 => 72 | 2 => 2 | 168 => 176 | 53 => 121 | 175 => 179 | 46 => 173 | 210 => 227 | 127 => 68 | 145 => 251 | 143 => 249 | 21 => 21 | 171 => 167 | 173 => 170 | 212 => 216 | 51 => 217 | 20 => 20 | 213 => 218 | 232 => 272 | 233 => 273 | 80 => 53 | n => n, fun | 15 => 2 | 16 => 3 | 17 => 1 | 18 => 4 | 19 => 5 | n => n⟩
theorem Tryz.lays172 : Go.Proofs.LaysC.n172 Tryz.prog Tryz.lays172_ren := {
  mixed := by kernel_rfl
  f129 := Tryz.func111.trans (congrArg some (by kernel_rfl))
  f171 := Tryz.func29.trans (congrArg some (by kernel_rfl))
  f172 := Tryz.func34.trans (congrArg some (by kernel_rfl))
  f205 := Tryz.func121.trans (congrArg some (by kernel_rfl))
  f243 := Tryz.func51.trans (congrArg some (by kernel_rfl))
  f244 := Tryz.func56.trans (congrArg some (by kernel_rfl))
  f245 := Tryz.func57.trans (congrArg some (by kernel_rfl))
  f246 := Tryz.func52.trans (congrArg some (by kernel_rfl))
  f247 := Tryz.func58.trans (congrArg some (by kernel_rfl))
  f279 := Tryz.func85.trans (congrArg some (by kernel_rfl))
  f280 := Tryz.func86.trans (congrArg some (by kernel_rfl))
  f281 := Tryz.func87.trans (congrArg some (by kernel_rfl))
  f282 := Tryz.func88.trans (congrArg some (by kernel_rfl))
  f283 := Tryz.func74.trans (congrArg some (by kernel_rfl))
  f284 := Tryz.func75.trans (congrArg some (by kernel_rfl))
  f285 := Tryz.func76.trans (congrArg some (by kernel_rfl))
  f286 := Tryz.func77.trans (congrArg some (by kernel_rfl))
  f287 := Tryz.func89.trans (congrArg some (by kernel_rfl))
  f316 := Tryz.func120.trans (congrArg some (by kernel_rfl))
  f317 := Tryz.func110.trans (congrArg some (by kernel_rfl))
  f318 := Tryz.func112.trans (congrArg some (by kernel_rfl))
  f319 := Tryz.func113.trans (congrArg some (by kernel_rfl))
  f320 := Tryz.func114.trans (congrArg some (by kernel_rfl))
  f321 := Tryz.func122.trans (congrArg some (by kernel_rfl))
  f322 := Tryz.func123.trans (congrArg some (by kernel_rfl))
  f337 := Tryz.func140.trans (congrArg some (by kernel_rfl))
  f338 := Tryz.func141.trans (congrArg some (by kernel_rfl))
  t0 := Tryz.underlying0
  a0 := Tryz.isAgg0
  z0 := Tryz.sizeOf0
  v0 := Tryz.zeroValue0
  t2 := Tryz.underlying2
  a2 := Tryz.isAgg2
  z2 := Tryz.sizeOf2
  v2 := Tryz.zeroValue2
  t3 := Tryz.underlying3
  a3 := Tryz.isAgg3
  z3 := Tryz.sizeOf3
  v3 := Tryz.zeroValue3
  t4 := Tryz.underlying4
  a4 := Tryz.isAgg4
  z4 := Tryz.sizeOf4
  v4 := Tryz.zeroValue4
  t5 := Tryz.underlying5
  a5 := Tryz.isAgg5
  z5 := Tryz.sizeOf5
  v5 := Tryz.zeroValue5
  t9 := Tryz.underlying9
  a9 := Tryz.isAgg9
  z9 := Tryz.sizeOf9
  v9 := Tryz.zeroValue9
  t20 := Tryz.underlying20
  a20 := Tryz.isAgg20
  z20 := Tryz.sizeOf20
  v20 := Tryz.zeroValue20
  t21 := Tryz.underlying21
  a21 := Tryz.isAgg21
  z21 := Tryz.sizeOf21
  v21 := Tryz.zeroValue21
  t37 := Tryz.underlying45
  a37 := Tryz.isAgg45
  z37 := Tryz.sizeOf45
  v37 := Tryz.zeroValue45
  t46 := Tryz.underlying173
  a46 := Tryz.isAgg173
  z46 := Tryz.sizeOf173
  v46 := Tryz.zeroValue173
  t51 := Tryz.underlying217
  a51 := Tryz.isAgg217
  z51 := Tryz.sizeOf217
  v51 := Tryz.zeroValue217
  t53 := Tryz.underlying121
  a53 := Tryz.isAgg121
  z53 := Tryz.sizeOf121
  v53 := Tryz.zeroValue121
  t75 := Tryz.underlying49
  a75 := Tryz.isAgg49
  z75 := Tryz.sizeOf49
  v75 := Tryz.zeroValue49
  t76 := Tryz.underlying50
  a76 := Tryz.isAgg50
  z76 := Tryz.sizeOf50
  v76 := Tryz.zeroValue50
  t85 := Tryz.underlying72
  a85 := Tryz.isAgg72
  z85 := Tryz.sizeOf72
  v85 := Tryz.zeroValue72
  t127 := Tryz.underlying68
  a127 := Tryz.isAgg68
  z127 := Tryz.sizeOf68
  v127 := Tryz.zeroValue68
  t143 := Tryz.underlying249
  a143 := Tryz.isAgg249
  z143 := Tryz.sizeOf249
  v143 := Tryz.zeroValue249
  t145 := Tryz.underlying251
  a145 := Tryz.isAgg251
  z145 := Tryz.sizeOf251
  v145 := Tryz.zeroValue251
  t167 := Tryz.underlying175
  a167 := Tryz.isAgg175
  z167 := Tryz.sizeOf175
  v167 := Tryz.zeroValue175
  t168 := Tryz.underlying176
  a168 := Tryz.isAgg176
  z168 := Tryz.sizeOf176
  v168 := Tryz.zeroValue176
  t171 := Tryz.underlying167
  a171 := Tryz.isAgg167
  z171 := Tryz.sizeOf167
  v171 := Tryz.zeroValue167
  t173 := Tryz.underlying170
  a173 := Tryz.isAgg170
  z173 := Tryz.sizeOf170
  v173 := Tryz.zeroValue170
  t175 := Tryz.underlying179
  a175 := Tryz.isAgg179
  z175 := Tryz.sizeOf179
  v175 := Tryz.zeroValue179
  t210 := Tryz.underlying227
  a210 := Tryz.isAgg227
  z210 := Tryz.sizeOf227
  v210 := Tryz.zeroValue227
  t212 := Tryz.underlying216
  a212 := Tryz.isAgg216
  z212 := Tryz.sizeOf216
  v212 := Tryz.zeroValue216
  t213 := Tryz.underlying218
  a213 := Tryz.isAgg218
  z213 := Tryz.sizeOf218
  t232 := Tryz.underlying272
  a232 := Tryz.isAgg272
  z232 := Tryz.sizeOf272
  v232 := Tryz.zeroValue272
  t233 := Tryz.underlying273
  a233 := Tryz.isAgg273
  z233 := Tryz.sizeOf273
  v233 := Tryz.zeroValue273
  g15 := by kernel_rfl
  g16 := by kernel_rfl
  g17 := by kernel_rfl
  g18 := by kernel_rfl
  g19 := by kernel_rfl
  t80 := Tryz.underlying53
  a80 := Tryz.isAgg53
  z80 := Tryz.sizeOf53
  v80 := Tryz.zeroValue53
  i0 := by kernel_rfl
  i2 := by kernel_rfl
  i3 := by kernel_rfl
  i4 := by kernel_rfl
  i5 := by kernel_rfl
  i9 := by kernel_rfl
  i20 := by kernel_rfl
  i21 := by kernel_rfl
  i37 := by kernel_rfl
  i46 := by kernel_rfl
  i51 := by kernel_rfl
  i53 := by kernel_rfl
  i75 := by kernel_rfl
  i76 := by kernel_rfl
  i80 := by kernel_rfl
  i85 := by kernel_rfl
  i127 := by kernel_rfl
  i143 := by kernel_rfl
  i145 := by kernel_rfl
  i167 := by kernel_rfl
  i168 := by kernel_rfl
  i171 := by kernel_rfl
  i173 := by kernel_rfl
  i175 := by kernel_rfl
  i210 := by kernel_rfl
  i212 := by kernel_rfl
  i232 := by kernel_rfl
  i233 := by kernel_rfl
  m15 := by kernel_rfl
  m16 := by kernel_rfl
  m17 := by kernel_rfl
  m18 := by kernel_rfl
  m19 := by kernel_rfl
  c0 := by kernel_rfl
  c2 := by kernel_rfl
  c3 := by kernel_rfl
  c4 := by kernel_rfl
  c5 := by kernel_rfl
  c9 := by kernel_rfl
  c20 := by kernel_rfl
  c21 := by kernel_rfl
  c37 := by kernel_rfl
  c46 := by kernel_rfl
  c51 := by kernel_rfl
  c53 := by kernel_rfl
  c75 := by kernel_rfl
  c76 := by kernel_rfl
  c80 := by kernel_rfl
  c85 := by kernel_rfl
  c127 := by kernel_rfl
  c143 := by kernel_rfl
  c145 := by kernel_rfl
  c167 := by kernel_rfl
  c168 := by kernel_rfl
  c171 := by kernel_rfl
  c173 := by kernel_rfl
  c175 := by kernel_rfl
  c210 := by kernel_rfl
  c212 := by kernel_rfl
  c213 := by kernel_rfl
  c232 := by kernel_rfl
  c233 := by kernel_rfl }
def Tryz.lays174_ren : Go.Shelf.Ren := ⟨fun | 174 => 35 | 247 => 58 | 245 => 57 | 287 => 89 | 279 => 85 | 280 => 86 | 281 => 87 | 282 => 88 | 321 => 122 | 322 => 123 | 316 => 120 | 171 => 29 | 205 => 121 | 243 => 51 | 246 => 52 | 283 => 74 | 284 => 75 | 285 => 76 | 286 => 77 | 129 => 111 | 317 => 110 | 318 => 112 | 319 => 113 | 320 => 114 | 337 => 140 | 338 => 141 | n => n, fun | 9 => 9 | 3 => 3 | 2 => 2 | 75 => 49 | 85 => 72 | 4 => 4 | 167 => 175 | 5 => 5 | 53 => 121 | 175 => 179 | 46 => 173 | 168 => 176 | 37 => 45 | 0 => 0 | 210 => 227 | 21 => 21 | 127 => 68 | 145 => 251 | 143 => 249 | 171 => 167 | 173 => 170 | 212 => 216 | 51 => 217 | 20 => 20 | 213 => 218 | 232 => 272 | 233 => 273 | 80 => 53 | n => n, fun | 15 => 2 | 16 => 3 | 17 => 1 | 18 => 4 | 19 => 5 | n => n⟩
theorem Tryz.lays174 : Go.Proofs.LaysC.n174 Tryz.prog Tryz.lays174_ren := {
  mixed := by kernel_rfl
  f129 := Tryz.func111.trans (congrArg some (by kernel_rfl))
  f171 := Tryz.func29.trans (congrArg some (by kernel_rfl))
  f174 := Tryz.func35.trans (congrArg some (by kernel_rfl))
  f205 := Tryz.func121.trans (congrArg some (by kernel_rfl))
  f243 := Tryz.func51.trans (congrArg some (by kernel_rfl))
  f245 := Tryz.func57.trans (congrArg some (by kernel_rfl))
  f246 := Tryz.func52.trans (congrArg some (by kernel_rfl))
  f247 := Tryz.func58.trans (congrArg some (by kernel_rfl))
  f279 := Tryz.func85.trans (congrArg some (by kernel_rfl))
  f280 := Tryz.func86.trans (congrArg some (by kernel_rfl))
  f281 := Tryz.func87.trans (congrArg some (by kernel_rfl))
  f282 := Tryz.func88.trans (congrArg some (by kernel_rfl))
  f283 := Tryz.func74.trans (congrArg some (by kernel_rfl))
  f284 := Tryz.func75.trans (congrArg some (by kernel_rfl))
  f285 := Tryz.func76.trans (congrArg some (by kernel_rfl))
  f286 := Tryz.func77.trans (congrArg some (by kernel_rfl))
  f287 := Tryz.func89.trans (congrArg some (by kernel_rfl))
  f316 := Tryz.func120.trans (congrArg some (by kernel_rfl))
  f317 := Tryz.func110.trans (congrArg some (by kernel_rfl))
  f318 := Tryz.func112.trans (congrArg some (by kernel_rfl))
  f319 := Tryz.func113.trans (congrArg some (by kernel_rfl))
  f320 := Tryz.func114.trans (congrArg some (by kernel_rfl))
  f321 := Tryz.func122.trans (congrArg some (by kernel_rfl))
  f322 := Tryz.func123.trans (congrArg some (by kernel_rfl))
  f337 := Tryz.func140.trans (congrArg some (by kernel_rfl))
  f338 := Tryz.func141.trans (congrArg some (by kernel_rfl))
  t0 := Tryz.underlying0
  a0 := Tryz.isAgg0
  z0 := Tryz.sizeOf0
  v0 := Tryz.zeroValue0
  t2 := Tryz.underlying2
  a2 := Tryz.isAgg2
  z2 := Tryz.sizeOf2
  v2 := Tryz.zeroValue2
  t3 := Tryz.underlying3
  a3 := Tryz.isAgg3
  z3 := Tryz.sizeOf3
  v3 := Tryz.zeroValue3
  t4 := Tryz.underlying4
  a4 := Tryz.isAgg4
  z4 := Tryz.sizeOf4
  v4 := Tryz.zeroValue4
  t5 := Tryz.underlying5
  a5 := Tryz.isAgg5
  z5 := Tryz.sizeOf5
  v5 := Tryz.zeroValue5
  t9 := Tryz.underlying9
  a9 := Tryz.isAgg9
  z9 := Tryz.sizeOf9
  v9 := Tryz.zeroValue9
  t20 := Tryz.underlying20
  a20 := Tryz.isAgg20
  z20 := Tryz.sizeOf20
  v20 := Tryz.zeroValue20
  t21 := Tryz.underlying21
  a21 := Tryz.isAgg21
  z21 := Tryz.sizeOf21
  v21 := Tryz.zeroValue21
  t37 := Tryz.underlying45
  a37 := Tryz.isAgg45
  z37 := Tryz.sizeOf45
  v37 := Tryz.zeroValue45
  t46 := Tryz.underlying173
  a46 := Tryz.isAgg173
  z46 := Tryz.sizeOf173
  v46 := Tryz.zeroValue173
  t51 := Tryz.underlying217
  a51 := Tryz.isAgg217
  z51 := Tryz.sizeOf217
  v51 := Tryz.zeroValue217
  t53 := Tryz.underlying121
  a53 := Tryz.isAgg121
  z53 := Tryz.sizeOf121
  v53 := Tryz.zeroValue121
  t75 := Tryz.underlying49
  a75 := Tryz.isAgg49
  z75 := Tryz.sizeOf49
  v75 := Tryz.zeroValue49
  t85 := Tryz.underlying72
  a85 := Tryz.isAgg72
  z85 := Tryz.sizeOf72
  v85 := Tryz.zeroValue72
  t127 := Tryz.underlying68
  a127 := Tryz.isAgg68
  z127 := Tryz.sizeOf68
  v127 := Tryz.zeroValue68
  t143 := Tryz.underlying249
  a143 := Tryz.isAgg249
  z143 := Tryz.sizeOf249
  v143 := Tryz.zeroValue249
  t145 := Tryz.underlying251
  a145 := Tryz.isAgg251
  z145 := Tryz.sizeOf251
  v145 := Tryz.zeroValue251
  t167 := Tryz.underlying175
  a167 := Tryz.isAgg175
  z167 := Tryz.sizeOf175
  v167 := Tryz.zeroValue175
  t168 := Tryz.underlying176
  a168 := Tryz.isAgg176
  z168 := Tryz.sizeOf176
  v168 := Tryz.zeroValue176
  t171 := Tryz.underlying167
  a171 := Tryz.isAgg167
  z171 := Tryz.sizeOf167
  v171 := Tryz.zeroValue167
  t173 := Tryz.underlying170
  a173 := Tryz.isAgg170
  z173 := Tryz.sizeOf170
  v173 := Tryz.zeroValue170
  t175 := Tryz.underlying179
  a175 := Tryz.isAgg179
  z175 := Tryz.sizeOf179
  v175 := Tryz.zeroValue179
  t210 := Tryz.underlying227
  a210 := Tryz.isAgg227
  z210 := Tryz.sizeOf227
  v210 := Tryz.zeroValue227
  t212 := Tryz.underlying216
  a212 := Tryz.isAgg216
  z212 := Tryz.sizeOf216
  v212 := Tryz.zeroValue216
  t213 := Tryz.underlying218
  a213 := Tryz.isAgg218
  z213 := Tryz.sizeOf218
  t232 := Tryz.underlying272
  a232 := Tryz.isAgg272
  z232 := Tryz.sizeOf272
  v232 := Tryz.zeroValue272
  t233 := Tryz.underlying273
  a233 := Tryz.isAgg273
  z233 := Tryz.sizeOf273
  v233 := Tryz.zeroValue273
  g15 := by kernel_rfl
  g16 := by kernel_rfl
  g17 := by kernel_rfl
  g18 := by kernel_rfl
  g19 := by kernel_rfl
  t80 := Tryz.underlying53
  a80 := Tryz.isAgg53
  z80 := Tryz.sizeOf53
  v80 := Tryz.zeroValue53
  i0 := by kernel_rfl
  i2 := by kernel_rfl
  i3 := by kernel_rfl
  i4 := by kernel_rfl
  i5 := by kernel_rfl
  i9 := by kernel_rfl
  i20 := by kernel_rfl
  i21 := by kernel_rfl
  i37 := by kernel_rfl
  i46 := by kernel_rfl
  i51 := by kernel_rfl
  i53 := by kernel_rfl
  i75 := by kernel_rfl
  i80 := by kernel_rfl
  i85 := by kernel_rfl
  i127 := by kernel_rfl
  i143 := by kernel_rfl
  i145 := by kernel_rfl
  i167 := by kernel_rfl
  i168 := by kernel_rfl
  i171 := by kernel_rfl
  i173 := by kernel_rfl
  i175 := by kernel_rfl
  i210 := by kernel_rfl
  i212 := by kernel_rfl
  i232 := by kernel_rfl
  i233 := by kernel_rfl
  m15 := by kernel_rfl
  m16 := by kernel_rfl
  m17 := by kernel_rfl
  m18 := by kernel_rfl
  m19 := by kernel_rfl
  c0 := by kernel_rfl
  c2 := by kernel_rfl
  c3 := by kernel_rfl
  c4 := by kernel_rfl
  c5 := by kernel_rfl
  c9 := by kernel_rfl
  c20 := by kernel_rfl
  c21 := by kernel_rfl
  c37 := by kernel_rfl
  c46 := by kernel_rfl
  c51 := by kernel_rfl
  c53 := by kernel_rfl
  c75 := by kernel_rfl
  c80 := by kernel_rfl
  c85 := by kernel_rfl
  c127 := by kernel_rfl
  c143 := by kernel_rfl
  c145 := by kernel_rfl
  c167 := by kernel_rfl
  c168 := by kernel_rfl
  c171 := by kernel_rfl
  c173 := by kernel_rfl
  c175 := by kernel_rfl
  c210 := by kernel_rfl
  c212 := by kernel_rfl
  c213 := by kernel_rfl
  c232 := by kernel_rfl
  c233 := by kernel_rfl }
def Tryz.lays173_ren : Go.Shelf.Ren := ⟨fun | 173 => 30 | 246 => 52 | 283 => 74 | 284 => 75 | 285 => 76 | 286 => 77 | 129 => 111 | 317 => 110 | 318 => 112 | 319 => 113 | 320 => 114 | 337 => 140 | 338 => 141 | n => n, fun | 2 => 2 | 3 => 3 | 9 => 9 | 4 => 4 | 171 => 167 | 0 => 0 | 53 => 121 | 37 => 45 | 5 => 5 | 173 => 170 | 212 => 216 | 51 => 217 | 20 => 20 | 213 => 218 | 46 => 173 | 232 => 272 | 233 => 273 | n => n, fun | 17 => 1 | 18 => 4 | 19 => 5 | n => n⟩
theorem Tryz.lays173 : Go.Proofs.LaysM.n173 Tryz.prog Tryz.lays173_ren := {
  mixed := by kernel_rfl
  f129 := Tryz.func111.trans (congrArg some (by kernel_rfl))
  f173 := Tryz.func30.trans (congrArg some (by kernel_rfl))
  f246 := Tryz.func52.trans (congrArg some (by kernel_rfl))
  f283 := Tryz.func74.trans (congrArg some (by kernel_rfl))
  f284 := Tryz.func75.trans (congrArg some (by kernel_rfl))
  f285 := Tryz.func76.trans (congrArg some (by kernel_rfl))
  f286 := Tryz.func77.trans (congrArg some (by kernel_rfl))
  f317 := Tryz.func110.trans (congrArg some (by kernel_rfl))
  f318 := Tryz.func112.trans (congrArg some (by kernel_rfl))
  f319 := Tryz.func113.trans (congrArg some (by kernel_rfl))
  f320 := Tryz.func114.trans (congrArg some (by kernel_rfl))
  f337 := Tryz.func140.trans (congrArg some (by kernel_rfl))
  f338 := Tryz.func141.trans (congrArg some (by kernel_rfl))
  t0 := Tryz.underlying0
  a0 := Tryz.isAgg0
  z0 := Tryz.sizeOf0
  v0 := Tryz.zeroValue0
  t2 := Tryz.underlying2
  a2 := Tryz.isAgg2
  z2 := Tryz.sizeOf2
  v2 := Tryz.zeroValue2
  t3 := Tryz.underlying3
  a3 := Tryz.isAgg3
  z3 := Tryz.sizeOf3
  v3 := Tryz.zeroValue3
  t4 := Tryz.underlying4
  a4 := Tryz.isAgg4
  z4 := Tryz.sizeOf4
  v4 := Tryz.zeroValue4
  t5 := Tryz.underlying5
  a5 := Tryz.isAgg5
  z5 := Tryz.sizeOf5
  v5 := Tryz.zeroValue5
  t9 := Tryz.underlying9
  a9 := Tryz.isAgg9
  z9 := Tryz.sizeOf9
  v9 := Tryz.zeroValue9
  t20 := Tryz.underlying20
  a20 := Tryz.isAgg20
  z20 := Tryz.sizeOf20
  v20 := Tryz.zeroValue20
  t37 := Tryz.underlying45
  a37 := Tryz.isAgg45
  z37 := Tryz.sizeOf45
  v37 := Tryz.zeroValue45
  t46 := Tryz.underlying173
  a46 := Tryz.isAgg173
  z46 := Tryz.sizeOf173
  v46 := Tryz.zeroValue173
  t51 := Tryz.underlying217
  a51 := Tryz.isAgg217
  z51 := Tryz.sizeOf217
  v51 := Tryz.zeroValue217
  t53 := Tryz.underlying121
  a53 := Tryz.isAgg121
  z53 := Tryz.sizeOf121
  v53 := Tryz.zeroValue121
  t171 := Tryz.underlying167
  a171 := Tryz.isAgg167
  z171 := Tryz.sizeOf167
  v171 := Tryz.zeroValue167
  t173 := Tryz.underlying170
  a173 := Tryz.isAgg170
  z173 := Tryz.sizeOf170
  v173 := Tryz.zeroValue170
  t212 := Tryz.underlying216
  a212 := Tryz.isAgg216
  z212 := Tryz.sizeOf216
  v212 := Tryz.zeroValue216
  t213 := Tryz.underlying218
  a213 := Tryz.isAgg218
  z213 := Tryz.sizeOf218
  t232 := Tryz.underlying272
  a232 := Tryz.isAgg272
  z232 := Tryz.sizeOf272
  v232 := Tryz.zeroValue272
  t233 := Tryz.underlying273
  a233 := Tryz.isAgg273
  z233 := Tryz.sizeOf273
  v233 := Tryz.zeroValue273
  g17 := by kernel_rfl
  g18 := by kernel_rfl
  g19 := by kernel_rfl
  i0 := by kernel_rfl
  i2 := by kernel_rfl
  i3 := by kernel_rfl
  i4 := by kernel_rfl
  i5 := by kernel_rfl
  i9 := by kernel_rfl
  i20 := by kernel_rfl
  i37 := by kernel_rfl
  i46 := by kernel_rfl
  i51 := by kernel_rfl
  i53 := by kernel_rfl
  i171 := by kernel_rfl
  i173 := by kernel_rfl
  i212 := by kernel_rfl
  i232 := by kernel_rfl
  i233 := by kernel_rfl
  m17 := by kernel_rfl
  m18 := by kernel_rfl
  m19 := by kernel_rfl }
def Tryz.lays171_ren : Go.Shelf.Ren := ⟨fun | 171 => 29 | 243 => 51 | 246 => 52 | 283 => 74 | 284 => 75 | 285 => 76 | 286 => 77 | 129 => 111 | 317 => 110 | 318 => 112 | 319 => 113 | 320 => 114 | 337 => 140 | 338 => 141 | n => n, fun | 3 => 3 | 9 => 9 | 2 => 2 | 4 => 4 | 171 => 167 | 0 => 0 | 53 => 121 | 37 => 45 | 5 => 5 | 173 => 170 | 212 => 216 | 51 => 217 | 20 => 20 | 213 => 218 | 46 => 173 | 232 => 272 | 233 => 273 | n => n, fun | 17 => 1 | 18 => 4 | 19 => 5 | n => n⟩
theorem Tryz.lays171 : Go.Proofs.LaysM.n171 Tryz.prog Tryz.lays171_ren := {
  mixed := by kernel_rfl
  f129 := Tryz.func111.trans (congrArg some (by kernel_rfl))
  f171 := Tryz.func29.trans (congrArg some (by kernel_rfl))
  f243 := Tryz.func51.trans (congrArg some (by kernel_rfl))
  f246 := Tryz.func52.trans (congrArg some (by kernel_rfl))
  f283 := Tryz.func74.trans (congrArg some (by kernel_rfl))
  f284 := Tryz.func75.trans (congrArg some (by kernel_rfl))
  f285 := Tryz.func76.trans (congrArg some (by kernel_rfl))
  f286 := Tryz.func77.trans (congrArg some (by kernel_rfl))
  f317 := Tryz.func110.trans (congrArg some (by kernel_rfl))
  f318 := Tryz.func112.trans (congrArg some (by kernel_rfl))
  f319 := Tryz.func113.trans (congrArg some (by kernel_rfl))
  f320 := Tryz.func114.trans (congrArg some (by kernel_rfl))
  f337 := Tryz.func140.trans (congrArg some (by kernel_rfl))
  f338 := Tryz.func141.trans (congrArg some (by kernel_rfl))
  t0 := Tryz.underlying0
  a0 := Tryz.isAgg0
  z0 := Tryz.sizeOf0
  v0 := Tryz.zeroValue0
  t2 := Tryz.underlying2
  a2 := Tryz.isAgg2
  z2 := Tryz.sizeOf2
  v2 := Tryz.zeroValue2
  t3 := Tryz.underlying3
  a3 := Tryz.isAgg3
  z3 := Tryz.sizeOf3
  v3 := Tryz.zeroValue3
  t4 := Tryz.underlying4
  a4 := Tryz.isAgg4
  z4 := Tryz.sizeOf4
  v4 := Tryz.zeroValue4
  t5 := Tryz.underlying5
  a5 := Tryz.isAgg5
  z5 := Tryz.sizeOf5
  v5 := Tryz.zeroValue5
  t9 := Tryz.underlying9
  a9 := Tryz.isAgg9
  z9 := Tryz.sizeOf9
  v9 := Tryz.zeroValue9
  t20 := Tryz.underlying20
  a20 := Tryz.isAgg20
  z20 := Tryz.sizeOf20
  v20 := Tryz.zeroValue20
  t37 := Tryz.underlying45
  a37 := Tryz.isAgg45
  z37 := Tryz.sizeOf45
  v37 := Tryz.zeroValue45
  t46 := Tryz.underlying173
  a46 := Tryz.isAgg173
  z46 := Tryz.sizeOf173
  v46 := Tryz.zeroValue173
  t51 := Tryz.underlying217
  a51 := Tryz.isAgg217
  z51 := Tryz.sizeOf217
  v51 := Tryz.zeroValue217
  t53 := Tryz.underlying121
  a53 := Tryz.isAgg121
  z53 := Tryz.sizeOf121
  v53 := Tryz.zeroValue121
  t171 := Tryz.underlying167
  a171 := Tryz.isAgg167
  z171 := Tryz.sizeOf167
  v171 := Tryz.zeroValue167
  t173 := Tryz.underlying170
  a173 := Tryz.isAgg170
  z173 := Tryz.sizeOf170
  v173 := Tryz.zeroValue170
  t212 := Tryz.underlying216
  a212 := Tryz.isAgg216
  z212 := Tryz.sizeOf216
  v212 := Tryz.zeroValue216
  t213 := Tryz.underlying218
  a213 := Tryz.isAgg218
  z213 := Tryz.sizeOf218
  t232 := Tryz.underlying272
  a232 := Tryz.isAgg272
  z232 := Tryz.sizeOf272
  v232 := Tryz.zeroValue272
  t233 := Tryz.underlying273
  a233 := Tryz.isAgg273
  z233 := Tryz.sizeOf273
  v233 := Tryz.zeroValue273
  g17 := by kernel_rfl
  g18 := by kernel_rfl
  g19 := by kernel_rfl
  i0 := by kernel_rfl
  i2 := by kernel_rfl
  i3 := by kernel_rfl
  i4 := by kernel_rfl
  i5 := by kernel_rfl
  i9 := by kernel_rfl
  i20 := by kernel_rfl
  i37 := by kernel_rfl
  i46 := by kernel_rfl
  i51 := by kernel_rfl
  i53 := by kernel_rfl
  i171 := by kernel_rfl
  i173 := by kernel_rfl
  i212 := by kernel_rfl
  i232 := by kernel_rfl
  i233 := by kernel_rfl
  m17 := by kernel_rfl
  m18 := by kernel_rfl
  m19 := by kernel_rfl }
def Tryz.lays169_ren : Go.Shelf.Ren := ⟨fun | 169 => 16 | n => n, fun | 70 => 44 | 9 => 9 | 0 => 0 | 72 => 47 | 37 => 45 | 127 => 68 | 3 => 3 | 5 => 5 | n => n, fun | n => n⟩
theorem Tryz.lays169 : Go.Proofs.Lays.n169 Tryz.prog Tryz.lays169_ren := {
  mixed := by kernel_rfl
  f169 := Tryz.func16.trans (congrArg some (by kernel_rfl))
  t0 := Tryz.underlying0
  a0 := Tryz.isAgg0
  z0 := Tryz.sizeOf0
  v0 := Tryz.zeroValue0
  t3 := Tryz.underlying3
  a3 := Tryz.isAgg3
  z3 := Tryz.sizeOf3
  v3 := Tryz.zeroValue3
  t9 := Tryz.underlying9
  a9 := Tryz.isAgg9
  z9 := Tryz.sizeOf9
  v9 := Tryz.zeroValue9
  t37 := Tryz.underlying45
  a37 := Tryz.isAgg45
  z37 := Tryz.sizeOf45
  v37 := Tryz.zeroValue45
  t70 := Tryz.underlying44
  a70 := Tryz.isAgg44
  z70 := Tryz.sizeOf44
  v70 := Tryz.zeroValue44
  t72 := Tryz.underlying47
  a72 := Tryz.isAgg47
  z72 := Tryz.sizeOf47
  v72 := Tryz.zeroValue47
  t127 := Tryz.underlying68
  a127 := Tryz.isAgg68
  z127 := Tryz.sizeOf68
  v127 := Tryz.zeroValue68 }
end Go.Proofs

namespace Go.Proofs.YtdgemlcdhobejaaGreatDoor
open Go.X Go.RowKit

theorem scp_size : (Tryz.prog.info? 47).map (·.size) = some 2 := by kernel_rfl

set_option maxHeartbeats 1000000 in
set_option maxRecDepth 100000 in
theorem scp_copy : CopyAt Tryz.prog 28 47 where
  used := fun b off w h0 => by
    obtain ⟨j, hj, _⟩ := Option.map_eq_some_iff.1 scp_size
    have mixed : Tryz.prog.follows .mixedOrders = true := by kernel_rfl
    have t72 := Tryz.underlying47; have a72 := Tryz.isAgg47; have z72 := Tryz.sizeOf47; have v72 := Tryz.zeroValue47; have u72 := run_underlying Tryz.underlying47
    have t70 := Tryz.underlying44; have a70 := Tryz.isAgg44; have z70 := Tryz.sizeOf44; have v70 := Tryz.zeroValue44; have u70 := run_underlying Tryz.underlying44
    have t4 := Tryz.underlying4; have a4 := Tryz.isAgg4; have z4 := Tryz.sizeOf4; have v4 := Tryz.zeroValue4; have u4 := run_underlying Tryz.underlying4
    have t164 := Tryz.underlying116; have a164 := Tryz.isAgg116; have z164 := Tryz.sizeOf116; have v164 := Tryz.zeroValue116; have u164 := run_underlying Tryz.underlying116
    go_enter Tryz.func28, Tryz.ntmps28
    go_wp2
    rw [Lib.run_neq_ptr_same w _ t70 hj]
    go_wp2
    go_end0
    exact ⟨rfl, rfl⟩
  fresh := fun b off e cells w h0 hsh hoff hlies hfz => by
    obtain ⟨j, hj, hjs⟩ := Option.map_eq_some_iff.1 scp_size
    have mixed : Tryz.prog.follows .mixedOrders = true := by kernel_rfl
    have t72 := Tryz.underlying47; have a72 := Tryz.isAgg47; have z72 := Tryz.sizeOf47; have v72 := Tryz.zeroValue47; have u72 := run_underlying Tryz.underlying47
    have t70 := Tryz.underlying44; have a70 := Tryz.isAgg44; have z70 := Tryz.sizeOf44; have v70 := Tryz.zeroValue44; have u70 := run_underlying Tryz.underlying44
    have t4 := Tryz.underlying4; have a4 := Tryz.isAgg4; have z4 := Tryz.sizeOf4; have v4 := Tryz.zeroValue4; have u4 := run_underlying Tryz.underlying4
    have t164 := Tryz.underlying116; have a164 := Tryz.isAgg116; have z164 := Tryz.sizeOf116; have v164 := Tryz.zeroValue116; have u164 := run_underlying Tryz.underlying116
    go_enter Tryz.func28, Tryz.ntmps28
    go_wp2
    rw [Lib.run_to_unsafe w ⟨b, off, none⟩ t70 t164 hj (by rw [hjs]; decide) hsh hoff]
    simp only [Result.andThen]
    rw [Oper.upon_value]
    go_wp2
    rw [run_callFunc_extern Tryz.func50 (by kernel_rfl) (by kernel_rfl) (by kernel_rfl) (e := Extern.AbiNoEscape.same) (by kernel_rfl)]
    rw [Lib.run_noEscape]
    simp only [Result.andThen]
    rw [Oper.upon_value]
    go_wp2
    rw [Lib.run_from_unsafe w ⟨b, off, none⟩ t164 t70 hj hsh hlies]
    simp only [Result.andThen]
    rw [Oper.upon_value]
    go_wp2
    go_end0
    exact ⟨rfl, rfl⟩

end Go.Proofs.YtdgemlcdhobejaaGreatDoor

namespace Go.Proofs.YtdgemlcdhobejaaGreatDoor
open Go.X Go.RowKit

theorem scp_mixed : Tryz.prog.follows .mixedOrders = true := by kernel_rfl
theorem scp_Extra : Builder.Extra Tryz.prog Tryz.lays169_ren where
  sizeBuilder := by kernel_rfl
  liesBuilder := by kernel_rfl
  t5 := Tryz.underlying5
  a5 := Tryz.isAgg5
  z5 := Tryz.sizeOf5
  v5 := Tryz.zeroValue5
  infoByte := by kernel_rfl
  cellsByte := by kernel_rfl
  sizeByte := by kernel_rfl
  neB5 := by decide
theorem scp_lies : ∀ e n off, (e, n, off) ∈ [(47, 2, 0)] → liesAt Tryz.prog Tryz.prog.depth e (n / Tryz.prog.cellsOf e) off 47 1 = true := by
  intro e n off h
  simp only [List.mem_singleton, Prod.mk.injEq] at h
  obtain ⟨rfl, rfl, rfl⟩ := h
  kernel_rfl
/- f13 detent/script.forms: 60 steps, 4 blocks, 15 great ones -/
def formsV : Value := .map (some 256)
def formsO : List AObj := [.map [⟨.int .i64 (1), .agg #[.string ⟨#[114, 117, 110]⟩, .bool true, .bool false, .func (.func 37) #[] #[.pointer (some ⟨257, 0, none⟩)]], 0⟩, ⟨.int .i64 (2), .agg #[.string ⟨#[119, 111, 114, 107]⟩, .bool true, .bool false, .func (.func 37) #[] #[.pointer (some ⟨258, 0, none⟩)]], 1⟩, ⟨.int .i64 (3), .agg #[.string ⟨#[116, 105, 99, 107]⟩, .bool false, .bool true, .func (.func 47) #[] #[.pointer (some ⟨259, 0, none⟩)]], 2⟩, ⟨.int .i64 (4), .agg #[.string ⟨#[105, 110, 106, 101, 99, 116]⟩, .bool true, .bool true, .func (.func 26) #[] #[]], 3⟩, ⟨.int .i64 (5), .agg #[.string ⟨#[108, 105, 102, 101]⟩, .bool true, .bool true, .func (.func 27) #[] #[]], 4⟩] 5,
  .cells [.func (.func 22) #[] #[]] 60 0,
  .cells [.func (.func 23) #[] #[]] 60 0,
  .cells [.func (.func 25) #[] #[]] 64 0]

theorem forms_run : freshQ (envQ Tryz.prog) 13 100 Hp.empty formsV formsO = true := by kernel_rfl
theorem forms_law : SmLaw Tryz.prog 13 (freshX formsV formsO) := fresh_law (envQ Tryz.prog) scp_mixed (freshQ_X forms_run)
noncomputable def scpE1 : Env := envSm (envSm (envSm (envSm (envOf Tryz.prog) 28 (checkX [(47, 2, 0)]) (check_law scp_copy scp_lies)) 16 (stringX 5) (string_law Tryz.lays169 scp_Extra)) 30 (fmtX 1) (fmt_law Tryz.lays173 (by kernel_rfl) (by decide))) 29 (itoaX 1) (itoa_law Tryz.lays171 (by kernel_rfl) (by decide))
noncomputable def scpE2 : Env := envSm (envSm (envSm scpE1 18 (cutX 0) (cut_law Tryz.lays145 (by decide))) 33 (splitX 0 9) (split_law Tryz.lays146 (by kernel_rfl) (by decide))) 34 (atoiX 2 3) (atoi_law Tryz.lays172 (by decide) (by decide))
noncomputable def scpE : Env := envSm (envSm scpE2 35 (parseX 2 3) (parse_law Tryz.lays174 (by decide) (by decide))) 13 (freshX formsV formsO) forms_law
theorem sm13 : scpE.sm 13 = some (freshX formsV formsO) := rfl
theorem sm28 : scpE.sm 28 = some (checkX [(47, 2, 0)]) := rfl
theorem sm16 : scpE.sm 16 = some (stringX 5) := rfl
theorem sm30 : scpE.sm 30 = some (fmtX 1) := rfl
theorem sm29 : scpE.sm 29 = some (itoaX 1) := rfl
theorem sm18 : scpE.sm 18 = some (cutX 0) := rfl
theorem sm33 : scpE.sm 33 = some (splitX 0 9) := rfl
theorem sm34 : scpE.sm 34 = some (atoiX 2 3) := rfl
theorem sm35 : scpE.sm 35 = some (parseX 2 3) := rfl
abbrev iV (k : Int) : Value := .int .i64 k
abbrev ptrV (i : Nat) : Value := .pointer (some ⟨i, 0, none⟩)
end Go.Proofs.YtdgemlcdhobejaaGreatDoor

namespace Go.Proofs.YtdgemlcdhobejaaGreatDoor
open Go.X Go.Scr

abbrev enV (e : En) : Value := .agg #[iV e.K, iV e.At, iV e.N]
abbrev enC (e : En) : List Value := [iV e.K, iV e.At, iV e.N]
theorem tl_app (a b : ByteArray) : (a ++ b).toList = a.toList ++ b.toList := by
  rw [ByteArray.toList_eq, ByteArray.toList_eq, ByteArray.toList_eq, ByteArray.data_append, Array.toList_append]
theorem tl_lit (l : List UInt8) : (⟨l.toArray⟩ : ByteArray).toList = l := by rw [ByteArray.toList_eq]
theorem tls : (∀ a b : ByteArray, (a ++ b).toList = a.toList ++ b.toList) ∧ ∀ l : List UInt8, (⟨l.toArray⟩ : ByteArray).toList = l := ⟨tl_app, tl_lit⟩
theorem size_toList (s : ByteArray) : s.size = s.toList.length := by rw [ByteArray.toList_eq]; rfl
/-- The table of powers of ten lies there. -/
structure Pow (h : Hp) : Prop where
  t : tabThere 1 (Lib.pow10Tab.map (Value.int .u64)) h = true
  lt : 1 < h.n
theorem Pow.ext {h h' : Hp} (x : Pow h) (g : Ext h h') : Pow h' := ⟨by
  have := x.t
  unfold tabThere at *
  rw [g.get 1 x.lt]; exact this, Nat.lt_of_lt_of_le x.lt g.n⟩
def itoaB (n : Int) : ByteArray := ⟨(Lib.itoa n).toArray⟩
theorem itoa_at {h : Hp} (p : Pow h) {n : Int} (h0 : -9223372036854775808 ≤ n ∧ n ≤ 9223372036854775807) : itoaX 1 [.int .i64 n] h = some (.string (itoaB n), h) := by
  simp only [itoaX, p.t, Bool.true_and, decide_eq_true h0.1, decide_eq_true h0.2]; rfl
theorem fmt_at {h : Hp} (p : Pow h) {n : Int} (h0 : -9223372036854775808 ≤ n ∧ n ≤ 9223372036854775807) : fmtX 1 [.int .i64 n, .int .i64 10] h = some (.string (itoaB n), h) := by
  simp only [fmtX, p.t, Bool.true_and, decide_eq_true h0.1, decide_eq_true h0.2]; rfl
theorem itoaB_le {n : Int} (h0 : -9223372036854775808 ≤ n ∧ n ≤ 9223372036854775807) : (itoaB n).size ≤ 21 := by
  have := Lib.itoa_length_le n h0.1 h0.2
  rw [size_toList, itoaB, tl_lit]; exact this
theorem itoaB_tl (n : Int) : (itoaB n).toList = Lib.itoa n := tl_lit _
def wordB (K : Int) : ByteArray := if K = 1 then ⟨#[114, 117, 110]⟩ else if K = 2 then ⟨#[119, 111, 114, 107]⟩ else if K = 3 then ⟨#[116, 105, 99, 107]⟩ else if K = 4 then ⟨#[105, 110, 106, 101, 99, 116]⟩ else if K = 5 then ⟨#[108, 105, 102, 101]⟩ else .empty
theorem wordB_tl (K : Int) : (wordB K).toList = word K := by
  unfold wordB word
  repeat' split
  all_goals rw [ByteArray.toList_eq]
  all_goals rfl
theorem wordB_le (K : Int) : (wordB K).size ≤ 10 := by
  unfold wordB
  repeat' split
  all_goals decide
def formsM (n : Nat) : MsK Int := [
  (1, .agg #[.string ⟨#[114, 117, 110]⟩, .bool true, .bool false, .func (.func 37) #[] #[.pointer (some ⟨n + 1, 0, none⟩)]], 0),
  (2, .agg #[.string ⟨#[119, 111, 114, 107]⟩, .bool true, .bool false, .func (.func 37) #[] #[.pointer (some ⟨n + 2, 0, none⟩)]], 1),
  (3, .agg #[.string ⟨#[116, 105, 99, 107]⟩, .bool false, .bool true, .func (.func 47) #[] #[.pointer (some ⟨n + 3, 0, none⟩)]], 2),
  (4, .agg #[.string ⟨#[105, 110, 106, 101, 99, 116]⟩, .bool true, .bool true, .func (.func 26) #[] #[]], 3),
  (5, .agg #[.string ⟨#[108, 105, 102, 101]⟩, .bool true, .bool true, .func (.func 27) #[] #[]], 4)]
def formsL (n : Nat) : List AObj := [.map ((formsM n).map (entK fun k => Value.int .i64 k)) 5, .cells [.func (.func 22) #[] #[]] 60 0, .cells [.func (.func 23) #[] #[]] 60 0, .cells [.func (.func 25) #[] #[]] 64 0]
theorem forms_v (n : Nat) : shV 400 n formsV = some (.map (some (n + 0))) := by kernel_rfl
theorem forms_l (n : Nat) : shOs n formsO = some (formsL n) := by kernel_rfl
theorem key42 : KeyT scpE 42 25 40 (fun k : Int => Value.int .i64 k) := KeyT.int (by kernel_rfl) (by kernel_rfl)
def kindIn (K : Int) : Bool := decide (K = 1) || decide (K = 2) || decide (K = 3) || decide (K = 4) || decide (K = 5)
theorem form_at (n : Nat) (K : Int) : ∃ fv, cellV fv = true ∧ (getK (formsM n) K).getD (.agg #[.string .empty, .bool false, .bool false, .nilFunc]) = .agg #[.string (wordB K), .bool (hasAt K), .bool (Scr.hasN K), fv] ∧ (getK (formsM n) K).isSome = kindIn K := by
  by_cases h1 : K = 1
  · subst h1; exact ⟨_, rfl, rfl, rfl⟩
  by_cases h2 : K = 2
  · subst h2; exact ⟨_, rfl, rfl, rfl⟩
  by_cases h3 : K = 3
  · subst h3; exact ⟨_, rfl, rfl, rfl⟩
  by_cases h4 : K = 4
  · subst h4; exact ⟨_, rfl, rfl, rfl⟩
  by_cases h5 : K = 5
  · subst h5; exact ⟨_, rfl, rfl, rfl⟩
  have e : getK (formsM n) K = none := by
    simp only [getK, fK, formsM, if_neg h1, if_neg h2, if_neg h3, if_neg h4, if_neg h5]
    rfl
  refine ⟨.nilFunc, rfl, ?_, ?_⟩
  · rw [e, wordB, if_neg h1, if_neg h2, if_neg h3, if_neg h4, if_neg h5, hasAt, Scr.hasN, decide_eq_false h1, decide_eq_false h2, decide_eq_false h3, decide_eq_false h4, decide_eq_false h5]
    rfl
  rw [e, kindIn, decide_eq_false h1, decide_eq_false h2, decide_eq_false h3, decide_eq_false h4, decide_eq_false h5]
  rfl
theorem may_eq (K At N : Int) : (((kindIn K && decide (0 ≤ At)) && (hasAt K || decide (At = 0))) && (Scr.hasN K || decide (N = 0))) = mayE ⟨K, At, N⟩ := by
  by_cases h1 : K = 1
  · subst h1; show (true && decide (0 ≤ At) && (true || _) && (false || decide (N = 0))) = (decide (0 ≤ At) && decide (N = 0)); simp
  by_cases h2 : K = 2
  · subst h2; show (true && decide (0 ≤ At) && (true || _) && (false || decide (N = 0))) = (decide (0 ≤ At) && decide (N = 0)); simp
  by_cases h3 : K = 3
  · subst h3; show (true && decide (0 ≤ At) && (false || decide (At = 0)) && (true || _)) = decide (At = 0)
    by_cases h0 : At = 0
    · subst h0; rfl
    rw [decide_eq_false h0]; simp
  by_cases h4 : K = 4
  · subst h4; show (true && decide (0 ≤ At) && (true || _) && (true || _)) = decide (0 ≤ At); simp
  by_cases h5 : K = 5
  · subst h5; show (true && decide (0 ≤ At) && (true || _) && (true || _)) = decide (0 ≤ At); simp
  rw [kindIn, decide_eq_false h1, decide_eq_false h2, decide_eq_false h3, decide_eq_false h4, decide_eq_false h5, mayE]
  simp only
  rw [if_neg (by omega), if_neg h3, if_neg (by omega)]
  rfl
theorem zs : (∀ a b : ByteArray, (a ++ b).size = a.size + b.size) ∧ (⟨#[32]⟩ : ByteArray).size = 1 ∧ (⟨#[10]⟩ : ByteArray).size = 1 := ⟨fun _ _ => ByteArray.size_append, rfl, rfl⟩
theorem line_eq (K At N : Int) : lineE ⟨K, At, N⟩ = word K ++ ((if hasAt K = true then 32 :: Lib.itoa At else []) ++ ((if Scr.hasN K = true then 32 :: Lib.itoa N else []) ++ [10])) := by
  simp only [lineE, bodyE, List.append_assoc]

section
variable {h : Hp} {e : En}
/-- May -/
theorem c6 : C scpE 6 [enV e] h fun v h' => v = .bool (mayE e) ∧ Ext h h' := by
  obtain ⟨K, At, N⟩ := e
  refine c_enter (fu := Tryz.f6) (by kernel_rfl) rfl ?_
  have S := SH.start h
  refine w_seq ?_
  refine w_region (by kernel_rfl) ?_
  refine s_box S gn rfl rfl fun b1 g nb1 S => ?_
  refine o_assign gn rfl rfl ?_
  refine wl_end ?_
  refine w_seq ?_
  refine w_draw [(1, []), (2, []), (7, []), (0, [2]), (3, []), (4, []), (5, []), (6, []), (8, []), (9, [])] (by kernel_rfl) (by kernel_rfl) (by kernel_rfl) (by kernel_rfl) ?_
  refine o_fieldAddr (off := 0) gn rfl rfl (by kernel_rfl) ?_
  refine o_load gn rfl rfl (by kernel_rfl) (by first | exact S.cel 0 rfl | exact S.cel 1 rfl | exact S.cel 2 rfl) rfl ?_
  refine s_alloc (zv := .agg #[.string .empty, .bool false, .bool false, .nilFunc]) S gn rfl (by kernel_rfl) fun b2 g nb2 S => ?_
  refine s_fresh [0] S gn rfl (by kernel_rfl) (by kernel_rfl) sm13 forms_v forms_l (fun _ => by kernel_rfl) (by decide) (fun n g nn S => (ag1 (ag_load gn rfl (by kernel_rfl) (by first | exact S.cel 0 rfl | exact S.cel 1 rfl | exact S.cel 2 rfl | exact S.cel 3 rfl) rfl rfl same_int) ag0)) fun n3 g nn3 S => ?_
  obtain ⟨fv, hfc, hfe, hfi⟩ := form_at n3 K
  refine o_lookupOkK (zv := .agg #[.string .empty, .bool false, .bool false, .nilFunc]) key42 gn rfl rfl rfl (by first | exact S.cel 0 rfl | exact S.cel 1 rfl | exact S.cel 2 rfl | exact S.cel 3 rfl | exact S.cel 4 rfl | exact S.cel 5 rfl | exact S.cel 6 rfl | exact S.cel 7 rfl | exact S.cel 8 rfl | exact S.cel 9 rfl) (by kernel_rfl) ?_
  rw [hfe, hfi]
  refine o_move gn rfl rfl ?_
  refine o_extract gn rfl rfl rfl ?_
  refine o_extract gn rfl rfl rfl ?_
  refine s_storeA (n := 4) 1 S gn rfl rfl (by simp only [List.all_cons, List.all_nil, hfc, Bool.and_true]; rfl) (by kernel_rfl) rfl rfl (by decide) rfl (fun g S => ag0) fun g S => ?_
  refine o_assign gn rfl rfl ?_
  refine wl_end ?_
  refine w_seq ?_
  refine w_region (by kernel_rfl) ?_
  refine o_move gn rfl rfl ?_
  refine o_move gn rfl rfl ?_
  refine o_and (B := decide (0 ≤ At)) (n := 3) rfl rfl rfl gn rfl (fun hb => by
      refine o_fieldAddr (off := 1) (gy rfl rfl rfl hb) rfl rfl (by kernel_rfl) ?_
      refine o_load (gy rfl rfl rfl hb) rfl rfl (by kernel_rfl) (by first | exact S.cel 0 rfl | exact S.cel 1 rfl | exact S.cel 2 rfl | exact S.cel 3 rfl | exact S.cel 4 rfl | exact S.cel 5 rfl | exact S.cel 6 rfl | exact S.cel 7 rfl | exact S.cel 8 rfl | exact S.cel 9 rfl) rfl ?_
      refine o_geq (gy rfl rfl rfl hb) rfl rfl rfl ?_
      exact wl_end ⟨rfl, rfl, 3, rfl, rfl⟩) ?_
  refine o_move gn rfl rfl ?_
  refine o_and (B := (hasAt K || decide (At = 0))) (n := 7) rfl rfl rfl gn rfl (fun hb => by
      refine o_fieldAddr (off := 1) (gy rfl rfl rfl hb) rfl rfl (by kernel_rfl) ?_
      refine o_load (gy rfl rfl rfl hb) rfl rfl (by kernel_rfl) (by first | exact S.cel 0 rfl | exact S.cel 1 rfl | exact S.cel 2 rfl | exact S.cel 3 rfl | exact S.cel 4 rfl | exact S.cel 5 rfl | exact S.cel 6 rfl | exact S.cel 7 rfl | exact S.cel 8 rfl | exact S.cel 9 rfl) rfl ?_
      refine o_move (gy rfl rfl rfl hb) rfl rfl ?_
      refine o_or (n := 3) rfl rfl rfl (gy rfl rfl rfl hb) rfl (fun hb => by
          refine o_fieldAddr (off := 1) (gy rfl rfl rfl hb) rfl rfl (by kernel_rfl) ?_
          refine o_load (gy rfl rfl rfl hb) rfl rfl (by kernel_rfl) (by first | exact S.cel 0 rfl | exact S.cel 1 rfl | exact S.cel 2 rfl | exact S.cel 3 rfl | exact S.cel 4 rfl | exact S.cel 5 rfl | exact S.cel 6 rfl | exact S.cel 7 rfl | exact S.cel 8 rfl | exact S.cel 9 rfl) rfl ?_
          refine o_eqi (gy rfl rfl rfl hb) rfl rfl rfl ?_
          exact wl_end ⟨rfl, rfl, 3, rfl, rfl⟩) ?_
      exact wl_end ⟨rfl, rfl, 4, rfl, rfl⟩) ?_
  refine o_move gn rfl rfl ?_
  refine o_and (B := (Scr.hasN K || decide (N = 0))) (n := 7) rfl rfl rfl gn rfl (fun hb => by
      refine o_fieldAddr (off := 2) (gy rfl rfl rfl hb) rfl rfl (by kernel_rfl) ?_
      refine o_load (gy rfl rfl rfl hb) rfl rfl (by kernel_rfl) (by first | exact S.cel 0 rfl | exact S.cel 1 rfl | exact S.cel 2 rfl | exact S.cel 3 rfl | exact S.cel 4 rfl | exact S.cel 5 rfl | exact S.cel 6 rfl | exact S.cel 7 rfl | exact S.cel 8 rfl | exact S.cel 9 rfl) rfl ?_
      refine o_move (gy rfl rfl rfl hb) rfl rfl ?_
      refine o_or (n := 3) rfl rfl rfl (gy rfl rfl rfl hb) rfl (fun hb => by
          refine o_fieldAddr (off := 2) (gy rfl rfl rfl hb) rfl rfl (by kernel_rfl) ?_
          refine o_load (gy rfl rfl rfl hb) rfl rfl (by kernel_rfl) (by first | exact S.cel 0 rfl | exact S.cel 1 rfl | exact S.cel 2 rfl | exact S.cel 3 rfl | exact S.cel 4 rfl | exact S.cel 5 rfl | exact S.cel 6 rfl | exact S.cel 7 rfl | exact S.cel 8 rfl | exact S.cel 9 rfl) rfl ?_
          refine o_eqi (gy rfl rfl rfl hb) rfl rfl rfl ?_
          exact wl_end ⟨rfl, rfl, 3, rfl, rfl⟩) ?_
      exact wl_end ⟨rfl, rfl, 4, rfl, rfl⟩) ?_
  refine o_assign gn rfl rfl ?_
  refine wl_end ?_
  refine w_ret ?_
  refine ⟨.inl rfl, _, rfl, ?_⟩
  exact ⟨by rw [← may_eq]; rfl, S.e0⟩
/-- line -/
theorem c15 (P : Pow h) (hi : inE e) : C scpE 15 [enV e] h fun v h' => (∃ B, v = .string B ∧ B.toList = lineE e) ∧ Ext h h' := by
  obtain ⟨K, At, N⟩ := e
  obtain ⟨hi1, hi2⟩ := hi
  simp only at hi1 hi2
  have z1 := wordB_le K
  have z2 := itoaB_le hi1
  have z3 := itoaB_le hi2
  refine c_enter (fu := Tryz.f15) (by kernel_rfl) rfl ?_
  have S := SH.start h
  refine w_seq ?_
  refine w_region (by kernel_rfl) ?_
  refine s_box S gn rfl rfl fun b1 g nb1 S => ?_
  refine o_assign gn rfl rfl ?_
  refine wl_end ?_
  refine w_seq ?_
  refine w_draw [(1, []), (2, []), (4, []), (0, [2]), (3, []), (5, [])] (by kernel_rfl) (by kernel_rfl) (by kernel_rfl) (by kernel_rfl) ?_
  refine o_fieldAddr (off := 0) gn rfl rfl (by kernel_rfl) ?_
  refine o_load gn rfl rfl (by kernel_rfl) (by first | exact S.cel 0 rfl | exact S.cel 1 rfl | exact S.cel 2 rfl) rfl ?_
  refine s_alloc (zv := .agg #[.string .empty, .bool false, .bool false, .nilFunc]) S gn rfl (by kernel_rfl) fun b2 g nb2 S => ?_
  refine s_fresh [0] S gn rfl (by kernel_rfl) (by kernel_rfl) sm13 forms_v forms_l (fun _ => by kernel_rfl) (by decide) (fun n g nn S => (ag1 (ag_load gn rfl (by kernel_rfl) (by first | exact S.cel 0 rfl | exact S.cel 1 rfl | exact S.cel 2 rfl | exact S.cel 3 rfl) rfl rfl same_int) ag0)) fun n3 g nn3 S => ?_
  obtain ⟨fv, hfc, hfe, hfi⟩ := form_at n3 K
  refine o_lookupK (zv := .agg #[.string .empty, .bool false, .bool false, .nilFunc]) key42 gn rfl rfl rfl (by first | exact S.cel 0 rfl | exact S.cel 1 rfl | exact S.cel 2 rfl | exact S.cel 3 rfl | exact S.cel 4 rfl | exact S.cel 5 rfl | exact S.cel 6 rfl | exact S.cel 7 rfl | exact S.cel 8 rfl | exact S.cel 9 rfl) (by kernel_rfl) ?_
  rw [hfe]
  refine s_storeA (n := 4) 1 S gn rfl rfl (by simp only [List.all_cons, List.all_nil, hfc, Bool.and_true]; rfl) (by kernel_rfl) rfl rfl (by decide) rfl (fun g S => ag0) fun g S => ?_
  refine wl_end ?_
  refine w_seq ?_
  refine w_region (by kernel_rfl) ?_
  refine o_fieldAddr (off := 0) gn rfl rfl (by kernel_rfl) ?_
  refine o_load gn rfl rfl (by kernel_rfl) (by first | exact S.cel 0 rfl | exact S.cel 1 rfl | exact S.cel 2 rfl | exact S.cel 3 rfl | exact S.cel 4 rfl | exact S.cel 5 rfl | exact S.cel 6 rfl | exact S.cel 7 rfl | exact S.cel 8 rfl | exact S.cel 9 rfl) rfl ?_
  refine o_assign gn rfl rfl ?_
  refine wl_end ?_
  refine w_seq ?_
  refine w_seq ?_
  refine w_region (by kernel_rfl) ?_
  refine o_fieldAddr (off := 1) gn rfl rfl (by kernel_rfl) ?_
  refine o_load gn rfl rfl (by kernel_rfl) (by first | exact S.cel 0 rfl | exact S.cel 1 rfl | exact S.cel 2 rfl | exact S.cel 3 rfl | exact S.cel 4 rfl | exact S.cel 5 rfl | exact S.cel 6 rfl | exact S.cel 7 rfl | exact S.cel 8 rfl | exact S.cel 9 rfl) rfl ?_
  refine wl_end ?_
  refine w_cond rfl (fun hb => ?_) fun hb => ?_
  · skip
    refine w_region (by kernel_rfl) ?_
    refine o_move gn rfl rfl ?_
    refine o_fieldAddr (off := 1) gn rfl rfl (by kernel_rfl) ?_
    refine o_load gn rfl rfl (by kernel_rfl) (by first | exact S.cel 0 rfl | exact S.cel 1 rfl | exact S.cel 2 rfl | exact S.cel 3 rfl | exact S.cel 4 rfl | exact S.cel 5 rfl | exact S.cel 6 rfl | exact S.cel 7 rfl | exact S.cel 8 rfl | exact S.cel 9 rfl) rfl ?_
    refine o_sm [_] gn rfl rfl (by kernel_rfl) (by kernel_rfl) sm29 rfl (itoa_at (P.ext S.e0) hi1) (.refl _) ag0 ?_
    refine o_addS gn rfl rfl rfl (by simp only [zs]; omega) ?_
    refine o_addS gn rfl rfl rfl (by simp only [zs]; omega) ?_
    refine o_assign gn rfl rfl ?_
    refine wl_end ?_
    refine w_seq ?_
    refine w_seq ?_
    have hb1 := hb
    refine w_region (by kernel_rfl) ?_
    refine o_fieldAddr (off := 2) gn rfl rfl (by kernel_rfl) ?_
    refine o_load gn rfl rfl (by kernel_rfl) (by first | exact S.cel 0 rfl | exact S.cel 1 rfl | exact S.cel 2 rfl | exact S.cel 3 rfl | exact S.cel 4 rfl | exact S.cel 5 rfl | exact S.cel 6 rfl | exact S.cel 7 rfl | exact S.cel 8 rfl | exact S.cel 9 rfl) rfl ?_
    refine wl_end ?_
    refine w_cond rfl (fun hb => ?_) fun hb => ?_
    · skip
      refine w_region (by kernel_rfl) ?_
      refine o_move gn rfl rfl ?_
      refine o_fieldAddr (off := 2) gn rfl rfl (by kernel_rfl) ?_
      refine o_load gn rfl rfl (by kernel_rfl) (by first | exact S.cel 0 rfl | exact S.cel 1 rfl | exact S.cel 2 rfl | exact S.cel 3 rfl | exact S.cel 4 rfl | exact S.cel 5 rfl | exact S.cel 6 rfl | exact S.cel 7 rfl | exact S.cel 8 rfl | exact S.cel 9 rfl) rfl ?_
      refine o_sm [_, _] gn rfl rfl (by kernel_rfl) (by kernel_rfl) sm30 rfl (fmt_at (P.ext S.e0) hi2) (.refl _) ag0 ?_
      refine o_addS gn rfl rfl rfl (by simp only [zs]; omega) ?_
      refine o_addS gn rfl rfl rfl (by simp only [zs]; omega) ?_
      refine o_assign gn rfl rfl ?_
      refine wl_end ?_
      refine w_seq ?_
      refine w_region (by kernel_rfl) ?_
      refine o_move gn rfl rfl ?_
      refine o_addS gn rfl rfl rfl (by simp only [zs]; omega) ?_
      refine o_assign gn rfl rfl ?_
      refine wl_end ?_
      refine w_ret ?_
      refine ⟨.inl rfl, _, rfl, ?_⟩
      exact ⟨⟨_, rfl, by rw [line_eq, if_pos hb1, if_pos hb]; simp only [tls, wordB_tl, itoaB_tl, List.append_assoc]; rfl⟩, S.e0⟩
    refine w_skip ?_
    refine w_seq ?_
    refine w_region (by kernel_rfl) ?_
    refine o_move gn rfl rfl ?_
    refine o_addS gn rfl rfl rfl (by simp only [zs]; omega) ?_
    refine o_assign gn rfl rfl ?_
    refine wl_end ?_
    refine w_ret ?_
    refine ⟨.inl rfl, _, rfl, ?_⟩
    exact ⟨⟨_, rfl, by rw [line_eq, if_pos hb1, if_neg (by rw [hb]; simp)]; simp only [tls, wordB_tl, itoaB_tl, List.append_assoc]; rfl⟩, S.e0⟩
  refine w_skip ?_
  refine w_seq ?_
  refine w_seq ?_
  have hb1 := hb
  refine w_region (by kernel_rfl) ?_
  refine o_fieldAddr (off := 2) gn rfl rfl (by kernel_rfl) ?_
  refine o_load gn rfl rfl (by kernel_rfl) (by first | exact S.cel 0 rfl | exact S.cel 1 rfl | exact S.cel 2 rfl | exact S.cel 3 rfl | exact S.cel 4 rfl | exact S.cel 5 rfl | exact S.cel 6 rfl | exact S.cel 7 rfl | exact S.cel 8 rfl | exact S.cel 9 rfl) rfl ?_
  refine wl_end ?_
  refine w_cond rfl (fun hb => ?_) fun hb => ?_
  · skip
    refine w_region (by kernel_rfl) ?_
    refine o_move gn rfl rfl ?_
    refine o_fieldAddr (off := 2) gn rfl rfl (by kernel_rfl) ?_
    refine o_load gn rfl rfl (by kernel_rfl) (by first | exact S.cel 0 rfl | exact S.cel 1 rfl | exact S.cel 2 rfl | exact S.cel 3 rfl | exact S.cel 4 rfl | exact S.cel 5 rfl | exact S.cel 6 rfl | exact S.cel 7 rfl | exact S.cel 8 rfl | exact S.cel 9 rfl) rfl ?_
    refine o_sm [_, _] gn rfl rfl (by kernel_rfl) (by kernel_rfl) sm30 rfl (fmt_at (P.ext S.e0) hi2) (.refl _) ag0 ?_
    refine o_addS gn rfl rfl rfl (by simp only [zs]; omega) ?_
    refine o_addS gn rfl rfl rfl (by simp only [zs]; omega) ?_
    refine o_assign gn rfl rfl ?_
    refine wl_end ?_
    refine w_seq ?_
    refine w_region (by kernel_rfl) ?_
    refine o_move gn rfl rfl ?_
    refine o_addS gn rfl rfl rfl (by simp only [zs]; omega) ?_
    refine o_assign gn rfl rfl ?_
    refine wl_end ?_
    refine w_ret ?_
    refine ⟨.inl rfl, _, rfl, ?_⟩
    exact ⟨⟨_, rfl, by rw [line_eq, if_neg (by rw [hb1]; simp), if_pos hb]; simp only [tls, wordB_tl, itoaB_tl, List.append_assoc]; rfl⟩, S.e0⟩
  refine w_skip ?_
  refine w_seq ?_
  refine w_region (by kernel_rfl) ?_
  refine o_move gn rfl rfl ?_
  refine o_addS gn rfl rfl rfl (by simp only [zs]; omega) ?_
  refine o_assign gn rfl rfl ?_
  refine wl_end ?_
  refine w_ret ?_
  refine ⟨.inl rfl, _, rfl, ?_⟩
  exact ⟨⟨_, rfl, by rw [line_eq, if_neg (by rw [hb1]; simp), if_neg (by rw [hb]; simp)]; simp only [tls, wordB_tl]; rfl⟩, S.e0⟩
end
end Go.Proofs.YtdgemlcdhobejaaGreatDoor

namespace Go.Proofs.YtdgemlcdhobejaaGreatDoor
open Go.X Go.Scr

/-- The printer: its block, its buffer. -/
def bdR (pb : Nat) (l : List UInt8) (bs : List Nat) : Res := ⟨pb :: bs, fun h => ∃ addr bv, (addr = .pointer none ∨ addr = .pointer (some ⟨pb, 0, none⟩)) ∧ h.get pb = some (.cells [addr, bv] 47 0) ∧ SlN 5 0 h bv (byV l) l.length bs ∧ (l = [] → bv = .slice none 0 0), fun h h' k hn p => by
  obtain ⟨addr, bv, h1, h2, h3, h4⟩ := p
  exact ⟨addr, bv, h1, by rw [(k pb (by simp)).2]; exact h2, (snR 5 0 bv (byV l) l.length bs).st h h' (fun i hi => k i (List.mem_cons_of_mem _ hi)) hn h3, h4⟩⟩
theorem el45 : ElN scpE 45 5 0 0 := ⟨by kernel_rfl, by kernel_rfl, by kernel_rfl, .int .u8 0, by kernel_rfl, rfl⟩
theorem append_none {E : Env} {t t' e by' : Nat} {h h' : Hp} {v' : Value} {u : ByteArray} (x : ElN E t e 0 by') (h2 : E.und t' = some .string) (hu : u.toList = []) (ha : appendX E h t t' (.slice none 0 0) (.string u) = some (v', h')) : v' = .slice none 0 0 := by
  obtain ⟨hl, hf, _⟩ := src_string (h := h) u
  rw [hu] at hl hf
  rw [appendX_str x.und h2] at ha
  simp only [appendX, x.und, hl, x.size, x.bytes, List.length_nil, Nat.beq_refl, cond_true] at ha
  cases ha; rfl
/-- The printer's piece, as two. -/
theorem pr_open {h0 g : Hp} {pb : Nat} {l : List UInt8} {bs : List Nat} (S0 : SH h0 [] [bdR pb l bs] g) : ∃ addr bv, (addr = .pointer none ∨ addr = .pointer (some ⟨pb, 0, none⟩)) ∧ (l = [] → bv = .slice none 0 0) ∧ SH g (pb :: bs) [cR pb (.cells [addr, bv] 47 0), snR 5 0 bv (byV l) l.length bs] g := by
  obtain ⟨addr, bv, h1, h2, h3, h4⟩ := S0.res 0 rfl
  have S := S0.enter
  refine ⟨addr, bv, h1, h4, ⟨S.ext, fun r hr => ?_, fun i hi => S.lt i (by simpa [owns, cR, snR, bdR] using hi), fun i hi => S.new i (by simpa [owns, cR, snR, bdR] using hi), by simpa [owns, cR, snR, bdR] using S.nd⟩⟩
  simp only [List.mem_cons, List.not_mem_nil, or_false] at hr
  rcases hr with rfl | rfl
  · exact h2
  exact h3
/-- The two, as the printer's piece. -/
theorem pr_shut {g g' : Hp} {ds : List Nat} {pb : Nat} {bv addr : Value} {l : List UInt8} {bs : List Nat} {L : List Res} (ha : addr = .pointer none ∨ addr = .pointer (some ⟨pb, 0, none⟩)) (hnil : l = [] → bv = .slice none 0 0) (S : SH g ds (cR pb (.cells [addr, bv] 47 0) :: snR 5 0 bv (byV l) l.length bs :: L) g') : SH g ds (bdR pb l bs :: L) g' := by
  have e : owns (bdR pb l bs :: L) = owns (cR pb (.cells [addr, bv] 47 0) :: snR 5 0 bv (byV l) l.length bs :: L) := by simp [owns, cR, snR, bdR]
  refine ⟨S.ext, fun r hr => ?_, by rw [e]; exact S.lt, by rw [e]; exact S.new, by rw [e]; exact S.nd⟩
  rcases List.mem_cons.1 hr with rfl | hr
  · exact ⟨addr, bv, ha, S.cel 0 rfl, S.res 1 rfl, hnil⟩
  exact S.hold r (List.mem_cons_of_mem _ (List.mem_cons_of_mem _ hr))
theorem check_put {g : Hp} {ds : List Nat} {pb : Nat} {addr bv : Value} {L : List Res} {g0 : Hp} (ha : addr = .pointer none ∨ addr = .pointer (some ⟨pb, 0, none⟩)) (S : SH g0 ds (cR pb (.cells [addr, bv] 47 0) :: L) g) :
    ∃ g', checkX [(47, 2, 0)] [.pointer (some ⟨pb, 0, none⟩)] g = some (.tuple #[], g') ∧ KD g g' ∧ SH g0 ds (cR pb (.cells [.pointer (some ⟨pb, 0, none⟩), bv] 47 0) :: L) g' := by
  have hg := S.cel 0 rfl
  rcases ha with rfl | rfl
  · refine ⟨_, ?_, KD.put (.cells [.pointer (some ⟨pb, 0, none⟩), bv] 47 0) (fun d e => by rw [hg] at e; cases e), S.put 0 rfl _⟩
    simp only [checkX, rowOf, hg]
    show (cond (okIn 47 2 0 [(47, 2, 0)]) (match storeRow g ⟨pb, 0, none⟩ [.pointer (some ⟨pb, 0, none⟩)] with | some h' => some (Value.tuple #[], h') | none => none) none) = _
    have e : okIn 47 2 0 [(47, 2, 0)] = true := by kernel_rfl
    rw [e]
    simp only [cond_true, storeRow, hg]
    rfl
  refine ⟨g, ?_, .refl _, S⟩
  simp only [checkX, rowOf, hg]
  show cond (Nat.beq pb pb && Nat.beq 0 0) (some (Value.tuple #[], g)) none = _
  rw [Nat.beq_refl]; rfl

section
variable {h0 g : Hp} {pb : Nat} {l : List UInt8} {bs : List Nat}

/-- WriteString -/
theorem c14 (S0 : SH h0 [] [bdR pb l bs] g) (u : ByteArray) (hn : l.length + u.toList.length ≤ 1099511627776) : C scpE 14 [.pointer (some ⟨pb, 0, none⟩), .string u] g fun _ g' => ∃ bs', SH g (pb :: bs) [bdR pb (l ++ u.toList) bs'] g' := by
  obtain ⟨addr, bv, ha, hnil, S1⟩ := pr_open S0
  refine c_enter (fu := Tryz.f14) (by kernel_rfl) rfl ?_
  have S := S1
  refine w_seq ?_
  refine w_region (by kernel_rfl) ?_
  refine o_assign gn rfl rfl ?_
  refine o_assign gn rfl rfl ?_
  refine wl_end ?_
  refine w_seq ?_
  refine w_region (by kernel_rfl) ?_
  refine o_move gn rfl rfl ?_
  obtain ⟨g1, hc1, hc2, S⟩ := check_put ha S
  refine o_sm [_] gn rfl rfl (by kernel_rfl) (by kernel_rfl) sm28 rfl hc1 hc2 ag0 ?_
  refine wl_end ?_
  refine w_seq ?_
  refine w_region (by kernel_rfl) ?_
  refine o_move gn rfl rfl ?_
  refine o_move gn rfl rfl ?_
  refine o_nilCheck gn rfl rfl ?_
  refine o_fieldAddr (off := 1) gn rfl rfl (by kernel_rfl) ?_
  refine o_load gn rfl rfl (by kernel_rfl) (by first | exact S.cel 0 rfl | exact S.cel 1 rfl | exact S.cel 2 rfl | exact S.cel 3 rfl) rfl ?_
  refine o_move gn rfl rfl ?_
  obtain ⟨v', g2, bs', q1, q2, q3, q4⟩ := append_str el45 (t' := 9) (by kernel_rfl) (S.res 1 rfl) u (by omega)
  have S := S.upd (r' := snR 5 0 v' (byV (l ++ u.toList)) (l ++ u.toList).length bs') 1 rfl q3 q2 q2.lt q4 q2.nodup
  refine o_append gn rfl rfl rfl q1 ag0 ?_
  refine o_nilCheck gn rfl rfl ?_
  refine o_fieldAddr (off := 1) gn rfl rfl (by kernel_rfl) ?_
  refine s_store 0 S gn rfl rfl (by obtain ⟨a, ea⟩ := q2.val; rw [ea]; rfl) (by kernel_rfl) rfl (by decide) (by simp) (fun g S => ag0) fun g S => ?_
  refine wl_end ?_
  refine w_seq ?_
  refine w_region (by kernel_rfl) ?_
  refine o_move gn rfl rfl ?_
  refine o_lenstr gn rfl rfl (by kernel_rfl) ?_
  refine o_assign gn rfl rfl ?_
  refine o_assign gn rfl rfl ?_
  refine wl_end ?_
  refine w_ret ?_
  refine ⟨.inl rfl, _, rfl, ?_⟩
  exact ⟨bs', pr_shut (.inr rfl) (fun e => by
    obtain ⟨e1, e2⟩ := List.append_eq_nil_iff.1 e
    rw [hnil e1] at q1
    exact append_none el45 (by kernel_rfl) e2 q1) S⟩
end

theorem bytesOf_byV : ∀ l : List UInt8, bytesOf (byV l) = some l
  | [] => rfl
  | b :: l => by
    have e : bytesOf (byV (b :: l)) = cond (Nat.blt b.toNat 256) (match bytesOf (byV l) with | some l => some (b.toNat.toUInt8 :: l) | none => none) none := rfl
    have e2 : Nat.blt b.toNat 256 = true := (blt_iff _ _).2 b.toNat_lt
    rw [e, e2, bytesOf_byV l]
    simp [Nat.toUInt8]
/-- String, of what was put. -/
theorem string_pr {h g : Hp} {pb : Nat} {l : List UInt8} {bs : List Nat} {L : List Res} (S : SH h [] (bdR pb l bs :: L) g) (hl : l.length ≤ 1000000000) : ∃ g', stringX 5 [.pointer (some ⟨pb, 0, none⟩)] g = some (.string ⟨l.toArray⟩, g') ∧ KD g g' ∧ Ext h g' := by
  obtain ⟨addr, bv, h1, h2, h3, h4⟩ := S.res 0 rfl
  have hrow : rowOf g ⟨pb, 0 + 1, none⟩ 1 = some [bv] := by simp only [rowOf, h2]; rfl
  cases l with
  | nil =>
    rw [h4 rfl] at hrow
    exact ⟨g, by simp only [stringX, hrow]; rfl, .refl _, S.e0⟩
  | cons c l =>
    rcases h3 with ⟨_, _, hl0, _⟩ | ⟨b, m, rfl, hb, hm, hlt, rfl, hlen⟩
    · simp at hl0
    have hbh : h.n ≤ b := (S.new b (by simp [owns, bdR])).resolve_left (by simp)
    have hrow2 : rowOf g ⟨b, 0, none⟩ (l.length + 1) = some (byV (c :: l)) := by
      simp only [rowOf, hb]
      have e : Nat.ble (0 + (l.length + 1)) (byV (c :: l)).length = true := (ble_iff _ _).2 (by simp)
      rw [e, List.drop_zero, List.take_of_length_le (by simp)]; rfl
    have hm1 : (Nat.beq 5 5 && !Nat.beq m 1 && Nat.ble (l.length + 1) 1000000000) = true := by
      have e : Nat.ble (l.length + 1) 1000000000 = true := (ble_iff _ _).2 (by simpa using hl)
      rw [e]
      rcases hm with rfl | rfl <;> rfl
    refine ⟨g.put b .dead, ?_, KD.put _ (fun d e => by rw [hb] at e; cases e), ⟨by rw [Hp.n_put]; exact S.ext.n, fun i hi => by
      rw [Hp.get_put, if_neg (by omega)]; exact S.e0.get i hi⟩⟩
    have hr : rowOf g ⟨pb, 0 + 1, none⟩ 1 = some [.slice (some ⟨b, 0, none⟩) (l.length + 1) (l.length + 1)] := hrow
    simp only [stringX, hr, hrow2, hb, hm1, cond_true, bytesOf_byV]

/-- Entries in a row. -/
def EnAt (h : Hp) (v : Value) (l : List En) : Prop := (l = [] ∧ ∃ a c, v = .slice a 0 c) ∨ ∃ b o c cs e m, v = .slice (some ⟨b, o, none⟩) l.length c ∧ h.get b = some (.cells cs e m) ∧ b < h.n ∧ o + l.length * 3 ≤ cs.length ∧ ∀ i (hi : i < l.length), (cs.drop (o + i * 3)).take 3 = enC l[i]
theorem EnAt.ext {h h' : Hp} {v : Value} {l : List En} (x : EnAt h v l) (g : Ext h h') : EnAt h' v l := by
  rcases x with x | ⟨b, o, c, cs, e, m, h1, h2, h3, h4, h5⟩
  · exact .inl x
  exact .inr ⟨b, o, c, cs, e, m, h1, (g.get b h3).trans h2, Nat.lt_of_lt_of_le h3 g.n, h4, h5⟩
theorem EnAt.val {h : Hp} {v : Value} {l : List En} (x : EnAt h v l) : ∃ a c, v = .slice a l.length c := by
  rcases x with ⟨rfl, a, c, h1⟩ | ⟨b, o, c, cs, e, m, h1, _⟩
  · exact ⟨a, c, h1⟩
  exact ⟨_, c, h1⟩
theorem EnAt.at {h : Hp} {v : Value} {l : List En} (x : EnAt h v l) (hn : 0 < l.length) : ∃ b o c cs e m, v = .slice (some ⟨b, o, none⟩) l.length c ∧ h.get b = some (.cells cs e m) ∧ b < h.n ∧ o + l.length * 3 ≤ cs.length ∧ ∀ i (hi : i < l.length), (cs.drop (o + i * 3)).take 3 = enC l[i] := by
  rcases x with ⟨rfl, _⟩ | x
  · simp at hn
  exact x
theorem word_le (K : Int) : (word K).length ≤ 10 := by
  rw [← wordB_tl, ← size_toList]; exact wordB_le K
theorem line_le {e : En} (hi : inE e) : (lineE e).length ≤ 60 := by
  obtain ⟨K, At, N⟩ := e
  obtain ⟨h1, h2⟩ := hi
  simp only at h1 h2
  have a1 := word_le K
  have a2 := Lib.itoa_length_le At h1.1 h1.2
  have a3 := Lib.itoa_length_le N h2.1 h2.2
  rw [line_eq]
  simp only [List.length_append, List.length_cons, List.length_nil]
  split <;> split <;> simp only [List.length_cons, List.length_nil] <;> omega
theorem lines_le {l : List En} (hi : ∀ e, e ∈ l → inE e) : (linesE l).length ≤ l.length * 60 := by
  induction l with
  | nil => simp [linesE]
  | cons e l ih =>
    have h1 := line_le (hi e List.mem_cons_self)
    have h2 := ih fun x hx => hi x (List.mem_cons_of_mem _ hx)
    have e1 : linesE (e :: l) = lineE e ++ linesE l := by simp [linesE]
    rw [e1, List.length_append, List.length_cons]
    omega
theorem lines_take {l : List En} {i : Nat} (hi : i < l.length) : linesE (l.take (i + 1)) = linesE (l.take i) ++ lineE l[i] := by
  rw [List.take_add_one, List.getElem?_eq_getElem hi, lines_app]
  simp [linesE]

section
variable {h : Hp} {v : Value} {l : List En}
/-- Text -/
theorem c8 (P : Pow h) (X : EnAt h v l) (hl : l.length ≤ 1000) (hi : ∀ e, e ∈ l → inE e) : C scpE 8 [v] h fun v h' => (∃ B, v = .string B ∧ B.toList = if l.all mayE = true then linesE l else []) ∧ Ext h h' := by
  have Y := X
  obtain ⟨ta, tc, rfl⟩ := X.val
  refine c_enter (fu := Tryz.f8) (by kernel_rfl) rfl ?_
  have S := SH.start h
  refine w_seq ?_
  refine w_region (by kernel_rfl) ?_
  refine o_assign gn rfl rfl ?_
  refine wl_end ?_
  refine w_seq ?_
  refine w_region (by kernel_rfl) ?_
  refine s_alloc (zv := .agg #[.pointer none, .slice none 0 0]) S gn rfl (by kernel_rfl) fun b1 g nb1 S => ?_
  refine wl_end ?_
  refine w_seq ?_
  refine w_seq ?_
  refine w_region (by kernel_rfl) ?_
  refine o_move gn rfl rfl ?_
  refine o_len gn rfl rfl (by kernel_rfl) ?_
  refine o_move gn rfl rfl ?_
  refine wl_end ?_
  refine w_block ?_
  refine w_loopS [(8, _)] [(3, _), (6, _), (7, _)] (by repeat (first | exact trivial | refine ⟨rfl, ?_⟩)) (fun kk lv hh => ∃ (i : Nat) (bs1 : List Nat), lv = [(8, iV i)] ∧ kk = l.length - i ∧ i ≤ l.length ∧ SH h [] [bdR b1 (linesE (l.take i)) bs1] hh ∧ (l.take i).all mayE = true) (n := (l.length)) ?_ fun kk lv hh hI => ?_
  · exact ⟨0, [], rfl, rfl, by omega, pr_shut (.inl rfl) (fun _ => rfl) ((S.push (r := snR 5 0 (.slice none 0 0) (byV []) 0 []) (Ext.refl _) (.inl ⟨rfl, rfl, rfl, rfl⟩) (by simp [snR]) (by simp [snR]) (by simp [snR])).swap), rfl⟩
  obtain ⟨i, bs1, rfl, hkk, hi3, S, hall⟩ := hI
  refine w_seq ?_
  refine w_region (by kernel_rfl) ?_
  refine o_lss gn rfl rfl rfl ?_
  refine wl_end ?_
  refine w_seq ?_
  refine w_cond rfl (fun hb => ?_) fun hb => ?_
  · skip
    refine w_skip ?_
    have hil : i < l.length := by simp at hb; omega
    obtain ⟨b, o, c, cs, e, m, hv, hg, hlb, hl6, hat⟩ := Y.at (by omega)
    have hta : ta = some ⟨b, o, none⟩ := by injection hv
    have hw : (cs.drop (o + Int.toNat (i : Int) * 3)).take 3 = enC l[i] := by rw [Int.toNat_natCast]; exact hat i hil
    have hie := hi _ (List.getElem_mem hil)
    have hz1 := line_le hie
    have hz2 := lines_le (l := l.take i) fun x hx => hi x (List.mem_of_mem_take hx)
    rw [List.length_take] at hz2
    refine w_seq ?_
    refine w_block ?_
    refine w_seq ?_
    refine w_region (by kernel_rfl) ?_
    rw [hta]
    refine o_indexAddr (zz := 3) gn rfl rfl rfl (by kernel_rfl) (by omega) (by omega) ?_
    refine o_loadA (n := 3) gn rfl rfl (by kernel_rfl) (by kernel_rfl) (S.old0 hg hlb) (by rw [Int.toNat_natCast]; omega) ?_
    rw [hw, ← hta]
    refine s_alloc (zv := .agg #[.int .i64 0, .int .i64 0, .int .i64 0]) S gn rfl (by kernel_rfl) fun b2 g nb2 S => ?_
    first | refine s_storeA (n := 3) 0 S gn rfl rfl (by kernel_rfl) (by kernel_rfl) rfl rfl (by decide) rfl (fun g S => ag0) fun g S => ?_ | refine s_storeA (n := 3) 1 S gn rfl rfl (by kernel_rfl) (by kernel_rfl) rfl rfl (by decide) rfl (fun g S => ag0) fun g S => ?_ | refine s_storeA (n := 3) 2 S gn rfl rfl (by kernel_rfl) (by kernel_rfl) rfl rfl (by decide) rfl (fun g S => ag0) fun g S => ?_ | refine s_storeA (n := 3) 3 S gn rfl rfl (by kernel_rfl) (by kernel_rfl) rfl rfl (by decide) rfl (fun g S => ag0) fun g S => ?_
    refine wl_end ?_
    refine w_seq ?_
    refine w_seq ?_
    refine w_region (by kernel_rfl) ?_
    refine o_loadA (n := 3) gn rfl rfl (by kernel_rfl) (by kernel_rfl) (by first | exact S.cel 0 rfl | exact S.cel 1 rfl | exact S.cel 2 rfl | exact S.cel 3 rfl) (by first | decide | exact Nat.le_refl _ | (simp; done)) ?_
    refine o_call [_] gn rfl rfl (by kernel_rfl) rfl (C.mono (c6 (e := l[i])) ?_)
    rintro v g ⟨rfl, x⟩
    have S := S.grow x
    refine ⟨ag0, ?_⟩
    refine o_not gn rfl rfl ?_
    refine wl_end ?_
    refine w_cond rfl (fun hb => ?_) fun hb => ?_
    · skip
      refine w_seq ?_
      refine w_region (by kernel_rfl) ?_
      refine o_assign gn rfl rfl ?_
      refine wl_end ?_
      refine w_ret ?_
      refine ⟨.inl rfl, _, rfl, ?_⟩
      exact ⟨⟨_, rfl, by
        have hno : ¬ l.all mayE = true := fun h => by
          have := List.all_eq_true.1 h _ (List.getElem_mem hil)
          rw [this] at hb; simp at hb
        rw [if_neg hno]; exact tl_lit _⟩, S.e0⟩
    refine w_skip ?_
    refine w_region (by kernel_rfl) ?_
    refine o_loadA (n := 3) gn rfl rfl (by kernel_rfl) (by kernel_rfl) (by first | exact S.cel 0 rfl | exact S.cel 1 rfl | exact S.cel 2 rfl | exact S.cel 3 rfl) (by first | decide | exact Nat.le_refl _ | (simp; done)) ?_
    refine o_call [_] gn rfl rfl (by kernel_rfl) rfl (C.mono (c15 (e := l[i]) (P.ext S.e0) hie) ?_)
    rintro v g ⟨⟨B, rfl, hB⟩, x⟩
    have S := S.grow x
    refine ⟨ag0, ?_⟩
    refine o_call [_, _] gn rfl rfl (by kernel_rfl) rfl (C.mono (c14 (S.pick 1 rfl) B (by rw [hB]; omega)) ?_)
    rintro v g ⟨bs', S2⟩
    have S := S.ret 1 rfl S2
    refine ⟨ag0, ?_⟩
    refine wl_end ?_
    refine w_region (by kernel_rfl) ?_
    refine o_add gn rfl rfl rfl (by omega) (by omega) ?_
    refine o_move gn rfl rfl ?_
    refine wl_end ?_
    exact rndS (l.length - (i + 1)) (by omega) [(8, _)] (by repeat (first | exact trivial | refine ⟨rfl, ?_⟩)) ⟨i + 1, bs', rfl, rfl, by omega, by rw [lines_take hil, ← hB]; exact S.drop, by
      have hmi : mayE l[i] = true := by simpa using hb
      rw [List.take_add_one, List.getElem?_eq_getElem hil, List.all_append, hall]
      simp [hmi]⟩
  refine w_exit ?_
  refine thn_exit ?_
  refine rnd_exit ?_
  refine blk_eq ?_
  refine w_seq ?_
  have hil : i = l.length := by simp at hb; omega
  subst hil
  rw [List.take_length] at hall S
  have hz2 := lines_le hi
  obtain ⟨g2, hs1, hs2, hs3⟩ := string_pr S (by omega)
  refine w_region (by kernel_rfl) ?_
  refine o_sm [_] gn rfl rfl (by kernel_rfl) (by kernel_rfl) sm16 rfl hs1 hs2 ag0 ?_
  refine o_assign gn rfl rfl ?_
  refine wl_end ?_
  refine w_ret ?_
  refine ⟨.inl rfl, _, rfl, ?_⟩
  exact ⟨⟨_, rfl, by rw [if_pos hall]; exact tl_lit _⟩, hs3⟩
end
end Go.Proofs.YtdgemlcdhobejaaGreatDoor

namespace Go.Proofs.YtdgemlcdhobejaaGreatDoor
open Go.X Go.Scr

/-- The library's variables lie there. -/
structure LibOk (h : Hp) : Prop where
  pow : Pow h
  max : intThere 0 h = true
  syn : ifaceThere 2 h = true
  ran : ifaceThere 3 h = true
  lt : 3 < h.n
theorem LibOk.ext {h h' : Hp} (x : LibOk h) (g : Ext h h') : LibOk h' := by
  have hlt := x.lt
  refine ⟨x.pow.ext g, ?_, ?_, ?_, Nat.lt_of_lt_of_le x.lt g.n⟩
  · have := x.max
    unfold intThere at *
    rw [g.get 0 (by omega)]; exact this
  · have := x.syn
    unfold ifaceThere at *
    rw [g.get 2 (by omega)]; exact this
  have := x.ran
  unfold ifaceThere at *
  rw [g.get 3 (by omega)]; exact this
abbrev srV (ks : List ByteArray) : List Value := ks.map Value.string
theorem segs_le : ∀ {l w : List UInt8}, w ∈ segs l → w.length ≤ l.length
  | [], w, h => by
    simp only [segs, List.mem_singleton] at h
    rw [h]; exact Nat.le_refl _
  | c :: l, w, h => by
    rw [segs] at h
    split at h
    · rcases List.mem_cons.1 h with rfl | h
      · exact Nat.zero_le _
      have := segs_le h
      rw [List.length_cons]; omega
    split at h
    · rename_i e
      exact absurd e (segs_ne l)
    rename_i s0 r e
    rcases List.mem_cons.1 h with rfl | h
    · have := segs_le (l := l) (w := s0) (by rw [e]; exact List.mem_cons_self)
      rw [List.length_cons, List.length_cons]; omega
    have := segs_le (l := l) (w := w) (by rw [e]; exact List.mem_cons_of_mem _ h)
    rw [List.length_cons]; omega
theorem split_at {g : Hp} (L : LibOk g) {p : ByteArray} (hp : p.size ≤ 1000000) : ∃ ws b4, b4 = g.n ∧ splitX 0 9 [.string p, .string ⟨#[32]⟩] g = some (.slice (some ⟨b4, 0, none⟩) ws.length ws.length, g.alloc (.cells (srV ws) 9 0)) ∧ ws.map ByteArray.toList = segs p.toList ∧ 0 < ws.length ∧ ∀ w, w ∈ ws → w.size ≤ 1000000 := by
  have h1 : 1 ≤ (⟨#[32]⟩ : ByteArray).size := by decide
  have hlen := Lib.splitB_all ⟨#[32]⟩ h1 0 (Lib.countB p ⟨#[32]⟩) p rfl
  have hd := Lib.splitB_data ⟨#[32]⟩ 0 (Lib.countB p ⟨#[32]⟩) p
  have hc : Lib.countB p ⟨#[32]⟩ = p.data.toList.count 32 := Lib.count_one 32 p.data.toList
  have hk := splitK_segs (Lib.countB p ⟨#[32]⟩) p.data.toList (by rw [hc]; exact Nat.le_refl _)
  have hm : (Lib.splitB ⟨#[32]⟩ 0 (Lib.countB p ⟨#[32]⟩) p).map ByteArray.toList = segs p.toList := by
    rw [ByteArray.toList_eq, ← hk]
    refine Eq.trans ?_ hd
    exact List.map_congr_left fun w _ => ByteArray.toList_eq ..
  refine ⟨Lib.splitB ⟨#[32]⟩ 0 (Lib.countB p ⟨#[32]⟩) p, g.n, rfl, ?_, hm, by omega, fun w hw => ?_⟩
  · rw [hlen]
    simp only [splitX, L.max, Bool.true_and, decide_eq_true (show p.size < 4294967281 by omega), decide_eq_true h1, cond_true]
  have : w.toList ∈ segs p.toList := by rw [← hm]; exact List.mem_map_of_mem hw
  have := segs_le this
  rw [← size_toList, ← size_toList] at this
  omega
theorem numEnd_atoi (s : ByteArray) : numEnd (Lib.atoiAll s.data.toList) (Lib.atoiSat s.data.toList) = numA s.toList := by
  rw [ByteArray.toList_eq]
  unfold numEnd numA
  cases Lib.atoiAll s.data.toList <;> rfl
theorem intSat_atoi (l : List UInt8) : Lib.intSat 64 l = Lib.atoiSat l := by
  unfold Lib.intSat Lib.atoiSat
  split <;> rfl
theorem atoi_at {g : Hp} (L : LibOk g) {s : ByteArray} (hs : s.size ≤ 1000000) : atoiX 2 3 [.string s] g = some (.tuple #[.int .i64 (numA s.toList), .chan (some 0)], g) := by
  rw [← numEnd_atoi]
  simp only [atoiX, L.syn, L.ran, Bool.true_and, decide_eq_true (show s.size ≤ 281474976710656 by omega), cond_true]
theorem parse_at {g : Hp} (L : LibOk g) {s : ByteArray} (hs : s.size ≤ 1000000) : parseX 2 3 [.string s, .int .i64 10, .int .i64 64] g = some (.tuple #[.int .i64 (numA s.toList), .chan (some 0)], g) := by
  rw [← numEnd_atoi, ← int_atoi, ← intSat_atoi]
  simp only [parseX, L.syn, L.ran, Bool.true_and, decide_eq_true (show s.size ≤ 281474976710656 by omega), decide_true, cond_true]
/-- The rest of a row, behind so many. -/
def RestV (b n j : Nat) (v : Value) : Prop := j ≤ n ∧ ∃ o, v = .slice (some ⟨b, o, none⟩) (n - j) (n - j) ∧ (n = j ∨ o = j)
theorem el70 : ElN scpE 70 9 0 15 := ⟨by kernel_rfl, by kernel_rfl, by kernel_rfl, .string .empty, by kernel_rfl, rfl⟩
theorem rest_next {g : Hp} {b n j : Nat} {v : Value} {cs : List Value} (hg : g.get b = some (.cells cs 9 0)) (R : RestV b n j v) (hj : j < n) : ∃ v', sliceX scpE g 70 v (some (.int .i64 1)) none none = some v' ∧ RestV b n (j + 1) v' := by
  obtain ⟨_, o, rfl, ho⟩ := R
  obtain rfl : o = j := by omega
  have h1 : natOf (.int .i64 1) = some 1 := rfl
  have hbo : boundsOk 1 (n - o) (n - o) = true := boundsOk_iff.2 ⟨by omega, by omega⟩
  by_cases e0 : n - o = 1
  · refine ⟨.slice (some ⟨b, o, none⟩) (n - o - 1) (n - o - 1), ?_, by omega, o, by rw [Nat.sub_sub], .inl (by omega)⟩
    have e2 : Nat.beq (n - o) 1 = true := (beq_iff _ _).2 e0
    simp only [sliceX, el70.und, el70.size, optNat, h1, modeOf, hg, hbo, e2, cond_true]
  refine ⟨.slice (some ⟨b, o + 1, none⟩) (n - o - 1) (n - o - 1), ?_, by omega, o + 1, by rw [Nat.sub_sub], .inr rfl⟩
  have e2 : Nat.beq (n - o) 1 = false := (beq_false _ _).2 e0
  simp only [sliceX, el70.und, el70.size, optNat, h1, modeOf, hg, hbo, e2, cond_true, cond_false, addr_add]
theorem first_at {ws : List ByteArray} {l : List UInt8} (hm : ws.map ByteArray.toList = segs l) {j : Nat} (hj : j < ws.length) : firstA ((segs l).drop j) = numA (ws[j]).toList := by
  rw [← hm, ← List.map_drop, List.drop_eq_getElem_cons hj]; rfl
theorem first_no {ws : List ByteArray} {l : List UInt8} (hm : ws.map ByteArray.toList = segs l) {j : Nat} (hj : ws.length ≤ j) : firstA ((segs l).drop j) = 0 := by
  rw [← hm, List.drop_eq_nil_of_le (by rw [List.length_map]; exact hj)]; rfl
theorem head_at {ws : List ByteArray} {l : List UInt8} (hm : ws.map ByteArray.toList = segs l) (hj : 0 < ws.length) : (segs l).headD [] = (ws[0]).toList := by
  rw [← hm]
  cases ws with
  | nil => simp at hj
  | cons a r => rfl
theorem fits_eq (k : Int) (p : List UInt8) {a c : Bool} (ha : a = decide ((segs p).headD [] = word k)) (hc : c = decide (lineE (readE k p) = p ++ [10])) : ((a && mayE (readE k p)) && c) = fitsP k p := by
  rw [fitsP, ha, hc, Bool.and_assoc]
theorem eqS_dec (a b : ByteArray) : eqS a b = decide (a.toList = b.toList) := by
  by_cases e : a.toList = b.toList
  · rw [decide_eq_true e, eqS, e]; simp
  rw [decide_eq_false e, eqS]
  simpa using e

theorem sameE (e : En) : sameV 20 (.agg (List.take 3 (List.drop 0 (enC e))).toArray) (.agg (List.take 3 (List.drop 0 (enC e))).toArray) = true := by
  simp [sameV, sameV.sameL]
  rfl
theorem hd_dec {ws : List ByteArray} {l : List UInt8} {k : Int} (hm : ws.map ByteArray.toList = segs l) (hj : 0 < ws.length) : eqS ws[0] (wordB k) = decide ((segs l).headD [] = word k) := by
  rw [eqS_dec, head_at hm hj, wordB_tl]
theorem ln_dec {B p : ByteArray} {e : En} (hB : B.toList = lineE e) : eqS B (p ++ ⟨#[10]⟩) = decide (lineE e = p.toList ++ [10]) := by
  rw [eqS_dec, hB, tl_app]
  congr 3
  exact tl_lit [10]

section
variable {h : Hp} {p : ByteArray} {k : Int} {fv : Value}
set_option maxHeartbeats 1000000 in
/-- read -/
theorem c19 (LO : LibOk h) (hp : p.size ≤ 100000) (_hfc : cellV fv = true) : C scpE 19 [.string p, iV k, .agg #[.string (wordB k), .bool (hasAt k), .bool (Scr.hasN k), fv]] h fun v h' => v = .tuple #[enV (readE k p.toList), .bool (fitsP k p.toList)] ∧ Ext h h' := by
  refine c_enterH (fu := Tryz.f19) (by kernel_rfl) rfl ?_
  have S := SH.start h
  refine w_seq ?_
  refine w_region (by kernel_rfl) ?_
  refine s_box S gn rfl rfl fun b1 g nb1 S => ?_
  refine s_alloc (zv := .agg #[.int .i64 0, .int .i64 0, .int .i64 0]) S gn rfl (by kernel_rfl) fun b2 g nb2 S => ?_
  refine o_assign gn rfl rfl ?_
  refine wl_end ?_
  refine w_seq ?_
  refine w_region (by kernel_rfl) ?_
  refine o_move gn rfl rfl ?_
  refine o_build (zv := .agg #[.int .i64 0, .int .i64 0, .int .i64 0]) (pl := [(0, 1), (1, 1), (2, 1)]) [(0, _)] gn rfl (by kernel_rfl) (by kernel_rfl) rfl (by rfl) ?_
  refine s_alloc (zv := .agg #[.int .i64 0, .int .i64 0, .int .i64 0]) S gn rfl (by kernel_rfl) fun b3 g nb3 S => ?_
  first | refine s_storeA (n := 3) 0 S gn rfl rfl (by kernel_rfl) (by kernel_rfl) rfl rfl (by decide) rfl (fun g S => ag0) fun g S => ?_ | refine s_storeA (n := 3) 1 S gn rfl rfl (by kernel_rfl) (by kernel_rfl) rfl rfl (by decide) rfl (fun g S => ag0) fun g S => ?_ | refine s_storeA (n := 3) 2 S gn rfl rfl (by kernel_rfl) (by kernel_rfl) rfl rfl (by decide) rfl (fun g S => ag0) fun g S => ?_ | refine s_storeA (n := 3) 3 S gn rfl rfl (by kernel_rfl) (by kernel_rfl) rfl rfl (by decide) rfl (fun g S => ag0) fun g S => ?_ | refine s_storeA (n := 3) 4 S gn rfl rfl (by kernel_rfl) (by kernel_rfl) rfl rfl (by decide) rfl (fun g S => ag0) fun g S => ?_
  refine wl_end ?_
  refine w_seq ?_
  refine w_region (by kernel_rfl) ?_
  refine o_move gn rfl rfl ?_
  obtain ⟨ws, b4, hb4, hsp, hseg, hn0, hws⟩ := split_at (LO.ext S.e0) (show p.size ≤ 1000000 by omega)
  refine o_sm [_, _] gn rfl rfl (by kernel_rfl) (by kernel_rfl) sm33 rfl hsp (KD.alloc _ _) ag0 ?_
  have S := S.alloc (.cells (srV ws) 9 0)
  rw [← hb4] at S
  have hw0 : (srV ws)[0 + Int.toNat 0 * 1]? = some (.string ws[0]) := by show (srV ws)[0]? = _; rw [List.getElem?_map, List.getElem?_eq_getElem hn0]; rfl
  refine o_assign gn rfl rfl ?_
  refine wl_end ?_
  refine w_seq ?_
  refine w_region (by kernel_rfl) ?_
  refine o_move gn rfl rfl ?_
  obtain ⟨v3, hs3, R3⟩ := rest_next (n := ws.length) (j := 0) (S.cel 0 rfl) ⟨Nat.zero_le _, 0, rfl, .inr rfl⟩ hn0
  refine o_sliceF gn rfl rfl rfl hs3 ?_
  refine o_assign gn rfl rfl ?_
  refine wl_end ?_
  obtain ⟨hle3, o3, rfl, ho3⟩ := R3
  refine w_cutS [(0, .string p), (5, ptrV b1), (6, ptrV b2), (8, ptrV b3), (9, .slice (some ⟨b4, 0, none⟩) ws.length ws.length)] (fun lv hh => ∃ v1, lv = [(10, v1)] ∧ RestV b4 ws.length (if hasAt k = true ∧ 1 < ws.length then 2 else 1) v1 ∧ SH h [] [cR b4 (.cells (srV ws) 9 0), cR b3 (.cells [iV k, iV (if hasAt k = true then firstA ((segs p.toList).drop 1) else 0), iV 0] 27 0), cR b2 (.cells [iV 0, iV 0, iV 0] 27 0), cR b1 (.cells [.string (wordB k), .bool (hasAt k), .bool (Scr.hasN k), fv] 40 0)] hh) ?_ fun lv hh hJ => ?_
  · skip
    refine w_seq ?_
    refine w_region (by kernel_rfl) ?_
    refine o_fieldAddr (off := 1) gn rfl rfl (by kernel_rfl) ?_
    refine o_load gn rfl rfl (by kernel_rfl) (by first | exact S.cel 0 rfl | exact S.cel 1 rfl | exact S.cel 2 rfl | exact S.cel 3 rfl | exact S.cel 4 rfl) rfl ?_
    refine o_move gn rfl rfl ?_
    refine o_and (n := 3) rfl rfl rfl gn rfl (fun hb => by
        refine o_move (gy rfl rfl rfl hb) rfl rfl ?_
        refine o_len (gy rfl rfl rfl hb) rfl rfl (by kernel_rfl) ?_
        refine o_gtr (gy rfl rfl rfl hb) rfl rfl rfl ?_
        exact wl_end ⟨rfl, rfl, 3, rfl, rfl⟩) ?_
    refine wl_end ?_
    refine w_cond rfl (fun hb => ?_) fun hb => ?_
    · skip
      refine w_seq ?_
      refine w_region (by kernel_rfl) ?_
      refine o_move gn rfl rfl ?_
      have hbA : hasAt k = true ∧ 1 < ws.length := by
        simp only [Bool.and_eq_true, decide_eq_true_eq] at hb
        exact ⟨hb.1, by omega⟩
      obtain rfl : o3 = 1 := by omega
      have hw1 : (srV ws)[1 + Int.toNat 0 * 1]? = some (.string (ws[1]'hbA.2)) := by show (srV ws)[1]? = _; rw [List.getElem?_map, List.getElem?_eq_getElem hbA.2]; rfl
      have hz := hws _ (List.getElem_mem hbA.2)
      refine o_indexAddr (zz := 1) gn rfl rfl rfl (by kernel_rfl) (by omega) (by omega) ?_
      refine o_load gn rfl rfl (by kernel_rfl) (S.cel 0 rfl) hw1 ?_
      refine o_sm [_] gn rfl rfl (by kernel_rfl) (by kernel_rfl) sm34 rfl (atoi_at (LO.ext S.e0) hz) (.refl _) ag0 ?_
      refine o_move gn rfl rfl ?_
      refine o_extract gn rfl rfl rfl ?_
      refine o_extract gn rfl rfl rfl ?_
      refine o_fieldAddr (off := 1) gn rfl rfl (by kernel_rfl) ?_
      refine s_store 1 S gn rfl rfl rfl (by kernel_rfl) rfl (by decide) (show 1 < 3 by decide) (fun g S => ag0) fun g S => ?_
      refine wl_end ?_
      refine w_region (by kernel_rfl) ?_
      refine o_move gn rfl rfl ?_
      obtain ⟨v5, hs5, R5⟩ := rest_next (n := ws.length) (j := 1) (S.cel 0 rfl) ⟨by omega, 1, rfl, .inr rfl⟩ hbA.2
      refine o_sliceF gn rfl rfl rfl hs5 ?_
      refine o_assign gn rfl rfl ?_
      refine wl_end ?_
      exact cutS [(10, _)] (by repeat (first | exact trivial | refine ⟨rfl, ?_⟩)) ⟨v5, rfl, by rw [if_pos hbA]; exact R5, by rw [if_pos hbA.1, first_at hseg hbA.2]; exact S⟩
    refine w_skip ?_
    exact cutS [(10, _)] (by repeat (first | exact trivial | refine ⟨rfl, ?_⟩)) ⟨_, rfl, by
      rw [if_neg (by
        rintro ⟨e1, e2⟩
        rw [e1, Bool.true_and, decide_eq_false_iff_not] at hb
        exact hb (by omega))]
      exact ⟨hle3, o3, rfl, ho3⟩, by
      by_cases hA : hasAt k = true
      · rw [hA, Bool.true_and, decide_eq_false_iff_not] at hb
        rw [if_pos hA, first_no hseg (by omega)]; exact S
      rw [if_neg hA]; exact S⟩
  obtain ⟨v1, rfl, ⟨hle5, o5, rfl, ho5⟩, S⟩ := hJ
  refine w_cutS [(0, .string p), (5, ptrV b1), (6, ptrV b2), (8, ptrV b3), (9, .slice (some ⟨b4, 0, none⟩) ws.length ws.length)] (fun lv hh => lv = [] ∧ SH h [] [cR b4 (.cells (srV ws) 9 0), cR b3 (.cells (enC (readE k p.toList)) 27 0), cR b2 (.cells [iV 0, iV 0, iV 0] 27 0), cR b1 (.cells [.string (wordB k), .bool (hasAt k), .bool (Scr.hasN k), fv] 40 0)] hh) ?_ fun lv hh hJ => ?_
  · skip
    refine w_seq ?_
    refine w_region (by kernel_rfl) ?_
    refine o_fieldAddr (off := 2) gn rfl rfl (by kernel_rfl) ?_
    refine o_load gn rfl rfl (by kernel_rfl) (by first | exact S.cel 0 rfl | exact S.cel 1 rfl | exact S.cel 2 rfl | exact S.cel 3 rfl | exact S.cel 4 rfl) rfl ?_
    refine o_move gn rfl rfl ?_
    refine o_and (n := 3) rfl rfl rfl gn rfl (fun hb => by
        refine o_move (gy rfl rfl rfl hb) rfl rfl ?_
        refine o_len (gy rfl rfl rfl hb) rfl rfl (by kernel_rfl) ?_
        refine o_gtr (gy rfl rfl rfl hb) rfl rfl rfl ?_
        exact wl_end ⟨rfl, rfl, 3, rfl, rfl⟩) ?_
    refine wl_end ?_
    refine w_cond rfl (fun hb => ?_) fun hb => ?_
    · skip
      refine w_region (by kernel_rfl) ?_
      refine o_move gn rfl rfl ?_
      have hbN : Scr.hasN k = true ∧ (if hasAt k = true ∧ 1 < ws.length then 2 else 1) < ws.length := by
        simp only [Bool.and_eq_true, decide_eq_true_eq] at hb
        exact ⟨hb.1, by omega⟩
      obtain ⟨jj, hjj⟩ : ∃ jj, jj = (if hasAt k = true ∧ 1 < ws.length then 2 else 1) := ⟨_, rfl⟩
      rw [← hjj] at hbN ho5
      obtain rfl : o5 = jj := by omega
      have hw1 : (srV ws)[o5 + Int.toNat 0 * 1]? = some (.string (ws[o5]'hbN.2)) := by show (srV ws)[o5]? = _; rw [List.getElem?_map, List.getElem?_eq_getElem hbN.2]; rfl
      have hz := hws _ (List.getElem_mem hbN.2)
      have hR : numA (ws[o5]'hbN.2).toList = (readE k p.toList).N := by
        show _ = (if Scr.hasN k = true then firstA (if hasAt k = true then (segs p.toList).drop 2 else (segs p.toList).drop 1) else 0)
        rw [if_pos hbN.1, ← first_at hseg hbN.2, hjj]
        by_cases hA : hasAt k = true
        · rw [if_pos hA]
          by_cases h1 : 1 < ws.length
          · rw [if_pos ⟨hA, h1⟩]
          have := hbN.2; rw [hjj, if_neg (fun e => h1 e.2)] at this; omega
        rw [if_neg hA, if_neg (fun e => hA e.1)]
      refine o_indexAddr (zz := 1) gn rfl rfl rfl (by kernel_rfl) (by omega) (by omega) ?_
      refine o_load gn rfl rfl (by kernel_rfl) (S.cel 0 rfl) hw1 ?_
      refine o_sm [_, _, _] gn rfl rfl (by kernel_rfl) (by kernel_rfl) sm35 rfl (parse_at (LO.ext S.e0) hz) (.refl _) ag0 ?_
      refine o_move gn rfl rfl ?_
      refine o_extract gn rfl rfl rfl ?_
      refine o_extract gn rfl rfl rfl ?_
      refine o_fieldAddr (off := 2) gn rfl rfl (by kernel_rfl) ?_
      refine s_store 1 S gn rfl rfl rfl (by kernel_rfl) rfl (by decide) (show 2 < 3 by decide) (fun g S => ag0) fun g S => ?_
      rw [hR] at S
      refine wl_end ?_
      exact cutS [] (by repeat (first | exact trivial | refine ⟨rfl, ?_⟩)) ⟨rfl, S⟩
    refine w_skip ?_
    exact cutS [] (by repeat (first | exact trivial | refine ⟨rfl, ?_⟩)) ⟨rfl, by
      have e0 : (readE k p.toList).N = 0 := by
        show (if Scr.hasN k = true then firstA (if hasAt k = true then (segs p.toList).drop 2 else (segs p.toList).drop 1) else 0) = 0
        by_cases hN : Scr.hasN k = true
        · rw [hN, Bool.true_and, decide_eq_false_iff_not] at hb
          rw [if_pos hN]
          by_cases hA : hasAt k = true
          · rw [if_pos hA]
            by_cases h1 : 1 < ws.length
            · rw [if_pos ⟨hA, h1⟩] at hb; exact first_no hseg (by omega)
            exact first_no hseg (by omega)
          rw [if_neg hA]
          rw [if_neg (fun e => hA e.1)] at hb; exact first_no hseg (by omega)
        rw [if_neg hN]
      rw [show enC (readE k p.toList) = [iV k, iV (if hasAt k = true then firstA ((segs p.toList).drop 1) else 0), iV 0] by rw [enC, e0]; rfl]
      exact S⟩
  obtain ⟨rfl, S⟩ := hJ
  refine w_seq ?_
  refine w_draw [(0, []), (1, []), (2, []), (3, []), (4, []), (5, []), (6, []), (7, []), (8, []), (9, [0]), (10, []), (11, []), (12, []), (14, []), (15, []), (13, [0, 15]), (16, []), (17, []), (18, [15, 16]), (19, [])] (by kernel_rfl) (by kernel_rfl) (by kernel_rfl) (by kernel_rfl) ?_
  refine o_loadA (n := 3) gn rfl rfl (by kernel_rfl) (by kernel_rfl) (by first | exact S.cel 0 rfl | exact S.cel 1 rfl | exact S.cel 2 rfl | exact S.cel 3 rfl | exact S.cel 4 rfl) (by first | decide | exact Nat.le_refl _ | (simp; done)) ?_
  refine o_move gn rfl rfl ?_
  refine o_indexAddr (zz := 1) gn rfl rfl rfl (by kernel_rfl) (by omega) (by omega) ?_
  refine o_load gn rfl rfl (by kernel_rfl) (S.cel 0 rfl) hw0 ?_
  refine o_fieldAddr (off := 0) gn rfl rfl (by kernel_rfl) ?_
  refine o_load gn rfl rfl (by kernel_rfl) (by first | exact S.cel 0 rfl | exact S.cel 1 rfl | exact S.cel 2 rfl | exact S.cel 3 rfl | exact S.cel 4 rfl) rfl ?_
  refine o_eqS gn rfl rfl rfl ?_
  refine o_move gn rfl rfl ?_
  refine wl_split (dc := 56) rfl (fun hb56 => ?_) fun hb56 => ?_
  · skip
    refine o_loadA (n := 3) (gy rfl rfl rfl hb56) rfl rfl (by kernel_rfl) (by kernel_rfl) (by first | exact S.cel 0 rfl | exact S.cel 1 rfl | exact S.cel 2 rfl | exact S.cel 3 rfl | exact S.cel 4 rfl) (by first | decide | exact Nat.le_refl _ | (simp; done)) ?_
    refine o_call [_] (gy rfl rfl rfl hb56) rfl rfl (by kernel_rfl) rfl (C.mono (c6 (e := readE k p.toList)) ?_)
    rintro v g ⟨rfl, x⟩
    have S := S.grow x
    refine ⟨(ag1 (ag_loadA (n := 3) gn rfl (by kernel_rfl) (by kernel_rfl) (by first | exact S.cel 0 rfl | exact S.cel 1 rfl | exact S.cel 2 rfl | exact S.cel 3 rfl | exact S.cel 4 rfl) (by first | decide | exact Nat.le_refl _ | (simp; done)) rfl (sameE _)) ag0), ?_⟩
    refine o_pickt gn rfl rfl hb56 rfl ?_
    refine o_move gn rfl rfl ?_
    refine wl_split (dc := 60) rfl (fun hb60 => ?_) fun hb60 => ?_
    · skip
      refine o_loadA (n := 3) (gy rfl rfl rfl hb60) rfl rfl (by kernel_rfl) (by kernel_rfl) (by first | exact S.cel 0 rfl | exact S.cel 1 rfl | exact S.cel 2 rfl | exact S.cel 3 rfl | exact S.cel 4 rfl) (by first | decide | exact Nat.le_refl _ | (simp; done)) ?_
      refine o_move (gy rfl rfl rfl hb60) rfl rfl ?_
      refine o_addS (gy rfl rfl rfl hb60) rfl rfl rfl (by have e1 : (⟨#[10]⟩ : ByteArray).size = 1 := rfl; omega) ?_
      refine o_call [_] (gy rfl rfl rfl hb60) rfl rfl (by kernel_rfl) rfl (C.mono (c15 (e := readE k p.toList) (LO.pow.ext S.e0) (read_in _ _)) ?_)
      rintro v g ⟨⟨B, rfl, hB⟩, x⟩
      have S := S.grow x
      refine ⟨(ag1 (ag_loadA (n := 3) gn rfl (by kernel_rfl) (by kernel_rfl) (by first | exact S.cel 0 rfl | exact S.cel 1 rfl | exact S.cel 2 rfl | exact S.cel 3 rfl | exact S.cel 4 rfl) (by first | decide | exact Nat.le_refl _ | (simp; done)) rfl (sameE _)) (ag1 (ag_addS (gy rfl rfl rfl hb60) rfl rfl (by have e1 : (⟨#[10]⟩ : ByteArray).size = 1 := rfl; omega) rfl) ag0)), ?_⟩
      refine o_eqS (gy rfl rfl rfl hb60) rfl rfl rfl ?_
      refine o_pickt gn rfl rfl hb60 rfl ?_
      refine s_storeA (n := 3) 2 S gn rfl rfl (by kernel_rfl) (by kernel_rfl) rfl rfl (by decide) rfl (fun g S => (ag1 (ag_addS (gy rfl rfl rfl hb60) rfl rfl (by have e1 : (⟨#[10]⟩ : ByteArray).size = 1 := rfl; omega) rfl) (ag1 (ag_eqS (gy rfl rfl rfl hb60) rfl rfl rfl) ag0))) fun g S => ?_
      refine o_assign gn rfl rfl ?_
      refine wl_end ?_
      refine w_ret ?_
      refine ⟨.inl rfl, _, (resH_agg rfl (by kernel_rfl) (by kernel_rfl) (S.cel 2 rfl) rfl (resH_tmp rfl rfl)), ?_⟩
      exact ⟨(by rw [← fits_eq k p.toList (hd_dec hseg hn0) rfl, ← ln_dec hB, hb56, hb60]; rfl), S.e0⟩ -- YY
    refine wl_skips (n := 5) (dc := 60) (w := true) rfl hb60 rfl ?_
    refine o_pickf gn rfl rfl hb60 rfl ?_
    refine s_storeA (n := 3) 2 S gn rfl rfl (by kernel_rfl) (by kernel_rfl) rfl rfl (by decide) rfl (fun g S => (ag1 (.inl (ng rfl rfl rfl hb60)) (ag1 (.inl (ng rfl rfl rfl hb60)) ag0))) fun g S => ?_
    refine o_assign gn rfl rfl ?_
    refine wl_end ?_
    refine w_ret ?_
    refine ⟨.inl rfl, _, (resH_agg rfl (by kernel_rfl) (by kernel_rfl) (S.cel 2 rfl) rfl (resH_tmp rfl rfl)), ?_⟩
    exact ⟨(by rw [← fits_eq k p.toList (hd_dec hseg hn0) rfl, hb56, hb60]; rfl), S.e0⟩ -- YN
  refine wl_skips (n := 2) (dc := 56) (w := true) rfl hb56 rfl ?_
  refine o_pickf gn rfl rfl hb56 rfl ?_
  refine o_move gn rfl rfl ?_
  refine wl_split (dc := 60) rfl (fun hb60 => ?_) fun hb60 => ?_
  · skip
    refine o_loadA (n := 3) (gy rfl rfl rfl hb60) rfl rfl (by kernel_rfl) (by kernel_rfl) (by first | exact S.cel 0 rfl | exact S.cel 1 rfl | exact S.cel 2 rfl | exact S.cel 3 rfl | exact S.cel 4 rfl) (by first | decide | exact Nat.le_refl _ | (simp; done)) ?_
    refine o_move (gy rfl rfl rfl hb60) rfl rfl ?_
    refine o_addS (gy rfl rfl rfl hb60) rfl rfl rfl (by have e1 : (⟨#[10]⟩ : ByteArray).size = 1 := rfl; omega) ?_
    refine o_call [_] (gy rfl rfl rfl hb60) rfl rfl (by kernel_rfl) rfl (C.mono (c15 (e := readE k p.toList) (LO.pow.ext S.e0) (read_in _ _)) ?_)
    rintro v g ⟨⟨B, rfl, hB⟩, x⟩
    have S := S.grow x
    refine ⟨(ag1 (ag_loadA (n := 3) gn rfl (by kernel_rfl) (by kernel_rfl) (by first | exact S.cel 0 rfl | exact S.cel 1 rfl | exact S.cel 2 rfl | exact S.cel 3 rfl | exact S.cel 4 rfl) (by first | decide | exact Nat.le_refl _ | (simp; done)) rfl (sameE _)) (ag1 (ag_addS (gy rfl rfl rfl hb60) rfl rfl (by have e1 : (⟨#[10]⟩ : ByteArray).size = 1 := rfl; omega) rfl) ag0)), ?_⟩
    refine o_eqS (gy rfl rfl rfl hb60) rfl rfl rfl ?_
    refine o_pickt gn rfl rfl hb60 rfl ?_
    refine s_storeA (n := 3) 2 S gn rfl rfl (by kernel_rfl) (by kernel_rfl) rfl rfl (by decide) rfl (fun g S => (ag1 (ag_addS (gy rfl rfl rfl hb60) rfl rfl (by have e1 : (⟨#[10]⟩ : ByteArray).size = 1 := rfl; omega) rfl) (ag1 (ag_eqS (gy rfl rfl rfl hb60) rfl rfl rfl) ag0))) fun g S => ?_
    refine o_assign gn rfl rfl ?_
    refine wl_end ?_
    refine w_ret ?_
    refine ⟨.inl rfl, _, (resH_agg rfl (by kernel_rfl) (by kernel_rfl) (S.cel 2 rfl) rfl (resH_tmp rfl rfl)), ?_⟩
    exact absurd hb60 (by simp)
  refine wl_skips (n := 5) (dc := 60) (w := true) rfl hb60 rfl ?_
  refine o_pickf gn rfl rfl hb60 rfl ?_
  refine s_storeA (n := 3) 2 S gn rfl rfl (by kernel_rfl) (by kernel_rfl) rfl rfl (by decide) rfl (fun g S => (ag1 (.inl (ng rfl rfl rfl hb60)) (ag1 (.inl (ng rfl rfl rfl hb60)) ag0))) fun g S => ?_
  refine o_assign gn rfl rfl ?_
  refine wl_end ?_
  refine w_ret ?_
  refine ⟨.inl rfl, _, (resH_agg rfl (by kernel_rfl) (by kernel_rfl) (S.cel 2 rfl) rfl (resH_tmp rfl rfl)), ?_⟩
  exact ⟨(by rw [← fits_eq k p.toList (hd_dec hseg hn0) rfl, hb56, Bool.false_and, Bool.false_and]; rfl), S.e0⟩ -- NN
end
end Go.Proofs.YtdgemlcdhobejaaGreatDoor

namespace Go.Proofs.YtdgemlcdhobejaaGreatDoor
open Go.X Go.Scr Go.Lib

theorem pre_ch (c b : UInt8) (l : List UInt8) : [c].isPrefixOf (b :: l) = (c == b) := by
  simp [List.isPrefixOf]
theorem index_ch (c : UInt8) : ∀ (s : List UInt8), (index s [c] = -1 ∧ c ∉ s) ∨ ∃ p t, s = p ++ c :: t ∧ c ∉ p ∧ index s [c] = p.length
  | [] => .inl ⟨by simp [index], by simp⟩
  | b :: l => by
    by_cases e : b = c
    · subst e
      exact .inr ⟨[], l, rfl, by simp, by simp [index]⟩
    have hp : [c].isPrefixOf (b :: l) = false := by
      rw [pre_ch]
      cases h : (c == b) with
      | false => rfl
      | true => exact absurd (eq_of_beq h).symm e
    rcases index_ch c l with ⟨h1, h2⟩ | ⟨p, t, h1, h2, h3⟩
    · left
      refine ⟨?_, ?_⟩
      · simp only [index, hp, h1]
        simp
      intro hm
      rcases List.mem_cons.1 hm with h | h
      · exact e h.symm
      exact h2 h
    right
    refine ⟨b :: p, t, by rw [h1]; rfl, ?_, ?_⟩
    · intro hm
      rcases List.mem_cons.1 hm with h | h
      · exact e h.symm
      exact h2 h
    simp only [index, hp, h3]
    rw [if_neg (by simp), if_neg (by simp)]
    simp
theorem cut_nl (s : List UInt8) : (Lib.cut s [10] = (s, [], false) ∧ (10 : UInt8) ∉ s) ∨ ∃ p t, s = p ++ 10 :: t ∧ (10 : UInt8) ∉ p ∧ Lib.cut s [10] = (p, t, true) := by
  rcases index_ch 10 s with ⟨h1, h2⟩ | ⟨p, t, h1, h2, h3⟩
  · exact .inl ⟨by rw [Lib.cut, h1, if_neg (by omega)], h2⟩
  refine .inr ⟨p, t, h1, h2, ?_⟩
  rw [Lib.cut, h3, if_pos (by omega)]
  have e1 : ((p.length : Int).toNat) = p.length := by omega
  have e2 : (p.length + [(10 : UInt8)].length) = p.length + 1 := by simp
  rw [e1, e2, h1, List.take_left' rfl]
  congr 2
  rw [List.drop_append]; simp
theorem cutl_at {g : Hp} (L : LibOk g) {s1 : ByteArray} (hs : s1.size ≤ 1000000) : ∃ P T is, cutX 0 [.string s1, .string ⟨#[10]⟩] g = some (.tuple #[.string P, .string T, .bool is], g) ∧ ((is = false ∧ P.toList = s1.toList ∧ (10 : UInt8) ∉ s1.toList) ∨ (is = true ∧ s1.toList = P.toList ++ 10 :: T.toList ∧ (10 : UInt8) ∉ P.toList)) := by
  refine ⟨⟨(Lib.cut s1.data.toList [10]).1.toArray⟩, ⟨(Lib.cut s1.data.toList [10]).2.1.toArray⟩, (Lib.cut s1.data.toList [10]).2.2, ?_, ?_⟩
  · simp only [cutX, L.max, Bool.true_and, decide_eq_true (show s1.size < 4294967281 by omega), cond_true]
  simp only [ByteArray.toList_eq]
  rcases cut_nl s1.data.toList with ⟨h1, h2⟩ | ⟨p, t, h1, h2, h3⟩
  · exact .inl ⟨by rw [h1], by rw [h1], h2⟩
  refine .inr ⟨by rw [h3], ?_, ?_⟩
  · rw [h3]; exact h1
  rw [h3]; exact h2
abbrev enCs (L : List En) : List Value := L.flatMap enC
theorem enCs_len : ∀ L : List En, (enCs L).length = L.length * 3
  | [] => rfl
  | e :: L => by
    have := enCs_len L
    simp only [enCs, List.flatMap_cons, List.length_append, List.length_cons, List.length_nil] at *
    omega
theorem enCs_at : ∀ (L : List En) (i : Nat) (hi : i < L.length) (r : List Value), ((enCs L ++ r).drop (i * 3)).take 3 = enC L[i]
  | e :: L, 0, hi, r => by simp [enCs, enC]
  | e :: L, i + 1, hi, r => by
    have := enCs_at L i (by simpa using hi) r
    have e1 : (i + 1) * 3 = i * 3 + 1 + 1 + 1 := by omega
    rw [e1]
    simpa [enCs, enC] using this
theorem SlC.en {h : Hp} {v : Value} {L : List En} {n : Nat} {bs : List Nat} (x : SlC 27 2 h v (enCs L) n bs) : EnAt h v L := by
  rcases x with ⟨h1, h2, h3, _⟩ | ⟨b, m, c, rest, h1, h2, _, h4, _, h5, h6, h7⟩
  · have : L = [] := by
      cases L with
      | nil => rfl
      | cons e L => simp [enCs] at h2
    exact .inl ⟨this, none, 0, h1⟩
  have hl := enCs_len L
  have hn : n = L.length := by omega
  subst hn
  exact .inr ⟨b, 0, c, _, 27, m, h1, h2, h4, by rw [List.length_append, hl]; omega, fun i hi => by rw [Nat.zero_add]; exact enCs_at L i hi rest⟩
theorem lines_len : ∀ L : List En, L.length ≤ (linesE L).length
  | [] => Nat.zero_le _
  | e :: L => by
    have := lines_len L
    rw [lines_cons, List.length_append, List.length_cons, List.length_cons]
    omega
theorem enCs_add (L : List En) (e : En) : enCs L ++ enC e = enCs (L ++ [e]) := by simp [enCs]
theorem el22 : ElN scpE 22 27 2 23 := ⟨by kernel_rfl, by kernel_rfl, by kernel_rfl, .agg #[.int .i64 0, .int .i64 0, .int .i64 0], by kernel_rfl, rfl⟩
/-- What a text is read as. -/
def OfR (l : List UInt8) (L : List En) (k : Int) : Prop := (k = 0 ∧ AllE L ∧ linesE L = l) ∨ (k = 12 ∧ L = [] ∧ ∀ M, AllE M → linesE M ≠ l)
def OfAt (h : Hp) (l : List UInt8) (v : Value) : Prop := ∃ sl L k, v = .tuple #[sl, iV k] ∧ EnAt h sl L ∧ OfR l L k
theorem ofR_eq {l : List UInt8} {L M : List En} {k j : Int} (x : OfR l L k) (y : OfR l M j) : k = j ∧ L = M := by
  rcases x with ⟨h1, h2, h3⟩ | ⟨h1, h2, h3⟩
  · rcases y with ⟨g1, g2, g3⟩ | ⟨g1, g2, g3⟩
    · exact ⟨by omega, lines_inj h2 g2 (h3.trans g3.symm)⟩
    exact absurd h3 (g3 L h2)
  rcases y with ⟨g1, g2, g3⟩ | ⟨g1, g2, g3⟩
  · exact absurd g3 (h3 M g2)
  exact ⟨by omega, h2.trans g2.symm⟩
theorem ofR_len {l : List UInt8} {L : List En} {k : Int} (x : OfR l L k) : L.length ≤ l.length := by
  rcases x with ⟨h1, h2, h3⟩ | ⟨h1, h2, h3⟩
  · rw [← h3]; exact lines_len L
  rw [h2]; exact Nat.zero_le _

section
variable {h : Hp} {s : ByteArray}
set_option maxHeartbeats 1000000 in
/-- Of -/
theorem c10 (LO : LibOk h) (hs : s.size ≤ 10000) : C scpE 10 [.string s] h fun v h' => OfAt h' s.toList v ∧ Ext h h' := by
  refine c_enter (fu := Tryz.f10) (by kernel_rfl) rfl ?_
  have S := SH.start h
  refine w_seq ?_
  refine w_region (by kernel_rfl) ?_
  refine o_assign gn rfl rfl ?_
  refine o_assign gn rfl rfl ?_
  refine wl_end ?_
  refine w_scope ?_
  refine w_seq ?_
  refine w_region (by kernel_rfl) ?_
  refine o_assign gn rfl rfl ?_
  refine wl_end ?_
  refine w_seq ?_
  refine w_region (by kernel_rfl) ?_
  refine s_fresh [0] S gn rfl (by kernel_rfl) (by kernel_rfl) sm13 forms_v forms_l (fun _ => by kernel_rfl) (by decide) (fun n g nn S => ag0) fun n1 g nn1 S => ?_
  refine o_assign gn rfl rfl ?_
  refine wl_end ?_
  refine w_seq ?_
  refine w_label ?_
  refine w_seq ?_
  refine w_block ?_
  refine w_loopS [(0, _), (4, _)] [(5, _)] (by repeat (first | exact trivial | refine ⟨rfl, ?_⟩)) (fun kk lv hh => ∃ (s1 : ByteArray) (L : List En) (v : Value) (bs : List Nat), lv = [(0, .string s1), (4, v)] ∧ kk = s1.size ∧ SH h [] [slR 27 2 v (enCs L) L.length bs, cR (n1 + 0) (.map ((formsM n1).map (entK fun k => Value.int .i64 k)) 5)] hh ∧ AllE L ∧ linesE L ++ s1.toList = s.toList) (n := (s.size)) ?_ fun kk lv hh hI => ?_
  · exact ⟨s, [], .slice none 0 0, [], rfl, rfl, S.nilSl 27 2, fun _ hm => absurd hm (by simp), rfl⟩
  obtain ⟨s1, L, v, bs, rfl, rfl, S, hL, hls⟩ := hI
  refine w_seq ?_
  refine w_seq ?_
  refine w_region (by kernel_rfl) ?_
  refine o_move gn rfl rfl ?_
  refine o_neS gn rfl rfl rfl ?_
  refine wl_end ?_
  refine w_cond rfl (fun hb => ?_) fun hb => ?_
  · skip
    have hne := hb
    have hz0 : s1.size ≤ 10000 := by
      have := congrArg List.length hls
      rw [List.length_append, ← size_toList, ← size_toList] at this; omega
    have hz1 : L.length ≤ 10000 := by
      have := congrArg List.length hls
      have h2 := lines_len L
      rw [List.length_append, ← size_toList] at this; rw [size_toList] at hs; omega
    obtain ⟨P, T, is, hcut, hcc⟩ := cutl_at (LO.ext S.e0) (show s1.size ≤ 1000000 by omega)
    have hP : P.size ≤ 100000 := by
      rcases hcc with ⟨_, h1, _⟩ | ⟨_, h1, _⟩
      · rw [size_toList, h1, ← size_toList]; omega
      have := congrArg List.length h1
      rw [List.length_append, ← size_toList, ← size_toList] at this; omega
    refine w_skip ?_
    refine w_block ?_
    refine w_seq ?_
    refine w_region (by kernel_rfl) ?_
    refine o_move gn rfl rfl ?_
    refine o_sm [_, _] gn rfl rfl (by kernel_rfl) (by kernel_rfl) sm18 rfl hcut (.refl _) ag0 ?_
    refine o_move gn rfl rfl ?_
    refine o_extract gn rfl rfl rfl ?_
    refine o_extract gn rfl rfl rfl ?_
    refine o_extract gn rfl rfl rfl ?_
    refine o_assign gn rfl rfl ?_
    refine o_assign gn rfl rfl ?_
    refine o_assign gn rfl rfl ?_
    refine wl_end ?_
    refine w_seq ?_
    refine w_region (by kernel_rfl) ?_
    refine o_move gn rfl rfl ?_
    refine o_assign gn rfl rfl ?_
    refine wl_end ?_
    refine w_seq ?_
    refine w_seq ?_
    refine w_region (by kernel_rfl) ?_
    refine o_assign gn rfl rfl ?_
    refine wl_end ?_
    refine w_block ?_
    refine w_loopS [(4, _), (9, _)] [(0, _), (5, _), (6, _), (8, _)] (by repeat (first | exact trivial | refine ⟨rfl, ?_⟩)) (fun kk lv hh => ∃ k : Nat, lv = [(4, v), (9, iV k)] ∧ kk = 6 - k ∧ 1 ≤ k ∧ k ≤ 6 ∧ SH h [] [slR 27 2 v (enCs L) L.length bs, cR (n1 + 0) (.map ((formsM n1).map (entK fun k => Value.int .i64 k)) 5)] hh ∧ ∀ j : Nat, 1 ≤ j → j < k → fitsP j P.toList = false) (n := 5) ?_ fun kk lv hh hI => ?_
    · exact ⟨1, rfl, rfl, Nat.le_refl _, by omega, S, fun j h1 h2 => by omega⟩
    obtain ⟨k, rfl, rfl, hk1, hk6, S, hno⟩ := hI
    refine w_seq ?_
    refine w_seq ?_
    refine w_region (by kernel_rfl) ?_
    refine o_move gn rfl rfl ?_
    refine o_leq gn rfl rfl rfl ?_
    refine o_move gn rfl rfl ?_
    refine o_and (B := is) (n := 1) rfl rfl rfl gn rfl (fun hb => by
        refine o_move (gy rfl rfl rfl hb) rfl rfl ?_
        exact wl_end ⟨rfl, rfl, 1, rfl, rfl⟩) ?_
    refine wl_end ?_
    refine w_cond rfl (fun hb => ?_) fun hb => ?_
    · skip
      refine w_skip ?_
      have hbk : k ≤ 5 ∧ is = true := by
        simp only [Bool.and_eq_true, decide_eq_true_eq] at hb
        exact ⟨by omega, hb.2⟩
      obtain ⟨fv, hfc, hfe, hfi⟩ := form_at n1 (k : Int)
      refine w_seq ?_
      refine w_block ?_
      refine w_seq ?_
      refine w_region (by kernel_rfl) ?_
      refine o_move gn rfl rfl ?_
      refine o_move gn rfl rfl ?_
      refine o_move gn rfl rfl ?_
      refine o_move gn rfl rfl ?_
      refine o_lookupK (zv := .agg #[.string .empty, .bool false, .bool false, .nilFunc]) key42 gn rfl rfl rfl (by first | exact S.cel 0 rfl | exact S.cel 1 rfl | exact S.cel 2 rfl | exact S.cel 3 rfl | exact S.cel 4 rfl | exact S.cel 5 rfl | exact S.cel 6 rfl | exact S.cel 7 rfl) (by kernel_rfl) ?_
      rw [hfe]
      refine o_call [_, _, _] gn rfl rfl (by kernel_rfl) rfl (C.mono (c19 (p := P) (k := (k : Int)) (LO.ext S.e0) hP hfc) ?_)
      rintro v g ⟨rfl, x⟩
      have S := S.grow x
      refine ⟨ag0, ?_⟩
      refine o_move gn rfl rfl ?_
      refine o_extract gn rfl rfl rfl ?_
      refine o_extract gn rfl rfl rfl ?_
      refine s_alloc (zv := .agg #[.int .i64 0, .int .i64 0, .int .i64 0]) S gn rfl (by kernel_rfl) fun b2 g nb2 S => ?_
      first | refine s_storeA (n := 3) 0 S gn rfl rfl (by kernel_rfl) (by kernel_rfl) rfl rfl (by decide) rfl (fun g S => ag0) fun g S => ?_ | refine s_storeA (n := 3) 1 S gn rfl rfl (by kernel_rfl) (by kernel_rfl) rfl rfl (by decide) rfl (fun g S => ag0) fun g S => ?_ | refine s_storeA (n := 3) 2 S gn rfl rfl (by kernel_rfl) (by kernel_rfl) rfl rfl (by decide) rfl (fun g S => ag0) fun g S => ?_ | refine s_storeA (n := 3) 3 S gn rfl rfl (by kernel_rfl) (by kernel_rfl) rfl rfl (by decide) rfl (fun g S => ag0) fun g S => ?_ | refine s_storeA (n := 3) 4 S gn rfl rfl (by kernel_rfl) (by kernel_rfl) rfl rfl (by decide) rfl (fun g S => ag0) fun g S => ?_ | refine s_storeA (n := 3) 5 S gn rfl rfl (by kernel_rfl) (by kernel_rfl) rfl rfl (by decide) rfl (fun g S => ag0) fun g S => ?_ | refine s_storeA (n := 3) 6 S gn rfl rfl (by kernel_rfl) (by kernel_rfl) rfl rfl (by decide) rfl (fun g S => ag0) fun g S => ?_ | refine s_storeA (n := 3) 7 S gn rfl rfl (by kernel_rfl) (by kernel_rfl) rfl rfl (by decide) rfl (fun g S => ag0) fun g S => ?_ | refine s_storeA (n := 3) 8 S gn rfl rfl (by kernel_rfl) (by kernel_rfl) rfl rfl (by decide) rfl (fun g S => ag0) fun g S => ?_
      refine o_assign gn rfl rfl ?_
      refine wl_end ?_
      refine w_seq ?_
      refine w_region (by kernel_rfl) ?_
      refine o_move gn rfl rfl ?_
      refine wl_end ?_
      refine w_cond rfl (fun hb => ?_) fun hb => ?_
      · skip
        refine w_seq ?_
        refine w_region (by kernel_rfl) ?_
        refine o_move gn rfl rfl ?_
        refine o_loadA (n := 3) gn rfl rfl (by kernel_rfl) (by kernel_rfl) (by first | exact S.cel 0 rfl | exact S.cel 1 rfl | exact S.cel 2 rfl | exact S.cel 3 rfl | exact S.cel 4 rfl | exact S.cel 5 rfl | exact S.cel 6 rfl | exact S.cel 7 rfl | exact S.cel 8 rfl) (by first | decide | exact Nat.le_refl _ | (simp; done)) ?_
        refine s_buildSlice (e := 27) (z := 2) (zv := .agg #[.int .i64 0, .int .i64 0, .int .i64 0]) [(0, _)] S gn rfl (by kernel_rfl) (by kernel_rfl) (by kernel_rfl) (by kernel_rfl) rfl (by rfl) fun b3 g nb3 S => ?_
        refine s_append (e := 27) (z := 2) (by' := 23) 2 0 S el22 gn rfl rfl rfl rfl rfl rfl (by rfl) (by omega) (fun s' bs' g S => ag0) fun s' bs' g S => ?_
        refine o_assign gn rfl rfl ?_
        refine wl_end ?_
        refine w_exit ?_
        refine blk_ne (by decide) ?_
        refine thn_exit ?_
        refine rnd_exit ?_
        refine blk_ne (by decide) ?_
        refine thn_exit ?_
        have hTs : T.size < s1.size := by
          rcases hcc with ⟨h1, _⟩ | ⟨_, h1, _⟩
          · rw [hbk.2] at h1; cases h1
          have := congrArg List.length h1
          rw [List.length_append, List.length_cons, ← size_toList, ← size_toList, ← size_toList] at this; omega
        refine blk_eq ?_
        exact rndS (T.size) (by omega) [(0, _), (4, _)] (by repeat (first | exact trivial | refine ⟨rfl, ?_⟩)) ⟨T, L ++ [readE k P.toList], s', bs', rfl, rfl, by rw [List.length_append, ← enCs_add]; exact S.drop.drop, by
          intro e he
          rcases List.mem_append.1 he with he | he
          · exact hL e he
          · rw [List.mem_singleton] at he; subst he
            exact ⟨(fits_is hb).1, (fits_is hb).2.1⟩, by
          rcases hcc with ⟨h1, _⟩ | ⟨_, h1, _⟩
          · rw [hbk.2] at h1; cases h1
          rw [lines_app, ← hls, h1]
          have e1 : linesE [readE k P.toList] = P.toList ++ [10] := by
            rw [lines_cons, (fits_is hb).2.2]; rfl
          rw [e1]; simp⟩
      refine w_skip ?_
      refine w_region (by kernel_rfl) ?_
      refine o_move gn rfl rfl ?_
      refine o_add gn rfl rfl rfl (by omega) (by omega) ?_
      refine o_assign gn rfl rfl ?_
      refine wl_end ?_
      exact rndS (6 - (k + 1)) (by omega) [(4, _), (9, _)] (by repeat (first | exact trivial | refine ⟨rfl, ?_⟩)) ⟨k + 1, rfl, rfl, by omega, by omega, S.drop, fun j h1 h2 => by
        by_cases e : j = k
        · subst e; exact hb
        exact hno j h1 (by omega)⟩
    refine w_exit ?_
    refine thn_exit ?_
    refine rnd_exit ?_
    refine blk_eq ?_
    refine w_seq ?_
    refine w_region (by kernel_rfl) ?_
    refine o_assign gn rfl rfl ?_
    refine o_assign gn rfl rfl ?_
    refine wl_end ?_
    refine w_ret ?_
    refine ⟨.inl rfl, _, rfl, ?_⟩
    exact ⟨⟨_, [], 12, rfl, .inl ⟨rfl, none, 0, rfl⟩, .inr ⟨rfl, rfl, fun M hM e => by
      rw [← hls] at e
      rcases hcc with ⟨h0, h1, h2⟩ | ⟨h0, h1, h2⟩
      · refine lines_last hL hM h2 (fun e0 => ?_) e.symm
        have h3 : (⟨#[]⟩ : ByteArray).toList = [] := tl_lit []
        rw [eqS_dec, e0, h3] at hne; simp at hne
      rw [h1] at e
      obtain ⟨x, M', rfl, hx, _⟩ := lines_next hL hM h2 e.symm
      have hx2 := hM x (by simp)
      have hr := (read_is hx2.1 hx2.2).2
      have hk5 : ¬ k ≤ 5 := fun h5 => by
        rw [h0, Bool.and_true, decide_eq_false_iff_not] at hb; omega
      obtain ⟨j, hj, hj1, hj5⟩ : ∃ j : Nat, x.K = j ∧ 1 ≤ j ∧ j ≤ 5 := by
        rcases may_K hx2.1 with c | c | c | c | c
        · exact ⟨1, c, by omega, by omega⟩
        · exact ⟨2, c, by omega, by omega⟩
        · exact ⟨3, c, by omega, by omega⟩
        · exact ⟨4, c, by omega, by omega⟩
        exact ⟨5, c, by omega, by omega⟩
      rw [hx, hj, hno j hj1 (by omega)] at hr
      cases hr⟩⟩, S.e0⟩
  refine w_exit ?_
  refine thn_exit ?_
  refine rnd_exit ?_
  refine blk_eq ?_
  refine w_seq ?_
  refine w_region (by kernel_rfl) ?_
  refine o_move gn rfl rfl ?_
  refine o_assign gn rfl rfl ?_
  refine o_assign gn rfl rfl ?_
  refine wl_end ?_
  refine w_ret ?_
  refine ⟨.inl rfl, _, rfl, ?_⟩
  exact ⟨⟨_, L, 0, rfl, SlC.en (S.sl 0 rfl), .inl ⟨rfl, hL, by
    have e0 : s1.toList = [] := by
      have h1 := hb
      simp only [Bool.not_eq_false'] at h1
      rw [eqS_dec, decide_eq_true_eq] at h1
      rw [h1]; exact tl_lit []
    rw [e0, List.append_nil] at hls; exact hls⟩⟩, S.e0⟩
end
end Go.Proofs.YtdgemlcdhobejaaGreatDoor

namespace Go.Proofs.YtdgemlcdhobejaaGreatDoor
open Go.X Go.Scr

theorem eqS_empty (s : ByteArray) : eqS s ⟨#[]⟩ = s.toList.isEmpty := by
  have e : (⟨#[]⟩ : ByteArray).toList = [] := tl_lit []
  rw [eqS_dec, e]
  cases s.toList <;> simp
/-- The digits of what is left. -/
def digsL (n : Nat) : List UInt8 := if n = 0 then [] else Lib.decDigits n
theorem digsL_step {n : Nat} (h : 0 < n) : digsL n = digsL (n / 10) ++ [UInt8.ofNat (48 + n % 10)] := by
  rw [digsL, if_neg (by omega), Lib.decDigits]
  split
  · rename_i h1
    have e : n / 10 = 0 := by omega
    rw [digsL, if_pos e, List.nil_append, Nat.mod_eq_of_lt h1]
  rename_i h1
  rw [digsL, if_neg (by omega)]
theorem itoa_nat (n : Nat) : Lib.itoa (n : Int) = Lib.decDigits n := by
  rw [Lib.itoa, if_neg (by omega), Int.toNat_natCast]
theorem itoa_neg {n : Int} (h : n < 0) : Lib.itoa n = 45 :: Lib.decDigits n.natAbs := by
  rw [Lib.itoa, if_pos h]
theorem dig_step (u d : Nat) (hd : d < 10) (hu : 0 < u) : Lib.decDigits (u * 10 + d) = Lib.decDigits u ++ [UInt8.ofNat (48 + d)] := by
  rw [Lib.decDigits, dif_neg (by omega)]
  have e1 : (u * 10 + d) / 10 = u := by omega
  have e2 : (u * 10 + d) % 10 = d := by omega
  rw [e1, e2]
theorem dig_min : Lib.decDigits 9223372036854775808 = [57, 50, 50, 51, 51, 55, 50, 48, 51, 54, 56, 53, 52, 55, 55, 53, 56, 48, 56] := by
  have h0 : Lib.decDigits 9 = [57] := by rw [Lib.decDigits, dif_pos (by omega)]; rfl
  have h1 := dig_step 9 2 (by omega) (by omega); rw [h0] at h1
  have h2 := dig_step 92 2 (by omega) (by omega); rw [h1] at h2
  have h3 := dig_step 922 3 (by omega) (by omega); rw [h2] at h3
  have h4 := dig_step 9223 3 (by omega) (by omega); rw [h3] at h4
  have h5 := dig_step 92233 7 (by omega) (by omega); rw [h4] at h5
  have h6 := dig_step 922337 2 (by omega) (by omega); rw [h5] at h6
  have h7 := dig_step 9223372 0 (by omega) (by omega); rw [h6] at h7
  have h8 := dig_step 92233720 3 (by omega) (by omega); rw [h7] at h8
  have h9 := dig_step 922337203 6 (by omega) (by omega); rw [h8] at h9
  have h10 := dig_step 9223372036 8 (by omega) (by omega); rw [h9] at h10
  have h11 := dig_step 92233720368 5 (by omega) (by omega); rw [h10] at h11
  have h12 := dig_step 922337203685 4 (by omega) (by omega); rw [h11] at h12
  have h13 := dig_step 9223372036854 7 (by omega) (by omega); rw [h12] at h13
  have h14 := dig_step 92233720368547 7 (by omega) (by omega); rw [h13] at h14
  have h15 := dig_step 922337203685477 5 (by omega) (by omega); rw [h14] at h15
  have h16 := dig_step 9223372036854775 8 (by omega) (by omega); rw [h15] at h16
  have h17 := dig_step 92233720368547758 0 (by omega) (by omega); rw [h16] at h17
  have h18 := dig_step 922337203685477580 8 (by omega) (by omega); rw [h17] at h18
  rw [h18]; rfl
theorem wrap_dig {k : Nat} (hk : k < 10) : IntKind.wrap .u8 (48 + (k : Int)) = ((48 + k : Nat) : Int) := by
  rcases (show k = 0 ∨ k = 1 ∨ k = 2 ∨ k = 3 ∨ k = 4 ∨ k = 5 ∨ k = 6 ∨ k = 7 ∨ k = 8 ∨ k = 9 by omega) with rfl | rfl | rfl | rfl | rfl | rfl | rfl | rfl | rfl | rfl <;> rfl
theorem zw : (∀ a b : ByteArray, (a ++ b).size = a.size + b.size) ∧ (⟨#[32]⟩ : ByteArray).size = 1 ∧ (⟨#[10]⟩ : ByteArray).size = 1 ∧ (⟨#[114, 117, 110]⟩ : ByteArray).size = 3 ∧ (⟨#[119, 111, 114, 107]⟩ : ByteArray).size = 4 ∧ (⟨#[116, 105, 99, 107]⟩ : ByteArray).size = 4 ∧ (⟨#[105, 110, 106, 101, 99, 116]⟩ : ByteArray).size = 6 ∧ (⟨#[108, 105, 102, 101]⟩ : ByteArray).size = 4 := ⟨fun _ _ => ByteArray.size_append, rfl, rfl, rfl, rfl, rfl, rfl, rfl⟩

section
variable {h : Hp} {e : En}
/-- May -/
theorem c7 : C scpE 7 [enV e] h fun v h' => v = .bool (mayE e) ∧ Ext h h' := by
  obtain ⟨K, At, N⟩ := e
  refine c_enter (fu := Tryz.f7) (by kernel_rfl) rfl ?_
  have S := SH.start h
  refine w_seq ?_
  refine w_region (by kernel_rfl) ?_
  refine s_box S gn rfl rfl fun b1 g nb1 S => ?_
  refine o_assign gn rfl rfl ?_
  refine wl_end ?_
  refine w_seq ?_
  refine w_seq ?_
  refine w_region (by kernel_rfl) ?_
  refine o_fieldAddr (off := 0) gn rfl rfl (by kernel_rfl) ?_
  refine o_load gn rfl rfl (by kernel_rfl) (by first | exact S.cel 0 rfl | exact S.cel 1 rfl | exact S.cel 2 rfl) rfl ?_
  refine wl_end ?_
  refine w_block ?_
  refine w_switch 4 [(1, 6), (2, 7)] [(1, _), (4, _)] (by kernel_rfl) rfl (by repeat (first | exact trivial | refine ⟨rfl, ?_⟩)) (by rfl) (fun hb => ?_) fun hb => ?_
  · skip
    refine w_seq ?_
    refine w_region (by kernel_rfl) ?_
    refine o_fieldAddr (off := 1) gn rfl rfl (by kernel_rfl) ?_
    refine o_load gn rfl rfl (by kernel_rfl) (by first | exact S.cel 0 rfl | exact S.cel 1 rfl | exact S.cel 2 rfl) rfl ?_
    refine o_geq gn rfl rfl rfl ?_
    refine o_move gn rfl rfl ?_
    refine o_and (n := 3) rfl rfl rfl gn rfl (fun hb => by
        refine o_fieldAddr (off := 2) (gy rfl rfl rfl hb) rfl rfl (by kernel_rfl) ?_
        refine o_load (gy rfl rfl rfl hb) rfl rfl (by kernel_rfl) (by first | exact S.cel 0 rfl | exact S.cel 1 rfl | exact S.cel 2 rfl) rfl ?_
        refine o_eqi (gy rfl rfl rfl hb) rfl rfl rfl ?_
        exact wl_end ⟨rfl, rfl, 3, rfl, rfl⟩) ?_
    refine o_assign gn rfl rfl ?_
    refine wl_end ?_
    refine w_ret ?_
    refine ⟨.inl rfl, _, rfl, ?_⟩
    exact ⟨by
      have hK : K = 1 ∨ K = 2 := by simpa using hb
      simp only [mayE]; rw [if_pos hK]; rfl, S.e0⟩
  refine w_seq ?_
  have hK1 : ¬ (K = 1 ∨ K = 2) := by simpa using hb
  refine w_region (by kernel_rfl) ?_
  refine o_eqi gn rfl rfl rfl ?_
  refine o_assign gn rfl rfl ?_
  refine wl_end ?_
  refine w_cond rfl (fun hb => ?_) fun hb => ?_
  · skip
    refine w_seq ?_
    refine w_region (by kernel_rfl) ?_
    refine o_fieldAddr (off := 1) gn rfl rfl (by kernel_rfl) ?_
    refine o_load gn rfl rfl (by kernel_rfl) (by first | exact S.cel 0 rfl | exact S.cel 1 rfl | exact S.cel 2 rfl) rfl ?_
    refine o_eqi gn rfl rfl rfl ?_
    refine o_assign gn rfl rfl ?_
    refine wl_end ?_
    refine w_ret ?_
    refine ⟨.inl rfl, _, rfl, ?_⟩
    exact ⟨by
      have hK : K = 3 := by simpa using hb
      simp only [mayE]; rw [if_neg hK1, if_pos hK]; rfl, S.e0⟩
  have hK2 : ¬ K = 3 := by simpa using hb
  refine w_switch 4 [(4, 22), (5, 23)] [(1, _)] (by kernel_rfl) rfl (by repeat (first | exact trivial | refine ⟨rfl, ?_⟩)) (by rfl) (fun hb => ?_) fun hb => ?_
  · skip
    refine w_seq ?_
    refine w_region (by kernel_rfl) ?_
    refine o_fieldAddr (off := 1) gn rfl rfl (by kernel_rfl) ?_
    refine o_load gn rfl rfl (by kernel_rfl) (by first | exact S.cel 0 rfl | exact S.cel 1 rfl | exact S.cel 2 rfl) rfl ?_
    refine o_geq gn rfl rfl rfl ?_
    refine o_assign gn rfl rfl ?_
    refine wl_end ?_
    refine w_ret ?_
    refine ⟨.inl rfl, _, rfl, ?_⟩
    exact ⟨by
      have hK : K = 4 ∨ K = 5 := by simpa using hb
      simp only [mayE]; rw [if_neg hK1, if_neg hK2, if_pos hK]; rfl, S.e0⟩
  refine w_skip ?_
  refine w_seq ?_
  refine w_region (by kernel_rfl) ?_
  refine o_assign gn rfl rfl ?_
  refine wl_end ?_
  refine w_ret ?_
  refine ⟨.inl rfl, _, rfl, ?_⟩
  exact ⟨by
    have hK : ¬ (K = 4 ∨ K = 5) := by simpa using hb
    simp only [mayE]; rw [if_neg hK1, if_neg hK2, if_neg hK]; rfl, S.e0⟩
set_option maxHeartbeats 1000000 in
/-- Digits -/
theorem c53 {n0 : Nat} (hn : n0 ≤ 9223372036854775807) : C scpE 53 [.int .i64 (n0 : Int)] h fun v h' => (∃ B, v = .string B ∧ B.toList = Lib.decDigits n0) ∧ Ext h h' := by
  have hlen : (Lib.decDigits n0).length ≤ 21 := by
    have := Lib.itoa_length_le (n0 : Int) (by omega) (by omega)
    rwa [Lib.itoa, if_neg (by omega), Int.toNat_natCast] at this
  refine c_enter (fu := Tryz.f53) (by kernel_rfl) rfl ?_
  have S := SH.start h
  refine w_seq ?_
  refine w_region (by kernel_rfl) ?_
  refine o_assign gn rfl rfl ?_
  refine wl_end ?_
  refine w_seq ?_
  refine w_region (by kernel_rfl) ?_
  refine o_assign gn rfl rfl ?_
  refine wl_end ?_
  refine w_seq ?_
  refine w_block ?_
  refine w_loopS [(0, _), (3, _)] [] (by repeat (first | exact trivial | refine ⟨rfl, ?_⟩)) (fun kk lv hh => ∃ (n : Nat) (s : ByteArray), lv = [(0, .int .i64 (n : Int)), (3, .string s)] ∧ kk = n + (if s.toList = [] then 1 else 0) ∧ n ≤ n0 ∧ SH h [] [] hh ∧ ((s.toList = [] ∧ n = n0) ∨ (s.toList ≠ [] ∧ digsL n ++ s.toList = Lib.decDigits n0))) (n := (n0 + 1)) ?_ fun kk lv hh hI => ?_
  · exact ⟨n0, .empty, rfl, by rw [if_pos (by rw [ByteArray.toList_eq]; rfl)], Nat.le_refl _, S, .inl ⟨by rw [ByteArray.toList_eq]; rfl, rfl⟩⟩
  obtain ⟨n, s, rfl, hkk, hn0, S, hD⟩ := hI
  refine w_seq ?_
  refine w_seq ?_
  refine w_region (by kernel_rfl) ?_
  refine o_move gn rfl rfl ?_
  refine o_gtr gn rfl rfl rfl ?_
  refine o_move gn rfl rfl ?_
  refine o_or (n := 2) rfl rfl rfl gn rfl (fun hb => by
      refine o_move (gy rfl rfl rfl hb) rfl rfl ?_
      refine o_eqS (gy rfl rfl rfl hb) rfl rfl rfl ?_
      exact wl_end ⟨rfl, rfl, 2, rfl, rfl⟩) ?_
  refine wl_end ?_
  refine w_cond rfl (fun hb => ?_) fun hb => ?_
  · skip
    refine w_skip ?_
    have hpos : s.toList = [] ∨ 0 < n := by
      rw [eqS_empty] at hb
      simp only [Bool.or_eq_true, decide_eq_true_eq, List.isEmpty_iff] at hb
      rcases hb with h1 | h1
      · exact .inr (by omega)
      exact .inl h1
    refine w_block ?_
    refine w_seq ?_
    refine w_region (by kernel_rfl) ?_
    refine o_move gn rfl rfl ?_
    refine o_remI (b := 10) gn rfl rfl rfl (by omega) ?_
    refine o_add gn rfl rfl rfl (by omega) (by omega) ?_
    refine o_convert (k := .u8) gn rfl rfl (by kernel_rfl) (by kernel_rfl) ?_
    rw [wrap_dig (Nat.mod_lt _ (by omega))]
    refine s_buildSlice (cs := #[.int .u8 ((48 + n % 10 : Nat) : Int)]) (e := 5) (z := 0) (zv := .int .u8 0) [(0, _)] S gn rfl (by kernel_rfl) (by kernel_rfl) (by kernel_rfl) (by kernel_rfl) rfl (by kernel_rfl) fun b1 g nb1 S => ?_
    refine o_convBS (e := 5) gn rfl rfl (by kernel_rfl) (by kernel_rfl) (by kernel_rfl) (S.cel 0 rfl) (bs := [UInt8.ofNat (48 + n % 10)]) ⟨rfl, rfl⟩ ?_
    refine o_move gn rfl rfl ?_
    refine o_addS gn rfl rfl rfl (by
  rw [size_toList s]
  have : s.toList.length ≤ 21 := by
    rcases hD with ⟨h1, _⟩ | ⟨_, h1⟩
    · rw [h1]; exact Nat.zero_le _
    have := congrArg List.length h1
    rw [List.length_append] at this; omega
  have e : (⟨[UInt8.ofNat (48 + n % 10)].toArray⟩ : ByteArray).size = 1 := rfl
  omega) ?_
    refine o_assign gn rfl rfl ?_
    refine wl_end ?_
    refine w_region (by kernel_rfl) ?_
    refine o_move gn rfl rfl ?_
    refine o_quoI (b := 10) gn rfl rfl rfl (by omega) (by omega) ?_
    refine o_assign gn rfl rfl ?_
    refine wl_end ?_
    refine blk_next ?_
    have etl : (⟨[UInt8.ofNat (48 + n % 10)].toArray⟩ ++ s : ByteArray).toList = UInt8.ofNat (48 + n % 10) :: s.toList := by
      rw [ByteArray.toList_eq, ByteArray.toList_eq, ByteArray.data_append, Array.toList_append]; rfl
    have hne : (⟨[UInt8.ofNat (48 + n % 10)].toArray⟩ ++ s : ByteArray).toList ≠ [] := by rw [etl]; exact List.cons_ne_nil _ _
    have hst : digsL (n / 10) ++ (⟨[UInt8.ofNat (48 + n % 10)].toArray⟩ ++ s : ByteArray).toList = Lib.decDigits n0 := by
      rw [etl]
      rcases hD with ⟨h1, rfl⟩ | ⟨_, h1⟩
      · rw [h1]
        by_cases hz : n = 0
        · subst hz; rw [Lib.decDigits_one (by omega)]; rfl
        rw [← digsL_step (by omega), digsL, if_neg hz]
      rw [← h1]
      rw [digsL_step (n := n) (by rcases hpos with h2 | h2; exact absurd h2 (by assumption); exact h2), List.append_assoc]; rfl
    have hm : n / 10 < kk := by
      rcases hpos with h2 | h2
      · rw [hkk, if_pos h2]; omega
      omega
    exact rndS (n / 10) (by omega) [(0, _), (3, _)] (by repeat (first | exact trivial | refine ⟨rfl, ?_⟩)) ⟨n / 10, _, rfl, by rw [if_neg hne, Nat.add_zero], by omega, S.drop, .inr ⟨hne, hst⟩⟩
  refine w_exit ?_
  refine thn_exit ?_
  refine rnd_exit ?_
  refine blk_eq ?_
  refine w_seq ?_
  refine w_region (by kernel_rfl) ?_
  refine o_move gn rfl rfl ?_
  refine o_assign gn rfl rfl ?_
  refine wl_end ?_
  refine w_ret ?_
  refine ⟨.inl rfl, _, rfl, ?_⟩
  exact ⟨⟨s, rfl, by
    rw [eqS_empty] at hb
    simp only [Bool.or_eq_false_iff, decide_eq_false_iff_not] at hb
    have hz : n = 0 := by omega
    rcases hD with ⟨h1, _⟩ | ⟨_, h1⟩
    · rw [h1] at hb; simp at hb
    rw [← h1, hz]; rfl⟩, S.e0⟩
/-- number -/
theorem c31 {n : Int} (h0 : -9223372036854775808 ≤ n ∧ n ≤ 9223372036854775807) : C scpE 31 [iV n] h fun v h' => (∃ B, v = .string B ∧ B.toList = Lib.itoa n) ∧ Ext h h' := by
  refine c_enter (fu := Tryz.f31) (by kernel_rfl) rfl ?_
  have S := SH.start h
  refine w_seq ?_
  refine w_region (by kernel_rfl) ?_
  refine o_assign gn rfl rfl ?_
  refine wl_end ?_
  refine w_seq ?_
  refine w_seq ?_
  refine w_region (by kernel_rfl) ?_
  refine o_move gn rfl rfl ?_
  refine o_eqi gn rfl rfl rfl ?_
  refine wl_end ?_
  refine w_cond rfl (fun hb => ?_) fun hb => ?_
  · skip
    refine w_seq ?_
    refine w_region (by kernel_rfl) ?_
    refine o_assign gn rfl rfl ?_
    refine wl_end ?_
    refine w_ret ?_
    refine ⟨.inl rfl, _, rfl, ?_⟩
    exact ⟨⟨_, rfl, by
      have hn : n = -9223372036854775808 := by simpa using hb
      have e1 : (-9223372036854775808 : Int).natAbs = 9223372036854775808 := rfl
      rw [hn, itoa_neg (by omega), e1, dig_min]; exact tl_lit _⟩, S.e0⟩
  refine w_skip ?_
  refine w_seq ?_
  refine w_seq ?_
  have hn : n ≠ -9223372036854775808 := by simpa using hb
  refine w_region (by kernel_rfl) ?_
  refine o_move gn rfl rfl ?_
  refine o_lss gn rfl rfl rfl ?_
  refine wl_end ?_
  refine w_cond rfl (fun hb => ?_) fun hb => ?_
  · skip
    refine w_seq ?_
    refine w_region (by kernel_rfl) ?_
    refine o_move gn rfl rfl ?_
    refine o_negI gn rfl rfl (by omega) (by omega) ?_
    have hn2 : n < 0 := by simpa using hb
    rw [show -n = ((n.natAbs : Nat) : Int) by omega]
    refine o_call [_] gn rfl rfl (by kernel_rfl) rfl (C.mono (c53 (n0 := n.natAbs) (by omega)) ?_)
    rintro v g ⟨⟨B, rfl, hB⟩, x⟩
    have S := S.grow x
    refine ⟨ag0, ?_⟩
    refine o_addS gn rfl rfl rfl (by
  have := Lib.itoa_length_le n h0.1 h0.2
  rw [itoa_neg hn2, List.length_cons, ← hB, ← size_toList] at this
  have e1 : (⟨#[45]⟩ : ByteArray).size = 1 := rfl
  omega) ?_
    refine o_assign gn rfl rfl ?_
    refine wl_end ?_
    refine w_ret ?_
    refine ⟨.inl rfl, _, rfl, ?_⟩
    exact ⟨⟨_, rfl, by rw [itoa_neg hn2, tl_app, hB]; exact congrArg (· ++ _) (tl_lit [45])⟩, S.e0⟩
  refine w_skip ?_
  refine w_seq ?_
  refine w_region (by kernel_rfl) ?_
  refine o_move gn rfl rfl ?_
  have hn2 : ¬ n < 0 := by simpa using hb
  obtain ⟨m, rfl⟩ := Int.eq_ofNat_of_zero_le (show 0 ≤ n by omega)
  refine o_call [_] gn rfl rfl (by kernel_rfl) rfl (C.mono (c53 (n0 := m) (by omega)) ?_)
  rintro v g ⟨⟨B, rfl, hB⟩, x⟩
  have S := S.grow x
  refine ⟨ag0, ?_⟩
  refine o_assign gn rfl rfl ?_
  refine wl_end ?_
  refine w_ret ?_
  refine ⟨.inl rfl, _, rfl, ?_⟩
  exact ⟨⟨_, rfl, by rw [itoa_nat, hB]⟩, S.e0⟩
set_option maxHeartbeats 1000000 in
/-- Line -/
theorem c17 (hi : inE e) (hm : mayE e = true) : C scpE 17 [enV e] h fun v h' => (∃ B, v = .string B ∧ B.toList = lineE e) ∧ Ext h h' := by
  obtain ⟨K, At, N⟩ := e
  obtain ⟨hi1, hi2⟩ := hi
  have hKK := may_K hm
  simp only at hi1 hi2 hKK
  refine c_enter (fu := Tryz.f17) (by kernel_rfl) rfl ?_
  have S := SH.start h
  refine w_seq ?_
  refine w_region (by kernel_rfl) ?_
  refine s_box S gn rfl rfl fun b1 g nb1 S => ?_
  refine o_assign gn rfl rfl ?_
  refine wl_end ?_
  refine w_seq ?_
  refine w_draw [(0, []), (1, []), (4, []), (5, []), (2, [5]), (3, []), (6, [3]), (7, []), (8, []), (9, [])] (by kernel_rfl) (by kernel_rfl) (by kernel_rfl) (by kernel_rfl) ?_
  refine o_fieldAddr (off := 1) gn rfl rfl (by kernel_rfl) ?_
  refine o_load gn rfl rfl (by kernel_rfl) (by first | exact S.cel 0 rfl | exact S.cel 1 rfl | exact S.cel 2 rfl) rfl ?_
  refine o_fieldAddr (off := 2) gn rfl rfl (by kernel_rfl) ?_
  refine o_load gn rfl rfl (by kernel_rfl) (by first | exact S.cel 0 rfl | exact S.cel 1 rfl | exact S.cel 2 rfl) rfl ?_
  refine o_call [_] gn rfl rfl (by kernel_rfl) rfl (C.mono (c31 hi1) ?_)
  rintro v g ⟨⟨B1, rfl, hB1⟩, x⟩
  have z1 : B1.size ≤ 21 := by rw [size_toList, hB1]; exact Lib.itoa_length_le At hi1.1 hi1.2
  have S := S.grow x
  refine ⟨(ag1 (ag_load gn rfl (by kernel_rfl) (by first | exact S.cel 0 rfl | exact S.cel 1 rfl | exact S.cel 2 rfl) rfl rfl same_int) ag0), ?_⟩
  refine o_addS gn rfl rfl rfl (by simp only [zw]; omega) ?_
  refine o_call [_] gn rfl rfl (by kernel_rfl) rfl (C.mono (c31 hi2) ?_)
  rintro v g ⟨⟨B2, rfl, hB2⟩, x⟩
  have z2 : B2.size ≤ 21 := by rw [size_toList, hB2]; exact Lib.itoa_length_le N hi2.1 hi2.2
  have S := S.grow x
  refine ⟨(ag1 (ag_addS gn rfl rfl (by simp only [zw]; omega) rfl) ag0), ?_⟩
  refine o_addS gn rfl rfl rfl (by simp only [zw]; omega) ?_
  refine o_assign gn rfl rfl ?_
  refine o_assign gn rfl rfl ?_
  refine wl_end ?_
  refine w_seq ?_
  refine w_seq ?_
  refine w_region (by kernel_rfl) ?_
  refine o_fieldAddr (off := 0) gn rfl rfl (by kernel_rfl) ?_
  refine o_load gn rfl rfl (by kernel_rfl) (by first | exact S.cel 0 rfl | exact S.cel 1 rfl | exact S.cel 2 rfl) rfl ?_
  refine wl_end ?_
  refine w_block ?_
  refine w_seq ?_
  refine w_region (by kernel_rfl) ?_
  refine o_eqi gn rfl rfl rfl ?_
  refine o_assign gn rfl rfl ?_
  refine wl_end ?_
  refine w_cond rfl (fun hb => ?_) fun hb => ?_
  · skip
    refine w_seq ?_
    refine w_region (by kernel_rfl) ?_
    refine o_move gn rfl rfl ?_
    refine o_addS gn rfl rfl rfl (by simp only [zw]; omega) ?_
    refine o_addS gn rfl rfl rfl (by simp only [zw]; omega) ?_
    refine o_assign gn rfl rfl ?_
    refine wl_end ?_
    refine w_ret ?_
    refine ⟨.inl rfl, _, rfl, ?_⟩
    obtain rfl : K = 1 := by simpa using hb
    exact ⟨⟨_, rfl, by rw [line_eq]; simp only [tls, hB1]; simp [word, hasAt, Scr.hasN]⟩, S.e0⟩
  refine w_seq ?_
  have hK1 : ¬ K = 1 := by simpa using hb
  refine w_region (by kernel_rfl) ?_
  refine o_eqi gn rfl rfl rfl ?_
  refine o_assign gn rfl rfl ?_
  refine wl_end ?_
  refine w_cond rfl (fun hb => ?_) fun hb => ?_
  · skip
    refine w_seq ?_
    refine w_region (by kernel_rfl) ?_
    refine o_move gn rfl rfl ?_
    refine o_addS gn rfl rfl rfl (by simp only [zw]; omega) ?_
    refine o_addS gn rfl rfl rfl (by simp only [zw]; omega) ?_
    refine o_assign gn rfl rfl ?_
    refine wl_end ?_
    refine w_ret ?_
    refine ⟨.inl rfl, _, rfl, ?_⟩
    obtain rfl : K = 2 := by simpa using hb
    exact ⟨⟨_, rfl, by rw [line_eq]; simp only [tls, hB1]; simp [word, hasAt, Scr.hasN]⟩, S.e0⟩
  refine w_seq ?_
  have hK2 : ¬ K = 2 := by simpa using hb
  refine w_region (by kernel_rfl) ?_
  refine o_eqi gn rfl rfl rfl ?_
  refine o_assign gn rfl rfl ?_
  refine wl_end ?_
  refine w_cond rfl (fun hb => ?_) fun hb => ?_
  · skip
    refine w_seq ?_
    refine w_region (by kernel_rfl) ?_
    refine o_move gn rfl rfl ?_
    refine o_addS gn rfl rfl rfl (by simp only [zw]; omega) ?_
    refine o_addS gn rfl rfl rfl (by simp only [zw]; omega) ?_
    refine o_assign gn rfl rfl ?_
    refine wl_end ?_
    refine w_ret ?_
    refine ⟨.inl rfl, _, rfl, ?_⟩
    obtain rfl : K = 3 := by simpa using hb
    exact ⟨⟨_, rfl, by rw [line_eq]; simp only [tls, hB2]; simp [word, hasAt, Scr.hasN]⟩, S.e0⟩
  refine w_seq ?_
  have hK3 : ¬ K = 3 := by simpa using hb
  refine w_region (by kernel_rfl) ?_
  refine o_eqi gn rfl rfl rfl ?_
  refine o_assign gn rfl rfl ?_
  refine wl_end ?_
  refine w_cond rfl (fun hb => ?_) fun hb => ?_
  · skip
    refine w_seq ?_
    refine w_region (by kernel_rfl) ?_
    refine o_move gn rfl rfl ?_
    refine o_addS gn rfl rfl rfl (by simp only [zw]; omega) ?_
    refine o_move gn rfl rfl ?_
    refine o_addS gn rfl rfl rfl (by simp only [zw]; omega) ?_
    refine o_addS gn rfl rfl rfl (by simp only [zw]; omega) ?_
    refine o_assign gn rfl rfl ?_
    refine wl_end ?_
    refine w_ret ?_
    refine ⟨.inl rfl, _, rfl, ?_⟩
    obtain rfl : K = 4 := by simpa using hb
    exact ⟨⟨_, rfl, by rw [line_eq]; simp only [tls, hB1, hB2]; simp [word, hasAt, Scr.hasN]⟩, S.e0⟩
  refine w_skip ?_
  refine w_seq ?_
  have hK4 : ¬ K = 4 := by simpa using hb
  obtain rfl : K = 5 := by omega
  refine w_region (by kernel_rfl) ?_
  refine o_move gn rfl rfl ?_
  refine o_addS gn rfl rfl rfl (by simp only [zw]; omega) ?_
  refine o_move gn rfl rfl ?_
  refine o_addS gn rfl rfl rfl (by simp only [zw]; omega) ?_
  refine o_addS gn rfl rfl rfl (by simp only [zw]; omega) ?_
  refine o_assign gn rfl rfl ?_
  refine wl_end ?_
  refine w_ret ?_
  refine ⟨.inl rfl, _, rfl, ?_⟩
  exact ⟨⟨_, rfl, by rw [line_eq]; simp only [tls, hB1, hB2]; simp [word, hasAt, Scr.hasN]⟩, S.e0⟩
end
end Go.Proofs.YtdgemlcdhobejaaGreatDoor

namespace Go.Proofs.YtdgemlcdhobejaaGreatDoor
open Go.X Go.Scr

def bA (s : ByteArray) (j : Nat) : UInt8 := s.toList[j]?.getD 0
theorem bA_in {s : ByteArray} {j : Nat} (h : j < s.size) : s.toList[j]? = some (bA s j) := by
  rw [size_toList] at h
  rw [bA, List.getElem?_eq_getElem h]; rfl
theorem bA_get {s : ByteArray} {j : Nat} (h : j < s.size) : s[((j : Nat) : Int).toNat]? = some (bA s j) := by
  rw [Int.toNat_natCast, ← bA_in h, ByteArray.toList_eq, Array.getElem?_toList]
  rw [getElem?_pos s j h, getElem?_pos s.data j h]; rfl
theorem take_bA {s : ByteArray} {j : Nat} (h : j < s.size) : s.toList.take (j + 1) = s.toList.take j ++ [bA s j] := by
  rw [List.take_add_one, bA_in h]; rfl
theorem wrap8 (n : Int) : IntKind.u8.wrap n = n % 256 := by
  simp [IntKind.wrap, IntKind.signed, IntKind.bits]
theorem val_step (n : Nat) (c : UInt8) : IntKind.u64.wrap (IntKind.u64.wrap (10 * (n : Int)) + IntKind.u64.wrap (IntKind.u8.wrap ((c.toNat : Int) - 48))) = (((10 * n + (c.toNat + 208) % 256) % 18446744073709551616 : Nat) : Int) := by
  rw [wrapU, wrapU, wrapU, wrap8]; omega
theorem toI_wrap {n : Nat} (h : n < 18446744073709551616) : IntKind.i64.wrap (n : Int) = toI n := by
  rw [wrap64_nat n h, toI]
theorem neg_wrap {n : Nat} (h : n < 18446744073709551616) : IntKind.u64.wrap (0 - (n : Int)) = (((18446744073709551616 - n) % 18446744073709551616 : Nat) : Int) := by
  rw [wrapU]; omega
theorem c45 (c : UInt8) : (c = 45) ↔ ((c.toNat : Int) = 45) := by
  constructor
  · intro h; rw [h]; rfl
  intro h; exact UInt8.toNat_inj.1 (by have e : (45 : UInt8).toNat = 45 := rfl; omega)
theorem head_bA {s : ByteArray} : s.toList.head? = some 45 ↔ (0 < s.size ∧ ((bA s 0).toNat : Int) = 45) := by
  rw [size_toList, bA, ← c45]
  cases s.toList with
  | nil => simp
  | cons c l => simp

section
variable {h : Hp} {s : ByteArray}
/-- value -/
theorem c36 (hs : s.size ≤ 1000000) : C scpE 36 [.string s] h fun v h' => v = iV (valI s.toList) ∧ Ext h h' := by
  refine c_enter (fu := Tryz.f36) (by kernel_rfl) rfl ?_
  have S := SH.start h
  refine w_seq ?_
  refine w_region (by kernel_rfl) ?_
  refine o_assign gn rfl rfl ?_
  refine wl_end ?_
  refine w_seq ?_
  refine w_region (by kernel_rfl) ?_
  refine o_assign gn rfl rfl ?_
  refine wl_end ?_
  refine w_seq ?_
  refine w_seq ?_
  refine w_region (by kernel_rfl) ?_
  refine o_assign gn rfl rfl ?_
  refine wl_end ?_
  refine w_block ?_
  refine w_loopS [(3, _), (4, _)] [(0, _)] (by repeat (first | exact trivial | refine ⟨rfl, ?_⟩)) (fun kk lv hh => ∃ i : Nat, lv = [(3, .int .u64 ((valN 0 (s.toList.take i) : Nat) : Int)), (4, iV i)] ∧ kk = s.size - i ∧ i ≤ s.size ∧ SH h [] [] hh) (n := (s.size)) ?_ fun kk lv hh hI => ?_
  · exact ⟨0, rfl, rfl, by omega, S⟩
  obtain ⟨i, rfl, rfl, hi, S⟩ := hI
  refine w_seq ?_
  refine w_seq ?_
  refine w_region (by kernel_rfl) ?_
  refine o_move gn rfl rfl ?_
  refine o_move gn rfl rfl ?_
  refine o_lenstr gn rfl rfl (by kernel_rfl) ?_
  refine o_lss gn rfl rfl rfl ?_
  refine wl_end ?_
  refine w_cond rfl (fun hb => ?_) fun hb => ?_
  · skip
    have hil : i < s.size := by simp at hb; omega
    have htk := take_bA hil
    have hlt := valN_lt (s.toList.take i) 0 (by omega)
    refine w_skip ?_
    refine w_seq ?_
    refine w_block ?_
    refine w_seq ?_
    refine w_region (by kernel_rfl) ?_
    refine o_move gn rfl rfl ?_
    refine o_move gn rfl rfl ?_
    refine o_indexS gn rfl rfl rfl (by kernel_rfl) (by omega) (bA_get hil) ?_
    refine o_nei gn rfl rfl rfl ?_
    refine wl_end ?_
    refine w_cond rfl (fun hb => ?_) fun hb => ?_
    · skip
      refine w_region (by kernel_rfl) ?_
      refine o_move gn rfl rfl ?_
      refine o_mulW gn rfl rfl rfl ?_
      refine o_move gn rfl rfl ?_
      refine o_move gn rfl rfl ?_
      refine o_indexS gn rfl rfl rfl (by kernel_rfl) (by omega) (bA_get hil) ?_
      refine o_subW gn rfl rfl rfl ?_
      refine o_convert (k := .u64) gn rfl rfl (by kernel_rfl) (by kernel_rfl) ?_
      refine o_sumW gn rfl rfl rfl ?_
      rw [val_step]
      refine o_assign gn rfl rfl ?_
      refine wl_end ?_
      refine w_region (by kernel_rfl) ?_
      refine o_move gn rfl rfl ?_
      refine o_add gn rfl rfl rfl (by omega) (by omega) ?_
      refine o_assign gn rfl rfl ?_
      refine wl_end ?_
      exact rndS (s.size - (i + 1)) (by omega) [(3, _), (4, _)] (by repeat (first | exact trivial | refine ⟨rfl, ?_⟩)) ⟨i + 1, by
        have hc : ¬ bA s i = 45 := fun e => by rw [c45] at e; simp [e] at hb
        rw [htk, valN_app, valN, valN, if_neg hc]; rfl, rfl, by omega, S⟩
    refine w_skip ?_
    refine w_region (by kernel_rfl) ?_
    refine o_move gn rfl rfl ?_
    refine o_add gn rfl rfl rfl (by omega) (by omega) ?_
    refine o_assign gn rfl rfl ?_
    refine wl_end ?_
    exact rndS (s.size - (i + 1)) (by omega) [(3, _), (4, _)] (by repeat (first | exact trivial | refine ⟨rfl, ?_⟩)) ⟨i + 1, by
      have hc : bA s i = 45 := by rw [c45]; simpa using hb
      rw [htk, valN_app, valN, valN, if_pos hc]; rfl, rfl, by omega, S⟩
  refine w_exit ?_
  refine thn_exit ?_
  refine rnd_exit ?_
  refine blk_eq ?_
  refine w_seq ?_
  refine w_seq ?_
  refine w_region (by kernel_rfl) ?_
  obtain rfl : i = s.size := by simp at hb; omega
  have hlt := valN_lt s.toList 0 (by omega)
  have htk : s.toList.take s.size = s.toList := List.take_of_length_le (by rw [size_toList]; exact Nat.le_refl _)
  rw [htk]
  refine o_move gn rfl rfl ?_
  refine o_lenstr gn rfl rfl (by kernel_rfl) ?_
  refine o_gtr gn rfl rfl rfl ?_
  refine o_move gn rfl rfl ?_
  refine o_and (B := decide (((bA s 0).toNat : Int) = 45)) (n := 3) rfl rfl rfl gn rfl (fun hb => by
      refine o_move (gy rfl rfl rfl hb) rfl rfl ?_
      refine o_indexS (gy rfl rfl rfl hb) rfl rfl rfl (by kernel_rfl) (by omega) (bA_get (j := 0) (by simp at hb; omega)) ?_
      refine o_eqi (gy rfl rfl rfl hb) rfl rfl rfl ?_
      exact wl_end ⟨rfl, rfl, 3, rfl, rfl⟩) ?_
  refine wl_end ?_
  refine w_cond rfl (fun hb => ?_) fun hb => ?_
  · skip
    refine w_region (by kernel_rfl) ?_
    refine o_move gn rfl rfl ?_
    refine o_negW gn rfl rfl ?_
    rw [neg_wrap hlt]
    --
    refine o_assign gn rfl rfl ?_
    refine wl_end ?_
    refine w_seq ?_
    refine w_region (by kernel_rfl) ?_
    refine o_move gn rfl rfl ?_
    refine o_convert (k := .i64) gn rfl rfl (by kernel_rfl) (by kernel_rfl) ?_
    rw [toI_wrap (Nat.mod_lt _ (by omega))]
    refine o_assign gn rfl rfl ?_
    refine wl_end ?_
    refine w_ret ?_
    refine ⟨.inl rfl, _, rfl, ?_⟩
    exact ⟨by
      have hh : s.toList.head? = some 45 := head_bA.2 (by simp at hb; exact ⟨by omega, hb.2⟩)
      rw [valI, if_pos hh]; rfl, S.e0⟩
  refine w_skip ?_
  refine w_seq ?_
  refine w_region (by kernel_rfl) ?_
  refine o_move gn rfl rfl ?_
  refine o_convert (k := .i64) gn rfl rfl (by kernel_rfl) (by kernel_rfl) ?_
  rw [toI_wrap hlt]
  refine o_assign gn rfl rfl ?_
  refine wl_end ?_
  refine w_ret ?_
  refine ⟨.inl rfl, _, rfl, ?_⟩
  exact ⟨by
    have hh : ¬ s.toList.head? = some 45 := fun e => by
      have := head_bA.1 e
      rw [decide_eq_true (show ((s.size : Int) > 0) by omega), decide_eq_true this.2] at hb
      cases hb
    rw [valI, if_neg hh]; rfl, S.e0⟩
end
end Go.Proofs.YtdgemlcdhobejaaGreatDoor

namespace Go.Proofs.YtdgemlcdhobejaaGreatDoor
open Go.X Go.Scr

theorem segs_snoc : ∀ {l : List UInt8} {A : List (List UInt8)} {b : List UInt8}, segs l = A ++ [b] → segs (l ++ [32]) = A ++ [b, []] ∧ ∀ c, c ≠ 32 → segs (l ++ [c]) = A ++ [b ++ [c]]
  | [], A, b, h => by
    rw [segs] at h
    cases A with
    | cons a A =>
      have := congrArg List.length h
      simp at this
    | nil =>
      simp only [List.nil_append, List.cons.injEq, and_true] at h
      subst h
      refine ⟨by simp [segs], fun c hc => by simp [segs, hc]⟩
  | c0 :: l, A, b, h => by
    by_cases e0 : c0 = 32
    · subst e0
      rw [segs, if_pos rfl] at h
      cases A with
      | nil =>
        simp only [List.nil_append, List.cons.injEq] at h
        exact absurd h.2 (segs_ne l)
      | cons a A =>
        simp only [List.cons_append, List.cons.injEq] at h
        obtain ⟨h1, h2⟩ := h
        obtain ⟨i1, i2⟩ := segs_snoc h2
        subst h1
        refine ⟨?_, fun c hc => ?_⟩
        · rw [List.cons_append, segs, if_pos rfl, i1]; rfl
        rw [List.cons_append, segs, if_pos rfl, i2 c hc]; rfl
    rw [segs, if_neg e0] at h
    cases hs : segs l with
    | nil => exact absurd hs (segs_ne l)
    | cons s0 r =>
      rw [hs] at h
      simp only at h
      cases A with
      | nil =>
        simp only [List.nil_append, List.cons.injEq] at h
        obtain ⟨h1, h2⟩ := h
        subst h1; subst h2
        obtain ⟨i1, i2⟩ := segs_snoc (l := l) (A := []) (b := s0) hs
        refine ⟨?_, fun c hc => ?_⟩
        · rw [List.cons_append, segs, if_neg e0, i1]; rfl
        rw [List.cons_append, segs, if_neg e0, i2 c hc]; rfl
      | cons a A =>
        simp only [List.cons_append, List.cons.injEq] at h
        obtain ⟨h1, h2⟩ := h
        subst h1; subst h2
        obtain ⟨i1, i2⟩ := segs_snoc (l := l) (A := s0 :: A) (b := b) hs
        refine ⟨?_, fun c hc => ?_⟩
        · rw [List.cons_append, segs, if_neg e0, i1]; rfl
        rw [List.cons_append, segs, if_neg e0, i2 c hc]; rfl
theorem getD_le (p : List UInt8) (j : Nat) : ((segs p ++ [[], [], []]).getD j []).length ≤ p.length := by
  rw [List.getD_eq_getElem?_getD]
  cases hq : (segs p ++ [[], [], []])[j]? with
  | none => exact Nat.zero_le _
  | some w =>
    rcases List.mem_append.1 (List.mem_of_getElem? hq) with hm | hm
    · exact segs_le hm
    simp only [List.mem_cons, List.not_mem_nil, or_false] at hm
    rcases hm with rfl | rfl | rfl <;> exact Nat.zero_le _
abbrev noS : ByteArray := ⟨#[]⟩
theorem noS_tl : noS.toList = [] := tl_lit []
theorem snR_cR {h g : Hp} {L : List Res} {i e z n : Nat} {v : Value} {cs : List Value} {bs : List Nat} (S : SH h [] L g) (hi : L[i]? = some (snR e z v cs n bs)) (hn : 0 < n) : ∃ b m, v = .slice (some ⟨b, 0, none⟩) n n ∧ SH h [] (L.set i (cR b (.cells cs e m))) g := by
  obtain ⟨b, m, h1, h2, _, h4, h5, _⟩ := SlN.at (S.res i hi) hn
  refine ⟨b, m, h1, S.upd i hi (.refl _ _) h2 (fun j hj => ?_) (fun j hj => ?_) (by simp [cR])⟩
  · rw [show j = b by simpa [cR] using hj]; exact h4
  left; rw [show j = b by simpa [cR] using hj, snR, h5]; simp
theorem row3 {ws : List ByteArray} {p : List UInt8} (hw : ws.map ByteArray.toList = segs p) : ∃ w0 w1 w2 R, ws ++ [noS, noS, noS] = w0 :: w1 :: w2 :: R ∧ (segs p ++ [[], [], []]).getD 0 [] = w0.toList ∧ (segs p ++ [[], [], []]).getD 1 [] = w1.toList ∧ (segs p ++ [[], [], []]).getD 2 [] = w2.toList := by
  rw [← hw]
  match ws with
  | [] => exact ⟨noS, noS, noS, [], rfl, noS_tl.symm, noS_tl.symm, noS_tl.symm⟩
  | [a] => exact ⟨a, noS, noS, _, rfl, rfl, noS_tl.symm, noS_tl.symm⟩
  | [a, b] => exact ⟨a, b, noS, _, rfl, rfl, rfl, noS_tl.symm⟩
  | a :: b :: c :: r => exact ⟨a, b, c, _, rfl, rfl, rfl, rfl⟩
theorem one_of {p : List UInt8} {w0 w1 w2 : List UInt8} (h0 : (segs p ++ [[], [], []]).getD 0 [] = w0) (h1 : (segs p ++ [[], [], []]).getD 1 [] = w1) (h2 : (segs p ++ [[], [], []]).getD 2 [] = w2) : oneE p = ⟨kindOf w0, if kindOf w0 = 3 then 0 else valI w1, if kindOf w0 = 1 ∨ kindOf w0 = 2 then 0 else if kindOf w0 = 3 then valI w1 else valI w2⟩ := by
  rw [← h0, ← h1, ← h2]; rfl
theorem eqS_word {w : ByteArray} {l : List UInt8} {k : Int} (hl : word k = l) : eqS w ⟨l.toArray⟩ = decide (w.toList = word k) := by
  have e : (⟨l.toArray⟩ : ByteArray).toList = l := tl_lit l
  rw [eqS_dec, e, hl]
theorem kind_1 {w : List UInt8} (h : w = word 1) : kindOf w = 1 := by rw [kindOf, if_pos h]
theorem kind_2 {w : List UInt8} (h : w = word 2) : kindOf w = 2 := by rw [h]; decide
theorem kind_3 {w : List UInt8} (h : w = word 3) : kindOf w = 3 := by rw [h]; decide
theorem kind_4 {w : List UInt8} (h : w = word 4) : kindOf w = 4 := by rw [h]; decide
theorem kind_5 {w : List UInt8} (h : w = word 5) : kindOf w = 5 := by rw [h]; decide
theorem kind_0 {w : List UInt8} (h1 : ¬ w = word 1) (h2 : ¬ w = word 2) (h3 : ¬ w = word 3) (h4 : ¬ w = word 4) (h5 : ¬ w = word 5) : kindOf w = 0 := by
  rw [kindOf, if_neg h1, if_neg h2, if_neg h3, if_neg h4, if_neg h5]
section
variable {E : En} {w0 w1 w2 : List UInt8} (h : E = ⟨kindOf w0, if kindOf w0 = 3 then 0 else valI w1, if kindOf w0 = 1 ∨ kindOf w0 = 2 then 0 else if kindOf w0 = 3 then valI w1 else valI w2⟩)
include h
theorem e1 (hk : w0 = word 1) : E = ⟨1, valI w1, 0⟩ := by rw [h, kind_1 hk, if_neg (by omega), if_pos (by omega)]
theorem e2 (hk : w0 = word 2) : E = ⟨2, valI w1, 0⟩ := by rw [h, kind_2 hk, if_neg (by omega), if_pos (by omega)]
theorem e3 (hk : w0 = word 3) : E = ⟨3, 0, valI w1⟩ := by rw [h, kind_3 hk, if_pos rfl, if_neg (by omega), if_pos rfl]
theorem e4 (hk : w0 = word 4) : E = ⟨4, valI w1, valI w2⟩ := by rw [h, kind_4 hk, if_neg (by omega), if_neg (by omega), if_neg (by omega)]
theorem e5 (hk : w0 = word 5) : E = ⟨5, valI w1, valI w2⟩ := by rw [h, kind_5 hk, if_neg (by omega), if_neg (by omega), if_neg (by omega)]
theorem e0 (h1 : ¬ w0 = word 1) (h2 : ¬ w0 = word 2) (h3 : ¬ w0 = word 3) (h4 : ¬ w0 = word 4) (h5 : ¬ w0 = word 5) : E = ⟨0, valI w1, valI w2⟩ := by rw [h, kind_0 h1 h2 h3 h4 h5, if_neg (by omega), if_neg (by omega), if_neg (by omega)]
end

section
variable {h : Hp} {s : ByteArray} {p : List UInt8}
set_option maxHeartbeats 2000000 in
/-- one -/
theorem c20 (hs : s.toList = p ++ [10]) (hp : (10 : UInt8) ∉ p) (hz : s.size ≤ 100000) : C scpE 20 [.string s] h fun v h' => v = .tuple #[enV (oneE p), .bool (fitsD p)] ∧ Ext h h' := by
  have hsz : s.size = p.length + 1 := by rw [size_toList, hs]; simp
  refine c_enterH (fu := Tryz.f20) (by kernel_rfl) rfl ?_
  have S := SH.start h
  refine w_seq ?_
  refine w_region (by kernel_rfl) ?_
  refine s_alloc (zv := .agg #[.int .i64 0, .int .i64 0, .int .i64 0]) S gn rfl (by kernel_rfl) fun b1 g nb1 S => ?_
  refine o_assign gn rfl rfl ?_
  refine wl_end ?_
  refine w_seq ?_
  refine w_region (by kernel_rfl) ?_
  refine o_assign gn rfl rfl ?_
  refine wl_end ?_
  refine w_seq ?_
  refine w_region (by kernel_rfl) ?_
  refine o_assign gn rfl rfl ?_
  refine wl_end ?_
  refine w_seq ?_
  refine w_seq ?_
  refine w_region (by kernel_rfl) ?_
  refine o_assign gn rfl rfl ?_
  refine wl_end ?_
  refine w_block ?_
  refine w_loopS [(4, _), (5, _), (6, _)] [(0, _), (2, _)] (by repeat (first | exact trivial | refine ⟨rfl, ?_⟩)) (fun kk lv hh => ∃ (i fr : Nat) (ws : List ByteArray) (v : Value) (bs : List Nat), lv = [(4, v), (5, iV fr), (6, iV i)] ∧ kk = s.size - i ∧ SH h [] [snR 9 0 v (srV ws) ws.length bs, cR b1 (.cells [iV 0, iV 0, iV 0] 27 0)] hh ∧ ws.length ≤ i ∧ ((i ≤ p.length ∧ fr ≤ i ∧ segs (p.take i) = ws.map ByteArray.toList ++ [(p.take i).drop fr]) ∨ (i = p.length + 1 ∧ ws.map ByteArray.toList = segs p))) (n := (s.size)) ?_ fun kk lv hh hI => ?_
  · exact ⟨0, 0, [], .slice none 0 0, [], rfl, rfl, S.push (r := snR 9 0 (.slice none 0 0) [] 0 []) (Ext.refl _) (.inl ⟨rfl, rfl, rfl, rfl⟩) (by simp [snR]) (by simp [snR]) (by simp [snR]), Nat.le_refl _, .inl ⟨Nat.zero_le _, Nat.le_refl _, rfl⟩⟩
  obtain ⟨i, fr, ws, v, bs, rfl, rfl, S, hwl, hcase⟩ := hI
  refine w_seq ?_
  refine w_seq ?_
  refine w_region (by kernel_rfl) ?_
  refine o_move gn rfl rfl ?_
  refine o_move gn rfl rfl ?_
  refine o_lenstr gn rfl rfl (by kernel_rfl) ?_
  refine o_lss gn rfl rfl rfl ?_
  refine wl_end ?_
  refine w_cond rfl (fun hb => ?_) fun hb => ?_
  · skip
    have hil : i < s.size := by simp at hb; omega
    obtain ⟨hip, hfr, hseg⟩ : i ≤ p.length ∧ fr ≤ i ∧ segs (p.take i) = ws.map ByteArray.toList ++ [(p.take i).drop fr] := by
      rcases hcase with x | ⟨h1, _⟩
      · exact x
      omega
    have htk := take_bA hil
    obtain ⟨hs1, hs2⟩ := segs_snoc hseg
    refine w_skip ?_
    refine w_seq ?_
    refine w_block ?_
    refine w_seq ?_
    refine w_region (by kernel_rfl) ?_
    refine o_move gn rfl rfl ?_
    refine o_move gn rfl rfl ?_
    refine o_indexS gn rfl rfl rfl (by kernel_rfl) (by omega) (bA_get hil) ?_
    refine o_eqi gn rfl rfl rfl ?_
    refine o_move gn rfl rfl ?_
    refine o_or (n := 4) rfl rfl rfl gn rfl (fun hb => by
        refine o_move (gy rfl rfl rfl hb) rfl rfl ?_
        refine o_move (gy rfl rfl rfl hb) rfl rfl ?_
        refine o_indexS (gy rfl rfl rfl hb) rfl rfl rfl (by kernel_rfl) (by omega) (bA_get hil) ?_
        refine o_eqi (gy rfl rfl rfl hb) rfl rfl rfl ?_
        exact wl_end ⟨rfl, rfl, 4, rfl, rfl⟩) ?_
    refine wl_end ?_
    refine w_cond rfl (fun hb => ?_) fun hb => ?_
    · skip
      refine w_seq ?_
      refine w_region (by kernel_rfl) ?_
      refine o_move gn rfl rfl ?_
      refine o_move gn rfl rfl ?_
      refine o_move gn rfl rfl ?_
      refine o_move gn rfl rfl ?_
      refine o_sliceS (i := fr) (j := i) gn rfl rfl rfl rfl (by kernel_rfl) hfr (by omega) ?_
      refine s_buildSlice (e := 9) (z := 0) (zv := .string .empty) [(0, _)] S gn rfl (by kernel_rfl) (by kernel_rfl) (by kernel_rfl) (by kernel_rfl) rfl (by rfl) fun b2 g nb2 S => ?_
      obtain ⟨v', g2, bs', q1, q2, q3, q4⟩ := appendS el70 (S.res 1 rfl) (m := 1) (src_of (n := 1) (o := 0) (c := 1) (S.cel 0 rfl) (Nat.le_refl _)) rfl (by omega)
      have S := S.upd (r' := snR 9 0 v' (srV (ws ++ [s.extract fr i])) (ws ++ [s.extract fr i]).length bs') 1 rfl q3 (by have q := q2; simp only [List.length_append, srV, List.map_append]; exact q) q2.lt q4 q2.nodup
      refine o_append gn rfl rfl rfl q1 ag0 ?_
      refine o_assign gn rfl rfl ?_
      refine wl_end ?_
      refine w_region (by kernel_rfl) ?_
      refine o_move gn rfl rfl ?_
      refine o_add gn rfl rfl rfl (by omega) (by omega) ?_
      refine o_assign gn rfl rfl ?_
      refine wl_end ?_
      refine w_region (by kernel_rfl) ?_
      refine o_move gn rfl rfl ?_
      refine o_add gn rfl rfl rfl (by omega) (by omega) ?_
      refine o_assign gn rfl rfl ?_
      refine wl_end ?_
      exact rndS (s.size - (i + 1)) (by omega) [(4, _), (5, _), (6, _)] (by repeat (first | exact trivial | refine ⟨rfl, ?_⟩)) ⟨i + 1, i + 1, ws ++ [s.extract fr i], v', bs', rfl, rfl, S.drop, by simp; omega, by
        have hx : (s.extract fr i).toList = (p.take i).drop fr := by
          rw [extract_tl, hs, List.take_append_of_le_length hip]
        by_cases hlt : i < p.length
        · left
          have hpt : p.take (i + 1) = p.take i ++ [bA s i] := by
            rw [hs, List.take_append_of_le_length (by omega), List.take_append_of_le_length (by omega)] at htk; exact htk
          have h32 : bA s i = 32 := by
            have hn10 : bA s i ≠ 10 := fun e => hp (by
              have : bA s i ∈ p.take (i + 1) := by rw [hpt]; simp
              rw [← e]; exact List.mem_of_mem_take this)
            simp only [Bool.or_eq_true, decide_eq_true_eq] at hb
            rcases hb with e | e
            · exact UInt8.toNat_inj.1 (by have e2 : (32 : UInt8).toNat = 32 := rfl; omega)
            exact absurd (UInt8.toNat_inj.1 (by have e2 : (10 : UInt8).toNat = 10 := rfl; omega)) hn10
          refine ⟨by omega, Nat.le_refl _, ?_⟩
          rw [List.map_append, List.map_cons, List.map_nil, hx, hpt, h32, hs1]
          have hdd : (p.take i ++ [32]).drop (i + 1) = [] := List.drop_of_length_le (by simp; omega)
          rw [hdd]
          simp
        right
        obtain rfl : i = p.length := by omega
        refine ⟨rfl, ?_⟩
        rw [List.take_length] at hseg hx
        rw [List.map_append, List.map_cons, List.map_nil, hx, hseg]⟩
    refine w_skip ?_
    refine w_region (by kernel_rfl) ?_
    refine o_move gn rfl rfl ?_
    refine o_add gn rfl rfl rfl (by omega) (by omega) ?_
    refine o_assign gn rfl rfl ?_
    refine wl_end ?_
    exact rndS (s.size - (i + 1)) (by omega) [(4, _), (5, _), (6, _)] (by repeat (first | exact trivial | refine ⟨rfl, ?_⟩)) ⟨i + 1, fr, ws, v, bs, rfl, rfl, S, by omega, by
      simp only [Bool.or_eq_false_iff, decide_eq_false_iff_not] at hb
      have hn32 : bA s i ≠ 32 := fun e => hb.1 (by rw [e]; rfl)
      have hlt : i < p.length := by
        rcases Nat.lt_or_ge i p.length with x | x
        · exact x
        exfalso
        obtain rfl : i = p.length := by omega
        have : bA s p.length = 10 := by
          rw [bA, hs, List.getElem?_append_right (Nat.le_refl _)]; simp
        exact hb.2 (by rw [this]; rfl)
      have hpt : p.take (i + 1) = p.take i ++ [bA s i] := by
        rw [hs, List.take_append_of_le_length (by omega), List.take_append_of_le_length (by omega)] at htk; exact htk
      refine .inl ⟨by omega, by omega, ?_⟩
      rw [hpt, hs2 _ hn32, List.drop_append_of_le_length (by simp; omega)]⟩
  refine w_exit ?_
  refine thn_exit ?_
  refine rnd_exit ?_
  refine blk_eq ?_
  refine w_seq ?_
  refine w_region (by kernel_rfl) ?_
  obtain ⟨rfl, hwm⟩ : i = p.length + 1 ∧ ws.map ByteArray.toList = segs p := by
    rcases hcase with ⟨h1, _⟩ | x
    · exfalso; simp at hb; omega
    exact x
  obtain ⟨w0, w1, w2, R, hW, hg0, hg1, hg2⟩ := row3 hwm
  have hone := one_of hg0 hg1 hg2
  have hz1 : w1.size ≤ 1000000 := by
    have := getD_le p 1
    rw [hg1, ← size_toList] at this; omega
  have hz2 : w2.size ≤ 1000000 := by
    have := getD_le p 2
    rw [hg2, ← size_toList] at this; omega
  refine o_move gn rfl rfl ?_
  refine s_buildSlice (e := 9) (z := 0) (zv := .string .empty) [(0, _), (1, _), (2, _)] S gn rfl (by kernel_rfl) (by kernel_rfl) (by kernel_rfl) (by kernel_rfl) rfl (by rfl) fun b3 g nb3 S => ?_
  obtain ⟨v', g2, bs', q1, q2, q3, q4⟩ := appendS el70 (S.res 1 rfl) (m := 3) (src_of (n := 3) (o := 0) (c := 3) (S.cel 0 rfl) (Nat.le_refl _)) rfl (by omega)
  have S := S.upd (r' := snR 9 0 v' (srV (w0 :: w1 :: w2 :: R)) (ws.length + 3) bs') 1 rfl q3 (by rw [← hW]; have q := q2; simp only [srV, List.map_append]; exact q) q2.lt q4 q2.nodup
  obtain ⟨bw, mw, rfl, S⟩ := snR_cR S (i := 1) rfl (by omega)
  have hw0 : (srV (w0 :: w1 :: w2 :: R))[0 + Int.toNat 0 * 1]? = some (.string w0) := rfl
  have hw1 : (srV (w0 :: w1 :: w2 :: R))[0 + Int.toNat 1 * 1]? = some (.string w1) := rfl
  have hw2 : (srV (w0 :: w1 :: w2 :: R))[0 + Int.toNat 2 * 1]? = some (.string w2) := rfl
  refine o_append gn rfl rfl rfl q1 ag0 ?_
  refine o_assign gn rfl rfl ?_
  refine wl_end ?_
  refine w_seq ?_
  refine w_draw [(0, []), (1, []), (2, []), (4, []), (5, []), (6, []), (9, []), (3, [6]), (7, []), (8, []), (10, [])] (by kernel_rfl) (by kernel_rfl) (by kernel_rfl) (by kernel_rfl) ?_
  refine o_move gn rfl rfl ?_
  refine o_indexAddr (zz := 1) gn rfl rfl rfl (by kernel_rfl) (by omega) (by omega) ?_
  refine o_load gn rfl rfl (by kernel_rfl) (S.cel 1 rfl) hw1 ?_
  refine o_move gn rfl rfl ?_
  refine o_indexAddr (zz := 1) gn rfl rfl rfl (by kernel_rfl) (by omega) (by omega) ?_
  refine o_load gn rfl rfl (by kernel_rfl) (S.cel 1 rfl) hw2 ?_
  refine s_alloc (zv := .agg #[.int .i64 0, .int .i64 0, .int .i64 0]) S gn rfl (by kernel_rfl) fun b4 g nb4 S => ?_
  refine o_call [_] gn rfl rfl (by kernel_rfl) rfl (C.mono (c36 (s := w1) hz1) ?_)
  rintro v g ⟨rfl, x⟩
  have S := S.grow x
  refine ⟨(ag1 (ag_load gn rfl (by kernel_rfl) (S.cel 2 rfl) hw2 rfl same_str) ag0), ?_⟩
  refine o_call [_] gn rfl rfl (by kernel_rfl) rfl (C.mono (c36 (s := w2) hz2) ?_)
  rintro v g ⟨rfl, x⟩
  have S := S.grow x
  refine ⟨ag0, ?_⟩
  refine o_build (zv := .agg #[.int .i64 0, .int .i64 0, .int .i64 0]) (pl := [(0, 1), (1, 1), (2, 1)]) [(1, _), (2, _)] gn rfl (by kernel_rfl) (by kernel_rfl) rfl (by rfl) ?_
  refine s_storeA (n := 3) 0 S gn rfl rfl (by kernel_rfl) (by kernel_rfl) rfl rfl (by decide) rfl (fun g S => ag0) fun g S => ?_
  have S : SH h [] (cR b4 (.cells [iV 0, iV (valI w1.toList), iV (valI w2.toList)] 27 0) :: _) _ := S
  refine wl_end ?_
  refine w_cutS [(0, .string s), (2, ptrV b1), (7, ptrV b4)] (fun lv hh => lv = [] ∧ ∃ x y, SH h [] [cR b4 (.cells (enC (oneE p)) 27 0), x, y, cR b1 (.cells [iV 0, iV 0, iV 0] 27 0)] hh) ?_ fun lv hh hJ => ?_
  · skip
    refine w_seq ?_
    refine w_region (by kernel_rfl) ?_
    refine o_move gn rfl rfl ?_
    refine o_indexAddr (zz := 1) gn rfl rfl rfl (by kernel_rfl) (by omega) (by omega) ?_
    refine o_load gn rfl rfl (by kernel_rfl) (S.cel 2 rfl) hw0 ?_
    refine wl_end ?_
    refine w_block ?_
    refine w_seq ?_
    refine w_region (by kernel_rfl) ?_
    refine o_eqS gn rfl rfl rfl ?_
    refine o_assign gn rfl rfl ?_
    refine wl_end ?_
    refine w_cond rfl (fun hb => ?_) fun hb => ?_
    · skip
      refine w_seq ?_
      refine w_region (by kernel_rfl) ?_
      refine o_fieldAddr (off := 0) gn rfl rfl (by kernel_rfl) ?_
      refine s_store 0 S gn rfl rfl rfl (by kernel_rfl) rfl (by decide) (by first | decide | (simp; done)) (fun g S => ag0) fun g S => ?_
      refine wl_end ?_
      refine w_region (by kernel_rfl) ?_
      refine o_fieldAddr (off := 2) gn rfl rfl (by kernel_rfl) ?_
      refine s_store 0 S gn rfl rfl rfl (by kernel_rfl) rfl (by decide) (by first | decide | (simp; done)) (fun g S => ag0) fun g S => ?_
      refine wl_end ?_
      refine blk_next ?_
      exact cutS [] (by repeat (first | exact trivial | refine ⟨rfl, ?_⟩)) ⟨rfl, _, _, by
        rw [eqS_word (k := 1) (l := [114, 117, 110]) rfl, decide_eq_true_eq] at hb
        rw [e1 hone hb]; exact S⟩
    refine w_seq ?_
    have n1 := hb
    rw [eqS_word (k := 1) (l := [114, 117, 110]) rfl, decide_eq_false_iff_not] at n1
    refine w_region (by kernel_rfl) ?_
    refine o_eqS gn rfl rfl rfl ?_
    refine o_assign gn rfl rfl ?_
    refine wl_end ?_
    refine w_cond rfl (fun hb => ?_) fun hb => ?_
    · skip
      refine w_seq ?_
      refine w_region (by kernel_rfl) ?_
      refine o_fieldAddr (off := 0) gn rfl rfl (by kernel_rfl) ?_
      refine s_store 0 S gn rfl rfl rfl (by kernel_rfl) rfl (by decide) (by first | decide | (simp; done)) (fun g S => ag0) fun g S => ?_
      refine wl_end ?_
      refine w_region (by kernel_rfl) ?_
      refine o_fieldAddr (off := 2) gn rfl rfl (by kernel_rfl) ?_
      refine s_store 0 S gn rfl rfl rfl (by kernel_rfl) rfl (by decide) (by first | decide | (simp; done)) (fun g S => ag0) fun g S => ?_
      refine wl_end ?_
      refine blk_next ?_
      exact cutS [] (by repeat (first | exact trivial | refine ⟨rfl, ?_⟩)) ⟨rfl, _, _, by
        rw [eqS_word (k := 2) (l := [119, 111, 114, 107]) rfl, decide_eq_true_eq] at hb
        rw [e2 hone hb]; exact S⟩
    refine w_seq ?_
    have n2 := hb
    rw [eqS_word (k := 2) (l := [119, 111, 114, 107]) rfl, decide_eq_false_iff_not] at n2
    refine w_region (by kernel_rfl) ?_
    refine o_eqS gn rfl rfl rfl ?_
    refine o_assign gn rfl rfl ?_
    refine wl_end ?_
    refine w_cond rfl (fun hb => ?_) fun hb => ?_
    · skip
      refine w_seq ?_
      refine w_region (by kernel_rfl) ?_
      refine o_fieldAddr (off := 0) gn rfl rfl (by kernel_rfl) ?_
      refine s_store 0 S gn rfl rfl rfl (by kernel_rfl) rfl (by decide) (by first | decide | (simp; done)) (fun g S => ag0) fun g S => ?_
      refine wl_end ?_
      refine w_seq ?_
      refine w_region (by kernel_rfl) ?_
      refine o_fieldAddr (off := 1) gn rfl rfl (by kernel_rfl) ?_
      refine o_load gn rfl rfl (by kernel_rfl) (S.cel 0 rfl) rfl ?_
      refine o_fieldAddr (off := 2) gn rfl rfl (by kernel_rfl) ?_
      refine s_store 0 S gn rfl rfl rfl (by kernel_rfl) rfl (by decide) (by first | decide | (simp; done)) (fun g S => ag0) fun g S => ?_
      refine wl_end ?_
      refine w_region (by kernel_rfl) ?_
      refine o_fieldAddr (off := 1) gn rfl rfl (by kernel_rfl) ?_
      refine s_store 0 S gn rfl rfl rfl (by kernel_rfl) rfl (by decide) (by first | decide | (simp; done)) (fun g S => ag0) fun g S => ?_
      refine wl_end ?_
      refine blk_next ?_
      exact cutS [] (by repeat (first | exact trivial | refine ⟨rfl, ?_⟩)) ⟨rfl, _, _, by
        rw [eqS_word (k := 3) (l := [116, 105, 99, 107]) rfl, decide_eq_true_eq] at hb
        rw [e3 hone hb]; exact S⟩
    refine w_seq ?_
    have n3 := hb
    rw [eqS_word (k := 3) (l := [116, 105, 99, 107]) rfl, decide_eq_false_iff_not] at n3
    refine w_region (by kernel_rfl) ?_
    refine o_eqS gn rfl rfl rfl ?_
    refine o_assign gn rfl rfl ?_
    refine wl_end ?_
    refine w_cond rfl (fun hb => ?_) fun hb => ?_
    · skip
      refine w_region (by kernel_rfl) ?_
      refine o_fieldAddr (off := 0) gn rfl rfl (by kernel_rfl) ?_
      refine s_store 0 S gn rfl rfl rfl (by kernel_rfl) rfl (by decide) (by first | decide | (simp; done)) (fun g S => ag0) fun g S => ?_
      refine wl_end ?_
      refine blk_next ?_
      exact cutS [] (by repeat (first | exact trivial | refine ⟨rfl, ?_⟩)) ⟨rfl, _, _, by
        rw [eqS_word (k := 4) (l := [105, 110, 106, 101, 99, 116]) rfl, decide_eq_true_eq] at hb
        rw [e4 hone hb]; exact S⟩
    refine w_seq ?_
    have n4 := hb
    rw [eqS_word (k := 4) (l := [105, 110, 106, 101, 99, 116]) rfl, decide_eq_false_iff_not] at n4
    refine w_region (by kernel_rfl) ?_
    refine o_eqS gn rfl rfl rfl ?_
    refine o_assign gn rfl rfl ?_
    refine wl_end ?_
    refine w_cond rfl (fun hb => ?_) fun hb => ?_
    · skip
      refine w_region (by kernel_rfl) ?_
      refine o_fieldAddr (off := 0) gn rfl rfl (by kernel_rfl) ?_
      refine s_store 0 S gn rfl rfl rfl (by kernel_rfl) rfl (by decide) (by first | decide | (simp; done)) (fun g S => ag0) fun g S => ?_
      refine wl_end ?_
      refine blk_next ?_
      exact cutS [] (by repeat (first | exact trivial | refine ⟨rfl, ?_⟩)) ⟨rfl, _, _, by
        rw [eqS_word (k := 5) (l := [108, 105, 102, 101]) rfl, decide_eq_true_eq] at hb
        rw [e5 hone hb]; exact S⟩
    refine w_skip ?_
    refine blk_next ?_
    exact cutS [] (by repeat (first | exact trivial | refine ⟨rfl, ?_⟩)) ⟨rfl, _, _, by
      rw [eqS_word (k := 5) (l := [108, 105, 102, 101]) rfl, decide_eq_false_iff_not] at hb
      rw [e0 hone n1 n2 n3 n4 hb]; exact S⟩
  obtain ⟨rfl, x, y, S⟩ := hJ
  refine w_seq ?_
  refine w_draw [(0, []), (1, []), (2, [0]), (3, []), (4, []), (6, []), (5, [0]), (7, []), (8, []), (9, [7]), (10, [])] (by kernel_rfl) (by kernel_rfl) (by kernel_rfl) (by kernel_rfl) ?_
  refine o_loadA (n := 3) gn rfl rfl (by kernel_rfl) (by kernel_rfl) (S.cel 0 rfl) (Nat.le_refl _) ?_
  refine o_loadA (n := 3) gn rfl rfl (by kernel_rfl) (by kernel_rfl) (S.cel 0 rfl) (Nat.le_refl _) ?_
  refine o_call [_] gn rfl rfl (by kernel_rfl) rfl (C.mono (c7 (e := oneE p)) ?_)
  rintro v g ⟨rfl, x⟩
  have S := S.grow x
  refine ⟨(ag1 (ag_loadA (n := 3) gn rfl (by kernel_rfl) (by kernel_rfl) (S.cel 0 rfl) (Nat.le_refl _) rfl (sameE _)) ag0), ?_⟩
  refine o_move gn rfl rfl ?_
  refine wl_split (dc := 72) rfl (fun hb72 => ?_) fun hb72 => ?_
  · skip
    refine o_loadA (n := 3) (gy rfl rfl rfl hb72) rfl rfl (by kernel_rfl) (by kernel_rfl) (S.cel 0 rfl) (Nat.le_refl _) ?_
    refine o_move (gy rfl rfl rfl hb72) rfl rfl ?_
    refine o_call [_] (gy rfl rfl rfl hb72) rfl rfl (by kernel_rfl) rfl (C.mono (c17 (e := oneE p) (one_in p) hb72) ?_)
    rintro v g ⟨⟨B, rfl, hB⟩, x⟩
    have S := S.grow x
    refine ⟨(ag1 (ag_loadA (n := 3) gn rfl (by kernel_rfl) (by kernel_rfl) (S.cel 0 rfl) (Nat.le_refl _) rfl (sameE _)) ag0), ?_⟩
    refine o_eqS (gy rfl rfl rfl hb72) rfl rfl rfl ?_
    refine o_pickt gn rfl rfl hb72 rfl ?_
    refine s_storeA (n := 3) 3 S gn rfl rfl (by kernel_rfl) (by kernel_rfl) rfl rfl (by decide) rfl (fun g S => ag1 (ag_eqS (gy rfl rfl rfl hb72) rfl rfl rfl) ag0) fun g S => ?_
    refine o_assign gn rfl rfl ?_
    refine wl_end ?_
    refine w_ret ?_
    refine ⟨.inl rfl, _, (resH_agg rfl (by kernel_rfl) (by kernel_rfl) (S.cel 3 rfl) rfl (resH_tmp rfl rfl)), ?_⟩
    exact ⟨by
      have e1 : eqS B s = decide (lineE (oneE p) = p ++ [10]) := by rw [eqS_dec, hB, hs]
      rw [fitsD, ← e1, hb72]; rfl, S.e0⟩
  refine wl_skips (n := 4) (dc := 72) (w := true) rfl hb72 rfl ?_
  refine o_pickf gn rfl rfl hb72 rfl ?_
  refine s_storeA (n := 3) 3 S gn rfl rfl (by kernel_rfl) (by kernel_rfl) rfl rfl (by decide) rfl (fun g S => ag1 (.inl (ng rfl rfl rfl hb72)) ag0) fun g S => ?_
  refine o_assign gn rfl rfl ?_
  refine wl_end ?_
  refine w_ret ?_
  refine ⟨.inl rfl, _, (resH_agg rfl (by kernel_rfl) (by kernel_rfl) (S.cel 3 rfl) rfl (resH_tmp rfl rfl)), ?_⟩
  exact ⟨by rw [fitsD, hb72]; rfl, S.e0⟩
end
end Go.Proofs.YtdgemlcdhobejaaGreatDoor

