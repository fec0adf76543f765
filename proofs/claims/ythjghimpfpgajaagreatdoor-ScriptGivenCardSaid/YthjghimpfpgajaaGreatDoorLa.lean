/- Rows that are sorted, those of one key as they stood (plain). Conditions: none. Rows that are sorted, block by block (plain). Conditions: none. Entries, their cells, how they are ordered (plain). Conditions: none. Entries with their numbers; halves; neighbours change places (plain). Conditions: none. Rows sorted block by block: what one block more comes to (plain). Conditions: none. What is given, in its order; rows of entries in a memory (plain). Conditions: none. What the document's Given has gathered so far (plain). Conditions: none. . Chapter 12 (Given): a strings.Builder's copyCheck, gone through at this program. Conditions: none. Chapter 12 (Given): the machine over the law's program; a strings.Builder's copyCheck and String are not gone through; the chapter's row answers true where the table of powers lies. Conditions: the table. Chapter 12 (Given): numbers and entries compared; rows that change places. Conditions: rows of a million entries at most. Chapter 12 (Given): rows turned round. Conditions: rows of a million entries at most. Chapter 12 (Given): a row sorted by going in one by one. Conditions: rows of a million entries at most. Chapter 12 (Given): two sorted rows made one. Conditions: rows of a million entries at most. Chapter 12 (Given): rows sorted, those of one key as they stood. Conditions: rows of a million entries at most. Chapter 12 (Given): rows compared; the row that is kept, sorted; what is given. Conditions: rows of 100000 entries at most. -/
import Derived.Test.YthjghimpfpgajaaGreatDoorXa
import Derived.Test.YthjghimpfpgajaaGreatDoorXc
import Derived.Test.YthjghimpfpgajaaGreatDoorXd
import Derived.Shelf.Strings.Builder1
import Derived.Ground.NamesProg
import Derived.Test.YthjghimpfpgajaaGreatDoorProg
import Derived.Test.YthjghimpfpgajaaGreatDoorRows
import Derived.Lib.ItoaLen
namespace Go.Giv

section
variable {α : Type} {r : α → Int}
/-- An element stands ahead of another one: by its key, then by its number. -/
def lt (r : α → Int) (x y : α × Nat) : Prop := r x.1 < r y.1 ∨ (r x.1 = r y.1 ∧ x.2 < y.2)
abbrev Srt (r : α → Int) (l : List (α × Nat)) : Prop := l.Pairwise (lt r)
/-- The numbers of the one row are below those of the other one. -/
def Low (L R : List (α × Nat)) : Prop := ∀ x, x ∈ L → ∀ y, y ∈ R → x.2 < y.2
theorem lt_trans {x y z : α × Nat} (h1 : lt r x y) (h2 : lt r y z) : lt r x z := by
  unfold lt at *; omega
theorem lt_irrefl {x : α × Nat} (h : lt r x x) : False := by
  unfold lt at *; omega
theorem lt_asymm {x y : α × Nat} (h1 : lt r x y) (h2 : lt r y x) : False := lt_irrefl (lt_trans h1 h2)
theorem lt_low {x y : α × Nat} (h : x.2 < y.2) : lt r y x ↔ r y.1 < r x.1 := by
  unfold lt; omega
theorem lt_low2 {x y : α × Nat} (h : x.2 < y.2) : lt r x y ↔ ¬ r y.1 < r x.1 := by
  unfold lt; omega
theorem Low.mono {L L' R R' : List (α × Nat)} (h : Low L R) (h1 : ∀ x, x ∈ L' → x ∈ L) (h2 : ∀ x, x ∈ R' → x ∈ R) : Low L' R' := fun x hx y hy => h x (h1 x hx) y (h2 y hy)
theorem srt_uniq : ∀ {l m : List (α × Nat)}, l.Perm m → Srt r l → Srt r m → l = m
  | [], m, p, _, _ => p.nil_eq
  | x :: l, [], p, _, _ => by simpa using p.length_eq
  | x :: l, y :: m, p, h1, h2 => by
    have hx : x ∈ y :: m := p.subset (by simp)
    have hy : y ∈ x :: l := p.symm.subset (by simp)
    have e : x = y := by
      rcases List.mem_cons.1 hx with e | hx
      · exact e
      rcases List.mem_cons.1 hy with e | hy
      · exact e.symm
      exact (lt_asymm ((List.pairwise_cons.1 h1).1 y hy) ((List.pairwise_cons.1 h2).1 x hx)).elim
    subst e
    rw [srt_uniq (List.Perm.cons_inv p) (List.pairwise_cons.1 h1).2 (List.pairwise_cons.1 h2).2]
theorem srt_at {l : List (α × Nat)} (h : Srt r l) {i j : Nat} (hi : i < j) (hj : j < l.length) : lt r (l[i]'(by omega)) l[j] := List.pairwise_iff_getElem.1 h i j (by omega) hj hi
/-- Two sorted rows, cut. -/
theorem cut_lt {L R : List (α × Nat)} (h1 : Srt r L) (h2 : Srt r R) {s e : Nat} (hs : s ≤ L.length) (h : s = 0 ∨ e = R.length ∨ ∃ (h3 : s - 1 < L.length) (h4 : e < R.length), lt r L[s - 1] R[e]) : ∀ x, x ∈ L.take s → ∀ y, y ∈ R.drop e → lt r x y := by
  intro x hx y hy
  obtain ⟨i, hi, rfl⟩ := List.mem_take_iff_getElem.1 hx
  obtain ⟨j, hj, rfl⟩ := List.mem_drop_iff_getElem.1 hy
  rcases h with h | h | ⟨h3, h4, h⟩
  · omega
  · omega
  have a : lt r L[i] R[e] := by
    by_cases e1 : i = s - 1
    · subst e1; exact h
    exact lt_trans (srt_at h1 (by omega) h3) h
  by_cases e2 : j = 0
  · subst e2; simpa using a
  exact lt_trans a (srt_at h2 (i := e) (j := e + j) (by omega) (by omega))
/-- What two merges come to. -/
theorem merge_two {L1 L2 R1 R2 S1 S2 : List (α × Nat)} (p1 : S1.Perm (L1 ++ R1)) (p2 : S2.Perm (L2 ++ R2)) (s1 : Srt r S1) (s2 : Srt r S2) (hL : Srt r (L1 ++ L2)) (hR : Srt r (R1 ++ R2))
    (h1 : ∀ x, x ∈ L1 → ∀ y, y ∈ R2 → lt r x y) (h2 : ∀ x, x ∈ R1 → ∀ y, y ∈ L2 → lt r x y) : (S1 ++ S2).Perm ((L1 ++ L2) ++ (R1 ++ R2)) ∧ Srt r (S1 ++ S2) := by
  refine ⟨?_, List.pairwise_append.2 ⟨s1, s2, fun x hx y hy => ?_⟩⟩
  · refine (p1.append p2).trans ?_
    rw [List.append_assoc, List.append_assoc]
    refine List.Perm.append_left L1 ?_
    rw [← List.append_assoc, ← List.append_assoc]
    exact List.perm_append_comm.append_right R2
  have hx := p1.subset hx
  have hy := p2.subset hy
  rcases List.mem_append.1 hx with hx | hx <;> rcases List.mem_append.1 hy with hy | hy
  · exact (List.pairwise_append.1 hL).2.2 x hx y hy
  · exact h1 x hx y hy
  · exact h2 x hx y hy
  exact (List.pairwise_append.1 hR).2.2 x hx y hy
/-- One goes in among the others. -/
theorem srt_in {U V : List (α × Nat)} {x : α × Nat} (h : Srt r (U ++ V)) (h1 : ∀ u, u ∈ U → lt r u x) (h2 : ∀ v, v ∈ V → lt r x v) : Srt r (U ++ x :: V) := by
  obtain ⟨a, b, c⟩ := List.pairwise_append.1 h
  refine List.pairwise_append.2 ⟨a, List.pairwise_cons.2 ⟨h2, b⟩, fun u hu v hv => ?_⟩
  rcases List.mem_cons.1 hv with rfl | hv
  · exact h1 u hu
  exact c u hu v hv
/-- What stands ahead of an element that is ahead. -/
theorem all_take {R : List (α × Nat)} {x : α × Nat} (h : Srt r R) {i : Nat} (hi : i < R.length) (hx : lt r R[i] x) : ∀ y, y ∈ R.take (i + 1) → lt r y x := by
  intro y hy
  obtain ⟨j, hj, rfl⟩ := List.mem_take_iff_getElem.1 hy
  by_cases e : j = i
  · subst e; exact hx
  exact lt_trans (srt_at h (by omega) hi) hx
theorem all_drop {R : List (α × Nat)} {x : α × Nat} (h : Srt r R) {i : Nat} (hi : i < R.length) (hx : lt r x R[i]) : ∀ y, y ∈ R.drop i → lt r x y := by
  intro y hy
  obtain ⟨j, hj, rfl⟩ := List.mem_drop_iff_getElem.1 hy
  by_cases e : j = 0
  · subst e; simpa using hx
  exact lt_trans hx (srt_at h (i := i) (j := i + j) (by omega) (by omega))
end
end Go.Giv

namespace Go.Giv

section
variable {β : Type}
/-- The elements from a up to b. -/
def seg (t : List β) (a b : Nat) : List β := (t.take b).drop a
variable {t S : List β} {a b c d m : Nat}
theorem seg_len (h : b ≤ t.length) : (seg t a b).length = b - a := by rw [seg, List.length_drop, List.length_take]; omega
theorem seg_split (h1 : a ≤ m) (h2 : m ≤ b) : seg t a b = seg t a m ++ seg t m b := by
  unfold seg
  have e : t.take b = t.take m ++ (t.take b).drop m := by
    conv => lhs; rw [← List.take_append_drop m (t.take b)]
    rw [List.take_take, Nat.min_eq_left h2]
  have e2 : (t.take b).drop a = (t.take m ++ (t.take b).drop m).drop a := by rw [← e]
  rw [e2, List.drop_append]
  by_cases hm : m ≤ t.length
  · rw [List.length_take, Nat.min_eq_left hm, Nat.sub_eq_zero_of_le h1, List.drop_zero]
  have e3 : (t.take b).drop m = [] := List.drop_eq_nil_of_le (by rw [List.length_take]; omega)
  rw [e3, List.drop_nil]
theorem cut3 (h1 : a ≤ b) : t = t.take a ++ seg t a b ++ t.drop b := by
  have e : t.take b = t.take a ++ seg t a b := by
    rw [seg]
    conv => lhs; rw [← List.take_append_drop a (t.take b)]
    rw [List.take_take, Nat.min_eq_left h1]
  rw [← e, List.take_append_drop]
theorem put_len (h1 : a ≤ b) (h2 : b ≤ t.length) (hS : S.length = b - a) : (t.take a ++ S ++ t.drop b).length = t.length := by
  rw [List.length_append, List.length_append, List.length_take, List.length_drop, hS]; omega
theorem seg_mid (h1 : a ≤ b) (h2 : b ≤ t.length) (hS : S.length = b - a) : seg (t.take a ++ S ++ t.drop b) a b = S := by
  have hl : (t.take a).length = a := by rw [List.length_take]; omega
  rw [seg, List.take_append_of_le_length (by rw [List.length_append, hl, hS]; omega), List.take_of_length_le (by rw [List.length_append, hl, hS]; omega), List.drop_append, hl, Nat.sub_self, List.drop_zero, List.drop_eq_nil_of_le (by omega), List.nil_append]
theorem seg_low (h1 : a ≤ t.length) (hd : d ≤ a) : seg (t.take a ++ S ++ t.drop b) c d = seg t c d := by
  have hl : (t.take a).length = a := by rw [List.length_take]; omega
  rw [seg, seg, List.append_assoc, List.take_append_of_le_length (by omega), List.take_take, Nat.min_eq_left hd]
theorem seg_high (h1 : a ≤ b) (h2 : b ≤ t.length) (hS : S.length = b - a) (hc : b ≤ c) : seg (t.take a ++ S ++ t.drop b) c d = seg t c d := by
  have hl : (t.take a ++ S).length = b := by rw [List.length_append, List.length_take, hS]; omega
  by_cases hd : d ≤ c
  · have e : ∀ u : List β, seg u c d = [] := fun u => List.drop_eq_nil_of_le (by rw [List.length_take]; omega)
    rw [e, e]
  rw [seg, List.take_append, hl, List.drop_append, List.length_take, hl]
  have e1 : ((t.take a ++ S).take d).drop c = [] := List.drop_eq_nil_of_le (by rw [List.length_take]; omega)
  rw [e1, List.nil_append, Nat.min_eq_right (by omega : b ≤ d), seg]
  rw [List.drop_take, List.drop_drop, List.drop_take, show b + (c - b) = c by omega]
  congr 1
  omega
end
section
variable {α : Type} {r : α → Int} {z t S : List (α × Nat)} {a b c d m n : Nat}
/-- Each element's number is its place. -/
def Tag (z : List (α × Nat)) : Prop := ∀ i (h : i < z.length), (z[i]).2 = i
structure Okb (r : α → Int) (z t : List (α × Nat)) (a b : Nat) : Prop where
  srt : Srt r (seg t a b)
  perm : (seg t a b).Perm (seg z a b)
theorem seg_tag (hz : Tag z) {x : α × Nat} (hx : x ∈ seg z a b) : a ≤ x.2 ∧ x.2 < b := by
  obtain ⟨i, hi, rfl⟩ := List.mem_drop_iff_getElem.1 hx
  rw [List.length_take] at hi
  rw [List.getElem_take, hz]
  omega
theorem Okb.low (hz : Tag z) (x : Okb r z t a m) (y : Okb r z t m b) : Low (seg t a m) (seg t m b) := fun u hu v hv => by
  have h1 := seg_tag hz (x.perm.subset hu)
  have h2 := seg_tag hz (y.perm.subset hv)
  omega
theorem Okb.put (h1 : a ≤ b) (h2 : b ≤ t.length) (hS : S.length = b - a) (s : Srt r S) (p : S.Perm (seg z a b)) : Okb r z (t.take a ++ S ++ t.drop b) a b := ⟨by rw [seg_mid h1 h2 hS]; exact s, by rw [seg_mid h1 h2 hS]; exact p⟩
theorem Okb.keep (x : Okb r z t c d) (h1 : a ≤ b) (h2 : b ≤ t.length) (hS : S.length = b - a) (h : d ≤ a ∨ b ≤ c) : Okb r z (t.take a ++ S ++ t.drop b) c d := by
  have e : seg (t.take a ++ S ++ t.drop b) c d = seg t c d := h.elim (seg_low (by omega)) (seg_high h1 h2 hS)
  exact ⟨by rw [e]; exact x.srt, by rw [e]; exact x.perm⟩
theorem Okb.both (x : Okb r z t a m) (y : Okb r z t m b) (h1 : a ≤ m) (h2 : m ≤ b) : (seg t a m ++ seg t m b).Perm (seg z a b) := by
  rw [seg_split h1 h2]
  exact x.perm.append y.perm
/-- All blocks of k, up to a, are sorted; those from a on. -/
def Done (r : α → Int) (z t : List (α × Nat)) (k a : Nat) : Prop := ∀ c, k ∣ c → c < t.length → c < a → Okb r z t c (min (c + k) t.length)
def Left (r : α → Int) (z t : List (α × Nat)) (k a : Nat) : Prop := ∀ c, k ∣ c → c < t.length → a ≤ c → Okb r z t c (min (c + k) t.length)
theorem dvd_lt {k a c : Nat} (h1 : k ∣ c) (h2 : k ∣ a) (h : c < a) : c + k ≤ a := by
  have h3 : k ∣ a - c := Nat.dvd_sub h2 h1
  have := Nat.le_of_dvd (by omega) h3
  omega
end
end Go.Giv

namespace Go.Giv
open Go.X

abbrev iV (k : Int) : Value := .int .i64 k
abbrev isV (l : List Int) : List Value := l.map fun n => .int .i64 n
structure En where
  K : Int
  At : Int
  N : Int
abbrev I64 (n : Int) : Prop := -9223372036854775808 ≤ n ∧ n ≤ 9223372036854775807
/-- An entry's numbers are in their range. -/
def inE (e : En) : Prop := I64 e.K ∧ I64 e.At ∧ I64 e.N
abbrev enV (e : En) : Value := .agg #[iV e.K, iV e.At, iV e.N]
abbrev enC (e : En) : List Value := [iV e.K, iV e.At, iV e.N]
abbrev enCs (L : List En) : List Value := L.flatMap enC
theorem enCs_len : ∀ L : List En, (enCs L).length = L.length * 3
  | [] => rfl
  | e :: L => by
    have := enCs_len L
    simp only [enCs, List.flatMap_cons, List.length_append, List.length_cons, List.length_nil] at *
    omega
theorem enCs_app (L M : List En) : enCs (L ++ M) = enCs L ++ enCs M := by simp [enCs]
theorem enCs_at (L : List En) (i : Nat) (hi : i < L.length) (r : List Value) : ((enCs L ++ r).drop (i * 3)).take 3 = enC L[i] := by
  have e : L = L.take i ++ L[i] :: L.drop (i + 1) := by rw [← List.drop_eq_getElem_cons hi, List.take_append_drop]
  have hl : (enCs (L.take i)).length = i * 3 := by rw [enCs_len, List.length_take, Nat.min_eq_left (by omega)]
  conv => lhs; rw [e]
  rw [enCs_app, List.append_assoc, List.drop_append, hl, Nat.sub_self, List.drop_zero, List.drop_eq_nil_of_le (by omega), List.nil_append]
  rfl
theorem cut_put {β : Type} {A B C V r : List β} {n : Nat} (hA : A.length = n) (hB : B.length = 3) : ((A ++ (B ++ C)) ++ r).take n ++ V ++ ((A ++ (B ++ C)) ++ r).drop (n + 3) = (A ++ (V ++ C)) ++ r := by
  have e1 : ((A ++ (B ++ C)) ++ r).take n = A := by rw [List.append_assoc]; exact List.take_left' hA
  have e2 : ((A ++ (B ++ C)) ++ r).drop (n + 3) = C ++ r := by
    rw [show (A ++ (B ++ C)) ++ r = (A ++ B) ++ (C ++ r) by simp]
    exact List.drop_left' (by rw [List.length_append, hA, hB])
  rw [e1, e2]; simp
theorem enCs_set (L : List En) (i : Nat) (hi : i < L.length) (v : En) (r : List Value) : (enCs L ++ r).take (i * 3) ++ enC v ++ (enCs L ++ r).drop (i * 3 + 3) = enCs (L.set i v) ++ r := by
  have hl : (enCs (L.take i)).length = i * 3 := by rw [enCs_len, List.length_take, Nat.min_eq_left (by omega)]
  have e1 : enCs L = enCs (L.take i) ++ (enC L[i] ++ enCs (L.drop (i + 1))) := by
    conv => lhs; rw [show L = L.take i ++ L[i] :: L.drop (i + 1) by rw [← List.drop_eq_getElem_cons hi, List.take_append_drop]]
    rw [enCs_app]; rfl
  have e2 : enCs (L.set i v) = enCs (L.take i) ++ (enC v ++ enCs (L.drop (i + 1))) := by
    rw [List.set_eq_take_append_cons_drop, if_pos hi, enCs_app]; rfl
  rw [e1, e2]
  exact cut_put hl rfl
/-- Which of two numbers is ahead. -/
def cmpI (a b : Int) : Int := if a < b then -1 else if b < a then 1 else 0
/-- Which of two entries is ahead. -/
def cmpE (x y : En) : Int := if cmpI y.K x.K = 0 then cmpI x.At y.At else cmpI y.K x.K
/-- By what entries are ordered. -/
def rk (e : En) : Int := -e.K * 36893488147419103232 + e.At
theorem cmpE_lt {x y : En} (hx : inE x) (hy : inE y) : cmpE x y < 0 ↔ rk x < rk y := by
  obtain ⟨_, h1, _⟩ := hx
  obtain ⟨_, h2, _⟩ := hy
  unfold cmpE cmpI rk
  repeat' split
  all_goals omega
/-- Two rows of the same length change places. -/
theorem set_two {P M Q : List En} {x y : En} {i j : Nat} (hi : i = P.length) (hj : j = P.length + 1 + M.length) : ((P ++ x :: M ++ y :: Q).set i y).set j x = P ++ y :: M ++ x :: Q := by
  subst hi; subst hj
  rw [List.append_assoc, List.set_append_right _ _ (Nat.le_refl _), Nat.sub_self, List.cons_append, List.set_cons_zero, List.set_append_right _ _ (by omega), show P.length + 1 + M.length - P.length = M.length + 1 by omega, List.set_cons_succ, List.set_append_right _ _ (Nat.le_refl _), Nat.sub_self, List.set_cons_zero]
  simp
theorem at_fst {P M Q : List En} {x y : En} (h : P.length < (P ++ x :: M ++ y :: Q).length) : (P ++ x :: M ++ y :: Q)[P.length] = x := by simp
theorem at_snd {P M Q : List En} {x y : En} {j : Nat} (hj : j = P.length + 1 + M.length) (h : j < (P ++ x :: M ++ y :: Q).length) : (P ++ x :: M ++ y :: Q)[j] = y := by
  have key : ∀ k (hk : k < (y :: Q).length), k = 0 → (y :: Q)[k] = y := fun k hk e => by subst e; rfl
  rw [List.getElem_append_right (by simp; omega)]
  refine key _ _ ?_
  simp only [List.length_append, List.length_cons]
  omega
/-- A row half changed. -/
theorem half_cut {P A M B Q : List En} {i : Nat} (h1 : i < A.length) (h2 : i < B.length) : P ++ (B.take i ++ A.drop i) ++ M ++ (A.take i ++ B.drop i) ++ Q = (P ++ B.take i) ++ A[i] :: (A.drop (i + 1) ++ M ++ A.take i) ++ B[i] :: (B.drop (i + 1) ++ Q) := by
  rw [List.drop_eq_getElem_cons h1, List.drop_eq_getElem_cons h2]
  simp only [List.append_assoc, List.cons_append]
theorem half_next {P A M B Q : List En} {i : Nat} (h1 : i < A.length) (h2 : i < B.length) : (P ++ B.take i) ++ B[i] :: (A.drop (i + 1) ++ M ++ A.take i) ++ A[i] :: (B.drop (i + 1) ++ Q) = P ++ (B.take (i + 1) ++ A.drop (i + 1)) ++ M ++ (A.take (i + 1) ++ B.drop (i + 1)) ++ Q := by
  rw [List.take_add_one, List.take_add_one, List.getElem?_eq_getElem h1, List.getElem?_eq_getElem h2]
  simp only [List.append_assoc, List.cons_append, Option.toList_some, List.nil_append]
end Go.Giv

namespace Go.Giv
open Go.X

abbrev fs (l : List (En × Nat)) : List En := l.map (·.1)
/-- All numbers are in their range. -/
abbrev In (l : List (En × Nat)) : Prop := ∀ x, x ∈ l → inE x.1
theorem half_u {z : Int} (h0 : 0 ≤ z) (h1 : z ≤ 4000000) : IntKind.u64.wrap z = ((BitVec.ofNat 64 z.toNat).toNat : Int) := by
  rw [wrapU, BitVec.toNat_ofNat]; omega
theorem half_i {z : Int} (h0 : 0 ≤ z) (h1 : z ≤ 4000000) : IntKind.i64.wrap (((BitVec.ofNat 64 z.toNat) >>> 1).toNat : Int) = ((z.toNat / 2 : Nat) : Int) := by
  have e : ((BitVec.ofNat 64 z.toNat) >>> 1).toNat = z.toNat / 2 := by
    rw [BitVec.toNat_ushiftRight, BitVec.toNat_ofNat, Nat.shiftRight_eq_div_pow]; omega
  rw [e]
  simp [IntKind.wrap, IntKind.signed, IntKind.bits]
  omega
section
variable {P Q : List En} {x y : En} {i j : Nat}
theorem nb_fst (hi : i = P.length) (h : i < (P ++ x :: y :: Q).length) : (P ++ x :: y :: Q)[i] = x := by subst hi; simp
theorem nb_snd (hi : i = P.length + 1) (h : i < (P ++ x :: y :: Q).length) : (P ++ x :: y :: Q)[i] = y := by
  subst hi
  rw [List.getElem_append_right (by omega)]
  simp
theorem nb_up (hi : i = P.length) (hj : j = P.length + 1) : ((P ++ x :: y :: Q).set i y).set j x = P ++ y :: x :: Q := by
  subst hi; subst hj
  rw [List.set_append_right _ _ (Nat.le_refl _), Nat.sub_self, List.set_cons_zero, List.set_append_right _ _ (by omega), show P.length + 1 - P.length = 0 + 1 by omega, List.set_cons_succ, List.set_cons_zero]
theorem nb_down (hi : i = P.length) (hj : j = P.length + 1) : ((P ++ x :: y :: Q).set j x).set i y = P ++ y :: x :: Q := by
  subst hi; subst hj
  rw [List.set_append_right _ _ (by omega), show P.length + 1 - P.length = 0 + 1 by omega, List.set_cons_succ, List.set_cons_zero, List.set_append_right _ _ (Nat.le_refl _), Nat.sub_self, List.set_cons_zero]
end
theorem snoc_of {β : Type} : ∀ {l : List β}, 0 < l.length → ∃ l' x, l = l' ++ [x] := fun {l} h => by
  have hn : l ≠ [] := fun e => by subst e; simp at h
  exact ⟨l.dropLast, l.getLast hn, (List.dropLast_concat_getLast hn).symm⟩
/-- Each number is above the ones ahead. -/
abbrev Inc (l : List (En × Nat)) : Prop := l.Pairwise fun x y => x.2 < y.2
theorem inc_low {l : List (En × Nat)} (h : Inc l) (k : Nat) : Low (l.take k) (l.drop k) := by
  rw [← List.take_append_drop k l] at h
  exact fun x hx y hy => (List.pairwise_append.1 h).2.2 x hx y hy
theorem ins_perm {U V U0 : List (En × Nat)} {x : En × Nat} (h : U ++ V = U0) : (U ++ x :: V).Perm (U0 ++ [x]) := by
  subst h
  exact List.perm_middle.trans (List.perm_append_comm (l₁ := [x]) (l₂ := U ++ V))
theorem half_k {z : Int} {k : Nat} (h0 : 0 ≤ z) (h1 : z ≤ 4000000) (hk : z.toNat / 2 = k) : IntKind.i64.wrap (((BitVec.ofNat 64 z.toNat) >>> 1).toNat : Int) = (k : Int) := by rw [half_i h0 h1, hk]
section
variable {P Q : List En} {A B : List (En × Nat)} {i k : Nat}
theorem at_A {R : List En} (hk : k < A.length) (hi : i = P.length + k) (h : i < (P ++ (fs A ++ R)).length) : (P ++ (fs A ++ R))[i] = A[k].1 := by
  subst hi
  rw [List.getElem_append_right (by omega), List.getElem_append_left (by rw [List.length_map]; omega), List.getElem_map]
  congr 2
  omega
theorem at_B (hk : k < B.length) (hi : i = P.length + A.length + k) (h : i < (P ++ (fs A ++ (fs B ++ Q))).length) : (P ++ (fs A ++ (fs B ++ Q)))[i] = B[k].1 := by
  have e : P ++ (fs A ++ (fs B ++ Q)) = (P ++ fs A) ++ (fs B ++ Q) := by simp only [List.append_assoc]
  have key : ∀ (C : List En) (h : i < C.length), C = (P ++ fs A) ++ (fs B ++ Q) → C[i] = B[k].1 := fun C h e => by
    subst e
    exact at_A hk (by rw [List.length_append, List.length_map]; omega) h
  exact key _ h e
end
/-- The one's element i is ahead of the other one's j. -/
def LtAt (A B : List (En × Nat)) (i j : Nat) : Prop := ∃ (h3 : i < A.length) (h4 : j < B.length), lt rk A[i] B[j]
theorem and_t {p q : Prop} [Decidable p] [Decidable q] (h : (decide p && decide q) = true) : p ∧ q := by simpa using h
theorem and_f {p q : Prop} [Decidable p] [Decidable q] (h : (decide p && decide q) = false) : ¬ (p ∧ q) := by simpa using h
theorem not_f {p : Prop} [Decidable p] (h : (!decide p) = false) : p := by simpa using h
theorem not_t {p : Prop} [Decidable p] (h : (!decide p) = true) : ¬ p := by simpa using h
theorem put_perm {B : List (En × Nat)} {x : En × Nat} {p : Nat} : (B.take p ++ x :: B.drop p).Perm (x :: B) := by
  have := List.perm_middle (l₁ := B.take p) (a := x) (l₂ := B.drop p)
  rwa [List.take_append_drop] at this
theorem srt_fst {l m : List (En × Nat)} (h : Srt rk (l ++ m)) : Srt rk l := (List.pairwise_append.1 h).1
theorem srt_snd {l m : List (En × Nat)} (h : Srt rk (l ++ m)) : Srt rk m := (List.pairwise_append.1 h).2.1
theorem srt_one {l m : List (En × Nat)} (h1 : Srt rk l) (h2 : Srt rk m) (h : ¬ (0 < l.length ∧ 0 < m.length)) : Srt rk (l ++ m) := by
  match l, m with
  | [], _ => exact h2
  | _ :: _, [] => rw [List.append_nil]; exact h1
  | _ :: _, _ :: _ => exact absurd ⟨by simp, by simp⟩ h
end Go.Giv

namespace Go.Giv

variable {z t S : List (En × Nat)} {a b c d k m : Nat}
/-- A row, its elements from a up to b others. -/
abbrev put (t : List (En × Nat)) (a b : Nat) (S : List (En × Nat)) : List (En × Nat) := t.take a ++ S ++ t.drop b
theorem fs_cut (h : a ≤ b) : fs t = fs (t.take a) ++ (fs (seg t a b) ++ fs (t.drop b)) := by
  conv => lhs; rw [cut3 (t := t) h]
  simp only [fs, List.map_append, List.append_assoc]
theorem fs_cut2 (h1 : a ≤ m) (h2 : m ≤ b) : fs t = fs (t.take a) ++ (fs (seg t a m) ++ (fs (seg t m b) ++ fs (t.drop b))) := by
  rw [fs_cut (show a ≤ b by omega), seg_split h1 h2]
  simp only [fs, List.map_append, List.append_assoc]
theorem fs_put : fs (put t a b S) = fs (t.take a) ++ (fs S ++ fs (t.drop b)) := by simp only [put, fs, List.map_append, List.append_assoc]
theorem seg_eq (h : t.drop a = z.drop a) : seg t a b = seg z a b := by
  rw [seg, seg, List.drop_take, List.drop_take, h]
theorem mem_seg {x : En × Nat} (h : x ∈ seg t a b) : x ∈ t := List.mem_of_mem_take (List.mem_of_mem_drop h)
theorem tag_inc (hz : Tag z) : Inc z := List.pairwise_iff_getElem.2 fun i j hi hj h => by rw [hz, hz]; exact h
theorem inc_seg (hz : Tag z) : Inc (seg z a b) := ((tag_inc hz).sublist ((List.drop_sublist _ _).trans (List.take_sublist _ _)))
theorem put_drop (h1 : a ≤ b) (h2 : b ≤ t.length) (hS : S.length = b - a) : (put t a b S).drop b = t.drop b := by
  have hl : (t.take a ++ S).length = b := by rw [List.length_append, List.length_take, hS]; omega
  rw [put]
  exact List.drop_left' hl
theorem done_put (hD : Done rk z t k a) (hk : k ∣ a) (hS : S.length = b - a) (h1 : a ≤ b) (h2 : b ≤ t.length) (hb : b = min (a + k) t.length) (s : Srt rk S) (p : S.Perm (seg z a b)) : Done rk z (put t a b S) k b := by
  intro c hc hl hcb
  rw [put_len h1 h2 hS] at hl ⊢
  by_cases e : c = a
  · subst e
    rw [← hb]
    exact Okb.put h1 h2 hS s p
  by_cases hca : c < a
  · have := dvd_lt hc hk hca
    exact (hD c hc hl hca).keep h1 h2 hS (.inl (by omega))
  have := dvd_lt hk hc (by omega)
  omega
theorem left_put (hL : Left rk z t k a) (hS : S.length = b - a) (h1 : a ≤ b) (h2 : b ≤ t.length) : Left rk z (put t a b S) k b := by
  intro c hc hl hcb
  rw [put_len h1 h2 hS] at hl ⊢
  exact (hL c hc hl (by omega)).keep h1 h2 hS (.inr (by omega))
/-- All blocks of k are sorted. -/
structure All (z t : List (En × Nat)) (k : Nat) : Prop where
  len : t.length = z.length
  ok : ∀ c, k ∣ c → c < t.length → Okb rk z t c (min (c + k) t.length)
theorem all_done (hl : t.length = z.length) (hD : Done rk z t k a) (h : t.length ≤ a) : All z t k := ⟨hl, fun c hc h1 => hD c hc h1 (by omega)⟩
/-- What is left of a row when its blocks are made one, two by two. -/
theorem all_rest (hl : t.length = z.length) (hD : Done rk z t (2 * k) a) (hL : Left rk z t k a) (h : t.length ≤ a + k) : All z t (2 * k) := ⟨hl, fun c hc h1 => by
  by_cases hca : c < a
  · exact hD c hc h1 hca
  have hk : k ∣ c := Nat.dvd_trans ⟨2, by omega⟩ hc
  have x := hL c hk h1 (by omega)
  rw [show min (c + 2 * k) t.length = min (c + k) t.length by omega]
  exact x⟩
theorem all_fin (hz : z.length ≤ k) (h : All z t k) : t.Perm z ∧ Srt rk t := by
  by_cases h0 : 0 < t.length
  · have x := h.ok 0 ⟨0, by omega⟩ h0
    have e : min (0 + k) t.length = t.length := by have := h.len; omega
    have e1 : ∀ w : List (En × Nat), w.length = t.length → seg w 0 t.length = w := fun w hw => by rw [seg, List.drop_zero, ← hw, List.take_length]
    rw [e] at x
    obtain ⟨x1, x2⟩ := x
    rw [e1 t rfl] at x1 x2
    rw [e1 z h.len.symm] at x2
    exact ⟨x2, x1⟩
  have e1 := List.length_eq_zero_iff.1 (show t.length = 0 by omega)
  have e2 := List.length_eq_zero_iff.1 (show z.length = 0 by have := h.len; omega)
  subst e1; subst e2
  exact ⟨.refl _, .nil⟩
end Go.Giv

namespace Go.Giv
open Go.X

/-- Entries in a row. -/
def EnAt (h : Hp) (v : Value) (l : List En) : Prop := (l = [] ∧ ∃ a c, v = .slice a 0 c) ∨ ∃ b o c cs e m, v = .slice (some ⟨b, o, none⟩) l.length c ∧ h.get b = some (.cells cs e m) ∧ b < h.n ∧ o + l.length * 3 ≤ cs.length ∧ ∀ i (hi : i < l.length), (cs.drop (o + i * 3)).take 3 = enC l[i]
section
variable {h h' : Hp} {v : Value} {l : List En}
theorem EnAt.ext (x : EnAt h v l) (g : Ext h h') : EnAt h' v l := by
  rcases x with x | ⟨b, o, c, cs, e, m, h1, h2, h3, h4, h5⟩
  · exact .inl x
  exact .inr ⟨b, o, c, cs, e, m, h1, (g.get b h3).trans h2, Nat.lt_of_lt_of_le h3 g.n, h4, h5⟩
theorem EnAt.val (x : EnAt h v l) : ∃ a c, v = .slice a l.length c := by
  rcases x with ⟨rfl, a, c, h1⟩ | ⟨b, o, c, cs, e, m, h1, _⟩
  · exact ⟨a, c, h1⟩
  exact ⟨_, c, h1⟩
theorem EnAt.at (x : EnAt h v l) (hn : 0 < l.length) : ∃ b o c cs e m, v = .slice (some ⟨b, o, none⟩) l.length c ∧ h.get b = some (.cells cs e m) ∧ b < h.n ∧ o + l.length * 3 ≤ cs.length ∧ ∀ i (hi : i < l.length), (cs.drop (o + i * 3)).take 3 = enC l[i] := by
  rcases x with ⟨rfl, _⟩ | x
  · simp at hn
  exact x
theorem SlC.en {n : Nat} {bs : List Nat} {L : List En} (x : SlC 31 2 h v (enCs L) n bs) : EnAt h v L ∧ n = L.length := by
  rcases x with ⟨h1, h2, h3, _⟩ | ⟨b, m, c, rest, h1, h2, _, h4, _, h5, h6, h7⟩
  · have : L = [] := by
      cases L with
      | nil => rfl
      | cons e L => simp [enCs] at h2
    exact ⟨.inl ⟨this, none, 0, h1⟩, by rw [this]; exact h3⟩
  have hl := enCs_len L
  have hn : n = L.length := by omega
  subst hn
  exact ⟨.inr ⟨b, 0, c, _, 31, m, h1, h2, h4, by rw [List.length_append, hl]; omega, fun i hi => by rw [Nat.zero_add]; exact enCs_at L i hi rest⟩, rfl⟩
/-- The cells of a row. -/
theorem row_cells : ∀ {l : List En} {cs : List Value} {o : Nat}, o + l.length * 3 ≤ cs.length → (∀ i (hi : i < l.length), (cs.drop (o + i * 3)).take 3 = enC l[i]) → (cs.drop o).take (l.length * 3) = enCs l
  | [], cs, o, _, _ => by simp
  | e :: l, cs, o, hl, h => by
    have h0 := h 0 (by simp)
    have ih := row_cells (l := l) (cs := cs) (o := o + 3) (by simp at hl; omega) fun i hi => by
      have := h (i + 1) (by simpa using hi)
      rw [show o + (i + 1) * 3 = o + 3 + i * 3 by omega] at this
      exact this
    rw [Nat.zero_mul, Nat.add_zero] at h0
    rw [List.length_cons, show (l.length + 1) * 3 = 3 + l.length * 3 by omega, List.take_add, h0, List.drop_drop, ih]
    rfl
theorem EnAt.src (x : EnAt h v l) : SrcN 2 h v (enCs l) l.length := by
  rcases x with ⟨rfl, a, c, rfl⟩ | ⟨b, o, c, cs, e, m, rfl, h2, h3, h4, h5⟩
  · refine ⟨rfl, ?_, rfl⟩
    cases a <;> rfl
  have q := src_of (z := 2) (n := l.length) (c := c) h2 h4
  rw [row_cells h4 h5] at q
  exact q
end
theorem cell_at {cs r : List Value} {p z f : Nat} {v : Value} (h : (cs.drop p).take z = r) (hf : f < z) (hr : r[f]? = some v) : cs[p + f]? = some v := by
  rw [← List.getElem?_drop, ← List.getElem?_take_of_lt hf, h]; exact hr
theorem En.same {a b : En} (h1 : a.K = b.K) (h2 : a.At = b.At) (h3 : a.N = b.N) : a = b := by
  cases a; cases b; simp only at h1 h2 h3; rw [h1, h2, h3]
instance decEn : DecidableEq En := fun a b => decidable_of_iff (a.K = b.K ∧ a.At = b.At ∧ a.N = b.N) ⟨fun ⟨h1, h2, h3⟩ => En.same h1 h2 h3, fun e => by subst e; exact ⟨rfl, rfl, rfl⟩⟩
theorem en_eq (a b : En) : (decide (a.K = b.K) && (decide (a.At = b.At) && (decide (a.N = b.N) && true))) = decide (a = b) := by
  rw [Bool.eq_iff_iff]
  simp only [Bool.and_eq_true, decide_eq_true_eq, and_true]
  exact ⟨fun ⟨h1, h2, h3⟩ => En.same h1 h2 h3, fun e => by subst e; exact ⟨rfl, rfl, rfl⟩⟩
theorem enCs_add (L : List En) (e : En) : enCs L ++ enC e = enCs (L ++ [e]) := by simp [enCs]
/-- Entries that are kept. -/
abbrev kep (q : En → Int → Bool) (Z : List (En × Int)) : List En := (Z.filter fun p => q p.1 p.2).map (·.1)
theorem kep_next {q : En → Int → Bool} {Z : List (En × Int)} {i : Nat} (hi : i < Z.length) : kep q (Z.take (i + 1)) = kep q (Z.take i) ++ if q Z[i].1 Z[i].2 = true then [Z[i].1] else [] := by
  rw [kep, List.take_add_one, List.getElem?_eq_getElem hi, List.filter_append, List.map_append]
  congr 1
  cases hq : q Z[i].1 Z[i].2 <;> simp [hq]
theorem kep_len {q : En → Int → Bool} {Z : List (En × Int)} : (kep q Z).length ≤ Z.length := by
  rw [List.length_map]; exact List.length_filter_le _ _
theorem kep_in {q : En → Int → Bool} {Z : List (En × Int)} {x : En} (h : x ∈ kep q Z) : ∃ p, p ∈ Z ∧ q p.1 p.2 = true ∧ p.1 = x := by
  obtain ⟨p, hp, e⟩ := List.mem_map.1 h
  exact ⟨p, (List.mem_filter.1 hp).1, (List.mem_filter.1 hp).2, e⟩
theorem in_kep {q : En → Int → Bool} {Z : List (En × Int)} {p : En × Int} (h : p ∈ Z) (hq : q p.1 p.2 = true) : p.1 ∈ kep q Z := List.mem_map.2 ⟨p, List.mem_filter.2 ⟨h, hq⟩, rfl⟩
/-- What is given. -/
def okG (e : En) (n : Int) : Bool := decide (n = 0) && (decide (e.K = 4) || decide (e.K = 5))
abbrev keptL (l : List En) (es : List Int) : List En := kep okG (l.zip es)
/-- In order. -/
abbrev Up (G : List En) : Prop := G.Pairwise fun x y => rk x ≤ rk y
abbrev ofR (v : Int) (G : List En) : List En := G.filter fun x => decide (rk x = v)
structure Gv (K G : List En) : Prop where
  up : Up G
  same : ∀ v, ofR v G = ofR v K
  len : G.length ≤ K.length
theorem ofR_in {v : Int} {G : List En} {x : En} : x ∈ ofR v G ↔ x ∈ G ∧ rk x = v := by simp
theorem up_uniq : ∀ {A B : List En}, Up A → Up B → (∀ v, ofR v A = ofR v B) → A = B
  | [], [], _, _, _ => rfl
  | [], b :: B, _, _, h => by
    have : b ∈ ofR (rk b) ([] : List En) := by rw [h]; exact ofR_in.2 ⟨by simp, rfl⟩
    simp at this
  | a :: A, [], _, _, h => by
    have : a ∈ ofR (rk a) ([] : List En) := by rw [← h]; exact ofR_in.2 ⟨by simp, rfl⟩
    simp at this
  | a :: A, b :: B, hA, hB, h => by
    obtain ⟨a1, a2⟩ := List.pairwise_cons.1 hA
    obtain ⟨b1, b2⟩ := List.pairwise_cons.1 hB
    have x1 : a ∈ b :: B := (ofR_in.1 (show a ∈ ofR (rk a) (b :: B) by rw [← h]; exact ofR_in.2 ⟨by simp, rfl⟩)).1
    have x2 : b ∈ a :: A := (ofR_in.1 (show b ∈ ofR (rk b) (a :: A) by rw [h]; exact ofR_in.2 ⟨by simp, rfl⟩)).1
    have y1 : rk b ≤ rk a := by
      rcases List.mem_cons.1 x1 with e | e
      · rw [e]; exact Int.le_refl _
      exact b1 a e
    have y2 : rk a ≤ rk b := by
      rcases List.mem_cons.1 x2 with e | e
      · rw [e]; exact Int.le_refl _
      exact a1 b e
    have e : rk a = rk b := by omega
    have hh := h (rk a)
    rw [ofR, List.filter_cons_of_pos (by simp), ofR, List.filter_cons_of_pos (by simp [e])] at hh
    have hab : a = b := by injection hh
    subst hab
    rw [up_uniq a2 b2 fun v => ?_]
    have hv := h v
    by_cases ev : rk a = v
    · rw [ofR, List.filter_cons_of_pos (by simp [ev]), ofR, List.filter_cons_of_pos (by simp [ev])] at hv
      injection hv
    rw [ofR, List.filter_cons_of_neg (by simp [ev]), ofR, List.filter_cons_of_neg (by simp [ev])] at hv
    exact hv
theorem Gv.uniq {K G G' : List En} (a : Gv K G) (b : Gv K G') : G = G' := up_uniq a.up b.up fun v => (a.same v).trans (b.same v).symm
theorem Gv.mem {K G : List En} (a : Gv K G) {x : En} (h : x ∈ G) : x ∈ K := by
  have : x ∈ ofR (rk x) K := by rw [← a.same]; exact ofR_in.2 ⟨h, rfl⟩
  exact (ofR_in.1 this).1
/-- What is given, of what is given: itself. -/
theorem Gv.self {K G : List En} (a : Gv K G) : Gv G G := ⟨a.up, fun _ => rfl, Nat.le_refl _⟩
theorem kept_all {G : List En} (h : ∀ x, x ∈ G → x.K = 4 ∨ x.K = 5) : keptL G (List.replicate G.length 0) = G := by
  have e : (G.zip (List.replicate G.length (0 : Int))).filter (fun p => okG p.1 p.2) = G.zip (List.replicate G.length (0 : Int)) := by
    refine List.filter_eq_self.2 fun p hp => ?_
    have h1 := (List.of_mem_zip hp).1
    have h2 := List.eq_of_mem_replicate (List.of_mem_zip hp).2
    rcases h _ h1 with q | q <;> simp [okG, h2, q]
  rw [keptL, kep, e]
  exact List.map_fst_zip (by simp)
theorem kept_ok {l : List En} {es : List Int} {x : En} (h : x ∈ keptL l es) : x ∈ l ∧ (x.K = 4 ∨ x.K = 5) := by
  obtain ⟨p, h1, h2, rfl⟩ := kep_in h
  simp only [okG, Bool.and_eq_true, Bool.or_eq_true, decide_eq_true_eq] at h2
  exact ⟨(List.of_mem_zip h1).1, h2.2⟩
/-- Sorted with numbers: in order, those of a key as they stood. -/
theorem gv_of {K : List En} {S : List (En × Nat)} (p : S.Perm K.zipIdx) (s : Srt rk S) : Gv K (fs S) := by
  refine ⟨List.pairwise_map.2 (s.imp fun {x y} h => by unfold lt at h; omega), fun v => ?_, by rw [List.length_map, p.length_eq, List.length_zipIdx]; exact Nat.le_refl _⟩
  have hz : Inc K.zipIdx := List.pairwise_iff_getElem.2 fun i j hi hj h => by simp only [List.getElem_zipIdx]; omega
  have e : S.filter (fun x => decide (rk x.1 = v)) = K.zipIdx.filter (fun x => decide (rk x.1 = v)) := by
    refine srt_uniq (p.filter _) (s.sublist List.filter_sublist) ?_
    refine List.Pairwise.imp_of_mem (R := fun x y => x.2 < y.2) (fun {x y} hx hy h => ?_) (hz.sublist List.filter_sublist)
    have h1 := (List.mem_filter.1 hx).2
    have h2 := (List.mem_filter.1 hy).2
    simp only [decide_eq_true_eq] at h1 h2
    exact .inr ⟨by omega, h⟩
  have k : K = fs K.zipIdx := by rw [fs, List.zipIdx_map_fst]
  conv => rhs; rw [k]
  rw [ofR, ofR, fs, List.filter_map, fs, List.filter_map]
  exact congrArg fs e
theorem zip_tag {K : List En} : Tag K.zipIdx := fun i hi => by simp
theorem zip_fs {K : List En} : fs K.zipIdx = K := List.zipIdx_map_fst 0 K
end Go.Giv

namespace Go.Giv

abbrev big : Int := 36893488147419103232
/-- Below all of a kind. -/
def bot (k : Int) : Int := -k * big - 9223372036854775809
/-- How far a kind has been gone through. -/
def tk (f : Bool) (a k : Int) : Int := if f = true then -k * big + a else bot k
theorem tk_ge {f : Bool} {a k : Int} (h : f = true → I64 a) : bot k ≤ tk f a k := by
  unfold tk bot
  split
  · rename_i hf; have := (h hf).1; omega
  exact Int.le_refl _
theorem tk_le {f : Bool} {a k : Int} (h : f = true → I64 a) : tk f a k ≤ -k * big + 9223372036854775807 := by
  unfold tk bot
  split
  · rename_i hf; have := (h hf).2; omega
  omega
/-- All up to T are there, in order. -/
structure RtT (R K : List En) (T : Int) : Prop where
  up : Up R
  le : ∀ x, x ∈ R → rk x ≤ T
  same : ∀ v, v ≤ T → ofR v R = ofR v K
  cnt : R.length + K.countP (fun x => decide (T < rk x)) ≤ K.length
section
variable {R K : List En} {T T' : Int}
theorem ofR_nil {v : Int} {G : List En} (h : ∀ x, x ∈ G → rk x ≠ v) : ofR v G = [] := List.filter_eq_nil_iff.2 fun x hx => by simp [h x hx]
theorem rt_start (h : ∀ x, x ∈ K → T < rk x) : RtT [] K T := ⟨.nil, by simp, fun v hv => by
  rw [ofR_nil (G := K) fun x hx e => by have := h x hx; omega]; rfl, by
  rw [List.length_nil, Nat.zero_add]; exact List.countP_le_length⟩
theorem ofR_pos {v : Int} {x : En} {G : List En} (h : rk x = v) : ofR v (x :: G) = x :: ofR v G := List.filter_cons_of_pos (by simp [h])
theorem ofR_neg {v : Int} {x : En} {G : List En} (h : ¬ rk x = v) : ofR v (x :: G) = ofR v G := List.filter_cons_of_neg (by simp [h])
theorem cnt_split (hT : T < T') : ∀ {K : List En}, (∀ x, x ∈ K → T < rk x → T' ≤ rk x) → K.countP (fun x => decide (T < rk x)) = (ofR T' K).length + K.countP (fun x => decide (T' < rk x))
  | [], _ => rfl
  | x :: K, h => by
    have ih := cnt_split hT (K := K) fun y hy => h y (by simp [hy])
    have hx := h x (by simp)
    rw [List.countP_cons, List.countP_cons, ih]
    by_cases e : rk x = T'
    · rw [ofR_pos e, List.length_cons, if_pos (by simp; omega), if_neg (by simp; omega)]; omega
    rw [ofR_neg e]
    by_cases e2 : T' < rk x
    · rw [if_pos (by simp; omega), if_pos (by simpa using e2)]; omega
    rw [if_neg (by simp; omega), if_neg (by simpa using e2)]; rfl
theorem rt_next (r : RtT R K T) (hT : T < T') (h : ∀ x, x ∈ K → T < rk x → T' ≤ rk x) : RtT (R ++ ofR T' K) K T' := by
  refine ⟨List.pairwise_append.2 ⟨r.up, List.pairwise_of_forall_mem_list fun x hx y hy => ?_, fun x hx y hy => ?_⟩, fun x hx => ?_, fun v hv => ?_, ?_⟩
  · rw [(ofR_in.1 hx).2, (ofR_in.1 hy).2]; exact Int.le_refl _
  · have := r.le x hx
    rw [(ofR_in.1 hy).2]; omega
  · rcases List.mem_append.1 hx with hx | hx
    · have := r.le x hx; omega
    rw [(ofR_in.1 hx).2]; exact Int.le_refl _
  · rw [ofR, List.filter_append]
    by_cases e : v = T'
    · subst e
      have e1 : ofR v R = [] := ofR_nil fun x hx e => by have := r.le x hx; omega
      have e2 : ofR v (ofR v K) = ofR v K := List.filter_eq_self.2 fun x hx => (List.mem_filter.1 hx).2
      show ofR v R ++ ofR v (ofR v K) = _
      rw [e1, e2, List.nil_append]
    have e2 : ofR v (ofR T' K) = [] := ofR_nil fun x hx e3 => e (by rw [← e3, (ofR_in.1 hx).2])
    show ofR v R ++ ofR v (ofR T' K) = _
    rw [e2, List.append_nil]
    by_cases hvT : v ≤ T
    · exact r.same v hvT
    rw [ofR_nil (G := R) fun x hx e => by have := r.le x hx; omega, ofR_nil (G := K) fun x hx e3 => by
      have := h x hx (by omega); omega]
  have := cnt_split hT h
  have := r.cnt
  rw [List.length_append]; omega
theorem rt_skip (r : RtT R K T) (hT : T ≤ T') (h : ∀ x, x ∈ K → T < rk x → T' < rk x) : RtT R K T' := by
  refine ⟨r.up, fun x hx => Int.le_trans (r.le x hx) hT, fun v hv => ?_, ?_⟩
  · by_cases hvT : v ≤ T
    · exact r.same v hvT
    rw [ofR_nil (G := R) fun x hx e => by have := r.le x hx; omega, ofR_nil (G := K) fun x hx e3 => by
      have := h x hx (by omega); omega]
  have e : K.countP (fun x => decide (T' < rk x)) ≤ K.countP (fun x => decide (T < rk x)) := List.countP_mono_left fun x _ hx => by
    simp only [decide_eq_true_eq] at *; omega
  have := r.cnt
  omega
theorem rt_fin (r : RtT R K T) (h : ∀ x, x ∈ K → rk x ≤ T) : Gv K R := ⟨r.up, fun v => by
  by_cases hvT : v ≤ T
  · exact r.same v hvT
  rw [ofR_nil (G := R) fun x hx e => by have := r.le x hx; omega, ofR_nil (G := K) fun x hx e3 => by
    have := h x hx; omega], by have := r.cnt; omega⟩
theorem cnt_less (hT : T < T') {x : En} (hx : x ∈ K) (h : ∀ x, x ∈ K → T < rk x → T' ≤ rk x) (e : rk x = T') : K.countP (fun x => decide (T' < rk x)) < K.countP (fun x => decide (T < rk x)) := by
  rw [cnt_split hT h]
  have : 0 < (ofR T' K).length := List.length_pos_of_mem (ofR_in.2 ⟨hx, e⟩)
  omega
end
section
variable {Z : List (En × Int)} {k a : Int}
/-- Those of one kind, at one time. -/
def okA (k a : Int) (e : En) (n : Int) : Bool := (decide (n = 0) && decide (e.K = k)) && decide (e.At = a)
theorem okA_eq (hI : ∀ p, p ∈ Z → inE p.1) (hk : k = 4 ∨ k = 5) (ha : I64 a) : kep (okA k a) Z = ofR (-k * big + a) (kep okG Z) := by
  rw [kep, kep, ofR, List.filter_map, List.filter_filter]
  refine congrArg _ (List.filter_congr fun p hp => ?_)
  obtain ⟨h1, h2, h3⟩ := hI p hp
  obtain ⟨g1, g2⟩ := h2
  obtain ⟨a1, a2⟩ := ha
  rw [Bool.eq_iff_iff]
  simp only [okA, okG, rk, big, Function.comp, Bool.and_eq_true, Bool.or_eq_true, decide_eq_true_eq]
  constructor
  · rintro ⟨⟨e1, e2⟩, e3⟩
    exact ⟨decide_eq_true (by omega), e1, by omega⟩
  rintro ⟨e1, e2, e3⟩
  have e1 := of_decide_eq_true e1
  exact ⟨⟨e2, by omega⟩, by omega⟩
end
/-- One that may be next. -/
abbrev Mt (k a : Int) (f : Bool) (p : En × Int) : Prop := p.2 = 0 ∧ p.1.K = k ∧ (f = true → a < p.1.At)
section
variable {k a a2 : Int} {f f2 : Bool} {x : En} {n : Int}
theorem srch_t (h : (((decide (n = 0) && decide (x.K = k)) && (!f || decide (a < x.At))) && (!f2 || decide (x.At < a2))) = true) : Mt k a f (x, n) ∧ (f2 = true → x.At < a2) := by
  simp only [Bool.and_eq_true, Bool.or_eq_true, Bool.not_eq_true', decide_eq_true_eq] at h
  obtain ⟨⟨⟨h1, h2⟩, h3⟩, h4⟩ := h
  refine ⟨⟨h1, h2, fun e => ?_⟩, fun e => ?_⟩
  · rcases h3 with h3 | h3
    · rw [e] at h3; cases h3
    exact h3
  rcases h4 with h4 | h4
  · rw [e] at h4; cases h4
  exact h4
theorem srch_f (h : (((decide (n = 0) && decide (x.K = k)) && (!f || decide (a < x.At))) && (!f2 || decide (x.At < a2))) = false) (hm : Mt k a f (x, n)) : f2 = true ∧ a2 ≤ x.At := by
  obtain ⟨h1, h2, h3⟩ := hm
  have e1 : (!f || decide (a < x.At)) = true := by
    cases f with
    | false => rfl
    | true => simpa using h3 rfl
  simp only at h1 h2
  rw [decide_eq_true h1, decide_eq_true h2, e1] at h
  cases f2 with
  | false => cases h
  | true => exact ⟨rfl, by simpa using h⟩
theorem mt_of (hk : x.K = k) (h : tk f a k < rk x) : f = true → a < x.At := fun e => by
  rw [tk, if_pos e, rk, hk] at h
  simp only [big] at h
  omega
/-- Where nothing is next: the kind is gone through. -/
theorem skip_ok (hk : x.K ≠ k) (hx : inE x) (hf : f = true → I64 a) (h : tk f a k < rk x) : bot (k - 1) < rk x := by
  have h1 := tk_ge (k := k) hf
  obtain ⟨_, ⟨h3, h4⟩, _⟩ := hx
  unfold bot rk big at *
  omega
theorem skip_le (hf : f = true → I64 a) : tk f a k ≤ bot (k - 1) := by
  have h1 := tk_le (k := k) hf
  unfold bot big at *
  omega
theorem next_ok (hx : inE x) (hf : f = true → I64 a) (h2 : I64 a2) (h : tk f a k < rk x) (hm : x.K = k → a2 ≤ x.At) : tk true a2 k ≤ rk x := by
  have h1 := tk_ge (k := k) hf
  obtain ⟨_, ⟨h3, h4⟩, _⟩ := hx
  obtain ⟨h5, h6⟩ := h2
  rw [tk, if_pos rfl]
  unfold bot rk big at *
  omega
theorem next_lt (h2 : I64 a2) (hm : f = true → a < a2) : tk f a k < tk true a2 k := by
  obtain ⟨h5, h6⟩ := h2
  rw [tk, tk, if_pos rfl]
  by_cases e : f = true
  · rw [if_pos e]; have := hm e; omega
  rw [if_neg e]; unfold bot; omega
end
end Go.Giv

/-
  DERIVED: THE SHELF's CONTRACTS AT THIS DUMP, IN PLAIN WORDS (tools/lay-plain.mjs out of 'TryShelf.lean', which tools/lay-shelf.mjs wrote): THE SAME DECLARATIONS UNDER THE SAME NAMES: 'import', 'namespace', 'open', 'def', 'theorem' AND NOTHING ELSE: no command of the shelf's: FOR A HAND-IN. Each laying: the table of numbers ('.._ren') and one theorem, a field a fact of the dump's own or the kernel's comparison; each contract: ONE APPLICATION.
-/
namespace Go.Proofs
open Go.Shelf
def Tryz.lays169_ren : Go.Shelf.Ren := ⟨fun | 169 => 17 | n => n, fun | 70 => 38 | 9 => 9 | 0 => 0 | 72 => 41 | 37 => 39 | 127 => 61 | 3 => 3 | 5 => 5 | n => n, fun | n => n⟩
theorem Tryz.lays169 : Go.Proofs.Lays.n169 Tryz.prog Tryz.lays169_ren := {
  mixed := by kernel_rfl
  f169 := Tryz.func17.trans (congrArg some (by kernel_rfl))
  t0 := Tryz.underlying0
  a0 := Tryz.isAgg0
  z0 := Tryz.sizeOf0
  v0 := Tryz.zeroValue0
  t3 := Tryz.underlying3
  a3 := Tryz.isAgg3
  z3 := Tryz.sizeOf3
  v3 := Tryz.zeroValue3
  t9 := Tryz.underlying9
  a9 := Tryz.isAgg9
  z9 := Tryz.sizeOf9
  v9 := Tryz.zeroValue9
  t37 := Tryz.underlying39
  a37 := Tryz.isAgg39
  z37 := Tryz.sizeOf39
  v37 := Tryz.zeroValue39
  t70 := Tryz.underlying38
  a70 := Tryz.isAgg38
  z70 := Tryz.sizeOf38
  v70 := Tryz.zeroValue38
  t72 := Tryz.underlying41
  a72 := Tryz.isAgg41
  z72 := Tryz.sizeOf41
  v72 := Tryz.zeroValue41
  t127 := Tryz.underlying61
  a127 := Tryz.isAgg61
  z127 := Tryz.sizeOf61
  v127 := Tryz.zeroValue61 }
end Go.Proofs

namespace Go.Proofs.YthjghimpfpgajaaGreatDoor
open Go.X Go.RowKit

theorem giv_size : (Tryz.prog.info? 41).map (·.size) = some 2 := by kernel_rfl

set_option maxHeartbeats 1000000 in
set_option maxRecDepth 100000 in
theorem giv_copy : CopyAt Tryz.prog 22 41 where
  used := fun b off w h0 => by
    obtain ⟨j, hj, _⟩ := Option.map_eq_some_iff.1 giv_size
    have mixed : Tryz.prog.follows .mixedOrders = true := by kernel_rfl
    have t72 := Tryz.underlying41; have a72 := Tryz.isAgg41; have z72 := Tryz.sizeOf41; have v72 := Tryz.zeroValue41; have u72 := run_underlying Tryz.underlying41
    have t70 := Tryz.underlying38; have a70 := Tryz.isAgg38; have z70 := Tryz.sizeOf38; have v70 := Tryz.zeroValue38; have u70 := run_underlying Tryz.underlying38
    have t4 := Tryz.underlying4; have a4 := Tryz.isAgg4; have z4 := Tryz.sizeOf4; have v4 := Tryz.zeroValue4; have u4 := run_underlying Tryz.underlying4
    have t164 := Tryz.underlying71; have a164 := Tryz.isAgg71; have z164 := Tryz.sizeOf71; have v164 := Tryz.zeroValue71; have u164 := run_underlying Tryz.underlying71
    go_enter Tryz.func22, Tryz.ntmps22
    go_wp2
    rw [Lib.run_neq_ptr_same w _ t70 hj]
    go_wp2
    go_end0
    exact ⟨rfl, rfl⟩
  fresh := fun b off e cells w h0 hsh hoff hlies hfz => by
    obtain ⟨j, hj, hjs⟩ := Option.map_eq_some_iff.1 giv_size
    have mixed : Tryz.prog.follows .mixedOrders = true := by kernel_rfl
    have t72 := Tryz.underlying41; have a72 := Tryz.isAgg41; have z72 := Tryz.sizeOf41; have v72 := Tryz.zeroValue41; have u72 := run_underlying Tryz.underlying41
    have t70 := Tryz.underlying38; have a70 := Tryz.isAgg38; have z70 := Tryz.sizeOf38; have v70 := Tryz.zeroValue38; have u70 := run_underlying Tryz.underlying38
    have t4 := Tryz.underlying4; have a4 := Tryz.isAgg4; have z4 := Tryz.sizeOf4; have v4 := Tryz.zeroValue4; have u4 := run_underlying Tryz.underlying4
    have t164 := Tryz.underlying71; have a164 := Tryz.isAgg71; have z164 := Tryz.sizeOf71; have v164 := Tryz.zeroValue71; have u164 := run_underlying Tryz.underlying71
    go_enter Tryz.func22, Tryz.ntmps22
    go_wp2
    rw [Lib.run_to_unsafe w ⟨b, off, none⟩ t70 t164 hj (by rw [hjs]; decide) hsh hoff]
    simp only [Result.andThen]
    rw [Oper.upon_value]
    go_wp2
    rw [run_callFunc_extern Tryz.func34 (by kernel_rfl) (by kernel_rfl) (by kernel_rfl) (e := Extern.AbiNoEscape.same) (by kernel_rfl)]
    rw [Lib.run_noEscape]
    simp only [Result.andThen]
    rw [Oper.upon_value]
    go_wp2
    rw [Lib.run_from_unsafe w ⟨b, off, none⟩ t164 t70 hj hsh hlies]
    simp only [Result.andThen]
    rw [Oper.upon_value]
    go_wp2
    go_end0
    exact ⟨rfl, rfl⟩

end Go.Proofs.YthjghimpfpgajaaGreatDoor

namespace Go.Proofs.YthjghimpfpgajaaGreatDoor
open Go.X Go.RowKit

theorem giv_mixed : Tryz.prog.follows .mixedOrders = true := by kernel_rfl
theorem giv_Extra : Builder.Extra Tryz.prog Tryz.lays169_ren where
  sizeBuilder := by kernel_rfl
  liesBuilder := by kernel_rfl
  t5 := Tryz.underlying5
  a5 := Tryz.isAgg5
  z5 := Tryz.sizeOf5
  v5 := Tryz.zeroValue5
  infoByte := by kernel_rfl
  cellsByte := by kernel_rfl
  sizeByte := by kernel_rfl
  neB5 := by decide
theorem giv_lies : ∀ e n off, (e, n, off) ∈ [(41, 2, 0)] → liesAt Tryz.prog Tryz.prog.depth e (n / Tryz.prog.cellsOf e) off 41 1 = true := by
  intro e n off h
  simp only [List.mem_singleton, Prod.mk.injEq] at h
  obtain ⟨rfl, rfl, rfl⟩ := h
  kernel_rfl
noncomputable def givE1 : Env := envSm (envSm (envQ Tryz.prog) 22 (checkX [(41, 2, 0)]) (check_law giv_copy giv_lies)) 17 (stringX 5) (string_law Tryz.lays169 giv_Extra)
/-- internal/strconv.uint64pow10 -/
def pows : List Int := (List.range 20).map fun k => ((10 ^ k : Nat) : Int)
def powsV : List Value := pows.map (Value.int .u64)
theorem pows_plain : ∀ v, v ∈ powsV → plainV 4 v = true := by
  intro v hv
  obtain ⟨i, _, rfl⟩ := List.mem_map.1 hv
  rfl
theorem giv_fast (e : Nat) : truthQ givE1 4 800 (tabHp 0 powsV e) = true := by kernel_rfl
theorem giv_known : SmLaw Tryz.prog 4 (knownX 0 powsV) := known_law givE1 giv_mixed (by decide) pows_plain fun e => truthQ_from (giv_fast e)
noncomputable def givE : Env := envSm (envOf Tryz.prog) 4 (knownX 0 powsV) giv_known
end Go.Proofs.YthjghimpfpgajaaGreatDoor

namespace Go.Proofs.YthjghimpfpgajaaGreatDoor
open Go.X Go.Giv

section
variable {h : Hp} {a b : Int} {x y : En} {qb : Nat} {m e : Nat}
theorem self_ne (a : Int) : (!decide (a = a)) = false := by simp
theorem cmp_lt {a b : Int} (h : decide (a < b) = true) : cmpI a b = -1 := by rw [cmpI, if_pos (of_decide_eq_true h)]
theorem cmp_gt {a b : Int} (h1 : decide (a < b) = false) (h : decide (b < a) = true) : cmpI a b = 1 := by rw [cmpI, if_neg (of_decide_eq_false h1), if_pos (of_decide_eq_true h)]
theorem cmp_eq {a b : Int} (h1 : decide (a < b) = false) (h : decide (b < a) = false) : cmpI a b = 0 := by rw [cmpI, if_neg (of_decide_eq_false h1), if_neg (of_decide_eq_false h)]
/-- cmp.isNaN -/
theorem c19 : CP givE 19 [iV a] h (.bool false) := by
  refine c_enter (fu := Tryz.f19) (by kernel_rfl) rfl ?_
  refine w_seq ?_
  refine w_region (by kernel_rfl) ?_
  refine o_assign gn rfl rfl ?_
  refine wl_end ?_
  refine w_seq ?_
  refine w_region (by kernel_rfl) ?_
  refine o_move gn rfl rfl ?_
  refine o_move gn rfl rfl ?_
  refine o_nei gn rfl rfl rfl ?_
  refine o_assign gn rfl rfl ?_
  refine wl_end ?_
  refine w_ret ?_
  refine ⟨.inl rfl, _, rfl, ?_⟩
  exact ⟨by rw [self_ne]; rfl, rfl⟩
theorem c20 : CP givE 20 [iV a] h (.bool false) := by
  refine c_enter (fu := Tryz.f20) (by kernel_rfl) rfl ?_
  refine w_seq ?_
  refine w_region (by kernel_rfl) ?_
  refine o_assign gn rfl rfl ?_
  refine wl_end ?_
  refine w_seq ?_
  refine w_region (by kernel_rfl) ?_
  refine o_move gn rfl rfl ?_
  refine o_move gn rfl rfl ?_
  refine o_nei gn rfl rfl rfl ?_
  refine o_assign gn rfl rfl ?_
  refine wl_end ?_
  refine w_ret ?_
  refine ⟨.inl rfl, _, rfl, ?_⟩
  exact ⟨by rw [self_ne]; rfl, rfl⟩
/-- cmp.Compare -/
theorem c12 : CP givE 12 [iV a, iV b] h (iV (cmpI a b)) := by
  refine c_enter (fu := Tryz.f12) (by kernel_rfl) rfl ?_
  have S := SH.start h
  refine w_seq ?_
  refine w_region (by kernel_rfl) ?_
  refine o_assign gn rfl rfl ?_
  refine wl_end ?_
  refine w_seq ?_
  refine w_region (by kernel_rfl) ?_
  refine o_move gn rfl rfl ?_
  refine o_call [_] gn rfl rfl (by kernel_rfl) rfl (c_pure (c19) ⟨ag0, ?_⟩)
  refine o_assign gn rfl rfl ?_
  refine wl_end ?_
  refine w_seq ?_
  refine w_region (by kernel_rfl) ?_
  refine o_move gn rfl rfl ?_
  refine o_call [_] gn rfl rfl (by kernel_rfl) rfl (c_pure (c19) ⟨ag0, ?_⟩)
  refine o_assign gn rfl rfl ?_
  refine wl_end ?_
  refine w_seq ?_
  refine w_seq ?_
  refine w_region (by kernel_rfl) ?_
  refine o_move gn rfl rfl ?_
  refine wl_end ?_
  refine w_cond rfl (fun hb => ?_) fun hb => ?_
  · skip
    refine w_seq ?_
    refine w_seq ?_
    exact absurd hb (by decide)
  refine w_skip ?_
  refine w_seq ?_
  refine w_seq ?_
  refine w_region (by kernel_rfl) ?_
  refine o_move gn rfl rfl ?_
  refine wl_end ?_
  refine w_cond rfl (fun hb => ?_) fun hb => ?_
  · skip
    refine w_seq ?_
    exact absurd hb (by decide)
  refine w_skip ?_
  refine w_seq ?_
  refine w_seq ?_
  refine w_region (by kernel_rfl) ?_
  refine o_move gn rfl rfl ?_
  refine o_move gn rfl rfl ?_
  refine o_lss gn rfl rfl rfl ?_
  refine wl_end ?_
  refine w_cond rfl (fun hb => ?_) fun hb => ?_
  · skip
    refine w_seq ?_
    refine w_region (by kernel_rfl) ?_
    refine o_assign gn rfl rfl ?_
    refine wl_end ?_
    refine w_ret ?_
    refine ⟨.inl rfl, _, rfl, ?_⟩
    exact ⟨by rw [cmp_lt hb]; rfl, rfl⟩
  refine w_skip ?_
  refine w_seq ?_
  refine w_seq ?_
  have hb1 := hb
  refine w_region (by kernel_rfl) ?_
  refine o_move gn rfl rfl ?_
  refine o_move gn rfl rfl ?_
  refine o_gtr gn rfl rfl rfl ?_
  refine wl_end ?_
  refine w_cond rfl (fun hb => ?_) fun hb => ?_
  · skip
    refine w_seq ?_
    refine w_region (by kernel_rfl) ?_
    refine o_assign gn rfl rfl ?_
    refine wl_end ?_
    refine w_ret ?_
    refine ⟨.inl rfl, _, rfl, ?_⟩
    exact ⟨by rw [cmp_gt hb1 hb]; rfl, rfl⟩
  refine w_skip ?_
  refine w_seq ?_
  refine w_region (by kernel_rfl) ?_
  refine o_assign gn rfl rfl ?_
  refine wl_end ?_
  refine w_ret ?_
  refine ⟨.inl rfl, _, rfl, ?_⟩
  exact ⟨by rw [cmp_eq hb1 hb]; rfl, rfl⟩
theorem c13 : CP givE 13 [iV a, iV b] h (iV (cmpI a b)) := by
  refine c_enter (fu := Tryz.f13) (by kernel_rfl) rfl ?_
  have S := SH.start h
  refine w_seq ?_
  refine w_region (by kernel_rfl) ?_
  refine o_assign gn rfl rfl ?_
  refine wl_end ?_
  refine w_seq ?_
  refine w_region (by kernel_rfl) ?_
  refine o_move gn rfl rfl ?_
  refine o_call [_] gn rfl rfl (by kernel_rfl) rfl (c_pure (c20) ⟨ag0, ?_⟩)
  refine o_assign gn rfl rfl ?_
  refine wl_end ?_
  refine w_seq ?_
  refine w_region (by kernel_rfl) ?_
  refine o_move gn rfl rfl ?_
  refine o_call [_] gn rfl rfl (by kernel_rfl) rfl (c_pure (c20) ⟨ag0, ?_⟩)
  refine o_assign gn rfl rfl ?_
  refine wl_end ?_
  refine w_seq ?_
  refine w_seq ?_
  refine w_region (by kernel_rfl) ?_
  refine o_move gn rfl rfl ?_
  refine wl_end ?_
  refine w_cond rfl (fun hb => ?_) fun hb => ?_
  · skip
    refine w_seq ?_
    refine w_seq ?_
    exact absurd hb (by decide)
  refine w_skip ?_
  refine w_seq ?_
  refine w_seq ?_
  refine w_region (by kernel_rfl) ?_
  refine o_move gn rfl rfl ?_
  refine wl_end ?_
  refine w_cond rfl (fun hb => ?_) fun hb => ?_
  · skip
    refine w_seq ?_
    exact absurd hb (by decide)
  refine w_skip ?_
  refine w_seq ?_
  refine w_seq ?_
  refine w_region (by kernel_rfl) ?_
  refine o_move gn rfl rfl ?_
  refine o_move gn rfl rfl ?_
  refine o_lss gn rfl rfl rfl ?_
  refine wl_end ?_
  refine w_cond rfl (fun hb => ?_) fun hb => ?_
  · skip
    refine w_seq ?_
    refine w_region (by kernel_rfl) ?_
    refine o_assign gn rfl rfl ?_
    refine wl_end ?_
    refine w_ret ?_
    refine ⟨.inl rfl, _, rfl, ?_⟩
    exact ⟨by rw [cmp_lt hb]; rfl, rfl⟩
  refine w_skip ?_
  refine w_seq ?_
  refine w_seq ?_
  have hb1 := hb
  refine w_region (by kernel_rfl) ?_
  refine o_move gn rfl rfl ?_
  refine o_move gn rfl rfl ?_
  refine o_gtr gn rfl rfl rfl ?_
  refine wl_end ?_
  refine w_cond rfl (fun hb => ?_) fun hb => ?_
  · skip
    refine w_seq ?_
    refine w_region (by kernel_rfl) ?_
    refine o_assign gn rfl rfl ?_
    refine wl_end ?_
    refine w_ret ?_
    refine ⟨.inl rfl, _, rfl, ?_⟩
    exact ⟨by rw [cmp_gt hb1 hb]; rfl, rfl⟩
  refine w_skip ?_
  refine w_seq ?_
  refine w_region (by kernel_rfl) ?_
  refine o_assign gn rfl rfl ?_
  refine wl_end ?_
  refine w_ret ?_
  refine ⟨.inl rfl, _, rfl, ?_⟩
  exact ⟨by rw [cmp_eq hb1 hb]; rfl, rfl⟩
/-- cmp.Or, of two -/
theorem c11 (hg : h.get qb = some (.cells [iV a, iV b] e m)) : CP givE 11 [.slice (some ⟨qb, 0, none⟩) 2 2] h (iV (if a = 0 then b else a)) := by
  refine c_enter (fu := Tryz.f11) (by kernel_rfl) rfl ?_
  have S := SH.start h
  refine w_seq ?_
  refine w_region (by kernel_rfl) ?_
  refine o_assign gn rfl rfl ?_
  refine wl_end ?_
  refine w_seq ?_
  refine w_region (by kernel_rfl) ?_
  refine o_assign gn rfl rfl ?_
  refine wl_end ?_
  refine w_seq ?_
  refine w_seq ?_
  refine w_region (by kernel_rfl) ?_
  refine o_move gn rfl rfl ?_
  refine o_len gn rfl rfl (by kernel_rfl) ?_
  refine o_move gn rfl rfl ?_
  refine wl_end ?_
  refine w_block ?_
  refine w_loopS [(8, _)] [(3, _), (6, _), (7, _)] (by repeat (first | exact trivial | refine ⟨rfl, ?_⟩)) (fun kk lv hh => ∃ j : Nat, lv = [(8, iV j)] ∧ kk = 2 - j ∧ j ≤ 2 ∧ hh = h ∧ (0 < j → a = 0) ∧ (1 < j → b = 0)) (n := 2) ?_ fun kk lv hh hI => ?_
  · exact ⟨0, rfl, rfl, by omega, rfl, by omega, by omega⟩
  obtain ⟨j, rfl, rfl, hj, rfl, h1, h2⟩ := hI
  refine w_seq ?_
  refine w_region (by kernel_rfl) ?_
  refine o_lss gn rfl rfl rfl ?_
  refine wl_end ?_
  refine w_seq ?_
  refine w_cond rfl (fun hb => ?_) fun hb => ?_
  · skip
    refine w_skip ?_
    refine w_seq ?_
    refine w_block ?_
    refine w_seq ?_
    have hj2 : j < 2 := by simp at hb; omega
    have hw : ([iV a, iV b] : List Value)[0 + Int.toNat (j : Int) * 1]? = some (iV ([a, b][j])) := by
      rw [Int.toNat_natCast, Nat.mul_one, Nat.zero_add]
      match j, hj2 with
      | 0, _ => rfl
      | 1, _ => rfl
    refine w_region (by kernel_rfl) ?_
    refine o_indexAddr (zz := 1) gn rfl rfl rfl (by kernel_rfl) (by omega) (by omega) ?_
    refine o_load gn rfl rfl (by kernel_rfl) hg hw ?_
    refine o_assign gn rfl rfl ?_
    refine wl_end ?_
    refine w_seq ?_
    refine w_region (by kernel_rfl) ?_
    refine o_move gn rfl rfl ?_
    refine o_move gn rfl rfl ?_
    refine o_nei gn rfl rfl rfl ?_
    refine wl_end ?_
    refine w_cond rfl (fun hb => ?_) fun hb => ?_
    · skip
      refine w_seq ?_
      refine w_region (by kernel_rfl) ?_
      refine o_move gn rfl rfl ?_
      refine o_assign gn rfl rfl ?_
      refine wl_end ?_
      refine w_ret ?_
      refine ⟨.inl rfl, _, rfl, ?_⟩
      exact ⟨by
        match j, hj2, hb with
        | 0, _, hb =>
          have : ¬ a = 0 := by simpa using hb
          rw [if_neg this]; rfl
        | 1, _, hb => rw [if_pos (h1 (by omega))]; rfl, rfl⟩
    refine w_skip ?_
    refine w_region (by kernel_rfl) ?_
    refine o_add gn rfl rfl rfl (by omega) (by omega) ?_
    refine o_move gn rfl rfl ?_
    refine wl_end ?_
    exact rndS (2 - (j + 1)) (by omega) [(8, _)] (by repeat (first | exact trivial | refine ⟨rfl, ?_⟩)) ⟨j + 1, rfl, rfl, by omega, rfl, fun _ => by
      by_cases e0 : j = 0
      · subst e0; simpa using hb
      · exact h1 (by omega), fun hj1 => by
      have e1 : j = 1 := by omega
      subst e1; simpa using hb⟩
  refine w_exit ?_
  refine thn_exit ?_
  refine rnd_exit ?_
  refine blk_eq ?_
  refine w_seq ?_
  have hje : j = 2 := by simp at hb; omega
  refine w_region (by kernel_rfl) ?_
  refine o_move gn rfl rfl ?_
  refine o_assign gn rfl rfl ?_
  refine wl_end ?_
  refine w_ret ?_
  refine ⟨.inl rfl, _, rfl, ?_⟩
  exact ⟨by rw [if_pos (h1 (by omega)), h2 (by omega)]; rfl, rfl⟩
/-- Given's order -/
theorem c10 : C givE 10 [enV x, enV y] h fun v h' => v = iV (cmpE x y) ∧ Ext h h' := by
  refine c_enter (fu := Tryz.f10) (by kernel_rfl) rfl ?_
  have S := SH.start h
  refine w_seq ?_
  refine w_region (by kernel_rfl) ?_
  refine s_box S gn rfl rfl fun b1 g nb1 S => ?_
  refine s_box S gn rfl rfl fun b2 g nb2 S => ?_
  refine o_assign gn rfl rfl ?_
  refine wl_end ?_
  refine w_seq ?_
  refine w_draw [(0, []), (1, []), (2, []), (3, []), (5, []), (6, []), (7, []), (8, []), (4, [6, 8]), (9, []), (10, []), (11, []), (12, [])] (by kernel_rfl) (by kernel_rfl) (by kernel_rfl) (by kernel_rfl) ?_
  refine o_fieldAddr (off := 0) gn rfl rfl (by kernel_rfl) ?_
  refine o_load gn rfl rfl (by kernel_rfl) (by first | exact S.cel 0 rfl | exact S.cel 1 rfl | exact S.cel 2 rfl | exact S.cel 3 rfl) rfl ?_
  refine o_fieldAddr (off := 0) gn rfl rfl (by kernel_rfl) ?_
  refine o_load gn rfl rfl (by kernel_rfl) (by first | exact S.cel 0 rfl | exact S.cel 1 rfl | exact S.cel 2 rfl | exact S.cel 3 rfl) rfl ?_
  refine o_fieldAddr (off := 1) gn rfl rfl (by kernel_rfl) ?_
  refine o_load gn rfl rfl (by kernel_rfl) (by first | exact S.cel 0 rfl | exact S.cel 1 rfl | exact S.cel 2 rfl | exact S.cel 3 rfl) rfl ?_
  refine o_fieldAddr (off := 1) gn rfl rfl (by kernel_rfl) ?_
  refine o_load gn rfl rfl (by kernel_rfl) (by first | exact S.cel 0 rfl | exact S.cel 1 rfl | exact S.cel 2 rfl | exact S.cel 3 rfl) rfl ?_
  refine o_call [_, _] gn rfl rfl (by kernel_rfl) rfl (c_pure (c12) ⟨(ag1 (ag_load gn rfl (by kernel_rfl) (by first | exact S.cel 0 rfl | exact S.cel 1 rfl | exact S.cel 2 rfl | exact S.cel 3 rfl) rfl rfl same_int) (ag1 (ag_load gn rfl (by kernel_rfl) (by first | exact S.cel 0 rfl | exact S.cel 1 rfl | exact S.cel 2 rfl | exact S.cel 3 rfl) rfl rfl same_int) ag0)), ?_⟩)
  refine o_call [_, _] gn rfl rfl (by kernel_rfl) rfl (c_pure (c13) ⟨ag0, ?_⟩)
  refine s_buildSlice (cs := #[iV (cmpI y.K x.K), iV (cmpI x.At y.At)]) (e := 3) (z := 0) (zv := .int .i64 0) [(0, _), (1, _)] S gn rfl (by kernel_rfl) (by kernel_rfl) (by kernel_rfl) (by kernel_rfl) rfl (by kernel_rfl) fun b3 g nb3 S => ?_
  refine o_call [_] gn rfl rfl (by kernel_rfl) rfl (c_pure (c11 (S.cel 0 rfl)) ⟨ag0, ?_⟩)
  refine o_assign gn rfl rfl ?_
  refine wl_end ?_
  refine w_ret ?_
  refine ⟨.inl rfl, _, rfl, ?_⟩
  exact ⟨rfl, S.e0⟩
end
section
variable {h0 h : Hp} {ds : List Nat} {L : List Res} {P A M B Q : List En} {rest : List Value} {k n c b m : Nat} {fv : Value}
set_option maxHeartbeats 1000000 in
/-- swapRange -/
theorem c55 (hA : A.length = k) (hB : B.length = k) (hn : (P ++ A ++ M ++ B ++ Q).length = n) (hn2 : n ≤ 1000000) (hm : m ≠ 1) (S0 : SH h0 ds (cR b (.cells (enCs (P ++ A ++ M ++ B ++ Q) ++ rest) 31 m) :: L) h) :
    C givE 55 [.slice (some ⟨b, 0, none⟩) n c, iV P.length, iV (P.length + k + M.length : Nat), iV k, fv] h fun _ h' => SH h0 ds (cR b (.cells (enCs (P ++ B ++ M ++ A ++ Q) ++ rest) 31 m) :: L) h' := by
  have hnl : n = P.length + k + M.length + k + Q.length := by
    rw [← hn]; simp only [List.length_append]; omega
  refine c_enter (fu := Tryz.f55) (by kernel_rfl) rfl ?_
  have S := S0
  refine w_seq ?_
  refine w_region (by kernel_rfl) ?_
  refine o_assign gn rfl rfl ?_
  refine wl_end ?_
  refine w_block ?_
  refine w_loopS [(10, _)] [(0, _), (1, _), (2, _), (3, _)] (by repeat (first | exact trivial | refine ⟨rfl, ?_⟩)) (fun kk lv hh => ∃ i : Nat, lv = [(10, iV i)] ∧ kk = k - i ∧ i ≤ k ∧ SH h0 ds (cR b (.cells (enCs (P ++ (B.take i ++ A.drop i) ++ M ++ (A.take i ++ B.drop i) ++ Q) ++ rest) 31 m) :: L) hh) (n := k) ?_ fun kk lv hh hI => ?_
  · exact ⟨0, rfl, rfl, by omega, by simpa using S⟩
  obtain ⟨i, rfl, rfl, hi, S⟩ := hI
  refine w_seq ?_
  refine w_seq ?_
  refine w_region (by kernel_rfl) ?_
  refine o_move gn rfl rfl ?_
  refine o_move gn rfl rfl ?_
  refine o_lss gn rfl rfl rfl ?_
  refine wl_end ?_
  refine w_cond rfl (fun hb => ?_) fun hb => ?_
  · skip
    refine w_skip ?_
    refine w_seq ?_
    refine w_block ?_
    have hi1 : i < k := by simp at hb; omega
    have hiA : i < A.length := by omega
    have hiB : i < B.length := by omega
    have hN := half_next (P := P) (M := M) (Q := Q) hiA hiB
    rw [half_cut hiA hiB] at S
    have hl1 : (P ++ B.take i).length = P.length + i := by rw [List.length_append, List.length_take]; omega
    have hl2 : (A.drop (i + 1) ++ M ++ A.take i).length = k - (i + 1) + M.length + i := by rw [List.length_append, List.length_append, List.length_drop, List.length_take]; omega
    have hl3 : (B.drop (i + 1) ++ Q).length = k - (i + 1) + Q.length := by rw [List.length_append, List.length_drop]; omega
    generalize P ++ B.take i = P' at S hN hl1
    generalize A.drop (i + 1) ++ M ++ A.take i = M' at S hN hl2
    generalize B.drop (i + 1) ++ Q = Q' at S hN hl3
    generalize A[i] = x at S hN
    generalize B[i] = y at S hN
    have hT : (P' ++ x :: M' ++ y :: Q').length = n := by simp only [List.length_append, List.length_cons]; omega
    have hT2 : (P' ++ y :: M' ++ y :: Q').length = n := by simp only [List.length_append, List.length_cons]; omega
    have hC : (enCs (P' ++ x :: M' ++ y :: Q') ++ rest).length = n * 3 + rest.length := by rw [List.length_append, enCs_len, hT]
    have e1 : Int.toNat ((P.length : Int) + (i : Int)) = P'.length := by omega
    have e2 : Int.toNat (((P.length + k + M.length : Nat) : Int) + (i : Int)) = P'.length + 1 + M'.length := by omega
    have hw2 : ((enCs (P' ++ x :: M' ++ y :: Q') ++ rest).drop (0 + Int.toNat (((P.length + k + M.length : Nat) : Int) + (i : Int)) * 3)).take 3 = enC y := by
      rw [e2, Nat.zero_add, enCs_at _ _ (by omega), at_snd rfl]
    have hw1 : ((enCs (P' ++ x :: M' ++ y :: Q') ++ rest).drop (0 + Int.toNat ((P.length : Int) + (i : Int)) * 3)).take 3 = enC x := by
      rw [e1, Nat.zero_add, enCs_at _ _ (by omega), at_fst]
    refine w_draw [(0, []), (1, []), (2, []), (3, []), (4, []), (5, []), (6, []), (7, []), (8, []), (9, []), (10, []), (11, []), (12, []), (13, []), (14, []), (15, []), (16, []), (17, []), (18, []), (19, []), (20, []), (21, [7]), (22, []), (23, [])] (by kernel_rfl) (by kernel_rfl) (by kernel_rfl) (by kernel_rfl) ?_
    refine o_move gn rfl rfl ?_
    refine o_move gn rfl rfl ?_
    refine o_move gn rfl rfl ?_
    refine o_add gn rfl rfl rfl (by omega) (by omega) ?_
    refine o_move gn rfl rfl ?_
    refine o_move gn rfl rfl ?_
    refine o_move gn rfl rfl ?_
    refine o_add gn rfl rfl rfl (by omega) (by omega) ?_
    refine o_move gn rfl rfl ?_
    refine o_move gn rfl rfl ?_
    refine o_move gn rfl rfl ?_
    refine o_add gn rfl rfl rfl (by omega) (by omega) ?_
    refine o_indexAddr (zz := 3) gn rfl rfl rfl (by kernel_rfl) (by omega) (by omega) ?_
    refine o_loadA (n := 3) gn rfl rfl (by kernel_rfl) (by kernel_rfl) (S.cel 0 rfl) (by rw [hC]; omega) ?_
    rw [hw2]
    refine o_move gn rfl rfl ?_
    refine o_move gn rfl rfl ?_
    refine o_move gn rfl rfl ?_
    refine o_add gn rfl rfl rfl (by omega) (by omega) ?_
    refine o_indexAddr (zz := 3) gn rfl rfl rfl (by kernel_rfl) (by omega) (by omega) ?_
    refine o_loadA (n := 3) gn rfl rfl (by kernel_rfl) (by kernel_rfl) (S.cel 0 rfl) (by rw [hC]; omega) ?_
    rw [hw1]
    refine o_indexAddr (zz := 3) gn rfl rfl rfl (by kernel_rfl) (by omega) (by omega) ?_
    refine s_storeR (n := 3) (cs' := enCs ((P' ++ x :: M' ++ y :: Q').set P'.length y) ++ rest) 0 S gn rfl rfl rfl (by kernel_rfl) rfl rfl hm (by rw [hC]; omega) (by rw [e1, Nat.zero_add]; exact enCs_set _ _ (by omega) y rest) (fun g S => ag1 (ag_add gn rfl rfl (by omega) (by omega) rfl) ag0) fun g S => ?_
    refine o_indexAddr (zz := 3) gn rfl rfl rfl (by kernel_rfl) (by omega) (by omega) ?_
    refine s_storeR (n := 3) (cs' := enCs (((P' ++ x :: M' ++ y :: Q').set P'.length y).set (P'.length + 1 + M'.length) x) ++ rest) 0 S gn rfl rfl rfl (by kernel_rfl) rfl rfl hm (by rw [List.length_append, enCs_len, List.length_set, hT]; omega) (by rw [e2, Nat.zero_add]; exact enCs_set _ _ (by rw [List.length_set]; omega) x rest) (fun g S => ag0) fun g S => ?_
    rw [set_two rfl rfl, hN] at S
    refine wl_end ?_
    refine w_region (by kernel_rfl) ?_
    refine o_move gn rfl rfl ?_
    refine o_add gn rfl rfl rfl (by omega) (by omega) ?_
    refine o_assign gn rfl rfl ?_
    refine wl_end ?_
    exact rndS (k - (i + 1)) (by omega) [(10, _)] (by repeat (first | exact trivial | refine ⟨rfl, ?_⟩)) ⟨i + 1, rfl, rfl, by omega, S⟩
  refine w_exit ?_
  refine thn_exit ?_
  refine rnd_exit ?_
  refine blk_eq ?_
  refine ⟨.inr rfl, _, rfl, ?_⟩
  have hie : i = k := by simp at hb; omega
  exact (by
    rw [hie, ← hA, List.take_length, List.drop_length, hA, ← hB, List.take_length, List.drop_length] at S
    simpa using S)
end
end Go.Proofs.YthjghimpfpgajaaGreatDoor

namespace Go.Proofs.YthjghimpfpgajaaGreatDoor
open Go.X Go.Giv

section
variable {h0 h : Hp} {ds : List Nat} {L : List Res} {P A M B Q : List En} {rest : List Value} {k n c b m : Nat} {fv : Value} {ai mi bi ki : Int}
theorem c55' (hA : A.length = k) (hB : B.length = k) (hn : (P ++ A ++ M ++ B ++ Q).length = n) (hn2 : n ≤ 1000000) (hm : m ≠ 1) (h1 : ai = P.length) (h2 : bi = (P.length + k + M.length : Nat)) (h3 : ki = k) (S0 : SH h0 ds (cR b (.cells (enCs (P ++ A ++ M ++ B ++ Q) ++ rest) 31 m) :: L) h) :
    C givE 55 [.slice (some ⟨b, 0, none⟩) n c, iV ai, iV bi, iV ki, fv] h fun _ h' => SH h0 ds (cR b (.cells (enCs (P ++ B ++ M ++ A ++ Q) ++ rest) 31 m) :: L) h' := by
  subst h1; subst h2; subst h3
  exact c55 hA hB hn hn2 hm S0
set_option maxHeartbeats 1000000 in
/-- rotate -/
theorem c37 (hA : 0 < A.length) (hB : 0 < B.length) (hn : (P ++ A ++ B ++ Q).length = n) (hn2 : n ≤ 1000000) (hm : m ≠ 1) (h1 : ai = P.length) (h2 : mi = (P.length + A.length : Nat)) (h3 : bi = (P.length + A.length + B.length : Nat)) (S0 : SH h0 ds (cR b (.cells (enCs (P ++ A ++ B ++ Q) ++ rest) 31 m) :: L) h) :
    C givE 37 [.slice (some ⟨b, 0, none⟩) n c, iV ai, iV mi, iV bi, fv] h fun _ h' => SH h0 ds (cR b (.cells (enCs (P ++ B ++ A ++ Q) ++ rest) 31 m) :: L) h' := by
  have hnl : n = P.length + A.length + B.length + Q.length := by
    rw [← hn]; simp only [List.length_append]
  refine c_enter (fu := Tryz.f37) (by kernel_rfl) rfl ?_
  have S := S0
  refine w_seq ?_
  refine w_region (by kernel_rfl) ?_
  refine o_move gn rfl rfl ?_
  refine o_move gn rfl rfl ?_
  refine o_sub gn rfl rfl rfl (by omega) (by omega) ?_
  refine o_assign gn rfl rfl ?_
  refine wl_end ?_
  refine w_seq ?_
  refine w_region (by kernel_rfl) ?_
  refine o_move gn rfl rfl ?_
  refine o_move gn rfl rfl ?_
  refine o_sub gn rfl rfl rfl (by omega) (by omega) ?_
  refine o_assign gn rfl rfl ?_
  refine wl_end ?_
  refine w_seq ?_
  refine w_block ?_
  refine w_loopS [(10, _), (11, _)] [(0, _), (2, _), (4, _)] (by repeat (first | exact trivial | refine ⟨rfl, ?_⟩)) (fun kk lv hh => ∃ P' A' B' Q' : List En, lv = [(10, iV A'.length), (11, iV B'.length)] ∧ kk = A'.length + B'.length ∧ 0 < A'.length ∧ 0 < B'.length ∧ P'.length + A'.length = P.length + A.length ∧ P' ++ B' ++ A' ++ Q' = P ++ B ++ A ++ Q ∧ SH h0 ds (cR b (.cells (enCs (P' ++ A' ++ B' ++ Q') ++ rest) 31 m) :: L) hh) (n := (A.length + B.length)) ?_ fun kk lv hh hI => ?_
  · exact ⟨P, A, B, Q, by
    rw [show mi - ai = (A.length : Int) by omega, show bi - mi = (B.length : Int) by omega], rfl, hA, hB, rfl, rfl, S⟩
  obtain ⟨P', A', B', Q', rfl, rfl, hA', hB', hPA, hall, S⟩ := hI
  have hnl' : n = P'.length + A'.length + B'.length + Q'.length := by
    have := congrArg List.length hall
    simp only [List.length_append] at this
    omega
  refine w_seq ?_
  refine w_seq ?_
  refine w_region (by kernel_rfl) ?_
  refine o_move gn rfl rfl ?_
  refine o_move gn rfl rfl ?_
  refine o_nei gn rfl rfl rfl ?_
  refine wl_end ?_
  refine w_cond rfl (fun hb => ?_) fun hb => ?_
  · skip
    refine w_skip ?_
    refine w_block ?_
    refine w_seq ?_
    have hb0 := hb
    refine w_region (by kernel_rfl) ?_
    refine o_move gn rfl rfl ?_
    refine o_move gn rfl rfl ?_
    refine o_gtr gn rfl rfl rfl ?_
    refine wl_end ?_
    refine w_cond rfl (fun hb => ?_) fun hb => ?_
    · skip
      refine w_seq ?_
      have hij : B'.length < A'.length := by have := of_decide_eq_true hb; omega
      obtain ⟨A1, A2, hA12, hl1⟩ : ∃ A1 A2 : List En, A' = A1 ++ A2 ∧ A1.length = B'.length := ⟨A'.take B'.length, A'.drop B'.length, (List.take_append_drop _ _).symm, by rw [List.length_take]; omega⟩
      subst hA12
      have hl2 : (A1 ++ A2).length = A1.length + A2.length := List.length_append
      have ea : P' ++ (A1 ++ A2) ++ B' ++ Q' = P' ++ A1 ++ A2 ++ B' ++ Q' := by simp only [List.append_assoc]
      rw [ea] at S
      refine w_region (by kernel_rfl) ?_
      refine o_move gn rfl rfl ?_
      refine o_move gn rfl rfl ?_
      refine o_move gn rfl rfl ?_
      refine o_sub gn rfl rfl rfl (by omega) (by omega) ?_
      refine o_move gn rfl rfl ?_
      refine o_move gn rfl rfl ?_
      refine o_move gn rfl rfl ?_
      refine o_call [_, _, _, _, _] gn rfl rfl (by kernel_rfl) rfl (C.mono (c55' (P := P') (A := A1) (M := A2) (B := B') (Q := Q') (k := B'.length) hl1 rfl (by simp only [List.length_append] at *; omega) hn2 hm (by omega) (by omega) rfl S) ?_)
      rintro v g S
      skip
      refine ⟨ag0, ?_⟩
      refine wl_end ?_
      refine w_region (by kernel_rfl) ?_
      refine o_move gn rfl rfl ?_
      refine o_move gn rfl rfl ?_
      refine o_sub gn rfl rfl rfl (by omega) (by omega) ?_
      refine o_assign gn rfl rfl ?_
      refine wl_end ?_
      refine blk_next ?_
      exact rndS (A2.length + B'.length) (by omega) [(10, _), (11, _)] (by repeat (first | exact trivial | refine ⟨rfl, ?_⟩)) ⟨P' ++ B', A2, A1, Q', by
        rw [show ((A1 ++ A2).length : Int) - (B'.length : Int) = (A2.length : Int) by omega, hl1], by omega, by omega, by omega, by rw [List.length_append]; omega, by rw [← hall]; simp only [List.append_assoc], by
        have eb : P' ++ B' ++ A2 ++ A1 ++ Q' = (P' ++ B') ++ A2 ++ A1 ++ Q' := rfl
        rw [← eb]; exact S⟩
    refine w_seq ?_
    have hij : A'.length < B'.length := by
      have h1 := of_decide_eq_false hb
      have h2 : ¬ (A'.length : Int) = B'.length := by simpa using hb0
      omega
    obtain ⟨B1, B2, hB12, hl1⟩ : ∃ B1 B2 : List En, B' = B1 ++ B2 ∧ B1.length = B'.length - A'.length := ⟨B'.take (B'.length - A'.length), B'.drop (B'.length - A'.length), (List.take_append_drop _ _).symm, by rw [List.length_take]; omega⟩
    subst hB12
    have hl2 : (B1 ++ B2).length = B1.length + B2.length := List.length_append
    have ea : P' ++ A' ++ (B1 ++ B2) ++ Q' = P' ++ A' ++ B1 ++ B2 ++ Q' := by simp only [List.append_assoc]
    rw [ea] at S
    refine w_region (by kernel_rfl) ?_
    refine o_move gn rfl rfl ?_
    refine o_move gn rfl rfl ?_
    refine o_move gn rfl rfl ?_
    refine o_sub gn rfl rfl rfl (by omega) (by omega) ?_
    refine o_move gn rfl rfl ?_
    refine o_move gn rfl rfl ?_
    refine o_add gn rfl rfl rfl (by omega) (by omega) ?_
    refine o_move gn rfl rfl ?_
    refine o_sub gn rfl rfl rfl (by omega) (by omega) ?_
    refine o_move gn rfl rfl ?_
    refine o_move gn rfl rfl ?_
    refine o_call [_, _, _, _, _] gn rfl rfl (by kernel_rfl) rfl (C.mono (c55' (P := P') (A := A') (M := B1) (B := B2) (Q := Q') (k := A'.length) rfl (by omega) (by simp only [List.length_append] at *; omega) hn2 hm (by omega) (by omega) rfl S) ?_)
    rintro v g S
    skip
    refine ⟨ag0, ?_⟩
    refine wl_end ?_
    refine w_region (by kernel_rfl) ?_
    refine o_move gn rfl rfl ?_
    refine o_move gn rfl rfl ?_
    refine o_sub gn rfl rfl rfl (by omega) (by omega) ?_
    refine o_assign gn rfl rfl ?_
    refine wl_end ?_
    refine blk_next ?_
    exact rndS (A'.length + B1.length) (by omega) [(10, _), (11, _)] (by repeat (first | exact trivial | refine ⟨rfl, ?_⟩)) ⟨P', B2, B1, A' ++ Q', by
      rw [show ((B1 ++ B2).length : Int) - (A'.length : Int) = (B1.length : Int) by omega, show (A'.length : Int) = (B2.length : Int) by omega], by omega, by omega, by omega, by omega, by rw [← hall]; simp only [List.append_assoc], by
      have eb : P' ++ B2 ++ B1 ++ A' ++ Q' = P' ++ B2 ++ B1 ++ (A' ++ Q') := by simp only [List.append_assoc]
      rw [← eb]; exact S⟩
  refine w_exit ?_
  refine thn_exit ?_
  refine rnd_exit ?_
  refine blk_eq ?_
  have hij : A'.length = B'.length := by
    have h2 : (A'.length : Int) = B'.length := by simpa using hb
    omega
  have ea : P' ++ A' ++ B' ++ Q' = P' ++ A' ++ [] ++ B' ++ Q' := by simp only [List.append_assoc, List.nil_append]
  rw [ea] at S
  refine w_region (by kernel_rfl) ?_
  refine o_move gn rfl rfl ?_
  refine o_move gn rfl rfl ?_
  refine o_move gn rfl rfl ?_
  refine o_sub gn rfl rfl rfl (by omega) (by omega) ?_
  refine o_move gn rfl rfl ?_
  refine o_move gn rfl rfl ?_
  refine o_move gn rfl rfl ?_
  refine o_call [_, _, _, _, _] gn rfl rfl (by kernel_rfl) rfl (C.mono (c55' (P := P') (A := A') (M := []) (B := B') (Q := Q') (k := A'.length) rfl hij.symm (by simp only [List.length_append, List.length_nil] at *; omega) hn2 hm (by omega) (by simp only [List.length_nil]; omega) rfl S) ?_)
  rintro v g S
  skip
  refine ⟨ag0, ?_⟩
  refine wl_end ?_
  refine ⟨.inr rfl, _, rfl, ?_⟩
  exact (by
    have eb : P' ++ B' ++ [] ++ A' ++ Q' = P ++ B ++ A ++ Q := by rw [← hall]; simp only [List.append_assoc, List.nil_append]
    rw [← eb]; exact S)
end
end Go.Proofs.YthjghimpfpgajaaGreatDoor

namespace Go.Proofs.YthjghimpfpgajaaGreatDoor
open Go.X Go.Giv

abbrev cmpF : Value := .func (.func 10) #[] #[]
section
variable {h0 h : Hp} {ds : List Nat} {L : List Res} {P Q : List En} {W : List (En × Nat)} {rest : List Value} {n c b m : Nat} {ai bi : Int}
set_option maxHeartbeats 1000000 in
/-- insertionSort -/
theorem c25 (hW : Inc W) (hI : In W) (hn : (P ++ (fs W ++ Q)).length = n) (hn2 : n ≤ 1000000) (hm : m ≠ 1) (h1 : ai = P.length) (h2 : bi = (P.length + W.length : Nat)) (S0 : SH h0 ds (cR b (.cells (enCs (P ++ (fs W ++ Q)) ++ rest) 31 m) :: L) h) :
    C givE 25 [.slice (some ⟨b, 0, none⟩) n c, iV ai, iV bi, cmpF] h fun _ h' => ∃ S : List (En × Nat), S.Perm W ∧ Srt rk S ∧ SH h0 ds (cR b (.cells (enCs (P ++ (fs S ++ Q)) ++ rest) 31 m) :: L) h' := by
  have hnl : n = P.length + W.length + Q.length := by
    rw [← hn]; simp only [List.length_append, List.length_map]; omega
  subst h1; subst h2
  refine c_enter (fu := Tryz.f25) (by kernel_rfl) rfl ?_
  have S := S0
  refine w_seq ?_
  refine w_region (by kernel_rfl) ?_
  refine o_move gn rfl rfl ?_
  refine o_add gn rfl rfl rfl (by omega) (by omega) ?_
  refine o_assign gn rfl rfl ?_
  refine wl_end ?_
  refine w_block ?_
  refine w_loopS [(8, _)] [(0, _), (1, _), (2, _), (3, _)] (by repeat (first | exact trivial | refine ⟨rfl, ?_⟩)) (fun kk lv hh => ∃ (k : Nat) (U : List (En × Nat)), lv = [(8, iV (P.length + k : Nat))] ∧ kk = W.length - k ∧ 1 ≤ k ∧ (k ≤ W.length ∨ k = 1) ∧ U.Perm (W.take k) ∧ Srt rk U ∧ SH h0 ds (cR b (.cells (enCs (P ++ (fs U ++ (fs (W.drop k) ++ Q))) ++ rest) 31 m) :: L) hh) (n := (W.length - 1)) ?_ fun kk lv hh hI => ?_
  · exact ⟨1, W.take 1, rfl, rfl, Nat.le_refl _, .inr rfl, .refl _, by
    match W with
    | [] => exact .nil
    | x :: _ => exact List.pairwise_singleton _ _, by
    have e : fs W = fs (W.take 1) ++ fs (W.drop 1) := by rw [← List.map_append, List.take_append_drop]
    rw [e, List.append_assoc] at S
    exact S⟩
  obtain ⟨k, U0, rfl, rfl, hk1, hk2, hp0, hs0, S⟩ := hI
  refine w_seq ?_
  refine w_seq ?_
  refine w_region (by kernel_rfl) ?_
  refine o_move gn rfl rfl ?_
  refine o_move gn rfl rfl ?_
  refine o_lss gn rfl rfl rfl ?_
  refine wl_end ?_
  refine w_cond rfl (fun hb => ?_) fun hb => ?_
  · skip
    refine w_skip ?_
    refine w_seq ?_
    refine w_block ?_
    refine w_seq ?_
    have hkW : k < W.length := by simp at hb; omega
    have hx : W.drop k = W[k] :: W.drop (k + 1) := List.drop_eq_getElem_cons hkW
    have hxm : W[k] ∈ W := List.getElem_mem hkW
    have htk : W.take (k + 1) = W.take k ++ [W[k]] := by rw [List.take_add_one, List.getElem?_eq_getElem hkW]; rfl
    have hlow : ∀ u, u ∈ U0 → u.2 < W[k].2 := fun u hu => inc_low hW k u (hp0.subset hu) _ (by rw [hx]; exact List.mem_cons_self)
    have hUl : U0.length = k := by have := hp0.length_eq; rw [List.length_take] at this; omega
    have hUI : In U0 := fun u hu => hI u (List.mem_of_mem_take (hp0.subset hu))
    have hxI := hI _ hxm
    have hdl : (W.drop (k + 1)).length = W.length - (k + 1) := List.length_drop
    have hbk := hp0.append_right [W[k]]
    rw [← htk] at hbk
    rw [hx] at S
    generalize W[k] = x at S hlow hxI hbk
    obtain ⟨W2, hW2⟩ : ∃ W2, W2 = W.drop (k + 1) := ⟨_, rfl⟩
    rw [← hW2] at S hdl
    clear hx htk hxm
    refine w_region (by kernel_rfl) ?_
    refine o_move gn rfl rfl ?_
    refine o_assign gn rfl rfl ?_
    refine wl_end ?_
    refine w_block ?_
    refine w_loopS [(9, _)] [(0, _), (1, _), (2, _), (3, _), (8, _)] (by repeat (first | exact trivial | refine ⟨rfl, ?_⟩)) (fun kk lv hh => ∃ (U V : List (En × Nat)), lv = [(9, iV (P.length + U.length : Nat))] ∧ kk = U.length ∧ U ++ V = U0 ∧ (∀ v, v ∈ V → lt rk x v) ∧ SH h0 ds (cR b (.cells (enCs ((P ++ fs U) ++ x.1 :: (fs V ++ (fs W2 ++ Q))) ++ rest) 31 m) :: L) hh) (n := k) ?_ fun kk lv hh hI => ?_
    · exact ⟨U0, [], by rw [hUl], hUl.symm, List.append_nil _, by simp, by
      rw [List.append_assoc]; exact S⟩
    obtain ⟨U, V, rfl, rfl, hUV, hV, S⟩ := hI
    have hl0 : U.length + V.length = k := by rw [← hUl, ← hUV, List.length_append]
    refine w_seq ?_
    refine w_seq ?_
    refine w_draw [(0, []), (1, []), (2, []), (3, []), (4, []), (5, []), (6, []), (7, []), (8, []), (9, []), (10, []), (11, []), (12, []), (13, []), (14, []), (15, []), (16, [])] (by kernel_rfl) (by kernel_rfl) (by kernel_rfl) (by kernel_rfl) ?_
    refine o_move gn rfl rfl ?_
    refine o_move gn rfl rfl ?_
    refine o_gtr gn rfl rfl rfl ?_
    refine o_move gn rfl rfl ?_
    refine wl_split (dc := 21) rfl (fun hb21 => ?_) fun hb21 => ?_
    · skip
      obtain ⟨U', u, hUe⟩ := snoc_of (l := U) (by have := of_decide_eq_true hb21; omega)
      subst hUe
      have hlu : (U' ++ [u]).length = U'.length + 1 := by simp
      have hum : u ∈ U0 := by rw [← hUV]; simp
      have hus := hlow u hum
      have hc := cmpE_lt hxI (hUI u hum)
      have he : (P ++ fs (U' ++ [u])) ++ x.1 :: (fs V ++ (fs W2 ++ Q)) = (P ++ fs U') ++ u.1 :: x.1 :: (fs V ++ (fs W2 ++ Q)) := by simp
      rw [he] at S
      have hPl : (P ++ fs U').length = P.length + U'.length := by rw [List.length_append, List.length_map]
      have hRl : (fs V ++ (fs W2 ++ Q)).length = V.length + (W2.length + Q.length) := by rw [List.length_append, List.length_append, List.length_map, List.length_map]
      have hB2 : (P ++ fs U') ++ u.1 :: x.1 :: (fs V ++ (fs W2 ++ Q)) = P ++ (fs ((U' ++ [u]) ++ x :: V) ++ (fs W2 ++ Q)) := by simp
      obtain ⟨P', hP'⟩ : ∃ P', P' = P ++ fs U' := ⟨_, rfl⟩
      obtain ⟨R, hRe⟩ : ∃ R, R = fs V ++ (fs W2 ++ Q) := ⟨_, rfl⟩
      have hR2 : P' ++ x.1 :: u.1 :: R = (P ++ fs U') ++ x.1 :: (fs (u :: V) ++ (fs W2 ++ Q)) := by rw [hP', hRe]; rfl
      rw [← hP', ← hRe] at S hB2
      rw [← hP'] at hPl
      rw [← hRe] at hRl
      have hT : (P' ++ u.1 :: x.1 :: R).length = n := by simp only [List.length_append, List.length_cons]; omega
      have hC : (enCs (P' ++ u.1 :: x.1 :: R) ++ rest).length = n * 3 + rest.length := by rw [List.length_append, enCs_len, hT]
      have hC2 : (enCs ((P' ++ u.1 :: x.1 :: R).set (P'.length + 1) u.1) ++ rest).length = n * 3 + rest.length := by rw [List.length_append, enCs_len, List.length_set, hT]
      have ej : Int.toNat ((P.length + (U' ++ [u]).length : Nat) : Int) = P'.length + 1 := by omega
      have ei : Int.toNat (((P.length + (U' ++ [u]).length : Nat) : Int) - 1) = P'.length := by omega
      have hwj : ((enCs (P' ++ u.1 :: x.1 :: R) ++ rest).drop (0 + Int.toNat ((P.length + (U' ++ [u]).length : Nat) : Int) * 3)).take 3 = enC x.1 := by
        rw [ej, Nat.zero_add, enCs_at _ _ (by omega), nb_snd rfl]
      have hwi : ((enCs (P' ++ u.1 :: x.1 :: R) ++ rest).drop (0 + Int.toNat (((P.length + (U' ++ [u]).length : Nat) : Int) - 1) * 3)).take 3 = enC u.1 := by
        rw [ei, Nat.zero_add, enCs_at _ _ (by omega), nb_fst rfl]
      refine o_move (gy rfl rfl rfl hb21) rfl rfl ?_
      refine o_move (gy rfl rfl rfl hb21) rfl rfl ?_
      refine o_move (gy rfl rfl rfl hb21) rfl rfl ?_
      refine o_indexAddr (zz := 3) (gy rfl rfl rfl hb21) rfl rfl rfl (by kernel_rfl) (by omega) (by omega) ?_
      refine o_loadA (n := 3) (gy rfl rfl rfl hb21) rfl rfl (by kernel_rfl) (by kernel_rfl) (S.cel 0 rfl) (by rw [hC]; omega) ?_
      rw [hwj]
      refine o_move (gy rfl rfl rfl hb21) rfl rfl ?_
      refine o_move (gy rfl rfl rfl hb21) rfl rfl ?_
      refine o_sub (gy rfl rfl rfl hb21) rfl rfl rfl (by omega) (by omega) ?_
      refine o_indexAddr (zz := 3) (gy rfl rfl rfl hb21) rfl rfl rfl (by kernel_rfl) (by omega) (by omega) ?_
      refine o_loadA (n := 3) (gy rfl rfl rfl hb21) rfl rfl (by kernel_rfl) (by kernel_rfl) (S.cel 0 rfl) (by rw [hC]; omega) ?_
      rw [hwi]
      refine o_call [_, _] (gy rfl rfl rfl hb21) rfl rfl (by kernel_rfl) rfl (C.mono c10 ?_)
      rintro v g ⟨rfl, xx⟩
      have S := S.grow xx
      refine ⟨ag0, ?_⟩
      refine o_lss (gy rfl rfl rfl hb21) rfl rfl rfl ?_
      refine o_pickt gn rfl rfl hb21 rfl ?_
      refine wl_end ?_
      refine w_cond rfl (fun hb => ?_) fun hb => ?_
      · skip
        refine w_skip ?_
        refine w_seq ?_
        refine w_block ?_
        refine w_draw [(0, []), (1, []), (2, []), (3, []), (4, []), (5, []), (6, []), (7, []), (8, []), (9, []), (10, []), (11, []), (12, []), (13, []), (14, []), (15, [4]), (16, []), (17, [])] (by kernel_rfl) (by kernel_rfl) (by kernel_rfl) (by kernel_rfl) ?_
        refine o_move gn rfl rfl ?_
        refine o_move gn rfl rfl ?_
        refine o_move gn rfl rfl ?_
        refine o_move gn rfl rfl ?_
        refine o_sub gn rfl rfl rfl (by omega) (by omega) ?_
        refine o_move gn rfl rfl ?_
        refine o_move gn rfl rfl ?_
        refine o_sub gn rfl rfl rfl (by omega) (by omega) ?_
        refine o_indexAddr (zz := 3) gn rfl rfl rfl (by kernel_rfl) (by omega) (by omega) ?_
        refine o_loadA (n := 3) gn rfl rfl (by kernel_rfl) (by kernel_rfl) (S.cel 0 rfl) (by rw [hC]; omega) ?_
        rw [hwi]
        refine o_move gn rfl rfl ?_
        refine o_move gn rfl rfl ?_
        refine o_indexAddr (zz := 3) gn rfl rfl rfl (by kernel_rfl) (by omega) (by omega) ?_
        refine o_loadA (n := 3) gn rfl rfl (by kernel_rfl) (by kernel_rfl) (S.cel 0 rfl) (by rw [hC]; omega) ?_
        rw [hwj]
        refine o_indexAddr (zz := 3) gn rfl rfl rfl (by kernel_rfl) (by omega) (by omega) ?_
        refine s_storeR (n := 3) (cs' := enCs ((P' ++ u.1 :: x.1 :: R).set (P'.length + 1) u.1) ++ rest) 0 S gn rfl rfl rfl (by kernel_rfl) rfl rfl hm (by rw [hC]; omega) (by rw [ej, Nat.zero_add]; exact enCs_set _ _ (by omega) _ rest) (fun g S => ag1 (ag_sub gn rfl rfl (by omega) (by omega) rfl) ag0) fun g S => ?_
        refine o_indexAddr (zz := 3) gn rfl rfl rfl (by kernel_rfl) (by omega) (by omega) ?_
        refine s_storeR (n := 3) (cs' := enCs (((P' ++ u.1 :: x.1 :: R).set (P'.length + 1) u.1).set P'.length x.1) ++ rest) 0 S gn rfl rfl rfl (by kernel_rfl) rfl rfl hm (by rw [hC2]; omega) (by rw [ei, Nat.zero_add]; exact enCs_set _ _ (by rw [List.length_set]; omega) _ rest) (fun g S => ag0) fun g S => ?_
        rw [nb_down rfl rfl, hR2] at S
        refine wl_end ?_
        refine w_region (by kernel_rfl) ?_
        refine o_move gn rfl rfl ?_
        refine o_sub gn rfl rfl rfl (by omega) (by omega) ?_
        refine o_assign gn rfl rfl ?_
        refine wl_end ?_
        exact rndS (U'.length) (by omega) [(9, _)] (by repeat (first | exact trivial | refine ⟨rfl, ?_⟩)) ⟨U', u :: V, by rw [show ((P.length + (U' ++ [u]).length : Nat) : Int) - 1 = (P.length + U'.length : Nat) by omega], rfl, by rw [← hUV]; simp, by
          intro v hv
          rcases List.mem_cons.1 hv with rfl | hv
          · exact .inl (hc.1 (of_decide_eq_true hb))
          exact hV v hv, S⟩
      refine w_exit ?_
      refine thn_exit ?_
      refine rnd_exit ?_
      refine blk_eq ?_
      refine w_region (by kernel_rfl) ?_
      refine o_move gn rfl rfl ?_
      refine o_add gn rfl rfl rfl (by omega) (by omega) ?_
      refine o_assign gn rfl rfl ?_
      refine wl_end ?_
      exact rndS (W.length - (k + 1)) (by omega) [(8, _)] (by repeat (first | exact trivial | refine ⟨rfl, ?_⟩)) ⟨k + 1, (U' ++ [u]) ++ x :: V, by rw [show ((P.length + k : Nat) : Int) + 1 = (P.length + (k + 1) : Nat) by omega], rfl, by omega, .inl (by omega), (ins_perm hUV).trans hbk, by
        rw [← hUV] at hs0
        have hux : lt rk u x := (lt_low2 hus).2 (fun q => of_decide_eq_false hb (hc.2 q))
        refine srt_in hs0 (fun w hw => ?_) hV
        rcases List.mem_append.1 hw with hw | hw
        · exact lt_trans ((List.pairwise_append.1 (List.pairwise_append.1 hs0).1).2.2 w hw u (by simp)) hux
        · rw [List.mem_singleton.1 hw]; exact hux, by
        rw [hB2, hW2] at S; exact S⟩
    refine wl_skips (n := 12) (dc := 21) (w := true) rfl hb21 rfl ?_
    refine o_pickf gn rfl rfl hb21 rfl ?_
    refine wl_end ?_
    refine w_cond rfl (fun hb => ?_) fun hb => ?_
    · skip
      refine w_skip ?_
      refine w_seq ?_
      refine w_block ?_
      exact absurd hb (by decide)
    refine w_exit ?_
    refine thn_exit ?_
    refine rnd_exit ?_
    refine blk_eq ?_
    refine w_region (by kernel_rfl) ?_
    refine o_move gn rfl rfl ?_
    refine o_add gn rfl rfl rfl (by omega) (by omega) ?_
    refine o_assign gn rfl rfl ?_
    refine wl_end ?_
    exact rndS (W.length - (k + 1)) (by omega) [(8, _)] (by repeat (first | exact trivial | refine ⟨rfl, ?_⟩)) ⟨k + 1, U ++ x :: V, by rw [show ((P.length + k : Nat) : Int) + 1 = (P.length + (k + 1) : Nat) by omega], rfl, by omega, .inl (by omega), (ins_perm hUV).trans hbk, by
      have hU0 : U = [] := List.length_eq_zero_iff.1 (by have := of_decide_eq_false hb21; omega)
      subst hU0
      rw [← hUV] at hs0
      exact List.pairwise_cons.2 ⟨hV, hs0⟩, by
      have hB : (P ++ fs U) ++ x.1 :: (fs V ++ (fs W2 ++ Q)) = P ++ (fs (U ++ x :: V) ++ (fs W2 ++ Q)) := by simp
      rw [hB, hW2] at S; exact S⟩
  refine w_exit ?_
  refine thn_exit ?_
  refine rnd_exit ?_
  refine blk_eq ?_
  refine ⟨.inr rfl, _, rfl, ?_⟩
  have hke : W.length ≤ k := by simp at hb; omega
  exact ⟨U0, by
    rw [List.take_of_length_le hke] at hp0; exact hp0, hs0, by
    rw [List.drop_eq_nil_of_le hke] at S; exact S⟩
end
end Go.Proofs.YthjghimpfpgajaaGreatDoor

namespace Go.Proofs.YthjghimpfpgajaaGreatDoor
open Go.X Go.Giv

/-- Two rows, of N entries at most, are made one. -/
def MgAt (h0 : Hp) (ds : List Nat) (L : List Res) (rest : List Value) (n c b m N : Nat) : Prop := ∀ {h : Hp} {P Q : List En} {A B : List (En × Nat)} {ai mi bi : Int}, A.length + B.length ≤ N → 0 < A.length → 0 < B.length → Srt rk A → Srt rk B → Low A B → In A → In B → (P ++ (fs A ++ (fs B ++ Q))).length = n → ai = P.length → mi = (P.length + A.length : Nat) → bi = (P.length + A.length + B.length : Nat) →
  SH h0 ds (cR b (.cells (enCs (P ++ (fs A ++ (fs B ++ Q))) ++ rest) 31 m) :: L) h →
  C givE 26 [.slice (some ⟨b, 0, none⟩) n c, iV ai, iV mi, iV bi, cmpF] h fun _ h' => ∃ S : List (En × Nat), S.Perm (A ++ B) ∧ Srt rk S ∧ SH h0 ds (cR b (.cells (enCs (P ++ (fs S ++ Q)) ++ rest) 31 m) :: L) h'
section
variable {h0 : Hp} {ds : List Nat} {L : List Res} {rest : List Value} {n c b m N : Nat}
set_option maxHeartbeats 4000000 in
/-- symMerge -/
theorem c26s (hn2 : n ≤ 1000000) (hm : m ≠ 1) (ih : MgAt h0 ds L rest n c b m N) : MgAt h0 ds L rest n c b m (N + 1) := by
  intro h P Q A B ai mi bi hN hA0 hB0 sA sB hlo hIA hIB hn h1 h2 h3 S0
  have hnl : n = P.length + A.length + B.length + Q.length := by
    rw [← hn]; simp only [List.length_append, List.length_map]; omega
  subst h1; subst h2; subst h3
  refine c_enter (fu := Tryz.f26) (by kernel_rfl) rfl ?_
  have S := S0
  refine w_seq ?_
  refine w_seq ?_
  refine w_region (by kernel_rfl) ?_
  refine o_move gn rfl rfl ?_
  refine o_move gn rfl rfl ?_
  refine o_sub gn rfl rfl rfl (by omega) (by omega) ?_
  refine o_eqi gn rfl rfl rfl ?_
  refine wl_end ?_
  refine w_cond rfl (fun hb => ?_) fun hb => ?_
  · skip
    refine w_seq ?_
    have hA1 : A.length = 1 := by have := of_decide_eq_true hb; omega
    obtain ⟨x, rfl⟩ := List.length_eq_one_iff.1 hA1
    have hxI := hIA x (by simp)
    have hxl : ∀ y, y ∈ B → x.2 < y.2 := fun y hy => hlo x (by simp) y hy
    have hC : (enCs (P ++ (fs [x] ++ (fs B ++ Q))) ++ rest).length = n * 3 + rest.length := by rw [List.length_append, enCs_len, hn]
    refine w_region (by kernel_rfl) ?_
    refine o_move gn rfl rfl ?_
    refine o_assign gn rfl rfl ?_
    refine wl_end ?_
    refine w_seq ?_
    refine w_region (by kernel_rfl) ?_
    refine o_move gn rfl rfl ?_
    refine o_assign gn rfl rfl ?_
    refine wl_end ?_
    refine w_seq ?_
    refine w_block ?_
    refine w_loopS [(10, _), (11, _)] [(0, _), (1, _), (4, _)] (by repeat (first | exact trivial | refine ⟨rfl, ?_⟩)) (fun kk lv hh => ∃ p q : Nat, lv = [(10, iV (P.length + 1 + p : Nat)), (11, iV (P.length + 1 + q : Nat))] ∧ kk = q - p ∧ p ≤ q ∧ q ≤ B.length ∧ (∀ y, y ∈ B.take p → lt rk y x) ∧ (∀ y, y ∈ B.drop q → lt rk x y) ∧ SH h0 ds (cR b (.cells (enCs (P ++ (fs [x] ++ (fs B ++ Q))) ++ rest) 31 m) :: L) hh) (n := (B.length)) ?_ fun kk lv hh hI => ?_
    · exact ⟨0, B.length, rfl, rfl, Nat.zero_le _, Nat.le_refl _, by simp, by simp, S⟩
    obtain ⟨p, q, rfl, rfl, hpq, hqB, hp, hq, S⟩ := hI
    refine w_seq ?_
    refine w_seq ?_
    refine w_region (by kernel_rfl) ?_
    refine o_move gn rfl rfl ?_
    refine o_move gn rfl rfl ?_
    refine o_lss gn rfl rfl rfl ?_
    refine wl_end ?_
    refine w_cond rfl (fun hb => ?_) fun hb => ?_
    · skip
      refine w_skip ?_
      refine w_block ?_
      refine w_seq ?_
      have hpl : p < q := by have := of_decide_eq_true hb; omega
      obtain ⟨k, hk⟩ : ∃ k, k = (p + q) / 2 := ⟨_, rfl⟩
      have hkB : k < B.length := by omega
      have hym : B[k] ∈ B := List.getElem_mem hkB
      have hc := cmpE_lt (hIB _ hym) hxI
      have hw1 : ((enCs (P ++ (fs [x] ++ (fs B ++ Q))) ++ rest).drop (0 + Int.toNat ((P.length + 1 + k : Nat) : Int) * 3)).take 3 = enC B[k].1 := by
        rw [Int.toNat_natCast, Nat.zero_add, enCs_at _ _ (by omega)]; exact congrArg enC (at_B hkB (by simp) _)
      have hw2 : ((enCs (P ++ (fs [x] ++ (fs B ++ Q))) ++ rest).drop (0 + Int.toNat (P.length : Int) * 3)).take 3 = enC x.1 := by
        rw [Int.toNat_natCast, Nat.zero_add, enCs_at _ _ (by omega)]; exact congrArg enC (at_A (A := [x]) (k := 0) (by simp) rfl _)
      refine w_region (by kernel_rfl) ?_
      refine o_move gn rfl rfl ?_
      refine o_move gn rfl rfl ?_
      refine o_add gn rfl rfl rfl (by omega) (by omega) ?_
      refine o_convert (k := .u64) gn rfl rfl (by kernel_rfl) (by kernel_rfl) ?_
      rw [half_u (by omega) (by omega)]
      refine o_shrU (_) 1 gn rfl rfl rfl (by omega) ?_
      refine o_convert (k := .i64) gn rfl rfl (by kernel_rfl) (by kernel_rfl) ?_
      rw [half_k (k := P.length + 1 + k) (by omega) (by omega) (by omega)]
      refine o_assign gn rfl rfl ?_
      refine wl_end ?_
      refine w_seq ?_
      refine w_draw [(0, []), (1, []), (2, []), (3, []), (4, []), (5, []), (6, []), (7, []), (8, []), (9, []), (10, [])] (by kernel_rfl) (by kernel_rfl) (by kernel_rfl) (by kernel_rfl) ?_
      refine o_move gn rfl rfl ?_
      refine o_move gn rfl rfl ?_
      refine o_move gn rfl rfl ?_
      refine o_indexAddr (zz := 3) gn rfl rfl rfl (by kernel_rfl) (by omega) (by omega) ?_
      refine o_loadA (n := 3) gn rfl rfl (by kernel_rfl) (by kernel_rfl) (S.cel 0 rfl) (by rw [hC]; omega) ?_
      rw [hw1]
      refine o_move gn rfl rfl ?_
      refine o_move gn rfl rfl ?_
      refine o_indexAddr (zz := 3) gn rfl rfl rfl (by kernel_rfl) (by omega) (by omega) ?_
      refine o_loadA (n := 3) gn rfl rfl (by kernel_rfl) (by kernel_rfl) (S.cel 0 rfl) (by rw [hC]; omega) ?_
      rw [hw2]
      refine o_call [_, _] gn rfl rfl (by kernel_rfl) rfl (C.mono c10 ?_)
      rintro v g ⟨rfl, xx⟩
      have S := S.grow xx
      refine ⟨ag0, ?_⟩
      refine o_lss gn rfl rfl rfl ?_
      refine wl_end ?_
      refine w_cond rfl (fun hb => ?_) fun hb => ?_
      · skip
        refine w_region (by kernel_rfl) ?_
        refine o_move gn rfl rfl ?_
        refine o_add gn rfl rfl rfl (by omega) (by omega) ?_
        refine o_assign gn rfl rfl ?_
        refine wl_end ?_
        refine blk_next ?_
        exact rndS (q - (k + 1)) (by omega) [(10, _), (11, _)] (by repeat (first | exact trivial | refine ⟨rfl, ?_⟩)) ⟨k + 1, q, by rw [show ((P.length + 1 + k : Nat) : Int) + 1 = (P.length + 1 + (k + 1) : Nat) by omega], rfl, by omega, hqB, all_take sB hkB ((lt_low (hxl _ hym)).2 (hc.1 (of_decide_eq_true hb))), hq, S⟩
      refine w_region (by kernel_rfl) ?_
      refine o_move gn rfl rfl ?_
      refine o_assign gn rfl rfl ?_
      refine wl_end ?_
      refine blk_next ?_
      exact rndS (k - p) (by omega) [(10, _), (11, _)] (by repeat (first | exact trivial | refine ⟨rfl, ?_⟩)) ⟨p, k, rfl, rfl, by omega, by omega, hp, all_drop sB hkB ((lt_low2 (hxl _ hym)).2 fun w => of_decide_eq_false hb (hc.2 w)), S⟩
    refine w_exit ?_
    refine thn_exit ?_
    refine rnd_exit ?_
    refine blk_eq ?_
    refine w_seq ?_
    refine w_seq ?_
    have hpe : p = q := by have := of_decide_eq_false hb; omega
    subst hpe
    refine w_region (by kernel_rfl) ?_
    refine o_move gn rfl rfl ?_
    refine o_assign gn rfl rfl ?_
    refine wl_end ?_
    refine w_block ?_
    refine w_loopS [(13, _)] [(0, _), (10, _)] (by repeat (first | exact trivial | refine ⟨rfl, ?_⟩)) (fun kk lv hh => ∃ t : Nat, lv = [(13, iV (P.length + t : Nat))] ∧ kk = p - t ∧ t ≤ p ∧ SH h0 ds (cR b (.cells (enCs (P ++ (fs (B.take t) ++ x.1 :: (fs (B.drop t) ++ Q))) ++ rest) 31 m) :: L) hh) (n := p) ?_ fun kk lv hh hI => ?_
    · exact ⟨0, rfl, rfl, by omega, S⟩
    obtain ⟨t, rfl, rfl, ht, S⟩ := hI
    refine w_seq ?_
    refine w_seq ?_
    refine w_region (by kernel_rfl) ?_
    refine o_move gn rfl rfl ?_
    refine o_move gn rfl rfl ?_
    refine o_sub gn rfl rfl rfl (by omega) (by omega) ?_
    refine o_lss gn rfl rfl rfl ?_
    refine wl_end ?_
    refine w_cond rfl (fun hb => ?_) fun hb => ?_
    · skip
      refine w_skip ?_
      refine w_seq ?_
      refine w_block ?_
      have htp : t < p := by have := of_decide_eq_true hb; omega
      have htB : t < B.length := by omega
      have e1 : P ++ (fs (B.take t) ++ x.1 :: (fs (B.drop t) ++ Q)) = (P ++ fs (B.take t)) ++ x.1 :: B[t].1 :: (fs (B.drop (t + 1)) ++ Q) := by
        rw [List.drop_eq_getElem_cons htB, List.append_assoc]; rfl
      have e2 : (P ++ fs (B.take t)) ++ B[t].1 :: x.1 :: (fs (B.drop (t + 1)) ++ Q) = P ++ (fs (B.take (t + 1)) ++ x.1 :: (fs (B.drop (t + 1)) ++ Q)) := by
        rw [List.take_add_one, List.getElem?_eq_getElem htB]; simp only [fs, List.map_append, List.append_assoc, Option.toList_some, List.map_cons, List.map_nil, List.cons_append, List.nil_append]
      rw [e1] at S
      have hPl : (P ++ fs (B.take t)).length = P.length + t := by rw [List.length_append, List.length_map, List.length_take]; omega
      have hRl : (fs (B.drop (t + 1)) ++ Q).length = B.length - (t + 1) + Q.length := by rw [List.length_append, List.length_map, List.length_drop]
      have hnP : n = P.length + 1 + B.length + Q.length := hnl
      obtain ⟨P', hP'⟩ : ∃ P', P' = P ++ fs (B.take t) := ⟨_, rfl⟩
      obtain ⟨R, hRe⟩ : ∃ R, R = fs (B.drop (t + 1)) ++ Q := ⟨_, rfl⟩
      have e2 : P' ++ B[t].1 :: x.1 :: R = P ++ (fs (B.take (t + 1)) ++ x.1 :: (fs (B.drop (t + 1)) ++ Q)) := by rw [hP', hRe]; exact e2
      rw [← hP', ← hRe] at S
      rw [← hP'] at hPl
      rw [← hRe] at hRl
      generalize B[t] = y at S e2
      have hT : (P' ++ x.1 :: y.1 :: R).length = n := by simp only [List.length_append, List.length_cons]; omega
      have hC3 : (enCs (P' ++ x.1 :: y.1 :: R) ++ rest).length = n * 3 + rest.length := by rw [List.length_append, enCs_len, hT]
      have hC4 : (enCs ((P' ++ x.1 :: y.1 :: R).set P'.length y.1) ++ rest).length = n * 3 + rest.length := by rw [List.length_append, enCs_len, List.length_set, hT]
      have ei : Int.toNat ((P.length + t : Nat) : Int) = P'.length := by omega
      have ej : Int.toNat (((P.length + t : Nat) : Int) + 1) = P'.length + 1 := by omega
      have hwi : ((enCs (P' ++ x.1 :: y.1 :: R) ++ rest).drop (0 + Int.toNat ((P.length + t : Nat) : Int) * 3)).take 3 = enC x.1 := by
        rw [ei, Nat.zero_add, enCs_at _ _ (by omega), nb_fst rfl]
      have hwj : ((enCs (P' ++ x.1 :: y.1 :: R) ++ rest).drop (0 + Int.toNat (((P.length + t : Nat) : Int) + 1) * 3)).take 3 = enC y.1 := by
        rw [ej, Nat.zero_add, enCs_at _ _ (by omega), nb_snd rfl]
      refine w_draw [(0, []), (1, []), (2, []), (3, []), (4, []), (5, []), (6, []), (7, []), (8, []), (9, []), (10, []), (11, []), (12, []), (13, []), (14, []), (15, [4]), (16, []), (17, [])] (by kernel_rfl) (by kernel_rfl) (by kernel_rfl) (by kernel_rfl) ?_
      refine o_move gn rfl rfl ?_
      refine o_move gn rfl rfl ?_
      refine o_move gn rfl rfl ?_
      refine o_move gn rfl rfl ?_
      refine o_add gn rfl rfl rfl (by omega) (by omega) ?_
      refine o_move gn rfl rfl ?_
      refine o_move gn rfl rfl ?_
      refine o_add gn rfl rfl rfl (by omega) (by omega) ?_
      refine o_indexAddr (zz := 3) gn rfl rfl rfl (by kernel_rfl) (by omega) (by omega) ?_
      refine o_loadA (n := 3) gn rfl rfl (by kernel_rfl) (by kernel_rfl) (S.cel 0 rfl) (by rw [hC3]; omega) ?_
      rw [hwj]
      refine o_move gn rfl rfl ?_
      refine o_move gn rfl rfl ?_
      refine o_indexAddr (zz := 3) gn rfl rfl rfl (by kernel_rfl) (by omega) (by omega) ?_
      refine o_loadA (n := 3) gn rfl rfl (by kernel_rfl) (by kernel_rfl) (S.cel 0 rfl) (by rw [hC3]; omega) ?_
      rw [hwi]
      refine o_indexAddr (zz := 3) gn rfl rfl rfl (by kernel_rfl) (by omega) (by omega) ?_
      refine s_storeR (n := 3) (cs' := enCs ((P' ++ x.1 :: y.1 :: R).set P'.length y.1) ++ rest) 0 S gn rfl rfl rfl (by kernel_rfl) rfl rfl hm (by rw [hC3]; omega) (by rw [ei, Nat.zero_add]; exact enCs_set _ _ (by omega) _ rest) (fun g S => ag1 (ag_add gn rfl rfl (by omega) (by omega) rfl) ag0) fun g S => ?_
      refine o_indexAddr (zz := 3) gn rfl rfl rfl (by kernel_rfl) (by omega) (by omega) ?_
      refine s_storeR (n := 3) (cs' := enCs (((P' ++ x.1 :: y.1 :: R).set P'.length y.1).set (P'.length + 1) x.1) ++ rest) 0 S gn rfl rfl rfl (by kernel_rfl) rfl rfl hm (by rw [hC4]; omega) (by rw [ej, Nat.zero_add]; exact enCs_set _ _ (by rw [List.length_set]; omega) _ rest) (fun g S => ag0) fun g S => ?_
      rw [nb_up rfl rfl] at S
      refine wl_end ?_
      refine w_region (by kernel_rfl) ?_
      refine o_move gn rfl rfl ?_
      refine o_add gn rfl rfl rfl (by omega) (by omega) ?_
      refine o_assign gn rfl rfl ?_
      refine wl_end ?_
      exact rndS (p - (t + 1)) (by omega) [(13, _)] (by repeat (first | exact trivial | refine ⟨rfl, ?_⟩)) ⟨t + 1, by rw [show ((P.length + t : Nat) : Int) + 1 = (P.length + (t + 1) : Nat) by omega], rfl, by omega, by
        rw [← e2]; exact S⟩
    refine w_exit ?_
    refine thn_exit ?_
    refine rnd_exit ?_
    refine blk_eq ?_
    refine w_ret ?_
    refine ⟨.inl rfl, _, rfl, ?_⟩
    have hte : t = p := by have := of_decide_eq_false hb; omega
    subst hte
    exact ⟨B.take t ++ x :: B.drop t, put_perm, srt_in (by rw [List.take_append_drop]; exact sB) hp hq, by
      have e : fs (B.take t ++ x :: B.drop t) ++ Q = fs (B.take t) ++ x.1 :: (fs (B.drop t) ++ Q) := by simp
      rw [e]; exact S⟩
  refine w_skip ?_
  refine w_seq ?_
  refine w_seq ?_
  refine w_region (by kernel_rfl) ?_
  refine o_move gn rfl rfl ?_
  refine o_move gn rfl rfl ?_
  refine o_sub gn rfl rfl rfl (by omega) (by omega) ?_
  refine o_eqi gn rfl rfl rfl ?_
  refine wl_end ?_
  refine w_cond rfl (fun hb => ?_) fun hb => ?_
  · skip
    refine w_seq ?_
    have hB1 : B.length = 1 := by have := of_decide_eq_true hb; omega
    obtain ⟨y, rfl⟩ := List.length_eq_one_iff.1 hB1
    have hyI := hIB y (by simp)
    have hyl : ∀ x, x ∈ A → x.2 < y.2 := fun x hx => hlo x hx y (by simp)
    have hC : (enCs (P ++ (fs A ++ (fs [y] ++ Q))) ++ rest).length = n * 3 + rest.length := by rw [List.length_append, enCs_len, hn]
    refine w_region (by kernel_rfl) ?_
    refine o_move gn rfl rfl ?_
    refine o_assign gn rfl rfl ?_
    refine wl_end ?_
    refine w_seq ?_
    refine w_region (by kernel_rfl) ?_
    refine o_move gn rfl rfl ?_
    refine o_assign gn rfl rfl ?_
    refine wl_end ?_
    refine w_seq ?_
    refine w_block ?_
    refine w_loopS [(14, _), (15, _)] [(0, _), (2, _), (4, _)] (by repeat (first | exact trivial | refine ⟨rfl, ?_⟩)) (fun kk lv hh => ∃ p q : Nat, lv = [(14, iV (P.length + p : Nat)), (15, iV (P.length + q : Nat))] ∧ kk = q - p ∧ p ≤ q ∧ q ≤ A.length ∧ (∀ x, x ∈ A.take p → lt rk x y) ∧ (∀ x, x ∈ A.drop q → lt rk y x) ∧ SH h0 ds (cR b (.cells (enCs (P ++ (fs A ++ (fs [y] ++ Q))) ++ rest) 31 m) :: L) hh) (n := (A.length)) ?_ fun kk lv hh hI => ?_
    · exact ⟨0, A.length, rfl, rfl, Nat.zero_le _, Nat.le_refl _, by simp, by simp, S⟩
    obtain ⟨p, q, rfl, rfl, hpq, hqA, hp, hq, S⟩ := hI
    refine w_seq ?_
    refine w_seq ?_
    refine w_region (by kernel_rfl) ?_
    refine o_move gn rfl rfl ?_
    refine o_move gn rfl rfl ?_
    refine o_lss gn rfl rfl rfl ?_
    refine wl_end ?_
    refine w_cond rfl (fun hb => ?_) fun hb => ?_
    · skip
      refine w_skip ?_
      refine w_block ?_
      refine w_seq ?_
      have hpl : p < q := by have := of_decide_eq_true hb; omega
      obtain ⟨k, hk⟩ : ∃ k, k = (p + q) / 2 := ⟨_, rfl⟩
      have hkA : k < A.length := by omega
      have hxm : A[k] ∈ A := List.getElem_mem hkA
      have hc := cmpE_lt hyI (hIA _ hxm)
      have hw1 : ((enCs (P ++ (fs A ++ (fs [y] ++ Q))) ++ rest).drop (0 + Int.toNat ((P.length + A.length : Nat) : Int) * 3)).take 3 = enC y.1 := by
        rw [Int.toNat_natCast, Nat.zero_add, enCs_at _ _ (by omega)]; exact congrArg enC (at_B (B := [y]) (k := 0) (by simp) rfl _)
      have hw2 : ((enCs (P ++ (fs A ++ (fs [y] ++ Q))) ++ rest).drop (0 + Int.toNat ((P.length + k : Nat) : Int) * 3)).take 3 = enC A[k].1 := by
        rw [Int.toNat_natCast, Nat.zero_add, enCs_at _ _ (by omega)]; exact congrArg enC (at_A hkA rfl _)
      refine w_region (by kernel_rfl) ?_
      refine o_move gn rfl rfl ?_
      refine o_move gn rfl rfl ?_
      refine o_add gn rfl rfl rfl (by omega) (by omega) ?_
      refine o_convert (k := .u64) gn rfl rfl (by kernel_rfl) (by kernel_rfl) ?_
      rw [half_u (by omega) (by omega)]
      refine o_shrU (_) 1 gn rfl rfl rfl (by omega) ?_
      refine o_convert (k := .i64) gn rfl rfl (by kernel_rfl) (by kernel_rfl) ?_
      rw [half_k (k := P.length + k) (by omega) (by omega) (by omega)]
      refine o_assign gn rfl rfl ?_
      refine wl_end ?_
      refine w_seq ?_
      refine w_draw [(0, []), (1, []), (2, []), (3, []), (4, []), (5, []), (6, []), (7, []), (8, []), (9, []), (10, []), (11, [])] (by kernel_rfl) (by kernel_rfl) (by kernel_rfl) (by kernel_rfl) ?_
      refine o_move gn rfl rfl ?_
      refine o_move gn rfl rfl ?_
      refine o_move gn rfl rfl ?_
      refine o_indexAddr (zz := 3) gn rfl rfl rfl (by kernel_rfl) (by omega) (by omega) ?_
      refine o_loadA (n := 3) gn rfl rfl (by kernel_rfl) (by kernel_rfl) (S.cel 0 rfl) (by rw [hC]; omega) ?_
      rw [hw1]
      refine o_move gn rfl rfl ?_
      refine o_move gn rfl rfl ?_
      refine o_indexAddr (zz := 3) gn rfl rfl rfl (by kernel_rfl) (by omega) (by omega) ?_
      refine o_loadA (n := 3) gn rfl rfl (by kernel_rfl) (by kernel_rfl) (S.cel 0 rfl) (by rw [hC]; omega) ?_
      rw [hw2]
      refine o_call [_, _] gn rfl rfl (by kernel_rfl) rfl (C.mono c10 ?_)
      rintro v g ⟨rfl, xx⟩
      have S := S.grow xx
      refine ⟨ag0, ?_⟩
      refine o_lss gn rfl rfl rfl ?_
      refine o_not gn rfl rfl ?_
      refine wl_end ?_
      refine w_cond rfl (fun hb => ?_) fun hb => ?_
      · skip
        refine w_region (by kernel_rfl) ?_
        refine o_move gn rfl rfl ?_
        refine o_add gn rfl rfl rfl (by omega) (by omega) ?_
        refine o_assign gn rfl rfl ?_
        refine wl_end ?_
        refine blk_next ?_
        exact rndS (q - (k + 1)) (by omega) [(14, _), (15, _)] (by repeat (first | exact trivial | refine ⟨rfl, ?_⟩)) ⟨k + 1, q, by rw [show ((P.length + k : Nat) : Int) + 1 = (P.length + (k + 1) : Nat) by omega], rfl, by omega, hqA, all_take sA hkA ((lt_low2 (hyl _ hxm)).2 fun w => not_t hb (hc.2 w)), hq, S⟩
      refine w_region (by kernel_rfl) ?_
      refine o_move gn rfl rfl ?_
      refine o_assign gn rfl rfl ?_
      refine wl_end ?_
      refine blk_next ?_
      exact rndS (k - p) (by omega) [(14, _), (15, _)] (by repeat (first | exact trivial | refine ⟨rfl, ?_⟩)) ⟨p, k, rfl, rfl, by omega, by omega, hp, all_drop sA hkA ((lt_low (hyl _ hxm)).2 (hc.1 (not_f hb))), S⟩
    refine w_exit ?_
    refine thn_exit ?_
    refine rnd_exit ?_
    refine blk_eq ?_
    refine w_seq ?_
    refine w_seq ?_
    have hpe : p = q := by have := of_decide_eq_false hb; omega
    subst hpe
    refine w_region (by kernel_rfl) ?_
    refine o_move gn rfl rfl ?_
    refine o_assign gn rfl rfl ?_
    refine wl_end ?_
    refine w_block ?_
    refine w_loopS [(17, _)] [(0, _), (14, _)] (by repeat (first | exact trivial | refine ⟨rfl, ?_⟩)) (fun kk lv hh => ∃ t : Nat, lv = [(17, iV (P.length + t : Nat))] ∧ kk = t - p ∧ p ≤ t ∧ t ≤ A.length ∧ SH h0 ds (cR b (.cells (enCs (P ++ (fs (A.take t) ++ y.1 :: (fs (A.drop t) ++ Q))) ++ rest) 31 m) :: L) hh) (n := (A.length - p)) ?_ fun kk lv hh hI => ?_
    · exact ⟨A.length, rfl, rfl, hqA, Nat.le_refl _, by
      rw [List.take_length, List.drop_length]; exact S⟩
    obtain ⟨t', rfl, rfl, ht, htA, S⟩ := hI
    refine w_seq ?_
    refine w_seq ?_
    refine w_region (by kernel_rfl) ?_
    refine o_move gn rfl rfl ?_
    refine o_move gn rfl rfl ?_
    refine o_gtr gn rfl rfl rfl ?_
    refine wl_end ?_
    refine w_cond rfl (fun hb => ?_) fun hb => ?_
    · skip
      refine w_skip ?_
      refine w_seq ?_
      refine w_block ?_
      obtain ⟨t, rfl⟩ : ∃ t, t' = t + 1 := ⟨t' - 1, by have := of_decide_eq_true hb; omega⟩
      have htp : p ≤ t := by have := of_decide_eq_true hb; omega
      have htA' : t < A.length := by omega
      have e1 : P ++ (fs (A.take (t + 1)) ++ y.1 :: (fs (A.drop (t + 1)) ++ Q)) = (P ++ fs (A.take t)) ++ A[t].1 :: y.1 :: (fs (A.drop (t + 1)) ++ Q) := by
        rw [List.take_add_one, List.getElem?_eq_getElem htA']; simp only [fs, List.map_append, List.append_assoc, Option.toList_some, List.map_cons, List.map_nil, List.cons_append, List.nil_append]
      have e2 : (P ++ fs (A.take t)) ++ y.1 :: A[t].1 :: (fs (A.drop (t + 1)) ++ Q) = P ++ (fs (A.take t) ++ y.1 :: (fs (A.drop t) ++ Q)) := by
        rw [List.drop_eq_getElem_cons htA', List.append_assoc]; rfl
      rw [e1] at S
      have hPl : (P ++ fs (A.take t)).length = P.length + t := by rw [List.length_append, List.length_map, List.length_take]; omega
      have hRl : (fs (A.drop (t + 1)) ++ Q).length = A.length - (t + 1) + Q.length := by rw [List.length_append, List.length_map, List.length_drop]
      have hnP : n = P.length + A.length + 1 + Q.length := hnl
      obtain ⟨P', hP'⟩ : ∃ P', P' = P ++ fs (A.take t) := ⟨_, rfl⟩
      obtain ⟨R, hRe⟩ : ∃ R, R = fs (A.drop (t + 1)) ++ Q := ⟨_, rfl⟩
      have e2 : P' ++ y.1 :: A[t].1 :: R = P ++ (fs (A.take t) ++ y.1 :: (fs (A.drop t) ++ Q)) := by rw [hP', hRe]; exact e2
      rw [← hP', ← hRe] at S
      rw [← hP'] at hPl
      rw [← hRe] at hRl
      generalize A[t] = x at S e2
      have hT : (P' ++ x.1 :: y.1 :: R).length = n := by simp only [List.length_append, List.length_cons]; omega
      have hC3 : (enCs (P' ++ x.1 :: y.1 :: R) ++ rest).length = n * 3 + rest.length := by rw [List.length_append, enCs_len, hT]
      have hC4 : (enCs ((P' ++ x.1 :: y.1 :: R).set (P'.length + 1) x.1) ++ rest).length = n * 3 + rest.length := by rw [List.length_append, enCs_len, List.length_set, hT]
      have ej : Int.toNat ((P.length + (t + 1) : Nat) : Int) = P'.length + 1 := by omega
      have ei : Int.toNat (((P.length + (t + 1) : Nat) : Int) - 1) = P'.length := by omega
      have hwj : ((enCs (P' ++ x.1 :: y.1 :: R) ++ rest).drop (0 + Int.toNat ((P.length + (t + 1) : Nat) : Int) * 3)).take 3 = enC y.1 := by
        rw [ej, Nat.zero_add, enCs_at _ _ (by omega), nb_snd rfl]
      have hwi : ((enCs (P' ++ x.1 :: y.1 :: R) ++ rest).drop (0 + Int.toNat (((P.length + (t + 1) : Nat) : Int) - 1) * 3)).take 3 = enC x.1 := by
        rw [ei, Nat.zero_add, enCs_at _ _ (by omega), nb_fst rfl]
      refine w_draw [(0, []), (1, []), (2, []), (3, []), (4, []), (5, []), (6, []), (7, []), (8, []), (9, []), (10, []), (11, []), (12, []), (13, []), (14, []), (15, [4]), (16, []), (17, [])] (by kernel_rfl) (by kernel_rfl) (by kernel_rfl) (by kernel_rfl) ?_
      refine o_move gn rfl rfl ?_
      refine o_move gn rfl rfl ?_
      refine o_move gn rfl rfl ?_
      refine o_move gn rfl rfl ?_
      refine o_sub gn rfl rfl rfl (by omega) (by omega) ?_
      refine o_move gn rfl rfl ?_
      refine o_move gn rfl rfl ?_
      refine o_sub gn rfl rfl rfl (by omega) (by omega) ?_
      refine o_indexAddr (zz := 3) gn rfl rfl rfl (by kernel_rfl) (by omega) (by omega) ?_
      refine o_loadA (n := 3) gn rfl rfl (by kernel_rfl) (by kernel_rfl) (S.cel 0 rfl) (by rw [hC3]; omega) ?_
      rw [hwi]
      refine o_move gn rfl rfl ?_
      refine o_move gn rfl rfl ?_
      refine o_indexAddr (zz := 3) gn rfl rfl rfl (by kernel_rfl) (by omega) (by omega) ?_
      refine o_loadA (n := 3) gn rfl rfl (by kernel_rfl) (by kernel_rfl) (S.cel 0 rfl) (by rw [hC3]; omega) ?_
      rw [hwj]
      refine o_indexAddr (zz := 3) gn rfl rfl rfl (by kernel_rfl) (by omega) (by omega) ?_
      refine s_storeR (n := 3) (cs' := enCs ((P' ++ x.1 :: y.1 :: R).set (P'.length + 1) x.1) ++ rest) 0 S gn rfl rfl rfl (by kernel_rfl) rfl rfl hm (by rw [hC3]; omega) (by rw [ej, Nat.zero_add]; exact enCs_set _ _ (by omega) _ rest) (fun g S => ag1 (ag_sub gn rfl rfl (by omega) (by omega) rfl) ag0) fun g S => ?_
      refine o_indexAddr (zz := 3) gn rfl rfl rfl (by kernel_rfl) (by omega) (by omega) ?_
      refine s_storeR (n := 3) (cs' := enCs (((P' ++ x.1 :: y.1 :: R).set (P'.length + 1) x.1).set P'.length y.1) ++ rest) 0 S gn rfl rfl rfl (by kernel_rfl) rfl rfl hm (by rw [hC4]; omega) (by rw [ei, Nat.zero_add]; exact enCs_set _ _ (by rw [List.length_set]; omega) _ rest) (fun g S => ag0) fun g S => ?_
      rw [nb_down rfl rfl] at S
      refine wl_end ?_
      refine w_region (by kernel_rfl) ?_
      refine o_move gn rfl rfl ?_
      refine o_sub gn rfl rfl rfl (by omega) (by omega) ?_
      refine o_assign gn rfl rfl ?_
      refine wl_end ?_
      exact rndS (t - p) (by omega) [(17, _)] (by repeat (first | exact trivial | refine ⟨rfl, ?_⟩)) ⟨t, by rw [show ((P.length + (t + 1) : Nat) : Int) - 1 = (P.length + t : Nat) by omega], rfl, by omega, by omega, by
        rw [← e2]; exact S⟩
    refine w_exit ?_
    refine thn_exit ?_
    refine rnd_exit ?_
    refine blk_eq ?_
    refine w_ret ?_
    refine ⟨.inl rfl, _, rfl, ?_⟩
    have hte : t' = p := by have := of_decide_eq_false hb; omega
    subst hte
    exact ⟨A.take t' ++ y :: A.drop t', put_perm.trans (List.perm_append_comm (l₁ := [y]) (l₂ := A)), srt_in (by rw [List.take_append_drop]; exact sA) hp hq, by
      have e : fs (A.take t' ++ y :: A.drop t') ++ Q = fs (A.take t') ++ y.1 :: (fs (A.drop t') ++ Q) := by simp
      rw [e]; exact S⟩
  refine w_skip ?_
  refine w_seq ?_
  obtain ⟨M, hM⟩ : ∃ M, M = (A.length + B.length) / 2 := ⟨_, rfl⟩
  have hC : (enCs (P ++ (fs A ++ (fs B ++ Q))) ++ rest).length = n * 3 + rest.length := by rw [List.length_append, enCs_len, hn]
  refine w_region (by kernel_rfl) ?_
  refine o_move gn rfl rfl ?_
  refine o_move gn rfl rfl ?_
  refine o_add gn rfl rfl rfl (by omega) (by omega) ?_
  refine o_convert (k := .u64) gn rfl rfl (by kernel_rfl) (by kernel_rfl) ?_
  rw [half_u (by omega) (by omega)]
  refine o_shrU (_) 1 gn rfl rfl rfl (by omega) ?_
  refine o_convert (k := .i64) gn rfl rfl (by kernel_rfl) (by kernel_rfl) ?_
  rw [half_k (k := P.length + M) (by omega) (by omega) (by omega)]
  refine o_assign gn rfl rfl ?_
  refine wl_end ?_
  refine w_seq ?_
  refine w_region (by kernel_rfl) ?_
  refine o_move gn rfl rfl ?_
  refine o_move gn rfl rfl ?_
  refine o_add gn rfl rfl rfl (by omega) (by omega) ?_
  refine o_assign gn rfl rfl ?_
  refine wl_end ?_
  refine w_seq ?_
  refine w_region (by kernel_rfl) ?_
  refine o_assign gn rfl rfl ?_
  refine o_assign gn rfl rfl ?_
  refine wl_end ?_
  refine w_cutS [(0, .slice (some ⟨b, 0, none⟩) n c), (1, iV (P.length : Int)), (2, iV ((P.length + A.length : Nat) : Int)), (3, iV ((P.length + A.length + B.length : Nat) : Int)), (4, cmpF), (18, iV ((P.length + M : Nat) : Int)), (19, iV (((P.length + M : Nat) : Int) + ((P.length + A.length : Nat) : Int)))] (fun lv hh => ∃ lo hi : Nat, lv = [(20, iV (P.length + lo : Nat)), (21, iV (P.length + hi : Nat))] ∧ lo ≤ hi ∧ hi ≤ A.length ∧ hi ≤ M ∧ M - lo ≤ B.length ∧ (lo = 0 ∨ M - lo = B.length) ∧ (hi = M ∨ hi = A.length) ∧ SH h0 ds (cR b (.cells (enCs (P ++ (fs A ++ (fs B ++ Q))) ++ rest) 31 m) :: L) hh) ?_ fun lv hh hJ => ?_
  · skip
    refine w_seq ?_
    refine w_region (by kernel_rfl) ?_
    refine o_move gn rfl rfl ?_
    refine o_move gn rfl rfl ?_
    refine o_gtr gn rfl rfl rfl ?_
    refine wl_end ?_
    refine w_cond rfl (fun hb => ?_) fun hb => ?_
    · skip
      refine w_seq ?_
      have hcase : M < A.length := by have := of_decide_eq_true hb; omega
      refine w_region (by kernel_rfl) ?_
      refine o_move gn rfl rfl ?_
      refine o_move gn rfl rfl ?_
      refine o_sub gn rfl rfl rfl (by omega) (by omega) ?_
      refine o_assign gn rfl rfl ?_
      refine wl_end ?_
      refine w_region (by kernel_rfl) ?_
      refine o_move gn rfl rfl ?_
      refine o_assign gn rfl rfl ?_
      refine wl_end ?_
      exact cutS [(20, _), (21, _)] (by repeat (first | exact trivial | refine ⟨rfl, ?_⟩)) ⟨M - B.length, M, by
        rw [show ((P.length + M : Nat) : Int) + ((P.length + A.length : Nat) : Int) - ((P.length + A.length + B.length : Nat) : Int) = ((P.length + (M - B.length) : Nat) : Int) by omega], by omega, by omega, by omega, by omega, by omega, by omega, S⟩
    refine w_seq ?_
    have hcase : A.length ≤ M := by have := of_decide_eq_false hb; omega
    refine w_region (by kernel_rfl) ?_
    refine o_move gn rfl rfl ?_
    refine o_assign gn rfl rfl ?_
    refine wl_end ?_
    refine w_region (by kernel_rfl) ?_
    refine o_move gn rfl rfl ?_
    refine o_assign gn rfl rfl ?_
    refine wl_end ?_
    exact cutS [(20, _), (21, _)] (by repeat (first | exact trivial | refine ⟨rfl, ?_⟩)) ⟨0, A.length, rfl, by omega, by omega, by omega, by omega, by omega, by omega, S⟩
  obtain ⟨lo, hi, rfl, hlh, hhA, hhM, hlB, hl, hh1, S⟩ := hJ
  refine w_seq ?_
  refine w_region (by kernel_rfl) ?_
  refine o_move gn rfl rfl ?_
  refine o_sub gn rfl rfl rfl (by omega) (by omega) ?_
  refine o_assign gn rfl rfl ?_
  refine wl_end ?_
  refine w_seq ?_
  refine w_block ?_
  refine w_loopS [(20, _), (21, _)] [(0, _), (1, _), (2, _), (3, _), (4, _), (18, _), (19, _), (22, _)] (by repeat (first | exact trivial | refine ⟨rfl, ?_⟩)) (fun kk lv hh => ∃ s r : Nat, lv = [(20, iV (P.length + s : Nat)), (21, iV (P.length + r : Nat))] ∧ kk = r - s ∧ lo ≤ s ∧ s ≤ r ∧ r ≤ hi ∧ (s = lo ∨ LtAt A B (s - 1) (M - s)) ∧ (r = hi ∨ LtAt B A (M - 1 - r) r) ∧ SH h0 ds (cR b (.cells (enCs (P ++ (fs A ++ (fs B ++ Q))) ++ rest) 31 m) :: L) hh) (n := (hi - lo)) ?_ fun kk lv hh hI => ?_
  · exact ⟨lo, hi, rfl, rfl, Nat.le_refl _, hlh, Nat.le_refl _, .inl rfl, .inl rfl, S⟩
  obtain ⟨s, r, rfl, rfl, hls, hsr, hrh, hs1, hr1, S⟩ := hI
  refine w_seq ?_
  refine w_seq ?_
  refine w_region (by kernel_rfl) ?_
  refine o_move gn rfl rfl ?_
  refine o_move gn rfl rfl ?_
  refine o_lss gn rfl rfl rfl ?_
  refine wl_end ?_
  refine w_cond rfl (fun hb => ?_) fun hb => ?_
  · skip
    refine w_skip ?_
    refine w_block ?_
    refine w_seq ?_
    have hsl : s < r := by have := of_decide_eq_true hb; omega
    obtain ⟨k, hk⟩ : ∃ k, k = (s + r) / 2 := ⟨_, rfl⟩
    have hkA : k < A.length := by omega
    have hkB : M - 1 - k < B.length := by omega
    have hxm : A[k] ∈ A := List.getElem_mem hkA
    have hym : B[M - 1 - k] ∈ B := List.getElem_mem hkB
    have hc := cmpE_lt (hIB _ hym) (hIA _ hxm)
    have hxy := hlo _ hxm _ hym
    have ep : Int.toNat (((P.length + M : Nat) : Int) + ((P.length + A.length : Nat) : Int) - 1 - ((P.length + k : Nat) : Int)) = P.length + A.length + (M - 1 - k) := by omega
    have hw1 : ((enCs (P ++ (fs A ++ (fs B ++ Q))) ++ rest).drop (0 + Int.toNat (((P.length + M : Nat) : Int) + ((P.length + A.length : Nat) : Int) - 1 - ((P.length + k : Nat) : Int)) * 3)).take 3 = enC B[M - 1 - k].1 := by
      rw [ep, Nat.zero_add, enCs_at _ _ (by omega)]; exact congrArg enC (at_B hkB (by simp) _)
    have hw2 : ((enCs (P ++ (fs A ++ (fs B ++ Q))) ++ rest).drop (0 + Int.toNat ((P.length + k : Nat) : Int) * 3)).take 3 = enC A[k].1 := by
      rw [Int.toNat_natCast, Nat.zero_add, enCs_at _ _ (by omega)]; exact congrArg enC (at_A hkA rfl _)
    refine w_region (by kernel_rfl) ?_
    refine o_move gn rfl rfl ?_
    refine o_move gn rfl rfl ?_
    refine o_add gn rfl rfl rfl (by omega) (by omega) ?_
    refine o_convert (k := .u64) gn rfl rfl (by kernel_rfl) (by kernel_rfl) ?_
    rw [half_u (by omega) (by omega)]
    refine o_shrU (_) 1 gn rfl rfl rfl (by omega) ?_
    refine o_convert (k := .i64) gn rfl rfl (by kernel_rfl) (by kernel_rfl) ?_
    rw [half_k (k := P.length + k) (by omega) (by omega) (by omega)]
    refine o_assign gn rfl rfl ?_
    refine wl_end ?_
    refine w_seq ?_
    refine w_draw [(0, []), (1, []), (2, []), (3, []), (4, []), (5, []), (6, []), (7, []), (8, []), (9, []), (10, []), (11, []), (12, []), (13, [])] (by kernel_rfl) (by kernel_rfl) (by kernel_rfl) (by kernel_rfl) ?_
    refine o_move gn rfl rfl ?_
    refine o_move gn rfl rfl ?_
    refine o_move gn rfl rfl ?_
    refine o_move gn rfl rfl ?_
    refine o_sub gn rfl rfl rfl (by omega) (by omega) ?_
    refine o_indexAddr (zz := 3) gn rfl rfl rfl (by kernel_rfl) (by omega) (by omega) ?_
    refine o_loadA (n := 3) gn rfl rfl (by kernel_rfl) (by kernel_rfl) (S.cel 0 rfl) (by rw [hC]; omega) ?_
    rw [hw1]
    refine o_move gn rfl rfl ?_
    refine o_move gn rfl rfl ?_
    refine o_indexAddr (zz := 3) gn rfl rfl rfl (by kernel_rfl) (by omega) (by omega) ?_
    refine o_loadA (n := 3) gn rfl rfl (by kernel_rfl) (by kernel_rfl) (S.cel 0 rfl) (by rw [hC]; omega) ?_
    rw [hw2]
    refine o_call [_, _] gn rfl rfl (by kernel_rfl) rfl (C.mono c10 ?_)
    rintro v g ⟨rfl, xx⟩
    have S := S.grow xx
    refine ⟨ag0, ?_⟩
    refine o_lss gn rfl rfl rfl ?_
    refine o_not gn rfl rfl ?_
    refine wl_end ?_
    refine w_cond rfl (fun hb => ?_) fun hb => ?_
    · skip
      refine w_region (by kernel_rfl) ?_
      refine o_move gn rfl rfl ?_
      refine o_add gn rfl rfl rfl (by omega) (by omega) ?_
      refine o_assign gn rfl rfl ?_
      refine wl_end ?_
      refine blk_next ?_
      exact rndS (r - (k + 1)) (by omega) [(20, _), (21, _)] (by repeat (first | exact trivial | refine ⟨rfl, ?_⟩)) ⟨k + 1, r, by rw [show ((P.length + k : Nat) : Int) + 1 = (P.length + (k + 1) : Nat) by omega], rfl, by omega, by omega, hrh, .inr (by
        rw [show k + 1 - 1 = k by omega, show M - (k + 1) = M - 1 - k by omega]
        exact ⟨hkA, hkB, (lt_low2 hxy).2 fun w => not_t hb (hc.2 w)⟩), hr1, S⟩
    refine w_region (by kernel_rfl) ?_
    refine o_move gn rfl rfl ?_
    refine o_assign gn rfl rfl ?_
    refine wl_end ?_
    refine blk_next ?_
    exact rndS (k - s) (by omega) [(20, _), (21, _)] (by repeat (first | exact trivial | refine ⟨rfl, ?_⟩)) ⟨s, k, rfl, rfl, by omega, by omega, by omega, hs1, .inr ⟨hkB, hkA, (lt_low hxy).2 (hc.1 (not_f hb))⟩, S⟩
  refine w_exit ?_
  refine thn_exit ?_
  refine rnd_exit ?_
  refine blk_eq ?_
  refine w_seq ?_
  have hse : s = r := by have := of_decide_eq_false hb; omega
  subst hse
  obtain ⟨e, he⟩ : ∃ e, e = M - s := ⟨_, rfl⟩
  have heB : e ≤ B.length := by omega
  have hAB : ∀ x, x ∈ A.take s → ∀ y, y ∈ B.drop e → lt rk x y := cut_lt sA sB (by omega) (by
    rcases hs1 with w | w
    · rcases hl with w2 | w2
      · exact .inl (by omega)
      exact .inr (.inl (by omega))
    rw [he]; exact .inr (.inr w))
  have hBA : ∀ x, x ∈ B.take e → ∀ y, y ∈ A.drop s → lt rk x y := cut_lt sB sA heB (by
    rcases hr1 with w | w
    · rcases hh1 with w2 | w2
      · exact .inl (by omega)
      exact .inr (.inl (by omega))
    rw [he, show M - s - 1 = M - 1 - s by omega]; exact .inr (.inr w))
  obtain ⟨A1, A2, hA1, hA2⟩ : ∃ A1 A2, A1 = A.take s ∧ A2 = A.drop s := ⟨_, _, rfl, rfl⟩
  obtain ⟨B1, B2, hB1, hB2⟩ : ∃ B1 B2, B1 = B.take e ∧ B2 = B.drop e := ⟨_, _, rfl, rfl⟩
  have hA : A = A1 ++ A2 := by rw [hA1, hA2, List.take_append_drop]
  have hB : B = B1 ++ B2 := by rw [hB1, hB2, List.take_append_drop]
  have lA1 : A1.length = s := by rw [hA1, List.length_take]; omega
  have lA2 : A2.length = A.length - s := by rw [hA2, List.length_drop]
  have lB1 : B1.length = e := by rw [hB1, List.length_take]; omega
  have lB2 : B2.length = B.length - e := by rw [hB2, List.length_drop]
  rw [← hA1, ← hB2] at hAB
  rw [← hB1, ← hA2] at hBA
  refine w_region (by kernel_rfl) ?_
  refine o_move gn rfl rfl ?_
  refine o_move gn rfl rfl ?_
  refine o_sub gn rfl rfl rfl (by omega) (by omega) ?_
  rw [show ((P.length + M : Nat) : Int) + ((P.length + A.length : Nat) : Int) - ((P.length + s : Nat) : Int) = ((P.length + A.length + e : Nat) : Int) by omega]
  refine o_assign gn rfl rfl ?_
  refine wl_end ?_
  refine w_cutS [(0, .slice (some ⟨b, 0, none⟩) n c), (1, iV (P.length : Int)), (3, iV ((P.length + A.length + B.length : Nat) : Int)), (4, cmpF), (18, iV ((P.length + M : Nat) : Int)), (20, iV ((P.length + s : Nat) : Int)), (24, iV ((P.length + A.length + e : Nat) : Int))] (fun lv hh => lv = [] ∧ SH h0 ds (cR b (.cells (enCs (P ++ (fs A1 ++ (fs B1 ++ (fs A2 ++ (fs B2 ++ Q))))) ++ rest) 31 m) :: L) hh) ?_ fun lv hh hJ => ?_
  · skip
    refine w_seq ?_
    refine w_region (by kernel_rfl) ?_
    refine o_move gn rfl rfl ?_
    refine o_move gn rfl rfl ?_
    refine o_lss gn rfl rfl rfl ?_
    refine o_move gn rfl rfl ?_
    refine o_and (n := 3) rfl rfl rfl gn rfl (fun hb => by
        refine o_move (gy rfl rfl rfl hb) rfl rfl ?_
        refine o_move (gy rfl rfl rfl hb) rfl rfl ?_
        refine o_lss (gy rfl rfl rfl hb) rfl rfl rfl ?_
        exact wl_end ⟨rfl, rfl, 3, rfl, rfl⟩) ?_
    refine wl_end ?_
    refine w_cond rfl (fun hb => ?_) fun hb => ?_
    · skip
      refine w_region (by kernel_rfl) ?_
      refine o_move gn rfl rfl ?_
      refine o_move gn rfl rfl ?_
      refine o_move gn rfl rfl ?_
      refine o_move gn rfl rfl ?_
      refine o_move gn rfl rfl ?_
      refine o_call [_, _, _, _, _] gn rfl rfl (by kernel_rfl) rfl (C.mono (c37 (P := P ++ fs A1) (A := fs A2) (B := fs B1) (Q := fs B2 ++ Q) (by have := and_t hb; rw [List.length_map]; omega) (by have := and_t hb; rw [List.length_map]; omega) (by simp only [List.length_append, List.length_map]; omega) hn2 hm (by simp only [List.length_append, List.length_map]; omega) (by simp only [List.length_append, List.length_map]; omega) (by simp only [List.length_append, List.length_map]; omega) (by
  have q : P ++ (fs A ++ (fs B ++ Q)) = P ++ fs A1 ++ fs A2 ++ fs B1 ++ (fs B2 ++ Q) := by rw [hA, hB]; simp only [List.map_append, List.append_assoc]
  rw [q] at S; exact S)) ?_)  -- slices.rotateCmpFunc[detent/api.Entry]
      rintro v g S
      skip
      refine ⟨ag0, ?_⟩
      refine wl_end ?_
      exact cutS [] (by repeat (first | exact trivial | refine ⟨rfl, ?_⟩)) ⟨rfl, by
        have q : P ++ fs A1 ++ fs B1 ++ fs A2 ++ (fs B2 ++ Q) = P ++ (fs A1 ++ (fs B1 ++ (fs A2 ++ (fs B2 ++ Q)))) := by simp only [List.append_assoc]
        rw [q] at S; exact S⟩
    refine w_skip ?_
    exact cutS [] (by repeat (first | exact trivial | refine ⟨rfl, ?_⟩)) ⟨rfl, by
      have hz := and_f hb
      have q : P ++ (fs A ++ (fs B ++ Q)) = P ++ (fs A1 ++ (fs B1 ++ (fs A2 ++ (fs B2 ++ Q)))) := by
        rw [hA, hB]
        by_cases hz2 : s = A.length
        · rw [List.length_eq_zero_iff.1 (show A2.length = 0 by omega)]; simp
        rw [List.length_eq_zero_iff.1 (show B1.length = 0 by omega)]; simp
      rw [q] at S; exact S⟩
  obtain ⟨rfl, S⟩ := hJ
  refine w_cutS [(0, .slice (some ⟨b, 0, none⟩) n c), (3, iV ((P.length + A.length + B.length : Nat) : Int)), (4, cmpF), (18, iV ((P.length + M : Nat) : Int)), (24, iV ((P.length + A.length + e : Nat) : Int))] (fun lv hh => lv = [] ∧ ∃ S1 : List (En × Nat), S1.Perm (A1 ++ B1) ∧ Srt rk S1 ∧ SH h0 ds (cR b (.cells (enCs (P ++ (fs S1 ++ (fs A2 ++ (fs B2 ++ Q)))) ++ rest) 31 m) :: L) hh) ?_ fun lv hh hJ => ?_
  · skip
    refine w_seq ?_
    refine w_region (by kernel_rfl) ?_
    refine o_move gn rfl rfl ?_
    refine o_move gn rfl rfl ?_
    refine o_lss gn rfl rfl rfl ?_
    refine o_move gn rfl rfl ?_
    refine o_and (n := 3) rfl rfl rfl gn rfl (fun hb => by
        refine o_move (gy rfl rfl rfl hb) rfl rfl ?_
        refine o_move (gy rfl rfl rfl hb) rfl rfl ?_
        refine o_lss (gy rfl rfl rfl hb) rfl rfl rfl ?_
        exact wl_end ⟨rfl, rfl, 3, rfl, rfl⟩) ?_
    refine wl_end ?_
    refine w_cond rfl (fun hb => ?_) fun hb => ?_
    · skip
      refine w_region (by kernel_rfl) ?_
      refine o_move gn rfl rfl ?_
      refine o_move gn rfl rfl ?_
      refine o_move gn rfl rfl ?_
      refine o_move gn rfl rfl ?_
      refine o_move gn rfl rfl ?_
      refine o_call [_, _, _, _, _] gn rfl rfl (by kernel_rfl) rfl (C.mono (ih (P := P) (A := A1) (B := B1) (Q := fs A2 ++ (fs B2 ++ Q)) (by omega) (by have := and_t hb; omega) (by have := and_t hb; omega) (srt_fst (hA ▸ sA)) (srt_fst (hB ▸ sB)) (hlo.mono (by rw [hA]; simp +contextual) (by rw [hB]; simp +contextual)) (fun x hx => hIA x (by rw [hA]; simp [hx])) (fun x hx => hIB x (by rw [hB]; simp [hx])) (by simp only [List.length_append, List.length_map]; omega) rfl (by omega) (by omega) S) ?_)
      rintro v g ⟨S1, p1, s1, S⟩
      skip
      refine ⟨ag0, ?_⟩
      refine wl_end ?_
      exact cutS [] (by repeat (first | exact trivial | refine ⟨rfl, ?_⟩)) ⟨rfl, S1, p1, s1, S⟩
    refine w_skip ?_
    exact cutS [] (by repeat (first | exact trivial | refine ⟨rfl, ?_⟩)) ⟨rfl, A1 ++ B1, .refl _, srt_one (srt_fst (hA ▸ sA)) (srt_fst (hB ▸ sB)) (by have := and_f hb; omega), by
      have q : P ++ (fs A1 ++ (fs B1 ++ (fs A2 ++ (fs B2 ++ Q)))) = P ++ (fs (A1 ++ B1) ++ (fs A2 ++ (fs B2 ++ Q))) := by simp only [List.map_append, List.append_assoc]
      rw [q] at S; exact S⟩
  obtain ⟨rfl, S1, p1, s1, S⟩ := hJ
  have lS1 : S1.length = s + e := by have := p1.length_eq; rw [List.length_append] at this; omega
  have q : P ++ (fs S1 ++ (fs A2 ++ (fs B2 ++ Q))) = (P ++ fs S1) ++ (fs A2 ++ (fs B2 ++ Q)) := by simp only [List.append_assoc]
  rw [q] at S
  have sA' := sA
  have sB' := sB
  rw [hA] at sA'
  rw [hB] at sB'
  have fin : ∀ S2 : List (En × Nat), S2.Perm (A2 ++ B2) → Srt rk S2 → (S1 ++ S2).Perm (A ++ B) ∧ Srt rk (S1 ++ S2) := fun S2 p2 s2 => by
    rw [hA, hB]; exact merge_two p1 p2 s1 s2 sA' sB' hAB hBA
  refine w_seq ?_
  refine w_region (by kernel_rfl) ?_
  refine o_move gn rfl rfl ?_
  refine o_move gn rfl rfl ?_
  refine o_lss gn rfl rfl rfl ?_
  refine o_move gn rfl rfl ?_
  refine o_and (n := 3) rfl rfl rfl gn rfl (fun hb => by
      refine o_move (gy rfl rfl rfl hb) rfl rfl ?_
      refine o_move (gy rfl rfl rfl hb) rfl rfl ?_
      refine o_lss (gy rfl rfl rfl hb) rfl rfl rfl ?_
      exact wl_end ⟨rfl, rfl, 3, rfl, rfl⟩) ?_
  refine wl_end ?_
  refine w_cond rfl (fun hb => ?_) fun hb => ?_
  · skip
    refine w_region (by kernel_rfl) ?_
    refine o_move gn rfl rfl ?_
    refine o_move gn rfl rfl ?_
    refine o_move gn rfl rfl ?_
    refine o_move gn rfl rfl ?_
    refine o_move gn rfl rfl ?_
    refine o_call [_, _, _, _, _] gn rfl rfl (by kernel_rfl) rfl (C.mono (ih (P := P ++ fs S1) (A := A2) (B := B2) (Q := Q) (by omega) (by have := and_t hb; omega) (by have := and_t hb; omega) (srt_snd sA') (srt_snd sB') (hlo.mono (by rw [hA]; simp +contextual) (by rw [hB]; simp +contextual)) (fun x hx => hIA x (by rw [hA]; simp [hx])) (fun x hx => hIB x (by rw [hB]; simp [hx])) (by simp only [List.length_append, List.length_map]; omega) (by simp only [List.length_append, List.length_map]; omega) (by simp only [List.length_append, List.length_map]; omega) (by simp only [List.length_append, List.length_map]; omega) S) ?_)
    rintro v g ⟨S2, p2, s2, S⟩
    skip
    refine ⟨ag0, ?_⟩
    refine wl_end ?_
    refine ⟨.inr rfl, _, rfl, ?_⟩
    exact ⟨S1 ++ S2, (fin S2 p2 s2).1, (fin S2 p2 s2).2, by
      have q : P ++ (fs (S1 ++ S2) ++ Q) = P ++ fs S1 ++ (fs S2 ++ Q) := by simp only [List.map_append, List.append_assoc]
      rw [q]; exact S⟩
  refine w_skip ?_
  refine ⟨.inr rfl, _, rfl, ?_⟩
  exact (by
    have hz := and_f hb
    have f := fin (A2 ++ B2) (.refl _) (srt_one (srt_snd sA') (srt_snd sB') (by omega))
    refine ⟨S1 ++ (A2 ++ B2), f.1, f.2, ?_⟩
    have q : P ++ (fs (S1 ++ (A2 ++ B2)) ++ Q) = P ++ fs S1 ++ (fs A2 ++ (fs B2 ++ Q)) := by simp only [List.map_append, List.append_assoc]
    rw [q]; exact S)
theorem c26 (hn2 : n ≤ 1000000) (hm : m ≠ 1) : ∀ N, MgAt h0 ds L rest n c b m N
  | 0 => fun hN hA => by omega
  | N + 1 => c26s hn2 hm (c26 hn2 hm N)
end
end Go.Proofs.YthjghimpfpgajaaGreatDoor

namespace Go.Proofs.YthjghimpfpgajaaGreatDoor
open Go.X Go.Giv

section
variable {h0 h : Hp} {ds : List Nat} {L : List Res} {rest : List Value} {n c b m : Nat} {z t : List (En × Nat)} {i j k : Nat} {ai mi bi : Int}
theorem c25t (hz : Tag z) (hI : In z) (hl : t.length = n) (hn2 : n ≤ 1000000) (hm : m ≠ 1) (hij : i ≤ j) (hj : j ≤ n) (hd : t.drop i = z.drop i) (h1 : ai = i) (h2 : bi = j) (S0 : SH h0 ds (cR b (.cells (enCs (fs t) ++ rest) 31 m) :: L) h) :
    C givE 25 [.slice (some ⟨b, 0, none⟩) n c, iV ai, iV bi, cmpF] h fun _ h' => ∃ S : List (En × Nat), S.length = j - i ∧ S.Perm (seg z i j) ∧ Srt rk S ∧ SH h0 ds (cR b (.cells (enCs (fs (put t i j S)) ++ rest) 31 m) :: L) h' := by
  have e := seg_eq (b := j) hd
  rw [fs_cut hij] at S0
  have hsl := seg_len (t := t) (a := i) (b := j) (by omega)
  have hf : (fs (t.take i)).length = i := by rw [List.length_map, List.length_take]; omega
  refine C.mono (c25 (P := fs (t.take i)) (W := seg t i j) (Q := fs (t.drop j)) (e ▸ inc_seg hz) (fun x hx => hI x (mem_seg (e ▸ hx))) (by
    rw [← fs_cut hij, List.length_map, hl]) hn2 hm (by omega) (by omega) S0) ?_
  rintro v g ⟨S, p, s, q⟩
  exact ⟨S, by rw [p.length_eq, hsl], e ▸ p, s, by rw [fs_put]; exact q⟩
theorem c26t (hz : Tag z) (hI : In z) (hl : t.length = n) (hn2 : n ≤ 1000000) (hm : m ≠ 1) (hik : i < k) (hkj : k < j) (hj : j ≤ n) (x : Okb rk z t i k) (y : Okb rk z t k j) (h1 : ai = i) (h2 : mi = k) (h3 : bi = j) (S0 : SH h0 ds (cR b (.cells (enCs (fs t) ++ rest) 31 m) :: L) h) :
    C givE 26 [.slice (some ⟨b, 0, none⟩) n c, iV ai, iV mi, iV bi, cmpF] h fun _ h' => ∃ S : List (En × Nat), S.length = j - i ∧ S.Perm (seg z i j) ∧ Srt rk S ∧ SH h0 ds (cR b (.cells (enCs (fs (put t i j S)) ++ rest) 31 m) :: L) h' := by
  rw [fs_cut2 (Nat.le_of_lt hik) (Nat.le_of_lt hkj)] at S0
  have l1 := seg_len (t := t) (a := i) (b := k) (by omega)
  have l2 := seg_len (t := t) (a := k) (b := j) (by omega)
  have hf : (fs (t.take i)).length = i := by rw [List.length_map, List.length_take]; omega
  refine C.mono (c26 hn2 hm _ (P := fs (t.take i)) (A := seg t i k) (B := seg t k j) (Q := fs (t.drop j)) (Nat.le_refl _) (by omega) (by omega) x.srt y.srt (x.low hz y) (fun w hw => hI w (mem_seg (x.perm.subset hw))) (fun w hw => hI w (mem_seg (y.perm.subset hw))) (by
    rw [← fs_cut2 (Nat.le_of_lt hik) (Nat.le_of_lt hkj), List.length_map, hl]) (by omega) (by omega) (by omega) S0) ?_
  rintro v g ⟨S, p, s, q⟩
  exact ⟨S, by rw [p.length_eq, List.length_append, l1, l2]; omega, p.trans (x.both y (by omega) (by omega)), s, by rw [fs_put]; exact q⟩
set_option maxHeartbeats 1000000 in
/-- stable -/
theorem c18 (hz : Tag z) (hI : In z) (hl : z.length = n) (hn2 : n ≤ 1000000) (hm : m ≠ 1) (S0 : SH h0 ds (cR b (.cells (enCs (fs z) ++ rest) 31 m) :: L) h) :
    C givE 18 [.slice (some ⟨b, 0, none⟩) n c, iV n, cmpF] h fun _ h' => ∃ S : List (En × Nat), S.Perm z ∧ Srt rk S ∧ SH h0 ds (cR b (.cells (enCs (fs S) ++ rest) 31 m) :: L) h' := by
  refine c_enter (fu := Tryz.f18) (by kernel_rfl) rfl ?_
  have S := S0
  refine w_seq ?_
  refine w_region (by kernel_rfl) ?_
  refine o_assign gn rfl rfl ?_
  refine wl_end ?_
  refine w_seq ?_
  refine w_region (by kernel_rfl) ?_
  refine o_move gn rfl rfl ?_
  refine o_assign gn rfl rfl ?_
  refine o_assign gn rfl rfl ?_
  refine wl_end ?_
  refine w_seq ?_
  refine w_block ?_
  refine w_loopS [(7, _), (8, _)] [(0, _), (1, _), (2, _), (6, _)] (by repeat (first | exact trivial | refine ⟨rfl, ?_⟩)) (fun kk lv hh => ∃ (a : Nat) (t : List (En × Nat)), lv = [(7, iV a), (8, iV (a + 20 : Nat))] ∧ kk = n - a ∧ a ≤ n ∧ 20 ∣ a ∧ t.length = n ∧ Done rk z t 20 a ∧ t.drop a = z.drop a ∧ SH h0 ds (cR b (.cells (enCs (fs t) ++ rest) 31 m) :: L) hh) (n := n) ?_ fun kk lv hh hI => ?_
  · exact ⟨0, z, rfl, rfl, Nat.zero_le _, ⟨0, rfl⟩, hl, fun c _ _ hc => by omega, rfl, S⟩
  obtain ⟨a, t, rfl, rfl, ha, h20, ht, hD, hd, S⟩ := hI
  refine w_seq ?_
  refine w_seq ?_
  refine w_region (by kernel_rfl) ?_
  refine o_move gn rfl rfl ?_
  refine o_move gn rfl rfl ?_
  refine o_leq gn rfl rfl rfl ?_
  refine wl_end ?_
  refine w_cond rfl (fun hb => ?_) fun hb => ?_
  · skip
    refine w_skip ?_
    refine w_block ?_
    refine w_seq ?_
    have hb20 : a + 20 ≤ n := by have := of_decide_eq_true hb; omega
    refine w_region (by kernel_rfl) ?_
    refine o_move gn rfl rfl ?_
    refine o_move gn rfl rfl ?_
    refine o_move gn rfl rfl ?_
    refine o_move gn rfl rfl ?_
    refine o_call [_, _, _, _] gn rfl rfl (by kernel_rfl) rfl (C.mono (c25t (i := a) (j := a + 20) hz hI ht hn2 hm (by omega) hb20 hd rfl rfl S) ?_)
    rintro v g ⟨S1, l1, p1, s1, S⟩
    skip
    refine ⟨ag0, ?_⟩
    refine wl_end ?_
    refine w_seq ?_
    refine w_region (by kernel_rfl) ?_
    refine o_move gn rfl rfl ?_
    refine o_assign gn rfl rfl ?_
    refine wl_end ?_
    refine w_region (by kernel_rfl) ?_
    refine o_move gn rfl rfl ?_
    refine o_move gn rfl rfl ?_
    refine o_add gn rfl rfl rfl (by omega) (by omega) ?_
    refine o_assign gn rfl rfl ?_
    refine wl_end ?_
    refine blk_next ?_
    exact rndS (n - (a + 20)) (by omega) [(7, _), (8, _)] (by repeat (first | exact trivial | refine ⟨rfl, ?_⟩)) ⟨a + 20, _, by rw [show ((a + 20 : Nat) : Int) + 20 = ((a + 20 + 20 : Nat) : Int) by omega], rfl, hb20, by omega, by rw [put_len (by omega) (by omega) l1, ht], done_put hD h20 l1 (by omega) (by omega) (by omega) s1 p1, by
      rw [put_drop (by omega) (by omega) l1]
      have := congrArg (List.drop 20) hd
      rwa [List.drop_drop, List.drop_drop] at this, S⟩
  refine w_exit ?_
  refine thn_exit ?_
  refine rnd_exit ?_
  refine blk_eq ?_
  refine w_seq ?_
  have hb20 : n < a + 20 := by have := of_decide_eq_false hb; omega
  refine w_region (by kernel_rfl) ?_
  refine o_move gn rfl rfl ?_
  refine o_move gn rfl rfl ?_
  refine o_move gn rfl rfl ?_
  refine o_move gn rfl rfl ?_
  refine o_call [_, _, _, _] gn rfl rfl (by kernel_rfl) rfl (C.mono (c25t (i := a) (j := n) hz hI ht hn2 hm ha (Nat.le_refl _) hd rfl rfl S) ?_)
  rintro v g ⟨S1, l1, p1, s1, S⟩
  have lt1 : (put t a n S1).length = n := by rw [put_len ha (by omega) l1, ht]
  have A1 : All z (put t a n S1) 20 := all_done (a := n) (by omega) (done_put hD h20 l1 ha (by omega) (by omega) s1 p1) (by omega)
  generalize put t a n S1 = t1 at S lt1 A1
  clear hd hD ht
  refine ⟨ag0, ?_⟩
  refine wl_end ?_
  refine w_block ?_
  refine w_loopS [(6, _)] [(0, _), (1, _), (2, _)] (by repeat (first | exact trivial | refine ⟨rfl, ?_⟩)) (fun kk lv hh => ∃ (k : Nat) (t : List (En × Nat)), lv = [(6, iV k)] ∧ kk = 2 * n - k ∧ 20 ≤ k ∧ k ≤ 2 * n + 20 ∧ t.length = n ∧ All z t k ∧ SH h0 ds (cR b (.cells (enCs (fs t) ++ rest) 31 m) :: L) hh) (n := (2 * n - 20)) ?_ fun kk lv hh hI => ?_
  · exact ⟨20, t1, rfl, rfl, by omega, by omega, lt1, A1, S⟩
  obtain ⟨k, t2, rfl, rfl, hk, hkn, lt2, A2, S⟩ := hI
  refine w_seq ?_
  refine w_seq ?_
  refine w_region (by kernel_rfl) ?_
  refine o_move gn rfl rfl ?_
  refine o_move gn rfl rfl ?_
  refine o_lss gn rfl rfl rfl ?_
  refine wl_end ?_
  refine w_cond rfl (fun hb => ?_) fun hb => ?_
  · skip
    refine w_skip ?_
    refine w_block ?_
    refine w_seq ?_
    have hkl : k < n := by have := of_decide_eq_true hb; omega
    refine w_region (by kernel_rfl) ?_
    refine o_move gn rfl rfl ?_
    refine o_mul gn rfl rfl rfl (by omega) (by omega) ?_
    refine o_assign gn rfl rfl ?_
    refine o_assign gn rfl rfl ?_
    refine wl_end ?_
    refine w_seq ?_
    refine w_block ?_
    refine w_loopS [(7, _), (8, _)] [(0, _), (1, _), (2, _), (6, _)] (by repeat (first | exact trivial | refine ⟨rfl, ?_⟩)) (fun kk lv hh => ∃ (a : Nat) (t : List (En × Nat)), lv = [(7, iV a), (8, iV (a + 2 * k : Nat))] ∧ kk = n - a ∧ a ≤ n ∧ 2 * k ∣ a ∧ t.length = n ∧ Done rk z t (2 * k) a ∧ Go.Giv.Left rk z t k a ∧ SH h0 ds (cR b (.cells (enCs (fs t) ++ rest) 31 m) :: L) hh) (n := n) ?_ fun kk lv hh hI => ?_
    · exact ⟨0, t2, by rw [show (2 : Int) * (k : Int) = ((0 + 2 * k : Nat) : Int) by omega]; rfl, rfl, Nat.zero_le _, ⟨0, rfl⟩, lt2, fun c _ _ hc => by omega, fun c hc hl _ => A2.ok c hc hl, S⟩
    obtain ⟨a, t, rfl, rfl, ha, hka, ht, hD, hL, S⟩ := hI
    have hk1 : k ∣ a := Nat.dvd_trans ⟨2, by omega⟩ hka
    have hk2 : k ∣ a + k := Nat.dvd_add hk1 (Nat.dvd_refl _)
    refine w_seq ?_
    refine w_seq ?_
    refine w_region (by kernel_rfl) ?_
    refine o_move gn rfl rfl ?_
    refine o_move gn rfl rfl ?_
    refine o_leq gn rfl rfl rfl ?_
    refine wl_end ?_
    refine w_cond rfl (fun hb => ?_) fun hb => ?_
    · skip
      refine w_skip ?_
      refine w_block ?_
      refine w_seq ?_
      have hb2 : a + 2 * k ≤ n := by have := of_decide_eq_true hb; omega
      have x1 := hL a hk1 (by omega) (by omega)
      have x2 := hL (a + k) hk2 (by omega) (by omega)
      rw [show min (a + k) t.length = a + k by omega] at x1
      rw [show min (a + k + k) t.length = a + 2 * k by omega] at x2
      refine w_region (by kernel_rfl) ?_
      refine o_move gn rfl rfl ?_
      refine o_move gn rfl rfl ?_
      refine o_move gn rfl rfl ?_
      refine o_move gn rfl rfl ?_
      refine o_add gn rfl rfl rfl (by omega) (by omega) ?_
      refine o_move gn rfl rfl ?_
      refine o_move gn rfl rfl ?_
      refine o_call [_, _, _, _, _] gn rfl rfl (by kernel_rfl) rfl (C.mono (c26t (i := a) (k := a + k) (j := a + 2 * k) hz hI ht hn2 hm (by omega) (by omega) hb2 x1 x2 rfl (by omega) rfl S) ?_)
      rintro v g ⟨S1, l1, p1, s1, S⟩
      skip
      refine ⟨ag0, ?_⟩
      refine wl_end ?_
      refine w_seq ?_
      refine w_region (by kernel_rfl) ?_
      refine o_move gn rfl rfl ?_
      refine o_assign gn rfl rfl ?_
      refine wl_end ?_
      refine w_region (by kernel_rfl) ?_
      refine o_move gn rfl rfl ?_
      refine o_move gn rfl rfl ?_
      refine o_mul gn rfl rfl rfl (by omega) (by omega) ?_
      refine o_add gn rfl rfl rfl (by omega) (by omega) ?_
      refine o_assign gn rfl rfl ?_
      refine wl_end ?_
      refine blk_next ?_
      exact rndS (n - (a + 2 * k)) (by omega) [(7, _), (8, _)] (by repeat (first | exact trivial | refine ⟨rfl, ?_⟩)) ⟨a + 2 * k, _, by rw [show ((a + 2 * k : Nat) : Int) + 2 * (k : Int) = ((a + 2 * k + 2 * k : Nat) : Int) by omega], rfl, hb2, Nat.dvd_add hka (Nat.dvd_refl _), by rw [put_len (by omega) (by omega) l1, ht], done_put hD hka l1 (by omega) (by omega) (by omega) s1 p1, left_put hL l1 (by omega) (by omega), S⟩
    refine w_exit ?_
    refine thn_exit ?_
    refine rnd_exit ?_
    refine blk_eq ?_
    refine w_seq ?_
    refine w_seq ?_
    have hb2 : n < a + 2 * k := by have := of_decide_eq_false hb; omega
    refine w_region (by kernel_rfl) ?_
    refine o_move gn rfl rfl ?_
    refine o_move gn rfl rfl ?_
    refine o_add gn rfl rfl rfl (by omega) (by omega) ?_
    refine o_assign gn rfl rfl ?_
    refine wl_end ?_
    refine w_seq ?_
    refine w_region (by kernel_rfl) ?_
    refine o_move gn rfl rfl ?_
    refine o_move gn rfl rfl ?_
    refine o_lss gn rfl rfl rfl ?_
    refine wl_end ?_
    refine w_cond rfl (fun hb => ?_) fun hb => ?_
    · skip
      have hb3 : a + k < n := by have := of_decide_eq_true hb; omega
      have x1 := hL a hk1 (by omega) (by omega)
      have x2 := hL (a + k) hk2 (by omega) (by omega)
      rw [show min (a + k) t.length = a + k by omega] at x1
      rw [show min (a + k + k) t.length = n by omega] at x2
      refine w_region (by kernel_rfl) ?_
      refine o_move gn rfl rfl ?_
      refine o_move gn rfl rfl ?_
      refine o_move gn rfl rfl ?_
      refine o_move gn rfl rfl ?_
      refine o_move gn rfl rfl ?_
      refine o_call [_, _, _, _, _] gn rfl rfl (by kernel_rfl) rfl (C.mono (c26t (i := a) (k := a + k) (j := n) hz hI ht hn2 hm (by omega) (by omega) (by omega) x1 x2 rfl (by omega) rfl S) ?_)
      rintro v g ⟨S1, l1, p1, s1, S⟩
      have lt1 : (put t a n S1).length = n := by rw [put_len ha (by omega) l1, ht]
      refine ⟨ag0, ?_⟩
      refine wl_end ?_
      refine w_region (by kernel_rfl) ?_
      refine o_move gn rfl rfl ?_
      refine o_mul gn rfl rfl rfl (by omega) (by omega) ?_
      refine o_assign gn rfl rfl ?_
      refine wl_end ?_
      refine blk_next ?_
      exact rndS (2 * n - 2 * k) (by omega) [(6, _)] (by repeat (first | exact trivial | refine ⟨rfl, ?_⟩)) ⟨2 * k, put t a n S1, by rw [show (k : Int) * 2 = ((2 * k : Nat) : Int) by omega], rfl, by omega, by omega, lt1, all_done (a := n) (by omega) (done_put hD hka l1 ha (by omega) (by omega) s1 p1) (by omega), S⟩
    refine w_skip ?_
    have hb3 : n ≤ a + k := by have := of_decide_eq_false hb; omega
    refine w_region (by kernel_rfl) ?_
    refine o_move gn rfl rfl ?_
    refine o_mul gn rfl rfl rfl (by omega) (by omega) ?_
    refine o_assign gn rfl rfl ?_
    refine wl_end ?_
    refine blk_next ?_
    exact rndS (2 * n - 2 * k) (by omega) [(6, _)] (by repeat (first | exact trivial | refine ⟨rfl, ?_⟩)) ⟨2 * k, t, by rw [show (k : Int) * 2 = ((2 * k : Nat) : Int) by omega], rfl, by omega, by omega, ht, all_rest (by omega) hD hL (by omega), S⟩
  refine w_exit ?_
  refine thn_exit ?_
  refine rnd_exit ?_
  refine blk_eq ?_
  refine ⟨.inr rfl, _, rfl, ?_⟩
  have hb2 : n ≤ k := by have := of_decide_eq_false hb; omega
  exact ⟨t2, (all_fin (by omega) A2).1, (all_fin (by omega) A2).2, S⟩
/-- SortStableFunc -/
theorem c9 (hz : Tag z) (hI : In z) (hl : z.length = n) (hn2 : n ≤ 1000000) (hm : m ≠ 1) (S0 : SH h0 ds (cR b (.cells (enCs (fs z) ++ rest) 31 m) :: L) h) :
    C givE 9 [.slice (some ⟨b, 0, none⟩) n c, cmpF] h fun _ h' => ∃ S : List (En × Nat), S.Perm z ∧ Srt rk S ∧ SH h0 ds (cR b (.cells (enCs (fs S) ++ rest) 31 m) :: L) h' := by
  refine c_enter (fu := Tryz.f9) (by kernel_rfl) rfl ?_
  have S := S0
  refine w_region (by kernel_rfl) ?_
  refine o_move gn rfl rfl ?_
  refine o_move gn rfl rfl ?_
  refine o_len gn rfl rfl (by kernel_rfl) ?_
  refine o_move gn rfl rfl ?_
  refine o_call [_, _, _] gn rfl rfl (by kernel_rfl) rfl (C.mono (c18 hz hI hl hn2 hm S) ?_)
  rintro v g S
  skip
  refine ⟨ag0, ?_⟩
  refine wl_end ?_
  refine ⟨.inr rfl, _, rfl, ?_⟩
  exact S
end
end Go.Proofs.YthjghimpfpgajaaGreatDoor

namespace Go.Proofs.YthjghimpfpgajaaGreatDoor
open Go.X Go.Giv

theorem el22 : ElN givE 22 31 2 23 := ⟨by kernel_rfl, by kernel_rfl, by kernel_rfl, .agg #[.int .i64 0, .int .i64 0, .int .i64 0], by kernel_rfl, rfl⟩
noncomputable def fs31 : Array Field := match givE.und 31 with | some (.struct fs) => fs | _ => #[]
theorem und31 : givE.und 31 = some (.struct fs31) := by kernel_rfl
theorem len31 : fs31.toList.length = 3 := by kernel_rfl
theorem row31 : fs31.toList = [fs31.toList[0]'(by rw [len31]; omega), fs31.toList[1]'(by rw [len31]; omega), fs31.toList[2]'(by rw [len31]; omega)] := by kernel_rfl
theorem eq31 {h : Hp} (a b : En) : structEq givE h #[iV a.K, iV a.At, iV a.N] #[iV b.K, iV b.At, iV b.N] fs31.toList = some (decide (a.K = b.K) && (decide (a.At = b.At) && (decide (a.N = b.N) && true))) := by
  rw [row31]
  exact structEq_cons (u := iV a.K) (w := iV b.K) (by kernel_rfl) (by kernel_rfl) (by kernel_rfl) (by kernel_rfl) (structEq_cons (u := iV a.At) (w := iV b.At) (by kernel_rfl) (by kernel_rfl) (by kernel_rfl) (by kernel_rfl) (structEq_cons (u := iV a.N) (w := iV b.N) (by kernel_rfl) (by kernel_rfl) (by kernel_rfl) (by kernel_rfl) rfl))
theorem neq31 {h : Hp} {x x' : Operand} (a b : En) : binX givE h .neq 31 x x' (.agg (enC a).toArray) (.agg (enC b).toArray) = some (.bool (!decide (a = b))) := by
  rw [← en_eq]
  exact binA_neq und31 (by kernel_rfl) (eq31 a b)
theorem en_ext {l m : List En} (hl : l.length = m.length) (h : ∀ i (h1 : i < l.length) (h2 : i < m.length), l[i] = m[i]) : l = m := List.ext_getElem hl h
section
variable {h : Hp} {v w : Value} {l m : List En}
set_option maxHeartbeats 1000000 in
/-- Same -/
theorem c6 (X : EnAt h v l) (Z : EnAt h w m) (hl : l.length ≤ 100000) (hm : m.length ≤ 100000) : C givE 6 [v, w] h fun v h' => v = .bool (decide (l = m)) ∧ Ext h h' := by
  have Y := X
  obtain ⟨ta, tc, rfl⟩ := X.val
  have Y2 := Z
  obtain ⟨ua, uc, rfl⟩ := Z.val
  refine c_enter (fu := Tryz.f6) (by kernel_rfl) rfl ?_
  have S := SH.start h
  refine w_seq ?_
  refine w_region (by kernel_rfl) ?_
  refine o_assign gn rfl rfl ?_
  refine wl_end ?_
  refine w_seq ?_
  refine w_seq ?_
  refine w_region (by kernel_rfl) ?_
  refine o_move gn rfl rfl ?_
  refine o_len gn rfl rfl (by kernel_rfl) ?_
  refine o_move gn rfl rfl ?_
  refine o_len gn rfl rfl (by kernel_rfl) ?_
  refine o_nei gn rfl rfl rfl ?_
  refine wl_end ?_
  refine w_cond rfl (fun hb => ?_) fun hb => ?_
  · skip
    refine w_seq ?_
    refine w_region (by kernel_rfl) ?_
    refine o_assign gn rfl rfl ?_
    refine wl_end ?_
    refine w_ret ?_
    refine ⟨.inl rfl, _, rfl, ?_⟩
    exact ⟨by
      have hne : l ≠ m := fun e => by rw [e] at hb; simp at hb
      rw [decide_eq_false hne]; rfl, S.e0⟩
  refine w_skip ?_
  have hlm : l.length = m.length := by simp at hb; omega
  refine w_seq ?_
  refine w_seq ?_
  refine w_region (by kernel_rfl) ?_
  refine o_assign gn rfl rfl ?_
  refine wl_end ?_
  refine w_block ?_
  refine w_loopS [(5, _)] [(0, _), (1, _)] (by repeat (first | exact trivial | refine ⟨rfl, ?_⟩)) (fun kk lv hh => ∃ i : Nat, lv = [(5, iV i)] ∧ kk = l.length - i ∧ i ≤ l.length ∧ SH h [] [] hh ∧ ∀ j (h1 : j < l.length) (h2 : j < m.length), j < i → l[j] = m[j]) (n := (l.length)) ?_ fun kk lv hh hI => ?_
  · exact ⟨0, rfl, rfl, by omega, S, fun j _ _ h3 => by omega⟩
  obtain ⟨i, rfl, rfl, hi3, S, hall⟩ := hI
  refine w_seq ?_
  refine w_seq ?_
  refine w_region (by kernel_rfl) ?_
  refine o_move gn rfl rfl ?_
  refine o_move gn rfl rfl ?_
  refine o_len gn rfl rfl (by kernel_rfl) ?_
  refine o_lss gn rfl rfl rfl ?_
  refine wl_end ?_
  refine w_cond rfl (fun hb => ?_) fun hb => ?_
  · skip
    refine w_skip ?_
    have hil : i < l.length := by simp at hb; omega
    have him : i < m.length := by omega
    obtain ⟨b, o, c, cs, e, q, hv, hg, hlb, hl6, hat⟩ := Y.at (by omega)
    have hta : ta = some ⟨b, o, none⟩ := by injection hv
    have hw : (cs.drop (o + Int.toNat (i : Int) * 3)).take 3 = enC l[i] := by rw [Int.toNat_natCast]; exact hat i hil
    obtain ⟨b2, o2, c2, cs2, e2, q2, hv2, hg2, hlb2, hl62, hat2⟩ := Y2.at (by omega)
    have hua : ua = some ⟨b2, o2, none⟩ := by injection hv2
    have hw2 : (cs2.drop (o2 + Int.toNat (i : Int) * 3)).take 3 = enC m[i] := by rw [Int.toNat_natCast]; exact hat2 i him
    refine w_seq ?_
    refine w_block ?_
    refine w_seq ?_
    refine w_draw [(0, []), (1, []), (2, []), (3, []), (4, []), (5, []), (6, []), (7, []), (8, [])] (by kernel_rfl) (by kernel_rfl) (by kernel_rfl) (by kernel_rfl) ?_
    refine o_move gn rfl rfl ?_
    refine o_move gn rfl rfl ?_
    rw [hta]
    refine o_indexAddr (zz := 3) gn rfl rfl rfl (by kernel_rfl) (by omega) (by omega) ?_
    refine o_loadA (n := 3) gn rfl rfl (by kernel_rfl) (by kernel_rfl) (S.old0 hg hlb) (by rw [Int.toNat_natCast]; omega) ?_
    rw [hw, ← hta]
    refine o_move gn rfl rfl ?_
    refine o_move gn rfl rfl ?_
    rw [hua]
    refine o_indexAddr (zz := 3) gn rfl rfl rfl (by kernel_rfl) (by omega) (by omega) ?_
    refine o_loadA (n := 3) gn rfl rfl (by kernel_rfl) (by kernel_rfl) (S.old0 hg2 hlb2) (by rw [Int.toNat_natCast]; omega) ?_
    rw [hw2, ← hua]
    refine o_bin gn rfl rfl rfl (neq31 l[i] m[i]) ?_
    refine wl_end ?_
    refine w_cond rfl (fun hb => ?_) fun hb => ?_
    · skip
      refine w_seq ?_
      refine w_region (by kernel_rfl) ?_
      refine o_assign gn rfl rfl ?_
      refine wl_end ?_
      refine w_ret ?_
      refine ⟨.inl rfl, _, rfl, ?_⟩
      exact ⟨by
        have hne : l ≠ m := fun e => by subst e; simp at hb
        rw [decide_eq_false hne]; rfl, S.e0⟩
    refine w_skip ?_
    refine w_region (by kernel_rfl) ?_
    refine o_move gn rfl rfl ?_
    refine o_add gn rfl rfl rfl (by omega) (by omega) ?_
    refine o_assign gn rfl rfl ?_
    refine wl_end ?_
    exact rndS (l.length - (i + 1)) (by omega) [(5, _)] (by repeat (first | exact trivial | refine ⟨rfl, ?_⟩)) ⟨i + 1, rfl, rfl, by omega, S, fun j h1 h2 h3 => by
      by_cases e : j = i
      · subst e; simpa using hb
      exact hall j h1 h2 (by omega)⟩
  refine w_exit ?_
  refine thn_exit ?_
  refine rnd_exit ?_
  refine blk_eq ?_
  refine w_seq ?_
  refine w_region (by kernel_rfl) ?_
  refine o_assign gn rfl rfl ?_
  refine wl_end ?_
  refine w_ret ?_
  refine ⟨.inl rfl, _, rfl, ?_⟩
  exact ⟨by
    have hil : i = l.length := by simp at hb; omega
    have he : l = m := en_ext hlm fun j h1 h2 => hall j h1 h2 (by omega)
    rw [decide_eq_true he]; rfl, S.e0⟩
end
section
variable {h : Hp}
theorem c25n : CP givE 25 [.slice none 0 0, iV 0, iV 0, cmpF] h (.tuple #[]) := by
  refine c_enter (fu := Tryz.f25) (by kernel_rfl) rfl ?_
  have S := SH.start h
  refine w_seq ?_
  refine w_region (by kernel_rfl) ?_
  refine o_move gn rfl rfl ?_
  refine o_add gn rfl rfl rfl (by omega) (by omega) ?_
  refine o_assign gn rfl rfl ?_
  refine wl_end ?_
  refine w_block ?_
  refine w_loopS [(8, _)] [(0, _), (1, _), (2, _), (3, _)] (by repeat (first | exact trivial | refine ⟨rfl, ?_⟩)) (fun kk lv hh => lv = [(8, iV 1)] ∧ hh = h) (n := 0) ?_ fun kk lv hh hI => ?_
  · exact ⟨rfl, rfl⟩
  obtain ⟨rfl, rfl⟩ := hI
  refine w_seq ?_
  refine w_seq ?_
  refine w_region (by kernel_rfl) ?_
  refine o_move gn rfl rfl ?_
  refine o_move gn rfl rfl ?_
  refine o_lss gn rfl rfl rfl ?_
  refine wl_end ?_
  refine w_cond rfl (fun hb => ?_) fun hb => ?_
  · skip
    refine w_skip ?_
    refine w_seq ?_
    refine w_block ?_
    refine w_seq ?_
    exact absurd hb (by decide)
  refine w_exit ?_
  refine thn_exit ?_
  refine rnd_exit ?_
  refine blk_eq ?_
  refine ⟨.inr rfl, _, rfl, ?_⟩
  exact ⟨rfl, rfl⟩
theorem c18n : CP givE 18 [.slice none 0 0, iV 0, cmpF] h (.tuple #[]) := by
  refine c_enter (fu := Tryz.f18) (by kernel_rfl) rfl ?_
  have S := SH.start h
  refine w_seq ?_
  refine w_region (by kernel_rfl) ?_
  refine o_assign gn rfl rfl ?_
  refine wl_end ?_
  refine w_seq ?_
  refine w_region (by kernel_rfl) ?_
  refine o_move gn rfl rfl ?_
  refine o_assign gn rfl rfl ?_
  refine o_assign gn rfl rfl ?_
  refine wl_end ?_
  refine w_seq ?_
  refine w_block ?_
  refine w_loopS [(7, _), (8, _)] [(0, _), (1, _), (2, _), (6, _)] (by repeat (first | exact trivial | refine ⟨rfl, ?_⟩)) (fun kk lv hh => lv = [(7, iV 0), (8, iV 20)] ∧ hh = h) (n := 0) ?_ fun kk lv hh hI => ?_
  · exact ⟨rfl, rfl⟩
  obtain ⟨rfl, hE⟩ := hI
  rw [hE]
  refine w_seq ?_
  refine w_seq ?_
  refine w_region (by kernel_rfl) ?_
  refine o_move gn rfl rfl ?_
  refine o_move gn rfl rfl ?_
  refine o_leq gn rfl rfl rfl ?_
  refine wl_end ?_
  refine w_cond rfl (fun hb => ?_) fun hb => ?_
  · skip
    refine w_skip ?_
    refine w_block ?_
    refine w_seq ?_
    exact absurd hb (by decide)
  refine w_exit ?_
  refine thn_exit ?_
  refine rnd_exit ?_
  refine blk_eq ?_
  refine w_seq ?_
  refine w_region (by kernel_rfl) ?_
  refine o_move gn rfl rfl ?_
  refine o_move gn rfl rfl ?_
  refine o_move gn rfl rfl ?_
  refine o_move gn rfl rfl ?_
  refine o_call [_, _, _, _] gn rfl rfl (by kernel_rfl) rfl (C.mono (c25n) ?_)
  rintro v g ⟨rfl, x⟩
  rw [x]
  refine ⟨ag0, ?_⟩
  refine wl_end ?_
  refine w_block ?_
  refine w_loopS [(6, _)] [(0, _), (1, _), (2, _)] (by repeat (first | exact trivial | refine ⟨rfl, ?_⟩)) (fun kk lv hh => lv = [(6, iV 20)] ∧ hh = h) (n := 0) ?_ fun kk lv hh hI => ?_
  · exact ⟨rfl, rfl⟩
  obtain ⟨rfl, rfl⟩ := hI
  refine w_seq ?_
  refine w_seq ?_
  refine w_region (by kernel_rfl) ?_
  refine o_move gn rfl rfl ?_
  refine o_move gn rfl rfl ?_
  refine o_lss gn rfl rfl rfl ?_
  refine wl_end ?_
  refine w_cond rfl (fun hb => ?_) fun hb => ?_
  · skip
    refine w_skip ?_
    refine w_block ?_
    refine w_seq ?_
    exact absurd hb (by decide)
  refine w_exit ?_
  refine thn_exit ?_
  refine rnd_exit ?_
  refine blk_eq ?_
  refine ⟨.inr rfl, _, rfl, ?_⟩
  exact ⟨rfl, rfl⟩
theorem c9n : CP givE 9 [.slice none 0 0, cmpF] h (.tuple #[]) := by
  refine c_enter (fu := Tryz.f9) (by kernel_rfl) rfl ?_
  have S := SH.start h
  refine w_region (by kernel_rfl) ?_
  refine o_move gn rfl rfl ?_
  refine o_move gn rfl rfl ?_
  refine o_len gn rfl rfl (by kernel_rfl) ?_
  refine o_move gn rfl rfl ?_
  refine o_call [_, _, _] gn rfl rfl (by kernel_rfl) rfl (C.mono (c18n) ?_)
  rintro v g ⟨rfl, x⟩
  rw [x]
  refine ⟨ag0, ?_⟩
  refine wl_end ?_
  refine ⟨.inr rfl, _, rfl, ?_⟩
  exact ⟨rfl, rfl⟩
end
section
variable {h0 h : Hp} {ds : List Nat} {L : List Res} {n : Nat} {v : Value} {bs : List Nat} {z : List (En × Nat)}
/-- A row that is kept, sorted. -/
theorem c9R (hz : Tag z) (hI : In z) (hn2 : n ≤ 1000000) (S0 : SH h0 ds (slR 31 2 v (enCs (fs z)) n bs :: L) h) :
    C givE 9 [v, cmpF] h fun _ h' => ∃ S : List (En × Nat), S.Perm z ∧ Srt rk S ∧ SH h0 ds (slR 31 2 v (enCs (fs S)) n bs :: L) h' := by
  rcases S0.sl 0 rfl with ⟨rfl, hc, rfl, rfl⟩ | ⟨b, m, c, rest, rfl, hg, hm, hlt, rfl, hl, hnc, hr⟩
  · have hz0 : z = [] := by
      cases z with
      | nil => rfl
      | cons e L => simp [enCs] at hc
    subst hz0
    refine C.mono c9n ?_
    rintro v g ⟨rfl, rfl⟩
    exact ⟨[], .refl _, .nil, S0⟩
  rw [enCs_len, List.length_map] at hl
  have hzn : z.length = n := by omega
  have S1 : SH h0 ds (cR b (.cells (enCs (fs z) ++ rest) 31 m) :: L) h := S0.upd 0 rfl (.refl _ _) hg (fun j hj => by
    rw [show j = b by simpa [cR] using hj]; exact hlt) (fun j hj => by
    left; rw [show j = b by simpa [cR] using hj, slR]; simp) (by simp [cR])
  refine C.mono (c9 hz hI hzn hn2 (by omega) S1) ?_
  rintro v g ⟨S, p, s, S2⟩
  have hSl : S.length = n := by rw [p.length_eq, hzn]
  refine ⟨S, p, s, S2.upd 0 rfl (.refl _ _) (.inr ⟨b, m, c, rest, rfl, S2.cel 0 rfl, hm, S2.lt1 0 rfl, rfl, by rw [enCs_len, List.length_map, hSl], hnc, hr⟩) (fun j hj => ?_) (fun j hj => ?_) (by simp [slR])⟩
  · rw [show j = b by simpa [slR] using hj]; exact S2.lt1 0 rfl
  left; rw [show j = b by simpa [slR] using hj, cR]; simp
end
section
variable {h : Hp} {v w : Value} {l : List En} {es : List Int}
set_option maxHeartbeats 1000000 in
/-- Given -/
theorem c5 (X : EnAt h v l) (Z : RowV h w (isV es)) (hI : ∀ x, x ∈ l → inE x) (hl : l.length ≤ 100000) (hm : es.length ≤ 100000) : C givE 5 [v, w] h fun u h' => ∃ G bs, Gv (keptL l es) G ∧ SH h [] [slR 31 2 u (enCs G) G.length bs] h' := by
  have Y := X
  obtain ⟨ta, tc, rfl⟩ := X.val
  have Y2 := Z
  obtain ⟨ua, uc, rfl⟩ := Z.valM
  have hZl : (l.zip es).length = min l.length es.length := List.length_zip
  refine c_enter (fu := Tryz.f5) (by kernel_rfl) rfl ?_
  have S := SH.start h
  refine w_seq ?_
  refine w_region (by kernel_rfl) ?_
  refine o_assign gn rfl rfl ?_
  refine wl_end ?_
  refine w_seq ?_
  refine w_region (by kernel_rfl) ?_
  refine o_assign gn rfl rfl ?_
  refine wl_end ?_
  refine w_seq ?_
  refine w_seq ?_
  refine w_region (by kernel_rfl) ?_
  refine o_move gn rfl rfl ?_
  refine o_len gn rfl rfl (by kernel_rfl) ?_
  refine o_move gn rfl rfl ?_
  refine o_len gn rfl rfl (by kernel_rfl) ?_
  refine o_min gn rfl rfl rfl ?_
  refine o_move gn rfl rfl ?_
  refine wl_end ?_
  refine w_block ?_
  refine w_loopS [(5, _), (12, _)] [(0, _), (1, _), (11, _)] (by repeat (first | exact trivial | refine ⟨rfl, ?_⟩)) (fun kk lv hh => ∃ (i : Nat) (u : Value) (bs : List Nat), lv = [(5, u), (12, iV i)] ∧ kk = (l.zip es).length - i ∧ i ≤ (l.zip es).length ∧ SH h [] [slR 31 2 u (enCs (kep okG ((l.zip es).take i))) (kep okG ((l.zip es).take i)).length bs] hh) (n := ((l.zip es).length)) ?_ fun kk lv hh hI => ?_
  · exact ⟨0, .slice none 0 0, [], rfl, rfl, by omega, S.nilSl 31 2⟩
  obtain ⟨i, u, bs, rfl, rfl, hi3, S⟩ := hI
  refine w_seq ?_
  refine w_region (by kernel_rfl) ?_
  refine o_lss gn rfl rfl rfl ?_
  refine wl_end ?_
  refine w_seq ?_
  refine w_cond rfl (fun hb => ?_) fun hb => ?_
  · skip
    refine w_skip ?_
    have hil : i < (l.zip es).length := by have := of_decide_eq_true hb; omega
    have hil1 : i < l.length := by omega
    have hil2 : i < es.length := by omega
    have hnx := kep_next (q := okG) hil
    have hzi : (l.zip es)[i] = (l[i], es[i]) := List.getElem_zip
    have hkl := kep_len (q := okG) (Z := (l.zip es).take i)
    rw [List.length_take] at hkl
    rw [hzi] at hnx
    obtain ⟨b, o, c, cs, e, m, hv, hg, hlb, hl6, hat⟩ := Y.at (by omega)
    have hta : ta = some ⟨b, o, none⟩ := by injection hv
    have hw : (cs.drop (o + Int.toNat (i : Int) * 3)).take 3 = enC l[i] := by rw [Int.toNat_natCast]; exact hat i hil1
    have hwK : cs[o + Int.toNat (i : Int) * 3 + 0]? = some (iV l[i].K) := cell_at hw (by omega) rfl
    obtain ⟨b2, o2, c2, cs2, e2, m2, hv2, hg2, hlb2, hat2⟩ := Y2.atM (by omega)
    have hua : ua = some ⟨b2, o2, none⟩ := by injection hv2
    have hw2 : cs2[o2 + Int.toNat (i : Int) * 1]? = some (iV es[i]) := by rw [Int.toNat_natCast, Nat.mul_one]; exact hat2 i hil2
    refine w_seq ?_
    refine w_block ?_
    refine w_seq ?_
    refine w_region (by kernel_rfl) ?_
    refine o_move gn rfl rfl ?_
    refine o_assign gn rfl rfl ?_
    refine wl_end ?_
    refine w_seq ?_
    refine w_region (by kernel_rfl) ?_
    refine o_move gn rfl rfl ?_
    refine o_move gn rfl rfl ?_
    rw [hua]
    refine o_indexAddr (zz := 1) gn rfl rfl rfl (by kernel_rfl) (by omega) (by omega) ?_
    refine o_load gn rfl rfl (by kernel_rfl) (S.old0 hg2 hlb2) hw2 ?_
    rw [← hua]
    refine o_eqi gn rfl rfl rfl ?_
    refine o_move gn rfl rfl ?_
    refine o_and (n := 14) rfl rfl rfl gn rfl (fun hb => by
        refine o_move (gy rfl rfl rfl hb) rfl rfl ?_
        refine o_move (gy rfl rfl rfl hb) rfl rfl ?_
        rw [hta]
        refine o_indexAddr (zz := 3) (gy rfl rfl rfl hb) rfl rfl rfl (by kernel_rfl) (by omega) (by omega) ?_
        refine o_fieldAddr (off := 0) (gy rfl rfl rfl hb) rfl rfl (by kernel_rfl) ?_
        refine o_load (gy rfl rfl rfl hb) rfl rfl (by kernel_rfl) (S.old0 hg hlb) hwK ?_
        rw [← hta]
        refine o_eqi (gy rfl rfl rfl hb) rfl rfl rfl ?_
        refine o_move (gy rfl rfl rfl hb) rfl rfl ?_
        refine o_or (n := 6) rfl rfl rfl (gy rfl rfl rfl hb) rfl (fun hb => by
            refine o_move (gy rfl rfl rfl hb) rfl rfl ?_
            refine o_move (gy rfl rfl rfl hb) rfl rfl ?_
            rw [hta]
            refine o_indexAddr (zz := 3) (gy rfl rfl rfl hb) rfl rfl rfl (by kernel_rfl) (by omega) (by omega) ?_
            refine o_fieldAddr (off := 0) (gy rfl rfl rfl hb) rfl rfl (by kernel_rfl) ?_
            refine o_load (gy rfl rfl rfl hb) rfl rfl (by kernel_rfl) (S.old0 hg hlb) hwK ?_
            rw [← hta]
            refine o_eqi (gy rfl rfl rfl hb) rfl rfl rfl ?_
            exact wl_end ⟨rfl, rfl, 6, rfl, rfl⟩) ?_
        exact wl_end ⟨rfl, rfl, 8, rfl, rfl⟩) ?_
    refine wl_end ?_
    refine w_cond rfl (fun hb => ?_) fun hb => ?_
    · skip
      have hq : okG l[i] es[i] = true := hb
      rw [hq, if_pos rfl] at hnx
      refine w_region (by kernel_rfl) ?_
      refine o_move gn rfl rfl ?_
      refine o_move gn rfl rfl ?_
      refine o_move gn rfl rfl ?_
      rw [hta]
      refine o_indexAddr (zz := 3) gn rfl rfl rfl (by kernel_rfl) (by omega) (by omega) ?_
      refine o_loadA (n := 3) gn rfl rfl (by kernel_rfl) (by kernel_rfl) (S.old0 hg hlb) (by rw [Int.toNat_natCast]; omega) ?_
      rw [hw, ← hta]
      refine s_buildSlice (e := 31) (z := 2) (zv := .agg #[.int .i64 0, .int .i64 0, .int .i64 0]) [(0, _)] S gn rfl (by kernel_rfl) (by kernel_rfl) (by kernel_rfl) (by kernel_rfl) rfl (by rfl) fun b1 g nb1 S => ?_
      refine s_append (e := 31) (z := 2) (by' := 23) 1 0 S el22 gn rfl rfl rfl rfl rfl rfl (by rfl) (by omega) (fun s' bs' g S => ag0) fun s' bs' g S => ?_
      refine o_assign gn rfl rfl ?_
      refine wl_end ?_
      refine w_region (by kernel_rfl) ?_
      refine o_add gn rfl rfl rfl (by omega) (by omega) ?_
      refine o_move gn rfl rfl ?_
      refine wl_end ?_
      exact rndS ((l.zip es).length - (i + 1)) (by omega) [(5, _), (12, _)] (by repeat (first | exact trivial | refine ⟨rfl, ?_⟩)) ⟨i + 1, s', bs', rfl, rfl, by omega, by
        rw [hnx, List.length_append, ← enCs_add]; exact S.drop⟩
    refine w_skip ?_
    have hq : ¬ okG l[i] es[i] = true := by
      have : okG l[i] es[i] = false := hb
      rw [this]; simp
    rw [if_neg hq, List.append_nil] at hnx
    refine w_region (by kernel_rfl) ?_
    refine o_add gn rfl rfl rfl (by omega) (by omega) ?_
    refine o_move gn rfl rfl ?_
    refine wl_end ?_
    exact rndS ((l.zip es).length - (i + 1)) (by omega) [(5, _), (12, _)] (by repeat (first | exact trivial | refine ⟨rfl, ?_⟩)) ⟨i + 1, u, bs, rfl, rfl, by omega, by
      rw [hnx]; exact S⟩
  refine w_exit ?_
  refine thn_exit ?_
  refine rnd_exit ?_
  refine blk_eq ?_
  refine w_seq ?_
  have hie : i = (l.zip es).length := by have := of_decide_eq_false hb; omega
  subst hie
  rw [List.take_length] at S
  have hkl := kep_len (q := okG) (Z := l.zip es)
  have hkI : In (keptL l es).zipIdx := fun x hx => hI _ (kept_ok (by
    have : x.1 ∈ fs (keptL l es).zipIdx := List.mem_map_of_mem hx
    rwa [zip_fs] at this)).1
  refine w_region (by kernel_rfl) ?_
  refine o_move gn rfl rfl ?_
  refine o_call [_, _] gn rfl rfl (by kernel_rfl) rfl (C.mono (c9R (n := (keptL l es).length) (z := (keptL l es).zipIdx) zip_tag hkI (by show (kep okG (l.zip es)).length ≤ _; omega) (by rw [zip_fs]; exact S)) ?_)
  rintro v g ⟨S1, p1, s1, S⟩
  have hSl : (fs S1).length = (keptL l es).length := by rw [List.length_map, p1.length_eq, List.length_zipIdx]
  refine ⟨ag0, ?_⟩
  refine wl_end ?_
  refine w_seq ?_
  refine w_region (by kernel_rfl) ?_
  refine o_move gn rfl rfl ?_
  refine o_assign gn rfl rfl ?_
  refine wl_end ?_
  refine w_ret ?_
  refine ⟨.inl rfl, _, rfl, ?_⟩
  exact ⟨fs S1, bs, gv_of p1 s1, by rw [hSl]; exact S⟩
end
end Go.Proofs.YthjghimpfpgajaaGreatDoor

