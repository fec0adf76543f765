/- Chapter 4: forms and letters say the same of a twig (plain; printed by genN1.py). Chapter 4: may a tree be, as the document has it. Conditions: none on memory. Chapter 4: much; whose kid a twig is: as the document has it, as the program has it. Conditions: at most 1000 twigs, rows of kids no longer than Go's rows are. Chapter 4: the resolver, as it lies: its cells, rows, maps, taken together as one piece. Conditions: none. Chapter 4: a twig looked at; what is wrong told; numbers looked for. Conditions: the tree lies in the old memory; the resolver is one's own. Chapter 4: what is meant laid down; kids gone over. Conditions: the tree lies in the old memory; the resolver is one's own. Chapter 4: kids gone over, one after the other. Conditions: the tree lies in the old memory; the resolver is one's own; what twigs come to is known for those below. Chapter 4: the resolver's rows, longer and shorter by one. Conditions: none. Chapter 4: functions and blocks gone over. Conditions: the tree lies in the old memory; the resolver is one's own; what twigs come to is known for those below. Chapter 4: locals; what names loopers, events, classes. Conditions: the tree lies in the old memory; the resolver is one's own; what twigs come to is known for those below. Chapter 4: a local's declaration. Conditions: the tree lies in the old memory; the resolver is one's own; what twigs come to is known for those below. Chapter 4: kinds that have names, that open functions; twigs looked for; keys of twigs. Conditions: the tables; the tree lies in the old memory. Chapter 4: kids that are there once each. Conditions: the tree lies in the old memory; the resolver is one's own; what twigs come to is known for those below. -/
import Derived.Test.YtkidomfnmpnmaaaGreatDoorLb
import Derived.Test.YtkidomfnmpnmaaaGreatDoorLa
import Derived.Test.YtkidomfnmpnmaaaGreatDoorXe
import Derived.Test.YtkidomfnmpnmaaaGreatDoorXd
namespace Go.Proofs.YtkidomfnmpnmaaaGreatDoor
open Go.X
theorem Q7y {tail : List UInt8} : ∀ (Ls : List UInt8) (ks : List Int), Ls.all (fun a => decide (a.toNat ≠ 42) && decide (a.toNat ≠ 63)) = true → QF (Ls ++ tail) ks = (QB (Ls.map fun a k => Ko k (a.toNat : Nat)) ks && QF tail (ks.drop Ls.length))
  | [], ks, _ => by simp [QB]
  | a :: Ls, ks, h => by
    simp only [List.all_cons, Bool.and_eq_true, decide_eq_true_eq] at h; obtain ⟨⟨h1, h2⟩, h3⟩ := h; cases ks with
    | nil => rw [List.cons_append, Q5f h1 h2]; simp [QB]
    | cons k ks =>
      rw [List.cons_append, Q0Z h1 h2, Q7y Ls ks h3]; simp [QB, Bool.and_assoc]
theorem QcH : ∀ (l : List (Int → Bool)) (ks : List Int), (decide (l.length ≤ ks.length) && QB l ks) = QB l ks := by
  intro l ks; cases h : QB l ks with
  | false => simp
  | true => simp [(JH.1 h).1]
theorem Q8B (F : FS) (s : ByteArray) (N : Int) (ks : List Int) : JL F s N ks = (Ka F.text s && (decide (F.least ≤ N) && decide (N ≤ F.most)) && (QB F.kids ks && Kc F (ks.drop F.kids.length))) := by
  unfold JL Q0r; rw [← QcH F.kids ks]; simp only [Bool.and_assoc]
  congr 1; congr 1; congr 1
  cases decide (F.kids.length ≤ ks.length) <;> simp
theorem QC {K N : Int} {s : ByteArray} {ks : List Int} (F : FS) (Ls tail : List UInt8) (hF : Yd formT K = some F) (hT : Ka F.text s = Z5 K s) (hN : (decide (F.least ≤ N) && decide (N ≤ F.most)) = Yy K N) (hL : (Qg K).toList = Ls ++ tail)
    (hp : Ls.all (fun a => decide (a.toNat ≠ 42) && decide (a.toNat ≠ 63)) = true) (hK : F.kids = Ls.map fun a k => Ko k (a.toNat : Nat)) (ht : ∀ r, Kc F r = QF tail r) : Qj K s N ks = (Z5 K s && Yy K N && QF (Qg K).toList ks) := by
  have e : F.kids.length = Ls.length := by rw [hK, List.length_map]
  rw [Qj, hF]; show JL F s N ks = _; rw [Q8B, hT, hN, hL, Q7y Ls ks hp, hK, List.length_map, ht]
theorem Qt {a : Option (ByteArray → Bool)} {b c : Int} {d : List (Int → Bool)} (r : List Int) : Kc ⟨a, b, c, d, none, none⟩ r = QF [] r := by
  cases r <;> rfl
theorem Q7V (P : Int → Bool) : ∀ l : List Int, l.all P = (l.dropWhile P).isEmpty
  | [] => rfl
  | k :: l => by
    cases h : P k <;> simp [h, Q7V P l]
theorem Q0g {a : Option (ByteArray → Bool)} {b c : Int} {d : List (Int → Bool)} {P : Int → Bool} (x : UInt8) (h : P = fun k => Ko k (x.toNat : Nat)) (r : List Int) : Kc ⟨a, b, c, d, none, some P⟩ r = QF [42, x] r := by
  subst h; show r.all _ = _; rw [Q7V, Q5e (by decide)]; rfl
theorem Q7j {a : Option (ByteArray → Bool)} {b c : Int} {d : List (Int → Bool)} {P : Int → Bool} (x : UInt8) (h : P = fun k => Ko k (x.toNat : Nat)) (r : List Int) : Kc ⟨a, b, c, d, some P, none⟩ r = QF [63, x] r := by
  subst h; rw [Q7z (by decide)]
  match r with
  | [] => rfl
  | [k] =>
    show Ko k _ = QF [] (Jt x [k]); simp only [Jt]; cases h : Ko k ((x.toNat : Nat) : Int) <;> simp [QF]
  | k :: k2 :: r =>
    show false = QF [] (Jt x (k :: k2 :: r)); simp only [Jt]
    split <;> simp [QF]
theorem is_y : (Yc [5] : Int → Bool) = fun k => Ko k (((121 : UInt8).toNat : Nat) : Int) := by funext k; simp [Ko, Yc]
theorem Qeu : (Yc [12] : Int → Bool) = fun k => Ko k (((98 : UInt8).toNat : Nat) : Int) := by funext k; simp [Ko, Yc]
theorem is_u : (Yc [29] : Int → Bool) = fun k => Ko k (((117 : UInt8).toNat : Nat) : Int) := by funext k; simp [Ko, Yc]
theorem Q6E : (Qw : Int → Bool) = fun k => Ko k (((101 : UInt8).toNat : Nat) : Int) := by funext k; simp [Ko]
theorem is_v : (Q4u : Int → Bool) = fun k => Ko k (((118 : UInt8).toNat : Nat) : Int) := by funext k; simp [Ko]
theorem is_s : (Q24 : Int → Bool) = fun k => Ko k (((115 : UInt8).toNat : Nat) : Int) := by funext k; simp [Ko]
theorem is_d : (Q19 : Int → Bool) = fun k => Ko k (((100 : UInt8).toNat : Nat) : Int) := by funext k; simp [Ko]
theorem is_m : (Yc [4] : Int → Bool) = fun k => Ko k (((109 : UInt8).toNat : Nat) : Int) := by funext k; simp [Ko, Yc]
theorem is_l : (Yc [9] : Int → Bool) = fun k => Ko k (((108 : UInt8).toNat : Nat) : Int) := by funext k; simp [Ko, Yc]
theorem Qea (s : ByteArray) : Q1N opL s = opS s := by simp [Q1N, opL, opS, Bool.or_assoc]
theorem QK {s : ByteArray} {K : Int} (h : Z5 K s = eqS s ⟨#[]⟩) : Ka none s = Z5 K s := by rw [h, Jq]; rfl
theorem Qv {K N : Int} (h : Yy K N = decide (N = 0)) : (decide ((0 : Int) ≤ N) && decide (N ≤ 0)) = Yy K N := by
  rw [h, Bool.eq_iff_iff]; simp only [Bool.and_eq_true, decide_eq_true_eq]; omega
section
variable {s : ByteArray} {N : Int} {ks : List Int}
theorem form_1 : Qj 1 s N ks = (Z5 1 s && Yy 1 N && QF (Qg 1).toList ks) :=
  QC ⟨none, 0, 0, [], none, some (Q19)⟩ [] [42, 100] rfl (QK rfl) (Qv rfl) (by rw [ByteArray.toList_eq]; rfl) (by decide) rfl (Q0g 100 is_d)
theorem form_2 : Qj 2 s N ks = (Z5 2 s && Yy 2 N && QF (Qg 2).toList ks) :=
  QC ⟨some (Qy), 0, 0, [], none, none⟩ [] [] rfl (rfl) (Qv rfl) (by rw [ByteArray.toList_eq]; rfl) (by decide) rfl Qt
theorem form_3 : Qj 3 s N ks = (Z5 3 s && Yy 3 N && QF (Qg 3).toList ks) :=
  QC ⟨some (Qy), 0, 0, [], none, some (Yc [4])⟩ [] [42, 109] rfl (rfl) (Qv rfl) (by rw [ByteArray.toList_eq]; rfl) (by decide) rfl (Q0g 109 is_m)
theorem form_4 : Qj 4 s N ks = (Z5 4 s && Yy 4 N && QF (Qg 4).toList ks) :=
  QC ⟨some (Qy), 0, 0, [Yc [5]], none, none⟩ [121] [] rfl (rfl) (Qv rfl) (by rw [ByteArray.toList_eq]; rfl) (by decide) (by simp only [List.map_cons, List.map_nil, ← is_y]) Qt
theorem form_5 : Qj 5 s N ks = (Z5 5 s && Yy 5 N && QF (Qg 5).toList ks) :=
  QC ⟨some (typS), 0, 0, [], none, none⟩ [] [] rfl (rfl) (Qv rfl) (by rw [ByteArray.toList_eq]; rfl) (by decide) rfl Qt
theorem form_6 : Qj 6 s N ks = (Z5 6 s && Yy 6 N && QF (Qg 6).toList ks) :=
  QC ⟨some (Qy), 0, 0, [Yc [5]], none, none⟩ [121] [] rfl (rfl) (Qv rfl) (by rw [ByteArray.toList_eq]; rfl) (by decide) (by simp only [List.map_cons, List.map_nil, ← is_y]) Qt
theorem form_7 : Qj 7 s N ks = (Z5 7 s && Yy 7 N && QF (Qg 7).toList ks) :=
  QC ⟨some (Qy), 0, 0, [Yc [12]], none, none⟩ [98] [] rfl (rfl) (Qv rfl) (by rw [ByteArray.toList_eq]; rfl) (by decide) (by simp only [List.map_cons, List.map_nil, ← Qeu]) Qt
theorem form_8 : Qj 8 s N ks = (Z5 8 s && Yy 8 N && QF (Qg 8).toList ks) :=
  QC ⟨some (Qy), 0, 0, [Yc [29]], none, some (Yc [9])⟩ [117] [42, 108] rfl (rfl) (Qv rfl) (by rw [ByteArray.toList_eq]; rfl) (by decide) (by simp only [List.map_cons, List.map_nil, ← is_u]) (Q0g 108 is_l)
theorem form_9 : Qj 9 s N ks = (Z5 9 s && Yy 9 N && QF (Qg 9).toList ks) :=
  QC ⟨none, 0, 3, [Yc [12]], none, none⟩ [98] [] rfl (QK rfl) rfl (by rw [ByteArray.toList_eq]; rfl) (by decide) (by simp only [List.map_cons, List.map_nil, ← Qeu]) Qt
theorem Qf5 : Qj 10 s N ks = (Z5 10 s && Yy 10 N && QF (Qg 10).toList ks) :=
  QC ⟨some (Qy), 0, 1, [Yc [29], Yc [12]], none, none⟩ [117, 98] [] rfl (rfl) (by rw [show Yy 10 N = (decide (N = 0) || decide (N = 1)) from rfl, Bool.eq_iff_iff]; simp only [Bool.and_eq_true, Bool.or_eq_true, decide_eq_true_eq]; omega) (by rw [ByteArray.toList_eq]; rfl) (by decide) (by simp only [List.map_cons, List.map_nil, ← is_u, ← Qeu]) Qt
theorem Qf4 : Qj 11 s N ks = (Z5 11 s && Yy 11 N && QF (Qg 11).toList ks) :=
  QC ⟨none, 0, 0, [Yc [12]], none, none⟩ [98] [] rfl (QK rfl) (Qv rfl) (by rw [ByteArray.toList_eq]; rfl) (by decide) (by simp only [List.map_cons, List.map_nil, ← Qeu]) Qt
theorem Qf3 : Qj 12 s N ks = (Z5 12 s && Yy 12 N && QF (Qg 12).toList ks) :=
  QC ⟨none, 0, 0, [], none, some (Q24)⟩ [] [42, 115] rfl (QK rfl) (Qv rfl) (by rw [ByteArray.toList_eq]; rfl) (by decide) rfl (Q0g 115 is_s)
theorem Qf2 : Qj 13 s N ks = (Z5 13 s && Yy 13 N && QF (Qg 13).toList ks) :=
  QC ⟨some (Qy), 0, 0, [Yc [5], Qw], none, none⟩ [121, 101] [] rfl (rfl) (Qv rfl) (by rw [ByteArray.toList_eq]; rfl) (by decide) (by simp only [List.map_cons, List.map_nil, ← is_y, ← Q6E]) Qt
theorem Qf1 : Qj 14 s N ks = (Z5 14 s && Yy 14 N && QF (Qg 14).toList ks) :=
  QC ⟨none, 0, 0, [Q4u, Qw], none, none⟩ [118, 101] [] rfl (QK rfl) (Qv rfl) (by rw [ByteArray.toList_eq]; rfl) (by decide) (by simp only [List.map_cons, List.map_nil, ← is_v, ← Q6E]) Qt
theorem Qf0 : Qj 15 s N ks = (Z5 15 s && Yy 15 N && QF (Qg 15).toList ks) :=
  QC ⟨none, 0, 0, [Qw], none, none⟩ [101] [] rfl (QK rfl) (Qv rfl) (by rw [ByteArray.toList_eq]; rfl) (by decide) (by simp only [List.map_cons, List.map_nil, ← Q6E]) Qt
theorem QeZ : Qj 16 s N ks = (Z5 16 s && Yy 16 N && QF (Qg 16).toList ks) :=
  QC ⟨none, 0, 0, [Qw], none, none⟩ [101] [] rfl (QK rfl) (Qv rfl) (by rw [ByteArray.toList_eq]; rfl) (by decide) (by simp only [List.map_cons, List.map_nil, ← Q6E]) Qt
theorem QeY : Qj 17 s N ks = (Z5 17 s && Yy 17 N && QF (Qg 17).toList ks) :=
  QC ⟨none, 0, 0, [Qw], none, none⟩ [101] [] rfl (QK rfl) (Qv rfl) (by rw [ByteArray.toList_eq]; rfl) (by decide) (by simp only [List.map_cons, List.map_nil, ← Q6E]) Qt
theorem QeX : Qj 18 s N ks = (Z5 18 s && Yy 18 N && QF (Qg 18).toList ks) :=
  QC ⟨none, 0, 0, [Qw], none, none⟩ [101] [] rfl (QK rfl) (Qv rfl) (by rw [ByteArray.toList_eq]; rfl) (by decide) (by simp only [List.map_cons, List.map_nil, ← Q6E]) Qt
theorem QeW : Qj 19 s N ks = (Z5 19 s && Yy 19 N && QF (Qg 19).toList ks) :=
  QC ⟨some (Qy), -1, 2147483647, [Qw], some (Q4u), none⟩ [101] [63, 118] rfl (rfl) rfl (by rw [ByteArray.toList_eq]; rfl) (by decide) (by simp only [List.map_cons, List.map_nil, ← Q6E]) (Q7j 118 is_v)
theorem QeV : Qj 20 s N ks = (Z5 20 s && Yy 20 N && QF (Qg 20).toList ks) :=
  QC ⟨none, 0, 0, [Qw], some (Q4u), none⟩ [101] [63, 118] rfl (QK rfl) (Qv rfl) (by rw [ByteArray.toList_eq]; rfl) (by decide) (by simp only [List.map_cons, List.map_nil, ← Q6E]) (Q7j 118 is_v)
theorem QeU : Qj 21 s N ks = (Z5 21 s && Yy 21 N && QF (Qg 21).toList ks) :=
  QC ⟨some (Qy), 0, 0, [], none, none⟩ [] [] rfl (rfl) (Qv rfl) (by rw [ByteArray.toList_eq]; rfl) (by decide) rfl Qt
theorem QeT : Qj 22 s N ks = (Z5 22 s && Yy 22 N && QF (Qg 22).toList ks) :=
  QC ⟨some (Qy), 0, 0, [], none, none⟩ [] [] rfl (rfl) (Qv rfl) (by rw [ByteArray.toList_eq]; rfl) (by decide) rfl Qt
theorem QeS : Qj 23 s N ks = (Z5 23 s && Yy 23 N && QF (Qg 23).toList ks) :=
  QC ⟨none, 0, 0, [Qw, Yc [12], Yc [12]], none, none⟩ [101, 98, 98] [] rfl (QK rfl) (Qv rfl) (by rw [ByteArray.toList_eq]; rfl) (by decide) (by simp only [List.map_cons, List.map_nil, ← Q6E, ← Qeu]) Qt
theorem QeR : Qj 24 s N ks = (Z5 24 s && Yy 24 N && QF (Qg 24).toList ks) :=
  QC ⟨none, 0, 0, [Qw, Yc [12]], none, none⟩ [101, 98] [] rfl (QK rfl) (Qv rfl) (by rw [ByteArray.toList_eq]; rfl) (by decide) (by simp only [List.map_cons, List.map_nil, ← Q6E, ← Qeu]) Qt
theorem QeQ : Qj 25 s N ks = (Z5 25 s && Yy 25 N && QF (Qg 25).toList ks) :=
  QC ⟨none, 0, 0, [], none, none⟩ [] [] rfl (QK rfl) (Qv rfl) (by rw [ByteArray.toList_eq]; rfl) (by decide) rfl Qt
theorem QeP : Qj 26 s N ks = (Z5 26 s && Yy 26 N && QF (Qg 26).toList ks) :=
  QC ⟨none, 0, 2147483647, [], none, none⟩ [] [] rfl (QK rfl) rfl (by rw [ByteArray.toList_eq]; rfl) (by decide) rfl Qt
theorem QeO : Qj 27 s N ks = (Z5 27 s && Yy 27 N && QF (Qg 27).toList ks) :=
  QC ⟨none, 0, 0, [], none, none⟩ [] [] rfl (QK rfl) (Qv rfl) (by rw [ByteArray.toList_eq]; rfl) (by decide) rfl Qt
theorem QeN : Qj 28 s N ks = (Z5 28 s && Yy 28 N && QF (Qg 28).toList ks) :=
  QC ⟨none, 0, 0, [], none, none⟩ [] [] rfl (QK rfl) (Qv rfl) (by rw [ByteArray.toList_eq]; rfl) (by decide) rfl Qt
theorem QeM : Qj 29 s N ks = (Z5 29 s && Yy 29 N && QF (Qg 29).toList ks) :=
  QC ⟨some (Qy), 0, 0, [], none, none⟩ [] [] rfl (rfl) (Qv rfl) (by rw [ByteArray.toList_eq]; rfl) (by decide) rfl Qt
theorem QeL : Qj 30 s N ks = (Z5 30 s && Yy 30 N && QF (Qg 30).toList ks) :=
  QC ⟨some (Qy), 0, 0, [Qw], none, none⟩ [101] [] rfl (rfl) (Qv rfl) (by rw [ByteArray.toList_eq]; rfl) (by decide) (by simp only [List.map_cons, List.map_nil, ← Q6E]) Qt
theorem QeK : Qj 31 s N ks = (Z5 31 s && Yy 31 N && QF (Qg 31).toList ks) :=
  QC ⟨none, 0, 0, [Qw, Qw], none, none⟩ [101, 101] [] rfl (QK rfl) (Qv rfl) (by rw [ByteArray.toList_eq]; rfl) (by decide) (by simp only [List.map_cons, List.map_nil, ← Q6E]) Qt
theorem QeJ : Qj 32 s N ks = (Z5 32 s && Yy 32 N && QF (Qg 32).toList ks) :=
  QC ⟨some (Q1N opL), 0, 0, [Qw, Qw], none, none⟩ [101, 101] [] rfl ((by rw [show Z5 32 s = opS s from rfl]; exact Qea s)) (Qv rfl) (by rw [ByteArray.toList_eq]; rfl) (by decide) (by simp only [List.map_cons, List.map_nil, ← Q6E]) Qt
theorem QeI : Qj 33 s N ks = (Z5 33 s && Yy 33 N && QF (Qg 33).toList ks) :=
  QC ⟨some (Qy), 0, 0, [], none, none⟩ [] [] rfl (rfl) (Qv rfl) (by rw [ByteArray.toList_eq]; rfl) (by decide) rfl Qt
theorem QeH : Qj 34 s N ks = (Z5 34 s && Yy 34 N && QF (Qg 34).toList ks) :=
  QC ⟨none, 0, 0, [Qw], none, none⟩ [101] [] rfl (QK rfl) (Qv rfl) (by rw [ByteArray.toList_eq]; rfl) (by decide) (by simp only [List.map_cons, List.map_nil, ← Q6E]) Qt
theorem QeG : Qj 35 s N ks = (Z5 35 s && Yy 35 N && QF (Qg 35).toList ks) :=
  QC ⟨none, 0, 0, [Qw], none, none⟩ [101] [] rfl (QK rfl) (Qv rfl) (by rw [ByteArray.toList_eq]; rfl) (by decide) (by simp only [List.map_cons, List.map_nil, ← Q6E]) Qt
theorem QeF : Qj 36 s N ks = (Z5 36 s && Yy 36 N && QF (Qg 36).toList ks) :=
  QC ⟨none, 0, 0, [Yc [12]], none, none⟩ [98] [] rfl (QK rfl) (Qv rfl) (by rw [ByteArray.toList_eq]; rfl) (by decide) (by simp only [List.map_cons, List.map_nil, ← Qeu]) Qt
def Q0q (K : Int) (s : ByteArray) (N : Int) : Bool := decide (1 ≤ K) && decide (K ≤ 36) && Z5 K s && Yy K N
theorem Qcx {K : Int} (h : K < 1 ∨ 36 < K) : Yd formT K = none := by
  have hk : ∀ p, p ∈ formT → 1 ≤ p.1 ∧ p.1 ≤ 36 := by
    intro p hp; have : (formT.map Prod.fst).all (fun k => decide (1 ≤ k) && decide (k ≤ 36)) = true := by decide
    have := List.all_eq_true.1 this p.1 (List.mem_map_of_mem hp); simpa using this
  revert hk
  generalize formT = T
  induction T with
  | nil => intro _; rfl
  | cons p T ih =>
    intro hk; obtain ⟨k, F⟩ := p; have h1 := hk _ (List.mem_cons_self ..); simp only [Yd]; rw [if_neg (by simp only at h1; omega)]; exact ih fun q hq => hk q (List.mem_cons_of_mem _ hq)
theorem Q8z {K : Int} : Qj K s N ks = (Q0q K s N && QF (Qg K).toList ks) := by
  by_cases h : K < 1 ∨ 36 < K
  · rw [Qj, Qcx h]
    have : Q0q K s N = false := by
      unfold Q0q; rcases h with h | h
      · rw [decide_eq_false (by omega : ¬ 1 ≤ K)]; rfl
      rw [decide_eq_false (by omega : ¬ K ≤ 36)]; simp
    rw [this]; rfl
  have e : Q0q K s N = (Z5 K s && Yy K N) := by
    unfold Q0q; rw [decide_eq_true (by omega : 1 ≤ K), decide_eq_true (by omega : K ≤ 36)]; rfl
  rw [e]; rcases (show K = 1 ∨ K = 2 ∨ K = 3 ∨ K = 4 ∨ K = 5 ∨ K = 6 ∨ K = 7 ∨ K = 8 ∨ K = 9 ∨ K = 10 ∨ K = 11 ∨ K = 12 ∨ K = 13 ∨ K = 14 ∨ K = 15 ∨ K = 16 ∨ K = 17 ∨ K = 18 ∨ K = 19 ∨ K = 20 ∨ K = 21 ∨ K = 22 ∨ K = 23 ∨ K = 24 ∨ K = 25 ∨ K = 26 ∨ K = 27 ∨ K = 28 ∨ K = 29 ∨ K = 30 ∨ K = 31 ∨ K = 32 ∨ K = 33 ∨ K = 34 ∨ K = 35 ∨ K = 36 by omega) with rfl | rfl | rfl | rfl | rfl | rfl | rfl | rfl | rfl | rfl | rfl | rfl | rfl | rfl | rfl | rfl | rfl | rfl | rfl | rfl | rfl | rfl | rfl | rfl | rfl | rfl | rfl | rfl | rfl | rfl | rfl | rfl | rfl | rfl | rfl | rfl
  · exact form_1
  · exact form_2
  · exact form_3
  · exact form_4
  · exact form_5
  · exact form_6
  · exact form_7
  · exact form_8
  · exact form_9
  · exact Qf5
  · exact Qf4
  · exact Qf3
  · exact Qf2
  · exact Qf1
  · exact Qf0
  · exact QeZ
  · exact QeY
  · exact QeX
  · exact QeW
  · exact QeV
  · exact QeU
  · exact QeT
  · exact QeS
  · exact QeR
  · exact QeQ
  · exact QeP
  · exact QeO
  · exact QeN
  · exact QeM
  · exact QeL
  · exact QeK
  · exact QeJ
  · exact QeI
  · exact QeH
  · exact QeG
  exact QeF
end
end Go.Proofs.YtkidomfnmpnmaaaGreatDoor
namespace Go.Proofs.YtkidomfnmpnmaaaGreatDoor
open Go.X
theorem Q8k {K K' i : Int} {s s' : ByteArray} (h : decide (0 < QA K' s') = true) (hi : 0 ≤ i) : decide (QA K' s' < Q1z K s i) = Kd K s i K' s' := by
  unfold Kd; rw [Q2K] at h; rw [h, Bool.true_and]
  have hp : 0 < QA K' s' := by
    have := Q2K (K := K') (s := s'); rw [h] at this; exact of_decide_eq_true this
  unfold Q1z
  split
  · rename_i hK; subst hK; have e : ZY 31 s i = if i = 0 then 5 else 0 := by unfold ZY; simp
    rw [e, Bool.eq_iff_iff, decide_eq_true_eq, decide_eq_true_eq]
    split <;> omega
  rfl
theorem Q6q {K K' i : Int} {s s' : ByteArray} (h : decide (0 < QA K' s') = false) : Kd K s i K' s' = false := by
  unfold Kd; rw [Q2K] at h; rw [h, Bool.false_and]
theorem Qcs {K N : Int} {s : ByteArray} (h : (decide (K < 1) || decide (36 < K)) = true) : Q0q K s N = false := by
  unfold Q0q; simp only [Bool.or_eq_true, decide_eq_true_eq] at h; rcases h with h | h
  · rw [decide_eq_false (by omega : ¬ 1 ≤ K)]; rfl
  rw [decide_eq_false (by omega : ¬ K ≤ 36)]; simp
theorem Qcr {K N : Int} {s : ByteArray} (h : (!Z5 K s) = true) : Q0q K s N = false := by
  unfold Q0q; rw [Bool.not_eq_true'] at h; rw [h]; simp
theorem Qcq {K N : Int} {s : ByteArray} (h : (!Yy K N) = true) : Q0q K s N = false := by
  unfold Q0q; rw [Bool.not_eq_true'] at h; rw [h]; simp
theorem Qcp {K N : Int} {s : ByteArray} (h1 : (decide (K < 1) || decide (36 < K)) = false) (h2 : (!Z5 K s) = false) (h3 : (!Yy K N) = false) : Q0q K s N = true := by
  unfold Q0q; simp only [Bool.or_eq_false_iff, decide_eq_false_iff_not, Bool.not_eq_false'] at h1 h2 h3; rw [h2, h3, decide_eq_true (by omega : 1 ≤ K), decide_eq_true (by omega : K ≤ 36)]; rfl
theorem Q6K {R : Option Nat} : Qfr false R = none := by cases R <;> rfl
theorem Q8v {rec : Nat → Int → Option Nat} {T : List Tw} {w : Tw} {nest k : Int} {l : List Int} {i next : Nat} (h : (!decide (k = (next : Int)) || decide ((T.length : Int) ≤ next)) = true) : Yz rec T w nest (k :: l) i next = none := by
  simp only [Yz]
  split
  · rename_i e; rw [e] at h; simp at h; rw [List.getElem?_eq_none (by omega)]
  rfl
theorem QcJ {K K' i : Int} {s s' : ByteArray} (h : (((decide (K = 31) && decide (i = 1)) || decide (K = 34)) || decide (K = 35)) = true) : b2i (decide (K' = 12)) + b2i (Kd K s i K' s') + 1 = Yt K s i K' s' := by
  unfold Yt; simp only [Bool.or_eq_true, Bool.and_eq_true, decide_eq_true_eq] at h; rcases h with (⟨rfl, rfl⟩ | rfl) | rfl <;> simp [b2i]
theorem Qfc {K K' i : Int} {s s' : ByteArray} (h : (((decide (K = 31) && decide (i = 1)) || decide (K = 34)) || decide (K = 35)) = false) : b2i (decide (K' = 12)) + b2i (Kd K s i K' s') = Yt K s i K' s' := by
  unfold Yt; simp only [Bool.or_eq_false_iff] at h; rw [h.1.1, h.1.2, h.2]; simp [b2i]
def encR (o : Option Nat) : Int := match o with
  | some n => n
  | none => 0
theorem enc_eq {o : Option Nat} {n : Nat} (h : 0 < n) : decide (encR o = n) = decide (enc o = n) := by
  cases o with
  | some m => rfl
  | none =>
    show decide ((0 : Int) = n) = decide ((-1 : Int) = n); rw [decide_eq_false (by omega), decide_eq_false (by omega)]
section
variable {h : Hp} {sv ks : Value} {T : List Tw} {K N L Co : Int} {s : ByteArray} {kids : List Int} {i j : Nat}
theorem c45 (X : TreeAt h sv T) (_ : T.length ≤ 1000) (R : RowV h ks (isV kids)) (hi : i < kids.length) (hi2 : i ≤ 1000) (hk : kids[i] = (j : Int)) {w : Tw} (hq : T[j]? = some w) : C nmE 30 [.agg #[sv], twV K s N L Co ks, iV i] h fun v h' => v = .bool (Kd K s i w.K w.s) ∧ Ext h h' := by
  obtain ⟨ta, tc, rfl⟩ := X.val; have hks := RowV.same R; obtain ⟨ka, kc, rfl⟩ := R.valM; obtain ⟨hj, hjw⟩ := List.getElem?_eq_some_iff.1 hq; obtain ⟨b, o, c, cs, e, m, hv, hg, hlb, hl6, hat⟩ := X.at (by omega); have hta : ta = some ⟨b, o, none⟩ := by injection hv
  have hw := hat j hj; rw [hjw] at hw; have hm := X.2 w (List.mem_of_getElem? hq); obtain ⟨K3, s3, N3, L3, C3, ks3, kids3⟩ := w; simp only at hm; obtain ⟨ka3, kc3, rfl⟩ := hm.valM; have hw4 : (cs.drop (o + Int.toNat (j : Int) * 6)).take 6 = [iV K3, .string s3, iV N3, iV L3, iV C3, .slice ka3 kids3.length kc3] := by rw [Int.toNat_natCast]; exact hw
  obtain ⟨kb, ko, kc', kcs, ke, km, hv2, hg2, hlt2, hat2⟩ := R.atM (by omega); have hka : ka = some ⟨kb, ko, none⟩ := by injection hv2
  have hat3 : kcs[ko + i]? = some (iV j) := by rw [hat2 i hi, hk]
  refine Qf (fu := Tryz.f30) (by kernel_rfl) rfl ?_; have S := SH.start h; refine Qd ?_; refine Yu S gn rfl rfl fun b1 g nb1 S => ?_; refine Yu S gn rfl rfl fun b2 g nb2 S => ?_; refine Q3 gn rfl rfl ?_; refine Q5 ?_; refine Qk ?_; refine Z2 [(0, []), (1, []), (2, []), (3, []), (4, []), (5, []), (6, []), (7, []), (8, []), (9, []), (10, [])] (by kernel_rfl) (by kernel_rfl) (by kernel_rfl) (by kernel_rfl) ?_; refine Q0 (off := 0) gn rfl rfl (by kernel_rfl) ?_; refine Q6 gn rfl rfl (by kernel_rfl) (by exact S.cel 1 rfl) rfl ?_; refine Q0 (off := 5) gn rfl rfl (by kernel_rfl) ?_; refine Q6 gn rfl rfl (by kernel_rfl) (by exact S.cel 0 rfl) rfl ?_; refine Q4 gn rfl rfl ?_; rw [hka]
  refine Q8 (zz := 1) gn rfl rfl rfl (by kernel_rfl) (by omega) (by omega) ?_; rw [← hka]; refine Q6 gn rfl rfl (by kernel_rfl) (S.old0 hg2 hlt2) (by rw [Int.toNat_natCast, Nat.mul_one]; exact hat3) ?_; rw [hta]; refine Q8 (zz := 6) gn rfl rfl rfl (by kernel_rfl) (by omega) (by omega) ?_; refine Qs (n := 6) gn rfl rfl (by kernel_rfl) (by kernel_rfl) (S.old0 hg hlb) (by rw [Int.toNat_natCast]; omega) ?_; rw [hw4, ← hta]; refine Qb [_] gn rfl rfl (by kernel_rfl) rfl (C.mono (c19) ?_); rintro v g ⟨rfl, x⟩; have S := S.grow x; refine ⟨ag0, ?_⟩; refine Q3 gn rfl rfl ?_; refine ZC ?_; refine Q4 gn rfl rfl ?_; refine Q00 gn rfl rfl rfl ?_; refine Q4 gn rfl rfl ?_
  refine QS (dc := 20) rfl (fun hb20 => ?_) fun hb20 => ?_
  · skip
    refine Q4 (gy rfl rfl rfl hb20) rfl rfl ?_; refine Qs (n := 6) (gy rfl rfl rfl hb20) rfl rfl (by kernel_rfl) (by kernel_rfl) (by exact S.cel 0 rfl) (Nat.le_refl _) ?_; refine Q4 (gy rfl rfl rfl hb20) rfl rfl ?_; refine Qb [_, _] (gy rfl rfl rfl hb20) rfl rfl (by kernel_rfl) rfl (C.mono (c66 hks (by omega) (by omega)) ?_); rintro v g ⟨rfl, x⟩; have S := S.grow x; refine ⟨ag0, ?_⟩; refine Zo (gy rfl rfl rfl hb20) rfl rfl rfl ?_; refine Z8 gn rfl rfl hb20 rfl ?_; refine Q3 gn rfl rfl ?_; refine Q5 ?_; refine Qc ?_; refine ⟨.inl rfl, _, rfl, ?_⟩; exact ⟨by rw [← Q8k (K := K) (s := s) hb20 (by omega : (0 : Int) ≤ i)]; rfl, S.e0⟩
  refine Z1 (n := 5) (dc := 20) (w := true) rfl hb20 rfl ?_; refine Zg gn rfl rfl hb20 rfl ?_; refine Q3 gn rfl rfl ?_; refine Q5 ?_; refine Qc ?_; refine ⟨.inl rfl, _, rfl, ?_⟩; exact ⟨by rw [Q6q hb20]; rfl, S.e0⟩
theorem c26 (X : TreeAt h sv T) (hT : T.length ≤ 1000) (hs : ∀ t, t ∈ T → t.s.toList.length ≤ 100) : ∀ (f : Nat) (at' : Nat) (nest : Int) (g : Hp), Ext h g → T.length - at' < f → at' ≤ 1000 → 0 ≤ nest → nest ≤ 1000 →
    C nmE 14 [.agg #[sv], iV at', iV nest] g fun v g' => v = iV (encR (ZL T f at' nest)) ∧ Ext g g' := by
  obtain ⟨ta, tc, rfl⟩ := X.val; intro f
  induction f with
  | zero => intro at' nest g _ hf; omega
  | succ f ih =>
  intro at' nest h2 x2 hf hat0 hn0 hn1; have X2 := X.ext x2; refine Qf (fu := Tryz.f14) (by kernel_rfl) rfl ?_; have S := SH.start h2; refine Qd ?_; refine Yu S gn rfl rfl fun b1 g nb1 S => ?_; refine Q3 gn rfl rfl ?_; refine J0 ?_; refine Q4 gn rfl rfl ?_; refine Q0 (off := 0) gn rfl rfl (by kernel_rfl) ?_; refine Q6 gn rfl rfl (by kernel_rfl) (by exact S.cel 0 rfl) rfl ?_; refine QJ gn rfl rfl (by kernel_rfl) ?_; refine Yw gn rfl rfl rfl ?_; refine Q4 gn rfl rfl ?_
  refine Yq (n := 2) rfl rfl rfl gn rfl (fun hb => by
      refine Q4 (gy rfl rfl rfl hb) rfl rfl ?_; refine Q00 (gy rfl rfl rfl hb) rfl rfl rfl ?_
      exact Q5 ⟨rfl, rfl, 2, rfl, rfl⟩) ?_
  refine Q5 ?_; refine Qa rfl (fun hb => ?_) fun hb => ?_
  · skip
    refine Qd ?_; refine Q3 gn rfl rfl ?_; refine Q5 ?_; refine Qc ?_; refine ⟨.inl rfl, _, rfl, ?_⟩; exact ⟨by rw [Q4x hb]; rfl, S.e0⟩
  refine Qe ?_
  obtain ⟨hlt, hne⟩ : at' < T.length ∧ ¬ 64 < nest := by
    simp only [Bool.or_eq_false_iff, decide_eq_false_iff_not] at hb; exact ⟨by omega, hb.2⟩
  obtain ⟨b, o, c, cs, e, m, hv, hg, hlb, hl6, hat⟩ := X2.at hlt; have hta : ta = some ⟨b, o, none⟩ := by injection hv
  have hw := hat at' hlt; have hm := X2.2 _ (List.getElem_mem hlt); have hq : T[at']? = some T[at'] := List.getElem?_eq_getElem hlt; have hsz := hs _ (List.getElem_mem hlt); generalize T[at'] = w at hw hm hq hsz; obtain ⟨K, s, N, L, Co, ks, kids⟩ := w; simp only at hm hsz; obtain ⟨ka, kc, rfl⟩ := hm.valM; have hw2 : (cs.drop (o + Int.toNat (at' : Int) * 6)).take 6 = [iV K, .string s, iV N, iV L, iV Co, .slice ka kids.length kc] := by rw [Int.toNat_natCast]; exact hw
  obtain ⟨R0, hR0⟩ : ∃ R, R = Yz (ZL T f) T ⟨K, s, N, L, Co, .slice ka kids.length kc, kids⟩ nest kids 0 (at' + 1) := ⟨_, rfl⟩
  have hWalk : ZL T (f + 1) at' nest = Qfr (Qj K s N (QP T kids)) R0 := by
    simp only [ZL, hq, if_neg hne, ← hR0]
  rw [Q8z] at hWalk; refine Qd ?_; refine Q0 (off := 0) gn rfl rfl (by kernel_rfl) ?_; refine Q6 gn rfl rfl (by kernel_rfl) (by exact S.cel 0 rfl) rfl ?_; refine Q4 gn rfl rfl ?_; rw [hta]; refine Q8 (zz := 6) gn rfl rfl rfl (by kernel_rfl) (by omega) (by omega) ?_; refine Qs (n := 6) gn rfl rfl (by kernel_rfl) (by kernel_rfl) (S.old0 hg hlb) (by rw [Int.toNat_natCast]; omega) ?_; rw [hw2, ← hta]; refine Zl (zv := .agg #[.int .i64 0, .string .empty, .int .i64 0, .int .i64 0, .int .i64 0, .slice none 0 0]) S gn rfl (by kernel_rfl) fun b2 g nb2 S => ?_; refine QL (n := 6) 0 S gn rfl rfl (by kernel_rfl) (by kernel_rfl) rfl rfl (by decide) rfl (fun g S => ag0) fun g S => ?_; refine Q5 ?_
  refine Jb [(1, iV at'), (2, iV nest), (3, ZB b1), (7, ZB b2)] (fun lv hh => lv = [] ∧ SH h2 [] [cR b2 (.cells (twC K s N L Co (.slice ka kids.length kc)) 41 0), cR b1 (.cells [.slice ta T.length tc] 24 0)] hh ∧ Q0q K s N = true) ?_ fun lv hh hJ => ?_
  · skip
    refine Qd ?_; refine Q0 (off := 0) gn rfl rfl (by kernel_rfl) ?_; refine Q6 gn rfl rfl (by kernel_rfl) (by exact S.cel 0 rfl) rfl ?_; refine Zo gn rfl rfl rfl ?_; refine Q4 gn rfl rfl ?_
    refine Yq (n := 3) rfl rfl rfl gn rfl (fun hb => by
        refine Q0 (off := 0) (gy rfl rfl rfl hb) rfl rfl (by kernel_rfl) ?_; refine Q6 (gy rfl rfl rfl hb) rfl rfl (by kernel_rfl) (by exact S.cel 0 rfl) rfl ?_; refine Q00 (gy rfl rfl rfl hb) rfl rfl rfl ?_
        exact Q5 ⟨rfl, rfl, 3, rfl, rfl⟩) ?_
    refine Q4 gn rfl rfl ?_; refine QS (dc := 34) rfl (fun hb34 => ?_) fun hb34 => ?_
    · skip
      refine Z1 (n := 6) (dc := 34) (w := false) rfl hb34 rfl ?_; refine Z8 gn rfl rfl hb34 rfl ?_; refine Q4 gn rfl rfl ?_; refine QS (dc := 42) rfl (fun hb42 => ?_) fun hb42 => ?_
      · skip
        refine Z1 (n := 6) (dc := 42) (w := false) rfl hb42 rfl ?_; refine Z8 gn rfl rfl hb42 rfl ?_; refine Q5 ?_; refine Qa rfl (fun hb => ?_) fun hb => ?_
        · skip
          refine Qd ?_; refine Q3 gn rfl rfl ?_; refine Q5 ?_; refine Qc ?_; refine ⟨.inl rfl, _, rfl, ?_⟩; exact ⟨by rw [hWalk, Qcs hb34, Bool.false_and, Q6K]; rfl, S.e0⟩
        exact absurd hb (by decide)
      exact absurd hb42 (by decide)
    refine Q0 (off := 0) (gy rfl rfl rfl hb34) rfl rfl (by kernel_rfl) ?_; refine Q6 (gy rfl rfl rfl hb34) rfl rfl (by kernel_rfl) (by exact S.cel 0 rfl) rfl ?_; refine Q0 (off := 1) (gy rfl rfl rfl hb34) rfl rfl (by kernel_rfl) ?_; refine Q6 (gy rfl rfl rfl hb34) rfl rfl (by kernel_rfl) (by exact S.cel 0 rfl) rfl ?_; refine Qb [_, _] (gy rfl rfl rfl hb34) rfl rfl (by kernel_rfl) rfl (C.mono (c43 (by omega)) ?_); rintro v g ⟨rfl, x⟩; have S := S.grow x; refine ⟨ag0, ?_⟩; refine ZN (gy rfl rfl rfl hb34) rfl rfl ?_; refine Zg gn rfl rfl hb34 rfl ?_; refine Q4 gn rfl rfl ?_; refine QS (dc := 42) rfl (fun hb42 => ?_) fun hb42 => ?_
    · skip
      refine Z1 (n := 6) (dc := 42) (w := false) rfl hb42 rfl ?_; refine Z8 gn rfl rfl hb42 rfl ?_; refine Q5 ?_; refine Qa rfl (fun hb => ?_) fun hb => ?_
      · skip
        refine Qd ?_; refine Q3 gn rfl rfl ?_; refine Q5 ?_; refine Qc ?_; refine ⟨.inl rfl, _, rfl, ?_⟩; exact ⟨by rw [hWalk, Qcr hb42, Bool.false_and, Q6K]; rfl, S.e0⟩
      exact absurd hb (by decide)
    refine Q0 (off := 0) (gy rfl rfl rfl hb42) rfl rfl (by kernel_rfl) ?_; refine Q6 (gy rfl rfl rfl hb42) rfl rfl (by kernel_rfl) (by exact S.cel 0 rfl) rfl ?_; refine Q0 (off := 2) (gy rfl rfl rfl hb42) rfl rfl (by kernel_rfl) ?_; refine Q6 (gy rfl rfl rfl hb42) rfl rfl (by kernel_rfl) (by exact S.cel 0 rfl) rfl ?_; refine Qb [_, _] (gy rfl rfl rfl hb42) rfl rfl (by kernel_rfl) rfl (C.mono (c44) ?_); rintro v g ⟨rfl, x⟩; have S := S.grow x; refine ⟨ag0, ?_⟩; refine ZN (gy rfl rfl rfl hb42) rfl rfl ?_; refine Zg gn rfl rfl hb42 rfl ?_; refine Q5 ?_; refine Qa rfl (fun hb => ?_) fun hb => ?_
    · skip
      refine Qd ?_; refine Q3 gn rfl rfl ?_; refine Q5 ?_; refine Qc ?_; refine ⟨.inl rfl, _, rfl, ?_⟩; exact ⟨by rw [hWalk, Qcq hb, Bool.false_and, Q6K]; rfl, S.e0⟩
    refine Qe ?_; exact Q1D [] (by repeat (first | exact trivial | refine ⟨rfl, ?_⟩)) ⟨rfl, S, Qcp hb34 hb42 hb⟩
  obtain ⟨rfl, S, hd⟩ := hJ; rw [hd, Bool.true_and] at hWalk; refine Qd ?_; refine Q3 gn rfl rfl ?_; refine ZC ?_; refine Q4 gn rfl rfl ?_; refine QU gn rfl rfl rfl (by omega) (by omega) ?_; refine Q3 gn rfl rfl ?_; refine J0 ?_; refine Q3 gn rfl rfl ?_; refine Q5 ?_; refine Qh ?_
  refine QV [(8, _), (9, _), (10, _)] [(2, _), (3, _), (7, _)] (by repeat (first | exact trivial | refine ⟨rfl, ?_⟩)) (fun kk lv hh => ∃ (i next : Nat) (kv : Value) (bs : List Nat), lv = [(8, kv), (9, iV next), (10, iV i)] ∧ kk = kids.length - i ∧ i ≤ kids.length ∧ SH h2 [] [slR 39 0 kv (isV (QP T (kids.take i))) i bs, cR b2 (.cells (twC K s N L Co (.slice ka kids.length kc)) 41 0), cR b1 (.cells [.slice ta T.length tc] 24 0)] hh ∧ at' + 1 + i ≤ next ∧ next ≤ T.length ∧ Yz (ZL T f) T ⟨K, s, N, L, Co, .slice ka kids.length kc, kids⟩ nest (kids.drop i) i next = R0) (n := (kids.length)) ?_ fun kk lv hh hI => ?_
  · exact ⟨0, at' + 1, .slice none 0 0, [], rfl, rfl, by omega, S.nilSl 39 0, by omega, by omega, by rw [List.drop_zero, hR0]⟩
  obtain ⟨i, next, kv, bs, rfl, hk, hi, S, hnx, hnl, hR⟩ := hI; refine Qk ?_; refine Qd ?_; refine Q4 gn rfl rfl ?_; refine Q0 (off := 5) gn rfl rfl (by kernel_rfl) ?_; refine Q6 gn rfl rfl (by kernel_rfl) (by exact S.cel 1 rfl) rfl ?_; refine QJ gn rfl rfl (by kernel_rfl) ?_; refine Zo gn rfl rfl rfl ?_; refine Q5 ?_; refine Qa rfl (fun hb => ?_) fun hb => ?_
  · skip
    refine Qe ?_; refine Qk ?_; refine Qh ?_; refine Qk ?_; refine Qk ?_; have hi : i < kids.length := by simp at hb; omega
    obtain ⟨kb, ko, kc', kcs, ke, km, hv2, hg2, hlt2, hat2⟩ := hm.atM (by omega); have hka : ka = some ⟨kb, ko, none⟩ := by injection hv2
    rw [List.drop_eq_getElem_cons hi] at hR; refine Q7 (by kernel_rfl) ?_; refine Q0 (off := 5) gn rfl rfl (by kernel_rfl) ?_; refine Q6 gn rfl rfl (by kernel_rfl) (by exact S.cel 1 rfl) rfl ?_; refine Q4 gn rfl rfl ?_; rw [hka]; refine Q8 (zz := 1) gn rfl rfl rfl (by kernel_rfl) (by omega) (by omega) ?_; rw [← hka]; refine Q6 gn rfl rfl (by kernel_rfl) (S.old0 hg2 hlt2) (by rw [Int.toNat_natCast, Nat.mul_one]; exact hat2 i hi) ?_; refine Q4 gn rfl rfl ?_; refine Q2h gn rfl rfl rfl ?_; refine Q4 gn rfl rfl ?_
    refine Yq (n := 5) rfl rfl rfl gn rfl (fun hb => by
        refine Q4 (gy rfl rfl rfl hb) rfl rfl ?_; refine Q0 (off := 0) (gy rfl rfl rfl hb) rfl rfl (by kernel_rfl) ?_; refine Q6 (gy rfl rfl rfl hb) rfl rfl (by kernel_rfl) (by exact S.cel 2 rfl) rfl ?_; refine QJ (gy rfl rfl rfl hb) rfl rfl (by kernel_rfl) ?_; refine Yw (gy rfl rfl rfl hb) rfl rfl rfl ?_
        exact Q5 ⟨rfl, rfl, 5, rfl, rfl⟩) ?_
    refine Q5 ?_; refine Qa rfl (fun hb => ?_) fun hb => ?_
    · skip
      refine Qd ?_; refine Q3 gn rfl rfl ?_; refine Q5 ?_; refine Qc ?_; refine ⟨.inl rfl, _, rfl, ?_⟩; exact ⟨by rw [hWalk, ← hR, Q8v hb]; rfl, S.e0⟩
    refine Qe ?_; refine Qk ?_
    obtain ⟨hkn, hnl2⟩ : kids[i] = (next : Int) ∧ next < T.length := by
      simp at hb; omega
    rw [hkn]; have hw3 := hat next hnl2; have hm3 := X2.2 _ (List.getElem_mem hnl2); have hq3 : T[next]? = some T[next] := List.getElem?_eq_getElem hnl2; generalize T[next] = w3 at hw3 hm3 hq3; obtain ⟨K3, s3, N3, L3, C3, ks3, kids3⟩ := w3; simp only at hm3; obtain ⟨ka3, kc3, rfl⟩ := hm3.valM; have hk3 : cs[o + Int.toNat (next : Int) * 6 + 0]? = some (iV K3) := by rw [Int.toNat_natCast]; exact KA hw3 (by omega) rfl
    have hdl := Q7H K s i K3 s3; have hbl1 := Q3p (decide (K3 = 12)); have hbl2 := Q3p (Kd K s i K3 s3); rw [hkn] at hR; simp only [Yz, if_true, hq3] at hR; refine Q7 (by kernel_rfl) ?_; refine Q3 gn rfl rfl ?_; refine Q5 ?_; refine Jb [(2, iV nest), (3, ZB b1), (7, ZB b2), (8, kv), (9, iV next), (10, iV i)] (fun lv hh => lv = [(11, iV (b2i (decide (K3 = 12))))] ∧ SH h2 [] [slR 39 0 kv (isV (QP T (kids.take i))) i bs, cR b2 (.cells (twC K s N L Co (.slice ka kids.length kc)) 41 0), cR b1 (.cells [.slice ta T.length tc] 24 0)] hh) ?_ fun lv hh hJ => ?_
    · skip
      refine Qd ?_; refine Q0 (off := 0) gn rfl rfl (by kernel_rfl) ?_; refine Q6 gn rfl rfl (by kernel_rfl) (by exact S.cel 2 rfl) rfl ?_; refine Q4 gn rfl rfl ?_; rw [hta]; refine Q8 (zz := 6) gn rfl rfl rfl (by kernel_rfl) (by omega) (by omega) ?_; refine Q0 (off := 0) gn rfl rfl (by kernel_rfl) ?_; refine Q6 gn rfl rfl (by kernel_rfl) (S.old0 hg hlb) hk3 ?_; rw [← hta]; refine Qr gn rfl rfl rfl ?_; refine Q5 ?_; refine Qa rfl (fun hb => ?_) fun hb => ?_
      · skip
        refine Q7 (by kernel_rfl) ?_; refine Q4 gn rfl rfl ?_; refine QU gn rfl rfl rfl (by omega) (by omega) ?_; refine Q3 gn rfl rfl ?_; refine Q5 ?_; exact Q1D [(11, _)] (by repeat (first | exact trivial | refine ⟨rfl, ?_⟩)) ⟨by rw [hb]; rfl, S⟩
      refine Qe ?_; exact Q1D [(11, _)] (by repeat (first | exact trivial | refine ⟨rfl, ?_⟩)) ⟨by rw [hb]; rfl, S⟩
    obtain ⟨rfl, S⟩ := hJ; refine Jb [(2, iV nest), (3, ZB b1), (7, ZB b2), (8, kv), (9, iV next), (10, iV i)] (fun lv hh => lv = [(11, iV (b2i (decide (K3 = 12)) + b2i (Kd K s i K3 s3)))] ∧ SH h2 [] [slR 39 0 kv (isV (QP T (kids.take i))) i bs, cR b2 (.cells (twC K s N L Co (.slice ka kids.length kc)) 41 0), cR b1 (.cells [.slice ta T.length tc] 24 0)] hh) ?_ fun lv hh hJ => ?_
    · skip
      refine Qd ?_; refine Qs (n := 1) gn rfl rfl (by kernel_rfl) (by kernel_rfl) (by exact S.cel 2 rfl) (Nat.le_refl _) ?_; refine Qs (n := 6) gn rfl rfl (by kernel_rfl) (by kernel_rfl) (by exact S.cel 1 rfl) (Nat.le_refl _) ?_; refine Q4 gn rfl rfl ?_; refine Qb [_, _, _] gn rfl rfl (by kernel_rfl) rfl (C.mono (c45 (X2.ext S.e0) hT (hm.ext S.e0) hi (by omega) hkn hq3) ?_); rintro v g ⟨rfl, x⟩; have S := S.grow x; refine ⟨ag0, ?_⟩; refine Q5 ?_; refine Qa rfl (fun hb => ?_) fun hb => ?_
      · skip
        refine Q7 (by kernel_rfl) ?_; refine Q4 gn rfl rfl ?_; refine QU gn rfl rfl rfl (by omega) (by omega) ?_; refine Q3 gn rfl rfl ?_; refine Q5 ?_; exact Q1D [(11, _)] (by repeat (first | exact trivial | refine ⟨rfl, ?_⟩)) ⟨by rw [hb]; rfl, S⟩
      refine Qe ?_; exact Q1D [(11, _)] (by repeat (first | exact trivial | refine ⟨rfl, ?_⟩)) ⟨by rw [hb]; simp [b2i], S⟩
    obtain ⟨rfl, S⟩ := hJ; refine Jb [(2, iV nest), (3, ZB b1), (7, ZB b2), (8, kv), (9, iV next), (10, iV i)] (fun lv hh => lv = [(11, iV (Yt K s i K3 s3))] ∧ SH h2 [] [slR 39 0 kv (isV (QP T (kids.take i))) i bs, cR b2 (.cells (twC K s N L Co (.slice ka kids.length kc)) 41 0), cR b1 (.cells [.slice ta T.length tc] 24 0)] hh) ?_ fun lv hh hJ => ?_
    · skip
      refine Qd ?_; refine Q0 (off := 0) gn rfl rfl (by kernel_rfl) ?_; refine Q6 gn rfl rfl (by kernel_rfl) (by exact S.cel 1 rfl) rfl ?_; refine Qr gn rfl rfl rfl ?_; refine Q4 gn rfl rfl ?_
      refine Y6 (n := 2) rfl rfl rfl gn rfl (fun hb => by
          refine Q4 (gy rfl rfl rfl hb) rfl rfl ?_; refine Qr (gy rfl rfl rfl hb) rfl rfl rfl ?_
          exact Q5 ⟨rfl, rfl, 2, rfl, rfl⟩) ?_
      refine Q4 gn rfl rfl ?_
      refine Yq (n := 3) rfl rfl rfl gn rfl (fun hb => by
          refine Q0 (off := 0) (gy rfl rfl rfl hb) rfl rfl (by kernel_rfl) ?_; refine Q6 (gy rfl rfl rfl hb) rfl rfl (by kernel_rfl) (by exact S.cel 1 rfl) rfl ?_; refine Qr (gy rfl rfl rfl hb) rfl rfl rfl ?_
          exact Q5 ⟨rfl, rfl, 3, rfl, rfl⟩) ?_
      refine Q4 gn rfl rfl ?_
      refine Yq (n := 3) rfl rfl rfl gn rfl (fun hb => by
          refine Q0 (off := 0) (gy rfl rfl rfl hb) rfl rfl (by kernel_rfl) ?_; refine Q6 (gy rfl rfl rfl hb) rfl rfl (by kernel_rfl) (by exact S.cel 1 rfl) rfl ?_; refine Qr (gy rfl rfl rfl hb) rfl rfl rfl ?_
          exact Q5 ⟨rfl, rfl, 3, rfl, rfl⟩) ?_
      refine Q5 ?_; refine Qa rfl (fun hb => ?_) fun hb => ?_
      · skip
        refine Q7 (by kernel_rfl) ?_; refine Q4 gn rfl rfl ?_; refine QU gn rfl rfl rfl (by omega) (by omega) ?_; refine Q3 gn rfl rfl ?_; refine Q5 ?_; exact Q1D [(11, _)] (by repeat (first | exact trivial | refine ⟨rfl, ?_⟩)) ⟨by rw [QcJ hb], S⟩
      refine Qe ?_; exact Q1D [(11, _)] (by repeat (first | exact trivial | refine ⟨rfl, ?_⟩)) ⟨by rw [Qfc hb], S⟩
    obtain ⟨rfl, S⟩ := hJ; refine Qd ?_; refine Q4 gn rfl rfl ?_; refine Q0 (off := 0) gn rfl rfl (by kernel_rfl) ?_; refine Q6 gn rfl rfl (by kernel_rfl) (by exact S.cel 2 rfl) rfl ?_; refine Q4 gn rfl rfl ?_; rw [hta]; refine Q8 (zz := 6) gn rfl rfl rfl (by kernel_rfl) (by omega) (by omega) ?_; refine Q0 (off := 0) gn rfl rfl (by kernel_rfl) ?_; refine Q6 gn rfl rfl (by kernel_rfl) (S.old0 hg hlb) hk3 ?_; rw [← hta]; refine Qn (cs := #[iV K3]) (e := 39) (z := 0) (zv := .int .i64 0) [(0, _)] S gn rfl (by kernel_rfl) (by kernel_rfl) (by kernel_rfl) (by kernel_rfl) rfl (by kernel_rfl) fun b3 g nb3 S => ?_
    refine KI (e := 39) (z := 0) (by' := 7) 1 0 S el58 gn rfl rfl rfl rfl rfl rfl (by rfl) (by omega) (fun s' bs' g S => ag0) fun s' bs' g S => ?_; refine Q3 gn rfl rfl ?_; refine ZC ?_; refine Qs (n := 1) gn rfl rfl (by kernel_rfl) (by kernel_rfl) (by exact S.cel 3 rfl) (Nat.le_refl _) ?_; refine Q4 gn rfl rfl ?_; refine Q4 gn rfl rfl ?_; refine Q4 gn rfl rfl ?_; refine QU gn rfl rfl rfl (by omega) (by omega) ?_; refine Qb [_, _, _] gn rfl rfl (by kernel_rfl) rfl (C.mono (ih next (nest + Yt K s i K3 s3) _ (x2.trans S.e0) (by omega) (by omega) (by omega) (by omega)) ?_); rintro v g ⟨rfl, x⟩; have S := S.grow x; refine ⟨ag0, ?_⟩; refine Q3 gn rfl rfl ?_; refine ZC ?_; refine Q4 gn rfl rfl ?_
    refine Qr gn rfl rfl rfl ?_; refine Q5 ?_; refine Qa rfl (fun hb => ?_) fun hb => ?_
    · skip
      refine Qd ?_; refine Q3 gn rfl rfl ?_; refine Q5 ?_; refine Qc ?_; refine ⟨.inl rfl, _, rfl, ?_⟩
      exact ⟨by
        cases hx : ZL T f next (nest + Yt K s i K3 s3) with
        | none => rw [hx] at hR; rw [hWalk, ← hR]; rfl
        | some n =>
          have := Q1G hx
          rw [hx] at hb; exact absurd (of_decide_eq_true hb) (show ¬ ((n : Int) = 0) by omega), S.e0⟩
    refine Qe ?_
    obtain ⟨n3, hn3⟩ : ∃ n, ZL T f next (nest + Yt K s i K3 s3) = some n := by
      cases hx : ZL T f next (nest + Yt K s i K3 s3) with
      | none => rw [hx] at hb; exact absurd hb (by decide)
      | some n => exact ⟨n, rfl⟩
    have hn4 := Q1G hn3; rw [hn3]; rw [hn3] at hR
    have hkinds : isV (QP T (kids.take (i + 1))) = isV (QP T (kids.take i)) ++ [iV K3] := by
      rw [List.take_add_one, List.getElem?_eq_getElem hi, hkn]; simp [QP, hq3]
    refine Q7 (by kernel_rfl) ?_; refine Q4 gn rfl rfl ?_; refine QU gn rfl rfl rfl (by omega) (by omega) ?_; refine Q3 gn rfl rfl ?_; refine Q5 ?_; exact KL (kids.length - (i + 1)) (by omega) [(8, _), (9, _), (10, _)] (by repeat (first | exact trivial | refine ⟨rfl, ?_⟩)) ⟨i + 1, n3, s', bs', rfl, rfl, by omega, by rw [hkinds]; exact S.drop, by omega, by omega, hR⟩
  refine Zb ?_; refine Qx ?_; refine Qz ?_; refine Za ?_; refine Qk ?_; refine Qk ?_; have hii : i = kids.length := by simp at hb; omega
  subst hii; rw [List.drop_length] at hR; have hR1 : R0 = some next := hR.symm; rw [hR1] at hWalk; have hkl : (QP T kids).length = kids.length := by simp [QP]
  have hsl : SlC 39 0 hh kv (isV (QP T kids)) (QP T kids).length bs := by
    have := S.sl 0 rfl; rw [List.take_length] at this; rw [hkl]; exact this
  refine Q7 (by kernel_rfl) ?_; refine Q0 (off := 0) gn rfl rfl (by kernel_rfl) ?_; refine Q6 gn rfl rfl (by kernel_rfl) (by exact S.cel 1 rfl) rfl ?_; refine Q4 gn rfl rfl ?_; refine Qb [_, _] gn rfl rfl (by kernel_rfl) rfl (C.mono (c46 hsl.row (by omega)) ?_); rintro v g ⟨rfl, x⟩; have S := S.grow x; refine ⟨ag0, ?_⟩; refine ZN gn rfl rfl ?_; refine Q5 ?_; refine Qa rfl (fun hb => ?_) fun hb => ?_
  · skip
    refine Qd ?_; refine Q3 gn rfl rfl ?_; refine Q5 ?_; refine Qc ?_; refine ⟨.inl rfl, _, rfl, ?_⟩; exact ⟨by rw [hWalk]; rw [Bool.not_eq_true'] at hb; rw [hb]; rfl, S.e0⟩
  refine Qe ?_; refine Qd ?_; refine Q4 gn rfl rfl ?_; refine Q3 gn rfl rfl ?_; refine Q5 ?_; refine Qc ?_; refine ⟨.inl rfl, _, rfl, ?_⟩; exact ⟨by rw [hWalk]; rw [Bool.not_eq_false'] at hb; rw [hb]; rfl, S.e0⟩
theorem c11 (X : TreeAt h sv T) (hT : T.length ≤ 1000) (hs : ∀ t, t ∈ T → t.s.toList.length ≤ 100) : C nmE 6 [.agg #[sv]] h fun v h' => v = .bool (Q43 T) ∧ Ext h h' := by
  obtain ⟨ta, tc, rfl⟩ := X.val; refine Qf (fu := Tryz.f6) (by kernel_rfl) rfl ?_; have S := SH.start h; refine Qd ?_; refine Yu S gn rfl rfl fun b1 g nb1 S => ?_; refine Q3 gn rfl rfl ?_; refine Q5 ?_; refine Qk ?_; refine Z2 [(0, []), (1, []), (2, []), (3, []), (4, []), (5, []), (6, []), (7, []), (8, []), (9, []), (10, []), (11, []), (12, []), (13, []), (15, []), (16, []), (17, []), (14, [16, 17]), (18, []), (19, []), (20, [])] (by kernel_rfl) (by kernel_rfl) (by kernel_rfl) (by kernel_rfl) ?_; refine Q0 (off := 0) gn rfl rfl (by kernel_rfl) ?_; refine Q6 gn rfl rfl (by kernel_rfl) (by exact S.cel 0 rfl) rfl ?_; refine QJ gn rfl rfl (by kernel_rfl) ?_; refine Q00 gn rfl rfl rfl ?_
  refine Q4 gn rfl rfl ?_
  refine Y6 (B := decide (Q5r T = 1)) (n := 6) rfl rfl rfl gn rfl (fun hb => by
      refine Q0 (off := 0) (gy rfl rfl rfl hb) rfl rfl (by kernel_rfl) ?_; refine Q6 (gy rfl rfl rfl hb) rfl rfl (by kernel_rfl) (by exact S.cel 0 rfl) rfl ?_; have hlt : 0 < T.length := by simpa using hb
      obtain ⟨b, o, c, cs, e, m, hv, hg, hlb, hl6, hat⟩ := X.at hlt; have hta : ta = some ⟨b, o, none⟩ := by injection hv
      have hw : cs[o + 0 * 6 + 0]? = some (iV (Q5r T)) := by rw [Q48 hlt]; exact KA (hat 0 hlt) (by omega) rfl
      rw [hta]; refine Q8 (zz := 6) (gy rfl rfl rfl hb) rfl rfl rfl (by kernel_rfl) (by omega) (by omega) ?_; refine Q0 (off := 0) (gy rfl rfl rfl hb) rfl rfl (by kernel_rfl) ?_; refine Q6 (gy rfl rfl rfl hb) rfl rfl (by kernel_rfl) (S.old0 hg hlb) hw ?_; refine Qr (gy rfl rfl rfl hb) rfl rfl rfl ?_
      exact Q5 ⟨rfl, rfl, 6, rfl, rfl⟩) ?_
  refine Q4 gn rfl rfl ?_; refine QS (dc := 15) rfl (fun hb15 => ?_) fun hb15 => ?_
  · skip
    refine Qs (n := 1) (gy rfl rfl rfl hb15) rfl rfl (by kernel_rfl) (by kernel_rfl) (by exact S.cel 0 rfl) (Nat.le_refl _) ?_; refine Q0 (off := 0) (gy rfl rfl rfl hb15) rfl rfl (by kernel_rfl) ?_; refine Q6 (gy rfl rfl rfl hb15) rfl rfl (by kernel_rfl) (by exact S.cel 0 rfl) rfl ?_; refine QJ (gy rfl rfl rfl hb15) rfl rfl (by kernel_rfl) ?_; refine Qb [_, _, _] (gy rfl rfl rfl hb15) rfl rfl (by kernel_rfl) rfl (C.mono (c26 (X.ext S.e0) hT hs (T.length + 1) 0 0 _ (.refl _) (by omega) (by omega) (by omega) (by omega)) ?_); rintro v g ⟨rfl, x⟩; have S := S.grow x
    refine ⟨(ag1 (Zt (gy rfl rfl rfl hb15) rfl (by kernel_rfl) (by exact S.cel 0 rfl) rfl rfl ZM) (ag1 (Q3r (gy rfl rfl rfl hb15) rfl (by kernel_rfl) rfl) ag0)), ?_⟩; refine Qr (gy rfl rfl rfl hb15) rfl rfl rfl ?_; refine Z8 gn rfl rfl hb15 rfl ?_; refine Q3 gn rfl rfl ?_; refine Q5 ?_; refine Qc ?_; refine ⟨.inl rfl, _, rfl, ?_⟩
    exact ⟨by
      have h0 : 0 < T.length := by simp at hb15; omega
      rw [Q43, hb15, Bool.true_and, ← enc_eq h0]; rfl, S.e0⟩
  refine Z1 (n := 6) (dc := 15) (w := true) rfl hb15 rfl ?_; refine Zg gn rfl rfl hb15 rfl ?_; refine Q3 gn rfl rfl ?_; refine Q5 ?_; refine Qc ?_; refine ⟨.inl rfl, _, rfl, ?_⟩; exact ⟨by rw [Q43, hb15, Bool.false_and]; rfl, S.e0⟩
end
end Go.Proofs.YtkidomfnmpnmaaaGreatDoor
namespace Go.Proofs.YtkidomfnmpnmaaaGreatDoor
open Go.X
def Q57 (T : List Tw) (n : Nat) : Bool := ((T.take n).any fun t => decide (100 < t.s.toList.length)) || decide (n < T.length)
theorem Q6v {T : List Tw} {n : Nat} (h : Q57 T n = false) : T.length ≤ n ∧ ∀ t, t ∈ T → t.s.toList.length ≤ 100 := by
  simp only [Q57, Bool.or_eq_false_iff, decide_eq_false_iff_not] at h; have hl : T.length ≤ n := by omega
  refine ⟨hl, fun t ht => ?_⟩; rw [List.take_of_length_le hl] at h; have := List.any_eq_false.1 h.1 t ht; simpa using this
theorem Qcc {T : List Tw} {n j : Nat} (hj : j < T.length) (hn : j < n) (h : 100 < T[j].s.toList.length) : Q57 T n = true := by
  unfold Q57; rw [Bool.or_eq_true]; refine .inl (List.any_eq_true.2 ⟨T[j], ?_, by simpa using h⟩); exact List.mem_take_iff_getElem.2 ⟨j, by omega, rfl⟩
theorem Qcd {T : List Tw} {n : Nat} (h : ∀ j (hj : j < T.length), j < n → T[j].s.toList.length ≤ 100) : Q57 T n = decide (n < T.length) := by
  unfold Q57
  have : ((T.take n).any fun t => decide (100 < t.s.toList.length)) = false := List.any_eq_false.2 fun t ht => by
    obtain ⟨j, hj, rfl⟩ := List.mem_take_iff_getElem.1 ht; have := h j (by omega) (by omega); simp; omega
  rw [this, Bool.false_or]
theorem QdO (os : List Int) (q : Nat) (i : Int) : (isV os).set q (iV i) = isV (os.set q i) := by rw [isV, isV, List.map_set]
section
variable {h : Hp} {sv : Value} {T : List Tw}
theorem c8 (X : TreeAt h sv T) : C nmE 5 [.agg #[sv], iV 300] h fun v h' => v = .bool (Q57 T 300) ∧ Ext h h' := by
  obtain ⟨ta, tc, rfl⟩ := X.val; refine Qf (fu := Tryz.f5) (by kernel_rfl) rfl ?_; have S := SH.start h; refine Qd ?_; refine Yu S gn rfl rfl fun b1 g nb1 S => ?_; refine Q3 gn rfl rfl ?_; refine J0 ?_; refine Q3 gn rfl rfl ?_; refine Q5 ?_; refine Qh ?_; refine QV [(5, _)] [(1, _), (2, _)] (by repeat (first | exact trivial | refine ⟨rfl, ?_⟩)) (fun kk lv hh => ∃ j : Nat, lv = [(5, iV j)] ∧ kk = 300 - j ∧ j ≤ 300 ∧ SH h [] [cR b1 (.cells [.slice ta T.length tc] 24 0)] hh ∧ ∀ i (hi : i < T.length), i < j → T[i].s.toList.length ≤ 100) (n := 300) ?_ fun kk lv hh hI => ?_
  · exact ⟨0, rfl, rfl, by omega, S, fun i _ hi => by omega⟩
  obtain ⟨j, rfl, hkk, hj3, S, hs⟩ := hI; refine Qk ?_; refine Qd ?_; refine Q4 gn rfl rfl ?_; refine Q0 (off := 0) gn rfl rfl (by kernel_rfl) ?_; refine Q6 gn rfl rfl (by kernel_rfl) (by exact S.cel 0 rfl) rfl ?_; refine QJ gn rfl rfl (by kernel_rfl) ?_; refine Zo gn rfl rfl rfl ?_; refine Q4 gn rfl rfl ?_
  refine Y6 (n := 3) rfl rfl rfl gn rfl (fun hb => by
      refine Q4 (gy rfl rfl rfl hb) rfl rfl ?_; refine Q4 (gy rfl rfl rfl hb) rfl rfl ?_; refine Zo (gy rfl rfl rfl hb) rfl rfl rfl ?_
      exact Q5 ⟨rfl, rfl, 3, rfl, rfl⟩) ?_
  refine Q5 ?_; refine Qa rfl (fun hb => ?_) fun hb => ?_
  · skip
    refine Qe ?_
    obtain ⟨hj, hj3⟩ : j < T.length ∧ j < 300 := by
      simp only [Bool.and_eq_true, decide_eq_true_eq] at hb; omega
    obtain ⟨b, o, c, cs, e, m, hv, hg, hlb, hl6, hat⟩ := X.at (by omega); have hta : ta = some ⟨b, o, none⟩ := by injection hv
    have hw : cs[o + Int.toNat (j : Int) * 6 + 1]? = some (.string T[j].s) := by rw [Int.toNat_natCast]; exact KA (hat j hj) (by omega) rfl
    refine Qk ?_; refine Qh ?_; refine Qd ?_; refine Q0 (off := 0) gn rfl rfl (by kernel_rfl) ?_; refine Q6 gn rfl rfl (by kernel_rfl) (by exact S.cel 0 rfl) rfl ?_; refine Q4 gn rfl rfl ?_; rw [hta]; refine Q8 (zz := 6) gn rfl rfl rfl (by kernel_rfl) (by omega) (by omega) ?_; rw [← hta]; refine Q0 (off := 1) gn rfl rfl (by kernel_rfl) ?_; refine Q6 gn rfl rfl (by kernel_rfl) (S.old0 hg hlb) hw ?_; refine KQ gn rfl rfl (by kernel_rfl) ?_; rw [Jw]; refine Q00 gn rfl rfl rfl ?_; refine Q5 ?_; refine Qa rfl (fun hb => ?_) fun hb => ?_
    · skip
      refine Qd ?_; refine Q3 gn rfl rfl ?_; refine Q5 ?_; refine Qc ?_; refine ⟨.inl rfl, _, rfl, ?_⟩; exact ⟨by rw [Qcc hj hj3 (by simp at hb; omega)]; rfl, S.e0⟩
    refine Qe ?_; refine Q7 (by kernel_rfl) ?_; refine Q4 gn rfl rfl ?_; refine QU gn rfl rfl rfl (by omega) (by omega) ?_; refine Q3 gn rfl rfl ?_; refine Q5 ?_
    exact KL (300 - (j + 1)) (by omega) [(5, _)] (by repeat (first | exact trivial | refine ⟨rfl, ?_⟩)) ⟨j + 1, rfl, rfl, by omega, S, fun i hi hij => by
      have hsw : T[j].s.toList.length ≤ 100 := by simp at hb; omega
      by_cases e : i = j
      · subst e; exact hsw
      exact hs i hi (by omega)⟩
  refine Zb ?_; refine Qx ?_; refine Qz ?_; refine Za ?_; refine Qd ?_; refine Q0 (off := 0) gn rfl rfl (by kernel_rfl) ?_; refine Q6 gn rfl rfl (by kernel_rfl) (by exact S.cel 0 rfl) rfl ?_; refine QJ gn rfl rfl (by kernel_rfl) ?_; refine Q4 gn rfl rfl ?_; refine Q00 gn rfl rfl rfl ?_; refine Q3 gn rfl rfl ?_; refine Q5 ?_; refine Qc ?_; refine ⟨.inl rfl, _, rfl, ?_⟩
  exact ⟨by
    rw [Qcd fun i hi h3 => hs i hi (by simp at hb; omega)]; show Value.bool _ = Value.bool _
    congr 1
    rw [Bool.eq_iff_iff, decide_eq_true_eq, decide_eq_true_eq]; omega, S.e0⟩
end
end Go.Proofs.YtkidomfnmpnmaaaGreatDoor
namespace Go.Proofs.YtkidomfnmpnmaaaGreatDoor
open Go.X Go.Nam
structure SlW where
  v : Value
  c : List Value
  n : Nat
  b : List Nat
structure RsW where
  me : SlW
  ow : SlW
  lo : SlW
  cl : SlW
  gl : SlW
  co : SlW
  ev : SlW
  fu : SlW
  wr : SlW
  sc : SlW
  gm : Nat
  rm : Nat
  cv : List (Value × List Nat)
  sp : List Res
  cp : List Res
def Q6x (m : Int × Int) : Value := .agg #[iV m.1, iV m.2]
def meC (l : List (Int × Int)) : List Value := l.flatMap fun m => [iV m.1, iV m.2]
def wrC (l : List (Int × Int × Int)) : List Value := l.flatMap fun m => [iV m.1, iV m.2.1, iV m.2.2]
def fuC : List Fun → List (Value × List Nat) → List Value
  | f :: l, c :: r => [iV f.tw, iV f.up, .string f.nm, c.1] ++ fuC l r
  | _, _ => []
def caP : List Fun → List (Value × List Nat) → List Res
  | f :: l, c :: r => slR 3 0 c.1 (isV f.caps) f.caps.length c.2 :: caP l r
  | _, _ => []
def scC : List Sco → List Nat → List Value
  | s :: l, r :: rs => [.map (some r), iV s.ow] ++ scC l rs
  | _, _ => []
def scP : List Sco → List Nat → List Res
  | s :: l, r :: rs => mpR Value.string iV r s.loc :: scP l rs
  | _, _ => []
def Q0O (K : Int) : Option Nat :=
  if K = 11 then some 36 else if K = 9 then some 37 else if K = 36 then some 38 else if K = 12 then some 39 else if K = 13 then some 40 else if K = 29 then some 41 else if K = 5 then some 42 else if K = 19 then some 43 else if K = 21 ∨ K = 22 then some 44 else if K = 33 then some 45 else if ZP K = true then some 47 else none
def funV (f : Nat) : Value := .func (.func f) #[] #[]
abbrev SlW.R (w : SlW) (e z : Nat) : Res := slR e z w.v w.c w.n w.b
abbrev rsC (sv : Value) (st : Nst) (w : RsW) : List Value := [sv, w.me.v, w.ow.v, w.lo.v, w.cl.v, w.gl.v, w.co.v, w.ev.v, w.fu.v, iV st.main, w.wr.v, .map (some w.gm), w.sc.v, iV st.owner, iV st.inner, iV st.mains, .map (some w.rm)]
abbrev rsL (rb : Nat) (sv : Value) (st : Nst) (w : RsW) : List Res :=
  cR rb (.cells (rsC sv st w) 62 0) :: w.me.R 38 1 :: w.ow.R 3 0 :: w.lo.R 3 0 :: w.cl.R 3 0 :: w.gl.R 3 0 :: w.co.R 3 0 :: w.ev.R 3 0 :: w.fu.R 45 3 :: w.wr.R 55 2 :: mpR Value.string Q6x w.gm st.glob :: w.sc.R 120 1 :: mpR iV funV w.rm Q0O :: (w.sp ++ w.cp)
structure RsE (st : Nst) (rs : List Nat) (w : RsW) : Prop where
  me : w.me.c = meC st.means
  men : w.me.n = st.means.length
  ow : w.ow.c = isV st.owners
  own : w.ow.n = st.owners.length
  lo : w.lo.c = isV st.lo
  lon : w.lo.n = st.lo.length
  cl : w.cl.c = isV st.cl
  cln : w.cl.n = st.cl.length
  gl : w.gl.c = isV st.gl
  gln : w.gl.n = st.gl.length
  co : w.co.c = isV st.cp
  con : w.co.n = st.cp.length
  ev : w.ev.c = isV st.ev
  evn : w.ev.n = st.ev.length
  fu : w.fu.c = fuC st.funcs w.cv
  fun' : w.fu.n = st.funcs.length
  wr : w.wr.c = wrC st.wrong
  wrn : w.wr.n = st.wrong.length
  sc : w.sc.c = scC st.scopes rs
  scn : w.sc.n = st.scopes.length
  rsn : rs.length = st.scopes.length
  cv : w.cv.length = st.funcs.length
  sp : w.sp = scP st.scopes rs
  cp : w.cp = caP st.funcs w.cv
  cpb : st.cp.length ≤ 1000000
  lsb : st.lo.length ≤ 1000000 ∧ st.cl.length ≤ 1000000 ∧ st.gl.length ≤ 1000000 ∧ st.ev.length ≤ 1000000
def rsR (rb : Nat) (sv : Value) (st : Nst) (rs bs : List Nat) : Res := Qdg (fun L => ∃ w, RsE st rs w ∧ L = rsL rb sv st w) bs
section
variable {h0 h : Hp} {ds bs rs : List Nat} {A : List Res} {rb : Nat} {sv : Value} {st : Nst} {w : RsW}
theorem Qo (S : SH h0 ds (A ++ [rsR rb sv st rs bs]) h) : ∃ w, RsE st rs w ∧ owns (rsL rb sv st w) = bs ∧ SH h0 ds (A ++ rsL rb sv st w) h := by
  obtain ⟨L, ⟨w, e, rfl⟩, ho, S⟩ := QcS S; exact ⟨w, e, ho, S⟩
theorem Qp (S : SH h0 ds (A ++ rsL rb sv st w) h) (e : RsE st rs w) : SH h0 ds (A ++ [rsR rb sv st rs (owns (rsL rb sv st w))]) h := QcR S ⟨w, e, rfl⟩
theorem QZ (S : SH h0 ds (A ++ rsL rb sv st w) h) (e : RsE st rs w) : ∃ bs', SH h0 ds [rsR rb sv st rs bs'] h :=
  ⟨_, (Qp S e).sub (A := [rsR rb sv st rs (owns (rsL rb sv st w))]) (B := A) List.perm_append_comm⟩
end
theorem Qbj (l : List (Int × Int × Int)) (m : Int × Int × Int) : wrC (l ++ [m]) = wrC l ++ [iV m.1, iV m.2.1, iV m.2.2] := by simp [wrC]
theorem Qa0 : ∀ l : List (Int × Int), (meC l).length = l.length * 2
  | [] => rfl
  | m :: l => by show (_ :: _ :: meC l).length = _; simp [Qa0 l]; omega
theorem Q6y : ∀ (l : List (Int × Int)) (i : Nat) (m : Int × Int), i < l.length → (meC l).take (i * 2) ++ [iV m.1, iV m.2] ++ (meC l).drop (i * 2 + 2) = meC (l.set i m)
  | x :: l, 0, m, _ => rfl
  | x :: l, i + 1, m, h => by
    have e : meC (x :: l) = iV x.1 :: iV x.2 :: meC l := rfl; have e2 : (i + 1) * 2 = i * 2 + 2 := by omega
    rw [e, e2, List.take_succ_cons, List.take_succ_cons, show i * 2 + 2 + 2 = (i * 2 + 2) + 1 + 1 by omega, List.drop_succ_cons, List.drop_succ_cons, List.set_cons_succ]; have := Q6y l i m (by simpa using h); show _ = iV x.1 :: iV x.2 :: meC (l.set i m); rw [← this]; rfl
theorem Q7E : ∀ (l : List Fun) (c : List (Value × List Nat)) (f : Fun) (x : Value × List Nat), c.length = l.length → fuC (l ++ [f]) (c ++ [x]) = fuC l c ++ [iV f.tw, iV f.up, .string f.nm, x.1]
  | [], [], f, x, _ => rfl
  | g :: l, y :: c, f, x, h => by
    show [_, _, _, _] ++ fuC (l ++ [f]) (c ++ [x]) = ([_, _, _, _] ++ fuC l c) ++ _; rw [Q7E l c f x (by simpa using h), List.append_assoc]
  | [], _ :: _, _, _, h => by cases h
  | _ :: _, [], _, _, h => by cases h
theorem Q7P : ∀ (l : List Fun) (c : List (Value × List Nat)) (f : Fun) (x : Value × List Nat), c.length = l.length → caP (l ++ [f]) (c ++ [x]) = caP l c ++ [slR 3 0 x.1 (isV f.caps) f.caps.length x.2]
  | [], [], f, x, _ => rfl
  | g :: l, y :: c, f, x, h => by
    show _ :: caP (l ++ [f]) (c ++ [x]) = (_ :: caP l c) ++ _; rw [Q7P l c f x (by simpa using h)]; rfl
  | [], _ :: _, _, _, h => by cases h
  | _ :: _, [], _, _, h => by cases h
theorem Q3C : ∀ (l : List Sco) (c : List Nat) (f : Sco) (x : Nat), c.length = l.length → scC (l ++ [f]) (c ++ [x]) = scC l c ++ [.map (some x), iV f.ow]
  | [], [], f, x, _ => rfl
  | g :: l, y :: c, f, x, h => by
    show [_, _] ++ scC (l ++ [f]) (c ++ [x]) = ([_, _] ++ scC l c) ++ _; rw [Q3C l c f x (by simpa using h), List.append_assoc]
  | [], _ :: _, _, _, h => by cases h
  | _ :: _, [], _, _, h => by cases h
theorem Q3B : ∀ (l : List Sco) (c : List Nat) (f : Sco) (x : Nat), c.length = l.length → scP (l ++ [f]) (c ++ [x]) = scP l c ++ [mpR Value.string iV x f.loc]
  | [], [], f, x, _ => rfl
  | g :: l, y :: c, f, x, h => by
    show _ :: scP (l ++ [f]) (c ++ [x]) = (_ :: scP l c) ++ _; rw [Q3B l c f x (by simpa using h)]; rfl
  | [], _ :: _, _, _, h => by cases h
  | _ :: _, [], _, _, h => by cases h
theorem Q6b : ∀ (l : List Sco) (c : List Nat), c.length = l.length → (scC l c).length = l.length * 2
  | [], [], _ => rfl
  | f :: l, x :: c, h => by
    show ([_, _] ++ scC l c).length = _; rw [List.length_append, Q6b l c (by simpa using h)]; simp; omega
  | [], _ :: _, h => by cases h
  | _ :: _, [], h => by cases h
theorem Q9v : ∀ (l : List Sco) (c : List Nat) (rest : List Value) (i : Nat) (s : Sco) (r : Nat), l[i]? = some s → c[i]? = some r → ((scC l c ++ rest).drop (i * 2)).take 2 = [.map (some r), iV s.ow]
  | s :: l, r :: c, rest, 0, s', r', h1, h2 => by
    simp only [List.getElem?_cons_zero, Option.some.injEq] at h1 h2; subst h1; subst h2; rfl
  | s :: l, r :: c, rest, i + 1, s', r', h1, h2 => by
    have e : scC (s :: l) (r :: c) ++ rest = .map (some r) :: iV s.ow :: (scC l c ++ rest) := rfl; rw [e, show (i + 1) * 2 = i * 2 + 1 + 1 by omega, List.drop_succ_cons, List.drop_succ_cons]; exact Q9v l c rest i s' r' (by simpa using h1) (by simpa using h2)
  | [], _, _, _, _, _, h1, _ => by simp at h1
  | _ :: _, [], _, _, _, _, _, h2 => by simp at h2
theorem Q77 : ∀ (l : List Sco) (c : List Nat) (i : Nat) (s : Sco) (r : Nat), l[i]? = some s → c[i]? = some r → (scP l c)[i]? = some (mpR Value.string iV r s.loc)
  | s :: l, r :: c, 0, s', r', h1, h2 => by
    simp only [List.getElem?_cons_zero, Option.some.injEq] at h1 h2; subst h1; subst h2; rfl
  | s :: l, r :: c, i + 1, s', r', h1, h2 => Q77 l c i s' r' (by simpa using h1) (by simpa using h2)
  | [], _, _, _, _, h1, _ => by simp at h1
  | _ :: _, [], _, _, _, _, h2 => by simp at h2
theorem Q9s : ∀ (l : List Sco) (c : List Nat) (i : Nat) (r : Nat) (g : Sco → Sco), c[i]? = some r → ∀ s, l[i]? = some s → (scP l c).set i (mpR Value.string iV r (g s).loc) = scP (l.modify i g) c
  | s :: l, r :: c, 0, r', g, h2, s', h1 => by
    simp only [List.getElem?_cons_zero, Option.some.injEq] at h1 h2; subst h1; subst h2; rfl
  | s :: l, r :: c, i + 1, r', g, h2, s', h1 => by
    rw [List.modify_succ_cons]; show _ :: (scP l c).set i _ = _ :: scP (l.modify i g) c; rw [Q9s l c i r' g (by simpa using h2) s' (by simpa using h1)]
  | [], _, _, _, _, _, _, h1 => by simp at h1
  | _ :: _, [], _, _, _, h2, _, _ => by simp at h2
theorem Q9u (g : Sco → Sco) (hg : ∀ s, (g s).ow = s.ow) : ∀ (l : List Sco) (c : List Nat) (i : Nat), scC (l.modify i g) c = scC l c
  | [], c, i => by rw [List.modify_nil]
  | s :: l, [], i => by cases i <;> simp [scC]
  | s :: l, r :: c, 0 => by rw [List.modify_zero_cons]; simp only [scC, hg]
  | s :: l, r :: c, i + 1 => by rw [List.modify_succ_cons]; simp only [scC, Q9u g hg l c i]
end Go.Proofs.YtkidomfnmpnmaaaGreatDoor
namespace Go.Proofs.YtkidomfnmpnmaaaGreatDoor
open Go.X Go.Nam
def vw (T : List Tw) : V where
  n := T.length
  K i := match T[i.toNat]? with | some w => w.K | none => 0
  s i := match T[i.toNat]? with | some w => w.s | none => .empty
  N i := match T[i.toNat]? with | some w => w.N | none => 0
  ln i := match T[i.toNat]? with | some w => w.L | none => 0
  co i := match T[i.toNat]? with | some w => w.C | none => 0
  ks i := match T[i.toNat]? with | some w => w.kids | none => []
structure TwRd (h0 : Hp) (ta : Option Addr) (T : List Tw) (i : Nat) (w : Tw) (b o : Nat) (cs : List Value) (e : TypeId) (m : Nat) : Prop where
  ta : ta = some ⟨b, o, none⟩
  g : h0.get b = some (.cells cs e m)
  lt : b < h0.n
  len : o + Int.toNat (i : Int) * 6 + 6 ≤ cs.length
  all : (cs.drop (o + Int.toNat (i : Int) * 6)).take 6 = w.cells
  K : (vw T).K i = w.K
  s : (vw T).s i = w.s
  N : (vw T).N i = w.N
  ln : (vw T).ln i = w.L
  co : (vw T).co i = w.C
  ks : (vw T).ks i = w.kids
  row : RowV h0 w.ks (isV w.kids)
theorem TwRd.at {h0 : Hp} {ta : Option Addr} {T : List Tw} {i : Nat} {w : Tw} {b o : Nat} {cs : List Value} {e : TypeId} {m : Nat} (x : TwRd h0 ta T i w b o cs e m) (f : Nat) (hf : f < 6) {v : Value} (hv : w.cells[f]? = some v) : cs[o + Int.toNat (i : Int) * 6 + f]? = some v := KA x.all hf hv
theorem JU {h0 : Hp} {ta : Option Addr} {tc i : Nat} {T : List Tw} (X : TreeAt h0 (.slice ta T.length tc) T) (hi : i < T.length) : ∃ w b o cs e m, T[i]? = some w ∧ TwRd h0 ta T i w b o cs e m := by
  obtain ⟨b, o, c, cs, e, m, hv, hg, hlb, hl6, hat⟩ := X.at (show 0 < T.length by omega); have hw : T[i]? = some T[i] := List.getElem?_eq_getElem hi; refine ⟨T[i], b, o, cs, e, m, hw, by injection hv, hg, hlb, by rw [Int.toNat_natCast]; omega, by rw [Int.toNat_natCast]; exact hat i hi, ?_, ?_, ?_, ?_, ?_, ?_, X.2 _ (List.getElem_mem hi)⟩
  all_goals simp only [vw, Int.toNat_natCast, hw]
theorem el33 : ElN nmE 33 55 2 23 := ⟨by kernel_rfl, by kernel_rfl, by kernel_rfl, .agg #[.int .i64 0, .int .i64 0, .int .i64 0], by kernel_rfl, rfl⟩
section
variable {h0 hE : Hp} {bs rs : List Nat} {rb : Nat} {sv : Value} {st : Nst} {T : List Tw} {i : Nat}
theorem n21 {e : Int} (S0 : SH h0 [] [rsR rb sv st rs bs] hE) (X : TreeAt h0 sv T) (hi : i < T.length) (hw : st.wrong.length ≤ 1000000) : C nmE 21 [ZB rb, iV i, iV e] hE fun _ g' => ∃ bs', SH hE bs [rsR rb sv (tell (vw T) st i e) rs bs'] g' := by
  obtain ⟨ta, tc, rfl⟩ := X.val; obtain ⟨w0, b, o, cs, ee, m, hw0, Q⟩ := JU X hi; have hta := Q.ta; obtain ⟨ka, kc, hks⟩ := Q.row.valM; obtain ⟨K0, s0, N0, L0, C0, k0, kids0⟩ := w0; simp only at hks; subst hks; have hall : (cs.drop (o + Int.toNat (i : Int) * 6)).take 6 = twC K0 s0 N0 L0 C0 (.slice ka kids0.length kc) := Q.all; refine Qf (fu := Tryz.f21) (by kernel_rfl) rfl ?_; have S := S0.enter; obtain ⟨w, E, ho, S⟩ := Qo (A := []) S; simp only [List.nil_append] at S; refine Qd ?_; refine Q4 gn rfl rfl ?_; refine Q9 gn rfl rfl ?_; refine Q0 (off := 0) gn rfl rfl (by kernel_rfl) ?_; refine Q0 (off := 0) gn rfl rfl (by kernel_rfl) ?_
  refine Q6 gn rfl rfl (by kernel_rfl) (by exact S.cel 0 rfl) rfl ?_; refine Q4 gn rfl rfl ?_; rw [hta]; refine Q8 (zz := 6) gn rfl rfl rfl (by kernel_rfl) (by omega) (by omega) ?_; refine Qs (n := 6) gn rfl rfl (by kernel_rfl) (by kernel_rfl) (S0.two S0.own0 S Q.g Q.lt) Q.len ?_; rw [hall, ← hta]; refine Zl (zv := .agg #[.int .i64 0, .string .empty, .int .i64 0, .int .i64 0, .int .i64 0, .slice none 0 0]) S gn rfl (by kernel_rfl) fun b1 g nb1 S => ?_; refine QL (n := 6) 0 S gn rfl rfl (by kernel_rfl) (by kernel_rfl) rfl rfl (by decide) rfl (fun g S => ag0) fun g S => ?_; simp only [List.set_cons_succ, List.set_cons_zero] at S; refine Q5 ?_
  refine Z2 [(0, []), (1, []), (2, []), (3, []), (4, []), (5, []), (6, []), (7, []), (8, []), (9, []), (10, []), (11, []), (12, []), (13, []), (14, []), (15, [])] (by kernel_rfl) (by kernel_rfl) (by kernel_rfl) (by kernel_rfl) ?_; refine Q4 gn rfl rfl ?_; refine Q4 gn rfl rfl ?_; refine Q9 gn rfl rfl ?_; refine Q0 (off := 10) gn rfl rfl (by kernel_rfl) ?_; refine Q6 gn rfl rfl (by kernel_rfl) (by exact S.cel 1 rfl) rfl ?_; refine Q0 (off := 3) gn rfl rfl (by kernel_rfl) ?_; refine Q6 gn rfl rfl (by kernel_rfl) (by exact S.cel 0 rfl) rfl ?_; refine Q0 (off := 4) gn rfl rfl (by kernel_rfl) ?_; refine Q6 gn rfl rfl (by kernel_rfl) (by exact S.cel 0 rfl) rfl ?_; refine Q4 gn rfl rfl ?_
  refine Yf (cs := #[iV L0, iV C0, iV e]) (zv := .agg #[.int .i64 0, .int .i64 0, .int .i64 0]) (pl := [(0, 1), (1, 1), (2, 1)]) [(0, _), (1, _), (2, _)] gn rfl (by kernel_rfl) (by kernel_rfl) rfl (by kernel_rfl) ?_; refine Qn (cs := #[iV L0, iV C0, iV e]) (e := 55) (z := 2) (zv := .agg #[.int .i64 0, .int .i64 0, .int .i64 0]) [(0, _)] S gn rfl (by kernel_rfl) (by kernel_rfl) (by kernel_rfl) (by kernel_rfl) rfl (by kernel_rfl) fun b2 g nb2 S => ?_; refine KI (e := 55) (z := 2) (by' := 23) 11 0 S el33 gn rfl rfl rfl rfl rfl rfl (by rfl) (by have := E.wrn; omega) (fun s' bs' g S => ag0) fun s' bs' g S => ?_; simp only [List.set_cons_succ, List.set_cons_zero] at S
  have hcv : cellV s' = true := (S.sl 11 rfl).cellV; refine Q9 gn rfl rfl ?_; refine Q0 (off := 10) gn rfl rfl (by kernel_rfl) ?_; refine ZD 2 S gn rfl rfl hcv (by kernel_rfl) rfl (by decide) (show 10 < 17 by decide) (fun g S => ag0) fun g S => ?_; simp only [List.set_cons_succ, List.set_cons_zero] at S; refine Q5 ?_; refine ⟨.inr rfl, _, rfl, ?_⟩
  exact QZ (A := [cR b2 _, cR b1 _]) (w := { w with wr := ⟨s', w.wr.c ++ [iV L0, iV C0, iV e], w.wr.n + 1, bs'⟩ }) S { E with
      wr := by show w.wr.c ++ _ = wrC (st.wrong ++ [_]); rw [Qbj, E.wr, Q.ln, Q.co]
      wrn := by show w.wr.n + 1 = (st.wrong ++ [_]).length; rw [List.length_append, E.wrn]; rfl }
end
section
variable {h : Hp} {K : Int} {v : Value} {ks : List Int}
theorem n120 (R : RowV h v (isV ks)) (hl : ks.length < 1000000) : C nmE 120 [v, iV K] h fun v h' => ∃ r, v = iV r ∧ Ext h h' ∧ (0 ≤ r ↔ K ∈ ks) := by
  obtain ⟨a, c, rfl⟩ := R.valM; refine Qf (fu := Tryz.f120) (by kernel_rfl) rfl ?_; have S := SH.start h; refine Qd ?_; refine Q3 gn rfl rfl ?_; refine J0 ?_; refine Q4 gn rfl rfl ?_; refine QJ gn rfl rfl (by kernel_rfl) ?_; refine Q4 gn rfl rfl ?_; refine Q5 ?_; refine Qh ?_; refine QV [(8, _)] [(0, _), (1, _), (7, _)] (by repeat (first | exact trivial | refine ⟨rfl, ?_⟩)) (fun kk lv hh => ∃ j : Nat, lv = [(8, iV j)] ∧ kk = ks.length - j ∧ j ≤ ks.length ∧ SH h [] [] hh ∧ ∀ i (hi : i < ks.length), i < j → ks[i] ≠ K) (n := (ks.length)) ?_ fun kk lv hh hI => ?_
  · exact ⟨0, rfl, rfl, by omega, S, fun i _ hi => by omega⟩
  obtain ⟨j, rfl, hk, hj, S, hs⟩ := hI; refine Qd ?_; refine Zo gn rfl rfl rfl ?_; refine Q5 ?_; refine Qk ?_; refine Qa rfl (fun hb => ?_) fun hb => ?_
  · skip
    refine Qe ?_; have hj : j < ks.length := by simp at hb; omega
    obtain ⟨b, o, c', cs, e, m, hv, hg, hlt, hat⟩ := R.atM (by omega); cases hv; have hc := hat j hj; refine Qk ?_; refine Qh ?_; refine Qd ?_; refine Q4 gn rfl rfl ?_; refine Q3 gn rfl rfl ?_; refine ZC ?_; refine Q4 gn rfl rfl ?_; refine Q4 gn rfl rfl ?_; refine Q4 gn rfl rfl ?_; refine Q8 (zz := 1) gn rfl rfl rfl (by kernel_rfl) (by omega) (by omega) ?_; refine Q6 gn rfl rfl (by kernel_rfl) (S.old0 hg hlt) (by rw [Int.toNat_natCast, Nat.mul_one]; exact hc) ?_; refine Qr gn rfl rfl rfl ?_; refine Q5 ?_; refine Qa rfl (fun hb => ?_) fun hb => ?_
    · skip
      refine Qd ?_; refine Q4 gn rfl rfl ?_; refine Q3 gn rfl rfl ?_; refine Q5 ?_; refine Qc ?_; refine ⟨.inl rfl, _, rfl, ?_⟩; exact ⟨j, rfl, S.e0, by simp at hb; exact ⟨fun _ => hb ▸ List.getElem_mem hj, fun _ => by omega⟩⟩
    refine Qe ?_; refine Q7 (by kernel_rfl) ?_; refine QU gn rfl rfl rfl (by omega) (by omega) ?_; refine Q4 gn rfl rfl ?_; refine Q5 ?_
    exact KL (ks.length - (j + 1)) (by omega) [(8, _)] (by repeat (first | exact trivial | refine ⟨rfl, ?_⟩)) ⟨j + 1, rfl, rfl, by omega, S, fun i hi h => by
      by_cases e : i = j
      · subst e; simp at hb; exact fun x => hb x.symm
      exact hs i hi (by omega)⟩
  refine Zb ?_; refine Qx ?_; refine Qz ?_; refine Za ?_; refine Qd ?_; refine Q3 gn rfl rfl ?_; refine Q5 ?_; refine Qc ?_; refine ⟨.inl rfl, _, rfl, ?_⟩
  exact ⟨-1, rfl, S.e0, ⟨fun h => by omega, fun hm => by
    obtain ⟨i, hi, e⟩ := List.mem_iff_getElem.1 hm
    exact absurd e (hs i hi (by simp at hb; omega))⟩⟩
theorem n107 (R : RowV h v (isV ks)) (hl : ks.length < 1000000) : C nmE 107 [v, iV K] h fun v h' => v = .bool (decide (K ∈ ks)) ∧ Ext h h' := by
  refine Qf (fu := Tryz.f107) (by kernel_rfl) rfl ?_; have S := SH.start h; refine Qd ?_; refine Q3 gn rfl rfl ?_; refine ZC ?_; refine Q4 gn rfl rfl ?_; refine Q4 gn rfl rfl ?_; refine Qb [_, _] gn rfl rfl (by kernel_rfl) rfl (C.mono (n120 R hl) ?_); rintro v g ⟨r, rfl, x, hr⟩; have S := S.grow x; refine ⟨ag0, ?_⟩; refine Yw gn rfl rfl rfl ?_; refine Q3 gn rfl rfl ?_; refine Q5 ?_; refine Qc ?_; refine ⟨.inl rfl, _, rfl, ?_⟩; exact ⟨by rw [show decide (0 ≤ r) = decide (K ∈ ks) from decide_eq_decide.2 hr]; rfl, S.e0⟩
theorem n106 (R : RowV h v (isV ks)) (hl : ks.length < 1000000) : C nmE 106 [v, iV K] h fun v h' => ∃ r, v = iV r ∧ Ext h h' ∧ (0 ≤ r ↔ K ∈ ks) := by
  obtain ⟨a, c, rfl⟩ := R.valM; refine Qf (fu := Tryz.f106) (by kernel_rfl) rfl ?_; have S := SH.start h; refine Qd ?_; refine Q3 gn rfl rfl ?_; refine J0 ?_; refine Q4 gn rfl rfl ?_; refine QJ gn rfl rfl (by kernel_rfl) ?_; refine Q4 gn rfl rfl ?_; refine Q5 ?_; refine Qh ?_; refine QV [(8, _)] [(0, _), (1, _), (7, _)] (by repeat (first | exact trivial | refine ⟨rfl, ?_⟩)) (fun kk lv hh => ∃ j : Nat, lv = [(8, iV j)] ∧ kk = ks.length - j ∧ j ≤ ks.length ∧ SH h [] [] hh ∧ ∀ i (hi : i < ks.length), i < j → ks[i] ≠ K) (n := (ks.length)) ?_ fun kk lv hh hI => ?_
  · exact ⟨0, rfl, rfl, by omega, S, fun i _ hi => by omega⟩
  obtain ⟨j, rfl, hk, hj, S, hs⟩ := hI; refine Qd ?_; refine Zo gn rfl rfl rfl ?_; refine Q5 ?_; refine Qk ?_; refine Qa rfl (fun hb => ?_) fun hb => ?_
  · skip
    refine Qe ?_; have hj : j < ks.length := by simp at hb; omega
    obtain ⟨b, o, c', cs, e, m, hv, hg, hlt, hat⟩ := R.atM (by omega); cases hv; have hc := hat j hj; refine Qk ?_; refine Qh ?_; refine Qd ?_; refine Q4 gn rfl rfl ?_; refine Q3 gn rfl rfl ?_; refine ZC ?_; refine Q4 gn rfl rfl ?_; refine Q4 gn rfl rfl ?_; refine Q4 gn rfl rfl ?_; refine Q8 (zz := 1) gn rfl rfl rfl (by kernel_rfl) (by omega) (by omega) ?_; refine Q6 gn rfl rfl (by kernel_rfl) (S.old0 hg hlt) (by rw [Int.toNat_natCast, Nat.mul_one]; exact hc) ?_; refine Qr gn rfl rfl rfl ?_; refine Q5 ?_; refine Qa rfl (fun hb => ?_) fun hb => ?_
    · skip
      refine Qd ?_; refine Q4 gn rfl rfl ?_; refine Q3 gn rfl rfl ?_; refine Q5 ?_; refine Qc ?_; refine ⟨.inl rfl, _, rfl, ?_⟩; exact ⟨j, rfl, S.e0, by simp at hb; exact ⟨fun _ => hb ▸ List.getElem_mem hj, fun _ => by omega⟩⟩
    refine Qe ?_; refine Q7 (by kernel_rfl) ?_; refine QU gn rfl rfl rfl (by omega) (by omega) ?_; refine Q4 gn rfl rfl ?_; refine Q5 ?_
    exact KL (ks.length - (j + 1)) (by omega) [(8, _)] (by repeat (first | exact trivial | refine ⟨rfl, ?_⟩)) ⟨j + 1, rfl, rfl, by omega, S, fun i hi h => by
      by_cases e : i = j
      · subst e; simp at hb; exact fun x => hb x.symm
      exact hs i hi (by omega)⟩
  refine Zb ?_; refine Qx ?_; refine Qz ?_; refine Za ?_; refine Qd ?_; refine Q3 gn rfl rfl ?_; refine Q5 ?_; refine Qc ?_; refine ⟨.inl rfl, _, rfl, ?_⟩
  exact ⟨-1, rfl, S.e0, ⟨fun h => by omega, fun hm => by
    obtain ⟨i, hi, e⟩ := List.mem_iff_getElem.1 hm
    exact absurd e (hs i hi (by simp at hb; omega))⟩⟩
theorem n77 (R : RowV h v (isV ks)) (hl : ks.length < 1000000) : C nmE 77 [v, iV K] h fun v h' => v = .bool (decide (K ∈ ks)) ∧ Ext h h' := by
  refine Qf (fu := Tryz.f77) (by kernel_rfl) rfl ?_; have S := SH.start h; refine Qd ?_; refine Q3 gn rfl rfl ?_; refine ZC ?_; refine Q4 gn rfl rfl ?_; refine Q4 gn rfl rfl ?_; refine Qb [_, _] gn rfl rfl (by kernel_rfl) rfl (C.mono (n106 R hl) ?_); rintro v g ⟨r, rfl, x, hr⟩; have S := S.grow x; refine ⟨ag0, ?_⟩; refine Yw gn rfl rfl rfl ?_; refine Q3 gn rfl rfl ?_; refine Q5 ?_; refine Qc ?_; refine ⟨.inl rfl, _, rfl, ?_⟩; exact ⟨by rw [show decide (0 ≤ r) = decide (K ∈ ks) from decide_eq_decide.2 hr]; rfl, S.e0⟩
end
end Go.Proofs.YtkidomfnmpnmaaaGreatDoor
namespace Go.Proofs.YtkidomfnmpnmaaaGreatDoor
open Go.X Go.Nam
structure Tre (h0 : Hp) (sv : Value) (T : List Tw) : Prop where
  X : TreeAt h0 sv T
  G : ∀ t, t ∈ T → RowG h0 t.ks (isV t.kids)
  P : Shp (vw T)
  N : ∀ t, t ∈ T → -9223372036854775808 ≤ t.N ∧ t.N ≤ 9223372036854775807
theorem Qes : KeyT nmE 57 9 38 Value.string := Q7B (by kernel_rfl) (by kernel_rfl)
theorem Q9Z (o : Option (Int × Int)) : (o.map Q6x).getD (.agg #[.int .i64 0, .int .i64 0]) = Q6x (o.getD (0, 0)) := by cases o <;> rfl
theorem el29 : ElN nmE 29 3 0 7 := ⟨by kernel_rfl, by kernel_rfl, by kernel_rfl, .int .i64 0, by kernel_rfl, rfl⟩
def KRow (h : Hp) (ds : List Nat) (v : Value) (ks : List Int) : Prop := ∃ q e m, v = .slice (some ⟨q, 0, none⟩) ks.length ks.length ∧ h.get q = some (.cells (isV ks) e m) ∧ q < h.n ∧ q ∉ ds
theorem KRow.row {h g : Hp} {ds : List Nat} {v : Value} {ks : List Int} (x : KRow h ds v ks) (e : ExtB ds h g) : RowV g v (isV ks) := by
  obtain ⟨q, t, m, rfl, h1, h2, h3⟩ := x; exact RowV.of ((e.get q h2 h3).trans h1) (Nat.lt_of_lt_of_le h2 e.n) (by simp)
section
variable {h0 hE : Hp} {bs rs : List Nat} {rb : Nat} {sv : Value} {st : Nst} {T : List Tw} {i : Nat}
theorem n78 {v : Value} {ks : List Int} (S0 : SH h0 [] [rsR rb sv st rs bs] hE) (R : Tre h0 sv T) (hi : i < T.length) (hw : st.wrong.length ≤ 1000000) (hm : st.means.length = T.length) (hk : KRow hE bs v ks) (hl : ks.length < 1000000) : C nmE 78 [ZB rb, iV i, v] hE fun _ g' => ∃ bs', SH hE bs [rsR rb sv (YS (vw T) st i ks) rs bs'] g' := by
  have X := R.X; obtain ⟨ta, tc, rfl⟩ := X.val; obtain ⟨w0, b, o, cs, ee, m, hw0, Q⟩ := JU X hi; obtain rfl := Q.ta; unfold YS; rw [Q.s]; refine Qf (fu := Tryz.f78) (by kernel_rfl) rfl ?_; have S := S0.enter; obtain ⟨w, E, ho, S⟩ := Qo (A := []) S; simp only [List.nil_append] at S; refine Qk ?_; refine Z2 [(0, []), (1, []), (2, []), (3, []), (4, []), (5, []), (6, []), (7, []), (8, []), (9, []), (10, []), (11, []), (12, []), (13, []), (14, []), (15, [])] (by kernel_rfl) (by kernel_rfl) (by kernel_rfl) (by kernel_rfl) ?_; refine Q4 gn rfl rfl ?_; refine Q9 gn rfl rfl ?_; refine Q0 (off := 11) gn rfl rfl (by kernel_rfl) ?_; refine Q6 gn rfl rfl (by kernel_rfl) (by exact S.cel 0 rfl) rfl ?_
  refine Q4 gn rfl rfl ?_; refine Q9 gn rfl rfl ?_; refine Q0 (off := 0) gn rfl rfl (by kernel_rfl) ?_; refine Q0 (off := 0) gn rfl rfl (by kernel_rfl) ?_; refine Q6 gn rfl rfl (by kernel_rfl) (by exact S.cel 0 rfl) rfl ?_; refine Q4 gn rfl rfl ?_; refine Q8 (zz := 6) gn rfl rfl rfl (by kernel_rfl) (by omega) (by omega) ?_; refine Q0 (off := 1) gn rfl rfl (by kernel_rfl) ?_; refine Q6 gn rfl rfl (by kernel_rfl) (S0.two S0.own0 S Q.g Q.lt) (Q.at 1 (by decide) rfl) ?_; obtain ⟨M, cl, hM, hF⟩ := Q35 S 10 rfl; refine Q2i (zv := .agg #[.int .i64 0, .int .i64 0]) Qes gn rfl rfl rfl hM (by kernel_rfl) ?_; rw [hF, Q9Z]; generalize (st.glob w0.s).getD (0, 0) = mm; obtain ⟨mk, mn⟩ := mm
  refine Zl (zv := .agg #[.int .i64 0, .int .i64 0]) S gn rfl (by kernel_rfl) fun b1 g nb1 S => ?_; refine QL (n := 2) 0 S gn rfl rfl (by kernel_rfl) (by kernel_rfl) rfl rfl (by decide) rfl (fun g S => ag0) fun g S => ?_; simp only [List.set_cons_succ, List.set_cons_zero] at S; refine J0 ?_; refine Q4 gn rfl rfl ?_; refine Q0 (off := 0) gn rfl rfl (by kernel_rfl) ?_; refine Q6 gn rfl rfl (by kernel_rfl) (by exact S.cel 0 rfl) rfl ?_; refine Qb [_, _] gn rfl rfl (by kernel_rfl) rfl (C.mono (n107 (hk.row S.ext) hl) ?_); rintro v g ⟨rfl, x⟩; have S := S.grow x; refine ⟨ag0, ?_⟩; refine ZN gn rfl rfl ?_; refine Q5 ?_; refine Qa rfl (fun hb => ?_) fun hb => ?_
  · skip
    refine Qd ?_; refine Q4 gn rfl rfl ?_; refine Q4 gn rfl rfl ?_; have S := Qp (A := [_]) S E; refine Qb [_, _, _] gn rfl rfl (by kernel_rfl) rfl (C.mono (n21 (S0.sub1 S0.own0 S 1 rfl) X hi hw) ?_); rintro v g ⟨bs', S2⟩; have S := S.ret 1 rfl S2; simp only [List.cons_append, List.nil_append, List.set_cons_succ, List.set_cons_zero] at S; obtain ⟨w, E, ho, S⟩ := Qo (A := [_]) S; simp only [List.cons_append, List.nil_append] at S; refine ⟨ag0, ?_⟩; refine Q5 ?_; refine Qc ?_; refine ⟨.inl rfl, _, rfl, ?_⟩; exact by rw [if_neg (by simpa using hb)]; exact QZ (A := [_]) S E
  refine Qe ?_; refine Z2 [(0, []), (1, []), (2, []), (3, []), (4, []), (5, []), (6, []), (7, []), (8, [])] (by kernel_rfl) (by kernel_rfl) (by kernel_rfl) (by kernel_rfl) ?_; refine Q4 gn rfl rfl ?_; refine Q9 gn rfl rfl ?_; refine Q0 (off := 1) gn rfl rfl (by kernel_rfl) ?_; refine Q0 (off := 0) gn rfl rfl (by kernel_rfl) ?_; refine Q6 gn rfl rfl (by kernel_rfl) (by exact S.cel 1 rfl) rfl ?_; refine Q4 gn rfl rfl ?_; refine Qs (n := 2) gn rfl rfl (by kernel_rfl) (by kernel_rfl) (by exact S.cel 0 rfl) (Nat.le_refl _) ?_; obtain ⟨mb, mc, hmv, hmb, hml⟩ := Y3 (S.sl 2 rfl) (by rw [E.men]; omega); rw [hmv]; refine Q8 (zz := 2) gn rfl rfl rfl (by kernel_rfl) (by omega) (by have := E.men; omega) ?_
  refine Qd7 (z := 1) (cs' := meC (st.means.set i (mk, mn))) 2 S gn rfl rfl (by kernel_rfl) (by kernel_rfl) rfl rfl hmv (by have h1 := E.men; have h2 : w.me.c.length = w.me.n * 2 := hml; rw [h2, Int.toNat_natCast]; omega) (by rw [E.me, Int.toNat_natCast, Nat.zero_add]; exact Q6y st.means i (mk, mn) (by omega)) (fun g S => ag0) fun g S => ?_; simp only [List.set_cons_succ, List.set_cons_zero] at S; refine Q5 ?_; refine ⟨.inr rfl, _, rfl, ?_⟩
  exact by
    rw [if_pos (by simpa using hb)]
    exact QZ (A := [_]) (w := { w with me := ⟨w.me.v, meC (st.means.set i (mk, mn)), w.me.n, w.me.b⟩ }) S { E with
      me := by show meC _ = meC (st.means.set ((i : Int)).toNat _); rw [Int.toNat_natCast]
      men := by show w.me.n = (st.means.set _ _).length; rw [List.length_set, E.men] }
end
end Go.Proofs.YtkidomfnmpnmaaaGreatDoor
namespace Go.Proofs.YtkidomfnmpnmaaaGreatDoor
open Go.X Go.Nam
def Q8N (h0 : Hp) (rb : Nat) (sv : Value) (T : List Tw) (rec : Nst → Int → Nst) (k : Nat) : Prop := ∀ (a n : Nat) (st : Nst) (bl : List (Nat × Nat)) (w : Nat) (rs bs : List Nat) (g : Hp), sub (vw T) k a n → At (vw T) st a n bl w → w + (4 * (n - a) - 1) ≤ 100000 →
  SH h0 [] [rsR rb sv st rs bs] g → C nmE 22 [ZB rb, iV a] g fun _ g' => ∃ bs', SH g bs [rsR rb sv (rec st a) rs bs'] g'
section
variable {h0 hE : Hp} {bs rs : List Nat} {rb : Nat} {sv : Value} {st : Nst} {T : List Tw} {i : Nat} {rec : Nst → Int → Nst} {k p n w0 : Nat} {o : Int} {sow : List Int} {bl : List (Nat × Nat)}
theorem n51 {fr : Nat} (S0 : SH h0 [] [rsR rb sv st rs bs] hE) (R : Tre h0 sv T) (hi : i < T.length) (hC : Q8N h0 rb sv T rec k) (hr : KC (vw T) rec k) (F : FoldAt (vw T) k (((vw T).ks i).drop fr) bl n o sow st 0 p w0) (hf : fr ≤ ((vw T).ks i).length) (hp : p ≤ (vw T).n) :
    C nmE 51 [ZB rb, iV i, iV fr] hE fun _ g' => ∃ bs', SH hE bs [rsR rb sv (YI (vw T) rec st i fr) rs bs'] g' := by
  have X := R.X; obtain ⟨ta, tc, rfl⟩ := X.val; obtain ⟨t0, b, o', cs, ee, m, hw0, Q⟩ := JU X hi; obtain rfl := Q.ta; unfold YI; have hlen := F.len hp; have hPn := R.P.n; rw [Q.ks] at F hf hlen ⊢; obtain ⟨sl, hslr, hsl⟩ := Q9l el29 (R.G t0 (List.mem_of_getElem? hw0)) (show fr ≤ (isV t0.kids).length by rw [List.length_map]; exact hf); rw [show (isV t0.kids).drop fr = isV (t0.kids.drop fr) from List.map_drop.symm] at hslr; generalize t0.kids.drop fr = l at F hslr hlen ⊢; obtain ⟨sa, sc, rfl⟩ := hslr.valM; refine Qf (fu := Tryz.f51) (by kernel_rfl) rfl ?_; have S := S0.enter; obtain ⟨w, E, ho, S⟩ := Qo (A := []) S; simp only [List.nil_append] at S; refine Qd ?_; refine Q4 gn rfl rfl ?_
  refine Q9 gn rfl rfl ?_; refine Q0 (off := 0) gn rfl rfl (by kernel_rfl) ?_; refine Q0 (off := 0) gn rfl rfl (by kernel_rfl) ?_; refine Q6 gn rfl rfl (by kernel_rfl) (by exact S.cel 0 rfl) rfl ?_; refine Q4 gn rfl rfl ?_; refine Q8 (zz := 6) gn rfl rfl rfl (by kernel_rfl) (by omega) (by omega) ?_; refine Q0 (off := 5) gn rfl rfl (by kernel_rfl) ?_; refine Q6 gn rfl rfl (by kernel_rfl) (S0.two S0.own0 S Q.g Q.lt) (Q.at 5 (by decide) rfl) ?_; refine Q4 gn rfl rfl ?_; refine Q3X gn rfl rfl rfl (hsl _ (S0.all0 S0.own0 S)) ?_; refine QJ gn rfl rfl (by kernel_rfl) ?_; refine Q4 gn rfl rfl ?_; refine Q5 ?_; refine Qh ?_
  refine QV [(20, _)] [(0, _), (18, _), (19, _)] (by repeat (first | exact trivial | refine ⟨rfl, ?_⟩)) (fun kk lv hh => ∃ (j : Nat) (bs1 : List Nat) (p1 w1 : Nat), lv = [(20, iV j)] ∧ kk = l.length - j ∧ j ≤ l.length ∧ SH hE bs [rsR rb (.slice (some ⟨b, o', none⟩) T.length tc) ((l.take j).foldl rec st) rs bs1] hh ∧ FoldAt (vw T) k l bl n o sow ((l.take j).foldl rec st) j p1 w1) (n := (l.length)) ?_ fun kk lv hh hI => ?_
  · exact ⟨0, _, p, w0, rfl, rfl, by omega, Qp (A := []) S E, F⟩
  obtain ⟨j, bs1, p1, w1, rfl, hkk, hj, S, F1⟩ := hI; refine Qd ?_; refine Zo gn rfl rfl rfl ?_; refine Q5 ?_; refine Qk ?_; refine Qa rfl (fun hb => ?_) fun hb => ?_
  · skip
    refine Qe ?_; have hj : j < l.length := by simp at hb; omega
    obtain ⟨w, E, ho, S⟩ := Qo (A := []) S; simp only [List.nil_append] at S; obtain ⟨kb, ko, kc', kcs, ke, km, hv2, hg2, hlt2, hat2⟩ := hslr.atM (by omega); obtain ⟨e1, hp1, q, hsub, hat, hb2, F2⟩ := F1.step hr hj _ _ (.inl rfl) F1.I (.refl _ _); obtain rfl : sa = some ⟨kb, ko, none⟩ := by injection hv2
    have hkid : kcs[ko + Int.toNat (j : Int) * 1]? = some (iV p1) := by
      rw [Int.toNat_natCast, Nat.mul_one, hat2 j hj]; rw [List.getElem?_eq_getElem hj] at e1; rw [Option.some.inj e1]
    refine Qk ?_; refine Qh ?_; refine Qd ?_; refine Q8 (zz := 1) gn rfl rfl rfl (by kernel_rfl) (by omega) (by omega) ?_; refine Q6 gn rfl rfl (by kernel_rfl) (S0.two S0.own0 S hg2 hlt2) hkid ?_; refine Q3 gn rfl rfl ?_; refine Q5 ?_; refine Q7 (by kernel_rfl) ?_; refine Q4 gn rfl rfl ?_; refine Q4 gn rfl rfl ?_; have S := Qp (A := []) S E; refine Qb [_, _] gn rfl rfl (by kernel_rfl) rfl (C.mono (hC p1 q _ bl w1 _ _ _ hsub hat hb2 (S0.sub1 S0.own0 S 0 rfl)) ?_); rintro v g ⟨bs', S2⟩; have S := S.ret 0 rfl S2; simp only [List.cons_append, List.nil_append, List.set_cons_succ, List.set_cons_zero] at S; obtain ⟨w, E, ho, S⟩ := Qo (A := []) S; simp only [List.cons_append, List.nil_append] at S
    refine ⟨ag0, ?_⟩; refine Q5 ?_; refine Q7 (by kernel_rfl) ?_; refine QU gn rfl rfl rfl (by omega) (by omega) ?_; refine Q4 gn rfl rfl ?_; refine Q5 ?_; exact KL (l.length - (j + 1)) (by omega) [(20, _)] (by repeat (first | exact trivial | refine ⟨rfl, ?_⟩)) ⟨j + 1, _, q, _, rfl, rfl, by omega, by rw [Q5y e1]; exact Qp (A := []) S E, by rw [Q5y e1]; exact F2⟩
  refine Zb ?_; refine Qx ?_; refine Qz ?_; refine Za ?_; refine ⟨.inr rfl, _, rfl, ?_⟩
  exact ⟨bs1, by
    have hjl : j = l.length := by simp at hb; omega
    subst hjl; rw [List.take_length] at S
    exact S⟩
end
end Go.Proofs.YtkidomfnmpnmaaaGreatDoor
namespace Go.Proofs.YtkidomfnmpnmaaaGreatDoor
open Go.X Go.Nam
theorem el30 : ElN nmE 30 45 3 55 := ⟨by kernel_rfl, by kernel_rfl, by kernel_rfl, .agg #[.int .i64 0, .int .i64 0, .string .empty, .slice none 0 0], by kernel_rfl, rfl⟩
theorem el60 : ElN nmE 60 120 1 15 := ⟨by kernel_rfl, by kernel_rfl, by kernel_rfl, .agg #[.map none, .int .i64 0], by kernel_rfl, rfl⟩
theorem QbK (l : List Sco) (s : Sco) (rs : List Nat) (b : Nat) (h : rs.length = l.length) : (scC (l ++ [s]) (rs ++ [b])).take (l.length * 2) = scC l rs := by
  rw [Q3C l rs s b h]; exact List.take_left' (Q6b l rs h)
theorem RsE.func {st : Nst} {rs : List Nat} {w : RsW} (E : RsE st rs w) (i : Int) (nm : Txt) (s' : Value) (bs' : List Nat) (v : Int) : RsE { st with owner := st.funcs.length, funcs := st.funcs ++ [⟨i, st.owner, nm, []⟩], inner := v } rs { w with fu := ⟨s', w.fu.c ++ [iV i, iV st.owner, .string nm, .slice none 0 0], w.fu.n + 1, bs'⟩, cv := w.cv ++ [(.slice none 0 0, [])], cp := w.cp ++ [slR 3 0 (.slice none 0 0) (isV []) 0 []] } :=
  { E with
    fu := by
      show w.fu.c ++ _ = fuC (st.funcs ++ [_]) (w.cv ++ [_]); rw [Q7E _ _ _ _ E.cv, E.fu]
    fun' := by show w.fu.n + 1 = (st.funcs ++ [_]).length; rw [List.length_append, E.fun']; rfl
    cv := by show (w.cv ++ [_]).length = (st.funcs ++ [_]).length; rw [List.length_append, List.length_append, E.cv]; rfl
    cp := by
      show w.cp ++ _ = caP (st.funcs ++ [_]) (w.cv ++ [_])
      rw [Q7P _ _ _ _ E.cv, E.cp]; rfl }
theorem RsE.block {st : Nst} {rs : List Nat} {w : RsW} (E : RsE st rs w) (b : Nat) (s' : Value) (bs' : List Nat) : RsE { st with scopes := st.scopes ++ [⟨fun _ => none, st.owner⟩] } (rs ++ [b]) { w with sc := ⟨s', w.sc.c ++ [.map (some b), iV st.owner], w.sc.n + 1, bs'⟩, sp := w.sp ++ [mpR Value.string iV b (fun _ => none)] } :=
  { E with
    sc := by
      show w.sc.c ++ _ = scC (st.scopes ++ [_]) (rs ++ [_]); rw [Q3C _ _ _ _ E.rsn, E.sc]
    scn := by show w.sc.n + 1 = (st.scopes ++ [_]).length; rw [List.length_append, E.scn]; rfl
    rsn := by rw [List.length_append]; show _ = (st.scopes ++ [_]).length; rw [List.length_append, E.rsn]; rfl
    sp := by
      show w.sp ++ _ = scP (st.scopes ++ [_]) (rs ++ [_])
      rw [Q3B _ _ _ _ E.rsn, E.sp] }
theorem Q11 {h0 h : Hp} {ds : List Nat} {L : List Res} {b : Nat} {e : TypeId} {m : Nat} {r : Res} {ks : List Int} (S : SH h0 ds L h) (i j : Nat) (e1 : L[i]? = some (cR b (.cells (isV ks) e m))) (e2 : L[j]? = some r) (hij : i ≠ j) : KRow h r.own (.slice (some ⟨b, 0, none⟩) ks.length ks.length) ks :=
  ⟨b, e, m, rfl, S.cel i e1, S.lt1 i e1, S.apart i j e1 e2 hij⟩
theorem Q63 {F B C : List Res} {j : Nat} {r : Res} (h : B[j]? = some r) : (F ++ (B ++ C))[F.length + j]? = some r := by
  have hj := (List.getElem?_eq_some_iff.1 h).1; rw [List.getElem?_append_right (by omega), Nat.add_sub_cancel_left, List.getElem?_append_left hj]; exact h
theorem QbH {F B C : List Res} {j : Nat} {r : Res} (h : j < B.length) : (F ++ (B ++ C)).set (F.length + j) r = F ++ (B.set j r ++ C) := by
  rw [List.set_append_right _ _ (by omega), Nat.add_sub_cancel_left, List.set_append_left _ _ h]
theorem QdL {h0 h : Hp} {ds : List Nat} {F B C : List Res} {j : Nat} {r : Res} (_ : SH h0 ds (F ++ (B ++ C)) h) (hr : B[j]? = some r) : (F ++ (B ++ C))[F.length + j]? = some r := Q63 hr
theorem tail_S {h0 h : Hp} {ds : List Nat} {F B C : List Res} {j k : Nat} {r : Res} (S : SH h0 ds ((F ++ (B ++ C)).set k r) h) (hk : k = F.length + j) (hj : j < B.length) : SH h0 ds (F ++ (B.set j r ++ C)) h := by
  subst hk; rwa [QbH hj] at S
theorem Qan : KeyT nmE 118 9 3 Value.string := Q7B (by kernel_rfl) (by kernel_rfl)
theorem Q1J {α β : Type} (o : Option α) (f : α → β) : (o.map f).isSome = o.isSome := by cases o <;> rfl
theorem RsE.owner {st : Nst} {rs : List Nat} {w : RsW} (E : RsE st rs w) (j : Nat) (o : Int) : RsE { st with owners := st.owners.set j o } rs { w with ow := ⟨w.ow.v, w.ow.c.set (0 + Int.toNat (j : Int) * 1) (iV o), w.ow.n, w.ow.b⟩ } :=
  { E with
    ow := by show w.ow.c.set _ _ = isV (st.owners.set j o); rw [E.ow, QdO, Int.toNat_natCast, Nat.zero_add, Nat.mul_one]
    own := by show w.ow.n = (st.owners.set j o).length; rw [List.length_set, E.own] }
theorem Qer {st : Nst} {rs : List Nat} {s : Sco} (hs : st.scopes.getLast? = some s) (hr : rs.length = st.scopes.length) : ∃ (j r : Nat), st.scopes.length = j + 1 ∧ st.scopes[j]? = some s ∧ rs[j]? = some r ∧ (scP st.scopes rs)[j]? = some (mpR Value.string iV r s.loc) := by
  obtain ⟨h1, h2⟩ := Q2v hs; have h3 : st.scopes.length - 1 < rs.length := by omega
  exact ⟨st.scopes.length - 1, rs[st.scopes.length - 1], by omega, h2, List.getElem?_eq_getElem h3, Q77 _ _ _ _ _ h2 (List.getElem?_eq_getElem h3)⟩
theorem RsE.loc {st : Nst} {rs : List Nat} {w : RsW} (E : RsE st rs w) {j r : Nat} {s : Sco} (hj : st.scopes.length = j + 1) (h1 : st.scopes[j]? = some s) (h2 : rs[j]? = some r) (t : Txt) (i : Int) : RsE { st with scopes := setLast st.scopes t i } rs { w with sp := w.sp.set j (mpR Value.string iV r (put s.loc t i)) } :=
  { E with
    sc := by
      show w.sc.c = scC (setLast st.scopes t i) rs; rw [E.sc]; unfold setLast; exact (Q9u (fun s => { s with loc := put s.loc t i }) (fun _ => rfl) _ _ _).symm
    scn := by show w.sc.n = (List.modify _ _ _).length; rw [List.length_modify, E.scn]
    rsn := by show rs.length = (List.modify _ _ _).length; rw [List.length_modify, E.rsn]
    sp := by
      show w.sp.set j _ = scP (setLast st.scopes t i) rs; rw [E.sp]; unfold setLast; rw [hj, Nat.add_sub_cancel]
      exact Q9s st.scopes rs j r (fun s => { s with loc := put s.loc t i }) h2 s h1 }
end Go.Proofs.YtkidomfnmpnmaaaGreatDoor
namespace Go.Proofs.YtkidomfnmpnmaaaGreatDoor
open Go.X Go.Nam
section
variable {h0 hE : Hp} {bs rs : List Nat} {rb : Nat} {sv : Value} {st : Nst} {T : List Tw} {i : Nat} {rec : Nst → Int → Nst} {k p n w0 : Nat} {o : Int} {sow : List Int} {bl : List (Nat × Nat)}
set_option maxHeartbeats 1000000 in
theorem n74 {fr : Nat} {nm : Txt} (S0 : SH h0 [] [rsR rb sv st rs bs] hE) (R : Tre h0 sv T) (hi : i < T.length) (hC : Q8N h0 rb sv T rec k) (hr : KC (vw T) rec k) (F : FoldAt (vw T) k (((vw T).ks i).drop fr) bl n o sow (Zd st i nm) 0 p w0) (hf : fr ≤ ((vw T).ks i).length) (hp : p ≤ (vw T).n) (hl : st.funcs.length ≤ 1000000) :
    C nmE 74 [ZB rb, iV i, iV fr, .string nm] hE fun _ g' => ∃ bs', SH hE bs [rsR rb sv (J9 (vw T) rec st i fr nm) rs bs'] g' := by
  obtain ⟨v, hv⟩ : ∃ v, v = (if st.owner < 0 then 0 else st.inner) := ⟨_, rfl⟩; unfold Zd at F; unfold J9; rw [← hv] at F ⊢; refine Qf (fu := Tryz.f74) (by kernel_rfl) rfl ?_; have S := S0.enter; obtain ⟨w, E, ho, S⟩ := Qo (A := []) S; simp only [List.nil_append] at S; refine Qd ?_; refine Q4 gn rfl rfl ?_; refine Q9 gn rfl rfl ?_; refine Q0 (off := 13) gn rfl rfl (by kernel_rfl) ?_; refine Q6 gn rfl rfl (by kernel_rfl) (by exact S.cel 0 rfl) rfl ?_; refine Q3 gn rfl rfl ?_; refine ZC ?_; refine Q4 gn rfl rfl ?_; refine Q4 gn rfl rfl ?_; refine Q9 gn rfl rfl ?_; refine Q0 (off := 1) gn rfl rfl (by kernel_rfl) ?_; refine Q0 (off := 7) gn rfl rfl (by kernel_rfl) ?_
  refine Q6 gn rfl rfl (by kernel_rfl) (by exact S.cel 0 rfl) rfl ?_; obtain ⟨fa, fc, hfv⟩ := (S.sl 8 rfl).val; rw [hfv, E.fun']; refine QJ gn rfl rfl (by kernel_rfl) ?_; refine Q9 gn rfl rfl ?_; refine Q0 (off := 13) gn rfl rfl (by kernel_rfl) ?_; refine ZD 0 S gn rfl rfl (by first | rfl | exact hcv) (by kernel_rfl) rfl (by decide) (by first | decide | (simp; done)) (fun g S => ag0) fun g S => ?_; simp only [List.set_cons_succ, List.set_cons_zero] at S; refine ZC ?_; refine Q4 gn rfl rfl ?_; refine Q4 gn rfl rfl ?_; refine Q9 gn rfl rfl ?_; refine Q0 (off := 1) gn rfl rfl (by kernel_rfl) ?_; refine Q0 (off := 7) gn rfl rfl (by kernel_rfl) ?_
  refine Q6 gn rfl rfl (by kernel_rfl) (by exact S.cel 0 rfl) rfl ?_; refine Q4 gn rfl rfl ?_; refine Q4 gn rfl rfl ?_; refine Q4 gn rfl rfl ?_; refine Yf (cs := #[iV i, iV st.owner, .string nm, .slice none 0 0]) (zv := .agg #[.int .i64 0, .int .i64 0, .string .empty, .slice none 0 0]) (pl := [(0, 1), (1, 1), (2, 1), (3, 1)]) [(0, _), (1, _), (2, _)] gn rfl (by kernel_rfl) (by kernel_rfl) rfl (by kernel_rfl) ?_; refine Qn (cs := #[iV i, iV st.owner, .string nm, .slice none 0 0]) (e := 45) (z := 3) (zv := .agg #[.int .i64 0, .int .i64 0, .string .empty, .slice none 0 0]) [(0, _)] S gn rfl (by kernel_rfl) (by kernel_rfl) (by kernel_rfl) (by kernel_rfl) rfl (by kernel_rfl) fun b1 g nb1 S => ?_
  refine KI (e := 45) (z := 3) (by' := 55) 9 0 S el30 gn rfl rfl rfl rfl rfl rfl (by rfl) (by have := E.fun'; omega) (fun s' bs' g S => ag0) fun s' bs' g S => ?_; simp only [List.set_cons_succ, List.set_cons_zero] at S; have hcv : cellV s' = true := (S.sl 9 rfl).cellV; refine Q9 gn rfl rfl ?_; refine Q0 (off := 1) gn rfl rfl (by kernel_rfl) ?_; refine Q0 (off := 7) gn rfl rfl (by kernel_rfl) ?_; refine ZD 1 S gn rfl rfl (by first | rfl | exact hcv) (by kernel_rfl) rfl (by decide) (by first | decide | (simp; done)) (fun g S => ag0) fun g S => ?_; simp only [List.set_cons_succ, List.set_cons_zero] at S; refine J0 ?_; refine Q4 gn rfl rfl ?_; refine Zo gn rfl rfl rfl ?_; refine Q5 ?_
  refine Qa rfl (fun hb => ?_) fun hb => ?_
  · skip
    obtain rfl : v = 0 := by rw [hv, if_pos (by simpa using hb)]
    refine Q7 (by kernel_rfl) ?_; refine Q4 gn rfl rfl ?_; refine Q9 gn rfl rfl ?_; refine Q0 (off := 14) gn rfl rfl (by kernel_rfl) ?_; refine ZD 1 S gn rfl rfl (by first | rfl | exact hcv) (by kernel_rfl) rfl (by decide) (by first | decide | (simp; done)) (fun g S => ag0) fun g S => ?_; simp only [List.set_cons_succ, List.set_cons_zero] at S; refine ZC ?_; refine Q4 gn rfl rfl ?_; refine Q4 gn rfl rfl ?_; refine Q4 gn rfl rfl ?_; have S := S.atEnd (r := slR 3 0 (.slice none 0 0) (isV []) 0 []) (.inl ⟨rfl, rfl, rfl, rfl⟩) rfl; simp only [List.cons_append, List.append_assoc] at S; have E := E.func i nm s' bs' 0; have S := Qp (A := [_]) S E
    refine Qb [_, _, _] gn rfl rfl (by kernel_rfl) rfl (C.mono (n51 (S0.sub1 S0.own0 S 1 rfl) R hi hC hr F hf hp) ?_); rintro v g ⟨bs', S2⟩; have S := S.ret 1 rfl S2; simp only [List.cons_append, List.nil_append, List.set_cons_succ, List.set_cons_zero] at S; obtain ⟨w, E, ho, S⟩ := Qo (A := [_]) S; simp only [List.cons_append, List.nil_append] at S; refine ⟨ag0, ?_⟩; refine Q5 ?_; refine Q7 (by kernel_rfl) ?_; refine Q4 gn rfl rfl ?_; refine Q4 gn rfl rfl ?_; refine Q9 gn rfl rfl ?_; refine Q0 (off := 13) gn rfl rfl (by kernel_rfl) ?_; refine ZD 1 S gn rfl rfl (by first | rfl | exact hcv) (by kernel_rfl) rfl (by decide) (by first | decide | (simp; done)) (fun g S => ag0) fun g S => ?_
    simp only [List.set_cons_succ, List.set_cons_zero] at S; refine Q5 ?_; refine ⟨.inr rfl, _, rfl, ?_⟩; exact QZ (A := [_]) (st := { YI (vw T) rec _ i fr with owner := st.owner }) (w := w) S { E with }
  obtain rfl : v = st.inner := by rw [hv, if_neg (by simpa using hb)]
  refine Qe ?_; refine Qd ?_; refine Q4 gn rfl rfl ?_; refine Q4 gn rfl rfl ?_; refine Q4 gn rfl rfl ?_; have S := S.atEnd (r := slR 3 0 (.slice none 0 0) (isV []) 0 []) (.inl ⟨rfl, rfl, rfl, rfl⟩) rfl; simp only [List.cons_append, List.append_assoc] at S; have E := E.func i nm s' bs' st.inner; have S := Qp (A := [_]) S E; refine Qb [_, _, _] gn rfl rfl (by kernel_rfl) rfl (C.mono (n51 (S0.sub1 S0.own0 S 1 rfl) R hi hC hr F hf hp) ?_); rintro v g ⟨bs', S2⟩; have S := S.ret 1 rfl S2; simp only [List.cons_append, List.nil_append, List.set_cons_succ, List.set_cons_zero] at S; obtain ⟨w, E, ho, S⟩ := Qo (A := [_]) S; simp only [List.cons_append, List.nil_append] at S; refine ⟨ag0, ?_⟩
  refine Q5 ?_; refine Q7 (by kernel_rfl) ?_; refine Q4 gn rfl rfl ?_; refine Q4 gn rfl rfl ?_; refine Q9 gn rfl rfl ?_; refine Q0 (off := 13) gn rfl rfl (by kernel_rfl) ?_; refine ZD 1 S gn rfl rfl (by first | rfl | exact hcv) (by kernel_rfl) rfl (by decide) (by first | decide | (simp; done)) (fun g S => ag0) fun g S => ?_; simp only [List.set_cons_succ, List.set_cons_zero] at S; refine Q5 ?_; refine ⟨.inr rfl, _, rfl, ?_⟩; exact QZ (A := [_]) (st := { YI (vw T) rec _ i fr with owner := st.owner }) (w := w) S { E with }
set_option maxHeartbeats 1000000 in
theorem n39 (S0 : SH h0 [] [rsR rb sv st rs bs] hE) (R : Tre h0 sv T) (hi : i < T.length) (hC : Q8N h0 rb sv T rec k) (hr : KC (vw T) rec k) (F : FoldAt (vw T) k ((vw T).ks i) bl n o sow { st with scopes := st.scopes ++ [⟨fun _ => none, st.owner⟩] } 0 p w0) (hp : p ≤ (vw T).n) (hl : st.scopes.length ≤ 1000000) :
    C nmE 39 [ZB rb, iV i] hE fun _ g' => ∃ bs', SH hE bs [rsR rb sv (Q0C (vw T) rec st i) rs bs'] g' := by
  have hbl : Q0C (vw T) rec st i = { YI (vw T) rec { st with scopes := st.scopes ++ [⟨fun _ => none, st.owner⟩] } i 0 with scopes := (YI (vw T) rec { st with scopes := st.scopes ++ [⟨fun _ => none, st.owner⟩] } i 0).scopes.dropLast } := rfl; rw [hbl]; refine Qf (fu := Tryz.f39) (by kernel_rfl) rfl ?_; have S := S0.enter; obtain ⟨w, E, ho, S⟩ := Qo (A := []) S; simp only [List.nil_append] at S; have hrs := E.rsn; refine Qk ?_; refine Z2 [(0, []), (1, []), (2, []), (3, []), (4, []), (5, []), (6, []), (7, []), (8, []), (9, []), (10, []), (11, []), (12, []), (13, []), (14, []), (15, [])] (by kernel_rfl) (by kernel_rfl) (by kernel_rfl) (by kernel_rfl) ?_; refine Q4 gn rfl rfl ?_
  refine Q4 gn rfl rfl ?_; refine Q9 gn rfl rfl ?_; refine Q0 (off := 12) gn rfl rfl (by kernel_rfl) ?_; refine Q6 gn rfl rfl (by kernel_rfl) (by exact S.cel 0 rfl) rfl ?_; refine Q2a S gn rfl fun b1 g nb1 S => ?_; refine Q4 gn rfl rfl ?_; refine Q9 gn rfl rfl ?_; refine Q0 (off := 13) gn rfl rfl (by kernel_rfl) ?_; refine Q6 gn rfl rfl (by kernel_rfl) (by exact S.cel 1 rfl) rfl ?_; refine Yf (cs := #[.map (some b1), iV st.owner]) (zv := .agg #[.map none, .int .i64 0]) (pl := [(0, 1), (1, 1)]) [(0, _), (1, _)] gn rfl (by kernel_rfl) (by kernel_rfl) rfl (by kernel_rfl) ?_
  refine Qn (cs := #[.map (some b1), iV st.owner]) (e := 120) (z := 1) (zv := .agg #[.map none, .int .i64 0]) [(0, _)] S gn rfl (by kernel_rfl) (by kernel_rfl) (by kernel_rfl) (by kernel_rfl) rfl (by kernel_rfl) fun b2 g nb2 S => ?_; refine KI (e := 120) (z := 1) (by' := 15) 13 0 S el60 gn rfl rfl rfl rfl rfl rfl (by rfl) (by have := E.scn; omega) (fun s' bs' g S => ag0) fun s' bs' g S => ?_; simp only [List.set_cons_succ, List.set_cons_zero] at S; have hcv : cellV s' = true := (S.sl 13 rfl).cellV; refine Q9 gn rfl rfl ?_; refine Q0 (off := 12) gn rfl rfl (by kernel_rfl) ?_
  refine ZD 2 S gn rfl rfl (by first | rfl | exact hcv) (by kernel_rfl) rfl (by decide) (by first | decide | (simp; done)) (fun g S => ag0) fun g S => ?_; simp only [List.set_cons_succ, List.set_cons_zero] at S; refine ZC ?_; refine Q4 gn rfl rfl ?_; refine Q4 gn rfl rfl ?_; have S := Jj (key := Value.string) (enc := iV) (F := fun _ : Txt => none) (M := []) (cl := 0) S 1 rfl (fun _ => rfl); simp only [List.set_cons_succ, List.set_cons_zero] at S; have S := SH.ins (F := [_, _, _, _, _, _, _, _, _, _, _, _, _]) S; simp only [List.cons_append, List.nil_append] at S; have E := E.block b1 s' bs'; have S := Qp (A := [_]) S E
  refine Qb [_, _, _] gn rfl rfl (by kernel_rfl) rfl (C.mono (n51 (S0.sub1 S0.own0 S 1 rfl) (fr := 0) R hi hC hr F (Nat.zero_le _) hp) ?_); rintro v g ⟨bs', S2⟩; have S := S.ret 1 rfl S2; simp only [List.cons_append, List.nil_append, List.set_cons_succ, List.set_cons_zero] at S; obtain ⟨w, E, ho, S⟩ := Qo (A := [_]) S; simp only [List.cons_append, List.nil_append] at S; refine ⟨ag0, ?_⟩; generalize YI (vw T) rec { st with scopes := st.scopes ++ [⟨fun _ => none, st.owner⟩] } i 0 = st2 at E S ⊢; have hn2 : st2.scopes.length = st.scopes.length + 1 := by rw [← E.rsn, List.length_append, hrs]; rfl
  obtain ⟨sb, sc0, hsv, hsb, hsl⟩ := Y3 (S.sl 12 rfl) (by rw [E.scn]; omega); obtain ⟨vs, mm, hgb, hmm, hnc⟩ := sl_blk (b := sb) (c := sc0) (by have := S.sl 12 rfl; rw [hsv] at this; exact this); rw [E.scn, hn2] at hnc; refine Q5 ?_; refine Z2 [(0, []), (1, []), (2, []), (3, []), (4, []), (5, []), (6, []), (7, []), (8, []), (9, []), (10, []), (11, []), (12, []), (13, []), (14, [])] (by kernel_rfl) (by kernel_rfl) (by kernel_rfl) (by kernel_rfl) ?_; refine Q4 gn rfl rfl ?_; refine Q4 gn rfl rfl ?_; refine Q9 gn rfl rfl ?_; refine Q0 (off := 12) gn rfl rfl (by kernel_rfl) ?_; refine Q6 gn rfl rfl (by kernel_rfl) (by exact S.cel 1 rfl) rfl ?_; refine Q4 gn rfl rfl ?_; refine Q9 gn rfl rfl ?_
  refine Q0 (off := 12) gn rfl rfl (by kernel_rfl) ?_; refine Q6 gn rfl rfl (by kernel_rfl) (by exact S.cel 1 rfl) rfl ?_; rw [hsv, E.scn, hn2]; refine QJ gn rfl rfl (by kernel_rfl) ?_; refine Q8m gn rfl rfl rfl (by omega) (by omega) ?_; refine Q8n el60 gn rfl rfl rfl hgb hmm (by omega) (by omega) ?_; rw [show ((((st.scopes.length + 1 : Nat) : Int) - 1).toNat) = st.scopes.length by omega]; refine Q9 gn rfl rfl ?_; refine Q0 (off := 12) gn rfl rfl (by kernel_rfl) ?_; refine ZD 1 S gn rfl rfl (by first | rfl | exact hcv) (by kernel_rfl) rfl (by decide) (by first | decide | (simp; done)) (fun g S => ag0) fun g S => ?_; simp only [List.set_cons_succ, List.set_cons_zero] at S; refine Q5 ?_
  refine ⟨.inr rfl, _, rfl, ?_⟩
  exact by
    have S := S.cutSl (c := sc0) (b := sb) (k := st.scopes.length) 12 rfl hsv (by rw [E.scn]; omega); simp only [List.set_cons_succ, List.set_cons_zero] at S; obtain ⟨l, x, hlx⟩ : ∃ l x, st2.scopes = l ++ [x] := ⟨_, _, (List.dropLast_concat_getLast (by intro h; rw [h] at hn2; simp at hn2)).symm⟩; have hll : l.length = st.scopes.length := by rw [hlx, List.length_append] at hn2; simpa using hn2
    have esp := E.sp; rw [hlx, Q3B _ _ _ _ (by omega)] at esp; rw [esp] at S; have S := SH.out (F := [_, _, _, _, _, _, _, _, _, _, _, _, _, _]) S; simp only [List.cons_append, List.nil_append] at S; have hd : st2.scopes.dropLast = l := by rw [hlx, List.dropLast_concat]
    rw [hd]
    exact QZ (A := [_]) (st := { st2 with scopes := l }) (w := { w with sc := ⟨.slice (some ⟨sb, 0, none⟩) st.scopes.length sc0, w.sc.c.take (st.scopes.length * 2), st.scopes.length, w.sc.b⟩, sp := scP l rs }) S { E with
      sc := by
        show w.sc.c.take _ = scC l rs; rw [E.sc, hlx, ← hll]; exact QbK l x rs b1 (by omega)
      scn := hll.symm
      rsn := by show rs.length = l.length; omega
      sp := rfl }
end
end Go.Proofs.YtkidomfnmpnmaaaGreatDoor
namespace Go.Proofs.YtkidomfnmpnmaaaGreatDoor
open Go.X Go.Nam
theorem Q4e (a b : ByteArray) : eqS a b = decide (a = b) := by
  rw [Bool.eq_iff_iff, decide_eq_true_eq]; constructor
  · intro h; have h : a.toList = b.toList := by simpa using h
    rw [ByteArray.toList_eq, ByteArray.toList_eq] at h; have h2 : a.data = b.data := Array.toList_inj.1 h; cases a; cases b; cases h2; rfl
  intro h; subst h; simp
theorem Q5l (l : List ByteArray) (t : ByteArray) : Q1N l t = Q12 l t := by
  unfold Q1N Q12
  congr 1; funext u
  rw [Q4e]; exact decide_eq_decide.2 eq_comm
theorem Qey {l : List Int} (h : 0 < l.length) : l[0] = l.headD 0 := by
  cases l with
  | nil => simp at h
  | cons a l => rfl
section
variable {h0 hE : Hp} {bs rs : List Nat} {rb : Nat} {sv : Value} {st : Nst} {T : List Tw} {i : Nat} {rec : Nst → Int → Nst} {k p n w0 : Nat} {o : Int} {sow : List Int} {bl : List (Nat × Nat)}
theorem n44 (S0 : SH h0 [] [rsR rb sv st rs bs] hE) (R : Tre h0 sv T) (hi : i < T.length) (hw : st.wrong.length ≤ 1000000) (hm : st.means.length = T.length) : C nmE 44 [ZB rb, iV i] hE fun _ g' => ∃ bs', SH hE bs [rsR rb sv (YS (vw T) st i [6]) rs bs'] g' := by
  refine Qf (fu := Tryz.f44) (by kernel_rfl) rfl ?_; have S := S0.enter; obtain ⟨w, E, ho, S⟩ := Qo (A := []) S; simp only [List.nil_append] at S; refine Q7 (by kernel_rfl) ?_; refine Q4 gn rfl rfl ?_; refine Q4 gn rfl rfl ?_; refine Qn (cs := #[iV 6]) (e := 36) (z := 0) (zv := .int .i64 0) [(0, _)] S gn rfl (by kernel_rfl) (by kernel_rfl) (by kernel_rfl) (by kernel_rfl) rfl (by kernel_rfl) fun b1 g nb1 S => ?_; have S := Qp (A := [_]) S E; refine Qb [_, _, _] gn rfl rfl (by kernel_rfl) rfl (C.mono (n78 (S0.sub1 S0.own0 S 1 rfl) R hi hw hm (Q11 (ks := [6]) S 0 1 rfl rfl (by decide)) (by decide)) ?_); rintro v g ⟨bs', S2⟩; have S := S.ret 1 rfl S2
  simp only [List.cons_append, List.nil_append, List.set_cons_succ, List.set_cons_zero] at S; obtain ⟨w, E, ho, S⟩ := Qo (A := [_]) S; simp only [List.cons_append, List.nil_append] at S; refine ⟨ag0, ?_⟩; refine Q5 ?_; refine ⟨.inr rfl, _, rfl, ?_⟩; exact QZ (A := [_]) S E
theorem n45 (S0 : SH h0 [] [rsR rb sv st rs bs] hE) (R : Tre h0 sv T) (hi : i < T.length) (hw : st.wrong.length ≤ 1000000) (hm : st.means.length = T.length) : C nmE 45 [ZB rb, iV i] hE fun _ g' => ∃ bs', SH hE bs [rsR rb sv (YS (vw T) st i [5]) rs bs'] g' := by
  refine Qf (fu := Tryz.f45) (by kernel_rfl) rfl ?_; have S := S0.enter; obtain ⟨w, E, ho, S⟩ := Qo (A := []) S; simp only [List.nil_append] at S; refine Q7 (by kernel_rfl) ?_; refine Q4 gn rfl rfl ?_; refine Q4 gn rfl rfl ?_; refine Qn (cs := #[iV 5]) (e := 36) (z := 0) (zv := .int .i64 0) [(0, _)] S gn rfl (by kernel_rfl) (by kernel_rfl) (by kernel_rfl) (by kernel_rfl) rfl (by kernel_rfl) fun b1 g nb1 S => ?_; have S := Qp (A := [_]) S E; refine Qb [_, _, _] gn rfl rfl (by kernel_rfl) rfl (C.mono (n78 (S0.sub1 S0.own0 S 1 rfl) R hi hw hm (Q11 (ks := [5]) S 0 1 rfl rfl (by decide)) (by decide)) ?_); rintro v g ⟨bs', S2⟩; have S := S.ret 1 rfl S2
  simp only [List.cons_append, List.nil_append, List.set_cons_succ, List.set_cons_zero] at S; obtain ⟨w, E, ho, S⟩ := Qo (A := [_]) S; simp only [List.cons_append, List.nil_append] at S; refine ⟨ag0, ?_⟩; refine Q5 ?_; refine ⟨.inr rfl, _, rfl, ?_⟩; exact QZ (A := [_]) S E
theorem n43 (S0 : SH h0 [] [rsR rb sv st rs bs] hE) (R : Tre h0 sv T) (hi : i < T.length) (hw : st.wrong.length ≤ 1000000) (hm : st.means.length = T.length) (hC : Q8N h0 rb sv T rec k) (hr : KC (vw T) rec k) (F : FoldAt (vw T) k ((vw T).ks i) bl n o sow (YS (vw T) st i [4]) 0 p w0) (hp : p ≤ (vw T).n) :
    C nmE 43 [ZB rb, iV i] hE fun _ g' => ∃ bs', SH hE bs [rsR rb sv (YI (vw T) rec (YS (vw T) st i [4]) i 0) rs bs'] g' := by
  refine Qf (fu := Tryz.f43) (by kernel_rfl) rfl ?_; have S := S0.enter; obtain ⟨w, E, ho, S⟩ := Qo (A := []) S; simp only [List.nil_append] at S; refine Qd ?_; refine Q4 gn rfl rfl ?_; refine Q4 gn rfl rfl ?_; refine Qn (cs := #[iV 4]) (e := 36) (z := 0) (zv := .int .i64 0) [(0, _)] S gn rfl (by kernel_rfl) (by kernel_rfl) (by kernel_rfl) (by kernel_rfl) rfl (by kernel_rfl) fun b1 g nb1 S => ?_; have S := Qp (A := [_]) S E; refine Qb [_, _, _] gn rfl rfl (by kernel_rfl) rfl (C.mono (n78 (S0.sub1 S0.own0 S 1 rfl) R hi hw hm (Q11 (ks := [4]) S 0 1 rfl rfl (by decide)) (by decide)) ?_); rintro v g ⟨bs', S2⟩; have S := S.ret 1 rfl S2
  simp only [List.cons_append, List.nil_append, List.set_cons_succ, List.set_cons_zero] at S; obtain ⟨w, E, ho, S⟩ := Qo (A := [_]) S; simp only [List.cons_append, List.nil_append] at S; refine ⟨ag0, ?_⟩; refine Q5 ?_; refine Q7 (by kernel_rfl) ?_; refine Q4 gn rfl rfl ?_; refine Q4 gn rfl rfl ?_; have S := Qp (A := [_]) S E; refine Qb [_, _, _] gn rfl rfl (by kernel_rfl) rfl (C.mono (n51 (S0.sub1 S0.own0 S 1 rfl) (fr := 0) R hi hC hr F (Nat.zero_le _) hp) ?_); rintro v g ⟨bs', S2⟩; have S := S.ret 1 rfl S2; simp only [List.cons_append, List.nil_append, List.set_cons_succ, List.set_cons_zero] at S; obtain ⟨w, E, ho, S⟩ := Qo (A := [_]) S; simp only [List.cons_append, List.nil_append] at S
  refine ⟨ag0, ?_⟩; refine Q5 ?_; refine ⟨.inr rfl, _, rfl, ?_⟩; exact QZ (A := [_]) S E
theorem n42 (S0 : SH h0 [] [rsR rb sv st rs bs] hE) (R : Tre h0 sv T) (hi : i < T.length) (hw : st.wrong.length ≤ 1000000) (hm : st.means.length = T.length) : C nmE 42 [ZB rb, iV i] hE fun _ g' => ∃ bs', SH hE bs [rsR rb sv (Nam.typS (vw T) st i) rs bs'] g' := by
  have X := R.X; obtain ⟨ta, tc, rfl⟩ := X.val; obtain ⟨t0, b, o', cs, ee, m, hw0, Q⟩ := JU X hi; obtain rfl := Q.ta; unfold Nam.typS; rw [Q.s]; refine Qf (fu := Tryz.f42) (by kernel_rfl) rfl ?_; have S := S0.enter; obtain ⟨w, E, ho, S⟩ := Qo (A := []) S; simp only [List.nil_append] at S; refine Qd ?_; refine Qn (cs := #[.string ⟨#[105, 110, 116]⟩, .string ⟨#[102, 110]⟩, .string ⟨#[116, 111, 107]⟩, .string ⟨#[104, 97, 110, 100]⟩, .string ⟨#[97, 114, 114]⟩]) (e := 9) (z := 0) (zv := .string .empty) [(0, _), (1, _), (2, _), (3, _), (4, _)] S gn rfl (by kernel_rfl) (by kernel_rfl) (by kernel_rfl) (by kernel_rfl) rfl (by kernel_rfl) fun b1 g nb1 S => ?_; refine Q4 gn rfl rfl ?_
  refine Q9 gn rfl rfl ?_; refine Q0 (off := 0) gn rfl rfl (by kernel_rfl) ?_; refine Q0 (off := 0) gn rfl rfl (by kernel_rfl) ?_; refine Q6 gn rfl rfl (by kernel_rfl) (by exact S.cel 1 rfl) rfl ?_; refine Q4 gn rfl rfl ?_; refine Q8 (zz := 6) gn rfl rfl rfl (by kernel_rfl) (by omega) (by omega) ?_; refine Q0 (off := 1) gn rfl rfl (by kernel_rfl) ?_; refine Q6 gn rfl rfl (by kernel_rfl) (S0.two S0.own0 S Q.g Q.lt) (Q.at 1 (by decide) rfl) ?_; refine Qb [_, _] gn rfl rfl (by kernel_rfl) rfl (C.mono (c63 (ws := fiveT) (RowV.of (S.cel 0 rfl) (S.lt1 0 rfl) rfl) (by decide)) ?_); rintro v g ⟨rfl, x⟩; have S := S.grow x; refine ⟨ag0, ?_⟩; refine ZN gn rfl rfl ?_; refine Q5 ?_
  refine Qa rfl (fun hb => ?_) fun hb => ?_
  · skip
    refine Q7 (by kernel_rfl) ?_; refine Q4 gn rfl rfl ?_; refine Q4 gn rfl rfl ?_; refine Qn (cs := #[iV 5]) (e := 36) (z := 0) (zv := .int .i64 0) [(0, _)] S gn rfl (by kernel_rfl) (by kernel_rfl) (by kernel_rfl) (by kernel_rfl) rfl (by kernel_rfl) fun b2 g nb2 S => ?_; have S := Qp (A := [_, _]) S E; refine Qb [_, _, _] gn rfl rfl (by kernel_rfl) rfl (C.mono (n78 (S0.sub1 S0.own0 S 2 rfl) R hi hw hm (Q11 (ks := [5]) S 0 2 rfl rfl (by decide)) (by decide)) ?_); rintro v g ⟨bs', S2⟩; have S := S.ret 2 rfl S2; simp only [List.cons_append, List.nil_append, List.set_cons_succ, List.set_cons_zero] at S; obtain ⟨w, E, ho, S⟩ := Qo (A := [_, _]) S; simp only [List.cons_append, List.nil_append] at S
    refine ⟨ag0, ?_⟩; refine Q5 ?_; refine ⟨.inr rfl, _, rfl, ?_⟩; exact by rw [if_neg (by simpa [Q5l] using hb)]; exact QZ (A := [_, _]) S E
  refine Qe ?_; refine ⟨.inr rfl, _, rfl, ?_⟩; exact by rw [if_pos (by simpa [Q5l] using hb)]; exact QZ (A := [_]) S E
set_option maxHeartbeats 1000000 in
theorem n84 {j : Nat} (S0 : SH h0 [] [rsR rb sv st rs bs] hE) (R : Tre h0 sv T) (hi : i < T.length) (hj : j < T.length) (hk : Qai (vw T) i = (j : Int)) (hne : 0 < ((vw T).ks i).length) (hw : st.wrong.length ≤ 1000000) (hm : st.means.length = T.length) (hlw : st.owners.length = T.length) : C nmE 84 [ZB rb, iV i] hE fun _ g' => ∃ bs', SH hE bs [rsR rb sv (Z4 (vw T) st i) rs bs'] g' := by
  have X := R.X; obtain ⟨ta, tc, rfl⟩ := X.val; obtain ⟨t0, b, o', cs, ee, m, hw0, Q⟩ := JU X hi; obtain rfl := Q.ta; unfold Z4; rw [hk, Int.toNat_natCast]; unfold Qai at hk; rw [Q.ks] at hk hne; obtain ⟨kb, ko, kc', kcs, ke, km, hv2, hg2, hlt2, hat2⟩ := Q.row.atM hne
  have hkid : kcs[ko + Int.toNat 0 * 1]? = some (iV j) := by
    have := hat2 0 hne; rw [Nat.add_zero] at this; rw [show ko + Int.toNat 0 * 1 = ko from rfl, this, ← hk, Qey hne]
  refine Qf (fu := Tryz.f84) (by kernel_rfl) rfl ?_; have S := S0.enter; obtain ⟨w, E, ho, S⟩ := Qo (A := []) S; simp only [List.nil_append] at S; refine Qd ?_; refine Q4 gn rfl rfl ?_; refine Q9 gn rfl rfl ?_; refine Q0 (off := 0) gn rfl rfl (by kernel_rfl) ?_; refine Q0 (off := 0) gn rfl rfl (by kernel_rfl) ?_; refine Q6 gn rfl rfl (by kernel_rfl) (by exact S.cel 0 rfl) rfl ?_; refine Q4 gn rfl rfl ?_; refine Q8 (zz := 6) gn rfl rfl rfl (by kernel_rfl) (by omega) (by omega) ?_; refine Q0 (off := 5) gn rfl rfl (by kernel_rfl) ?_; refine Q6 gn rfl rfl (by kernel_rfl) (S0.two S0.own0 S Q.g Q.lt) (Q.at 5 (by decide) rfl) ?_; rw [show t0.ks = _ from hv2]
  refine Q8 (zz := 1) gn rfl rfl rfl (by kernel_rfl) (by omega) (by omega) ?_; refine Q6 gn rfl rfl (by kernel_rfl) (S0.two S0.own0 S hg2 hlt2) hkid ?_; refine Q3 gn rfl rfl ?_; refine Q5 ?_; refine Qk ?_; refine Z2 [(0, []), (1, []), (2, []), (3, []), (4, []), (5, []), (6, []), (7, []), (8, []), (9, []), (10, []), (11, [])] (by kernel_rfl) (by kernel_rfl) (by kernel_rfl) (by kernel_rfl) ?_; refine Q4 gn rfl rfl ?_; refine Q9 gn rfl rfl ?_; refine Q0 (off := 1) gn rfl rfl (by kernel_rfl) ?_; refine Q0 (off := 1) gn rfl rfl (by kernel_rfl) ?_; refine Q6 gn rfl rfl (by kernel_rfl) (by exact S.cel 0 rfl) rfl ?_; refine Q4 gn rfl rfl ?_; refine Q4 gn rfl rfl ?_; refine Q9 gn rfl rfl ?_
  refine Q0 (off := 13) gn rfl rfl (by kernel_rfl) ?_; refine Q6 gn rfl rfl (by kernel_rfl) (by exact S.cel 0 rfl) rfl ?_; obtain ⟨mb, mc, hmv, hmb, hml⟩ := Y3 (S.sl 2 rfl) (by rw [E.own]; omega); rw [hmv]; refine Q8 (zz := 1) gn rfl rfl rfl (by kernel_rfl) (by omega) (by have := E.own; omega) ?_; refine Q7b 2 S gn rfl rfl rfl (by kernel_rfl) rfl hmv (by have h1 := E.own; have h2 : w.ow.c.length = w.ow.n * 1 := hml; rw [h2, Int.toNat_natCast]; omega) (fun g S => ag0) fun g S => ?_; simp only [List.set_cons_succ, List.set_cons_zero] at S; refine Q5 ?_; refine Q7 (by kernel_rfl) ?_; refine Q4 gn rfl rfl ?_; refine Q4 gn rfl rfl ?_
  refine Qn (cs := #[iV 4]) (e := 36) (z := 0) (zv := .int .i64 0) [(0, _)] S gn rfl (by kernel_rfl) (by kernel_rfl) (by kernel_rfl) (by kernel_rfl) rfl (by kernel_rfl) fun b1 g nb1 S => ?_; have E := E.owner j st.owner; have S := Qp (A := [_]) S E; refine Qb [_, _, _] gn rfl rfl (by kernel_rfl) rfl (C.mono (n78 (S0.sub1 S0.own0 S 1 rfl) R hj hw hm (Q11 (ks := [4]) S 0 1 rfl rfl (by decide)) (by decide)) ?_); rintro v g ⟨bs', S2⟩; have S := S.ret 1 rfl S2; simp only [List.cons_append, List.nil_append, List.set_cons_succ, List.set_cons_zero] at S; obtain ⟨w, E, ho, S⟩ := Qo (A := [_]) S; simp only [List.cons_append, List.nil_append] at S; refine ⟨ag0, ?_⟩; refine Q5 ?_
  refine ⟨.inr rfl, _, rfl, ?_⟩; exact QZ (A := [_]) S E
end
end Go.Proofs.YtkidomfnmpnmaaaGreatDoor
namespace Go.Proofs.YtkidomfnmpnmaaaGreatDoor
open Go.X Go.Nam
theorem Qe7 {M : MsK Txt} {cl : Nat} {F : Txt → Option Int} (hF : ∀ k, Q0s M k = (F k).map iV) (t : Txt) (i : Int) : ∀ k, Q0s (Q8L M t (iV i) cl).1 k = (Nam.put F t i k).map iV := fun k => by
  rw [Q49]; unfold Nam.put
  split
  · rfl
  exact hF k
section
variable {h0 hE : Hp} {bs rs : List Nat} {rb : Nat} {sv : Value} {st : Nst} {T : List Tw} {i : Nat} {rec : Nst → Int → Nst} {k p n w0 : Nat} {o : Int} {sow : List Int} {bl : List (Nat × Nat)}
set_option maxHeartbeats 1000000 in
theorem n40 {s : Sco} (S0 : SH h0 [] [rsR rb sv st rs bs] hE) (R : Tre h0 sv T) (hi : i < T.length) (hw : st.wrong.length ≤ 1000000) (hs : st.scopes.getLast? = some s) (hC : Q8N h0 rb sv T rec k) (hr : KC (vw T) rec k) (F : FoldAt (vw T) k ((vw T).ks i) bl n o sow (if Q6F st ((vw T).s i) = true then tell (vw T) st i 7 else st) 0 p w0) (hp : p ≤ (vw T).n) (hl : st.scopes.length ≤ 1000000) :
    C nmE 40 [ZB rb, iV i] hE fun _ g' => ∃ bs', SH hE bs [rsR rb sv (Q0m (vw T) rec st i) rs bs'] g' := by
  have X := R.X; obtain ⟨ta, tc, rfl⟩ := X.val; obtain ⟨t0, b, o', cs, ee, m, hw0, Q⟩ := JU X hi; obtain rfl := Q.ta; obtain ⟨ka, kc, hks⟩ := Q.row.valM; obtain ⟨K0, s0, N0, L0, C0, k0, kids0⟩ := t0; simp only at hks; subst hks; have hall : (cs.drop (o' + Int.toNat (i : Int) * 6)).take 6 = twC K0 s0 N0 L0 C0 (.slice ka kids0.length kc) := Q.all; have qs : (vw T).s i = s0 := Q.s; have hh : Q6F st s0 = (s.loc s0).isSome := by unfold Q6F; rw [hs]
  obtain ⟨had, hhad⟩ : ∃ had, had = (s.loc s0).isSome := ⟨_, rfl⟩; unfold Q0m; dsimp only; rw [qs, hh, ← hhad] at F ⊢; refine Qf (fu := Tryz.f40) (by kernel_rfl) rfl ?_; have S := S0.enter; obtain ⟨w, E, ho, S⟩ := Qo (A := []) S; simp only [List.nil_append] at S; obtain ⟨j, r, hsn, h1, h2, h3⟩ := Qer hs E.rsn; have h3' := h3; rw [← E.sp] at h3'; have hrl := E.rsn; refine Qd ?_; refine Q4 gn rfl rfl ?_; refine Q9 gn rfl rfl ?_; refine Q0 (off := 0) gn rfl rfl (by kernel_rfl) ?_; refine Q0 (off := 0) gn rfl rfl (by kernel_rfl) ?_; refine Q6 gn rfl rfl (by kernel_rfl) (by exact S.cel 0 rfl) rfl ?_; refine Q4 gn rfl rfl ?_
  refine Q8 (zz := 6) gn rfl rfl rfl (by kernel_rfl) (by omega) (by omega) ?_; refine Qs (n := 6) gn rfl rfl (by kernel_rfl) (by kernel_rfl) (S0.two S0.own0 S Q.g Q.lt) Q.len ?_; rw [hall]; refine Zl (zv := .agg #[.int .i64 0, .string .empty, .int .i64 0, .int .i64 0, .int .i64 0, .slice none 0 0]) S gn rfl (by kernel_rfl) fun b1 g nb1 S => ?_; refine QL (n := 6) 0 S gn rfl rfl (by kernel_rfl) (by kernel_rfl) rfl rfl (by decide) rfl (fun g S => ag0) fun g S => ?_; simp only [List.set_cons_succ, List.set_cons_zero] at S; refine Q5 ?_; refine Qk ?_
  refine Z2 [(0, []), (1, []), (2, []), (3, []), (4, []), (5, []), (6, []), (7, []), (8, []), (9, []), (10, []), (11, []), (12, []), (13, [])] (by kernel_rfl) (by kernel_rfl) (by kernel_rfl) (by kernel_rfl) ?_; refine Q4 gn rfl rfl ?_; refine Q9 gn rfl rfl ?_; refine Q0 (off := 12) gn rfl rfl (by kernel_rfl) ?_; refine Q6 gn rfl rfl (by kernel_rfl) (by exact S.cel 1 rfl) rfl ?_; refine Q4 gn rfl rfl ?_; refine Q9 gn rfl rfl ?_; refine Q0 (off := 12) gn rfl rfl (by kernel_rfl) ?_; refine Q6 gn rfl rfl (by kernel_rfl) (by exact S.cel 1 rfl) rfl ?_; obtain ⟨sb, sc0, hsv, hsb, hsl⟩ := Y3 (S.sl 12 rfl) (by rw [E.scn]; omega)
  obtain ⟨rest, mm, hgb⟩ := YA (n := w.sc.n) (b := sb) (c := sc0) (by have := S.sl 12 rfl; rw [hsv] at this; exact this); have hcl : w.sc.c.length = w.sc.n * 2 := hsl; rw [E.scn, hsn] at hcl
  have hld : ((w.sc.c ++ rest).drop (0 + Int.toNat (((j + 1 : Nat) : Int) - 1) * 2)).take 2 = [.map (some r), iV s.ow] := by
    rw [E.sc, show 0 + Int.toNat (((j + 1 : Nat) : Int) - 1) * 2 = j * 2 by omega]; exact Q9v _ _ _ _ _ _ h1 h2
  rw [hsv, E.scn, hsn]; refine QJ gn rfl rfl (by kernel_rfl) ?_; refine Q8m gn rfl rfl rfl (by omega) (by omega) ?_; refine Q8 (zz := 2) gn rfl rfl rfl (by kernel_rfl) (by omega) (by omega) ?_; refine Qs (n := 2) gn rfl rfl (by kernel_rfl) (by kernel_rfl) hgb (by rw [List.length_append, hcl]; omega) ?_; rw [hld]; refine Zl (zv := .agg #[.map none, .int .i64 0]) S gn rfl (by kernel_rfl) fun b2 g nb2 S => ?_; refine QL (n := 2) 0 S gn rfl rfl (by kernel_rfl) (by kernel_rfl) rfl rfl (by decide) rfl (fun g S => ag0) fun g S => ?_; simp only [List.set_cons_succ, List.set_cons_zero] at S; refine ZC ?_; refine Q0 (off := 0) gn rfl rfl (by kernel_rfl) ?_
  refine Q6 gn rfl rfl (by kernel_rfl) (by exact S.cel 0 rfl) rfl ?_; refine Q0 (off := 1) gn rfl rfl (by kernel_rfl) ?_; refine Q6 gn rfl rfl (by kernel_rfl) (by exact S.cel 1 rfl) rfl ?_; obtain ⟨M, cl, hM, hF⟩ := Q35 S _ (Q63 (F := [_, _, _, _, _, _, _, _, _, _, _, _, _, _, _]) (C := w.cp) h3'); refine YQ (zv := .int .i64 0) Qan gn rfl rfl rfl hM (by kernel_rfl) ?_; rw [hF, Q1J, ← hhad]; refine Q4 gn rfl rfl ?_; refine Zj gn rfl rfl rfl ?_; refine Zj gn rfl rfl rfl ?_; refine Q3 gn rfl rfl ?_; refine Q3 gn rfl rfl ?_; refine J0 ?_; refine Q4 gn rfl rfl ?_; refine Q5 ?_; refine Qa rfl (fun hb => ?_) fun hb => ?_
  · skip
    obtain rfl : had = true := hb; refine Q7 (by kernel_rfl) ?_; refine Q4 gn rfl rfl ?_; refine Q4 gn rfl rfl ?_; have S := Qp (A := [_, _]) S E; refine Qb [_, _, _] gn rfl rfl (by kernel_rfl) rfl (C.mono (n21 (S0.sub1 S0.own0 S 2 rfl) R.X hi hw) ?_); rintro v g ⟨bs', S2⟩; have S := S.ret 2 rfl S2; simp only [List.cons_append, List.nil_append, List.set_cons_succ, List.set_cons_zero] at S; obtain ⟨w, E, ho, S⟩ := Qo (A := [_, _]) S; simp only [List.cons_append, List.nil_append] at S; refine ⟨ag0, ?_⟩; refine ZC ?_; refine Q4 gn rfl rfl ?_; refine Q4 gn rfl rfl ?_; have S := Qp (A := [_, _]) S E
    refine Qb [_, _, _] gn rfl rfl (by kernel_rfl) rfl (C.mono (n51 (S0.sub1 S0.own0 S 2 rfl) (fr := 0) R hi hC hr F (Nat.zero_le _) hp) ?_); rintro v g ⟨bs', S2⟩; have S := S.ret 2 rfl S2; simp only [List.cons_append, List.nil_append, List.set_cons_succ, List.set_cons_zero] at S; obtain ⟨w, E, ho, S⟩ := Qo (A := [_, _]) S; simp only [List.cons_append, List.nil_append] at S; refine ⟨ag0, ?_⟩; refine ZC ?_; refine Q4 gn rfl rfl ?_; refine ZN gn rfl rfl ?_; refine Q5 ?_; refine Qa rfl (fun hb => ?_) fun hb => ?_
    · skip
      exact absurd hb (by decide)
    refine Qe ?_; refine ⟨.inr rfl, _, rfl, ?_⟩; exact QZ (A := [_, _]) S E
  refine Qe ?_; obtain rfl : had = false := by simpa using hb
  simp only [Bool.false_eq_true, if_false] at F ⊢; refine Qd ?_; refine Q4 gn rfl rfl ?_; refine Q4 gn rfl rfl ?_; have S := Qp (A := [_, _]) S E; refine Qb [_, _, _] gn rfl rfl (by kernel_rfl) rfl (C.mono (n51 (S0.sub1 S0.own0 S 2 rfl) (fr := 0) R hi hC hr F (Nat.zero_le _) hp) ?_); rintro v g ⟨bs', S2⟩; have S := S.ret 2 rfl S2; simp only [List.cons_append, List.nil_append, List.set_cons_succ, List.set_cons_zero] at S; obtain ⟨w, E, ho, S⟩ := Qo (A := [_, _]) S; simp only [List.cons_append, List.nil_append] at S; refine ⟨ag0, ?_⟩; refine ZC ?_; refine Q4 gn rfl rfl ?_; refine ZN gn rfl rfl ?_; refine Q5 ?_; refine Qa rfl (fun hb => ?_) fun hb => ?_
  · skip
    generalize YI (vw T) rec st i 0 = st2 at E S ⊢; have hn2 : st2.scopes.length = j + 1 := by rw [← E.rsn]; omega
    have h1b : st2.scopes[j]? = some (st2.scopes[j]'(by omega)) := List.getElem?_eq_getElem _; have h4 := Q77 _ _ _ _ _ h1b h2; rw [← E.sp] at h4; have ek := QdL (F := [_, _, _, _, _, _, _, _, _, _, _, _, _, _, _]) S h4; refine Q7 (by kernel_rfl) ?_; refine Q0 (off := 0) gn rfl rfl (by kernel_rfl) ?_; refine Q6 gn rfl rfl (by kernel_rfl) (by exact S.cel 0 rfl) rfl ?_; refine Q0 (off := 1) gn rfl rfl (by kernel_rfl) ?_; refine Q6 gn rfl rfl (by kernel_rfl) (by exact S.cel 1 rfl) rfl ?_; refine Q4 gn rfl rfl ?_; obtain ⟨M2, cl2, S, hF2⟩ := Q41 S _ ek; refine Kb _ S Qan gn rfl rfl rfl (Q4L ek) (fun g S => ag0) fun g S => ?_; have S := Jj S _ (Q4L (Q4L ek)) (Qe7 hF2 s0 i)
    simp only [List.set_set] at S; refine Q5 ?_; refine ⟨.inr rfl, _, rfl, ?_⟩; exact QZ (A := [_, _]) (st := { st2 with scopes := setLast st2.scopes s0 i }) (w := { w with sp := w.sp.set j (mpR Value.string iV r (Nam.put (st2.scopes[j]'(by omega)).loc s0 i)) }) (tail_S (F := [_, _, _, _, _, _, _, _, _, _, _, _, _, _, _]) S rfl (List.getElem?_eq_some_iff.1 h4).1) (E.loc hn2 h1b h2 s0 i)
  exact absurd hb (by decide)
end
end Go.Proofs.YtkidomfnmpnmaaaGreatDoor
namespace Go.Proofs.YtkidomfnmpnmaaaGreatDoor
open Go.X Go.Nam
structure Pow (h : Hp) : Prop where
  t : QT 0 (Lib.pow10Tab.map (Value.int .u64)) h = true
  lt : 0 < h.n
theorem Pow.ext {h h' : Hp} (x : Pow h) (g : Ext h h') : Pow h' := ⟨by
  have := x.t; unfold QT at *
  rw [g.get 0 x.lt]; exact this, Nat.lt_of_lt_of_le x.lt g.n⟩
theorem fmt_at {h : Hp} (p : Pow h) {n : Int} (h0 : -9223372036854775808 ≤ n) (h1 : n ≤ 9223372036854775807) : Qfq 0 [.int .i64 n, .int .i64 10] h = some (.string (Q0p n), h) := by
  simp only [Qfq, p.t, Bool.true_and, decide_true, decide_eq_true h0, decide_eq_true h1]; rfl
theorem Qet {h : Hp} (p : Pow h) {n : Int} (h0 : -9223372036854775808 ≤ n) (h1 : n ≤ 9223372036854775807) : Q8w 0 [.int .i64 n] h = some (.string (Q0p n), h) := by
  simp only [Q8w, p.t, Bool.true_and, decide_eq_true h0, decide_eq_true h1]; rfl
def PrT (h : Hp) (v : Value) (T : List Tw) (P : Tw → Bool) : Prop := ∃ f cap, v = .func (.func f) #[] cap ∧ ZT nmE f = true ∧ ∀ h', Ext h h' → ∀ t, t ∈ T → RowV h' t.ks (isV t.kids) → C nmE f ((#[] : Array Value).toList ++ [t.val] ++ cap.toList) h' fun v h'' => v = .bool (P t) ∧ Ext h' h''
def KeyV (h : Hp) (v : Value) (T : List Tw) (key : Tw → Txt) : Prop := ∃ f cap, v = .func (.func f) #[] cap ∧ ZT nmE f = true ∧ ∀ h', Ext h h' → ∀ t, t ∈ T → RowV h' t.ks (isV t.kids) → C nmE f ((#[] : Array Value).toList ++ [t.val] ++ cap.toList) h' fun v h'' => v = .string (key t) ∧ Ext h' h''
section
variable {h : Hp} {K N L Co : Int} {s : ByteArray} {ks : Value} {kids : List Int}
theorem n46 : C nmE 46 [iV K] h fun v h' => v = .bool (ZP K) ∧ Ext h h' := by
  refine Qf (fu := Tryz.f46) (by kernel_rfl) rfl ?_; have S := SH.start h; refine Qd ?_; refine Q3 gn rfl rfl ?_; refine ZC ?_; refine Qn (cs := (isV [2, 3, 6, 7, 8, 10]).toArray) (e := 39) (z := 0) (zv := .int .i64 0) [(0, _), (1, _), (2, _), (3, _), (4, _), (5, _)] S gn rfl (by kernel_rfl) (by kernel_rfl) (by kernel_rfl) (by kernel_rfl) rfl (by kernel_rfl) fun b1 g nb1 S => ?_; refine Q4 gn rfl rfl ?_; refine Qb [_, _] gn rfl rfl (by kernel_rfl) rfl (C.mono (c61 (ks := [2, 3, 6, 7, 8, 10]) (RowV.of (S.cel 0 rfl) (S.lt1 0 rfl) rfl) (by decide)) ?_); rintro v g ⟨rfl, x⟩; have S := S.grow x; refine ⟨ag0, ?_⟩; refine Q3 gn rfl rfl ?_; refine Q5 ?_; refine Qc ?_; refine ⟨.inl rfl, _, rfl, ?_⟩
  exact ⟨by simp [ZP]; rfl, S.e0⟩
theorem n49 : C nmE 49 [iV K] h fun v h' => v = .bool (Q2g K) ∧ Ext h h' := by
  refine Qf (fu := Tryz.f49) (by kernel_rfl) rfl ?_; have S := SH.start h; refine Qd ?_; refine Q3 gn rfl rfl ?_; refine ZC ?_; refine Qn (cs := (isV [7, 9, 10, 11, 36]).toArray) (e := 39) (z := 0) (zv := .int .i64 0) [(0, _), (1, _), (2, _), (3, _), (4, _)] S gn rfl (by kernel_rfl) (by kernel_rfl) (by kernel_rfl) (by kernel_rfl) rfl (by kernel_rfl) fun b1 g nb1 S => ?_; refine Q4 gn rfl rfl ?_; refine Qb [_, _] gn rfl rfl (by kernel_rfl) rfl (C.mono (c61 (ks := [7, 9, 10, 11, 36]) (RowV.of (S.cel 0 rfl) (S.lt1 0 rfl) rfl) (by decide)) ?_); rintro v g ⟨rfl, x⟩; have S := S.grow x; refine ⟨ag0, ?_⟩; refine Q3 gn rfl rfl ?_; refine Q5 ?_; refine Qc ?_; refine ⟨.inl rfl, _, rfl, ?_⟩
  exact ⟨by simp [Q2g]; rfl, S.e0⟩
theorem n83 (R : RowV h ks (isV kids)) : C nmE 83 [twV K s N L Co ks] h fun v h' => v = .string s ∧ Ext h h' := by
  obtain ⟨a, c, rfl⟩ := R.valM; refine Qf (fu := Tryz.f83) (by kernel_rfl) rfl ?_; have S := SH.start h; refine Qd ?_; refine Yu S gn rfl rfl fun b1 g nb1 S => ?_; refine Q3 gn rfl rfl ?_; refine ZC ?_; refine Q0 (off := 1) gn rfl rfl (by kernel_rfl) ?_; refine Q6 gn rfl rfl (by kernel_rfl) (by exact S.cel 0 rfl) rfl ?_; refine Q3 gn rfl rfl ?_; refine Q5 ?_; refine Qc ?_; refine ⟨.inl rfl, _, rfl, ?_⟩; exact ⟨rfl, S.e0⟩
theorem n85 (B : Pow h) (R : RowV h ks (isV kids)) (h0 : -9223372036854775808 ≤ N) (h1 : N ≤ 9223372036854775807) : C nmE 85 [twV K s N L Co ks] h fun v h' => v = .string (Q0p N) ∧ Ext h h' := by
  obtain ⟨a, c, rfl⟩ := R.valM; refine Qf (fu := Tryz.f85) (by kernel_rfl) rfl ?_; have S := SH.start h; refine Qd ?_; refine Yu S gn rfl rfl fun b1 g nb1 S => ?_; refine Q3 gn rfl rfl ?_; refine ZC ?_; refine Q0 (off := 2) gn rfl rfl (by kernel_rfl) ?_; refine Q6 gn rfl rfl (by kernel_rfl) (by exact S.cel 0 rfl) rfl ?_; refine Qda [_, _] gn rfl rfl (by kernel_rfl) (by kernel_rfl) sm86 rfl (fmt_at (n := N) (B.ext S.e0) h0 h1) (.refl _) ag0 ?_; refine Q3 gn rfl rfl ?_; refine Q5 ?_; refine Qc ?_; refine ⟨.inl rfl, _, rfl, ?_⟩; exact ⟨rfl, S.e0⟩
theorem n81 {q m : Nat} {cs : List Value} {s2 : ByteArray} (hq : h.get q = some (.cells cs 41 m)) (hlt : q < h.n) (hs : cs[0 + 1]? = some (.string s2)) (R : RowV h ks (isV kids)) : C nmE 81 [twV K s N L Co ks, ZB q] h fun v h' => v = .bool (decide (s = s2) && ZP K) ∧ Ext h h' := by
  obtain ⟨a, c, rfl⟩ := R.valM; refine Qf (fu := Tryz.f81) (by kernel_rfl) rfl ?_; have S := SH.start h; refine Qd ?_; refine Yu S gn rfl rfl fun b1 g nb1 S => ?_; refine Q3 gn rfl rfl ?_; refine ZC ?_; refine Q0 (off := 1) gn rfl rfl (by kernel_rfl) ?_; refine Q6 gn rfl rfl (by kernel_rfl) (by exact S.cel 0 rfl) rfl ?_; refine Q0 (off := 1) gn rfl rfl (by kernel_rfl) ?_; refine Q6 gn rfl rfl (by kernel_rfl) (S.old0 hq hlt) hs ?_; refine Yx gn rfl rfl rfl ?_; refine Q4 gn rfl rfl ?_; refine QS (dc := 9) rfl (fun hb9 => ?_) fun hb9 => ?_
  · skip
    refine Q0 (off := 0) (gy rfl rfl rfl hb9) rfl rfl (by kernel_rfl) ?_; refine Q6 (gy rfl rfl rfl hb9) rfl rfl (by kernel_rfl) (by exact S.cel 0 rfl) rfl ?_; refine Qb [_] (gy rfl rfl rfl hb9) rfl rfl (by kernel_rfl) rfl (C.mono n46 ?_); rintro v g ⟨rfl, x⟩; have S := S.grow x; refine ⟨ag0, ?_⟩; refine Z8 gn rfl rfl hb9 rfl ?_; refine Q3 gn rfl rfl ?_; refine Q5 ?_; refine Qc ?_; refine ⟨.inl rfl, _, rfl, ?_⟩; exact ⟨by rw [Q4e] at hb9; show Value.bool _ = Value.bool _; rw [hb9, Bool.true_and], S.e0⟩
  refine Z1 (n := 3) (dc := 9) (w := true) rfl hb9 rfl ?_; refine Zg gn rfl rfl hb9 rfl ?_; refine Q3 gn rfl rfl ?_; refine Q5 ?_; refine Qc ?_; refine ⟨.inl rfl, _, rfl, ?_⟩; exact ⟨by rw [Q4e] at hb9; show Value.bool _ = Value.bool _; rw [hb9, Bool.false_and], S.e0⟩
end
section
variable {h : Hp} {v fv : Value} {T : List Tw} {P : Tw → Bool}
theorem n50 (X : TreeAt h v T) (p : PrT h fv T P) (hl : T.length ≤ 1000) : C nmE 50 [v, fv] h fun v h' => (∃ r, v = iV r ∧ ((r = -1 ∧ ∀ (i : Nat) t, T[i]? = some t → P t = false) ∨ ∃ j : Nat, r = j ∧ (∃ t, T[j]? = some t ∧ P t = true) ∧ ∀ (i : Nat) t, i < j → T[i]? = some t → P t = false)) ∧ Ext h h' := by
  obtain ⟨ta, tc, rfl⟩ := X.val; have p' := p; obtain ⟨f, cap, rfl, hf, hc⟩ := p; refine Qf (fu := Tryz.f50) (by kernel_rfl) rfl ?_; have S := SH.start h; refine Qd ?_; refine Q3 gn rfl rfl ?_; refine J0 ?_; refine Q4 gn rfl rfl ?_; refine QJ gn rfl rfl (by kernel_rfl) ?_; refine Q4 gn rfl rfl ?_; refine Q5 ?_; refine Qh ?_; refine QV [(8, _)] [(0, _), (1, _), (7, _)] (by repeat (first | exact trivial | refine ⟨rfl, ?_⟩)) (fun kk lv hh => ∃ j : Nat, lv = [(8, iV j)] ∧ kk = T.length - j ∧ j ≤ T.length ∧ SH h [] [] hh ∧ ∀ (i : Nat) t, i < j → T[i]? = some t → P t = false) (n := (T.length)) ?_ fun kk lv hh hI => ?_
  · exact ⟨0, rfl, rfl, by omega, S, fun i _ hi => by omega⟩
  obtain ⟨j, rfl, hk, hj, S, hs⟩ := hI; refine Qd ?_; refine Zo gn rfl rfl rfl ?_; refine Q5 ?_; refine Qk ?_; refine Qa rfl (fun hb => ?_) fun hb => ?_
  · skip
    refine Qe ?_; have hj : j < T.length := by simp at hb; omega
    obtain ⟨t0, b, o', cs, ee, m, hw0, Q⟩ := JU X hj; obtain rfl := Q.ta; obtain ⟨ka, kc, hks⟩ := Q.row.valM; refine Qk ?_; refine Qh ?_; refine Qd ?_; refine Q4 gn rfl rfl ?_; refine Q3 gn rfl rfl ?_; refine ZC ?_; refine Q4 gn rfl rfl ?_; refine Q4 gn rfl rfl ?_; refine Q4 gn rfl rfl ?_; refine Q8 (zz := 6) gn rfl rfl rfl (by kernel_rfl) (by omega) (by omega) ?_; refine Qs (n := 6) gn rfl rfl (by kernel_rfl) (by kernel_rfl) (S.old0 Q.g Q.lt) Q.len ?_; rw [Q.all]; refine Qb [_] gn rfl rfl hf rfl (C.mono (hc _ S.e0 t0 (List.mem_of_getElem? hw0) (Q.row.ext S.e0)) ?_); rintro v g ⟨rfl, x⟩; have S := S.grow x; refine ⟨ag0, ?_⟩; refine Q5 ?_; refine Qa rfl (fun hb => ?_) fun hb => ?_
    · skip
      refine Qd ?_; refine Q4 gn rfl rfl ?_; refine Q3 gn rfl rfl ?_; refine Q5 ?_; refine Qc ?_; refine ⟨.inl rfl, _, rfl, ?_⟩; exact ⟨⟨j, rfl, .inr ⟨j, rfl, ⟨t0, hw0, hb⟩, hs⟩⟩, S.e0⟩
    refine Qe ?_; refine Q7 (by kernel_rfl) ?_; refine QU gn rfl rfl rfl (by omega) (by omega) ?_; refine Q4 gn rfl rfl ?_; refine Q5 ?_
    exact KL (T.length - (j + 1)) (by omega) [(8, _)] (by repeat (first | exact trivial | refine ⟨rfl, ?_⟩)) ⟨j + 1, rfl, rfl, by omega, S, fun i t hi ht => by
      have hPj : P t0 = false := hb; by_cases e : i = j
      · subst e; rw [hw0] at ht; cases ht; exact hPj
      exact hs i t (by omega) ht⟩
  refine Zb ?_; refine Qx ?_; refine Qz ?_; refine Za ?_; refine Qd ?_; refine Q3 gn rfl rfl ?_; refine Q5 ?_; refine Qc ?_; refine ⟨.inl rfl, _, rfl, ?_⟩; exact ⟨⟨-1, rfl, .inl ⟨rfl, fun i t ht => hs i t (by have := (List.getElem?_eq_some_iff.1 ht).1; simp at hb; omega) ht⟩⟩, S.e0⟩
theorem n19 (X : TreeAt h v T) (p : PrT h fv T P) (hl : T.length ≤ 1000) : C nmE 19 [v, fv] h fun v h' => v = .bool (T.any P) ∧ Ext h h' := by
  refine Qf (fu := Tryz.f19) (by kernel_rfl) rfl ?_; have S := SH.start h; refine Qd ?_; refine Q3 gn rfl rfl ?_; refine ZC ?_; refine Q4 gn rfl rfl ?_; refine Q4 gn rfl rfl ?_; refine Qb [_, _] gn rfl rfl (by kernel_rfl) rfl (C.mono (n50 X p hl) ?_); rintro v g ⟨⟨r, rfl, hr⟩, x⟩; have S := S.grow x; refine ⟨ag0, ?_⟩; refine Yw gn rfl rfl rfl ?_; refine Q3 gn rfl rfl ?_; refine Q5 ?_; refine Qc ?_; refine ⟨.inl rfl, _, rfl, ?_⟩
  exact ⟨by
    have e : decide (0 ≤ r) = T.any P := by
      rw [Bool.eq_iff_iff, decide_eq_true_eq, List.any_eq_true]; rcases hr with ⟨rfl, h1⟩ | ⟨j, rfl, ⟨t, h2, h3⟩, _⟩
      · refine ⟨fun h => by omega, fun ⟨t, ht, hP⟩ => ?_⟩; obtain ⟨i, hi, rfl⟩ := List.mem_iff_getElem.1 ht; rw [h1 i _ (List.getElem?_eq_getElem hi)] at hP; cases hP
      exact ⟨fun _ => ⟨t, List.mem_of_getElem? h2, h3⟩, fun _ => by omega⟩
    rw [← e]; rfl, S.e0⟩
theorem n20 {K N L Co : Int} {s : ByteArray} {ks : Value} {kids : List Int} (R : RowV h ks (isV kids)) : C nmE 20 [twV K s N L Co ks] h fun v h' => v = .bool (decide (K = 11)) ∧ Ext h h' := by
  obtain ⟨a, c, rfl⟩ := R.valM; refine Qf (fu := Tryz.f20) (by kernel_rfl) rfl ?_; have S := SH.start h; refine Qd ?_; refine Yu S gn rfl rfl fun b1 g nb1 S => ?_; refine Q3 gn rfl rfl ?_; refine ZC ?_; refine Q0 (off := 0) gn rfl rfl (by kernel_rfl) ?_; refine Q6 gn rfl rfl (by kernel_rfl) (by exact S.cel 0 rfl) rfl ?_; refine Qr gn rfl rfl rfl ?_; refine Q3 gn rfl rfl ?_; refine Q5 ?_; refine Qc ?_; refine ⟨.inl rfl, _, rfl, ?_⟩; exact ⟨rfl, S.e0⟩
end
end Go.Proofs.YtkidomfnmpnmaaaGreatDoor
namespace Go.Proofs.YtkidomfnmpnmaaaGreatDoor
open Go.X Go.Nam
def Q84 (b : Bool) : Value := .agg #[.bool b]
def Q68 (sn : List Txt) (t : Txt) : Option Bool := if Q12 sn t = true then some true else none
theorem QdQ (sn : List Txt) (t : Txt) : ((Q68 sn t).map Q84).getD (.agg #[.bool false]) = .agg #[.bool (Q12 sn t)] := by
  unfold Q68; cases Q12 sn t <;> rfl
theorem Q76 {M : MsK Txt} {cl : Nat} {sn : List Txt} (hF : ∀ k, Q0s M k = (Q68 sn k).map Q84) (t : Txt) : ∀ k, Q0s (Q8L M t (.agg #[.bool true]) cl).1 k = (Q68 (t :: sn) k).map Q84 := fun k => by
  rw [Q49, hF]; have e : Q12 (t :: sn) k = (decide (t = k) || Q12 sn k) := rfl; unfold Q68; rw [e]; by_cases h : k = t
  · subst h; simp [Q84]
  rw [if_neg h, decide_eq_false (fun e => h e.symm), Bool.false_or]
theorem Qam : KeyT nmE 145 9 146 Value.string := Q7B (by kernel_rfl) (by kernel_rfl)
section
variable {h0 hE : Hp} {bs rs : List Nat} {rb : Nat} {sv : Value} {st : Nst} {T : List Tw} {i : Nat} {rec : Nst → Int → Nst} {k p n w0 : Nat} {o : Int} {sow : List Int} {bl : List (Nat × Nat)}
set_option maxHeartbeats 1000000 in
theorem n82 {fr : Nat} {fv : Value} {key : Tw → Txt} {Qak : Int → Txt} (S0 : SH h0 [] [rsR rb sv st rs bs] hE) (R : Tre h0 sv T) (hi : i < T.length) (hC : Q8N h0 rb sv T rec k) (hr : KC (vw T) rec k) (hkey : KeyV h0 fv T key) (hki : ∀ (j : Nat) t, T[j]? = some t → Qak j = key t) (F : FoldAt (vw T) k (((vw T).ks i).drop fr) bl n o sow st 0 p w0) (hf : fr ≤ ((vw T).ks i).length) (hp : p ≤ (vw T).n) :
    C nmE 82 [ZB rb, iV i, iV fr, fv] hE fun _ g' => ∃ bs', SH hE bs [rsR rb sv (JJ (vw T) rec Qak (((vw T).ks i).drop fr) [] st) rs bs'] g' := by
  have X := R.X; obtain ⟨ta, tc, rfl⟩ := X.val; obtain ⟨t0, b, o', cs, ee, m, hw0, Q⟩ := JU X hi; obtain rfl := Q.ta; obtain ⟨kf, kcap, rfl, hkf, hkc⟩ := hkey; have hlen := F.len hp; have hPn := R.P.n; rw [Q.ks] at F hf hlen ⊢; obtain ⟨sl, hslr, hsl⟩ := Q9l el29 (R.G t0 (List.mem_of_getElem? hw0)) (show fr ≤ (isV t0.kids).length by rw [List.length_map]; exact hf); rw [show (isV t0.kids).drop fr = isV (t0.kids.drop fr) from List.map_drop.symm] at hslr; generalize t0.kids.drop fr = l at F hslr hlen ⊢; obtain ⟨sa, sc, rfl⟩ := hslr.valM; refine Qf (fu := Tryz.f82) (by kernel_rfl) rfl ?_; have S := S0.enter; obtain ⟨w, E, ho, S⟩ := Qo (A := []) S; simp only [List.nil_append] at S; refine Qd ?_
  refine Q2a S gn rfl fun b1 g nb1 S => ?_; refine Q3 gn rfl rfl ?_; refine ZC ?_; refine Q4 gn rfl rfl ?_; refine Q9 gn rfl rfl ?_; refine Q0 (off := 0) gn rfl rfl (by kernel_rfl) ?_; refine Q0 (off := 0) gn rfl rfl (by kernel_rfl) ?_; refine Q6 gn rfl rfl (by kernel_rfl) (by exact S.cel 1 rfl) rfl ?_; refine Q4 gn rfl rfl ?_; refine Q8 (zz := 6) gn rfl rfl rfl (by kernel_rfl) (by omega) (by omega) ?_; refine Q0 (off := 5) gn rfl rfl (by kernel_rfl) ?_; refine Q6 gn rfl rfl (by kernel_rfl) (S0.two S0.own0 S Q.g Q.lt) (Q.at 5 (by decide) rfl) ?_; refine Q4 gn rfl rfl ?_; refine Q3X gn rfl rfl rfl (hsl _ (S0.all0 S0.own0 S)) ?_; refine QJ gn rfl rfl (by kernel_rfl) ?_; refine Q4 gn rfl rfl ?_
  refine Q5 ?_; have S := Jj (key := Value.string) (enc := Q84) (F := Q68 []) (M := []) (cl := 0) S 0 rfl (fun _ => rfl); simp only [List.set_cons_zero] at S; refine Qh ?_; refine QV [(25, _)] [(0, _), (3, _), (8, _), (23, _), (24, _)] (by repeat (first | exact trivial | refine ⟨rfl, ?_⟩)) (fun kk lv hh => ∃ (j : Nat) (bs1 : List Nat) (p1 w1 : Nat) (st1 : Nst) (sn : List Txt), lv = [(25, iV j)] ∧ kk = l.length - j ∧ j ≤ l.length ∧ SH hE bs [mpR Value.string Q84 b1 (Q68 sn), rsR rb (.slice (some ⟨b, o', none⟩) T.length tc) st1 rs bs1] hh ∧ FoldAt (vw T) k l bl n o sow st1 j p1 w1 ∧ JJ (vw T) rec Qak (l.drop j) sn st1 = JJ (vw T) rec Qak l [] st) (n := (l.length)) ?_ fun kk lv hh hI => ?_
  · exact ⟨0, _, p, w0, st, [], rfl, rfl, by omega, Qp (A := [_]) S E, F, rfl⟩
  obtain ⟨j, bs1, p1, w1, st1, sn, rfl, hkk, hj, S, F1, hon⟩ := hI; refine Qd ?_; refine Zo gn rfl rfl rfl ?_; refine Q5 ?_; refine Qk ?_; refine Qa rfl (fun hb => ?_) fun hb => ?_
  · skip
    refine Qe ?_; have hj : j < l.length := by simp at hb; omega
    obtain ⟨w, E, ho, S⟩ := Qo (A := [_]) S; simp only [List.cons_append, List.nil_append] at S; obtain ⟨kb, ko, kc', kcs, ke, km, hv2, hg2, hlt2, hat2⟩ := hslr.atM (by omega); obtain ⟨e1, hp1, _⟩ := F1.step hr hj _ _ (.inl rfl) F1.I (.refl _ _); have hp1 : p1 < T.length := hp1; obtain rfl : sa = some ⟨kb, ko, none⟩ := by injection hv2
    have hlj : l[j] = (p1 : Int) := by rw [List.getElem?_eq_getElem hj] at e1; exact Option.some.inj e1
    have hkid : kcs[ko + Int.toNat (j : Int) * 1]? = some (iV p1) := by
      rw [Int.toNat_natCast, Nat.mul_one, hat2 j hj, hlj]
    obtain ⟨t1, b', o1, cs1, ee1, m1, hw1, Q1⟩ := JU X hp1
    obtain ⟨rfl, rfl⟩ : b = b' ∧ o' = o1 := by
      have := Q1.ta; simp only [Option.some.injEq, Addr.mk.injEq, and_true] at this; exact this
    have hon2 : JJ (vw T) rec Qak (l.drop (j + 1)) (Qak p1 :: sn) (rec (if Q12 sn (Qak p1) = true then tell (vw T) st1 p1 7 else st1) p1) = JJ (vw T) rec Qak l [] st := by
      rw [← hon, List.drop_eq_getElem_cons hj, hlj]; rfl
    rw [hki p1 t1 hw1] at hon2; have hwr := F1.I.bw; have hbb := F1.b; refine Qk ?_; refine Qh ?_; refine Qd ?_; refine Q8 (zz := 1) gn rfl rfl rfl (by kernel_rfl) (by omega) (by omega) ?_; refine Q6 gn rfl rfl (by kernel_rfl) (S0.two S0.own0 S hg2 hlt2) hkid ?_; refine Q3 gn rfl rfl ?_; refine ZC ?_; refine Q4 gn rfl rfl ?_; refine Q4 gn rfl rfl ?_; refine Q9 gn rfl rfl ?_; refine Q0 (off := 0) gn rfl rfl (by kernel_rfl) ?_; refine Q0 (off := 0) gn rfl rfl (by kernel_rfl) ?_; refine Q6 gn rfl rfl (by kernel_rfl) (by exact S.cel 1 rfl) rfl ?_; refine Q4 gn rfl rfl ?_; refine Q8 (zz := 6) gn rfl rfl rfl (by kernel_rfl) (by omega) (by omega) ?_
    refine Qs (n := 6) gn rfl rfl (by kernel_rfl) (by kernel_rfl) (S0.two S0.own0 S Q1.g Q1.lt) Q1.len ?_; rw [Q1.all]; refine Qb [_] gn rfl rfl hkf rfl (C.mono (hkc _ (S0.all0 S0.own0 S) t1 (List.mem_of_getElem? hw1) (Q1.row.ext (S0.all0 S0.own0 S))) ?_); rintro v g ⟨rfl, x⟩; have S := S.grow x; refine ⟨ag0, ?_⟩; refine Q3 gn rfl rfl ?_; refine J0 ?_; refine Q4 gn rfl rfl ?_; refine Q4 gn rfl rfl ?_; obtain ⟨M, cl, hM, hF⟩ := Q35 S 0 rfl; refine Q2i (zv := .agg #[.bool false]) Qam gn rfl rfl rfl hM (by kernel_rfl) ?_; rw [hF, QdQ]; refine Q9R (v := .bool (Q12 sn (key t1))) gn rfl rfl (by kernel_rfl) ?_; refine Q5 ?_; refine Qa rfl (fun hb => ?_) fun hb => ?_
    · skip
      refine Q7 (by kernel_rfl) ?_; refine Q4 gn rfl rfl ?_; refine Q4 gn rfl rfl ?_; have S := Qp (A := [_]) S E; refine Qb [_, _, _] gn rfl rfl (by kernel_rfl) rfl (C.mono (n21 (S0.sub1 S0.own0 S 1 rfl) X hp1 (by omega)) ?_); rintro v g ⟨bs', S2⟩; have S := S.ret 1 rfl S2; simp only [List.cons_append, List.nil_append, List.set_cons_succ, List.set_cons_zero] at S; obtain ⟨w, E, ho, S⟩ := Qo (A := [_]) S; simp only [List.cons_append, List.nil_append] at S; refine ⟨ag0, ?_⟩; refine ZC ?_; refine Q4 gn rfl rfl ?_; refine Q4 gn rfl rfl ?_; refine Yf (cs := #[.bool true]) (zv := .agg #[.bool false]) (pl := [(0, 1)]) [(0, _)] gn rfl (by kernel_rfl) (by kernel_rfl) rfl (by kernel_rfl) ?_
      obtain ⟨M2, cl2, S, hF2⟩ := Q41 S 0 rfl; simp only [List.set_cons_zero] at S; refine Kb 0 S Qam gn rfl rfl rfl rfl (fun g S => ag0) fun g S => ?_; simp only [List.set_cons_zero] at S; have S := Jj S 0 rfl (Q76 hF2 (key t1)); simp only [List.set_cons_zero] at S; rw [if_pos hb] at hon2; obtain ⟨_, _, q, hsub, hat, hb2, F2⟩ := F1.step hr hj _ _ (.inr rfl) (F1.I.tell p1 7) (YW p1 7); refine Q5 ?_; refine Q7 (by kernel_rfl) ?_; refine Q4 gn rfl rfl ?_; refine Q4 gn rfl rfl ?_; have S := Qp (A := [_]) S E; refine Qb [_, _] gn rfl rfl (by kernel_rfl) rfl (C.mono (hC p1 q _ bl (w1 + 1) _ _ _ hsub hat hb2 (S0.sub1 S0.own0 S 1 rfl)) ?_); rintro v g ⟨bs', S2⟩; have S := S.ret 1 rfl S2
      simp only [List.cons_append, List.nil_append, List.set_cons_succ, List.set_cons_zero] at S; obtain ⟨w, E, ho, S⟩ := Qo (A := [_]) S; simp only [List.cons_append, List.nil_append] at S; refine ⟨ag0, ?_⟩; refine Q5 ?_; refine Q7 (by kernel_rfl) ?_; refine QU gn rfl rfl rfl (by omega) (by omega) ?_; refine Q4 gn rfl rfl ?_; refine Q5 ?_; exact KL (l.length - (j + 1)) (by omega) [(25, _)] (by repeat (first | exact trivial | refine ⟨rfl, ?_⟩)) ⟨j + 1, _, q, _, _, key t1 :: sn, rfl, rfl, by omega, Qp (A := [_]) S E, F2, hon2⟩
    refine Qe ?_; refine Qd ?_; refine Q4 gn rfl rfl ?_; refine Q4 gn rfl rfl ?_; refine Yf (cs := #[.bool true]) (zv := .agg #[.bool false]) (pl := [(0, 1)]) [(0, _)] gn rfl (by kernel_rfl) (by kernel_rfl) rfl (by kernel_rfl) ?_; obtain ⟨M2, cl2, S, hF2⟩ := Q41 S 0 rfl; simp only [List.set_cons_zero] at S; refine Kb 0 S Qam gn rfl rfl rfl rfl (fun g S => ag0) fun g S => ?_; simp only [List.set_cons_zero] at S; have S := Jj S 0 rfl (Q76 hF2 (key t1)); simp only [List.set_cons_zero] at S; rw [if_neg (by simpa using hb)] at hon2; obtain ⟨_, _, q, hsub, hat, hb2, F2⟩ := F1.step hr hj _ _ (.inl rfl) F1.I (.refl _ _); refine Q5 ?_; refine Q7 (by kernel_rfl) ?_; refine Q4 gn rfl rfl ?_
    refine Q4 gn rfl rfl ?_; have S := Qp (A := [_]) S E; refine Qb [_, _] gn rfl rfl (by kernel_rfl) rfl (C.mono (hC p1 q _ bl w1 _ _ _ hsub hat hb2 (S0.sub1 S0.own0 S 1 rfl)) ?_); rintro v g ⟨bs', S2⟩; have S := S.ret 1 rfl S2; simp only [List.cons_append, List.nil_append, List.set_cons_succ, List.set_cons_zero] at S; obtain ⟨w, E, ho, S⟩ := Qo (A := [_]) S; simp only [List.cons_append, List.nil_append] at S; refine ⟨ag0, ?_⟩; refine Q5 ?_; refine Q7 (by kernel_rfl) ?_; refine QU gn rfl rfl rfl (by omega) (by omega) ?_; refine Q4 gn rfl rfl ?_; refine Q5 ?_
    exact KL (l.length - (j + 1)) (by omega) [(25, _)] (by repeat (first | exact trivial | refine ⟨rfl, ?_⟩)) ⟨j + 1, _, q, _, _, key t1 :: sn, rfl, rfl, by omega, Qp (A := [_]) S E, F2, hon2⟩
  refine Zb ?_; refine Qx ?_; refine Qz ?_; refine Za ?_; refine ⟨.inr rfl, _, rfl, ?_⟩
  exact by
    have hjl : j = l.length := by simp at hb; omega
    subst hjl; rw [List.drop_length] at hon; rw [← hon]; exact ⟨bs1, S.pick 1 rfl⟩
end
end Go.Proofs.YtkidomfnmpnmaaaGreatDoor
