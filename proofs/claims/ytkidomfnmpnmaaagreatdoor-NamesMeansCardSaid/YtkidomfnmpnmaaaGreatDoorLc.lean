/- Chapter 4: forms and letters say the same of a twig (plain; printed by genN1.py). Chapter 4: may a tree be, as the document has it. Conditions: none on memory. Chapter 4: much; whose kid a twig is: as the document has it, as the program has it. Conditions: at most 1000 twigs, rows of kids no longer than Go's rows are. Chapter 4: the resolver, as it lies: its cells, rows, maps, taken together as one piece. Conditions: none. Chapter 4: a twig looked at; what is wrong told; numbers looked for. Conditions: the tree lies in the old memory; the resolver is one's own. Chapter 4: what is meant laid down; kids gone over. Conditions: the tree lies in the old memory; the resolver is one's own. Chapter 4: kids gone over, one after the other. Conditions: the tree lies in the old memory; the resolver is one's own; what twigs come to is known for those below. Chapter 4: the resolver's rows, longer and shorter by one. Conditions: none. Chapter 4: functions and blocks gone over. Conditions: the tree lies in the old memory; the resolver is one's own; what twigs come to is known for those below. Chapter 4: locals; what names loopers, events, classes. Conditions: the tree lies in the old memory; the resolver is one's own; what twigs come to is known for those below. Chapter 4: a local's declaration. Conditions: the tree lies in the old memory; the resolver is one's own; what twigs come to is known for those below. Chapter 4: kinds that have names, that open functions; twigs looked for; keys of twigs. Conditions: the tables; the tree lies in the old memory. Chapter 4: kids that are there once each. Conditions: the tree lies in the old memory; the resolver is one's own; what twigs come to is known for those below. -/
import Derived.Test.YtkidomfnmpnmaaaGreatDoorLb
import Derived.Test.YtkidomfnmpnmaaaGreatDoorLa
import Derived.Test.YtkidomfnmpnmaaaGreatDoorXe
import Derived.Test.YtkidomfnmpnmaaaGreatDoorXd
namespace Go.Proofs.YtkidomfnmpnmaaaGreatDoor
open Go.X
theorem Q77 {tail : List UInt8} : ∀ (Ls : List UInt8) (ks : List Int), Ls.all (fun a => decide (a.toNat ≠ 42) && decide (a.toNat ≠ 63)) = true → QD (Ls ++ tail) ks = (Qx (Ls.map fun a k => Kf k (a.toNat : Nat)) ks && QD tail (ks.drop Ls.length))
  | [], ks, _ => by simp [Qx]
  | a :: Ls, ks, h => by
    simp only [List.all_cons, Bool.and_eq_true, decide_eq_true_eq] at h; obtain ⟨⟨h1, h2⟩, h3⟩ := h; cases ks with
    | nil => rw [List.cons_append, Q4W h1 h2]; simp [Qx]
    | cons k ks =>
      rw [List.cons_append, Q0K h1 h2, Q77 Ls ks h3]; simp [Qx, Bool.and_assoc]
theorem QbT : ∀ (l : List (Int → Bool)) (ks : List Int), (decide (l.length ≤ ks.length) && Qx l ks) = Qx l ks := by
  intro l ks; cases h : Qx l ks with
  | false => simp
  | true => simp [(Jz.1 h).1]
theorem Q88 (F : FS) (s : ByteArray) (N : Int) (ks : List Int) : Q0Q F s N ks = (KS F.text s && (decide (F.least ≤ N) && decide (N ≤ F.most)) && (Qx F.kids ks && YX F (ks.drop F.kids.length))) := by
  unfold Q0Q Q16; rw [← QbT F.kids ks]; simp only [Bool.and_assoc]
  congr 1; congr 1; congr 1
  cases decide (F.kids.length ≤ ks.length) <;> simp
theorem Qy {K N : Int} {s : ByteArray} {ks : List Int} (F : FS) (Ls tail : List UInt8) (hF : YP formT K = some F) (hT : KS F.text s = Z4 K s) (hN : (decide (F.least ≤ N) && decide (N ≤ F.most)) = Yr K N) (hL : (Qh K).toList = Ls ++ tail)
    (hp : Ls.all (fun a => decide (a.toNat ≠ 42) && decide (a.toNat ≠ 63)) = true) (hK : F.kids = Ls.map fun a k => Kf k (a.toNat : Nat)) (ht : ∀ r, YX F r = QD tail r) : Ql K s N ks = (Z4 K s && Yr K N && QD (Qh K).toList ks) := by
  have e : F.kids.length = Ls.length := by rw [hK, List.length_map]
  rw [Ql, hF]; show Q0Q F s N ks = _; rw [Q88, hT, hN, hL, Q77 Ls ks hp, hK, List.length_map, ht]
theorem Qr {a : Option (ByteArray → Bool)} {b c : Int} {d : List (Int → Bool)} (r : List Int) : YX ⟨a, b, c, d, none, none⟩ r = QD [] r := by
  cases r <;> rfl
theorem Q7t (P : Int → Bool) : ∀ l : List Int, l.all P = (l.dropWhile P).isEmpty
  | [] => rfl
  | k :: l => by
    cases h : P k <;> simp [h, Q7t P l]
theorem Q06 {a : Option (ByteArray → Bool)} {b c : Int} {d : List (Int → Bool)} {P : Int → Bool} (x : UInt8) (h : P = fun k => Kf k (x.toNat : Nat)) (r : List Int) : YX ⟨a, b, c, d, none, some P⟩ r = QD [42, x] r := by
  subst h; show r.all _ = _; rw [Q7t, Q4V (by decide)]; rfl
theorem Q6R {a : Option (ByteArray → Bool)} {b c : Int} {d : List (Int → Bool)} {P : Int → Bool} (x : UInt8) (h : P = fun k => Kf k (x.toNat : Nat)) (r : List Int) : YX ⟨a, b, c, d, some P, none⟩ r = QD [63, x] r := by
  subst h; rw [Q78 (by decide)]
  match r with
  | [] => rfl
  | [k] =>
    show Kf k _ = QD [] (Ji x [k]); simp only [Ji]; cases h : Kf k ((x.toNat : Nat) : Int) <;> simp [QD]
  | k :: k2 :: r =>
    show false = QD [] (Ji x (k :: k2 :: r)); simp only [Ji]
    split <;> simp [QD]
theorem is_y : (Y4 [5] : Int → Bool) = fun k => Kf k (((121 : UInt8).toNat : Nat) : Int) := by funext k; simp [Kf, Y4]
theorem Qdy : (Y4 [12] : Int → Bool) = fun k => Kf k (((98 : UInt8).toNat : Nat) : Int) := by funext k; simp [Kf, Y4]
theorem is_u : (Y4 [29] : Int → Bool) = fun k => Kf k (((117 : UInt8).toNat : Nat) : Int) := by funext k; simp [Kf, Y4]
theorem Q6d : (Qw : Int → Bool) = fun k => Kf k (((101 : UInt8).toNat : Nat) : Int) := by funext k; simp [Kf]
theorem is_v : (Q4a : Int → Bool) = fun k => Kf k (((118 : UInt8).toNat : Nat) : Int) := by funext k; simp [Kf]
theorem is_s : (Q1J : Int → Bool) = fun k => Kf k (((115 : UInt8).toNat : Nat) : Int) := by funext k; simp [Kf]
theorem is_d : (Q0U : Int → Bool) = fun k => Kf k (((100 : UInt8).toNat : Nat) : Int) := by funext k; simp [Kf]
theorem is_m : (Y4 [4] : Int → Bool) = fun k => Kf k (((109 : UInt8).toNat : Nat) : Int) := by funext k; simp [Kf, Y4]
theorem is_l : (Y4 [9] : Int → Bool) = fun k => Kf k (((108 : UInt8).toNat : Nat) : Int) := by funext k; simp [Kf, Y4]
theorem Qde (s : ByteArray) : Q4c opL s = opS s := by simp [Q4c, opL, opS, Bool.or_assoc]
theorem QJ {s : ByteArray} {K : Int} (h : Z4 K s = eqS s ⟨#[]⟩) : KS none s = Z4 K s := by rw [h, Jf]; rfl
theorem Qv {K N : Int} (h : Yr K N = decide (N = 0)) : (decide ((0 : Int) ≤ N) && decide (N ≤ 0)) = Yr K N := by
  rw [h, Bool.eq_iff_iff]; simp only [Bool.and_eq_true, decide_eq_true_eq]; omega
section
variable {s : ByteArray} {N : Int} {ks : List Int}
theorem form_1 : Ql 1 s N ks = (Z4 1 s && Yr 1 N && QD (Qh 1).toList ks) :=
  Qy ⟨none, 0, 0, [], none, some (Q0U)⟩ [] [42, 100] rfl (QJ rfl) (Qv rfl) (by rw [ByteArray.toList_eq]; rfl) (by decide) rfl (Q06 100 is_d)
theorem form_2 : Ql 2 s N ks = (Z4 2 s && Yr 2 N && QD (Qh 2).toList ks) :=
  Qy ⟨some (Za), 0, 0, [], none, none⟩ [] [] rfl (rfl) (Qv rfl) (by rw [ByteArray.toList_eq]; rfl) (by decide) rfl Qr
theorem form_3 : Ql 3 s N ks = (Z4 3 s && Yr 3 N && QD (Qh 3).toList ks) :=
  Qy ⟨some (Za), 0, 0, [], none, some (Y4 [4])⟩ [] [42, 109] rfl (rfl) (Qv rfl) (by rw [ByteArray.toList_eq]; rfl) (by decide) rfl (Q06 109 is_m)
theorem form_4 : Ql 4 s N ks = (Z4 4 s && Yr 4 N && QD (Qh 4).toList ks) :=
  Qy ⟨some (Za), 0, 0, [Y4 [5]], none, none⟩ [121] [] rfl (rfl) (Qv rfl) (by rw [ByteArray.toList_eq]; rfl) (by decide) (by simp only [List.map_cons, List.map_nil, ← is_y]) Qr
theorem form_5 : Ql 5 s N ks = (Z4 5 s && Yr 5 N && QD (Qh 5).toList ks) :=
  Qy ⟨some (typS), 0, 0, [], none, none⟩ [] [] rfl (rfl) (Qv rfl) (by rw [ByteArray.toList_eq]; rfl) (by decide) rfl Qr
theorem form_6 : Ql 6 s N ks = (Z4 6 s && Yr 6 N && QD (Qh 6).toList ks) :=
  Qy ⟨some (Za), 0, 0, [Y4 [5]], none, none⟩ [121] [] rfl (rfl) (Qv rfl) (by rw [ByteArray.toList_eq]; rfl) (by decide) (by simp only [List.map_cons, List.map_nil, ← is_y]) Qr
theorem form_7 : Ql 7 s N ks = (Z4 7 s && Yr 7 N && QD (Qh 7).toList ks) :=
  Qy ⟨some (Za), 0, 0, [Y4 [12]], none, none⟩ [98] [] rfl (rfl) (Qv rfl) (by rw [ByteArray.toList_eq]; rfl) (by decide) (by simp only [List.map_cons, List.map_nil, ← Qdy]) Qr
theorem form_8 : Ql 8 s N ks = (Z4 8 s && Yr 8 N && QD (Qh 8).toList ks) :=
  Qy ⟨some (Za), 0, 0, [Y4 [29]], none, some (Y4 [9])⟩ [117] [42, 108] rfl (rfl) (Qv rfl) (by rw [ByteArray.toList_eq]; rfl) (by decide) (by simp only [List.map_cons, List.map_nil, ← is_u]) (Q06 108 is_l)
theorem form_9 : Ql 9 s N ks = (Z4 9 s && Yr 9 N && QD (Qh 9).toList ks) :=
  Qy ⟨none, 0, 3, [Y4 [12]], none, none⟩ [98] [] rfl (QJ rfl) rfl (by rw [ByteArray.toList_eq]; rfl) (by decide) (by simp only [List.map_cons, List.map_nil, ← Qdy]) Qr
theorem Qe9 : Ql 10 s N ks = (Z4 10 s && Yr 10 N && QD (Qh 10).toList ks) :=
  Qy ⟨some (Za), 0, 1, [Y4 [29], Y4 [12]], none, none⟩ [117, 98] [] rfl (rfl) (by rw [show Yr 10 N = (decide (N = 0) || decide (N = 1)) from rfl, Bool.eq_iff_iff]; simp only [Bool.and_eq_true, Bool.or_eq_true, decide_eq_true_eq]; omega) (by rw [ByteArray.toList_eq]; rfl) (by decide) (by simp only [List.map_cons, List.map_nil, ← is_u, ← Qdy]) Qr
theorem Qe8 : Ql 11 s N ks = (Z4 11 s && Yr 11 N && QD (Qh 11).toList ks) :=
  Qy ⟨none, 0, 0, [Y4 [12]], none, none⟩ [98] [] rfl (QJ rfl) (Qv rfl) (by rw [ByteArray.toList_eq]; rfl) (by decide) (by simp only [List.map_cons, List.map_nil, ← Qdy]) Qr
theorem Qe7 : Ql 12 s N ks = (Z4 12 s && Yr 12 N && QD (Qh 12).toList ks) :=
  Qy ⟨none, 0, 0, [], none, some (Q1J)⟩ [] [42, 115] rfl (QJ rfl) (Qv rfl) (by rw [ByteArray.toList_eq]; rfl) (by decide) rfl (Q06 115 is_s)
theorem Qe6 : Ql 13 s N ks = (Z4 13 s && Yr 13 N && QD (Qh 13).toList ks) :=
  Qy ⟨some (Za), 0, 0, [Y4 [5], Qw], none, none⟩ [121, 101] [] rfl (rfl) (Qv rfl) (by rw [ByteArray.toList_eq]; rfl) (by decide) (by simp only [List.map_cons, List.map_nil, ← is_y, ← Q6d]) Qr
theorem Qe5 : Ql 14 s N ks = (Z4 14 s && Yr 14 N && QD (Qh 14).toList ks) :=
  Qy ⟨none, 0, 0, [Q4a, Qw], none, none⟩ [118, 101] [] rfl (QJ rfl) (Qv rfl) (by rw [ByteArray.toList_eq]; rfl) (by decide) (by simp only [List.map_cons, List.map_nil, ← is_v, ← Q6d]) Qr
theorem Qe4 : Ql 15 s N ks = (Z4 15 s && Yr 15 N && QD (Qh 15).toList ks) :=
  Qy ⟨none, 0, 0, [Qw], none, none⟩ [101] [] rfl (QJ rfl) (Qv rfl) (by rw [ByteArray.toList_eq]; rfl) (by decide) (by simp only [List.map_cons, List.map_nil, ← Q6d]) Qr
theorem Qe3 : Ql 16 s N ks = (Z4 16 s && Yr 16 N && QD (Qh 16).toList ks) :=
  Qy ⟨none, 0, 0, [Qw], none, none⟩ [101] [] rfl (QJ rfl) (Qv rfl) (by rw [ByteArray.toList_eq]; rfl) (by decide) (by simp only [List.map_cons, List.map_nil, ← Q6d]) Qr
theorem Qe2 : Ql 17 s N ks = (Z4 17 s && Yr 17 N && QD (Qh 17).toList ks) :=
  Qy ⟨none, 0, 0, [Qw], none, none⟩ [101] [] rfl (QJ rfl) (Qv rfl) (by rw [ByteArray.toList_eq]; rfl) (by decide) (by simp only [List.map_cons, List.map_nil, ← Q6d]) Qr
theorem Qe1 : Ql 18 s N ks = (Z4 18 s && Yr 18 N && QD (Qh 18).toList ks) :=
  Qy ⟨none, 0, 0, [Qw], none, none⟩ [101] [] rfl (QJ rfl) (Qv rfl) (by rw [ByteArray.toList_eq]; rfl) (by decide) (by simp only [List.map_cons, List.map_nil, ← Q6d]) Qr
theorem Qe0 : Ql 19 s N ks = (Z4 19 s && Yr 19 N && QD (Qh 19).toList ks) :=
  Qy ⟨some (Za), -1, 2147483647, [Qw], some (Q4a), none⟩ [101] [63, 118] rfl (rfl) rfl (by rw [ByteArray.toList_eq]; rfl) (by decide) (by simp only [List.map_cons, List.map_nil, ← Q6d]) (Q6R 118 is_v)
theorem QdZ : Ql 20 s N ks = (Z4 20 s && Yr 20 N && QD (Qh 20).toList ks) :=
  Qy ⟨none, 0, 0, [Qw], some (Q4a), none⟩ [101] [63, 118] rfl (QJ rfl) (Qv rfl) (by rw [ByteArray.toList_eq]; rfl) (by decide) (by simp only [List.map_cons, List.map_nil, ← Q6d]) (Q6R 118 is_v)
theorem QdY : Ql 21 s N ks = (Z4 21 s && Yr 21 N && QD (Qh 21).toList ks) :=
  Qy ⟨some (Za), 0, 0, [], none, none⟩ [] [] rfl (rfl) (Qv rfl) (by rw [ByteArray.toList_eq]; rfl) (by decide) rfl Qr
theorem QdX : Ql 22 s N ks = (Z4 22 s && Yr 22 N && QD (Qh 22).toList ks) :=
  Qy ⟨some (Za), 0, 0, [], none, none⟩ [] [] rfl (rfl) (Qv rfl) (by rw [ByteArray.toList_eq]; rfl) (by decide) rfl Qr
theorem QdW : Ql 23 s N ks = (Z4 23 s && Yr 23 N && QD (Qh 23).toList ks) :=
  Qy ⟨none, 0, 0, [Qw, Y4 [12], Y4 [12]], none, none⟩ [101, 98, 98] [] rfl (QJ rfl) (Qv rfl) (by rw [ByteArray.toList_eq]; rfl) (by decide) (by simp only [List.map_cons, List.map_nil, ← Q6d, ← Qdy]) Qr
theorem QdV : Ql 24 s N ks = (Z4 24 s && Yr 24 N && QD (Qh 24).toList ks) :=
  Qy ⟨none, 0, 0, [Qw, Y4 [12]], none, none⟩ [101, 98] [] rfl (QJ rfl) (Qv rfl) (by rw [ByteArray.toList_eq]; rfl) (by decide) (by simp only [List.map_cons, List.map_nil, ← Q6d, ← Qdy]) Qr
theorem QdU : Ql 25 s N ks = (Z4 25 s && Yr 25 N && QD (Qh 25).toList ks) :=
  Qy ⟨none, 0, 0, [], none, none⟩ [] [] rfl (QJ rfl) (Qv rfl) (by rw [ByteArray.toList_eq]; rfl) (by decide) rfl Qr
theorem QdT : Ql 26 s N ks = (Z4 26 s && Yr 26 N && QD (Qh 26).toList ks) :=
  Qy ⟨none, 0, 2147483647, [], none, none⟩ [] [] rfl (QJ rfl) rfl (by rw [ByteArray.toList_eq]; rfl) (by decide) rfl Qr
theorem QdS : Ql 27 s N ks = (Z4 27 s && Yr 27 N && QD (Qh 27).toList ks) :=
  Qy ⟨none, 0, 0, [], none, none⟩ [] [] rfl (QJ rfl) (Qv rfl) (by rw [ByteArray.toList_eq]; rfl) (by decide) rfl Qr
theorem QdR : Ql 28 s N ks = (Z4 28 s && Yr 28 N && QD (Qh 28).toList ks) :=
  Qy ⟨none, 0, 0, [], none, none⟩ [] [] rfl (QJ rfl) (Qv rfl) (by rw [ByteArray.toList_eq]; rfl) (by decide) rfl Qr
theorem QdQ : Ql 29 s N ks = (Z4 29 s && Yr 29 N && QD (Qh 29).toList ks) :=
  Qy ⟨some (Za), 0, 0, [], none, none⟩ [] [] rfl (rfl) (Qv rfl) (by rw [ByteArray.toList_eq]; rfl) (by decide) rfl Qr
theorem QdP : Ql 30 s N ks = (Z4 30 s && Yr 30 N && QD (Qh 30).toList ks) :=
  Qy ⟨some (Za), 0, 0, [Qw], none, none⟩ [101] [] rfl (rfl) (Qv rfl) (by rw [ByteArray.toList_eq]; rfl) (by decide) (by simp only [List.map_cons, List.map_nil, ← Q6d]) Qr
theorem QdO : Ql 31 s N ks = (Z4 31 s && Yr 31 N && QD (Qh 31).toList ks) :=
  Qy ⟨none, 0, 0, [Qw, Qw], none, none⟩ [101, 101] [] rfl (QJ rfl) (Qv rfl) (by rw [ByteArray.toList_eq]; rfl) (by decide) (by simp only [List.map_cons, List.map_nil, ← Q6d]) Qr
theorem QdN : Ql 32 s N ks = (Z4 32 s && Yr 32 N && QD (Qh 32).toList ks) :=
  Qy ⟨some (Q4c opL), 0, 0, [Qw, Qw], none, none⟩ [101, 101] [] rfl ((by rw [show Z4 32 s = opS s from rfl]; exact Qde s)) (Qv rfl) (by rw [ByteArray.toList_eq]; rfl) (by decide) (by simp only [List.map_cons, List.map_nil, ← Q6d]) Qr
theorem QdM : Ql 33 s N ks = (Z4 33 s && Yr 33 N && QD (Qh 33).toList ks) :=
  Qy ⟨some (Za), 0, 0, [], none, none⟩ [] [] rfl (rfl) (Qv rfl) (by rw [ByteArray.toList_eq]; rfl) (by decide) rfl Qr
theorem QdL : Ql 34 s N ks = (Z4 34 s && Yr 34 N && QD (Qh 34).toList ks) :=
  Qy ⟨none, 0, 0, [Qw], none, none⟩ [101] [] rfl (QJ rfl) (Qv rfl) (by rw [ByteArray.toList_eq]; rfl) (by decide) (by simp only [List.map_cons, List.map_nil, ← Q6d]) Qr
theorem QdK : Ql 35 s N ks = (Z4 35 s && Yr 35 N && QD (Qh 35).toList ks) :=
  Qy ⟨none, 0, 0, [Qw], none, none⟩ [101] [] rfl (QJ rfl) (Qv rfl) (by rw [ByteArray.toList_eq]; rfl) (by decide) (by simp only [List.map_cons, List.map_nil, ← Q6d]) Qr
theorem QdJ : Ql 36 s N ks = (Z4 36 s && Yr 36 N && QD (Qh 36).toList ks) :=
  Qy ⟨none, 0, 0, [Y4 [12]], none, none⟩ [98] [] rfl (QJ rfl) (Qv rfl) (by rw [ByteArray.toList_eq]; rfl) (by decide) (by simp only [List.map_cons, List.map_nil, ← Qdy]) Qr
def Q0d (K : Int) (s : ByteArray) (N : Int) : Bool := decide (1 ≤ K) && decide (K ≤ 36) && Z4 K s && Yr K N
theorem QbJ {K : Int} (h : K < 1 ∨ 36 < K) : YP formT K = none := by
  have hk : ∀ p, p ∈ formT → 1 ≤ p.1 ∧ p.1 ≤ 36 := by
    intro p hp; have : (formT.map Prod.fst).all (fun k => decide (1 ≤ k) && decide (k ≤ 36)) = true := by decide
    have := List.all_eq_true.1 this p.1 (List.mem_map_of_mem hp); simpa using this
  revert hk
  generalize formT = T
  induction T with
  | nil => intro _; rfl
  | cons p T ih =>
    intro hk; obtain ⟨k, F⟩ := p; have h1 := hk _ (List.mem_cons_self ..); simp only [YP]; rw [if_neg (by simp only at h1; omega)]; exact ih fun q hq => hk q (List.mem_cons_of_mem _ hq)
theorem Q87 {K : Int} : Ql K s N ks = (Q0d K s N && QD (Qh K).toList ks) := by
  by_cases h : K < 1 ∨ 36 < K
  · rw [Ql, QbJ h]
    have : Q0d K s N = false := by
      unfold Q0d; rcases h with h | h
      · rw [decide_eq_false (by omega : ¬ 1 ≤ K)]; rfl
      rw [decide_eq_false (by omega : ¬ K ≤ 36)]; simp
    rw [this]; rfl
  have e : Q0d K s N = (Z4 K s && Yr K N) := by
    unfold Q0d; rw [decide_eq_true (by omega : 1 ≤ K), decide_eq_true (by omega : K ≤ 36)]; rfl
  rw [e]; rcases (show K = 1 ∨ K = 2 ∨ K = 3 ∨ K = 4 ∨ K = 5 ∨ K = 6 ∨ K = 7 ∨ K = 8 ∨ K = 9 ∨ K = 10 ∨ K = 11 ∨ K = 12 ∨ K = 13 ∨ K = 14 ∨ K = 15 ∨ K = 16 ∨ K = 17 ∨ K = 18 ∨ K = 19 ∨ K = 20 ∨ K = 21 ∨ K = 22 ∨ K = 23 ∨ K = 24 ∨ K = 25 ∨ K = 26 ∨ K = 27 ∨ K = 28 ∨ K = 29 ∨ K = 30 ∨ K = 31 ∨ K = 32 ∨ K = 33 ∨ K = 34 ∨ K = 35 ∨ K = 36 by omega) with rfl | rfl | rfl | rfl | rfl | rfl | rfl | rfl | rfl | rfl | rfl | rfl | rfl | rfl | rfl | rfl | rfl | rfl | rfl | rfl | rfl | rfl | rfl | rfl | rfl | rfl | rfl | rfl | rfl | rfl | rfl | rfl | rfl | rfl | rfl | rfl
  · exact form_1
  · exact form_2
  · exact form_3
  · exact form_4
  · exact form_5
  · exact form_6
  · exact form_7
  · exact form_8
  · exact form_9
  · exact Qe9
  · exact Qe8
  · exact Qe7
  · exact Qe6
  · exact Qe5
  · exact Qe4
  · exact Qe3
  · exact Qe2
  · exact Qe1
  · exact Qe0
  · exact QdZ
  · exact QdY
  · exact QdX
  · exact QdW
  · exact QdV
  · exact QdU
  · exact QdT
  · exact QdS
  · exact QdR
  · exact QdQ
  · exact QdP
  · exact QdO
  · exact QdN
  · exact QdM
  · exact QdL
  · exact QdK
  exact QdJ
end
end Go.Proofs.YtkidomfnmpnmaaaGreatDoor
namespace Go.Proofs.YtkidomfnmpnmaaaGreatDoor
open Go.X
theorem Q7R {K K' i : Int} {s s' : ByteArray} (h : decide (0 < QC K' s') = true) (hi : 0 ≤ i) : decide (QC K' s' < Q1k K s i) = Ko K s i K' s' := by
  unfold Ko; rw [Q2q] at h; rw [h, Bool.true_and]
  have hp : 0 < QC K' s' := by
    have := Q2q (K := K') (s := s'); rw [h] at this; exact of_decide_eq_true this
  unfold Q1k
  split
  · rename_i hK; subst hK; have e : ZW 31 s i = if i = 0 then 5 else 0 := by unfold ZW; simp
    rw [e, Bool.eq_iff_iff, decide_eq_true_eq, decide_eq_true_eq]
    split <;> omega
  rfl
theorem Q5Z {K K' i : Int} {s s' : ByteArray} (h : decide (0 < QC K' s') = false) : Ko K s i K' s' = false := by
  unfold Ko; rw [Q2q] at h; rw [h, Bool.false_and]
theorem QbF {K N : Int} {s : ByteArray} (h : (decide (K < 1) || decide (36 < K)) = true) : Q0d K s N = false := by
  unfold Q0d; simp only [Bool.or_eq_true, decide_eq_true_eq] at h; rcases h with h | h
  · rw [decide_eq_false (by omega : ¬ 1 ≤ K)]; rfl
  rw [decide_eq_false (by omega : ¬ K ≤ 36)]; simp
theorem QbE {K N : Int} {s : ByteArray} (h : (!Z4 K s) = true) : Q0d K s N = false := by
  unfold Q0d; rw [Bool.not_eq_true'] at h; rw [h]; simp
theorem QbC {K N : Int} {s : ByteArray} (h : (!Yr K N) = true) : Q0d K s N = false := by
  unfold Q0d; rw [Bool.not_eq_true'] at h; rw [h]; simp
theorem QbB {K N : Int} {s : ByteArray} (h1 : (decide (K < 1) || decide (36 < K)) = false) (h2 : (!Z4 K s) = false) (h3 : (!Yr K N) = false) : Q0d K s N = true := by
  unfold Q0d; simp only [Bool.or_eq_false_iff, decide_eq_false_iff_not, Bool.not_eq_false'] at h1 h2 h3; rw [h2, h3, decide_eq_true (by omega : 1 ≤ K), decide_eq_true (by omega : K ≤ 36)]; rfl
theorem Q6i {R : Option Nat} : Qed false R = none := by cases R <;> rfl
theorem Q82 {rec : Nat → Int → Option Nat} {T : List Tw} {w : Tw} {nest k : Int} {l : List Int} {i next : Nat} (h : (!decide (k = (next : Int)) || decide ((T.length : Int) ≤ next)) = true) : YB rec T w nest (k :: l) i next = none := by
  simp only [YB]
  split
  · rename_i e; rw [e] at h; simp at h; rw [List.getElem?_eq_none (by omega)]
  rfl
theorem QbV {K K' i : Int} {s s' : ByteArray} (h : (((decide (K = 31) && decide (i = 1)) || decide (K = 34)) || decide (K = 35)) = true) : b2i (decide (K' = 12)) + b2i (Ko K s i K' s') + 1 = Kv K s i K' s' := by
  unfold Kv; simp only [Bool.or_eq_true, Bool.and_eq_true, decide_eq_true_eq] at h; rcases h with (⟨rfl, rfl⟩ | rfl) | rfl <;> simp [b2i]
theorem Qei {K K' i : Int} {s s' : ByteArray} (h : (((decide (K = 31) && decide (i = 1)) || decide (K = 34)) || decide (K = 35)) = false) : b2i (decide (K' = 12)) + b2i (Ko K s i K' s') = Kv K s i K' s' := by
  unfold Kv; simp only [Bool.or_eq_false_iff] at h; rw [h.1.1, h.1.2, h.2]; simp [b2i]
def encR (o : Option Nat) : Int := match o with
  | some n => n
  | none => 0
theorem enc_eq {o : Option Nat} {n : Nat} (h : 0 < n) : decide (encR o = n) = decide (enc o = n) := by
  cases o with
  | some m => rfl
  | none =>
    show decide ((0 : Int) = n) = decide ((-1 : Int) = n); rw [decide_eq_false (by omega), decide_eq_false (by omega)]
section
variable {h : Hp} {sv ks : Value} {T : List Tw} {K N L Co : Int} {s : ByteArray} {kids : List Int} {i j : Nat}
theorem c45 (X : TreeAt h sv T) (_ : T.length ≤ 1000) (R : RowV h ks (isV kids)) (hi : i < kids.length) (hi2 : i ≤ 1000) (hk : kids[i] = (j : Int)) {w : Tw} (hq : T[j]? = some w) : C nmE 30 [.agg #[sv], twV K s N L Co ks, iV i] h fun v h' => v = .bool (Ko K s i w.K w.s) ∧ Ext h h' := by
  obtain ⟨ta, tc, rfl⟩ := X.val; have hks := RowV.same R; obtain ⟨ka, kc, rfl⟩ := R.valM; obtain ⟨hj, hjw⟩ := List.getElem?_eq_some_iff.1 hq; obtain ⟨b, o, c, cs, e, m, hv, hg, hlb, hl6, hat⟩ := X.at (by omega); have hta : ta = some ⟨b, o, none⟩ := by injection hv
  have hw := hat j hj; rw [hjw] at hw; have hm := X.2 w (List.mem_of_getElem? hq); obtain ⟨K3, s3, N3, L3, C3, ks3, kids3⟩ := w; simp only at hm; obtain ⟨ka3, kc3, rfl⟩ := hm.valM; have hw4 : (cs.drop (o + Int.toNat (j : Int) * 6)).take 6 = [iV K3, .string s3, iV N3, iV L3, iV C3, .slice ka3 kids3.length kc3] := by rw [Int.toNat_natCast]; exact hw
  obtain ⟨kb, ko, kc', kcs, ke, km, hv2, hg2, hlt2, hat2⟩ := R.atM (by omega); have hka : ka = some ⟨kb, ko, none⟩ := by injection hv2
  have hat3 : kcs[ko + i]? = some (iV j) := by rw [hat2 i hi, hk]
  refine Qf (fu := Tryz.f30) (by kernel_rfl) rfl ?_; have S := SH.start h; refine Qd ?_; refine Yh S gn rfl rfl fun b1 g nb1 S => ?_; refine Yh S gn rfl rfl fun b2 g nb2 S => ?_; refine Q3 gn rfl rfl ?_; refine Q5 ?_; refine Qj ?_; refine Z3 [(0, []), (1, []), (2, []), (3, []), (4, []), (5, []), (6, []), (7, []), (8, []), (9, []), (10, [])] (by kernel_rfl) (by kernel_rfl) (by kernel_rfl) (by kernel_rfl) ?_; refine Q0 (off := 0) gn rfl rfl (by kernel_rfl) ?_; refine Q6 gn rfl rfl (by kernel_rfl) (S.cel 1 rfl) rfl ?_; refine Q0 (off := 5) gn rfl rfl (by kernel_rfl) ?_; refine Q6 gn rfl rfl (by kernel_rfl) (S.cel 0 rfl) rfl ?_; refine Q4 gn rfl rfl ?_; rw [hka]
  refine Q7 (zz := 1) gn rfl rfl rfl (by kernel_rfl) (by omega) (by omega) ?_; rw [← hka]; refine Q6 gn rfl rfl (by kernel_rfl) (S.old0 hg2 hlt2) (by rw [Int.toNat_natCast, Nat.mul_one]; exact hat3) ?_; rw [hta]; refine Q7 (zz := 6) gn rfl rfl rfl (by kernel_rfl) (by omega) (by omega) ?_; refine Qs (n := 6) gn rfl rfl (by kernel_rfl) (by kernel_rfl) (S.old0 hg hlb) (by rw [Int.toNat_natCast]; omega) ?_; rw [hw4, ← hta]; refine Qb [_] gn rfl rfl (by kernel_rfl) rfl (C.mono (c19) ?_); rintro v g ⟨rfl, x⟩; have S := S.grow x; refine ⟨ag0, ?_⟩; refine Q3 gn rfl rfl ?_; refine Zw ?_; refine Q4 gn rfl rfl ?_; refine JB gn rfl rfl rfl ?_; refine Q4 gn rfl rfl ?_
  refine QM (dc := 20) rfl (fun hb20 => ?_) fun hb20 => ?_
  · skip
    refine Q4 (gy rfl rfl rfl hb20) rfl rfl ?_; refine Qs (n := 6) (gy rfl rfl rfl hb20) rfl rfl (by kernel_rfl) (by kernel_rfl) (S.cel 0 rfl) (Nat.le_refl _) ?_; refine Q4 (gy rfl rfl rfl hb20) rfl rfl ?_; refine Qb [_, _] (gy rfl rfl rfl hb20) rfl rfl (by kernel_rfl) rfl (C.mono (c66 hks (by omega) (by omega)) ?_); rintro v g ⟨rfl, x⟩; have S := S.grow x; refine ⟨ag0, ?_⟩; refine Z9 (gy rfl rfl rfl hb20) rfl rfl rfl ?_; refine Zd gn rfl rfl hb20 rfl ?_; refine Q3 gn rfl rfl ?_; refine Q5 ?_; refine Qc ?_; refine ⟨.inl rfl, _, rfl, ?_⟩; exact ⟨by rw [← Q7R (K := K) (s := s) hb20 (by omega : (0 : Int) ≤ i)]; rfl, S.e0⟩
  refine QU (n := 5) (dc := 20) (w := true) rfl hb20 rfl ?_; refine Z2 gn rfl rfl hb20 rfl ?_; refine Q3 gn rfl rfl ?_; refine Q5 ?_; refine Qc ?_; refine ⟨.inl rfl, _, rfl, ?_⟩; exact ⟨by rw [Q5Z hb20]; rfl, S.e0⟩
theorem c26 (X : TreeAt h sv T) (hT : T.length ≤ 1000) (hs : ∀ t, t ∈ T → t.s.toList.length ≤ 100) : ∀ (f : Nat) (at' : Nat) (nest : Int) (g : Hp), Ext h g → T.length - at' < f → at' ≤ 1000 → 0 ≤ nest → nest ≤ 1000 →
    C nmE 14 [.agg #[sv], iV at', iV nest] g fun v g' => v = iV (encR (ZG T f at' nest)) ∧ Ext g g' := by
  obtain ⟨ta, tc, rfl⟩ := X.val; intro f
  induction f with
  | zero => intro at' nest g _ hf; omega
  | succ f ih =>
  intro at' nest h2 x2 hf hat0 hn0 hn1; have X2 := X.ext x2; refine Qf (fu := Tryz.f14) (by kernel_rfl) rfl ?_; have S := SH.start h2; refine Qd ?_; refine Yh S gn rfl rfl fun b1 g nb1 S => ?_; refine Q3 gn rfl rfl ?_; refine Kz ?_; refine Q4 gn rfl rfl ?_; refine Q0 (off := 0) gn rfl rfl (by kernel_rfl) ?_; refine Q6 gn rfl rfl (by kernel_rfl) (S.cel 0 rfl) rfl ?_; refine QI gn rfl rfl (by kernel_rfl) ?_; refine Y5 gn rfl rfl rfl ?_; refine Q4 gn rfl rfl ?_
  refine Yo (n := 2) rfl rfl rfl gn rfl (fun hb => by
      refine Q4 (gy rfl rfl rfl hb) rfl rfl ?_; refine JB (gy rfl rfl rfl hb) rfl rfl rfl ?_
      exact Q5 ⟨rfl, rfl, 2, rfl, rfl⟩) ?_
  refine Q5 ?_; refine Qa rfl (fun hb => ?_) fun hb => ?_
  · skip
    refine Qd ?_; refine Q3 gn rfl rfl ?_; refine Q5 ?_; refine Qc ?_; refine ⟨.inl rfl, _, rfl, ?_⟩; exact ⟨by rw [Q4f hb]; rfl, S.e0⟩
  refine Qe ?_
  obtain ⟨hlt, hne⟩ : at' < T.length ∧ ¬ 64 < nest := by
    simp only [Bool.or_eq_false_iff, decide_eq_false_iff_not] at hb; exact ⟨by omega, hb.2⟩
  obtain ⟨b, o, c, cs, e, m, hv, hg, hlb, hl6, hat⟩ := X2.at hlt; have hta : ta = some ⟨b, o, none⟩ := by injection hv
  have hw := hat at' hlt; have hm := X2.2 _ (List.getElem_mem hlt); have hq : T[at']? = some T[at'] := List.getElem?_eq_getElem hlt; have hsz := hs _ (List.getElem_mem hlt); generalize T[at'] = w at hw hm hq hsz; obtain ⟨K, s, N, L, Co, ks, kids⟩ := w; simp only at hm hsz; obtain ⟨ka, kc, rfl⟩ := hm.valM; have hw2 : (cs.drop (o + Int.toNat (at' : Int) * 6)).take 6 = [iV K, .string s, iV N, iV L, iV Co, .slice ka kids.length kc] := by rw [Int.toNat_natCast]; exact hw
  obtain ⟨R0, hR0⟩ : ∃ R, R = YB (ZG T f) T ⟨K, s, N, L, Co, .slice ka kids.length kc, kids⟩ nest kids 0 (at' + 1) := ⟨_, rfl⟩
  have hWalk : ZG T (f + 1) at' nest = Qed (Ql K s N (Z8 T kids)) R0 := by
    simp only [ZG, hq, if_neg hne, ← hR0]
  rw [Q87] at hWalk; refine Qd ?_; refine Q0 (off := 0) gn rfl rfl (by kernel_rfl) ?_; refine Q6 gn rfl rfl (by kernel_rfl) (S.cel 0 rfl) rfl ?_; refine Q4 gn rfl rfl ?_; rw [hta]; refine Q7 (zz := 6) gn rfl rfl rfl (by kernel_rfl) (by omega) (by omega) ?_; refine Qs (n := 6) gn rfl rfl (by kernel_rfl) (by kernel_rfl) (S.old0 hg hlb) (by rw [Int.toNat_natCast]; omega) ?_; rw [hw2, ← hta]; refine Zz (zv := .agg #[.int .i64 0, .string .empty, .int .i64 0, .int .i64 0, .int .i64 0, .slice none 0 0]) S gn rfl (by kernel_rfl) fun b2 g nb2 S => ?_; refine QV (n := 6) 0 S gn rfl rfl (by kernel_rfl) (by kernel_rfl) rfl rfl (by decide) rfl (fun g S => ag0) fun g S => ?_; refine Q5 ?_
  refine KW [(1, iV at'), (2, iV nest), (3, Zx b1), (7, Zx b2)] (fun lv hh => lv = [] ∧ SH h2 [] [cR b2 (.cells (twC K s N L Co (.slice ka kids.length kc)) 41 0), cR b1 (.cells [.slice ta T.length tc] 24 0)] hh ∧ Q0d K s N = true) ?_ fun lv hh hJ => ?_
  · skip
    refine Qd ?_; refine Q0 (off := 0) gn rfl rfl (by kernel_rfl) ?_; refine Q6 gn rfl rfl (by kernel_rfl) (S.cel 0 rfl) rfl ?_; refine Z9 gn rfl rfl rfl ?_; refine Q4 gn rfl rfl ?_
    refine Yo (n := 3) rfl rfl rfl gn rfl (fun hb => by
        refine Q0 (off := 0) (gy rfl rfl rfl hb) rfl rfl (by kernel_rfl) ?_; refine Q6 (gy rfl rfl rfl hb) rfl rfl (by kernel_rfl) (S.cel 0 rfl) rfl ?_; refine JB (gy rfl rfl rfl hb) rfl rfl rfl ?_
        exact Q5 ⟨rfl, rfl, 3, rfl, rfl⟩) ?_
    refine Q4 gn rfl rfl ?_; refine QM (dc := 34) rfl (fun hb34 => ?_) fun hb34 => ?_
    · skip
      refine QU (n := 6) (dc := 34) (w := false) rfl hb34 rfl ?_; refine Zd gn rfl rfl hb34 rfl ?_; refine Q4 gn rfl rfl ?_; refine QM (dc := 42) rfl (fun hb42 => ?_) fun hb42 => ?_
      · skip
        refine QU (n := 6) (dc := 42) (w := false) rfl hb42 rfl ?_; refine Zd gn rfl rfl hb42 rfl ?_; refine Q5 ?_; refine Qa rfl (fun hb => ?_) fun hb => ?_
        · skip
          refine Qd ?_; refine Q3 gn rfl rfl ?_; refine Q5 ?_; refine Qc ?_; refine ⟨.inl rfl, _, rfl, ?_⟩; exact ⟨by rw [hWalk, QbF hb34, Bool.false_and, Q6i]; rfl, S.e0⟩
        exact absurd hb (by decide)
      exact absurd hb42 (by decide)
    refine Q0 (off := 0) (gy rfl rfl rfl hb34) rfl rfl (by kernel_rfl) ?_; refine Q6 (gy rfl rfl rfl hb34) rfl rfl (by kernel_rfl) (S.cel 0 rfl) rfl ?_; refine Q0 (off := 1) (gy rfl rfl rfl hb34) rfl rfl (by kernel_rfl) ?_; refine Q6 (gy rfl rfl rfl hb34) rfl rfl (by kernel_rfl) (S.cel 0 rfl) rfl ?_; refine Qb [_, _] (gy rfl rfl rfl hb34) rfl rfl (by kernel_rfl) rfl (C.mono (c43 (by omega)) ?_); rintro v g ⟨rfl, x⟩; have S := S.grow x; refine ⟨ag0, ?_⟩; refine ZT (gy rfl rfl rfl hb34) rfl rfl ?_; refine Z2 gn rfl rfl hb34 rfl ?_; refine Q4 gn rfl rfl ?_; refine QM (dc := 42) rfl (fun hb42 => ?_) fun hb42 => ?_
    · skip
      refine QU (n := 6) (dc := 42) (w := false) rfl hb42 rfl ?_; refine Zd gn rfl rfl hb42 rfl ?_; refine Q5 ?_; refine Qa rfl (fun hb => ?_) fun hb => ?_
      · skip
        refine Qd ?_; refine Q3 gn rfl rfl ?_; refine Q5 ?_; refine Qc ?_; refine ⟨.inl rfl, _, rfl, ?_⟩; exact ⟨by rw [hWalk, QbE hb42, Bool.false_and, Q6i]; rfl, S.e0⟩
      exact absurd hb (by decide)
    refine Q0 (off := 0) (gy rfl rfl rfl hb42) rfl rfl (by kernel_rfl) ?_; refine Q6 (gy rfl rfl rfl hb42) rfl rfl (by kernel_rfl) (S.cel 0 rfl) rfl ?_; refine Q0 (off := 2) (gy rfl rfl rfl hb42) rfl rfl (by kernel_rfl) ?_; refine Q6 (gy rfl rfl rfl hb42) rfl rfl (by kernel_rfl) (S.cel 0 rfl) rfl ?_; refine Qb [_, _] (gy rfl rfl rfl hb42) rfl rfl (by kernel_rfl) rfl (C.mono (c44) ?_); rintro v g ⟨rfl, x⟩; have S := S.grow x; refine ⟨ag0, ?_⟩; refine ZT (gy rfl rfl rfl hb42) rfl rfl ?_; refine Z2 gn rfl rfl hb42 rfl ?_; refine Q5 ?_; refine Qa rfl (fun hb => ?_) fun hb => ?_
    · skip
      refine Qd ?_; refine Q3 gn rfl rfl ?_; refine Q5 ?_; refine Qc ?_; refine ⟨.inl rfl, _, rfl, ?_⟩; exact ⟨by rw [hWalk, QbC hb, Bool.false_and, Q6i]; rfl, S.e0⟩
    refine Qe ?_; exact Q1o [] (by repeat (first | exact trivial | refine ⟨rfl, ?_⟩)) ⟨rfl, S, QbB hb34 hb42 hb⟩
  obtain ⟨rfl, S, hd⟩ := hJ; rw [hd, Bool.true_and] at hWalk; refine Qd ?_; refine Q3 gn rfl rfl ?_; refine Zw ?_; refine Q4 gn rfl rfl ?_; refine QO gn rfl rfl rfl (by omega) (by omega) ?_; refine Q3 gn rfl rfl ?_; refine Kz ?_; refine Q3 gn rfl rfl ?_; refine Q5 ?_; refine Qg ?_
  refine QH [(8, _), (9, _), (10, _)] [(2, _), (3, _), (7, _)] (by repeat (first | exact trivial | refine ⟨rfl, ?_⟩)) (fun kk lv hh => ∃ (i next : Nat) (kv : Value) (bs : List Nat), lv = [(8, kv), (9, iV next), (10, iV i)] ∧ kk = kids.length - i ∧ i ≤ kids.length ∧ SH h2 [] [slR 39 0 kv (isV (Z8 T (kids.take i))) i bs, cR b2 (.cells (twC K s N L Co (.slice ka kids.length kc)) 41 0), cR b1 (.cells [.slice ta T.length tc] 24 0)] hh ∧ at' + 1 + i ≤ next ∧ next ≤ T.length ∧ YB (ZG T f) T ⟨K, s, N, L, Co, .slice ka kids.length kc, kids⟩ nest (kids.drop i) i next = R0) (n := (kids.length)) ?_ fun kk lv hh hI => ?_
  · exact ⟨0, at' + 1, .slice none 0 0, [], rfl, rfl, by omega, S.nilSl 39 0, by omega, by omega, by rw [List.drop_zero, hR0]⟩
  obtain ⟨i, next, kv, bs, rfl, hk, hi, S, hnx, hnl, hR⟩ := hI; refine Qj ?_; refine Qd ?_; refine Q4 gn rfl rfl ?_; refine Q0 (off := 5) gn rfl rfl (by kernel_rfl) ?_; refine Q6 gn rfl rfl (by kernel_rfl) (S.cel 1 rfl) rfl ?_; refine QI gn rfl rfl (by kernel_rfl) ?_; refine Z9 gn rfl rfl rfl ?_; refine Q5 ?_; refine Qa rfl (fun hb => ?_) fun hb => ?_
  · skip
    refine Qe ?_; refine Qj ?_; refine Qg ?_; refine Qj ?_; refine Qj ?_; have hi : i < kids.length := by simp at hb; omega
    obtain ⟨kb, ko, kc', kcs, ke, km, hv2, hg2, hlt2, hat2⟩ := hm.atM (by omega); have hka : ka = some ⟨kb, ko, none⟩ := by injection hv2
    rw [List.drop_eq_getElem_cons hi] at hR; refine Q8 (by kernel_rfl) ?_; refine Q0 (off := 5) gn rfl rfl (by kernel_rfl) ?_; refine Q6 gn rfl rfl (by kernel_rfl) (S.cel 1 rfl) rfl ?_; refine Q4 gn rfl rfl ?_; rw [hka]; refine Q7 (zz := 1) gn rfl rfl rfl (by kernel_rfl) (by omega) (by omega) ?_; rw [← hka]; refine Q6 gn rfl rfl (by kernel_rfl) (S.old0 hg2 hlt2) (by rw [Int.toNat_natCast, Nat.mul_one]; exact hat2 i hi) ?_; refine Q4 gn rfl rfl ?_; refine Q60 gn rfl rfl rfl ?_; refine Q4 gn rfl rfl ?_
    refine Yo (n := 5) rfl rfl rfl gn rfl (fun hb => by
        refine Q4 (gy rfl rfl rfl hb) rfl rfl ?_; refine Q0 (off := 0) (gy rfl rfl rfl hb) rfl rfl (by kernel_rfl) ?_; refine Q6 (gy rfl rfl rfl hb) rfl rfl (by kernel_rfl) (S.cel 2 rfl) rfl ?_; refine QI (gy rfl rfl rfl hb) rfl rfl (by kernel_rfl) ?_; refine Y5 (gy rfl rfl rfl hb) rfl rfl rfl ?_
        exact Q5 ⟨rfl, rfl, 5, rfl, rfl⟩) ?_
    refine Q5 ?_; refine Qa rfl (fun hb => ?_) fun hb => ?_
    · skip
      refine Qd ?_; refine Q3 gn rfl rfl ?_; refine Q5 ?_; refine Qc ?_; refine ⟨.inl rfl, _, rfl, ?_⟩; exact ⟨by rw [hWalk, ← hR, Q82 hb]; rfl, S.e0⟩
    refine Qe ?_; refine Qj ?_
    obtain ⟨hkn, hnl2⟩ : kids[i] = (next : Int) ∧ next < T.length := by
      simp at hb; omega
    rw [hkn]; have hw3 := hat next hnl2; have hm3 := X2.2 _ (List.getElem_mem hnl2); have hq3 : T[next]? = some T[next] := List.getElem?_eq_getElem hnl2; generalize T[next] = w3 at hw3 hm3 hq3; obtain ⟨K3, s3, N3, L3, C3, ks3, kids3⟩ := w3; simp only at hm3; obtain ⟨ka3, kc3, rfl⟩ := hm3.valM; have hk3 : cs[o + Int.toNat (next : Int) * 6 + 0]? = some (iV K3) := by rw [Int.toNat_natCast]; exact Y0 hw3 (by omega) rfl
    have hdl := Q7h K s i K3 s3; have hbl1 := Q36 (decide (K3 = 12)); have hbl2 := Q36 (Ko K s i K3 s3); rw [hkn] at hR; simp only [YB, if_true, hq3] at hR; refine Q8 (by kernel_rfl) ?_; refine Q3 gn rfl rfl ?_; refine Q5 ?_; refine KW [(2, iV nest), (3, Zx b1), (7, Zx b2), (8, kv), (9, iV next), (10, iV i)] (fun lv hh => lv = [(11, iV (b2i (decide (K3 = 12))))] ∧ SH h2 [] [slR 39 0 kv (isV (Z8 T (kids.take i))) i bs, cR b2 (.cells (twC K s N L Co (.slice ka kids.length kc)) 41 0), cR b1 (.cells [.slice ta T.length tc] 24 0)] hh) ?_ fun lv hh hJ => ?_
    · skip
      refine Qd ?_; refine Q0 (off := 0) gn rfl rfl (by kernel_rfl) ?_; refine Q6 gn rfl rfl (by kernel_rfl) (S.cel 2 rfl) rfl ?_; refine Q4 gn rfl rfl ?_; rw [hta]; refine Q7 (zz := 6) gn rfl rfl rfl (by kernel_rfl) (by omega) (by omega) ?_; refine Q0 (off := 0) gn rfl rfl (by kernel_rfl) ?_; refine Q6 gn rfl rfl (by kernel_rfl) (S.old0 hg hlb) hk3 ?_; rw [← hta]; refine Qq gn rfl rfl rfl ?_; refine Q5 ?_; refine Qa rfl (fun hb => ?_) fun hb => ?_
      · skip
        refine Q8 (by kernel_rfl) ?_; refine Q4 gn rfl rfl ?_; refine QO gn rfl rfl rfl (by omega) (by omega) ?_; refine Q3 gn rfl rfl ?_; refine Q5 ?_; exact Q1o [(11, _)] (by repeat (first | exact trivial | refine ⟨rfl, ?_⟩)) ⟨by rw [hb]; rfl, S⟩
      refine Qe ?_; exact Q1o [(11, _)] (by repeat (first | exact trivial | refine ⟨rfl, ?_⟩)) ⟨by rw [hb]; rfl, S⟩
    obtain ⟨rfl, S⟩ := hJ; refine KW [(2, iV nest), (3, Zx b1), (7, Zx b2), (8, kv), (9, iV next), (10, iV i)] (fun lv hh => lv = [(11, iV (b2i (decide (K3 = 12)) + b2i (Ko K s i K3 s3)))] ∧ SH h2 [] [slR 39 0 kv (isV (Z8 T (kids.take i))) i bs, cR b2 (.cells (twC K s N L Co (.slice ka kids.length kc)) 41 0), cR b1 (.cells [.slice ta T.length tc] 24 0)] hh) ?_ fun lv hh hJ => ?_
    · skip
      refine Qd ?_; refine Qs (n := 1) gn rfl rfl (by kernel_rfl) (by kernel_rfl) (S.cel 2 rfl) (Nat.le_refl _) ?_; refine Qs (n := 6) gn rfl rfl (by kernel_rfl) (by kernel_rfl) (S.cel 1 rfl) (Nat.le_refl _) ?_; refine Q4 gn rfl rfl ?_; refine Qb [_, _, _] gn rfl rfl (by kernel_rfl) rfl (C.mono (c45 (X2.ext S.e0) hT (hm.ext S.e0) hi (by omega) hkn hq3) ?_); rintro v g ⟨rfl, x⟩; have S := S.grow x; refine ⟨ag0, ?_⟩; refine Q5 ?_; refine Qa rfl (fun hb => ?_) fun hb => ?_
      · skip
        refine Q8 (by kernel_rfl) ?_; refine Q4 gn rfl rfl ?_; refine QO gn rfl rfl rfl (by omega) (by omega) ?_; refine Q3 gn rfl rfl ?_; refine Q5 ?_; exact Q1o [(11, _)] (by repeat (first | exact trivial | refine ⟨rfl, ?_⟩)) ⟨by rw [hb]; rfl, S⟩
      refine Qe ?_; exact Q1o [(11, _)] (by repeat (first | exact trivial | refine ⟨rfl, ?_⟩)) ⟨by rw [hb]; simp [b2i], S⟩
    obtain ⟨rfl, S⟩ := hJ; refine KW [(2, iV nest), (3, Zx b1), (7, Zx b2), (8, kv), (9, iV next), (10, iV i)] (fun lv hh => lv = [(11, iV (Kv K s i K3 s3))] ∧ SH h2 [] [slR 39 0 kv (isV (Z8 T (kids.take i))) i bs, cR b2 (.cells (twC K s N L Co (.slice ka kids.length kc)) 41 0), cR b1 (.cells [.slice ta T.length tc] 24 0)] hh) ?_ fun lv hh hJ => ?_
    · skip
      refine Qd ?_; refine Q0 (off := 0) gn rfl rfl (by kernel_rfl) ?_; refine Q6 gn rfl rfl (by kernel_rfl) (S.cel 1 rfl) rfl ?_; refine Qq gn rfl rfl rfl ?_; refine Q4 gn rfl rfl ?_
      refine ZU (n := 2) rfl rfl rfl gn rfl (fun hb => by
          refine Q4 (gy rfl rfl rfl hb) rfl rfl ?_; refine Qq (gy rfl rfl rfl hb) rfl rfl rfl ?_
          exact Q5 ⟨rfl, rfl, 2, rfl, rfl⟩) ?_
      refine Q4 gn rfl rfl ?_
      refine Yo (n := 3) rfl rfl rfl gn rfl (fun hb => by
          refine Q0 (off := 0) (gy rfl rfl rfl hb) rfl rfl (by kernel_rfl) ?_; refine Q6 (gy rfl rfl rfl hb) rfl rfl (by kernel_rfl) (S.cel 1 rfl) rfl ?_; refine Qq (gy rfl rfl rfl hb) rfl rfl rfl ?_
          exact Q5 ⟨rfl, rfl, 3, rfl, rfl⟩) ?_
      refine Q4 gn rfl rfl ?_
      refine Yo (n := 3) rfl rfl rfl gn rfl (fun hb => by
          refine Q0 (off := 0) (gy rfl rfl rfl hb) rfl rfl (by kernel_rfl) ?_; refine Q6 (gy rfl rfl rfl hb) rfl rfl (by kernel_rfl) (S.cel 1 rfl) rfl ?_; refine Qq (gy rfl rfl rfl hb) rfl rfl rfl ?_
          exact Q5 ⟨rfl, rfl, 3, rfl, rfl⟩) ?_
      refine Q5 ?_; refine Qa rfl (fun hb => ?_) fun hb => ?_
      · skip
        refine Q8 (by kernel_rfl) ?_; refine Q4 gn rfl rfl ?_; refine QO gn rfl rfl rfl (by omega) (by omega) ?_; refine Q3 gn rfl rfl ?_; refine Q5 ?_; exact Q1o [(11, _)] (by repeat (first | exact trivial | refine ⟨rfl, ?_⟩)) ⟨by rw [QbV hb], S⟩
      refine Qe ?_; exact Q1o [(11, _)] (by repeat (first | exact trivial | refine ⟨rfl, ?_⟩)) ⟨by rw [Qei hb], S⟩
    obtain ⟨rfl, S⟩ := hJ; refine Qd ?_; refine Q4 gn rfl rfl ?_; refine Q0 (off := 0) gn rfl rfl (by kernel_rfl) ?_; refine Q6 gn rfl rfl (by kernel_rfl) (S.cel 2 rfl) rfl ?_; refine Q4 gn rfl rfl ?_; rw [hta]; refine Q7 (zz := 6) gn rfl rfl rfl (by kernel_rfl) (by omega) (by omega) ?_; refine Q0 (off := 0) gn rfl rfl (by kernel_rfl) ?_; refine Q6 gn rfl rfl (by kernel_rfl) (S.old0 hg hlb) hk3 ?_; rw [← hta]; refine Qn (cs := #[iV K3]) (e := 39) (z := 0) (zv := .int .i64 0) [(0, _)] S gn rfl (by kernel_rfl) (by kernel_rfl) (by kernel_rfl) (by kernel_rfl) rfl (by kernel_rfl) fun b3 g nb3 S => ?_
    refine KC (e := 39) (z := 0) (by' := 7) 1 0 S el58 gn rfl rfl rfl rfl rfl rfl (by rfl) (by omega) (fun s' bs' g S => ag0) fun s' bs' g S => ?_; refine Q3 gn rfl rfl ?_; refine Zw ?_; refine Qs (n := 1) gn rfl rfl (by kernel_rfl) (by kernel_rfl) (S.cel 3 rfl) (Nat.le_refl _) ?_; refine Q4 gn rfl rfl ?_; refine Q4 gn rfl rfl ?_; refine Q4 gn rfl rfl ?_; refine QO gn rfl rfl rfl (by omega) (by omega) ?_; refine Qb [_, _, _] gn rfl rfl (by kernel_rfl) rfl (C.mono (ih next (nest + Kv K s i K3 s3) _ (x2.trans S.e0) (by omega) (by omega) (by omega) (by omega)) ?_); rintro v g ⟨rfl, x⟩; have S := S.grow x; refine ⟨ag0, ?_⟩; refine Q3 gn rfl rfl ?_; refine Zw ?_; refine Q4 gn rfl rfl ?_
    refine Qq gn rfl rfl rfl ?_; refine Q5 ?_; refine Qa rfl (fun hb => ?_) fun hb => ?_
    · skip
      refine Qd ?_; refine Q3 gn rfl rfl ?_; refine Q5 ?_; refine Qc ?_; refine ⟨.inl rfl, _, rfl, ?_⟩
      exact ⟨by
        cases hx : ZG T f next (nest + Kv K s i K3 s3) with
        | none => rw [hx] at hR; rw [hWalk, ← hR]; rfl
        | some n =>
          have := Q1r hx
          rw [hx] at hb; exact absurd (of_decide_eq_true hb) (show ¬ ((n : Int) = 0) by omega), S.e0⟩
    refine Qe ?_
    obtain ⟨n3, hn3⟩ : ∃ n, ZG T f next (nest + Kv K s i K3 s3) = some n := by
      cases hx : ZG T f next (nest + Kv K s i K3 s3) with
      | none => rw [hx] at hb; exact absurd hb (by decide)
      | some n => exact ⟨n, rfl⟩
    have hn4 := Q1r hn3; rw [hn3]; rw [hn3] at hR
    have hkinds : isV (Z8 T (kids.take (i + 1))) = isV (Z8 T (kids.take i)) ++ [iV K3] := by
      rw [List.take_add_one, List.getElem?_eq_getElem hi, hkn]; simp [Z8, hq3]
    refine Q8 (by kernel_rfl) ?_; refine Q4 gn rfl rfl ?_; refine QO gn rfl rfl rfl (by omega) (by omega) ?_; refine Q3 gn rfl rfl ?_; refine Q5 ?_; exact Kc (kids.length - (i + 1)) (by omega) [(8, _), (9, _), (10, _)] (by repeat (first | exact trivial | refine ⟨rfl, ?_⟩)) ⟨i + 1, n3, s', bs', rfl, rfl, by omega, by rw [hkinds]; exact S.drop, by omega, by omega, hR⟩
  refine QZ ?_; refine Qt ?_; refine Qu ?_; refine QY ?_; refine Qj ?_; refine Qj ?_; have hii : i = kids.length := by simp at hb; omega
  subst hii; rw [List.drop_length] at hR; have hR1 : R0 = some next := hR.symm; rw [hR1] at hWalk; have hkl : (Z8 T kids).length = kids.length := by simp [Z8]
  have hsl : SlC 39 0 hh kv (isV (Z8 T kids)) (Z8 T kids).length bs := by
    have := S.sl 0 rfl; rw [List.take_length] at this; rw [hkl]; exact this
  refine Q8 (by kernel_rfl) ?_; refine Q0 (off := 0) gn rfl rfl (by kernel_rfl) ?_; refine Q6 gn rfl rfl (by kernel_rfl) (S.cel 1 rfl) rfl ?_; refine Q4 gn rfl rfl ?_; refine Qb [_, _] gn rfl rfl (by kernel_rfl) rfl (C.mono (c46 hsl.row (by omega)) ?_); rintro v g ⟨rfl, x⟩; have S := S.grow x; refine ⟨ag0, ?_⟩; refine ZT gn rfl rfl ?_; refine Q5 ?_; refine Qa rfl (fun hb => ?_) fun hb => ?_
  · skip
    refine Qd ?_; refine Q3 gn rfl rfl ?_; refine Q5 ?_; refine Qc ?_; refine ⟨.inl rfl, _, rfl, ?_⟩; exact ⟨by rw [hWalk]; rw [Bool.not_eq_true'] at hb; rw [hb]; rfl, S.e0⟩
  refine Qe ?_; refine Qd ?_; refine Q4 gn rfl rfl ?_; refine Q3 gn rfl rfl ?_; refine Q5 ?_; refine Qc ?_; refine ⟨.inl rfl, _, rfl, ?_⟩; exact ⟨by rw [hWalk]; rw [Bool.not_eq_false'] at hb; rw [hb]; rfl, S.e0⟩
theorem c11 (X : TreeAt h sv T) (hT : T.length ≤ 1000) (hs : ∀ t, t ∈ T → t.s.toList.length ≤ 100) : C nmE 6 [.agg #[sv]] h fun v h' => v = .bool (Q4b T) ∧ Ext h h' := by
  obtain ⟨ta, tc, rfl⟩ := X.val; refine Qf (fu := Tryz.f6) (by kernel_rfl) rfl ?_; have S := SH.start h; refine Qd ?_; refine Yh S gn rfl rfl fun b1 g nb1 S => ?_; refine Q3 gn rfl rfl ?_; refine Q5 ?_; refine Qj ?_; refine Z3 [(0, []), (1, []), (2, []), (3, []), (4, []), (5, []), (6, []), (7, []), (8, []), (9, []), (10, []), (11, []), (12, []), (13, []), (15, []), (16, []), (17, []), (14, [16, 17]), (18, []), (19, []), (20, [])] (by kernel_rfl) (by kernel_rfl) (by kernel_rfl) (by kernel_rfl) ?_; refine Q0 (off := 0) gn rfl rfl (by kernel_rfl) ?_; refine Q6 gn rfl rfl (by kernel_rfl) (S.cel 0 rfl) rfl ?_; refine QI gn rfl rfl (by kernel_rfl) ?_; refine JB gn rfl rfl rfl ?_
  refine Q4 gn rfl rfl ?_
  refine ZU (B := decide (Q84 T = 1)) (n := 6) rfl rfl rfl gn rfl (fun hb => by
      refine Q0 (off := 0) (gy rfl rfl rfl hb) rfl rfl (by kernel_rfl) ?_; refine Q6 (gy rfl rfl rfl hb) rfl rfl (by kernel_rfl) (S.cel 0 rfl) rfl ?_; have hlt : 0 < T.length := by simpa using hb
      obtain ⟨b, o, c, cs, e, m, hv, hg, hlb, hl6, hat⟩ := X.at hlt; have hta : ta = some ⟨b, o, none⟩ := by injection hv
      have hw : cs[o + 0 * 6 + 0]? = some (iV (Q84 T)) := by rw [Q3O hlt]; exact Y0 (hat 0 hlt) (by omega) rfl
      rw [hta]; refine Q7 (zz := 6) (gy rfl rfl rfl hb) rfl rfl rfl (by kernel_rfl) (by omega) (by omega) ?_; refine Q0 (off := 0) (gy rfl rfl rfl hb) rfl rfl (by kernel_rfl) ?_; refine Q6 (gy rfl rfl rfl hb) rfl rfl (by kernel_rfl) (S.old0 hg hlb) hw ?_; refine Qq (gy rfl rfl rfl hb) rfl rfl rfl ?_
      exact Q5 ⟨rfl, rfl, 6, rfl, rfl⟩) ?_
  refine Q4 gn rfl rfl ?_; refine QM (dc := 15) rfl (fun hb15 => ?_) fun hb15 => ?_
  · skip
    refine Qs (n := 1) (gy rfl rfl rfl hb15) rfl rfl (by kernel_rfl) (by kernel_rfl) (S.cel 0 rfl) (Nat.le_refl _) ?_; refine Q0 (off := 0) (gy rfl rfl rfl hb15) rfl rfl (by kernel_rfl) ?_; refine Q6 (gy rfl rfl rfl hb15) rfl rfl (by kernel_rfl) (S.cel 0 rfl) rfl ?_; refine QI (gy rfl rfl rfl hb15) rfl rfl (by kernel_rfl) ?_; refine Qb [_, _, _] (gy rfl rfl rfl hb15) rfl rfl (by kernel_rfl) rfl (C.mono (c26 (X.ext S.e0) hT hs (T.length + 1) 0 0 _ (.refl _) (by omega) (by omega) (by omega) (by omega)) ?_); rintro v g ⟨rfl, x⟩; have S := S.grow x
    refine ⟨(ag1 (Zr (gy rfl rfl rfl hb15) rfl (by kernel_rfl) (S.cel 0 rfl) rfl rfl ZO) (ag1 (Q38 (gy rfl rfl rfl hb15) rfl (by kernel_rfl) rfl) ag0)), ?_⟩; refine Qq (gy rfl rfl rfl hb15) rfl rfl rfl ?_; refine Zd gn rfl rfl hb15 rfl ?_; refine Q3 gn rfl rfl ?_; refine Q5 ?_; refine Qc ?_; refine ⟨.inl rfl, _, rfl, ?_⟩
    exact ⟨by
      have h0 : 0 < T.length := by simp at hb15; omega
      rw [Q4b, hb15, Bool.true_and, ← enc_eq h0]; rfl, S.e0⟩
  refine QU (n := 6) (dc := 15) (w := true) rfl hb15 rfl ?_; refine Z2 gn rfl rfl hb15 rfl ?_; refine Q3 gn rfl rfl ?_; refine Q5 ?_; refine Qc ?_; refine ⟨.inl rfl, _, rfl, ?_⟩; exact ⟨by rw [Q4b, hb15, Bool.false_and]; rfl, S.e0⟩
end
end Go.Proofs.YtkidomfnmpnmaaaGreatDoor
namespace Go.Proofs.YtkidomfnmpnmaaaGreatDoor
open Go.X
def Yt (T : List Tw) (i : Nat) : List Int := match T[i]? with
  | some w => w.kids
  | none => []
theorem Q24 {T : List Tw} {i : Nat} {w : Tw} (h : T[i]? = some w) : Yt T i = w.kids := by rw [Yt, h]
def Own (T : List Tw) (a n : Nat) : Prop := (∀ i, a ≤ i → i < n → ∀ k, k ∈ Yt T i → (i : Int) < k ∧ k < (n : Int)) ∧ (∀ i j k, a ≤ i → i < n → a ≤ j → j < n → k ∈ Yt T i → k ∈ Yt T j → i = j) ∧ (∀ p : Nat, a < p → p < n → ∃ i, a ≤ i ∧ i < n ∧ (p : Int) ∈ Yt T i)
def OwnL (T : List Tw) (l : List Int) (a n : Nat) : Prop := (∀ i, a ≤ i → i < n → ∀ k, k ∈ Yt T i → (i : Int) < k ∧ k < (n : Int)) ∧ (∀ i j k, a ≤ i → i < n → a ≤ j → j < n → k ∈ Yt T i → k ∈ Yt T j → i = j) ∧
  (∀ k, k ∈ l → (a : Int) ≤ k ∧ k < (n : Int) ∧ ∀ i, a ≤ i → i < n → k ∉ Yt T i) ∧ (∀ p : Nat, a ≤ p → p < n → (p : Int) ∈ l ∨ ∃ i, a ≤ i ∧ i < n ∧ (p : Int) ∈ Yt T i)
theorem Q6W {rec : Nat → Int → Option Nat} {T : List Tw} {w : Tw} {nest : Int} (hr : ∀ at' nest n, rec at' nest = some n → at' < n ∧ Own T at' n) : ∀ {l : List Int} {i next n : Nat}, YB rec T w nest l i next = some n → next ≤ n ∧ OwnL T l next n
  | [], i, next, n, e => by
    simp [YB] at e; subst e; exact ⟨Nat.le_refl _, fun i h1 h2 => by omega, fun i j k h1 h2 => by omega, fun k hk => by (cases hk), fun p h1 h2 => by omega⟩
  | k :: l, i, next, n, e => by
    simp only [YB] at e
    split at e
    · rename_i hk
      split at e
      · split at e
        · rename_i q hq; obtain ⟨h1, o1, o2, o3⟩ := hr _ _ _ hq; obtain ⟨h2, p1, p2, p3, p4⟩ := Q6W hr e; have lo : ∀ i, next ≤ i → i < n → i < q ∨ q ≤ i := fun i _ _ => by omega
          refine ⟨by omega, fun i hi1 hi2 k' hk' => ?_, fun i j k' hi1 hi2 hj1 hj2 hki hkj => ?_, fun k' hk' => ?_, fun p hp1 hp2 => ?_⟩
          · rcases lo i hi1 hi2 with h | h
            · have := o1 i hi1 h k' hk'; omega
            exact p1 i h hi2 k' hk'
          · rcases lo i hi1 hi2 with h | h <;> rcases lo j hj1 hj2 with h' | h'
            · exact o2 i j k' hi1 h hj1 h' hki hkj
            · have := o1 i hi1 h k' hki; have := p1 j h' hj2 k' hkj; omega
            · have := o1 j hj1 h' k' hkj; have := p1 i h hi2 k' hki; omega
            exact p2 i j k' h hi2 h' hj2 hki hkj
          · rcases List.mem_cons.1 hk' with rfl | hk'
            · refine ⟨by omega, by omega, fun i hi1 hi2 hm => ?_⟩; rcases lo i hi1 hi2 with h | h
              · have := o1 i hi1 h _ hm; omega
              have := p1 i h hi2 _ hm; omega
            obtain ⟨a1, a2, a3⟩ := p3 k' hk'; refine ⟨by omega, a2, fun i hi1 hi2 hm => ?_⟩; rcases lo i hi1 hi2 with h | h
            · have := o1 i hi1 h _ hm; omega
            exact a3 i h hi2 hm
          rcases lo p hp1 hp2 with h | h
          · by_cases hpn : p = next
            · subst hpn; exact .inl (by rw [hk]; exact List.mem_cons_self ..)
            obtain ⟨i, a1, a2, a3⟩ := o3 p (by omega) h; exact .inr ⟨i, a1, by omega, a3⟩
          rcases p4 p h hp2 with h3 | ⟨i, a1, a2, a3⟩
          · exact .inl (List.mem_cons_of_mem _ h3)
          exact .inr ⟨i, by omega, a2, a3⟩
        cases e
      cases e
    cases e
theorem Q6V {T : List Tw} : ∀ {f at' : Nat} {nest : Int} {n : Nat}, ZG T f at' nest = some n → at' < n ∧ Own T at' n
  | 0, _, _, _, e => by simp [ZG] at e
  | f + 1, at', nest, n, e => by
    simp only [ZG] at e
    split at e
    · rename_i w hw
      split at e
      · cases e
      cases hq : YB (ZG T f) T w nest w.kids 0 (at' + 1) with
      | none => rw [hq] at e; cases e
      | some q =>
        rw [hq] at e; simp only [Qed] at e
        split at e
        · cases e; obtain ⟨h2, p1, p2, p3, p4⟩ := Q6W (fun _ _ _ h => Q6V (f := f) h) hq; have hka := Q24 hw; refine ⟨by omega, fun i hi1 hi2 k hk => ?_, fun i j k hi1 hi2 hj1 hj2 hki hkj => ?_, fun p hp1 hp2 => ?_⟩
          · by_cases h : i = at'
            · subst h; rw [hka] at hk; have := p3 k hk; omega
            exact p1 i (by omega) hi2 k hk
          · by_cases h : i = at' <;> by_cases h' : j = at'
            · omega
            · subst h; rw [hka] at hki; exact absurd hkj ((p3 k hki).2.2 j (by omega) hj2)
            · subst h'; rw [hka] at hkj; exact absurd hki ((p3 k hkj).2.2 i (by omega) hi2)
            exact p2 i j k (by omega) hi2 (by omega) hj2 hki hkj
          rcases p4 p hp1 hp2 with h | ⟨i, a1, a2, a3⟩
          · exact ⟨at', Nat.le_refl _, by omega, by rw [hka]; exact h⟩
          exact ⟨i, by omega, a2, a3⟩
        cases e
    cases e
theorem Qdq {T : List Tw} (h : Q4b T = true) : 0 < T.length ∧ Own T 0 T.length := by
  simp only [Q4b, Bool.and_eq_true, decide_eq_true_eq] at h; obtain ⟨⟨h1, _⟩, h2⟩ := h; have h0 : 0 < T.length := by omega
  refine ⟨h0, ?_⟩; cases hw : ZG T (T.length + 1) 0 0 with
  | none => rw [hw] at h2; exact absurd h2 (show ¬ (-1 : Int) = T.length by omega)
  | some n =>
    rw [hw] at h2; have : n = T.length := by have : (n : Int) = T.length := h2; omega
    subst this; exact (Q6V hw).2
def IsUp (T : List Tw) (p : Nat) (r : Int) : Prop := (∃ i : Nat, r = i ∧ i < p ∧ i < T.length ∧ (p : Int) ∈ Yt T i ∧ ∀ i', i' < i → (p : Int) ∉ Yt T i') ∨ (r = -1 ∧ ∀ i, i < p → i < T.length → (p : Int) ∉ Yt T i)
theorem IsUp.one {T : List Tw} {p : Nat} {r r' : Int} (a : IsUp T p r) (b : IsUp T p r') : r = r' := by
  rcases a with ⟨i, rfl, h1, h2, h3, h4⟩ | ⟨rfl, h1⟩ <;> rcases b with ⟨j, rfl, g1, g2, g3, g4⟩ | ⟨rfl, g1⟩
  · rcases Nat.lt_trichotomy i j with h | h | h
    · exact absurd h3 (g4 i h)
    · rw [h]
    exact absurd g3 (h4 j h)
  · exact absurd h3 (g1 i h1 h2)
  · exact absurd g3 (h1 j g1 g2)
  rfl
def Q4O (T : List Tw) (n : Nat) : Bool := ((T.take n).any fun t => decide (100 < t.s.toList.length)) || decide (n < T.length)
theorem Q65 {T : List Tw} {n : Nat} (h : Q4O T n = false) : T.length ≤ n ∧ ∀ t, t ∈ T → t.s.toList.length ≤ 100 := by
  simp only [Q4O, Bool.or_eq_false_iff, decide_eq_false_iff_not] at h; have hl : T.length ≤ n := by omega
  refine ⟨hl, fun t ht => ?_⟩; rw [List.take_of_length_le hl] at h; have := List.any_eq_false.1 h.1 t ht; simpa using this
theorem Qbn {T : List Tw} {n j : Nat} (hj : j < T.length) (hn : j < n) (h : 100 < T[j].s.toList.length) : Q4O T n = true := by
  unfold Q4O; rw [Bool.or_eq_true]; refine .inl (List.any_eq_true.2 ⟨T[j], ?_, by simpa using h⟩); exact List.mem_take_iff_getElem.2 ⟨j, by omega, rfl⟩
theorem Qbo {T : List Tw} {n : Nat} (h : ∀ j (hj : j < T.length), j < n → T[j].s.toList.length ≤ 100) : Q4O T n = decide (n < T.length) := by
  unfold Q4O
  have : ((T.take n).any fun t => decide (100 < t.s.toList.length)) = false := List.any_eq_false.2 fun t ht => by
    obtain ⟨j, hj, rfl⟩ := List.mem_take_iff_getElem.1 ht; have := h j (by omega) (by omega); simp; omega
  rw [this, Bool.false_or]
theorem QcV (os : List Int) (q : Nat) (i : Int) : (isV os).set q (iV i) = isV (os.set q i) := by rw [isV, isV, List.map_set]
section
variable {h : Hp} {sv : Value} {T : List Tw}
theorem c8 (X : TreeAt h sv T) : C nmE 5 [.agg #[sv], iV 300] h fun v h' => v = .bool (Q4O T 300) ∧ Ext h h' := by
  obtain ⟨ta, tc, rfl⟩ := X.val; refine Qf (fu := Tryz.f5) (by kernel_rfl) rfl ?_; have S := SH.start h; refine Qd ?_; refine Yh S gn rfl rfl fun b1 g nb1 S => ?_; refine Q3 gn rfl rfl ?_; refine Kz ?_; refine Q3 gn rfl rfl ?_; refine Q5 ?_; refine Qg ?_; refine QH [(5, _)] [(1, _), (2, _)] (by repeat (first | exact trivial | refine ⟨rfl, ?_⟩)) (fun kk lv hh => ∃ j : Nat, lv = [(5, iV j)] ∧ kk = 300 - j ∧ j ≤ 300 ∧ SH h [] [cR b1 (.cells [.slice ta T.length tc] 24 0)] hh ∧ ∀ i (hi : i < T.length), i < j → T[i].s.toList.length ≤ 100) (n := 300) ?_ fun kk lv hh hI => ?_
  · exact ⟨0, rfl, rfl, by omega, S, fun i _ hi => by omega⟩
  obtain ⟨j, rfl, hkk, hj3, S, hs⟩ := hI; refine Qj ?_; refine Qd ?_; refine Q4 gn rfl rfl ?_; refine Q0 (off := 0) gn rfl rfl (by kernel_rfl) ?_; refine Q6 gn rfl rfl (by kernel_rfl) (S.cel 0 rfl) rfl ?_; refine QI gn rfl rfl (by kernel_rfl) ?_; refine Z9 gn rfl rfl rfl ?_; refine Q4 gn rfl rfl ?_
  refine ZU (n := 3) rfl rfl rfl gn rfl (fun hb => by
      refine Q4 (gy rfl rfl rfl hb) rfl rfl ?_; refine Q4 (gy rfl rfl rfl hb) rfl rfl ?_; refine Z9 (gy rfl rfl rfl hb) rfl rfl rfl ?_
      exact Q5 ⟨rfl, rfl, 3, rfl, rfl⟩) ?_
  refine Q5 ?_; refine Qa rfl (fun hb => ?_) fun hb => ?_
  · skip
    refine Qe ?_
    obtain ⟨hj, hj3⟩ : j < T.length ∧ j < 300 := by
      simp only [Bool.and_eq_true, decide_eq_true_eq] at hb; omega
    obtain ⟨b, o, c, cs, e, m, hv, hg, hlb, hl6, hat⟩ := X.at (by omega); have hta : ta = some ⟨b, o, none⟩ := by injection hv
    have hw : cs[o + Int.toNat (j : Int) * 6 + 1]? = some (.string T[j].s) := by rw [Int.toNat_natCast]; exact Y0 (hat j hj) (by omega) rfl
    refine Qj ?_; refine Qg ?_; refine Qd ?_; refine Q0 (off := 0) gn rfl rfl (by kernel_rfl) ?_; refine Q6 gn rfl rfl (by kernel_rfl) (S.cel 0 rfl) rfl ?_; refine Q4 gn rfl rfl ?_; rw [hta]; refine Q7 (zz := 6) gn rfl rfl rfl (by kernel_rfl) (by omega) (by omega) ?_; rw [← hta]; refine Q0 (off := 1) gn rfl rfl (by kernel_rfl) ?_; refine Q6 gn rfl rfl (by kernel_rfl) (S.old0 hg hlb) hw ?_; refine Jv gn rfl rfl (by kernel_rfl) ?_; rw [Jo]; refine JB gn rfl rfl rfl ?_; refine Q5 ?_; refine Qa rfl (fun hb => ?_) fun hb => ?_
    · skip
      refine Qd ?_; refine Q3 gn rfl rfl ?_; refine Q5 ?_; refine Qc ?_; refine ⟨.inl rfl, _, rfl, ?_⟩; exact ⟨by rw [Qbn hj hj3 (by simp at hb; omega)]; rfl, S.e0⟩
    refine Qe ?_; refine Q8 (by kernel_rfl) ?_; refine Q4 gn rfl rfl ?_; refine QO gn rfl rfl rfl (by omega) (by omega) ?_; refine Q3 gn rfl rfl ?_; refine Q5 ?_
    exact Kc (300 - (j + 1)) (by omega) [(5, _)] (by repeat (first | exact trivial | refine ⟨rfl, ?_⟩)) ⟨j + 1, rfl, rfl, by omega, S, fun i hi hij => by
      have hsw : T[j].s.toList.length ≤ 100 := by simp at hb; omega
      by_cases e : i = j
      · subst e; exact hsw
      exact hs i hi (by omega)⟩
  refine QZ ?_; refine Qt ?_; refine Qu ?_; refine QY ?_; refine Qd ?_; refine Q0 (off := 0) gn rfl rfl (by kernel_rfl) ?_; refine Q6 gn rfl rfl (by kernel_rfl) (S.cel 0 rfl) rfl ?_; refine QI gn rfl rfl (by kernel_rfl) ?_; refine Q4 gn rfl rfl ?_; refine JB gn rfl rfl rfl ?_; refine Q3 gn rfl rfl ?_; refine Q5 ?_; refine Qc ?_; refine ⟨.inl rfl, _, rfl, ?_⟩
  exact ⟨by
    rw [Qbo fun i hi h3 => hs i hi (by simp at hb; omega)]; show Value.bool _ = Value.bool _
    congr 1
    rw [Bool.eq_iff_iff, decide_eq_true_eq, decide_eq_true_eq]; omega, S.e0⟩
theorem c23 {p : Nat} (X : TreeAt h sv T) (hT : T.length ≤ 1000) (hp : p < T.length) (hk : ∀ t, t ∈ T → t.kids.length ≤ 9223372036854775807) : C nmE 10 [.agg #[sv], iV p] h fun v h' => (∃ r, v = iV r ∧ IsUp T p r) ∧ Ext h h' := by
  obtain ⟨ta, tc, rfl⟩ := X.val; refine Qf (fu := Tryz.f10) (by kernel_rfl) rfl ?_; have S := SH.start h; refine Qd ?_; refine Yh S gn rfl rfl fun b1 g nb1 S => ?_; refine Q3 gn rfl rfl ?_; refine Kz ?_; refine Q3 gn rfl rfl ?_; refine Q5 ?_; refine Qg ?_; refine QH [(5, _)] [(1, _), (2, _)] (by repeat (first | exact trivial | refine ⟨rfl, ?_⟩)) (fun kk lv hh => ∃ i : Nat, lv = [(5, iV i)] ∧ kk = T.length - i ∧ i ≤ T.length ∧ SH h [] [cR b1 (.cells [.slice ta T.length tc] 24 0)] hh ∧ ∀ i', i' < i → (p : Int) ∉ Yt T i') (n := (T.length)) ?_ fun kk lv hh hI => ?_
  · exact ⟨0, rfl, rfl, by omega, S, fun i hi => by omega⟩
  obtain ⟨i, rfl, hkk, hi3, S, hs⟩ := hI; refine Qj ?_; refine Qd ?_; refine Q4 gn rfl rfl ?_; refine Q4 gn rfl rfl ?_; refine Z9 gn rfl rfl rfl ?_; refine Q4 gn rfl rfl ?_
  refine ZU (n := 5) rfl rfl rfl gn rfl (fun hb => by
      refine Q4 (gy rfl rfl rfl hb) rfl rfl ?_; refine Q0 (off := 0) (gy rfl rfl rfl hb) rfl rfl (by kernel_rfl) ?_; refine Q6 (gy rfl rfl rfl hb) rfl rfl (by kernel_rfl) (S.cel 0 rfl) rfl ?_; refine QI (gy rfl rfl rfl hb) rfl rfl (by kernel_rfl) ?_; refine Z9 (gy rfl rfl rfl hb) rfl rfl rfl ?_
      exact Q5 ⟨rfl, rfl, 5, rfl, rfl⟩) ?_
  refine Q5 ?_; refine Qa rfl (fun hb => ?_) fun hb => ?_
  · skip
    refine Qe ?_
    obtain ⟨hip, hi⟩ : i < p ∧ i < T.length := by
      simp only [Bool.and_eq_true, decide_eq_true_eq] at hb; omega
    obtain ⟨b, o, c, cs, e, m, hv, hg, hlb, hl6, hat⟩ := X.at (by omega); have hta : ta = some ⟨b, o, none⟩ := by injection hv
    have hm := X.2 _ (List.getElem_mem hi); have hkl := hk _ (List.getElem_mem hi); have hka := Q24 (List.getElem?_eq_getElem hi); have hw := hat i hi; generalize T[i] = w at hm hkl hka hw; obtain ⟨K, s, N, L, Co, ks, kids⟩ := w; simp only at hm hkl hka; obtain ⟨ka, kc, rfl⟩ := hm.valM; have hw5 : cs[o + Int.toNat (i : Int) * 6 + 5]? = some (.slice ka kids.length kc) := by rw [Int.toNat_natCast]; exact Y0 hw (by omega) rfl
    refine Qj ?_; refine Qg ?_; refine Qd ?_; refine Q3 gn rfl rfl ?_; refine Q5 ?_; refine Qg ?_; refine QH [(6, _)] [(1, _), (2, _), (5, _)] (by repeat (first | exact trivial | refine ⟨rfl, ?_⟩)) (fun kk lv hh => ∃ k : Nat, lv = [(6, iV k)] ∧ kk = kids.length - k ∧ k ≤ kids.length ∧ SH h [] [cR b1 (.cells [.slice ta T.length tc] 24 0)] hh ∧ (p : Int) ∉ kids.take k) (n := (kids.length)) ?_ fun kk lv hh hI => ?_
    · exact ⟨0, rfl, rfl, by omega, S, by simp⟩
    obtain ⟨k, rfl, hkk2, hk3, S, hs2⟩ := hI; refine Qj ?_; refine Qd ?_; refine Q4 gn rfl rfl ?_; refine Q0 (off := 0) gn rfl rfl (by kernel_rfl) ?_; refine Q6 gn rfl rfl (by kernel_rfl) (S.cel 0 rfl) rfl ?_; refine Q4 gn rfl rfl ?_; rw [hta]; refine Q7 (zz := 6) gn rfl rfl rfl (by kernel_rfl) (by omega) (by omega) ?_; rw [← hta]; refine Q0 (off := 5) gn rfl rfl (by kernel_rfl) ?_; refine Q6 gn rfl rfl (by kernel_rfl) (S.old0 hg hlb) hw5 ?_; refine QI gn rfl rfl (by kernel_rfl) ?_; refine Z9 gn rfl rfl rfl ?_; refine Q5 ?_; refine Qa rfl (fun hb => ?_) fun hb => ?_
    · skip
      refine Qe ?_; refine Qj ?_; refine Qg ?_; refine Qd ?_; refine Q0 (off := 0) gn rfl rfl (by kernel_rfl) ?_; refine Q6 gn rfl rfl (by kernel_rfl) (S.cel 0 rfl) rfl ?_; refine Q4 gn rfl rfl ?_; rw [hta]; refine Q7 (zz := 6) gn rfl rfl rfl (by kernel_rfl) (by omega) (by omega) ?_; rw [← hta]; refine Q0 (off := 5) gn rfl rfl (by kernel_rfl) ?_; refine Q6 gn rfl rfl (by kernel_rfl) (S.old0 hg hlb) hw5 ?_; refine Q4 gn rfl rfl ?_; have hkl2 : k < kids.length := by simp at hb; omega
      obtain ⟨kb, ko, kc', kcs, ke, km, hv2, hg2, hlt2, hat2⟩ := hm.atM (by omega); have hka2 : ka = some ⟨kb, ko, none⟩ := by injection hv2
      rw [hka2]; refine Q7 (zz := 1) gn rfl rfl rfl (by kernel_rfl) (by omega) (by omega) ?_; rw [← hka2]; refine Q6 gn rfl rfl (by kernel_rfl) (S.old0 hg2 hlt2) (by rw [Int.toNat_natCast, Nat.mul_one]; exact hat2 k hkl2) ?_; refine Q4 gn rfl rfl ?_; refine Qq gn rfl rfl rfl ?_; refine Q5 ?_; refine Qa rfl (fun hb => ?_) fun hb => ?_
      · skip
        refine Qd ?_; refine Q4 gn rfl rfl ?_; refine Q3 gn rfl rfl ?_; refine Q5 ?_; refine Qc ?_; refine ⟨.inl rfl, _, rfl, ?_⟩
        exact ⟨⟨_, rfl, .inl ⟨i, rfl, hip, hi, by
          rw [hka]; have hkk : kids[k] = (p : Int) := by simpa using hb
          rw [← hkk]; exact List.getElem_mem hkl2, hs⟩⟩, S.e0⟩
      refine Qe ?_; refine Q8 (by kernel_rfl) ?_; refine Q4 gn rfl rfl ?_; refine QO gn rfl rfl rfl (by omega) (by omega) ?_; refine Q3 gn rfl rfl ?_; refine Q5 ?_
      exact Kc (kids.length - (k + 1)) (by omega) [(6, _)] (by repeat (first | exact trivial | refine ⟨rfl, ?_⟩)) ⟨k + 1, rfl, rfl, by omega, S, by
        have hkk : ¬ kids[k] = (p : Int) := by simpa using hb
        rw [List.take_add_one, List.getElem?_eq_getElem hkl2, List.mem_append, not_or]
        exact ⟨hs2, by simp; exact fun e => hkk e.symm⟩⟩
    refine QZ ?_; refine Qt ?_; refine Qu ?_; refine QY ?_; refine Q8 (by kernel_rfl) ?_; refine Q4 gn rfl rfl ?_; refine QO gn rfl rfl rfl (by omega) (by omega) ?_; refine Q3 gn rfl rfl ?_; refine Q5 ?_
    exact Kc (T.length - (i + 1)) (by omega) [(5, _)] (by repeat (first | exact trivial | refine ⟨rfl, ?_⟩)) ⟨i + 1, rfl, rfl, by omega, S, fun i' hi' => by
      have hke : kids.length ≤ k := by simp at hb; omega
      by_cases e : i' = i
      · subst e; rw [hka]; have : kids.take k = kids := List.take_of_length_le hke; rw [this] at hs2; exact hs2
      exact hs i' (by omega)⟩
  refine QZ ?_; refine Qt ?_; refine Qu ?_; refine QY ?_; refine Qd ?_; refine Q3 gn rfl rfl ?_; refine Q5 ?_; refine Qc ?_; refine ⟨.inl rfl, _, rfl, ?_⟩; exact ⟨⟨_, rfl, .inr ⟨rfl, fun i' h1 h2 => hs i' (by simp at hb; omega)⟩⟩, S.e0⟩
end
end Go.Proofs.YtkidomfnmpnmaaaGreatDoor
namespace Go.Proofs.YtkidomfnmpnmaaaGreatDoor
open Go.X Go.Nam
structure SlW where
  v : Value
  c : List Value
  n : Nat
  b : List Nat
structure RsW where
  me : SlW
  ow : SlW
  lo : SlW
  cl : SlW
  gl : SlW
  co : SlW
  ev : SlW
  fu : SlW
  wr : SlW
  sc : SlW
  gm : Nat
  rm : Nat
  cv : List (Value × List Nat)
  sp : List Res
  cp : List Res
def Q67 (m : Int × Int) : Value := .agg #[iV m.1, iV m.2]
def meC (l : List (Int × Int)) : List Value := l.flatMap fun m => [iV m.1, iV m.2]
def wrC (l : List (Int × Int × Int)) : List Value := l.flatMap fun m => [iV m.1, iV m.2.1, iV m.2.2]
def fuC : List Fun → List (Value × List Nat) → List Value
  | f :: l, c :: r => [iV f.tw, iV f.up, .string f.nm, c.1] ++ fuC l r
  | _, _ => []
def caP : List Fun → List (Value × List Nat) → List Res
  | f :: l, c :: r => slR 3 0 c.1 (isV f.caps) f.caps.length c.2 :: caP l r
  | _, _ => []
def scC : List Sco → List Nat → List Value
  | s :: l, r :: rs => [.map (some r), iV s.ow] ++ scC l rs
  | _, _ => []
def scP : List Sco → List Nat → List Res
  | s :: l, r :: rs => mpR Value.string iV r s.loc :: scP l rs
  | _, _ => []
def Q0x (K : Int) : Option Nat :=
  if K = 11 then some 36 else if K = 9 then some 37 else if K = 36 then some 38 else if K = 12 then some 39 else if K = 13 then some 40 else if K = 29 then some 41 else if K = 5 then some 42 else if K = 19 then some 43 else if K = 21 ∨ K = 22 then some 44 else if K = 33 then some 45 else if ZI K = true then some 47 else none
def funV (f : Nat) : Value := .func (.func f) #[] #[]
abbrev SlW.R (w : SlW) (e z : Nat) : Res := slR e z w.v w.c w.n w.b
abbrev rsC (sv : Value) (st : Nst) (w : RsW) : List Value := [sv, w.me.v, w.ow.v, w.lo.v, w.cl.v, w.gl.v, w.co.v, w.ev.v, w.fu.v, iV st.main, w.wr.v, .map (some w.gm), w.sc.v, iV st.owner, iV st.inner, iV st.mains, .map (some w.rm)]
abbrev rsL (rb : Nat) (sv : Value) (st : Nst) (w : RsW) : List Res :=
  cR rb (.cells (rsC sv st w) 62 0) :: w.me.R 38 1 :: w.ow.R 3 0 :: w.lo.R 3 0 :: w.cl.R 3 0 :: w.gl.R 3 0 :: w.co.R 3 0 :: w.ev.R 3 0 :: w.fu.R 45 3 :: w.wr.R 55 2 :: mpR Value.string Q67 w.gm st.glob :: w.sc.R 120 1 :: mpR iV funV w.rm Q0x :: (w.sp ++ w.cp)
structure RsE (st : Nst) (rs : List Nat) (w : RsW) : Prop where
  me : w.me.c = meC st.means
  men : w.me.n = st.means.length
  ow : w.ow.c = isV st.owners
  own : w.ow.n = st.owners.length
  lo : w.lo.c = isV st.lo
  lon : w.lo.n = st.lo.length
  cl : w.cl.c = isV st.cl
  cln : w.cl.n = st.cl.length
  gl : w.gl.c = isV st.gl
  gln : w.gl.n = st.gl.length
  co : w.co.c = isV st.cp
  con : w.co.n = st.cp.length
  ev : w.ev.c = isV st.ev
  evn : w.ev.n = st.ev.length
  fu : w.fu.c = fuC st.funcs w.cv
  fun' : w.fu.n = st.funcs.length
  wr : w.wr.c = wrC st.wrong
  wrn : w.wr.n = st.wrong.length
  sc : w.sc.c = scC st.scopes rs
  scn : w.sc.n = st.scopes.length
  rsn : rs.length = st.scopes.length
  cv : w.cv.length = st.funcs.length
  sp : w.sp = scP st.scopes rs
  cp : w.cp = caP st.funcs w.cv
  cpb : st.cp.length ≤ 1000000
  lsb : st.lo.length ≤ 1000000 ∧ st.cl.length ≤ 1000000 ∧ st.gl.length ≤ 1000000 ∧ st.ev.length ≤ 1000000
def rsR (rb : Nat) (sv : Value) (st : Nst) (rs bs : List Nat) : Res := Qct (fun L => ∃ w, RsE st rs w ∧ L = rsL rb sv st w) bs
section
variable {h0 h : Hp} {ds bs rs : List Nat} {A : List Res} {rb : Nat} {sv : Value} {st : Nst} {w : RsW}
theorem Qo (S : SH h0 ds (A ++ [rsR rb sv st rs bs]) h) : ∃ w, RsE st rs w ∧ owns (rsL rb sv st w) = bs ∧ SH h0 ds (A ++ rsL rb sv st w) h := by
  obtain ⟨L, ⟨w, e, rfl⟩, ho, S⟩ := Qc3 S; exact ⟨w, e, ho, S⟩
theorem Qp (S : SH h0 ds (A ++ rsL rb sv st w) h) (e : RsE st rs w) : SH h0 ds (A ++ [rsR rb sv st rs (owns (rsL rb sv st w))]) h := Qc2 S ⟨w, e, rfl⟩
theorem QX (S : SH h0 ds (A ++ rsL rb sv st w) h) (e : RsE st rs w) : ∃ bs', SH h0 ds [rsR rb sv st rs bs'] h :=
  ⟨_, (Qp S e).sub (A := [rsR rb sv st rs (owns (rsL rb sv st w))]) (B := A) List.perm_append_comm⟩
end
theorem Qay (l : List (Int × Int × Int)) (m : Int × Int × Int) : wrC (l ++ [m]) = wrC l ++ [iV m.1, iV m.2.1, iV m.2.2] := by simp [wrC]
theorem Q9q : ∀ l : List (Int × Int), (meC l).length = l.length * 2
  | [] => rfl
  | m :: l => by show (_ :: _ :: meC l).length = _; simp [Q9q l]; omega
theorem Q68 : ∀ (l : List (Int × Int)) (i : Nat) (m : Int × Int), i < l.length → (meC l).take (i * 2) ++ [iV m.1, iV m.2] ++ (meC l).drop (i * 2 + 2) = meC (l.set i m)
  | x :: l, 0, m, _ => rfl
  | x :: l, i + 1, m, h => by
    have e : meC (x :: l) = iV x.1 :: iV x.2 :: meC l := rfl; have e2 : (i + 1) * 2 = i * 2 + 2 := by omega
    rw [e, e2, List.take_succ_cons, List.take_succ_cons, show i * 2 + 2 + 2 = (i * 2 + 2) + 1 + 1 by omega, List.drop_succ_cons, List.drop_succ_cons, List.set_cons_succ]; have := Q68 l i m (by simpa using h); show _ = iV x.1 :: iV x.2 :: meC (l.set i m); rw [← this]; rfl
theorem Q7d : ∀ (l : List Fun) (c : List (Value × List Nat)) (f : Fun) (x : Value × List Nat), c.length = l.length → fuC (l ++ [f]) (c ++ [x]) = fuC l c ++ [iV f.tw, iV f.up, .string f.nm, x.1]
  | [], [], f, x, _ => rfl
  | g :: l, y :: c, f, x, h => by
    show [_, _, _, _] ++ fuC (l ++ [f]) (c ++ [x]) = ([_, _, _, _] ++ fuC l c) ++ _; rw [Q7d l c f x (by simpa using h), List.append_assoc]
  | [], _ :: _, _, _, h => by cases h
  | _ :: _, [], _, _, h => by cases h
theorem Q7o : ∀ (l : List Fun) (c : List (Value × List Nat)) (f : Fun) (x : Value × List Nat), c.length = l.length → caP (l ++ [f]) (c ++ [x]) = caP l c ++ [slR 3 0 x.1 (isV f.caps) f.caps.length x.2]
  | [], [], f, x, _ => rfl
  | g :: l, y :: c, f, x, h => by
    show _ :: caP (l ++ [f]) (c ++ [x]) = (_ :: caP l c) ++ _; rw [Q7o l c f x (by simpa using h)]; rfl
  | [], _ :: _, _, _, h => by cases h
  | _ :: _, [], _, _, h => by cases h
theorem Q3k : ∀ (l : List Sco) (c : List Nat) (f : Sco) (x : Nat), c.length = l.length → scC (l ++ [f]) (c ++ [x]) = scC l c ++ [.map (some x), iV f.ow]
  | [], [], f, x, _ => rfl
  | g :: l, y :: c, f, x, h => by
    show [_, _] ++ scC (l ++ [f]) (c ++ [x]) = ([_, _] ++ scC l c) ++ _; rw [Q3k l c f x (by simpa using h), List.append_assoc]
  | [], _ :: _, _, _, h => by cases h
  | _ :: _, [], _, _, h => by cases h
theorem Q3j : ∀ (l : List Sco) (c : List Nat) (f : Sco) (x : Nat), c.length = l.length → scP (l ++ [f]) (c ++ [x]) = scP l c ++ [mpR Value.string iV x f.loc]
  | [], [], f, x, _ => rfl
  | g :: l, y :: c, f, x, h => by
    show _ :: scP (l ++ [f]) (c ++ [x]) = (_ :: scP l c) ++ _; rw [Q3j l c f x (by simpa using h)]; rfl
  | [], _ :: _, _, _, h => by cases h
  | _ :: _, [], _, _, h => by cases h
theorem Q5M : ∀ (l : List Sco) (c : List Nat), c.length = l.length → (scC l c).length = l.length * 2
  | [], [], _ => rfl
  | f :: l, x :: c, h => by
    show ([_, _] ++ scC l c).length = _; rw [List.length_append, Q5M l c (by simpa using h)]; simp; omega
  | [], _ :: _, h => by cases h
  | _ :: _, [], h => by cases h
theorem Q8T : ∀ (l : List Sco) (c : List Nat) (rest : List Value) (i : Nat) (s : Sco) (r : Nat), l[i]? = some s → c[i]? = some r → ((scC l c ++ rest).drop (i * 2)).take 2 = [.map (some r), iV s.ow]
  | s :: l, r :: c, rest, 0, s', r', h1, h2 => by
    simp only [List.getElem?_cons_zero, Option.some.injEq] at h1 h2; subst h1; subst h2; rfl
  | s :: l, r :: c, rest, i + 1, s', r', h1, h2 => by
    have e : scC (s :: l) (r :: c) ++ rest = .map (some r) :: iV s.ow :: (scC l c ++ rest) := rfl; rw [e, show (i + 1) * 2 = i * 2 + 1 + 1 by omega, List.drop_succ_cons, List.drop_succ_cons]; exact Q8T l c rest i s' r' (by simpa using h1) (by simpa using h2)
  | [], _, _, _, _, _, h1, _ => by simp at h1
  | _ :: _, [], _, _, _, _, _, h2 => by simp at h2
theorem Q6G : ∀ (l : List Sco) (c : List Nat) (i : Nat) (s : Sco) (r : Nat), l[i]? = some s → c[i]? = some r → (scP l c)[i]? = some (mpR Value.string iV r s.loc)
  | s :: l, r :: c, 0, s', r', h1, h2 => by
    simp only [List.getElem?_cons_zero, Option.some.injEq] at h1 h2; subst h1; subst h2; rfl
  | s :: l, r :: c, i + 1, s', r', h1, h2 => Q6G l c i s' r' (by simpa using h1) (by simpa using h2)
  | [], _, _, _, _, h1, _ => by simp at h1
  | _ :: _, [], _, _, _, _, h2 => by simp at h2
theorem Q8Q : ∀ (l : List Sco) (c : List Nat) (i : Nat) (r : Nat) (g : Sco → Sco), c[i]? = some r → ∀ s, l[i]? = some s → (scP l c).set i (mpR Value.string iV r (g s).loc) = scP (l.modify i g) c
  | s :: l, r :: c, 0, r', g, h2, s', h1 => by
    simp only [List.getElem?_cons_zero, Option.some.injEq] at h1 h2; subst h1; subst h2; rfl
  | s :: l, r :: c, i + 1, r', g, h2, s', h1 => by
    rw [List.modify_succ_cons]; show _ :: (scP l c).set i _ = _ :: scP (l.modify i g) c; rw [Q8Q l c i r' g (by simpa using h2) s' (by simpa using h1)]
  | [], _, _, _, _, _, _, h1 => by simp at h1
  | _ :: _, [], _, _, _, h2, _, _ => by simp at h2
theorem Q8S (g : Sco → Sco) (hg : ∀ s, (g s).ow = s.ow) : ∀ (l : List Sco) (c : List Nat) (i : Nat), scC (l.modify i g) c = scC l c
  | [], c, i => by rw [List.modify_nil]
  | s :: l, [], i => by cases i <;> simp [scC]
  | s :: l, r :: c, 0 => by rw [List.modify_zero_cons]; simp only [scC, hg]
  | s :: l, r :: c, i + 1 => by rw [List.modify_succ_cons]; simp only [scC, Q8S g hg l c i]
end Go.Proofs.YtkidomfnmpnmaaaGreatDoor
namespace Go.Proofs.YtkidomfnmpnmaaaGreatDoor
open Go.X Go.Nam
def vw (T : List Tw) : V where
  n := T.length
  K i := match T[i.toNat]? with | some w => w.K | none => 0
  s i := match T[i.toNat]? with | some w => w.s | none => .empty
  N i := match T[i.toNat]? with | some w => w.N | none => 0
  ln i := match T[i.toNat]? with | some w => w.L | none => 0
  co i := match T[i.toNat]? with | some w => w.C | none => 0
  ks i := match T[i.toNat]? with | some w => w.kids | none => []
structure TwRd (h0 : Hp) (ta : Option Addr) (T : List Tw) (i : Nat) (w : Tw) (b o : Nat) (cs : List Value) (e : TypeId) (m : Nat) : Prop where
  ta : ta = some ⟨b, o, none⟩
  g : h0.get b = some (.cells cs e m)
  lt : b < h0.n
  len : o + Int.toNat (i : Int) * 6 + 6 ≤ cs.length
  all : (cs.drop (o + Int.toNat (i : Int) * 6)).take 6 = w.cells
  K : (vw T).K i = w.K
  s : (vw T).s i = w.s
  N : (vw T).N i = w.N
  ln : (vw T).ln i = w.L
  co : (vw T).co i = w.C
  ks : (vw T).ks i = w.kids
  row : RowV h0 w.ks (isV w.kids)
theorem TwRd.at {h0 : Hp} {ta : Option Addr} {T : List Tw} {i : Nat} {w : Tw} {b o : Nat} {cs : List Value} {e : TypeId} {m : Nat} (x : TwRd h0 ta T i w b o cs e m) (f : Nat) (hf : f < 6) {v : Value} (hv : w.cells[f]? = some v) : cs[o + Int.toNat (i : Int) * 6 + f]? = some v := Y0 x.all hf hv
theorem JK {h0 : Hp} {ta : Option Addr} {tc i : Nat} {T : List Tw} (X : TreeAt h0 (.slice ta T.length tc) T) (hi : i < T.length) : ∃ w b o cs e m, T[i]? = some w ∧ TwRd h0 ta T i w b o cs e m := by
  obtain ⟨b, o, c, cs, e, m, hv, hg, hlb, hl6, hat⟩ := X.at (show 0 < T.length by omega); have hw : T[i]? = some T[i] := List.getElem?_eq_getElem hi; refine ⟨T[i], b, o, cs, e, m, hw, by injection hv, hg, hlb, by rw [Int.toNat_natCast]; omega, by rw [Int.toNat_natCast]; exact hat i hi, ?_, ?_, ?_, ?_, ?_, ?_, X.2 _ (List.getElem_mem hi)⟩
  all_goals simp only [vw, Int.toNat_natCast, hw]
theorem el33 : ElN nmE 33 55 2 23 := ⟨by kernel_rfl, by kernel_rfl, by kernel_rfl, .agg #[.int .i64 0, .int .i64 0, .int .i64 0], by kernel_rfl, rfl⟩
section
variable {h0 hE : Hp} {bs rs : List Nat} {rb : Nat} {sv : Value} {st : Nst} {T : List Tw} {i : Nat}
theorem n21 {e : Int} (S0 : SH h0 [] [rsR rb sv st rs bs] hE) (X : TreeAt h0 sv T) (hi : i < T.length) (hw : st.wrong.length ≤ 1000000) : C nmE 21 [Zx rb, iV i, iV e] hE fun _ g' => ∃ bs', SH hE bs [rsR rb sv (tell (vw T) st i e) rs bs'] g' := by
  obtain ⟨ta, tc, rfl⟩ := X.val; obtain ⟨w0, b, o, cs, ee, m, hw0, Q⟩ := JK X hi; have hta := Q.ta; obtain ⟨ka, kc, hks⟩ := Q.row.valM; obtain ⟨K0, s0, N0, L0, C0, k0, kids0⟩ := w0; simp only at hks; subst hks; have hall : (cs.drop (o + Int.toNat (i : Int) * 6)).take 6 = twC K0 s0 N0 L0 C0 (.slice ka kids0.length kc) := Q.all; refine Qf (fu := Tryz.f21) (by kernel_rfl) rfl ?_; have S := S0.enter; obtain ⟨w, E, ho, S⟩ := Qo (A := []) S; simp only [List.nil_append] at S; refine Qd ?_; refine Q4 gn rfl rfl ?_; refine Q9 gn rfl rfl ?_; refine Q0 (off := 0) gn rfl rfl (by kernel_rfl) ?_; refine Q0 (off := 0) gn rfl rfl (by kernel_rfl) ?_; refine Q6 gn rfl rfl (by kernel_rfl) (S.cel 0 rfl) rfl ?_
  refine Q4 gn rfl rfl ?_; rw [hta]; refine Q7 (zz := 6) gn rfl rfl rfl (by kernel_rfl) (by omega) (by omega) ?_; refine Qs (n := 6) gn rfl rfl (by kernel_rfl) (by kernel_rfl) (S0.two S0.own0 S Q.g Q.lt) Q.len ?_; rw [hall, ← hta]; refine Zz (zv := .agg #[.int .i64 0, .string .empty, .int .i64 0, .int .i64 0, .int .i64 0, .slice none 0 0]) S gn rfl (by kernel_rfl) fun b1 g nb1 S => ?_; refine QV (n := 6) 0 S gn rfl rfl (by kernel_rfl) (by kernel_rfl) rfl rfl (by decide) rfl (fun g S => ag0) fun g S => ?_; simp only [List.set_cons_succ, List.set_cons_zero] at S; refine Q5 ?_
  refine Z3 [(0, []), (1, []), (2, []), (3, []), (4, []), (5, []), (6, []), (7, []), (8, []), (9, []), (10, []), (11, []), (12, []), (13, []), (14, []), (15, [])] (by kernel_rfl) (by kernel_rfl) (by kernel_rfl) (by kernel_rfl) ?_; refine Q4 gn rfl rfl ?_; refine Q4 gn rfl rfl ?_; refine Q9 gn rfl rfl ?_; refine Q0 (off := 10) gn rfl rfl (by kernel_rfl) ?_; refine Q6 gn rfl rfl (by kernel_rfl) (S.cel 1 rfl) rfl ?_; refine Q0 (off := 3) gn rfl rfl (by kernel_rfl) ?_; refine Q6 gn rfl rfl (by kernel_rfl) (S.cel 0 rfl) rfl ?_; refine Q0 (off := 4) gn rfl rfl (by kernel_rfl) ?_; refine Q6 gn rfl rfl (by kernel_rfl) (S.cel 0 rfl) rfl ?_; refine Q4 gn rfl rfl ?_
  refine Yq (cs := #[iV L0, iV C0, iV e]) (zv := .agg #[.int .i64 0, .int .i64 0, .int .i64 0]) (pl := [(0, 1), (1, 1), (2, 1)]) [(0, _), (1, _), (2, _)] gn rfl (by kernel_rfl) (by kernel_rfl) rfl (by kernel_rfl) ?_; refine Qn (cs := #[iV L0, iV C0, iV e]) (e := 55) (z := 2) (zv := .agg #[.int .i64 0, .int .i64 0, .int .i64 0]) [(0, _)] S gn rfl (by kernel_rfl) (by kernel_rfl) (by kernel_rfl) (by kernel_rfl) rfl (by kernel_rfl) fun b2 g nb2 S => ?_; refine KC (e := 55) (z := 2) (by' := 23) 11 0 S el33 gn rfl rfl rfl rfl rfl rfl (by rfl) (by have := E.wrn; omega) (fun s' bs' g S => ag0) fun s' bs' g S => ?_; simp only [List.set_cons_succ, List.set_cons_zero] at S
  have hcv : cellV s' = true := (S.sl 11 rfl).cellV; refine Q9 gn rfl rfl ?_; refine Q0 (off := 10) gn rfl rfl (by kernel_rfl) ?_; refine Zy 2 S gn rfl rfl hcv (by kernel_rfl) rfl (by decide) (show 10 < 17 by decide) (fun g S => ag0) fun g S => ?_; simp only [List.set_cons_succ, List.set_cons_zero] at S; refine Q5 ?_; refine ⟨.inr rfl, _, rfl, ?_⟩
  exact QX (A := [cR b2 _, cR b1 _]) (w := { w with wr := ⟨s', w.wr.c ++ [iV L0, iV C0, iV e], w.wr.n + 1, bs'⟩ }) S { E with
      wr := by show w.wr.c ++ _ = wrC (st.wrong ++ [_]); rw [Qay, E.wr, Q.ln, Q.co]
      wrn := by show w.wr.n + 1 = (st.wrong ++ [_]).length; rw [List.length_append, E.wrn]; rfl }
end
section
variable {h : Hp} {K : Int} {v : Value} {ks : List Int}
theorem n120 (R : RowV h v (isV ks)) (hl : ks.length < 1000000) : C nmE 120 [v, iV K] h fun v h' => ∃ r, v = iV r ∧ Ext h h' ∧ (0 ≤ r ↔ K ∈ ks) := by
  obtain ⟨a, c, rfl⟩ := R.valM; refine Qf (fu := Tryz.f120) (by kernel_rfl) rfl ?_; have S := SH.start h; refine Qd ?_; refine Q3 gn rfl rfl ?_; refine Kz ?_; refine Q4 gn rfl rfl ?_; refine QI gn rfl rfl (by kernel_rfl) ?_; refine Q4 gn rfl rfl ?_; refine Q5 ?_; refine Qg ?_; refine QH [(8, _)] [(0, _), (1, _), (7, _)] (by repeat (first | exact trivial | refine ⟨rfl, ?_⟩)) (fun kk lv hh => ∃ j : Nat, lv = [(8, iV j)] ∧ kk = ks.length - j ∧ j ≤ ks.length ∧ SH h [] [] hh ∧ ∀ i (hi : i < ks.length), i < j → ks[i] ≠ K) (n := (ks.length)) ?_ fun kk lv hh hI => ?_
  · exact ⟨0, rfl, rfl, by omega, S, fun i _ hi => by omega⟩
  obtain ⟨j, rfl, hk, hj, S, hs⟩ := hI; refine Qd ?_; refine Z9 gn rfl rfl rfl ?_; refine Q5 ?_; refine Qj ?_; refine Qa rfl (fun hb => ?_) fun hb => ?_
  · skip
    refine Qe ?_; have hj : j < ks.length := by simp at hb; omega
    obtain ⟨b, o, c', cs, e, m, hv, hg, hlt, hat⟩ := R.atM (by omega); cases hv; have hc := hat j hj; refine Qj ?_; refine Qg ?_; refine Qd ?_; refine Q4 gn rfl rfl ?_; refine Q3 gn rfl rfl ?_; refine Zw ?_; refine Q4 gn rfl rfl ?_; refine Q4 gn rfl rfl ?_; refine Q4 gn rfl rfl ?_; refine Q7 (zz := 1) gn rfl rfl rfl (by kernel_rfl) (by omega) (by omega) ?_; refine Q6 gn rfl rfl (by kernel_rfl) (S.old0 hg hlt) (by rw [Int.toNat_natCast, Nat.mul_one]; exact hc) ?_; refine Qq gn rfl rfl rfl ?_; refine Q5 ?_; refine Qa rfl (fun hb => ?_) fun hb => ?_
    · skip
      refine Qd ?_; refine Q4 gn rfl rfl ?_; refine Q3 gn rfl rfl ?_; refine Q5 ?_; refine Qc ?_; refine ⟨.inl rfl, _, rfl, ?_⟩; exact ⟨j, rfl, S.e0, by simp at hb; exact ⟨fun _ => hb ▸ List.getElem_mem hj, fun _ => by omega⟩⟩
    refine Qe ?_; refine Q8 (by kernel_rfl) ?_; refine QO gn rfl rfl rfl (by omega) (by omega) ?_; refine Q4 gn rfl rfl ?_; refine Q5 ?_
    exact Kc (ks.length - (j + 1)) (by omega) [(8, _)] (by repeat (first | exact trivial | refine ⟨rfl, ?_⟩)) ⟨j + 1, rfl, rfl, by omega, S, fun i hi h => by
      by_cases e : i = j
      · subst e; simp at hb; exact fun x => hb x.symm
      exact hs i hi (by omega)⟩
  refine QZ ?_; refine Qt ?_; refine Qu ?_; refine QY ?_; refine Qd ?_; refine Q3 gn rfl rfl ?_; refine Q5 ?_; refine Qc ?_; refine ⟨.inl rfl, _, rfl, ?_⟩
  exact ⟨-1, rfl, S.e0, ⟨fun h => by omega, fun hm => by
    obtain ⟨i, hi, e⟩ := List.mem_iff_getElem.1 hm
    exact absurd e (hs i hi (by simp at hb; omega))⟩⟩
theorem n107 (R : RowV h v (isV ks)) (hl : ks.length < 1000000) : C nmE 107 [v, iV K] h fun v h' => v = .bool (decide (K ∈ ks)) ∧ Ext h h' := by
  refine Qf (fu := Tryz.f107) (by kernel_rfl) rfl ?_; have S := SH.start h; refine Qd ?_; refine Q3 gn rfl rfl ?_; refine Zw ?_; refine Q4 gn rfl rfl ?_; refine Q4 gn rfl rfl ?_; refine Qb [_, _] gn rfl rfl (by kernel_rfl) rfl (C.mono (n120 R hl) ?_); rintro v g ⟨r, rfl, x, hr⟩; have S := S.grow x; refine ⟨ag0, ?_⟩; refine Y5 gn rfl rfl rfl ?_; refine Q3 gn rfl rfl ?_; refine Q5 ?_; refine Qc ?_; refine ⟨.inl rfl, _, rfl, ?_⟩; exact ⟨by rw [show decide (0 ≤ r) = decide (K ∈ ks) from decide_eq_decide.2 hr]; rfl, S.e0⟩
theorem n106 (R : RowV h v (isV ks)) (hl : ks.length < 1000000) : C nmE 106 [v, iV K] h fun v h' => ∃ r, v = iV r ∧ Ext h h' ∧ (0 ≤ r ↔ K ∈ ks) := by
  obtain ⟨a, c, rfl⟩ := R.valM; refine Qf (fu := Tryz.f106) (by kernel_rfl) rfl ?_; have S := SH.start h; refine Qd ?_; refine Q3 gn rfl rfl ?_; refine Kz ?_; refine Q4 gn rfl rfl ?_; refine QI gn rfl rfl (by kernel_rfl) ?_; refine Q4 gn rfl rfl ?_; refine Q5 ?_; refine Qg ?_; refine QH [(8, _)] [(0, _), (1, _), (7, _)] (by repeat (first | exact trivial | refine ⟨rfl, ?_⟩)) (fun kk lv hh => ∃ j : Nat, lv = [(8, iV j)] ∧ kk = ks.length - j ∧ j ≤ ks.length ∧ SH h [] [] hh ∧ ∀ i (hi : i < ks.length), i < j → ks[i] ≠ K) (n := (ks.length)) ?_ fun kk lv hh hI => ?_
  · exact ⟨0, rfl, rfl, by omega, S, fun i _ hi => by omega⟩
  obtain ⟨j, rfl, hk, hj, S, hs⟩ := hI; refine Qd ?_; refine Z9 gn rfl rfl rfl ?_; refine Q5 ?_; refine Qj ?_; refine Qa rfl (fun hb => ?_) fun hb => ?_
  · skip
    refine Qe ?_; have hj : j < ks.length := by simp at hb; omega
    obtain ⟨b, o, c', cs, e, m, hv, hg, hlt, hat⟩ := R.atM (by omega); cases hv; have hc := hat j hj; refine Qj ?_; refine Qg ?_; refine Qd ?_; refine Q4 gn rfl rfl ?_; refine Q3 gn rfl rfl ?_; refine Zw ?_; refine Q4 gn rfl rfl ?_; refine Q4 gn rfl rfl ?_; refine Q4 gn rfl rfl ?_; refine Q7 (zz := 1) gn rfl rfl rfl (by kernel_rfl) (by omega) (by omega) ?_; refine Q6 gn rfl rfl (by kernel_rfl) (S.old0 hg hlt) (by rw [Int.toNat_natCast, Nat.mul_one]; exact hc) ?_; refine Qq gn rfl rfl rfl ?_; refine Q5 ?_; refine Qa rfl (fun hb => ?_) fun hb => ?_
    · skip
      refine Qd ?_; refine Q4 gn rfl rfl ?_; refine Q3 gn rfl rfl ?_; refine Q5 ?_; refine Qc ?_; refine ⟨.inl rfl, _, rfl, ?_⟩; exact ⟨j, rfl, S.e0, by simp at hb; exact ⟨fun _ => hb ▸ List.getElem_mem hj, fun _ => by omega⟩⟩
    refine Qe ?_; refine Q8 (by kernel_rfl) ?_; refine QO gn rfl rfl rfl (by omega) (by omega) ?_; refine Q4 gn rfl rfl ?_; refine Q5 ?_
    exact Kc (ks.length - (j + 1)) (by omega) [(8, _)] (by repeat (first | exact trivial | refine ⟨rfl, ?_⟩)) ⟨j + 1, rfl, rfl, by omega, S, fun i hi h => by
      by_cases e : i = j
      · subst e; simp at hb; exact fun x => hb x.symm
      exact hs i hi (by omega)⟩
  refine QZ ?_; refine Qt ?_; refine Qu ?_; refine QY ?_; refine Qd ?_; refine Q3 gn rfl rfl ?_; refine Q5 ?_; refine Qc ?_; refine ⟨.inl rfl, _, rfl, ?_⟩
  exact ⟨-1, rfl, S.e0, ⟨fun h => by omega, fun hm => by
    obtain ⟨i, hi, e⟩ := List.mem_iff_getElem.1 hm
    exact absurd e (hs i hi (by simp at hb; omega))⟩⟩
theorem n77 (R : RowV h v (isV ks)) (hl : ks.length < 1000000) : C nmE 77 [v, iV K] h fun v h' => v = .bool (decide (K ∈ ks)) ∧ Ext h h' := by
  refine Qf (fu := Tryz.f77) (by kernel_rfl) rfl ?_; have S := SH.start h; refine Qd ?_; refine Q3 gn rfl rfl ?_; refine Zw ?_; refine Q4 gn rfl rfl ?_; refine Q4 gn rfl rfl ?_; refine Qb [_, _] gn rfl rfl (by kernel_rfl) rfl (C.mono (n106 R hl) ?_); rintro v g ⟨r, rfl, x, hr⟩; have S := S.grow x; refine ⟨ag0, ?_⟩; refine Y5 gn rfl rfl rfl ?_; refine Q3 gn rfl rfl ?_; refine Q5 ?_; refine Qc ?_; refine ⟨.inl rfl, _, rfl, ?_⟩; exact ⟨by rw [show decide (0 ≤ r) = decide (K ∈ ks) from decide_eq_decide.2 hr]; rfl, S.e0⟩
end
end Go.Proofs.YtkidomfnmpnmaaaGreatDoor
namespace Go.Proofs.YtkidomfnmpnmaaaGreatDoor
open Go.X Go.Nam
structure Tre (h0 : Hp) (sv : Value) (T : List Tw) : Prop where
  X : TreeAt h0 sv T
  G : ∀ t, t ∈ T → RowG h0 t.ks (isV t.kids)
  P : Shp (vw T)
  N : ∀ t, t ∈ T → -9223372036854775808 ≤ t.N ∧ t.N ≤ 9223372036854775807
theorem Qdw : KeyT nmE 57 9 38 Value.string := Q7a (by kernel_rfl) (by kernel_rfl)
theorem Q9p (o : Option (Int × Int)) : (o.map Q67).getD (.agg #[.int .i64 0, .int .i64 0]) = Q67 (o.getD (0, 0)) := by cases o <;> rfl
theorem el29 : ElN nmE 29 3 0 7 := ⟨by kernel_rfl, by kernel_rfl, by kernel_rfl, .int .i64 0, by kernel_rfl, rfl⟩
def KRow (h : Hp) (ds : List Nat) (v : Value) (ks : List Int) : Prop := ∃ q e m, v = .slice (some ⟨q, 0, none⟩) ks.length ks.length ∧ h.get q = some (.cells (isV ks) e m) ∧ q < h.n ∧ q ∉ ds
theorem KRow.row {h g : Hp} {ds : List Nat} {v : Value} {ks : List Int} (x : KRow h ds v ks) (e : ExtB ds h g) : RowV g v (isV ks) := by
  obtain ⟨q, t, m, rfl, h1, h2, h3⟩ := x; exact RowV.of ((e.get q h2 h3).trans h1) (Nat.lt_of_lt_of_le h2 e.n) (by simp)
section
variable {h0 hE : Hp} {bs rs : List Nat} {rb : Nat} {sv : Value} {st : Nst} {T : List Tw} {i : Nat}
theorem n78 {v : Value} {ks : List Int} (S0 : SH h0 [] [rsR rb sv st rs bs] hE) (R : Tre h0 sv T) (hi : i < T.length) (hw : st.wrong.length ≤ 1000000) (hm : st.means.length = T.length) (hk : KRow hE bs v ks) (hl : ks.length < 1000000) : C nmE 78 [Zx rb, iV i, v] hE fun _ g' => ∃ bs', SH hE bs [rsR rb sv (Kq (vw T) st i ks) rs bs'] g' := by
  have X := R.X; obtain ⟨ta, tc, rfl⟩ := X.val; obtain ⟨w0, b, o, cs, ee, m, hw0, Q⟩ := JK X hi; obtain rfl := Q.ta; unfold Kq; rw [Q.s]; refine Qf (fu := Tryz.f78) (by kernel_rfl) rfl ?_; have S := S0.enter; obtain ⟨w, E, ho, S⟩ := Qo (A := []) S; simp only [List.nil_append] at S; refine Qj ?_; refine Z3 [(0, []), (1, []), (2, []), (3, []), (4, []), (5, []), (6, []), (7, []), (8, []), (9, []), (10, []), (11, []), (12, []), (13, []), (14, []), (15, [])] (by kernel_rfl) (by kernel_rfl) (by kernel_rfl) (by kernel_rfl) ?_; refine Q4 gn rfl rfl ?_; refine Q9 gn rfl rfl ?_; refine Q0 (off := 11) gn rfl rfl (by kernel_rfl) ?_; refine Q6 gn rfl rfl (by kernel_rfl) (S.cel 0 rfl) rfl ?_
  refine Q4 gn rfl rfl ?_; refine Q9 gn rfl rfl ?_; refine Q0 (off := 0) gn rfl rfl (by kernel_rfl) ?_; refine Q0 (off := 0) gn rfl rfl (by kernel_rfl) ?_; refine Q6 gn rfl rfl (by kernel_rfl) (S.cel 0 rfl) rfl ?_; refine Q4 gn rfl rfl ?_; refine Q7 (zz := 6) gn rfl rfl rfl (by kernel_rfl) (by omega) (by omega) ?_; refine Q0 (off := 1) gn rfl rfl (by kernel_rfl) ?_; refine Q6 gn rfl rfl (by kernel_rfl) (S0.two S0.own0 S Q.g Q.lt) (Q.at 1 (by decide) rfl) ?_; obtain ⟨M, cl, hM, hF⟩ := Q2L S 10 rfl; refine Q1W (zv := .agg #[.int .i64 0, .int .i64 0]) Qdw gn rfl rfl rfl hM (by kernel_rfl) ?_; rw [hF, Q9p]; generalize (st.glob w0.s).getD (0, 0) = mm; obtain ⟨mk, mn⟩ := mm
  refine Zz (zv := .agg #[.int .i64 0, .int .i64 0]) S gn rfl (by kernel_rfl) fun b1 g nb1 S => ?_; refine QV (n := 2) 0 S gn rfl rfl (by kernel_rfl) (by kernel_rfl) rfl rfl (by decide) rfl (fun g S => ag0) fun g S => ?_; simp only [List.set_cons_succ, List.set_cons_zero] at S; refine Kz ?_; refine Q4 gn rfl rfl ?_; refine Q0 (off := 0) gn rfl rfl (by kernel_rfl) ?_; refine Q6 gn rfl rfl (by kernel_rfl) (S.cel 0 rfl) rfl ?_; refine Qb [_, _] gn rfl rfl (by kernel_rfl) rfl (C.mono (n107 (hk.row S.ext) hl) ?_); rintro v g ⟨rfl, x⟩; have S := S.grow x; refine ⟨ag0, ?_⟩; refine ZT gn rfl rfl ?_; refine Q5 ?_; refine Qa rfl (fun hb => ?_) fun hb => ?_
  · skip
    refine Qd ?_; refine Q4 gn rfl rfl ?_; refine Q4 gn rfl rfl ?_; have S := Qp (A := [_]) S E; refine Qb [_, _, _] gn rfl rfl (by kernel_rfl) rfl (C.mono (n21 (S0.sub1 S0.own0 S 1 rfl) X hi hw) ?_); rintro v g ⟨bs', S2⟩; have S := S.ret 1 rfl S2; simp only [List.cons_append, List.nil_append, List.set_cons_succ, List.set_cons_zero] at S; obtain ⟨w, E, ho, S⟩ := Qo (A := [_]) S; simp only [List.cons_append, List.nil_append] at S; refine ⟨ag0, ?_⟩; refine Q5 ?_; refine Qc ?_; refine ⟨.inl rfl, _, rfl, ?_⟩; exact by rw [if_neg (by simpa using hb)]; exact QX (A := [_]) S E
  refine Qe ?_; refine Z3 [(0, []), (1, []), (2, []), (3, []), (4, []), (5, []), (6, []), (7, []), (8, [])] (by kernel_rfl) (by kernel_rfl) (by kernel_rfl) (by kernel_rfl) ?_; refine Q4 gn rfl rfl ?_; refine Q9 gn rfl rfl ?_; refine Q0 (off := 1) gn rfl rfl (by kernel_rfl) ?_; refine Q0 (off := 0) gn rfl rfl (by kernel_rfl) ?_; refine Q6 gn rfl rfl (by kernel_rfl) (S.cel 1 rfl) rfl ?_; refine Q4 gn rfl rfl ?_; refine Qs (n := 2) gn rfl rfl (by kernel_rfl) (by kernel_rfl) (S.cel 0 rfl) (Nat.le_refl _) ?_; obtain ⟨mb, mc, hmv, hmb, hml⟩ := Kl (S.sl 2 rfl) (by rw [E.men]; omega); rw [hmv]; refine Q7 (zz := 2) gn rfl rfl rfl (by kernel_rfl) (by omega) (by have := E.men; omega) ?_
  refine Qci (z := 1) (cs' := meC (st.means.set i (mk, mn))) 2 S gn rfl rfl (by kernel_rfl) (by kernel_rfl) rfl rfl hmv (by have h1 := E.men; have h2 : w.me.c.length = w.me.n * 2 := hml; rw [h2, Int.toNat_natCast]; omega) (by rw [E.me, Int.toNat_natCast, Nat.zero_add]; exact Q68 st.means i (mk, mn) (by omega)) (fun g S => ag0) fun g S => ?_; simp only [List.set_cons_succ, List.set_cons_zero] at S; refine Q5 ?_; refine ⟨.inr rfl, _, rfl, ?_⟩
  exact by
    rw [if_pos (by simpa using hb)]
    exact QX (A := [_]) (w := { w with me := ⟨w.me.v, meC (st.means.set i (mk, mn)), w.me.n, w.me.b⟩ }) S { E with
      me := by show meC _ = meC (st.means.set ((i : Int)).toNat _); rw [Int.toNat_natCast]
      men := by show w.me.n = (st.means.set _ _).length; rw [List.length_set, E.men] }
end
end Go.Proofs.YtkidomfnmpnmaaaGreatDoor
namespace Go.Proofs.YtkidomfnmpnmaaaGreatDoor
open Go.X Go.Nam
def Q8m (h0 : Hp) (rb : Nat) (sv : Value) (T : List Tw) (rec : Nst → Int → Nst) (k : Nat) : Prop := ∀ (a n : Nat) (st : Nst) (bl : List (Nat × Nat)) (w : Nat) (rs bs : List Nat) (g : Hp), sub (vw T) k a n → At (vw T) st a n bl w → w + (4 * (n - a) - 1) ≤ 100000 →
  SH h0 [] [rsR rb sv st rs bs] g → C nmE 22 [Zx rb, iV a] g fun _ g' => ∃ bs', SH g bs [rsR rb sv (rec st a) rs bs'] g'
section
variable {h0 hE : Hp} {bs rs : List Nat} {rb : Nat} {sv : Value} {st : Nst} {T : List Tw} {i : Nat} {rec : Nst → Int → Nst} {k p n w0 : Nat} {o : Int} {sow : List Int} {bl : List (Nat × Nat)}
theorem n51 {fr : Nat} (S0 : SH h0 [] [rsR rb sv st rs bs] hE) (R : Tre h0 sv T) (hi : i < T.length) (hC : Q8m h0 rb sv T rec k) (hr : Kx (vw T) rec k) (F : FoldAt (vw T) k (((vw T).ks i).drop fr) bl n o sow st 0 p w0) (hf : fr ≤ ((vw T).ks i).length) (hp : p ≤ (vw T).n) :
    C nmE 51 [Zx rb, iV i, iV fr] hE fun _ g' => ∃ bs', SH hE bs [rsR rb sv (KM (vw T) rec st i fr) rs bs'] g' := by
  have X := R.X; obtain ⟨ta, tc, rfl⟩ := X.val; obtain ⟨t0, b, o', cs, ee, m, hw0, Q⟩ := JK X hi; obtain rfl := Q.ta; unfold KM; have hlen := F.len hp; have hPn := R.P.n; rw [Q.ks] at F hf hlen ⊢; obtain ⟨sl, hslr, hsl⟩ := Q8J el29 (R.G t0 (List.mem_of_getElem? hw0)) (show fr ≤ (isV t0.kids).length by rw [List.length_map]; exact hf); rw [show (isV t0.kids).drop fr = isV (t0.kids.drop fr) from List.map_drop.symm] at hslr; generalize t0.kids.drop fr = l at F hslr hlen ⊢; obtain ⟨sa, sc, rfl⟩ := hslr.valM; refine Qf (fu := Tryz.f51) (by kernel_rfl) rfl ?_; have S := S0.enter; obtain ⟨w, E, ho, S⟩ := Qo (A := []) S; simp only [List.nil_append] at S; refine Qd ?_; refine Q4 gn rfl rfl ?_
  refine Q9 gn rfl rfl ?_; refine Q0 (off := 0) gn rfl rfl (by kernel_rfl) ?_; refine Q0 (off := 0) gn rfl rfl (by kernel_rfl) ?_; refine Q6 gn rfl rfl (by kernel_rfl) (S.cel 0 rfl) rfl ?_; refine Q4 gn rfl rfl ?_; refine Q7 (zz := 6) gn rfl rfl rfl (by kernel_rfl) (by omega) (by omega) ?_; refine Q0 (off := 5) gn rfl rfl (by kernel_rfl) ?_; refine Q6 gn rfl rfl (by kernel_rfl) (S0.two S0.own0 S Q.g Q.lt) (Q.at 5 (by decide) rfl) ?_; refine Q4 gn rfl rfl ?_; refine Q3D gn rfl rfl rfl (hsl _ (S0.all0 S0.own0 S)) ?_; refine QI gn rfl rfl (by kernel_rfl) ?_; refine Q4 gn rfl rfl ?_; refine Q5 ?_; refine Qg ?_
  refine QH [(20, _)] [(0, _), (18, _), (19, _)] (by repeat (first | exact trivial | refine ⟨rfl, ?_⟩)) (fun kk lv hh => ∃ (j : Nat) (bs1 : List Nat) (p1 w1 : Nat), lv = [(20, iV j)] ∧ kk = l.length - j ∧ j ≤ l.length ∧ SH hE bs [rsR rb (.slice (some ⟨b, o', none⟩) T.length tc) ((l.take j).foldl rec st) rs bs1] hh ∧ FoldAt (vw T) k l bl n o sow ((l.take j).foldl rec st) j p1 w1) (n := (l.length)) ?_ fun kk lv hh hI => ?_
  · exact ⟨0, _, p, w0, rfl, rfl, by omega, Qp (A := []) S E, F⟩
  obtain ⟨j, bs1, p1, w1, rfl, hkk, hj, S, F1⟩ := hI; refine Qd ?_; refine Z9 gn rfl rfl rfl ?_; refine Q5 ?_; refine Qj ?_; refine Qa rfl (fun hb => ?_) fun hb => ?_
  · skip
    refine Qe ?_; have hj : j < l.length := by simp at hb; omega
    obtain ⟨w, E, ho, S⟩ := Qo (A := []) S; simp only [List.nil_append] at S; obtain ⟨kb, ko, kc', kcs, ke, km, hv2, hg2, hlt2, hat2⟩ := hslr.atM (by omega); obtain ⟨e1, hp1, q, hsub, hat, hb2, F2⟩ := F1.step hr hj _ _ (.inl rfl) F1.I (.refl _ _); obtain rfl : sa = some ⟨kb, ko, none⟩ := by injection hv2
    have hkid : kcs[ko + Int.toNat (j : Int) * 1]? = some (iV p1) := by
      rw [Int.toNat_natCast, Nat.mul_one, hat2 j hj]; rw [List.getElem?_eq_getElem hj] at e1; rw [Option.some.inj e1]
    refine Qj ?_; refine Qg ?_; refine Qd ?_; refine Q7 (zz := 1) gn rfl rfl rfl (by kernel_rfl) (by omega) (by omega) ?_; refine Q6 gn rfl rfl (by kernel_rfl) (S0.two S0.own0 S hg2 hlt2) hkid ?_; refine Q3 gn rfl rfl ?_; refine Q5 ?_; refine Q8 (by kernel_rfl) ?_; refine Q4 gn rfl rfl ?_; refine Q4 gn rfl rfl ?_; have S := Qp (A := []) S E; refine Qb [_, _] gn rfl rfl (by kernel_rfl) rfl (C.mono (hC p1 q _ bl w1 _ _ _ hsub hat hb2 (S0.sub1 S0.own0 S 0 rfl)) ?_); rintro v g ⟨bs', S2⟩; have S := S.ret 0 rfl S2; simp only [List.cons_append, List.nil_append, List.set_cons_succ, List.set_cons_zero] at S; obtain ⟨w, E, ho, S⟩ := Qo (A := []) S; simp only [List.cons_append, List.nil_append] at S
    refine ⟨ag0, ?_⟩; refine Q5 ?_; refine Q8 (by kernel_rfl) ?_; refine QO gn rfl rfl rfl (by omega) (by omega) ?_; refine Q4 gn rfl rfl ?_; refine Q5 ?_; exact Kc (l.length - (j + 1)) (by omega) [(20, _)] (by repeat (first | exact trivial | refine ⟨rfl, ?_⟩)) ⟨j + 1, _, q, _, rfl, rfl, by omega, by rw [Q5d e1]; exact Qp (A := []) S E, by rw [Q5d e1]; exact F2⟩
  refine QZ ?_; refine Qt ?_; refine Qu ?_; refine QY ?_; refine ⟨.inr rfl, _, rfl, ?_⟩
  exact ⟨bs1, by
    have hjl : j = l.length := by simp at hb; omega
    subst hjl; rw [List.take_length] at S
    exact S⟩
end
end Go.Proofs.YtkidomfnmpnmaaaGreatDoor
namespace Go.Proofs.YtkidomfnmpnmaaaGreatDoor
open Go.X Go.Nam
theorem el30 : ElN nmE 30 45 3 55 := ⟨by kernel_rfl, by kernel_rfl, by kernel_rfl, .agg #[.int .i64 0, .int .i64 0, .string .empty, .slice none 0 0], by kernel_rfl, rfl⟩
theorem el60 : ElN nmE 60 120 1 15 := ⟨by kernel_rfl, by kernel_rfl, by kernel_rfl, .agg #[.map none, .int .i64 0], by kernel_rfl, rfl⟩
theorem QaW (l : List Sco) (s : Sco) (rs : List Nat) (b : Nat) (h : rs.length = l.length) : (scC (l ++ [s]) (rs ++ [b])).take (l.length * 2) = scC l rs := by
  rw [Q3k l rs s b h]; exact List.take_left' (Q5M l rs h)
theorem RsE.func {st : Nst} {rs : List Nat} {w : RsW} (E : RsE st rs w) (i : Int) (nm : Txt) (s' : Value) (bs' : List Nat) (v : Int) : RsE { st with owner := st.funcs.length, funcs := st.funcs ++ [⟨i, st.owner, nm, []⟩], inner := v } rs { w with fu := ⟨s', w.fu.c ++ [iV i, iV st.owner, .string nm, .slice none 0 0], w.fu.n + 1, bs'⟩, cv := w.cv ++ [(.slice none 0 0, [])], cp := w.cp ++ [slR 3 0 (.slice none 0 0) (isV []) 0 []] } :=
  { E with
    fu := by
      show w.fu.c ++ _ = fuC (st.funcs ++ [_]) (w.cv ++ [_]); rw [Q7d _ _ _ _ E.cv, E.fu]
    fun' := by show w.fu.n + 1 = (st.funcs ++ [_]).length; rw [List.length_append, E.fun']; rfl
    cv := by show (w.cv ++ [_]).length = (st.funcs ++ [_]).length; rw [List.length_append, List.length_append, E.cv]; rfl
    cp := by
      show w.cp ++ _ = caP (st.funcs ++ [_]) (w.cv ++ [_])
      rw [Q7o _ _ _ _ E.cv, E.cp]; rfl }
theorem RsE.block {st : Nst} {rs : List Nat} {w : RsW} (E : RsE st rs w) (b : Nat) (s' : Value) (bs' : List Nat) : RsE { st with scopes := st.scopes ++ [⟨fun _ => none, st.owner⟩] } (rs ++ [b]) { w with sc := ⟨s', w.sc.c ++ [.map (some b), iV st.owner], w.sc.n + 1, bs'⟩, sp := w.sp ++ [mpR Value.string iV b (fun _ => none)] } :=
  { E with
    sc := by
      show w.sc.c ++ _ = scC (st.scopes ++ [_]) (rs ++ [_]); rw [Q3k _ _ _ _ E.rsn, E.sc]
    scn := by show w.sc.n + 1 = (st.scopes ++ [_]).length; rw [List.length_append, E.scn]; rfl
    rsn := by rw [List.length_append]; show _ = (st.scopes ++ [_]).length; rw [List.length_append, E.rsn]; rfl
    sp := by
      show w.sp ++ _ = scP (st.scopes ++ [_]) (rs ++ [_])
      rw [Q3j _ _ _ _ E.rsn, E.sp] }
theorem Q0M {h0 h : Hp} {ds : List Nat} {L : List Res} {b : Nat} {e : TypeId} {m : Nat} {r : Res} {ks : List Int} (S : SH h0 ds L h) (i j : Nat) (e1 : L[i]? = some (cR b (.cells (isV ks) e m))) (e2 : L[j]? = some r) (hij : i ≠ j) : KRow h r.own (.slice (some ⟨b, 0, none⟩) ks.length ks.length) ks :=
  ⟨b, e, m, rfl, S.cel i e1, S.lt1 i e1, S.apart i j e1 e2 hij⟩
theorem Q5F {F B C : List Res} {j : Nat} {r : Res} (h : B[j]? = some r) : (F ++ (B ++ C))[F.length + j]? = some r := by
  have hj := (List.getElem?_eq_some_iff.1 h).1; rw [List.getElem?_append_right (by omega), Nat.add_sub_cancel_left, List.getElem?_append_left hj]; exact h
theorem QaT {F B C : List Res} {j : Nat} {r : Res} (h : j < B.length) : (F ++ (B ++ C)).set (F.length + j) r = F ++ (B.set j r ++ C) := by
  rw [List.set_append_right _ _ (by omega), Nat.add_sub_cancel_left, List.set_append_left _ _ h]
theorem QcQ {h0 h : Hp} {ds : List Nat} {F B C : List Res} {j : Nat} {r : Res} (_ : SH h0 ds (F ++ (B ++ C)) h) (hr : B[j]? = some r) : (F ++ (B ++ C))[F.length + j]? = some r := Q5F hr
theorem tail_S {h0 h : Hp} {ds : List Nat} {F B C : List Res} {j k : Nat} {r : Res} (S : SH h0 ds ((F ++ (B ++ C)).set k r) h) (hk : k = F.length + j) (hj : j < B.length) : SH h0 ds (F ++ (B.set j r ++ C)) h := by
  subst hk; rwa [QaT hj] at S
theorem Q9J : KeyT nmE 118 9 3 Value.string := Q7a (by kernel_rfl) (by kernel_rfl)
theorem Q1t {α β : Type} (o : Option α) (f : α → β) : (o.map f).isSome = o.isSome := by cases o <;> rfl
theorem RsE.owner {st : Nst} {rs : List Nat} {w : RsW} (E : RsE st rs w) (j : Nat) (o : Int) : RsE { st with owners := st.owners.set j o } rs { w with ow := ⟨w.ow.v, w.ow.c.set (0 + Int.toNat (j : Int) * 1) (iV o), w.ow.n, w.ow.b⟩ } :=
  { E with
    ow := by show w.ow.c.set _ _ = isV (st.owners.set j o); rw [E.ow, QcV, Int.toNat_natCast, Nat.zero_add, Nat.mul_one]
    own := by show w.ow.n = (st.owners.set j o).length; rw [List.length_set, E.own] }
theorem Qdv {st : Nst} {rs : List Nat} {s : Sco} (hs : st.scopes.getLast? = some s) (hr : rs.length = st.scopes.length) : ∃ (j r : Nat), st.scopes.length = j + 1 ∧ st.scopes[j]? = some s ∧ rs[j]? = some r ∧ (scP st.scopes rs)[j]? = some (mpR Value.string iV r s.loc) := by
  obtain ⟨h1, h2⟩ := Q2a hs; have h3 : st.scopes.length - 1 < rs.length := by omega
  exact ⟨st.scopes.length - 1, rs[st.scopes.length - 1], by omega, h2, List.getElem?_eq_getElem h3, Q6G _ _ _ _ _ h2 (List.getElem?_eq_getElem h3)⟩
theorem RsE.loc {st : Nst} {rs : List Nat} {w : RsW} (E : RsE st rs w) {j r : Nat} {s : Sco} (hj : st.scopes.length = j + 1) (h1 : st.scopes[j]? = some s) (h2 : rs[j]? = some r) (t : Txt) (i : Int) : RsE { st with scopes := setLast st.scopes t i } rs { w with sp := w.sp.set j (mpR Value.string iV r (put s.loc t i)) } :=
  { E with
    sc := by
      show w.sc.c = scC (setLast st.scopes t i) rs; rw [E.sc]; unfold setLast; exact (Q8S (fun s => { s with loc := put s.loc t i }) (fun _ => rfl) _ _ _).symm
    scn := by show w.sc.n = (List.modify _ _ _).length; rw [List.length_modify, E.scn]
    rsn := by show rs.length = (List.modify _ _ _).length; rw [List.length_modify, E.rsn]
    sp := by
      show w.sp.set j _ = scP (setLast st.scopes t i) rs; rw [E.sp]; unfold setLast; rw [hj, Nat.add_sub_cancel]
      exact Q8Q st.scopes rs j r (fun s => { s with loc := put s.loc t i }) h2 s h1 }
end Go.Proofs.YtkidomfnmpnmaaaGreatDoor
namespace Go.Proofs.YtkidomfnmpnmaaaGreatDoor
open Go.X Go.Nam
section
variable {h0 hE : Hp} {bs rs : List Nat} {rb : Nat} {sv : Value} {st : Nst} {T : List Tw} {i : Nat} {rec : Nst → Int → Nst} {k p n w0 : Nat} {o : Int} {sow : List Int} {bl : List (Nat × Nat)}
set_option maxHeartbeats 1000000 in
theorem n74 {fr : Nat} {nm : Txt} (S0 : SH h0 [] [rsR rb sv st rs bs] hE) (R : Tre h0 sv T) (hi : i < T.length) (hC : Q8m h0 rb sv T rec k) (hr : Kx (vw T) rec k) (F : FoldAt (vw T) k (((vw T).ks i).drop fr) bl n o sow (Ze st i nm) 0 p w0) (hf : fr ≤ ((vw T).ks i).length) (hp : p ≤ (vw T).n) (hl : st.funcs.length ≤ 1000000) :
    C nmE 74 [Zx rb, iV i, iV fr, .string nm] hE fun _ g' => ∃ bs', SH hE bs [rsR rb sv (Q0O (vw T) rec st i fr nm) rs bs'] g' := by
  obtain ⟨v, hv⟩ : ∃ v, v = (if st.owner < 0 then 0 else st.inner) := ⟨_, rfl⟩; unfold Ze at F; unfold Q0O; rw [← hv] at F ⊢; refine Qf (fu := Tryz.f74) (by kernel_rfl) rfl ?_; have S := S0.enter; obtain ⟨w, E, ho, S⟩ := Qo (A := []) S; simp only [List.nil_append] at S; refine Qd ?_; refine Q4 gn rfl rfl ?_; refine Q9 gn rfl rfl ?_; refine Q0 (off := 13) gn rfl rfl (by kernel_rfl) ?_; refine Q6 gn rfl rfl (by kernel_rfl) (S.cel 0 rfl) rfl ?_; refine Q3 gn rfl rfl ?_; refine Zw ?_; refine Q4 gn rfl rfl ?_; refine Q4 gn rfl rfl ?_; refine Q9 gn rfl rfl ?_; refine Q0 (off := 1) gn rfl rfl (by kernel_rfl) ?_; refine Q0 (off := 7) gn rfl rfl (by kernel_rfl) ?_
  refine Q6 gn rfl rfl (by kernel_rfl) (S.cel 0 rfl) rfl ?_; obtain ⟨fa, fc, hfv⟩ := (S.sl 8 rfl).val; rw [hfv, E.fun']; refine QI gn rfl rfl (by kernel_rfl) ?_; refine Q9 gn rfl rfl ?_; refine Q0 (off := 13) gn rfl rfl (by kernel_rfl) ?_; refine Zy 0 S gn rfl rfl (by first | rfl | exact hcv) (by kernel_rfl) rfl (by decide) (by first | decide | (simp; done)) (fun g S => ag0) fun g S => ?_; simp only [List.set_cons_succ, List.set_cons_zero] at S; refine Zw ?_; refine Q4 gn rfl rfl ?_; refine Q4 gn rfl rfl ?_; refine Q9 gn rfl rfl ?_; refine Q0 (off := 1) gn rfl rfl (by kernel_rfl) ?_; refine Q0 (off := 7) gn rfl rfl (by kernel_rfl) ?_; refine Q6 gn rfl rfl (by kernel_rfl) (S.cel 0 rfl) rfl ?_
  refine Q4 gn rfl rfl ?_; refine Q4 gn rfl rfl ?_; refine Q4 gn rfl rfl ?_; refine Yq (cs := #[iV i, iV st.owner, .string nm, .slice none 0 0]) (zv := .agg #[.int .i64 0, .int .i64 0, .string .empty, .slice none 0 0]) (pl := [(0, 1), (1, 1), (2, 1), (3, 1)]) [(0, _), (1, _), (2, _)] gn rfl (by kernel_rfl) (by kernel_rfl) rfl (by kernel_rfl) ?_; refine Qn (cs := #[iV i, iV st.owner, .string nm, .slice none 0 0]) (e := 45) (z := 3) (zv := .agg #[.int .i64 0, .int .i64 0, .string .empty, .slice none 0 0]) [(0, _)] S gn rfl (by kernel_rfl) (by kernel_rfl) (by kernel_rfl) (by kernel_rfl) rfl (by kernel_rfl) fun b1 g nb1 S => ?_
  refine KC (e := 45) (z := 3) (by' := 55) 9 0 S el30 gn rfl rfl rfl rfl rfl rfl (by rfl) (by have := E.fun'; omega) (fun s' bs' g S => ag0) fun s' bs' g S => ?_; simp only [List.set_cons_succ, List.set_cons_zero] at S; have hcv : cellV s' = true := (S.sl 9 rfl).cellV; refine Q9 gn rfl rfl ?_; refine Q0 (off := 1) gn rfl rfl (by kernel_rfl) ?_; refine Q0 (off := 7) gn rfl rfl (by kernel_rfl) ?_; refine Zy 1 S gn rfl rfl (by first | rfl | exact hcv) (by kernel_rfl) rfl (by decide) (by first | decide | (simp; done)) (fun g S => ag0) fun g S => ?_; simp only [List.set_cons_succ, List.set_cons_zero] at S; refine Kz ?_; refine Q4 gn rfl rfl ?_; refine Z9 gn rfl rfl rfl ?_; refine Q5 ?_
  refine Qa rfl (fun hb => ?_) fun hb => ?_
  · skip
    obtain rfl : v = 0 := by rw [hv, if_pos (by simpa using hb)]
    refine Q8 (by kernel_rfl) ?_; refine Q4 gn rfl rfl ?_; refine Q9 gn rfl rfl ?_; refine Q0 (off := 14) gn rfl rfl (by kernel_rfl) ?_; refine Zy 1 S gn rfl rfl (by first | rfl | exact hcv) (by kernel_rfl) rfl (by decide) (by first | decide | (simp; done)) (fun g S => ag0) fun g S => ?_; simp only [List.set_cons_succ, List.set_cons_zero] at S; refine Zw ?_; refine Q4 gn rfl rfl ?_; refine Q4 gn rfl rfl ?_; refine Q4 gn rfl rfl ?_; have S := S.atEnd (r := slR 3 0 (.slice none 0 0) (isV []) 0 []) (.inl ⟨rfl, rfl, rfl, rfl⟩) rfl; simp only [List.cons_append, List.append_assoc] at S; have E := E.func i nm s' bs' 0; have S := Qp (A := [_]) S E
    refine Qb [_, _, _] gn rfl rfl (by kernel_rfl) rfl (C.mono (n51 (S0.sub1 S0.own0 S 1 rfl) R hi hC hr F hf hp) ?_); rintro v g ⟨bs', S2⟩; have S := S.ret 1 rfl S2; simp only [List.cons_append, List.nil_append, List.set_cons_succ, List.set_cons_zero] at S; obtain ⟨w, E, ho, S⟩ := Qo (A := [_]) S; simp only [List.cons_append, List.nil_append] at S; refine ⟨ag0, ?_⟩; refine Q5 ?_; refine Q8 (by kernel_rfl) ?_; refine Q4 gn rfl rfl ?_; refine Q4 gn rfl rfl ?_; refine Q9 gn rfl rfl ?_; refine Q0 (off := 13) gn rfl rfl (by kernel_rfl) ?_; refine Zy 1 S gn rfl rfl (by first | rfl | exact hcv) (by kernel_rfl) rfl (by decide) (by first | decide | (simp; done)) (fun g S => ag0) fun g S => ?_
    simp only [List.set_cons_succ, List.set_cons_zero] at S; refine Q5 ?_; refine ⟨.inr rfl, _, rfl, ?_⟩; exact QX (A := [_]) (st := { KM (vw T) rec _ i fr with owner := st.owner }) (w := w) S { E with }
  obtain rfl : v = st.inner := by rw [hv, if_neg (by simpa using hb)]
  refine Qe ?_; refine Qd ?_; refine Q4 gn rfl rfl ?_; refine Q4 gn rfl rfl ?_; refine Q4 gn rfl rfl ?_; have S := S.atEnd (r := slR 3 0 (.slice none 0 0) (isV []) 0 []) (.inl ⟨rfl, rfl, rfl, rfl⟩) rfl; simp only [List.cons_append, List.append_assoc] at S; have E := E.func i nm s' bs' st.inner; have S := Qp (A := [_]) S E; refine Qb [_, _, _] gn rfl rfl (by kernel_rfl) rfl (C.mono (n51 (S0.sub1 S0.own0 S 1 rfl) R hi hC hr F hf hp) ?_); rintro v g ⟨bs', S2⟩; have S := S.ret 1 rfl S2; simp only [List.cons_append, List.nil_append, List.set_cons_succ, List.set_cons_zero] at S; obtain ⟨w, E, ho, S⟩ := Qo (A := [_]) S; simp only [List.cons_append, List.nil_append] at S; refine ⟨ag0, ?_⟩
  refine Q5 ?_; refine Q8 (by kernel_rfl) ?_; refine Q4 gn rfl rfl ?_; refine Q4 gn rfl rfl ?_; refine Q9 gn rfl rfl ?_; refine Q0 (off := 13) gn rfl rfl (by kernel_rfl) ?_; refine Zy 1 S gn rfl rfl (by first | rfl | exact hcv) (by kernel_rfl) rfl (by decide) (by first | decide | (simp; done)) (fun g S => ag0) fun g S => ?_; simp only [List.set_cons_succ, List.set_cons_zero] at S; refine Q5 ?_; refine ⟨.inr rfl, _, rfl, ?_⟩; exact QX (A := [_]) (st := { KM (vw T) rec _ i fr with owner := st.owner }) (w := w) S { E with }
set_option maxHeartbeats 1000000 in
theorem n39 (S0 : SH h0 [] [rsR rb sv st rs bs] hE) (R : Tre h0 sv T) (hi : i < T.length) (hC : Q8m h0 rb sv T rec k) (hr : Kx (vw T) rec k) (F : FoldAt (vw T) k ((vw T).ks i) bl n o sow { st with scopes := st.scopes ++ [⟨fun _ => none, st.owner⟩] } 0 p w0) (hp : p ≤ (vw T).n) (hl : st.scopes.length ≤ 1000000) :
    C nmE 39 [Zx rb, iV i] hE fun _ g' => ∃ bs', SH hE bs [rsR rb sv (Q35 (vw T) rec st i) rs bs'] g' := by
  have hbl : Q35 (vw T) rec st i = { KM (vw T) rec { st with scopes := st.scopes ++ [⟨fun _ => none, st.owner⟩] } i 0 with scopes := (KM (vw T) rec { st with scopes := st.scopes ++ [⟨fun _ => none, st.owner⟩] } i 0).scopes.dropLast } := rfl; rw [hbl]; refine Qf (fu := Tryz.f39) (by kernel_rfl) rfl ?_; have S := S0.enter; obtain ⟨w, E, ho, S⟩ := Qo (A := []) S; simp only [List.nil_append] at S; have hrs := E.rsn; refine Qj ?_; refine Z3 [(0, []), (1, []), (2, []), (3, []), (4, []), (5, []), (6, []), (7, []), (8, []), (9, []), (10, []), (11, []), (12, []), (13, []), (14, []), (15, [])] (by kernel_rfl) (by kernel_rfl) (by kernel_rfl) (by kernel_rfl) ?_; refine Q4 gn rfl rfl ?_
  refine Q4 gn rfl rfl ?_; refine Q9 gn rfl rfl ?_; refine Q0 (off := 12) gn rfl rfl (by kernel_rfl) ?_; refine Q6 gn rfl rfl (by kernel_rfl) (S.cel 0 rfl) rfl ?_; refine Q1Q S gn rfl fun b1 g nb1 S => ?_; refine Q4 gn rfl rfl ?_; refine Q9 gn rfl rfl ?_; refine Q0 (off := 13) gn rfl rfl (by kernel_rfl) ?_; refine Q6 gn rfl rfl (by kernel_rfl) (S.cel 1 rfl) rfl ?_; refine Yq (cs := #[.map (some b1), iV st.owner]) (zv := .agg #[.map none, .int .i64 0]) (pl := [(0, 1), (1, 1)]) [(0, _), (1, _)] gn rfl (by kernel_rfl) (by kernel_rfl) rfl (by kernel_rfl) ?_
  refine Qn (cs := #[.map (some b1), iV st.owner]) (e := 120) (z := 1) (zv := .agg #[.map none, .int .i64 0]) [(0, _)] S gn rfl (by kernel_rfl) (by kernel_rfl) (by kernel_rfl) (by kernel_rfl) rfl (by kernel_rfl) fun b2 g nb2 S => ?_; refine KC (e := 120) (z := 1) (by' := 15) 13 0 S el60 gn rfl rfl rfl rfl rfl rfl (by rfl) (by have := E.scn; omega) (fun s' bs' g S => ag0) fun s' bs' g S => ?_; simp only [List.set_cons_succ, List.set_cons_zero] at S; have hcv : cellV s' = true := (S.sl 13 rfl).cellV; refine Q9 gn rfl rfl ?_; refine Q0 (off := 12) gn rfl rfl (by kernel_rfl) ?_
  refine Zy 2 S gn rfl rfl (by first | rfl | exact hcv) (by kernel_rfl) rfl (by decide) (by first | decide | (simp; done)) (fun g S => ag0) fun g S => ?_; simp only [List.set_cons_succ, List.set_cons_zero] at S; refine Zw ?_; refine Q4 gn rfl rfl ?_; refine Q4 gn rfl rfl ?_; have S := J7 (key := Value.string) (enc := iV) (F := fun _ : Txt => none) (M := []) (cl := 0) S 1 rfl (fun _ => rfl); simp only [List.set_cons_succ, List.set_cons_zero] at S; have S := SH.ins (F := [_, _, _, _, _, _, _, _, _, _, _, _, _]) S; simp only [List.cons_append, List.nil_append] at S; have E := E.block b1 s' bs'; have S := Qp (A := [_]) S E
  refine Qb [_, _, _] gn rfl rfl (by kernel_rfl) rfl (C.mono (n51 (S0.sub1 S0.own0 S 1 rfl) (fr := 0) R hi hC hr F (Nat.zero_le _) hp) ?_); rintro v g ⟨bs', S2⟩; have S := S.ret 1 rfl S2; simp only [List.cons_append, List.nil_append, List.set_cons_succ, List.set_cons_zero] at S; obtain ⟨w, E, ho, S⟩ := Qo (A := [_]) S; simp only [List.cons_append, List.nil_append] at S; refine ⟨ag0, ?_⟩; generalize KM (vw T) rec { st with scopes := st.scopes ++ [⟨fun _ => none, st.owner⟩] } i 0 = st2 at E S ⊢; have hn2 : st2.scopes.length = st.scopes.length + 1 := by rw [← E.rsn, List.length_append, hrs]; rfl
  obtain ⟨sb, sc0, hsv, hsb, hsl⟩ := Kl (S.sl 12 rfl) (by rw [E.scn]; omega); obtain ⟨vs, mm, hgb, hmm, hnc⟩ := sl_blk (b := sb) (c := sc0) (by have := S.sl 12 rfl; rw [hsv] at this; exact this); rw [E.scn, hn2] at hnc; refine Q5 ?_; refine Z3 [(0, []), (1, []), (2, []), (3, []), (4, []), (5, []), (6, []), (7, []), (8, []), (9, []), (10, []), (11, []), (12, []), (13, []), (14, [])] (by kernel_rfl) (by kernel_rfl) (by kernel_rfl) (by kernel_rfl) ?_; refine Q4 gn rfl rfl ?_; refine Q4 gn rfl rfl ?_; refine Q9 gn rfl rfl ?_; refine Q0 (off := 12) gn rfl rfl (by kernel_rfl) ?_; refine Q6 gn rfl rfl (by kernel_rfl) (S.cel 1 rfl) rfl ?_; refine Q4 gn rfl rfl ?_; refine Q9 gn rfl rfl ?_
  refine Q0 (off := 12) gn rfl rfl (by kernel_rfl) ?_; refine Q6 gn rfl rfl (by kernel_rfl) (S.cel 1 rfl) rfl ?_; rw [hsv, E.scn, hn2]; refine QI gn rfl rfl (by kernel_rfl) ?_; refine Q7T gn rfl rfl rfl (by omega) (by omega) ?_; refine Q7U el60 gn rfl rfl rfl hgb hmm (by omega) (by omega) ?_; rw [show ((((st.scopes.length + 1 : Nat) : Int) - 1).toNat) = st.scopes.length by omega]; refine Q9 gn rfl rfl ?_; refine Q0 (off := 12) gn rfl rfl (by kernel_rfl) ?_; refine Zy 1 S gn rfl rfl (by first | rfl | exact hcv) (by kernel_rfl) rfl (by decide) (by first | decide | (simp; done)) (fun g S => ag0) fun g S => ?_; simp only [List.set_cons_succ, List.set_cons_zero] at S; refine Q5 ?_
  refine ⟨.inr rfl, _, rfl, ?_⟩
  exact by
    have S := S.cutSl (c := sc0) (b := sb) (k := st.scopes.length) 12 rfl hsv (by rw [E.scn]; omega); simp only [List.set_cons_succ, List.set_cons_zero] at S; obtain ⟨l, x, hlx⟩ : ∃ l x, st2.scopes = l ++ [x] := ⟨_, _, (List.dropLast_concat_getLast (by intro h; rw [h] at hn2; simp at hn2)).symm⟩; have hll : l.length = st.scopes.length := by rw [hlx, List.length_append] at hn2; simpa using hn2
    have esp := E.sp; rw [hlx, Q3j _ _ _ _ (by omega)] at esp; rw [esp] at S; have S := SH.out (F := [_, _, _, _, _, _, _, _, _, _, _, _, _, _]) S; simp only [List.cons_append, List.nil_append] at S; have hd : st2.scopes.dropLast = l := by rw [hlx, List.dropLast_concat]
    rw [hd]
    exact QX (A := [_]) (st := { st2 with scopes := l }) (w := { w with sc := ⟨.slice (some ⟨sb, 0, none⟩) st.scopes.length sc0, w.sc.c.take (st.scopes.length * 2), st.scopes.length, w.sc.b⟩, sp := scP l rs }) S { E with
      sc := by
        show w.sc.c.take _ = scC l rs; rw [E.sc, hlx, ← hll]; exact QaW l x rs b1 (by omega)
      scn := hll.symm
      rsn := by show rs.length = l.length; omega
      sp := rfl }
end
end Go.Proofs.YtkidomfnmpnmaaaGreatDoor
namespace Go.Proofs.YtkidomfnmpnmaaaGreatDoor
open Go.X Go.Nam
theorem Q6k (a b : ByteArray) : eqS a b = decide (a = b) := by
  rw [Bool.eq_iff_iff, decide_eq_true_eq]; constructor
  · intro h; have h : a.toList = b.toList := by simpa using h
    rw [ByteArray.toList_eq, ByteArray.toList_eq] at h; have h2 : a.data = b.data := Array.toList_inj.1 h; cases a; cases b; cases h2; rfl
  intro h; subst h; simp
theorem Q51 (l : List ByteArray) (t : ByteArray) : Q4c l t = Q5z l t := by
  unfold Q4c Q5z
  congr 1; funext u
  rw [Q6k]; exact decide_eq_decide.2 eq_comm
theorem QdC {l : List Int} (h : 0 < l.length) : l[0] = l.headD 0 := by
  cases l with
  | nil => simp at h
  | cons a l => rfl
section
variable {h0 hE : Hp} {bs rs : List Nat} {rb : Nat} {sv : Value} {st : Nst} {T : List Tw} {i : Nat} {rec : Nst → Int → Nst} {k p n w0 : Nat} {o : Int} {sow : List Int} {bl : List (Nat × Nat)}
theorem n44 (S0 : SH h0 [] [rsR rb sv st rs bs] hE) (R : Tre h0 sv T) (hi : i < T.length) (hw : st.wrong.length ≤ 1000000) (hm : st.means.length = T.length) : C nmE 44 [Zx rb, iV i] hE fun _ g' => ∃ bs', SH hE bs [rsR rb sv (Kq (vw T) st i [6]) rs bs'] g' := by
  refine Qf (fu := Tryz.f44) (by kernel_rfl) rfl ?_; have S := S0.enter; obtain ⟨w, E, ho, S⟩ := Qo (A := []) S; simp only [List.nil_append] at S; refine Q8 (by kernel_rfl) ?_; refine Q4 gn rfl rfl ?_; refine Q4 gn rfl rfl ?_; refine Qn (cs := #[iV 6]) (e := 36) (z := 0) (zv := .int .i64 0) [(0, _)] S gn rfl (by kernel_rfl) (by kernel_rfl) (by kernel_rfl) (by kernel_rfl) rfl (by kernel_rfl) fun b1 g nb1 S => ?_; have S := Qp (A := [_]) S E; refine Qb [_, _, _] gn rfl rfl (by kernel_rfl) rfl (C.mono (n78 (S0.sub1 S0.own0 S 1 rfl) R hi hw hm (Q0M (ks := [6]) S 0 1 rfl rfl (by decide)) (by decide)) ?_); rintro v g ⟨bs', S2⟩; have S := S.ret 1 rfl S2
  simp only [List.cons_append, List.nil_append, List.set_cons_succ, List.set_cons_zero] at S; obtain ⟨w, E, ho, S⟩ := Qo (A := [_]) S; simp only [List.cons_append, List.nil_append] at S; refine ⟨ag0, ?_⟩; refine Q5 ?_; refine ⟨.inr rfl, _, rfl, ?_⟩; exact QX (A := [_]) S E
theorem n45 (S0 : SH h0 [] [rsR rb sv st rs bs] hE) (R : Tre h0 sv T) (hi : i < T.length) (hw : st.wrong.length ≤ 1000000) (hm : st.means.length = T.length) : C nmE 45 [Zx rb, iV i] hE fun _ g' => ∃ bs', SH hE bs [rsR rb sv (Kq (vw T) st i [5]) rs bs'] g' := by
  refine Qf (fu := Tryz.f45) (by kernel_rfl) rfl ?_; have S := S0.enter; obtain ⟨w, E, ho, S⟩ := Qo (A := []) S; simp only [List.nil_append] at S; refine Q8 (by kernel_rfl) ?_; refine Q4 gn rfl rfl ?_; refine Q4 gn rfl rfl ?_; refine Qn (cs := #[iV 5]) (e := 36) (z := 0) (zv := .int .i64 0) [(0, _)] S gn rfl (by kernel_rfl) (by kernel_rfl) (by kernel_rfl) (by kernel_rfl) rfl (by kernel_rfl) fun b1 g nb1 S => ?_; have S := Qp (A := [_]) S E; refine Qb [_, _, _] gn rfl rfl (by kernel_rfl) rfl (C.mono (n78 (S0.sub1 S0.own0 S 1 rfl) R hi hw hm (Q0M (ks := [5]) S 0 1 rfl rfl (by decide)) (by decide)) ?_); rintro v g ⟨bs', S2⟩; have S := S.ret 1 rfl S2
  simp only [List.cons_append, List.nil_append, List.set_cons_succ, List.set_cons_zero] at S; obtain ⟨w, E, ho, S⟩ := Qo (A := [_]) S; simp only [List.cons_append, List.nil_append] at S; refine ⟨ag0, ?_⟩; refine Q5 ?_; refine ⟨.inr rfl, _, rfl, ?_⟩; exact QX (A := [_]) S E
theorem n43 (S0 : SH h0 [] [rsR rb sv st rs bs] hE) (R : Tre h0 sv T) (hi : i < T.length) (hw : st.wrong.length ≤ 1000000) (hm : st.means.length = T.length) (hC : Q8m h0 rb sv T rec k) (hr : Kx (vw T) rec k) (F : FoldAt (vw T) k ((vw T).ks i) bl n o sow (Kq (vw T) st i [4]) 0 p w0) (hp : p ≤ (vw T).n) :
    C nmE 43 [Zx rb, iV i] hE fun _ g' => ∃ bs', SH hE bs [rsR rb sv (KM (vw T) rec (Kq (vw T) st i [4]) i 0) rs bs'] g' := by
  refine Qf (fu := Tryz.f43) (by kernel_rfl) rfl ?_; have S := S0.enter; obtain ⟨w, E, ho, S⟩ := Qo (A := []) S; simp only [List.nil_append] at S; refine Qd ?_; refine Q4 gn rfl rfl ?_; refine Q4 gn rfl rfl ?_; refine Qn (cs := #[iV 4]) (e := 36) (z := 0) (zv := .int .i64 0) [(0, _)] S gn rfl (by kernel_rfl) (by kernel_rfl) (by kernel_rfl) (by kernel_rfl) rfl (by kernel_rfl) fun b1 g nb1 S => ?_; have S := Qp (A := [_]) S E; refine Qb [_, _, _] gn rfl rfl (by kernel_rfl) rfl (C.mono (n78 (S0.sub1 S0.own0 S 1 rfl) R hi hw hm (Q0M (ks := [4]) S 0 1 rfl rfl (by decide)) (by decide)) ?_); rintro v g ⟨bs', S2⟩; have S := S.ret 1 rfl S2
  simp only [List.cons_append, List.nil_append, List.set_cons_succ, List.set_cons_zero] at S; obtain ⟨w, E, ho, S⟩ := Qo (A := [_]) S; simp only [List.cons_append, List.nil_append] at S; refine ⟨ag0, ?_⟩; refine Q5 ?_; refine Q8 (by kernel_rfl) ?_; refine Q4 gn rfl rfl ?_; refine Q4 gn rfl rfl ?_; have S := Qp (A := [_]) S E; refine Qb [_, _, _] gn rfl rfl (by kernel_rfl) rfl (C.mono (n51 (S0.sub1 S0.own0 S 1 rfl) (fr := 0) R hi hC hr F (Nat.zero_le _) hp) ?_); rintro v g ⟨bs', S2⟩; have S := S.ret 1 rfl S2; simp only [List.cons_append, List.nil_append, List.set_cons_succ, List.set_cons_zero] at S; obtain ⟨w, E, ho, S⟩ := Qo (A := [_]) S; simp only [List.cons_append, List.nil_append] at S
  refine ⟨ag0, ?_⟩; refine Q5 ?_; refine ⟨.inr rfl, _, rfl, ?_⟩; exact QX (A := [_]) S E
theorem n42 (S0 : SH h0 [] [rsR rb sv st rs bs] hE) (R : Tre h0 sv T) (hi : i < T.length) (hw : st.wrong.length ≤ 1000000) (hm : st.means.length = T.length) : C nmE 42 [Zx rb, iV i] hE fun _ g' => ∃ bs', SH hE bs [rsR rb sv (Nam.typS (vw T) st i) rs bs'] g' := by
  have X := R.X; obtain ⟨ta, tc, rfl⟩ := X.val; obtain ⟨t0, b, o', cs, ee, m, hw0, Q⟩ := JK X hi; obtain rfl := Q.ta; unfold Nam.typS; rw [Q.s]; refine Qf (fu := Tryz.f42) (by kernel_rfl) rfl ?_; have S := S0.enter; obtain ⟨w, E, ho, S⟩ := Qo (A := []) S; simp only [List.nil_append] at S; refine Qd ?_; refine Qn (cs := #[.string ⟨#[105, 110, 116]⟩, .string ⟨#[102, 110]⟩, .string ⟨#[116, 111, 107]⟩, .string ⟨#[104, 97, 110, 100]⟩, .string ⟨#[97, 114, 114]⟩]) (e := 9) (z := 0) (zv := .string .empty) [(0, _), (1, _), (2, _), (3, _), (4, _)] S gn rfl (by kernel_rfl) (by kernel_rfl) (by kernel_rfl) (by kernel_rfl) rfl (by kernel_rfl) fun b1 g nb1 S => ?_; refine Q4 gn rfl rfl ?_
  refine Q9 gn rfl rfl ?_; refine Q0 (off := 0) gn rfl rfl (by kernel_rfl) ?_; refine Q0 (off := 0) gn rfl rfl (by kernel_rfl) ?_; refine Q6 gn rfl rfl (by kernel_rfl) (S.cel 1 rfl) rfl ?_; refine Q4 gn rfl rfl ?_; refine Q7 (zz := 6) gn rfl rfl rfl (by kernel_rfl) (by omega) (by omega) ?_; refine Q0 (off := 1) gn rfl rfl (by kernel_rfl) ?_; refine Q6 gn rfl rfl (by kernel_rfl) (S0.two S0.own0 S Q.g Q.lt) (Q.at 1 (by decide) rfl) ?_; refine Qb [_, _] gn rfl rfl (by kernel_rfl) rfl (C.mono (c63 (ws := QbL) (RowV.of (S.cel 0 rfl) (S.lt1 0 rfl) rfl) (by decide)) ?_); rintro v g ⟨rfl, x⟩; have S := S.grow x; refine ⟨ag0, ?_⟩; refine ZT gn rfl rfl ?_; refine Q5 ?_
  refine Qa rfl (fun hb => ?_) fun hb => ?_
  · skip
    refine Q8 (by kernel_rfl) ?_; refine Q4 gn rfl rfl ?_; refine Q4 gn rfl rfl ?_; refine Qn (cs := #[iV 5]) (e := 36) (z := 0) (zv := .int .i64 0) [(0, _)] S gn rfl (by kernel_rfl) (by kernel_rfl) (by kernel_rfl) (by kernel_rfl) rfl (by kernel_rfl) fun b2 g nb2 S => ?_; have S := Qp (A := [_, _]) S E; refine Qb [_, _, _] gn rfl rfl (by kernel_rfl) rfl (C.mono (n78 (S0.sub1 S0.own0 S 2 rfl) R hi hw hm (Q0M (ks := [5]) S 0 2 rfl rfl (by decide)) (by decide)) ?_); rintro v g ⟨bs', S2⟩; have S := S.ret 2 rfl S2; simp only [List.cons_append, List.nil_append, List.set_cons_succ, List.set_cons_zero] at S; obtain ⟨w, E, ho, S⟩ := Qo (A := [_, _]) S; simp only [List.cons_append, List.nil_append] at S
    refine ⟨ag0, ?_⟩; refine Q5 ?_; refine ⟨.inr rfl, _, rfl, ?_⟩; exact by rw [if_neg (by simpa [Q51] using hb)]; exact QX (A := [_, _]) S E
  refine Qe ?_; refine ⟨.inr rfl, _, rfl, ?_⟩; exact by rw [if_pos (by simpa [Q51] using hb)]; exact QX (A := [_]) S E
set_option maxHeartbeats 1000000 in
theorem n84 {j : Nat} (S0 : SH h0 [] [rsR rb sv st rs bs] hE) (R : Tre h0 sv T) (hi : i < T.length) (hj : j < T.length) (hk : Qeu (vw T) i = (j : Int)) (hne : 0 < ((vw T).ks i).length) (hw : st.wrong.length ≤ 1000000) (hm : st.means.length = T.length) (hlw : st.owners.length = T.length) : C nmE 84 [Zx rb, iV i] hE fun _ g' => ∃ bs', SH hE bs [rsR rb sv (Zh (vw T) st i) rs bs'] g' := by
  have X := R.X; obtain ⟨ta, tc, rfl⟩ := X.val; obtain ⟨t0, b, o', cs, ee, m, hw0, Q⟩ := JK X hi; obtain rfl := Q.ta; unfold Zh; rw [hk, Int.toNat_natCast]; unfold Qeu at hk; rw [Q.ks] at hk hne; obtain ⟨kb, ko, kc', kcs, ke, km, hv2, hg2, hlt2, hat2⟩ := Q.row.atM hne
  have hkid : kcs[ko + Int.toNat 0 * 1]? = some (iV j) := by
    have := hat2 0 hne; rw [Nat.add_zero] at this; rw [show ko + Int.toNat 0 * 1 = ko from rfl, this, ← hk, QdC hne]
  refine Qf (fu := Tryz.f84) (by kernel_rfl) rfl ?_; have S := S0.enter; obtain ⟨w, E, ho, S⟩ := Qo (A := []) S; simp only [List.nil_append] at S; refine Qd ?_; refine Q4 gn rfl rfl ?_; refine Q9 gn rfl rfl ?_; refine Q0 (off := 0) gn rfl rfl (by kernel_rfl) ?_; refine Q0 (off := 0) gn rfl rfl (by kernel_rfl) ?_; refine Q6 gn rfl rfl (by kernel_rfl) (S.cel 0 rfl) rfl ?_; refine Q4 gn rfl rfl ?_; refine Q7 (zz := 6) gn rfl rfl rfl (by kernel_rfl) (by omega) (by omega) ?_; refine Q0 (off := 5) gn rfl rfl (by kernel_rfl) ?_; refine Q6 gn rfl rfl (by kernel_rfl) (S0.two S0.own0 S Q.g Q.lt) (Q.at 5 (by decide) rfl) ?_; rw [show t0.ks = _ from hv2]
  refine Q7 (zz := 1) gn rfl rfl rfl (by kernel_rfl) (by omega) (by omega) ?_; refine Q6 gn rfl rfl (by kernel_rfl) (S0.two S0.own0 S hg2 hlt2) hkid ?_; refine Q3 gn rfl rfl ?_; refine Q5 ?_; refine Qj ?_; refine Z3 [(0, []), (1, []), (2, []), (3, []), (4, []), (5, []), (6, []), (7, []), (8, []), (9, []), (10, []), (11, [])] (by kernel_rfl) (by kernel_rfl) (by kernel_rfl) (by kernel_rfl) ?_; refine Q4 gn rfl rfl ?_; refine Q9 gn rfl rfl ?_; refine Q0 (off := 1) gn rfl rfl (by kernel_rfl) ?_; refine Q0 (off := 1) gn rfl rfl (by kernel_rfl) ?_; refine Q6 gn rfl rfl (by kernel_rfl) (S.cel 0 rfl) rfl ?_; refine Q4 gn rfl rfl ?_; refine Q4 gn rfl rfl ?_; refine Q9 gn rfl rfl ?_
  refine Q0 (off := 13) gn rfl rfl (by kernel_rfl) ?_; refine Q6 gn rfl rfl (by kernel_rfl) (S.cel 0 rfl) rfl ?_; obtain ⟨mb, mc, hmv, hmb, hml⟩ := Kl (S.sl 2 rfl) (by rw [E.own]; omega); rw [hmv]; refine Q7 (zz := 1) gn rfl rfl rfl (by kernel_rfl) (by omega) (by have := E.own; omega) ?_; refine Q8W 2 S gn rfl rfl rfl (by kernel_rfl) rfl hmv (by have h1 := E.own; have h2 : w.ow.c.length = w.ow.n * 1 := hml; rw [h2, Int.toNat_natCast]; omega) (fun g S => ag0) fun g S => ?_; simp only [List.set_cons_succ, List.set_cons_zero] at S; refine Q5 ?_; refine Q8 (by kernel_rfl) ?_; refine Q4 gn rfl rfl ?_; refine Q4 gn rfl rfl ?_
  refine Qn (cs := #[iV 4]) (e := 36) (z := 0) (zv := .int .i64 0) [(0, _)] S gn rfl (by kernel_rfl) (by kernel_rfl) (by kernel_rfl) (by kernel_rfl) rfl (by kernel_rfl) fun b1 g nb1 S => ?_; have E := E.owner j st.owner; have S := Qp (A := [_]) S E; refine Qb [_, _, _] gn rfl rfl (by kernel_rfl) rfl (C.mono (n78 (S0.sub1 S0.own0 S 1 rfl) R hj hw hm (Q0M (ks := [4]) S 0 1 rfl rfl (by decide)) (by decide)) ?_); rintro v g ⟨bs', S2⟩; have S := S.ret 1 rfl S2; simp only [List.cons_append, List.nil_append, List.set_cons_succ, List.set_cons_zero] at S; obtain ⟨w, E, ho, S⟩ := Qo (A := [_]) S; simp only [List.cons_append, List.nil_append] at S; refine ⟨ag0, ?_⟩; refine Q5 ?_
  refine ⟨.inr rfl, _, rfl, ?_⟩; exact QX (A := [_]) S E
end
end Go.Proofs.YtkidomfnmpnmaaaGreatDoor
namespace Go.Proofs.YtkidomfnmpnmaaaGreatDoor
open Go.X Go.Nam
theorem Qdb {M : MsK Txt} {cl : Nat} {F : Txt → Option Int} (hF : ∀ k, Q0e M k = (F k).map iV) (t : Txt) (i : Int) : ∀ k, Q0e (Q8i M t (iV i) cl).1 k = (Nam.put F t i k).map iV := fun k => by
  rw [Q3P]; unfold Nam.put
  split
  · rfl
  exact hF k
section
variable {h0 hE : Hp} {bs rs : List Nat} {rb : Nat} {sv : Value} {st : Nst} {T : List Tw} {i : Nat} {rec : Nst → Int → Nst} {k p n w0 : Nat} {o : Int} {sow : List Int} {bl : List (Nat × Nat)}
set_option maxHeartbeats 1000000 in
theorem n40 {s : Sco} (S0 : SH h0 [] [rsR rb sv st rs bs] hE) (R : Tre h0 sv T) (hi : i < T.length) (hw : st.wrong.length ≤ 1000000) (hs : st.scopes.getLast? = some s) (hC : Q8m h0 rb sv T rec k) (hr : Kx (vw T) rec k) (F : FoldAt (vw T) k ((vw T).ks i) bl n o sow (if Q8j st ((vw T).s i) = true then tell (vw T) st i 7 else st) 0 p w0) (hp : p ≤ (vw T).n) (hl : st.scopes.length ≤ 1000000) :
    C nmE 40 [Zx rb, iV i] hE fun _ g' => ∃ bs', SH hE bs [rsR rb sv (Q2P (vw T) rec st i) rs bs'] g' := by
  have X := R.X; obtain ⟨ta, tc, rfl⟩ := X.val; obtain ⟨t0, b, o', cs, ee, m, hw0, Q⟩ := JK X hi; obtain rfl := Q.ta; obtain ⟨ka, kc, hks⟩ := Q.row.valM; obtain ⟨K0, s0, N0, L0, C0, k0, kids0⟩ := t0; simp only at hks; subst hks; have hall : (cs.drop (o' + Int.toNat (i : Int) * 6)).take 6 = twC K0 s0 N0 L0 C0 (.slice ka kids0.length kc) := Q.all; have qs : (vw T).s i = s0 := Q.s; have hh : Q8j st s0 = (s.loc s0).isSome := by unfold Q8j; rw [hs]
  obtain ⟨had, hhad⟩ : ∃ had, had = (s.loc s0).isSome := ⟨_, rfl⟩; unfold Q2P; dsimp only; rw [qs, hh, ← hhad] at F ⊢; refine Qf (fu := Tryz.f40) (by kernel_rfl) rfl ?_; have S := S0.enter; obtain ⟨w, E, ho, S⟩ := Qo (A := []) S; simp only [List.nil_append] at S; obtain ⟨j, r, hsn, h1, h2, h3⟩ := Qdv hs E.rsn; have h3' := h3; rw [← E.sp] at h3'; have hrl := E.rsn; refine Qd ?_; refine Q4 gn rfl rfl ?_; refine Q9 gn rfl rfl ?_; refine Q0 (off := 0) gn rfl rfl (by kernel_rfl) ?_; refine Q0 (off := 0) gn rfl rfl (by kernel_rfl) ?_; refine Q6 gn rfl rfl (by kernel_rfl) (S.cel 0 rfl) rfl ?_; refine Q4 gn rfl rfl ?_; refine Q7 (zz := 6) gn rfl rfl rfl (by kernel_rfl) (by omega) (by omega) ?_
  refine Qs (n := 6) gn rfl rfl (by kernel_rfl) (by kernel_rfl) (S0.two S0.own0 S Q.g Q.lt) Q.len ?_; rw [hall]; refine Zz (zv := .agg #[.int .i64 0, .string .empty, .int .i64 0, .int .i64 0, .int .i64 0, .slice none 0 0]) S gn rfl (by kernel_rfl) fun b1 g nb1 S => ?_; refine QV (n := 6) 0 S gn rfl rfl (by kernel_rfl) (by kernel_rfl) rfl rfl (by decide) rfl (fun g S => ag0) fun g S => ?_; simp only [List.set_cons_succ, List.set_cons_zero] at S; refine Q5 ?_; refine Qj ?_; refine Z3 [(0, []), (1, []), (2, []), (3, []), (4, []), (5, []), (6, []), (7, []), (8, []), (9, []), (10, []), (11, []), (12, []), (13, [])] (by kernel_rfl) (by kernel_rfl) (by kernel_rfl) (by kernel_rfl) ?_
  refine Q4 gn rfl rfl ?_; refine Q9 gn rfl rfl ?_; refine Q0 (off := 12) gn rfl rfl (by kernel_rfl) ?_; refine Q6 gn rfl rfl (by kernel_rfl) (S.cel 1 rfl) rfl ?_; refine Q4 gn rfl rfl ?_; refine Q9 gn rfl rfl ?_; refine Q0 (off := 12) gn rfl rfl (by kernel_rfl) ?_; refine Q6 gn rfl rfl (by kernel_rfl) (S.cel 1 rfl) rfl ?_; obtain ⟨sb, sc0, hsv, hsb, hsl⟩ := Kl (S.sl 12 rfl) (by rw [E.scn]; omega); obtain ⟨rest, mm, hgb⟩ := JE (n := w.sc.n) (b := sb) (c := sc0) (by have := S.sl 12 rfl; rw [hsv] at this; exact this); have hcl : w.sc.c.length = w.sc.n * 2 := hsl; rw [E.scn, hsn] at hcl
  have hld : ((w.sc.c ++ rest).drop (0 + Int.toNat (((j + 1 : Nat) : Int) - 1) * 2)).take 2 = [.map (some r), iV s.ow] := by
    rw [E.sc, show 0 + Int.toNat (((j + 1 : Nat) : Int) - 1) * 2 = j * 2 by omega]; exact Q8T _ _ _ _ _ _ h1 h2
  rw [hsv, E.scn, hsn]; refine QI gn rfl rfl (by kernel_rfl) ?_; refine Q7T gn rfl rfl rfl (by omega) (by omega) ?_; refine Q7 (zz := 2) gn rfl rfl rfl (by kernel_rfl) (by omega) (by omega) ?_; refine Qs (n := 2) gn rfl rfl (by kernel_rfl) (by kernel_rfl) hgb (by rw [List.length_append, hcl]; omega) ?_; rw [hld]; refine Zz (zv := .agg #[.map none, .int .i64 0]) S gn rfl (by kernel_rfl) fun b2 g nb2 S => ?_; refine QV (n := 2) 0 S gn rfl rfl (by kernel_rfl) (by kernel_rfl) rfl rfl (by decide) rfl (fun g S => ag0) fun g S => ?_; simp only [List.set_cons_succ, List.set_cons_zero] at S; refine Zw ?_; refine Q0 (off := 0) gn rfl rfl (by kernel_rfl) ?_
  refine Q6 gn rfl rfl (by kernel_rfl) (S.cel 0 rfl) rfl ?_; refine Q0 (off := 1) gn rfl rfl (by kernel_rfl) ?_; refine Q6 gn rfl rfl (by kernel_rfl) (S.cel 1 rfl) rfl ?_; obtain ⟨M, cl, hM, hF⟩ := Q2L S _ (Q5F (F := [_, _, _, _, _, _, _, _, _, _, _, _, _, _, _]) (C := w.cp) h3'); refine YI (zv := .int .i64 0) Q9J gn rfl rfl rfl hM (by kernel_rfl) ?_; rw [hF, Q1t, ← hhad]; refine Q4 gn rfl rfl ?_; refine Zu gn rfl rfl rfl ?_; refine Zu gn rfl rfl rfl ?_; refine Q3 gn rfl rfl ?_; refine Q3 gn rfl rfl ?_; refine Kz ?_; refine Q4 gn rfl rfl ?_; refine Q5 ?_; refine Qa rfl (fun hb => ?_) fun hb => ?_
  · skip
    obtain rfl : had = true := hb; refine Q8 (by kernel_rfl) ?_; refine Q4 gn rfl rfl ?_; refine Q4 gn rfl rfl ?_; have S := Qp (A := [_, _]) S E; refine Qb [_, _, _] gn rfl rfl (by kernel_rfl) rfl (C.mono (n21 (S0.sub1 S0.own0 S 2 rfl) R.X hi hw) ?_); rintro v g ⟨bs', S2⟩; have S := S.ret 2 rfl S2; simp only [List.cons_append, List.nil_append, List.set_cons_succ, List.set_cons_zero] at S; obtain ⟨w, E, ho, S⟩ := Qo (A := [_, _]) S; simp only [List.cons_append, List.nil_append] at S; refine ⟨ag0, ?_⟩; refine Zw ?_; refine Q4 gn rfl rfl ?_; refine Q4 gn rfl rfl ?_; have S := Qp (A := [_, _]) S E
    refine Qb [_, _, _] gn rfl rfl (by kernel_rfl) rfl (C.mono (n51 (S0.sub1 S0.own0 S 2 rfl) (fr := 0) R hi hC hr F (Nat.zero_le _) hp) ?_); rintro v g ⟨bs', S2⟩; have S := S.ret 2 rfl S2; simp only [List.cons_append, List.nil_append, List.set_cons_succ, List.set_cons_zero] at S; obtain ⟨w, E, ho, S⟩ := Qo (A := [_, _]) S; simp only [List.cons_append, List.nil_append] at S; refine ⟨ag0, ?_⟩; refine Zw ?_; refine Q4 gn rfl rfl ?_; refine ZT gn rfl rfl ?_; refine Q5 ?_; refine Qa rfl (fun hb => ?_) fun hb => ?_
    · skip
      exact absurd hb (by decide)
    refine Qe ?_; refine ⟨.inr rfl, _, rfl, ?_⟩; exact QX (A := [_, _]) S E
  refine Qe ?_; obtain rfl : had = false := by simpa using hb
  simp only [Bool.false_eq_true, if_false] at F ⊢; refine Qd ?_; refine Q4 gn rfl rfl ?_; refine Q4 gn rfl rfl ?_; have S := Qp (A := [_, _]) S E; refine Qb [_, _, _] gn rfl rfl (by kernel_rfl) rfl (C.mono (n51 (S0.sub1 S0.own0 S 2 rfl) (fr := 0) R hi hC hr F (Nat.zero_le _) hp) ?_); rintro v g ⟨bs', S2⟩; have S := S.ret 2 rfl S2; simp only [List.cons_append, List.nil_append, List.set_cons_succ, List.set_cons_zero] at S; obtain ⟨w, E, ho, S⟩ := Qo (A := [_, _]) S; simp only [List.cons_append, List.nil_append] at S; refine ⟨ag0, ?_⟩; refine Zw ?_; refine Q4 gn rfl rfl ?_; refine ZT gn rfl rfl ?_; refine Q5 ?_; refine Qa rfl (fun hb => ?_) fun hb => ?_
  · skip
    generalize KM (vw T) rec st i 0 = st2 at E S ⊢; have hn2 : st2.scopes.length = j + 1 := by rw [← E.rsn]; omega
    have h1b : st2.scopes[j]? = some (st2.scopes[j]'(by omega)) := List.getElem?_eq_getElem _; have h4 := Q6G _ _ _ _ _ h1b h2; rw [← E.sp] at h4; have ek := QcQ (F := [_, _, _, _, _, _, _, _, _, _, _, _, _, _, _]) S h4; refine Q8 (by kernel_rfl) ?_; refine Q0 (off := 0) gn rfl rfl (by kernel_rfl) ?_; refine Q6 gn rfl rfl (by kernel_rfl) (S.cel 0 rfl) rfl ?_; refine Q0 (off := 1) gn rfl rfl (by kernel_rfl) ?_; refine Q6 gn rfl rfl (by kernel_rfl) (S.cel 1 rfl) rfl ?_; refine Q4 gn rfl rfl ?_; obtain ⟨M2, cl2, S, hF2⟩ := Q3H S _ ek; refine YW _ S Q9J gn rfl rfl rfl (Q4t ek) (fun g S => ag0) fun g S => ?_; have S := J7 S _ (Q4t (Q4t ek)) (Qdb hF2 s0 i); simp only [List.set_set] at S
    refine Q5 ?_; refine ⟨.inr rfl, _, rfl, ?_⟩; exact QX (A := [_, _]) (st := { st2 with scopes := setLast st2.scopes s0 i }) (w := { w with sp := w.sp.set j (mpR Value.string iV r (Nam.put (st2.scopes[j]'(by omega)).loc s0 i)) }) (tail_S (F := [_, _, _, _, _, _, _, _, _, _, _, _, _, _, _]) S rfl (List.getElem?_eq_some_iff.1 h4).1) (E.loc hn2 h1b h2 s0 i)
  exact absurd hb (by decide)
end
end Go.Proofs.YtkidomfnmpnmaaaGreatDoor
namespace Go.Proofs.YtkidomfnmpnmaaaGreatDoor
open Go.X Go.Nam
structure Pow (h : Hp) : Prop where
  t : QS 0 (Lib.pow10Tab.map (Value.int .u64)) h = true
  lt : 0 < h.n
theorem Pow.ext {h h' : Hp} (x : Pow h) (g : Ext h h') : Pow h' := ⟨by
  have := x.t; unfold QS at *
  rw [g.get 0 x.lt]; exact this, Nat.lt_of_lt_of_le x.lt g.n⟩
theorem fmt_at {h : Hp} (p : Pow h) {n : Int} (h0 : -9223372036854775808 ≤ n) (h1 : n ≤ 9223372036854775807) : Qev 0 [.int .i64 n, .int .i64 10] h = some (.string (Q0c n), h) := by
  simp only [Qev, p.t, Bool.true_and, decide_true, decide_eq_true h0, decide_eq_true h1]; rfl
theorem Qdx {h : Hp} (p : Pow h) {n : Int} (h0 : -9223372036854775808 ≤ n) (h1 : n ≤ 9223372036854775807) : Q83 0 [.int .i64 n] h = some (.string (Q0c n), h) := by
  simp only [Q83, p.t, Bool.true_and, decide_eq_true h0, decide_eq_true h1]; rfl
def PrT (h : Hp) (v : Value) (T : List Tw) (P : Tw → Bool) : Prop := ∃ f cap, v = .func (.func f) #[] cap ∧ ZK nmE f = true ∧ ∀ h', Ext h h' → ∀ t, t ∈ T → RowV h' t.ks (isV t.kids) → C nmE f ((#[] : Array Value).toList ++ [t.val] ++ cap.toList) h' fun v h'' => v = .bool (P t) ∧ Ext h' h''
def KeyV (h : Hp) (v : Value) (T : List Tw) (key : Tw → Txt) : Prop := ∃ f cap, v = .func (.func f) #[] cap ∧ ZK nmE f = true ∧ ∀ h', Ext h h' → ∀ t, t ∈ T → RowV h' t.ks (isV t.kids) → C nmE f ((#[] : Array Value).toList ++ [t.val] ++ cap.toList) h' fun v h'' => v = .string (key t) ∧ Ext h' h''
section
variable {h : Hp} {K N L Co : Int} {s : ByteArray} {ks : Value} {kids : List Int}
theorem n46 : C nmE 46 [iV K] h fun v h' => v = .bool (ZI K) ∧ Ext h h' := by
  refine Qf (fu := Tryz.f46) (by kernel_rfl) rfl ?_; have S := SH.start h; refine Qd ?_; refine Q3 gn rfl rfl ?_; refine Zw ?_; refine Qn (cs := (isV [2, 3, 6, 7, 8, 10]).toArray) (e := 39) (z := 0) (zv := .int .i64 0) [(0, _), (1, _), (2, _), (3, _), (4, _), (5, _)] S gn rfl (by kernel_rfl) (by kernel_rfl) (by kernel_rfl) (by kernel_rfl) rfl (by kernel_rfl) fun b1 g nb1 S => ?_; refine Q4 gn rfl rfl ?_; refine Qb [_, _] gn rfl rfl (by kernel_rfl) rfl (C.mono (c61 (ks := [2, 3, 6, 7, 8, 10]) (RowV.of (S.cel 0 rfl) (S.lt1 0 rfl) rfl) (by decide)) ?_); rintro v g ⟨rfl, x⟩; have S := S.grow x; refine ⟨ag0, ?_⟩; refine Q3 gn rfl rfl ?_; refine Q5 ?_; refine Qc ?_; refine ⟨.inl rfl, _, rfl, ?_⟩
  exact ⟨by simp [ZI]; rfl, S.e0⟩
theorem n49 : C nmE 49 [iV K] h fun v h' => v = .bool (Q1V K) ∧ Ext h h' := by
  refine Qf (fu := Tryz.f49) (by kernel_rfl) rfl ?_; have S := SH.start h; refine Qd ?_; refine Q3 gn rfl rfl ?_; refine Zw ?_; refine Qn (cs := (isV [7, 9, 10, 11, 36]).toArray) (e := 39) (z := 0) (zv := .int .i64 0) [(0, _), (1, _), (2, _), (3, _), (4, _)] S gn rfl (by kernel_rfl) (by kernel_rfl) (by kernel_rfl) (by kernel_rfl) rfl (by kernel_rfl) fun b1 g nb1 S => ?_; refine Q4 gn rfl rfl ?_; refine Qb [_, _] gn rfl rfl (by kernel_rfl) rfl (C.mono (c61 (ks := [7, 9, 10, 11, 36]) (RowV.of (S.cel 0 rfl) (S.lt1 0 rfl) rfl) (by decide)) ?_); rintro v g ⟨rfl, x⟩; have S := S.grow x; refine ⟨ag0, ?_⟩; refine Q3 gn rfl rfl ?_; refine Q5 ?_; refine Qc ?_; refine ⟨.inl rfl, _, rfl, ?_⟩
  exact ⟨by simp [Q1V]; rfl, S.e0⟩
theorem n83 (R : RowV h ks (isV kids)) : C nmE 83 [twV K s N L Co ks] h fun v h' => v = .string s ∧ Ext h h' := by
  obtain ⟨a, c, rfl⟩ := R.valM; refine Qf (fu := Tryz.f83) (by kernel_rfl) rfl ?_; have S := SH.start h; refine Qd ?_; refine Yh S gn rfl rfl fun b1 g nb1 S => ?_; refine Q3 gn rfl rfl ?_; refine Zw ?_; refine Q0 (off := 1) gn rfl rfl (by kernel_rfl) ?_; refine Q6 gn rfl rfl (by kernel_rfl) (S.cel 0 rfl) rfl ?_; refine Q3 gn rfl rfl ?_; refine Q5 ?_; refine Qc ?_; refine ⟨.inl rfl, _, rfl, ?_⟩; exact ⟨rfl, S.e0⟩
theorem n85 (B : Pow h) (R : RowV h ks (isV kids)) (h0 : -9223372036854775808 ≤ N) (h1 : N ≤ 9223372036854775807) : C nmE 85 [twV K s N L Co ks] h fun v h' => v = .string (Q0c N) ∧ Ext h h' := by
  obtain ⟨a, c, rfl⟩ := R.valM; refine Qf (fu := Tryz.f85) (by kernel_rfl) rfl ?_; have S := SH.start h; refine Qd ?_; refine Yh S gn rfl rfl fun b1 g nb1 S => ?_; refine Q3 gn rfl rfl ?_; refine Zw ?_; refine Q0 (off := 2) gn rfl rfl (by kernel_rfl) ?_; refine Q6 gn rfl rfl (by kernel_rfl) (S.cel 0 rfl) rfl ?_; refine Qcl [_, _] gn rfl rfl (by kernel_rfl) (by kernel_rfl) sm86 rfl (fmt_at (n := N) (B.ext S.e0) h0 h1) (.refl _) ag0 ?_; refine Q3 gn rfl rfl ?_; refine Q5 ?_; refine Qc ?_; refine ⟨.inl rfl, _, rfl, ?_⟩; exact ⟨rfl, S.e0⟩
theorem n81 {q m : Nat} {cs : List Value} {s2 : ByteArray} (hq : h.get q = some (.cells cs 41 m)) (hlt : q < h.n) (hs : cs[0 + 1]? = some (.string s2)) (R : RowV h ks (isV kids)) : C nmE 81 [twV K s N L Co ks, Zx q] h fun v h' => v = .bool (decide (s = s2) && ZI K) ∧ Ext h h' := by
  obtain ⟨a, c, rfl⟩ := R.valM; refine Qf (fu := Tryz.f81) (by kernel_rfl) rfl ?_; have S := SH.start h; refine Qd ?_; refine Yh S gn rfl rfl fun b1 g nb1 S => ?_; refine Q3 gn rfl rfl ?_; refine Zw ?_; refine Q0 (off := 1) gn rfl rfl (by kernel_rfl) ?_; refine Q6 gn rfl rfl (by kernel_rfl) (S.cel 0 rfl) rfl ?_; refine Q0 (off := 1) gn rfl rfl (by kernel_rfl) ?_; refine Q6 gn rfl rfl (by kernel_rfl) (S.old0 hq hlt) hs ?_; refine Yp gn rfl rfl rfl ?_; refine Q4 gn rfl rfl ?_; refine QM (dc := 9) rfl (fun hb9 => ?_) fun hb9 => ?_
  · skip
    refine Q0 (off := 0) (gy rfl rfl rfl hb9) rfl rfl (by kernel_rfl) ?_; refine Q6 (gy rfl rfl rfl hb9) rfl rfl (by kernel_rfl) (S.cel 0 rfl) rfl ?_; refine Qb [_] (gy rfl rfl rfl hb9) rfl rfl (by kernel_rfl) rfl (C.mono n46 ?_); rintro v g ⟨rfl, x⟩; have S := S.grow x; refine ⟨ag0, ?_⟩; refine Zd gn rfl rfl hb9 rfl ?_; refine Q3 gn rfl rfl ?_; refine Q5 ?_; refine Qc ?_; refine ⟨.inl rfl, _, rfl, ?_⟩; exact ⟨by rw [Q6k] at hb9; show Value.bool _ = Value.bool _; rw [hb9, Bool.true_and], S.e0⟩
  refine QU (n := 3) (dc := 9) (w := true) rfl hb9 rfl ?_; refine Z2 gn rfl rfl hb9 rfl ?_; refine Q3 gn rfl rfl ?_; refine Q5 ?_; refine Qc ?_; refine ⟨.inl rfl, _, rfl, ?_⟩; exact ⟨by rw [Q6k] at hb9; show Value.bool _ = Value.bool _; rw [hb9, Bool.false_and], S.e0⟩
end
section
variable {h : Hp} {v fv : Value} {T : List Tw} {P : Tw → Bool}
theorem n50 (X : TreeAt h v T) (p : PrT h fv T P) (hl : T.length ≤ 1000) : C nmE 50 [v, fv] h fun v h' => (∃ r, v = iV r ∧ ((r = -1 ∧ ∀ (i : Nat) t, T[i]? = some t → P t = false) ∨ ∃ j : Nat, r = j ∧ (∃ t, T[j]? = some t ∧ P t = true) ∧ ∀ (i : Nat) t, i < j → T[i]? = some t → P t = false)) ∧ Ext h h' := by
  obtain ⟨ta, tc, rfl⟩ := X.val; have p' := p; obtain ⟨f, cap, rfl, hf, hc⟩ := p; refine Qf (fu := Tryz.f50) (by kernel_rfl) rfl ?_; have S := SH.start h; refine Qd ?_; refine Q3 gn rfl rfl ?_; refine Kz ?_; refine Q4 gn rfl rfl ?_; refine QI gn rfl rfl (by kernel_rfl) ?_; refine Q4 gn rfl rfl ?_; refine Q5 ?_; refine Qg ?_; refine QH [(8, _)] [(0, _), (1, _), (7, _)] (by repeat (first | exact trivial | refine ⟨rfl, ?_⟩)) (fun kk lv hh => ∃ j : Nat, lv = [(8, iV j)] ∧ kk = T.length - j ∧ j ≤ T.length ∧ SH h [] [] hh ∧ ∀ (i : Nat) t, i < j → T[i]? = some t → P t = false) (n := (T.length)) ?_ fun kk lv hh hI => ?_
  · exact ⟨0, rfl, rfl, by omega, S, fun i _ hi => by omega⟩
  obtain ⟨j, rfl, hk, hj, S, hs⟩ := hI; refine Qd ?_; refine Z9 gn rfl rfl rfl ?_; refine Q5 ?_; refine Qj ?_; refine Qa rfl (fun hb => ?_) fun hb => ?_
  · skip
    refine Qe ?_; have hj : j < T.length := by simp at hb; omega
    obtain ⟨t0, b, o', cs, ee, m, hw0, Q⟩ := JK X hj; obtain rfl := Q.ta; obtain ⟨ka, kc, hks⟩ := Q.row.valM; refine Qj ?_; refine Qg ?_; refine Qd ?_; refine Q4 gn rfl rfl ?_; refine Q3 gn rfl rfl ?_; refine Zw ?_; refine Q4 gn rfl rfl ?_; refine Q4 gn rfl rfl ?_; refine Q4 gn rfl rfl ?_; refine Q7 (zz := 6) gn rfl rfl rfl (by kernel_rfl) (by omega) (by omega) ?_; refine Qs (n := 6) gn rfl rfl (by kernel_rfl) (by kernel_rfl) (S.old0 Q.g Q.lt) Q.len ?_; rw [Q.all]; refine Qb [_] gn rfl rfl hf rfl (C.mono (hc _ S.e0 t0 (List.mem_of_getElem? hw0) (Q.row.ext S.e0)) ?_); rintro v g ⟨rfl, x⟩; have S := S.grow x; refine ⟨ag0, ?_⟩; refine Q5 ?_; refine Qa rfl (fun hb => ?_) fun hb => ?_
    · skip
      refine Qd ?_; refine Q4 gn rfl rfl ?_; refine Q3 gn rfl rfl ?_; refine Q5 ?_; refine Qc ?_; refine ⟨.inl rfl, _, rfl, ?_⟩; exact ⟨⟨j, rfl, .inr ⟨j, rfl, ⟨t0, hw0, hb⟩, hs⟩⟩, S.e0⟩
    refine Qe ?_; refine Q8 (by kernel_rfl) ?_; refine QO gn rfl rfl rfl (by omega) (by omega) ?_; refine Q4 gn rfl rfl ?_; refine Q5 ?_
    exact Kc (T.length - (j + 1)) (by omega) [(8, _)] (by repeat (first | exact trivial | refine ⟨rfl, ?_⟩)) ⟨j + 1, rfl, rfl, by omega, S, fun i t hi ht => by
      have hPj : P t0 = false := hb; by_cases e : i = j
      · subst e; rw [hw0] at ht; cases ht; exact hPj
      exact hs i t (by omega) ht⟩
  refine QZ ?_; refine Qt ?_; refine Qu ?_; refine QY ?_; refine Qd ?_; refine Q3 gn rfl rfl ?_; refine Q5 ?_; refine Qc ?_; refine ⟨.inl rfl, _, rfl, ?_⟩; exact ⟨⟨-1, rfl, .inl ⟨rfl, fun i t ht => hs i t (by have := (List.getElem?_eq_some_iff.1 ht).1; simp at hb; omega) ht⟩⟩, S.e0⟩
theorem n19 (X : TreeAt h v T) (p : PrT h fv T P) (hl : T.length ≤ 1000) : C nmE 19 [v, fv] h fun v h' => v = .bool (T.any P) ∧ Ext h h' := by
  refine Qf (fu := Tryz.f19) (by kernel_rfl) rfl ?_; have S := SH.start h; refine Qd ?_; refine Q3 gn rfl rfl ?_; refine Zw ?_; refine Q4 gn rfl rfl ?_; refine Q4 gn rfl rfl ?_; refine Qb [_, _] gn rfl rfl (by kernel_rfl) rfl (C.mono (n50 X p hl) ?_); rintro v g ⟨⟨r, rfl, hr⟩, x⟩; have S := S.grow x; refine ⟨ag0, ?_⟩; refine Y5 gn rfl rfl rfl ?_; refine Q3 gn rfl rfl ?_; refine Q5 ?_; refine Qc ?_; refine ⟨.inl rfl, _, rfl, ?_⟩
  exact ⟨by
    have e : decide (0 ≤ r) = T.any P := by
      rw [Bool.eq_iff_iff, decide_eq_true_eq, List.any_eq_true]; rcases hr with ⟨rfl, h1⟩ | ⟨j, rfl, ⟨t, h2, h3⟩, _⟩
      · refine ⟨fun h => by omega, fun ⟨t, ht, hP⟩ => ?_⟩; obtain ⟨i, hi, rfl⟩ := List.mem_iff_getElem.1 ht; rw [h1 i _ (List.getElem?_eq_getElem hi)] at hP; cases hP
      exact ⟨fun _ => ⟨t, List.mem_of_getElem? h2, h3⟩, fun _ => by omega⟩
    rw [← e]; rfl, S.e0⟩
theorem n20 {K N L Co : Int} {s : ByteArray} {ks : Value} {kids : List Int} (R : RowV h ks (isV kids)) : C nmE 20 [twV K s N L Co ks] h fun v h' => v = .bool (decide (K = 11)) ∧ Ext h h' := by
  obtain ⟨a, c, rfl⟩ := R.valM; refine Qf (fu := Tryz.f20) (by kernel_rfl) rfl ?_; have S := SH.start h; refine Qd ?_; refine Yh S gn rfl rfl fun b1 g nb1 S => ?_; refine Q3 gn rfl rfl ?_; refine Zw ?_; refine Q0 (off := 0) gn rfl rfl (by kernel_rfl) ?_; refine Q6 gn rfl rfl (by kernel_rfl) (S.cel 0 rfl) rfl ?_; refine Qq gn rfl rfl rfl ?_; refine Q3 gn rfl rfl ?_; refine Q5 ?_; refine Qc ?_; refine ⟨.inl rfl, _, rfl, ?_⟩; exact ⟨rfl, S.e0⟩
end
end Go.Proofs.YtkidomfnmpnmaaaGreatDoor
namespace Go.Proofs.YtkidomfnmpnmaaaGreatDoor
open Go.X Go.Nam
def Q7B (b : Bool) : Value := .agg #[.bool b]
def Q5J (sn : List Txt) (t : Txt) : Option Bool := if Q5z sn t = true then some true else none
theorem QcX (sn : List Txt) (t : Txt) : ((Q5J sn t).map Q7B).getD (.agg #[.bool false]) = .agg #[.bool (Q5z sn t)] := by
  unfold Q5J; cases Q5z sn t <;> rfl
theorem Q6F {M : MsK Txt} {cl : Nat} {sn : List Txt} (hF : ∀ k, Q0e M k = (Q5J sn k).map Q7B) (t : Txt) : ∀ k, Q0e (Q8i M t (.agg #[.bool true]) cl).1 k = (Q5J (t :: sn) k).map Q7B := fun k => by
  rw [Q3P, hF]; have e : Q5z (t :: sn) k = (decide (t = k) || Q5z sn k) := rfl; unfold Q5J; rw [e]; by_cases h : k = t
  · subst h; simp [Q7B]
  rw [if_neg h, decide_eq_false (fun e => h e.symm), Bool.false_or]
theorem Q9I : KeyT nmE 145 9 146 Value.string := Q7a (by kernel_rfl) (by kernel_rfl)
section
variable {h0 hE : Hp} {bs rs : List Nat} {rb : Nat} {sv : Value} {st : Nst} {T : List Tw} {i : Nat} {rec : Nst → Int → Nst} {k p n w0 : Nat} {o : Int} {sow : List Int} {bl : List (Nat × Nat)}
set_option maxHeartbeats 1000000 in
theorem n82 {fr : Nat} {fv : Value} {key : Tw → Txt} {Q9G : Int → Txt} (S0 : SH h0 [] [rsR rb sv st rs bs] hE) (R : Tre h0 sv T) (hi : i < T.length) (hC : Q8m h0 rb sv T rec k) (hr : Kx (vw T) rec k) (hkey : KeyV h0 fv T key) (hki : ∀ (j : Nat) t, T[j]? = some t → Q9G j = key t) (F : FoldAt (vw T) k (((vw T).ks i).drop fr) bl n o sow st 0 p w0) (hf : fr ≤ ((vw T).ks i).length) (hp : p ≤ (vw T).n) :
    C nmE 82 [Zx rb, iV i, iV fr, fv] hE fun _ g' => ∃ bs', SH hE bs [rsR rb sv (Q0E (vw T) rec Q9G (((vw T).ks i).drop fr) [] st) rs bs'] g' := by
  have X := R.X; obtain ⟨ta, tc, rfl⟩ := X.val; obtain ⟨t0, b, o', cs, ee, m, hw0, Q⟩ := JK X hi; obtain rfl := Q.ta; obtain ⟨kf, kcap, rfl, hkf, hkc⟩ := hkey; have hlen := F.len hp; have hPn := R.P.n; rw [Q.ks] at F hf hlen ⊢; obtain ⟨sl, hslr, hsl⟩ := Q8J el29 (R.G t0 (List.mem_of_getElem? hw0)) (show fr ≤ (isV t0.kids).length by rw [List.length_map]; exact hf); rw [show (isV t0.kids).drop fr = isV (t0.kids.drop fr) from List.map_drop.symm] at hslr; generalize t0.kids.drop fr = l at F hslr hlen ⊢; obtain ⟨sa, sc, rfl⟩ := hslr.valM; refine Qf (fu := Tryz.f82) (by kernel_rfl) rfl ?_; have S := S0.enter; obtain ⟨w, E, ho, S⟩ := Qo (A := []) S; simp only [List.nil_append] at S; refine Qd ?_
  refine Q1Q S gn rfl fun b1 g nb1 S => ?_; refine Q3 gn rfl rfl ?_; refine Zw ?_; refine Q4 gn rfl rfl ?_; refine Q9 gn rfl rfl ?_; refine Q0 (off := 0) gn rfl rfl (by kernel_rfl) ?_; refine Q0 (off := 0) gn rfl rfl (by kernel_rfl) ?_; refine Q6 gn rfl rfl (by kernel_rfl) (S.cel 1 rfl) rfl ?_; refine Q4 gn rfl rfl ?_; refine Q7 (zz := 6) gn rfl rfl rfl (by kernel_rfl) (by omega) (by omega) ?_; refine Q0 (off := 5) gn rfl rfl (by kernel_rfl) ?_; refine Q6 gn rfl rfl (by kernel_rfl) (S0.two S0.own0 S Q.g Q.lt) (Q.at 5 (by decide) rfl) ?_; refine Q4 gn rfl rfl ?_; refine Q3D gn rfl rfl rfl (hsl _ (S0.all0 S0.own0 S)) ?_; refine QI gn rfl rfl (by kernel_rfl) ?_; refine Q4 gn rfl rfl ?_
  refine Q5 ?_; have S := J7 (key := Value.string) (enc := Q7B) (F := Q5J []) (M := []) (cl := 0) S 0 rfl (fun _ => rfl); simp only [List.set_cons_zero] at S; refine Qg ?_; refine QH [(25, _)] [(0, _), (3, _), (8, _), (23, _), (24, _)] (by repeat (first | exact trivial | refine ⟨rfl, ?_⟩)) (fun kk lv hh => ∃ (j : Nat) (bs1 : List Nat) (p1 w1 : Nat) (st1 : Nst) (sn : List Txt), lv = [(25, iV j)] ∧ kk = l.length - j ∧ j ≤ l.length ∧ SH hE bs [mpR Value.string Q7B b1 (Q5J sn), rsR rb (.slice (some ⟨b, o', none⟩) T.length tc) st1 rs bs1] hh ∧ FoldAt (vw T) k l bl n o sow st1 j p1 w1 ∧ Q0E (vw T) rec Q9G (l.drop j) sn st1 = Q0E (vw T) rec Q9G l [] st) (n := (l.length)) ?_ fun kk lv hh hI => ?_
  · exact ⟨0, _, p, w0, st, [], rfl, rfl, by omega, Qp (A := [_]) S E, F, rfl⟩
  obtain ⟨j, bs1, p1, w1, st1, sn, rfl, hkk, hj, S, F1, hon⟩ := hI; refine Qd ?_; refine Z9 gn rfl rfl rfl ?_; refine Q5 ?_; refine Qj ?_; refine Qa rfl (fun hb => ?_) fun hb => ?_
  · skip
    refine Qe ?_; have hj : j < l.length := by simp at hb; omega
    obtain ⟨w, E, ho, S⟩ := Qo (A := [_]) S; simp only [List.cons_append, List.nil_append] at S; obtain ⟨kb, ko, kc', kcs, ke, km, hv2, hg2, hlt2, hat2⟩ := hslr.atM (by omega); obtain ⟨e1, hp1, _⟩ := F1.step hr hj _ _ (.inl rfl) F1.I (.refl _ _); have hp1 : p1 < T.length := hp1; obtain rfl : sa = some ⟨kb, ko, none⟩ := by injection hv2
    have hlj : l[j] = (p1 : Int) := by rw [List.getElem?_eq_getElem hj] at e1; exact Option.some.inj e1
    have hkid : kcs[ko + Int.toNat (j : Int) * 1]? = some (iV p1) := by
      rw [Int.toNat_natCast, Nat.mul_one, hat2 j hj, hlj]
    obtain ⟨t1, b', o1, cs1, ee1, m1, hw1, Q1⟩ := JK X hp1
    obtain ⟨rfl, rfl⟩ : b = b' ∧ o' = o1 := by
      have := Q1.ta; simp only [Option.some.injEq, Addr.mk.injEq, and_true] at this; exact this
    have hon2 : Q0E (vw T) rec Q9G (l.drop (j + 1)) (Q9G p1 :: sn) (rec (if Q5z sn (Q9G p1) = true then tell (vw T) st1 p1 7 else st1) p1) = Q0E (vw T) rec Q9G l [] st := by
      rw [← hon, List.drop_eq_getElem_cons hj, hlj]; rfl
    rw [hki p1 t1 hw1] at hon2; have hwr := F1.I.bw; have hbb := F1.b; refine Qj ?_; refine Qg ?_; refine Qd ?_; refine Q7 (zz := 1) gn rfl rfl rfl (by kernel_rfl) (by omega) (by omega) ?_; refine Q6 gn rfl rfl (by kernel_rfl) (S0.two S0.own0 S hg2 hlt2) hkid ?_; refine Q3 gn rfl rfl ?_; refine Zw ?_; refine Q4 gn rfl rfl ?_; refine Q4 gn rfl rfl ?_; refine Q9 gn rfl rfl ?_; refine Q0 (off := 0) gn rfl rfl (by kernel_rfl) ?_; refine Q0 (off := 0) gn rfl rfl (by kernel_rfl) ?_; refine Q6 gn rfl rfl (by kernel_rfl) (S.cel 1 rfl) rfl ?_; refine Q4 gn rfl rfl ?_; refine Q7 (zz := 6) gn rfl rfl rfl (by kernel_rfl) (by omega) (by omega) ?_
    refine Qs (n := 6) gn rfl rfl (by kernel_rfl) (by kernel_rfl) (S0.two S0.own0 S Q1.g Q1.lt) Q1.len ?_; rw [Q1.all]; refine Qb [_] gn rfl rfl hkf rfl (C.mono (hkc _ (S0.all0 S0.own0 S) t1 (List.mem_of_getElem? hw1) (Q1.row.ext (S0.all0 S0.own0 S))) ?_); rintro v g ⟨rfl, x⟩; have S := S.grow x; refine ⟨ag0, ?_⟩; refine Q3 gn rfl rfl ?_; refine Kz ?_; refine Q4 gn rfl rfl ?_; refine Q4 gn rfl rfl ?_; obtain ⟨M, cl, hM, hF⟩ := Q2L S 0 rfl; refine Q1W (zv := .agg #[.bool false]) Q9I gn rfl rfl rfl hM (by kernel_rfl) ?_; rw [hF, QcX]; refine Q9i (v := .bool (Q5z sn (key t1))) gn rfl rfl (by kernel_rfl) ?_; refine Q5 ?_; refine Qa rfl (fun hb => ?_) fun hb => ?_
    · skip
      refine Q8 (by kernel_rfl) ?_; refine Q4 gn rfl rfl ?_; refine Q4 gn rfl rfl ?_; have S := Qp (A := [_]) S E; refine Qb [_, _, _] gn rfl rfl (by kernel_rfl) rfl (C.mono (n21 (S0.sub1 S0.own0 S 1 rfl) X hp1 (by omega)) ?_); rintro v g ⟨bs', S2⟩; have S := S.ret 1 rfl S2; simp only [List.cons_append, List.nil_append, List.set_cons_succ, List.set_cons_zero] at S; obtain ⟨w, E, ho, S⟩ := Qo (A := [_]) S; simp only [List.cons_append, List.nil_append] at S; refine ⟨ag0, ?_⟩; refine Zw ?_; refine Q4 gn rfl rfl ?_; refine Q4 gn rfl rfl ?_; refine Yq (cs := #[.bool true]) (zv := .agg #[.bool false]) (pl := [(0, 1)]) [(0, _)] gn rfl (by kernel_rfl) (by kernel_rfl) rfl (by kernel_rfl) ?_
      obtain ⟨M2, cl2, S, hF2⟩ := Q3H S 0 rfl; simp only [List.set_cons_zero] at S; refine YW 0 S Q9I gn rfl rfl rfl rfl (fun g S => ag0) fun g S => ?_; simp only [List.set_cons_zero] at S; have S := J7 S 0 rfl (Q6F hF2 (key t1)); simp only [List.set_cons_zero] at S; rw [if_pos hb] at hon2; obtain ⟨_, _, q, hsub, hat, hb2, F2⟩ := F1.step hr hj _ _ (.inr rfl) (F1.I.tell p1 7) (YM p1 7); refine Q5 ?_; refine Q8 (by kernel_rfl) ?_; refine Q4 gn rfl rfl ?_; refine Q4 gn rfl rfl ?_; have S := Qp (A := [_]) S E; refine Qb [_, _] gn rfl rfl (by kernel_rfl) rfl (C.mono (hC p1 q _ bl (w1 + 1) _ _ _ hsub hat hb2 (S0.sub1 S0.own0 S 1 rfl)) ?_); rintro v g ⟨bs', S2⟩; have S := S.ret 1 rfl S2
      simp only [List.cons_append, List.nil_append, List.set_cons_succ, List.set_cons_zero] at S; obtain ⟨w, E, ho, S⟩ := Qo (A := [_]) S; simp only [List.cons_append, List.nil_append] at S; refine ⟨ag0, ?_⟩; refine Q5 ?_; refine Q8 (by kernel_rfl) ?_; refine QO gn rfl rfl rfl (by omega) (by omega) ?_; refine Q4 gn rfl rfl ?_; refine Q5 ?_; exact Kc (l.length - (j + 1)) (by omega) [(25, _)] (by repeat (first | exact trivial | refine ⟨rfl, ?_⟩)) ⟨j + 1, _, q, _, _, key t1 :: sn, rfl, rfl, by omega, Qp (A := [_]) S E, F2, hon2⟩
    refine Qe ?_; refine Qd ?_; refine Q4 gn rfl rfl ?_; refine Q4 gn rfl rfl ?_; refine Yq (cs := #[.bool true]) (zv := .agg #[.bool false]) (pl := [(0, 1)]) [(0, _)] gn rfl (by kernel_rfl) (by kernel_rfl) rfl (by kernel_rfl) ?_; obtain ⟨M2, cl2, S, hF2⟩ := Q3H S 0 rfl; simp only [List.set_cons_zero] at S; refine YW 0 S Q9I gn rfl rfl rfl rfl (fun g S => ag0) fun g S => ?_; simp only [List.set_cons_zero] at S; have S := J7 S 0 rfl (Q6F hF2 (key t1)); simp only [List.set_cons_zero] at S; rw [if_neg (by simpa using hb)] at hon2; obtain ⟨_, _, q, hsub, hat, hb2, F2⟩ := F1.step hr hj _ _ (.inl rfl) F1.I (.refl _ _); refine Q5 ?_; refine Q8 (by kernel_rfl) ?_; refine Q4 gn rfl rfl ?_
    refine Q4 gn rfl rfl ?_; have S := Qp (A := [_]) S E; refine Qb [_, _] gn rfl rfl (by kernel_rfl) rfl (C.mono (hC p1 q _ bl w1 _ _ _ hsub hat hb2 (S0.sub1 S0.own0 S 1 rfl)) ?_); rintro v g ⟨bs', S2⟩; have S := S.ret 1 rfl S2; simp only [List.cons_append, List.nil_append, List.set_cons_succ, List.set_cons_zero] at S; obtain ⟨w, E, ho, S⟩ := Qo (A := [_]) S; simp only [List.cons_append, List.nil_append] at S; refine ⟨ag0, ?_⟩; refine Q5 ?_; refine Q8 (by kernel_rfl) ?_; refine QO gn rfl rfl rfl (by omega) (by omega) ?_; refine Q4 gn rfl rfl ?_; refine Q5 ?_
    exact Kc (l.length - (j + 1)) (by omega) [(25, _)] (by repeat (first | exact trivial | refine ⟨rfl, ?_⟩)) ⟨j + 1, _, q, _, _, key t1 :: sn, rfl, rfl, by omega, Qp (A := [_]) S E, F2, hon2⟩
  refine QZ ?_; refine Qt ?_; refine Qu ?_; refine QY ?_; refine ⟨.inr rfl, _, rfl, ?_⟩
  exact by
    have hjl : j = l.length := by simp at hb; omega
    subst hjl; rw [List.drop_length] at hon; rw [← hon]; exact ⟨bs1, S.pick 1 rfl⟩
end
end Go.Proofs.YtkidomfnmpnmaaaGreatDoor
