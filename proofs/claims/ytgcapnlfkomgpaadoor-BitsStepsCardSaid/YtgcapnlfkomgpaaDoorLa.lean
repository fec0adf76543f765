/- Plain: how many bits a word of 64 has, as math/bits.OnesCount64 reckons it. Conditions: none. Plain: words of 64 bits stand for a row of bits: what adding, dropping, joining, counting and going over them come to. Conditions: none. Chapter 17: the machine over the chapter's program; sets as they lie in memory, the program's and the document's. Conditions: none. Chapter 17, the program's sets: New, Has, Add, Drop, a word, a mask, Size. Conditions: none. Chapter 17, the program's sets: Add, Drop, Union, Meets. Conditions: none. Chapter 17, the program's sets: how many bits, going over them, Copy, Same. Conditions: math/bits' table lies in the memory. Chapter 17, the program's sets: how many bits, Copy, All and what it yields. Conditions: math/bits' table lies in the memory. Chapter 17, the program's sets: Same. Conditions: math/bits' table lies in the memory. Chapter 17, the document's sets; lists of numbers held side by side. Conditions: none. Chapter 17, the document's sets: List, Union. Conditions: none. Chapter 17, the law's list, same, of. Conditions: math/bits' table lies in the memory. Chapter 17, the law's same, of. Conditions: math/bits' table lies in the memory. -/
import Derived.Test.YtgcapnlfkomgpaaDoorXc
import Derived.Lib.TrailingZeros
import Derived.Test.YtgcapnlfkomgpaaDoorRows
namespace Go.X

/-- Digits of a base. -/
def dval (B : Nat) : List Nat → Nat
  | [] => 0
  | d :: r => d + B * dval B r

theorem and_dig (b d m v w : Nat) (hd : d < 2 ^ b) (hm : m < 2 ^ b) : (d + 2 ^ b * v) &&& (m + 2 ^ b * w) = (d &&& m) + 2 ^ b * (v &&& w) := by
  have hdm : d &&& m < 2 ^ b := Nat.and_lt_two_pow _ hm
  apply Nat.eq_of_testBit_eq
  intro i
  rw [Nat.testBit_and, Nat.add_comm d, Nat.add_comm m, Nat.add_comm (d &&& m), Nat.testBit_two_pow_mul_add _ hd, Nat.testBit_two_pow_mul_add _ hm, Nat.testBit_two_pow_mul_add _ hdm]
  split
  · rw [Nat.testBit_and]
  · rw [Nat.testBit_and]

theorem dval_and (b : Nat) : ∀ (xs ms : List Nat), xs.length = ms.length → (∀ x, x ∈ xs → x < 2 ^ b) → (∀ x, x ∈ ms → x < 2 ^ b) → dval (2 ^ b) xs &&& dval (2 ^ b) ms = dval (2 ^ b) (List.zipWith (· &&& ·) xs ms)
  | [], [], _, _, _ => by simp [dval]
  | [], _ :: _, h, _, _ => by simp at h
  | _ :: _, [], h, _, _ => by simp at h
  | x :: xs, m :: ms, h, hx, hm => by
    simp only [dval, List.zipWith_cons_cons]
    rw [and_dig b x m _ _ (hx x (by simp)) (hm m (by simp)), dval_and b xs ms (by simpa using h) (fun y hy => hx y (by simp [hy])) (fun y hy => hm y (by simp [hy]))]

theorem dig (x : Nat) : x = x % 256 + 256 * (x / 256) := by omega

/-- The eight bytes of a number. -/
def bytes : Nat → Nat → List Nat
  | 0, _ => []
  | n + 1, x => x % 256 :: bytes n (x / 256)

theorem dval_bytes : ∀ (n x : Nat), x < 256 ^ n → dval 256 (bytes n x) = x
  | 0, x, h => by simp at h; simp [dval, bytes, h]
  | n + 1, x, h => by
    have hx : x / 256 < 256 ^ n := by rw [Nat.div_lt_iff_lt_mul (by decide)]; rwa [Nat.pow_succ] at h
    simp only [bytes, dval, dval_bytes n _ hx]
    exact (dig x).symm
theorem bytes_lt : ∀ (n x y : Nat), y ∈ bytes n x → y < 256
  | 0, _, _, h => by simp [bytes] at h
  | n + 1, x, y, h => by
    rcases List.mem_cons.1 h with rfl | h
    · exact Nat.mod_lt _ (by decide)
    · exact bytes_lt n _ y h

def pop8 (x : Nat) : Nat := ((List.range 8).filter fun i => x.testBit i).length

/-- A byte's bits, counted by pairs, by fours. -/
def by1 (d : Nat) : Nat := (d / 2 &&& 85) + (d &&& 85)
def by2 (d : Nat) : Nat := (d / 4 &&& 51) + (d &&& 51)

theorem by_all : ∀ d : Fin 256, by1 d.val < 256 ∧ by2 (by1 d.val) / 16 ≤ 4 ∧ by2 (by1 d.val) % 16 ≤ 4 ∧ (by2 (by1 d.val) / 16 + by2 (by1 d.val) % 16) = pop8 d.val := by decide +kernel

theorem and_shift8 (s m : Nat) (hm : m < 2 ^ (8 - s)) (hs : s ≤ 8) (d v w : Nat) (hd : d < 256) : ((d + 256 * v) / 2 ^ s) &&& (m + 256 * w) = (d / 2 ^ s &&& m) + 256 * (v / 2 ^ s &&& w) := by
  have e1 : 2 ^ (8 - s) * 2 ^ s = 256 := by rw [← Nat.pow_add, show 8 - s + s = 8 from by omega]
  have hp : 0 < 2 ^ s := Nat.two_pow_pos s
  have hdl : d / 2 ^ s < 2 ^ (8 - s) := by rw [Nat.div_lt_iff_lt_mul hp, e1]; exact hd
  have e2 : (d + 256 * v) / 2 ^ s = d / 2 ^ s + 2 ^ (8 - s) * v := by
    rw [← e1, Nat.mul_comm (2 ^ (8 - s)) (2 ^ s), Nat.mul_assoc, Nat.add_mul_div_left _ _ hp]
  have e3 : v = v % 2 ^ s + 2 ^ s * (v / 2 ^ s) := (Nat.mod_add_div v (2 ^ s)).symm
  have e4 : 2 ^ (8 - s) * v = 2 ^ (8 - s) * (v % 2 ^ s) + 256 * (v / 2 ^ s) := by
    conv => lhs; rw [e3]
    rw [Nat.mul_add, ← Nat.mul_assoc, e1]
  have hlow : d / 2 ^ s + 2 ^ (8 - s) * (v % 2 ^ s) < 2 ^ 8 := by
    have h1 : v % 2 ^ s + 1 ≤ 2 ^ s := Nat.mod_lt _ hp
    have h2 : 2 ^ (8 - s) * (v % 2 ^ s + 1) ≤ 2 ^ (8 - s) * 2 ^ s := Nat.mul_le_mul_left _ h1
    rw [e1, Nat.mul_add, Nat.mul_one] at h2
    omega
  have hm8 : m < 2 ^ 8 := Nat.lt_of_lt_of_le hm (Nat.pow_le_pow_right (by decide) (by omega))
  rw [e2, e4, ← Nat.add_assoc]
  have := and_dig 8 (d / 2 ^ s + 2 ^ (8 - s) * (v % 2 ^ s)) m (v / 2 ^ s) w hlow hm8
  rw [show (2 : Nat) ^ 8 = 256 from rfl] at this
  rw [this]
  have h3 := and_dig (8 - s) (d / 2 ^ s) m (v % 2 ^ s) 0 hdl hm
  rw [Nat.mul_zero, Nat.add_zero, Nat.and_zero, Nat.mul_zero, Nat.add_zero] at h3
  rw [h3]

/-- One step: the bits of each byte, halves added. -/
theorem step8 (s m : Nat) (hm : m < 2 ^ (8 - s)) (hs : s ≤ 8) : ∀ (xs : List Nat), (∀ x, x ∈ xs → x < 256) →
    (dval 256 xs / 2 ^ s &&& dval 256 (xs.map fun _ => m)) + (dval 256 xs &&& dval 256 (xs.map fun _ => m)) = dval 256 (xs.map fun d => (d / 2 ^ s &&& m) + (d &&& m))
  | [], _ => by simp [dval]
  | d :: r, h => by
    have hd := h d (by simp)
    have hm8 : m < 2 ^ 8 := Nat.lt_of_lt_of_le hm (Nat.pow_le_pow_right (by decide) (by omega))
    have ih := step8 s m hm hs r (fun x hx => h x (by simp [hx]))
    simp only [List.map_cons, dval]
    rw [and_shift8 s m hm hs d _ _ hd]
    have := and_dig 8 d m (dval 256 r) (dval 256 (r.map fun _ => m)) hd hm8
    rw [show (2 : Nat) ^ 8 = 256 from rfl] at this
    rw [this, ← ih]
    omega

def carry : List Nat → List Nat
  | [] => []
  | [x] => [x / 16 + x]
  | x :: y :: r => (x / 16 + 16 * (y % 16) + x) :: carry (y :: r)

theorem dval_16 (x : Nat) (r : List Nat) : dval 256 (x :: r) / 16 = x / 16 + 16 * dval 256 r := by
  simp only [dval]; omega

theorem dval_carry : ∀ xs : List Nat, dval 256 xs / 16 + dval 256 xs = dval 256 (carry xs)
  | [] => rfl
  | [x] => by simp [dval, carry]
  | x :: y :: r => by
    have ih := dval_carry (y :: r)
    rw [dval_16] at ih ⊢
    simp only [carry]
    rw [show dval 256 (x :: y :: r) = x + 256 * dval 256 (y :: r) from rfl, show dval 256 ((x / 16 + 16 * (y % 16) + x) :: carry (y :: r)) = (x / 16 + 16 * (y % 16) + x) + 256 * dval 256 (carry (y :: r)) from rfl, ← ih]
    have e : dval 256 (y :: r) = y + 256 * dval 256 r := rfl
    generalize dval 256 r = v at *
    rw [e]
    omega

theorem carry_len : ∀ xs : List Nat, (carry xs).length = xs.length
  | [] => rfl
  | [x] => rfl
  | x :: y :: r => by simp [carry, carry_len (y :: r)]

theorem carry_15 : ∀ xs : List Nat, (∀ x, x ∈ xs → x / 16 ≤ 4 ∧ x % 16 ≤ 4) → (∀ x, x ∈ carry xs → x < 256) ∧ (carry xs).map (· % 16) = xs.map fun x => x / 16 + x % 16
  | [], _ => by simp [carry]
  | [x], h => by
    have := h x (by simp)
    simp only [carry, List.mem_singleton, forall_eq, List.map_cons, List.map_nil, List.cons.injEq, and_true]
    omega
  | x :: y :: r, h => by
    have hx := h x (by simp)
    have hy := h y (by simp)
    obtain ⟨h1, h2⟩ := carry_15 (y :: r) fun z hz => h z (by simp [List.mem_cons.1 hz])
    simp only [carry]
    refine ⟨fun z hz => ?_, ?_⟩
    · rcases List.mem_cons.1 hz with rfl | hz
      · omega
      · exact h1 z hz
    · rw [List.map_cons, h2, List.map_cons, List.map_cons]
      congr 1
      omega

theorem zip15 : ∀ xs : List Nat, List.zipWith (· &&& ·) xs (xs.map fun _ => 15) = xs.map (· % 16)
  | [] => rfl
  | x :: r => by
    rw [List.map_cons, List.zipWith_cons_cons, zip15 r, List.map_cons]
    congr 1
    exact Nat.and_two_pow_sub_one_eq_mod x 4

/-- Fours into bytes. -/
theorem last8 (xs : List Nat) (h : ∀ x, x ∈ xs → x / 16 ≤ 4 ∧ x % 16 ≤ 4) : (dval 256 xs / 16 + dval 256 xs) &&& dval 256 (xs.map fun _ => 15) = dval 256 (xs.map fun x => x / 16 + x % 16) := by
  obtain ⟨h1, h2⟩ := carry_15 xs h
  have e : (xs.map fun _ => 15) = (carry xs).map fun _ => 15 := by
    apply List.ext_getElem (by simp [carry_len])
    intro i h1 h2
    simp
  rw [dval_carry, e]
  have := dval_and 8 (carry xs) ((carry xs).map fun _ => 15) (by simp) (by simpa using h1) (by simp)
  rw [show (2 : Nat) ^ 8 = 256 from rfl] at this
  rw [this, zip15, h2]

theorem sum8 (a b c d e f g h : Nat) (ha : a ≤ 8) (hb : b ≤ 8) (hc : c ≤ 8) (hd : d ≤ 8) (he : e ≤ 8) (hf : f ≤ 8) (hg : g ≤ 8) (hh : h ≤ 8) (z z1 z2 z3 : Nat) (hz : z = dval 256 [a, b, c, d, e, f, g, h]) (h1 : z1 = z + z / 256) (h2 : z2 = z1 + z1 / 65536) (h3 : z3 = z2 + z2 / 4294967296) :
    z3 < 18446744073709551616 ∧ z1 < 18446744073709551616 ∧ z2 < 18446744073709551616 ∧ z3 % 128 = a + b + c + d + e + f + g + h := by
  have q : z / 256 = dval 256 [b, c, d, e, f, g, h] := by rw [hz]; show (a + 256 * dval 256 [b, c, d, e, f, g, h]) / 256 = _; omega
  have e1 : z1 = dval 256 [a + b, b + c, c + d, d + e, e + f, f + g, g + h, h] := by rw [h1, q, hz]; simp only [dval]; omega
  have q1 : z1 / 65536 = dval 256 [c + d, d + e, e + f, f + g, g + h, h] := by
    rw [e1]; show ((a + b) + 256 * ((b + c) + 256 * dval 256 [c + d, d + e, e + f, f + g, g + h, h])) / 65536 = _; omega
  have e2 : z2 = dval 256 [a + b + c + d, b + c + d + e, c + d + e + f, d + e + f + g, e + f + g + h, f + g + h, g + h, h] := by rw [h2, q1, e1]; simp only [dval]; omega
  have q2 : z2 / 4294967296 = dval 256 [e + f + g + h, f + g + h, g + h, h] := by
    rw [e2]; show ((a + b + c + d) + 256 * ((b + c + d + e) + 256 * ((c + d + e + f) + 256 * ((d + e + f + g) + 256 * dval 256 [e + f + g + h, f + g + h, g + h, h])))) / 4294967296 = _; omega
  have e3 : z3 = (a + b + c + d + e + f + g + h) + 256 * dval 256 [b + c + d + e + f + g + h, c + d + e + f + g + h, d + e + f + g + h, e + f + g + h, f + g + h, g + h, h] := by rw [h3, q2, e2]; simp only [dval]; omega
  have b1 : z1 < 18446744073709551616 := by rw [e1]; simp only [dval]; omega
  have b2 : z2 < 18446744073709551616 := by rw [e2]; simp only [dval]; omega
  have b3 : z3 < 18446744073709551616 := by rw [e3]; simp only [dval]; omega
  refine ⟨b3, b1, b2, ?_⟩
  rw [e3]
  generalize dval 256 _ = V
  omega

/-- How many of its lowest n bits a number has. -/
def popN (n x : Nat) : Nat := ((List.range n).filter fun i => x.testBit i).length

theorem popN_bytes : ∀ (n x : Nat), popN (8 * n) x = ((bytes n x).map pop8).sum
  | 0, x => rfl
  | n + 1, x => by
    have ih := popN_bytes n (x / 256)
    simp only [bytes, List.map_cons, List.sum_cons, ← ih]
    unfold popN pop8
    rw [show 8 * (n + 1) = 8 + 8 * n from by omega, List.range_add, List.filter_append, List.length_append, List.filter_map, List.length_map]
    congr 1
    · congr 1
      apply List.filter_congr
      intro i hi
      have : i < 8 := List.mem_range.1 hi
      rw [show (256 : Nat) = 2 ^ 8 from rfl, Nat.testBit_mod_two_pow]
      simp [this]
    · congr 1
      apply List.filter_congr
      intro i _
      show x.testBit (8 + i) = (x / 256).testBit i
      rw [show (256 : Nat) = 2 ^ 8 from rfl, Nat.testBit_div_two_pow, Nat.add_comm]

/-- How many bits a word has. -/
def popc (x : BitVec 64) : Nat := popN 64 x.toNat

/-- What OnesCount64 reckons. -/
def oc1 (x : BitVec 64) : BitVec 64 := ((x >>> 1) &&& 6148914691236517205#64) + (x &&& 6148914691236517205#64)
def oc2 (x : BitVec 64) : BitVec 64 := ((x >>> 2) &&& 3689348814741910323#64) + (x &&& 3689348814741910323#64)
def oc3 (x : BitVec 64) : BitVec 64 := ((x >>> 4) + x) &&& 1085102592571150095#64
def oc4 (x : BitVec 64) : BitVec 64 := x + (x >>> 8)
def oc5 (x : BitVec 64) : BitVec 64 := x + (x >>> 16)
def oc6 (x : BitVec 64) : BitVec 64 := x + (x >>> 32)

theorem shr_nat (x : BitVec 64) (n : Nat) : (x >>> n).toNat = x.toNat / 2 ^ n := by rw [BitVec.toNat_ushiftRight, Nat.shiftRight_eq_div_pow]

theorem dval_lt8 (xs : List Nat) (h : ∀ x, x ∈ xs → x < 256) : dval 256 xs < 256 ^ xs.length := by
  induction xs with
  | nil => simp [dval]
  | cons x r ih =>
    have h1 := h x (by simp)
    have h2 := ih fun y hy => h y (by simp [hy])
    simp only [dval, List.length_cons, Nat.pow_succ]
    omega

theorem lit1 : (6148914691236517205#64).toNat = 6148914691236517205 := by decide
theorem lit2 : (3689348814741910323#64).toNat = 3689348814741910323 := by decide
theorem lit3 : (1085102592571150095#64).toNat = 1085102592571150095 := by decide

theorem len8 {xs : List Nat} (h : xs.length = 8) : ∃ a b c d e f g h, xs = [a, b, c, d, e, f, g, h] := by
  match xs, h with
  | [a, b, c, d, e, f, g, h], _ => exact ⟨a, b, c, d, e, f, g, h, rfl⟩
theorem rep8 (m : Nat) {xs : List Nat} (h : xs.length = 8) : dval 256 (xs.map fun _ => m) = m * 72340172838076673 := by
  obtain ⟨a, b, c, d, e, f, g, h, rfl⟩ := len8 h
  simp only [List.map_cons, List.map_nil, dval]
  omega

theorem toNat_addlt (x y : BitVec 64) {n : Nat} (h : x.toNat + y.toNat = n) (hn : n < 18446744073709551616) : (x + y).toNat = n := by
  rw [BitVec.toNat_add]; omega

theorem oc_pop (x : BitVec 64) : (oc6 (oc5 (oc4 (oc3 (oc2 (oc1 x)))))).toNat % 128 = popc x := by
  have hx : x.toNat < 256 ^ 8 := x.isLt
  have hb := dval_bytes 8 x.toNat hx
  have hpop : popc x = ((bytes 8 x.toNat).map pop8).sum := popN_bytes 8 x.toNat
  have hlt := bytes_lt 8 x.toNat
  have hlen : (bytes 8 x.toNat).length = 8 := rfl
  generalize bytes 8 x.toNat = xs at *
  have hby : ∀ y, y ∈ xs → by1 y < 256 ∧ by2 (by1 y) / 16 ≤ 4 ∧ by2 (by1 y) % 16 ≤ 4 ∧ (by2 (by1 y) / 16 + by2 (by1 y) % 16) = pop8 y := fun y hy => by_all ⟨y, hlt y hy⟩
  have l1 : ∀ z, z ∈ xs.map by1 → z < 256 := by intro z hz; obtain ⟨y, hy, rfl⟩ := List.mem_map.1 hz; exact (hby y hy).1
  have l2 : ∀ z, z ∈ (xs.map by1).map by2 → z / 16 ≤ 4 ∧ z % 16 ≤ 4 := by
    intro z hz; obtain ⟨w, hw, rfl⟩ := List.mem_map.1 hz; obtain ⟨y, hy, rfl⟩ := List.mem_map.1 hw; exact ⟨(hby y hy).2.1, (hby y hy).2.2.1⟩
  have b1 := dval_lt8 _ l1
  have b2 := dval_lt8 ((xs.map by1).map by2) fun z hz => by have := l2 z hz; omega
  have b3 := dval_lt8 (carry ((xs.map by1).map by2)) (carry_15 _ l2).1
  simp only [carry_len, List.length_map, hlen] at b1 b2 b3
  have n1 : (oc1 x).toNat = dval 256 (xs.map by1) := by
    have h1 := step8 1 85 (by decide) (by decide) xs hlt
    rw [hb, rep8 85 hlen] at h1
    refine toNat_addlt _ _ ?_ b1
    rw [BitVec.toNat_and, BitVec.toNat_and, shr_nat, lit1]
    exact h1
  have n2 : (oc2 (oc1 x)).toNat = dval 256 ((xs.map by1).map by2) := by
    have h1 := step8 2 51 (by decide) (by decide) (xs.map by1) l1
    rw [rep8 51 (by simp [hlen])] at h1
    refine toNat_addlt _ _ ?_ b2
    rw [BitVec.toNat_and, BitVec.toNat_and, shr_nat, lit2, n1]
    exact h1
  have n3 : (oc3 (oc2 (oc1 x))).toNat = dval 256 (xs.map pop8) := by
    have h1 := last8 ((xs.map by1).map by2) l2
    rw [rep8 15 (by simp [hlen])] at h1
    have e : (((xs.map by1).map by2).map fun x => x / 16 + x % 16) = xs.map pop8 := by
      rw [List.map_map, List.map_map]
      exact List.map_congr_left fun y hy => (hby y hy).2.2.2
    rw [e] at h1
    unfold oc3
    rw [BitVec.toNat_and, lit3, toNat_addlt (oc2 (oc1 x) >>> 4) (oc2 (oc1 x)) (n := dval 256 ((xs.map by1).map by2) / 16 + dval 256 ((xs.map by1).map by2)) (by rw [shr_nat, n2]) (by rw [dval_carry]; exact b3)]
    exact h1
  obtain ⟨a, b, c, d, e, f, g, h, rfl⟩ := len8 hlen
  have p8 : ∀ y, pop8 y ≤ 8 := fun y => by
    have := List.length_filter_le (fun i => y.testBit i) (List.range 8)
    rw [List.length_range] at this
    exact this
  obtain ⟨r3, r1, r2, rr⟩ := sum8 _ _ _ _ _ _ _ _ (p8 a) (p8 b) (p8 c) (p8 d) (p8 e) (p8 f) (p8 g) (p8 h) _ _ _ _ rfl rfl rfl rfl
  have n4 : (oc4 (oc3 (oc2 (oc1 x)))).toNat = _ := toNat_addlt _ _ (by rw [shr_nat, n3]; rfl) r1
  have n5 : (oc5 (oc4 (oc3 (oc2 (oc1 x))))).toNat = _ := toNat_addlt _ _ (by rw [shr_nat, n4]) r2
  have n6 : (oc6 (oc5 (oc4 (oc3 (oc2 (oc1 x)))))).toNat = _ := toNat_addlt _ _ (by rw [shr_nat, n5]) r3
  rw [n6, rr, hpop]
  simp only [List.map_cons, List.map_nil, List.sum_cons, List.sum_nil]
  omega

end Go.X

namespace Go.X

def bget (bs : List Bool) (k : Nat) : Bool := (bs[k]?).getD false
def wget (ws : List (BitVec 64)) (i : Nat) : BitVec 64 := (ws[i]?).getD 0#64
def bit (ws : List (BitVec 64)) (k : Nat) : Bool := (wget ws (k / 64)).getLsbD (k % 64)

structure Wd (ws : List (BitVec 64)) (bs : List Bool) : Prop where
  len : ws.length = (bs.length + 63) / 64
  at' : ∀ k, bit ws k = bget bs k

theorem bget_ge {bs : List Bool} {k : Nat} (h : bs.length ≤ k) : bget bs k = false := by rw [bget, List.getElem?_eq_none h]; rfl
theorem bget_lt {bs : List Bool} {k : Nat} (h : bget bs k = true) : k < bs.length := by
  rcases Nat.lt_or_ge k bs.length with h1 | h1
  · exact h1
  · rw [bget_ge h1] at h; cases h
theorem bget_get {bs : List Bool} {k : Nat} (h : k < bs.length) : bget bs k = bs[k] := by rw [bget, List.getElem?_eq_getElem h]; rfl
theorem wget_get {ws : List (BitVec 64)} {k : Nat} (h : k < ws.length) : wget ws k = ws[k] := by rw [wget, List.getElem?_eq_getElem h]; rfl
theorem wget_ge {ws : List (BitVec 64)} {k : Nat} (h : ws.length ≤ k) : wget ws k = 0#64 := by rw [wget, List.getElem?_eq_none h]; rfl

theorem bget_set {bs : List Bool} {i : Nat} {v : Bool} (hi : i < bs.length) (k : Nat) : bget (bs.set i v) k = if k = i then v else bget bs k := by
  unfold bget
  rw [List.getElem?_set]
  by_cases h : k = i
  · subst h; simp [hi]
  · rw [if_neg (fun e => h e.symm), if_neg h]
theorem wget_set {ws : List (BitVec 64)} {i : Nat} {v : BitVec 64} (hi : i < ws.length) (k : Nat) : wget (ws.set i v) k = if k = i then v else wget ws k := by
  unfold wget
  rw [List.getElem?_set]
  by_cases h : k = i
  · subst h; simp [hi]
  · rw [if_neg (fun e => h e.symm), if_neg h]

theorem Wd.new (n : Nat) : Wd (List.replicate ((n + 63) / 64) 0#64) (List.replicate n false) := by
  refine ⟨by simp, fun k => ?_⟩
  have h1 : wget (List.replicate ((n + 63) / 64) 0#64) (k / 64) = 0#64 := by
    unfold wget
    rw [List.getElem?_replicate]; split <;> rfl
  have h2 : bget (List.replicate n false) k = false := by
    unfold bget
    rw [List.getElem?_replicate]; split <;> rfl
  rw [bit, h1, h2]; simp

/-- One bit set anew. -/
theorem Wd.set {ws : List (BitVec 64)} {bs : List Bool} (h : Wd ws bs) {i : Nat} (hi : i < bs.length) {v : Bool} {w : BitVec 64} (h1 : w.getLsbD (i % 64) = v) (h2 : ∀ j, j < 64 → j ≠ i % 64 → w.getLsbD j = (wget ws (i / 64)).getLsbD j) :
    Wd (ws.set (i / 64) w) (bs.set i v) := by
  have hlt : i / 64 < ws.length := by rw [h.len]; omega
  refine ⟨by simp [h.len], fun k => ?_⟩
  rw [bit, wget_set hlt, bget_set hi]
  by_cases e : k / 64 = i / 64
  · rw [if_pos e]
    by_cases e2 : k = i
    · subst e2; rw [if_pos rfl, h1]
    · rw [if_neg e2, h2 _ (Nat.mod_lt _ (by decide)) (fun e3 => e2 (by omega)), ← h.at' k, bit, e]
  · rw [if_neg e, if_neg (fun e2 => e (by rw [e2])), ← h.at' k, bit]

theorem one_shl (n j : Nat) (_ : n < 64) (hj : j < 64) : (1#64 <<< n).getLsbD j = decide (j = n) := by
  rw [BitVec.getLsbD_shiftLeft]
  simp only [hj, decide_true, Bool.true_and]
  by_cases h : j < n
  · simp [h]; omega
  · rw [BitVec.getLsbD_one]
    simp [h]
    omega

theorem Wd.add {ws : List (BitVec 64)} {bs : List Bool} (h : Wd ws bs) {i : Nat} (hi : i < bs.length) : Wd (ws.set (i / 64) (wget ws (i / 64) ||| 1#64 <<< (i % 64))) (bs.set i true) :=
  h.set hi (by rw [BitVec.getLsbD_or, one_shl _ _ (Nat.mod_lt _ (by decide)) (Nat.mod_lt _ (by decide))]; simp) fun j hj hne => by
    rw [BitVec.getLsbD_or, one_shl _ _ (Nat.mod_lt _ (by decide)) hj]; simp [hne]
theorem Wd.drop {ws : List (BitVec 64)} {bs : List Bool} (h : Wd ws bs) {i : Nat} (hi : i < bs.length) : Wd (ws.set (i / 64) (wget ws (i / 64) &&& ~~~(1#64 <<< (i % 64)))) (bs.set i false) :=
  h.set hi (by rw [BitVec.getLsbD_and, BitVec.getLsbD_not, one_shl _ _ (Nat.mod_lt _ (by decide)) (Nat.mod_lt _ (by decide))]; simp) fun j hj hne => by
    rw [BitVec.getLsbD_and, BitVec.getLsbD_not, one_shl _ _ (Nat.mod_lt _ (by decide)) hj]; simp [hne, hj]

theorem shr_one (w : BitVec 64) (n : Nat) : decide ((((w >>> n) &&& 1#64).toNat : Int) = 1) = w.getLsbD n := by
  have h : ((w >>> n) &&& 1#64).toNat = (w.toNat >>> n) % 2 := by
    rw [BitVec.toNat_and, BitVec.toNat_ushiftRight]
    exact Nat.and_two_pow_sub_one_eq_mod _ 1
  rw [h, BitVec.getLsbD, Nat.testBit, Nat.one_and_eq_mod_two]
  have : w.toNat >>> n % 2 < 2 := Nat.mod_lt _ (by decide)
  generalize w.toNat >>> n % 2 = b at *
  match b, this with
  | 0, _ => rfl
  | 1, _ => rfl

/-! Joining -/

def orB (a b : List Bool) : List Bool := a.mapIdx fun i x => x || bget b i
theorem orB_len (a b : List Bool) : (orB a b).length = a.length := by simp [orB]
theorem bget_orB (a b : List Bool) (k : Nat) : bget (orB a b) k = (decide (k < a.length) && (bget a k || bget b k)) := by
  unfold orB
  rw [bget, List.getElem?_mapIdx]
  by_cases h : k < a.length
  · rw [List.getElem?_eq_getElem h]
    simp only [Option.map_some, Option.getD_some, h, decide_true, Bool.true_and, bget_get h]
  · rw [List.getElem?_eq_none (by omega)]
    simp [h]

def maskW (n i : Nat) : BitVec 64 := if n - i * 64 < 64 then (1#64 <<< (n - i * 64)) - 1#64 else 18446744073709551615#64

theorem maskW_at (n i j : Nat) (hj : j < 64) (hi : i * 64 < n + 64) : (maskW n i).getLsbD j = decide (i * 64 + j < n) := by
  unfold maskW
  split
  · rename_i h
    have e : ((1#64 <<< (n - i * 64)) - 1#64).toNat = 2 ^ (n - i * 64) - 1 := by
      have h1 : (1#64 <<< (n - i * 64)).toNat = 2 ^ (n - i * 64) := by
        rw [BitVec.toNat_shiftLeft]
        simp only [BitVec.toNat_ofNat, Nat.shiftLeft_eq]
        rw [show 1 % 2 ^ 64 = 1 from rfl, Nat.one_mul]
        exact Nat.mod_eq_of_lt (Nat.pow_lt_pow_right (by decide) h)
      have hp := Nat.two_pow_pos (n - i * 64)
      have hl : 2 ^ (n - i * 64) < 2 ^ 64 := Nat.pow_lt_pow_right (by decide) h
      rw [BitVec.toNat_sub, h1, show (1#64).toNat = 1 from rfl]
      omega
    rw [BitVec.getLsbD, e, Nat.testBit_two_pow_sub_one]
    simp only [decide_eq_decide]
    omega
  · rename_i h
    rw [show (18446744073709551615#64) = BitVec.allOnes 64 from rfl, BitVec.getLsbD_allOnes]
    simp only [hj, decide_true]
    symm
    simp only [decide_eq_true_eq]
    omega

/-- The words of what is joined. -/
def orW (n : Nat) (ws os : List (BitVec 64)) (i : Nat) : BitVec 64 := wget ws i ||| (wget os i &&& maskW n i)

theorem Wd.or {ws os vs : List (BitVec 64)} {a b : List Bool} (h : Wd ws a) (ho : Wd os b) (hl : vs.length = ws.length) (hv : ∀ i, i < ws.length → wget vs i = orW a.length ws os i) : Wd vs (orB a b) := by
  refine ⟨by rw [hl, h.len, orB_len], fun k => ?_⟩
  rw [bget_orB, ← h.at' k, ← ho.at' k, bit]
  by_cases hk : k / 64 < ws.length
  · have hlen := h.len
    rw [hv _ hk, orW, BitVec.getLsbD_or, BitVec.getLsbD_and, maskW_at _ _ _ (Nat.mod_lt _ (by decide)) (by omega)]
    have e : k / 64 * 64 + k % 64 = k := by omega
    rw [e, bit, bit]
    by_cases hka : k < a.length
    · simp [hka]
    · have : (wget ws (k / 64)).getLsbD (k % 64) = false := by
        have := h.at' k
        rw [bit, bget_ge (by omega)] at this; exact this
      simp [hka, this]
  · rw [wget_ge (by omega)]
    have : ¬ k < a.length := by rw [h.len] at hk; omega
    simp [this]

/-- A word that changes when it is joined. -/
theorem orW_ne {ws os : List (BitVec 64)} {a b : List Bool} (h : Wd ws a) (ho : Wd os b) (i : Nat) (hi : i < ws.length) : orW a.length ws os i ≠ wget ws i ↔ ∃ k, k / 64 = i ∧ k < a.length ∧ bget b k = true ∧ bget a k = false := by
  have hlen := h.len
  constructor
  · intro hne
    have : ∃ j, j < 64 ∧ (orW a.length ws os i).getLsbD j ≠ (wget ws i).getLsbD j := by
      apply Classical.byContradiction
      intro hn
      apply hne
      apply BitVec.eq_of_getLsbD_eq
      intro j hj
      apply Classical.byContradiction
      intro hx
      exact hn ⟨j, hj, hx⟩
    obtain ⟨j, hj, hx⟩ := this
    have e1 : (i * 64 + j) / 64 = i := by omega
    have e2 : (i * 64 + j) % 64 = j := by omega
    have ha := h.at' (i * 64 + j)
    have hb := ho.at' (i * 64 + j)
    rw [bit, e1, e2] at ha hb
    rw [orW, BitVec.getLsbD_or, BitVec.getLsbD_and, maskW_at _ _ _ hj (by omega), ha, hb] at hx
    refine ⟨i * 64 + j, e1, ?_⟩
    cases h1 : bget a (i * 64 + j) <;> cases h2 : bget b (i * 64 + j) <;> simp_all
  · rintro ⟨k, rfl, hk, h1, h2⟩ e
    have := congrArg (fun w : BitVec 64 => w.getLsbD (k % 64)) e
    have ha := h.at' k
    have hb := ho.at' k
    rw [bit] at ha hb
    simp only [orW, BitVec.getLsbD_or, BitVec.getLsbD_and, maskW_at _ _ _ (Nat.mod_lt k (by decide : 0 < 64)) (by omega : k / 64 * 64 < a.length + 64), ha, hb, h1, h2, show k / 64 * 64 + k % 64 = k from by omega, hk, decide_true, Bool.and_self, Bool.false_or] at this
    cases this

theorem meetW {ws os : List (BitVec 64)} {a b : List Bool} (h : Wd ws a) (ho : Wd os b) (i : Nat) : (wget ws i &&& wget os i) ≠ 0#64 ↔ ∃ k, k / 64 = i ∧ bget a k = true ∧ bget b k = true := by
  constructor
  · intro hne
    have : ∃ j, j < 64 ∧ (wget ws i &&& wget os i).getLsbD j = true := by
      apply Classical.byContradiction
      intro hn
      apply hne
      apply BitVec.eq_of_getLsbD_eq
      intro j hj
      cases hx : (wget ws i &&& wget os i).getLsbD j with
      | false => simp
      | true => exact absurd ⟨j, hj, hx⟩ hn
    obtain ⟨j, hj, hx⟩ := this
    have e1 : (i * 64 + j) / 64 = i := by omega
    have e2 : (i * 64 + j) % 64 = j := by omega
    have ha := h.at' (i * 64 + j)
    have hb := ho.at' (i * 64 + j)
    rw [bit, e1, e2] at ha hb
    rw [BitVec.getLsbD_and, ha, hb, Bool.and_eq_true] at hx
    exact ⟨_, e1, hx⟩
  · rintro ⟨k, rfl, h1, h2⟩ e
    have := congrArg (fun w : BitVec 64 => w.getLsbD (k % 64)) e
    have ha := h.at' k
    have hb := ho.at' k
    rw [bit] at ha hb
    simp only [BitVec.getLsbD_and, ha, hb, h1, h2, Bool.and_self, BitVec.getLsbD_zero] at this
    cases this

/-! Going over them -/

def onesW (w : BitVec 64) : List Nat := (List.range 64).filter w.getLsbD
def onesB (bs : List Bool) : List Nat := (List.range bs.length).filter (bget bs)

theorem popc_ones (w : BitVec 64) : popc w = (onesW w).length := rfl

theorem bit_word (ws : List (BitVec 64)) (m j : Nat) (hj : j < 64) : bit ws (64 * m + j) = (wget ws m).getLsbD j := by
  rw [bit, show (64 * m + j) / 64 = m from by omega, show (64 * m + j) % 64 = j from by omega]

theorem range_words (ws : List (BitVec 64)) : ∀ m, (List.range (64 * m)).filter (bit ws) = (List.range m).flatMap fun i => (onesW (wget ws i)).map (64 * i + ·)
  | 0 => rfl
  | m + 1 => by
    rw [show 64 * (m + 1) = 64 * m + 64 from by omega, List.range_add, List.filter_append, range_words ws m, @List.range_succ m, List.flatMap_append]
    congr 1
    rw [List.filter_map]
    simp only [List.flatMap_cons, List.flatMap_nil, List.append_nil, onesW]
    congr 1
    apply List.filter_congr
    intro j hj
    exact bit_word ws m j (List.mem_range.1 hj)

theorem Wd.ones {ws : List (BitVec 64)} {bs : List Bool} (h : Wd ws bs) : onesB bs = (List.range ws.length).flatMap fun i => (onesW (wget ws i)).map (64 * i + ·) := by
  rw [← range_words, onesB]
  have hle : bs.length ≤ 64 * ws.length := by rw [h.len]; omega
  obtain ⟨d, hd⟩ := Nat.le.dest hle
  rw [← hd, List.range_add, List.filter_append]
  have e1 : (List.range bs.length).filter (bit ws) = (List.range bs.length).filter (bget bs) := List.filter_congr fun k _ => h.at' k
  have e2 : ((List.range d).map (bs.length + ·)).filter (bit ws) = [] := by
    rw [List.filter_eq_nil_iff]
    intro k hk
    obtain ⟨j, _, rfl⟩ := List.mem_map.1 hk
    rw [h.at', bget_ge (by omega)]
    simp
  rw [e1, e2, List.append_nil]

/-- The lowest bit of a word. -/
theorem low_bit (w : BitVec 64) (h0 : w ≠ 0#64) : Lib.ctz 64 w.toNat < 64 ∧ w.getLsbD (Lib.ctz 64 w.toNat) = true ∧ (∀ j, j < Lib.ctz 64 w.toNat → w.getLsbD j = false) ∧
    ∀ j, (w &&& (w - 1#64)).getLsbD j = (w.getLsbD j && decide (Lib.ctz 64 w.toNat < j)) := by
  have hn : w.toNat ≠ 0 := fun e => h0 (BitVec.eq_of_toNat_eq (by rw [e]; rfl))
  obtain ⟨m, hm, hc⟩ := Lib.ctzFrom_spec 64 w.toNat (by omega) w.isLt
  have e : Lib.ctz 64 w.toNat = Lib.ctzFrom 64 w.toNat := by simp [Lib.ctz, hn]
  rw [e]
  generalize Lib.ctzFrom 64 w.toNat = c at *
  have hp := Nat.two_pow_pos c
  have hw : ∀ j, w.getLsbD j = if j < c then false else (2 * m + 1).testBit (j - c) := fun j => by
    rw [BitVec.getLsbD, hm]
    have := Nat.testBit_two_pow_mul_add (2 * m + 1) hp j
    rw [Nat.add_zero] at this
    rw [this]; simp
  have hs : (w - 1#64).toNat = 2 ^ c * (2 * m) + (2 ^ c - 1) := by
    have hl := w.isLt
    rw [BitVec.toNat_sub, show (1#64).toNat = 1 from rfl, hm]
    rw [hm] at hl
    have : 2 ^ c * (2 * m + 1) = 2 ^ c * (2 * m) + 2 ^ c := by rw [Nat.mul_add, Nat.mul_one]
    omega
  have hw1 : ∀ j, (w - 1#64).getLsbD j = if j < c then true else (2 * m).testBit (j - c) := fun j => by
    rw [BitVec.getLsbD, hs, Nat.testBit_two_pow_mul_add _ (by omega)]
    split
    · rename_i h; rw [Nat.testBit_two_pow_sub_one]; simp [h]
    · rfl
  have par : ∀ i, (2 * m + 1).testBit (i + 1) = (2 * m).testBit (i + 1) := fun i => by
    rw [Nat.testBit_succ, Nat.testBit_succ]; congr 1; omega
  refine ⟨hc, ?_, fun j hj => by rw [hw, if_pos hj], fun j => ?_⟩
  · rw [hw, if_neg (by omega), Nat.sub_self, Nat.testBit_zero]; simp
  · rw [BitVec.getLsbD_and, hw1, hw]
    by_cases h1 : j < c
    · simp [h1]
    · rw [if_neg h1, if_neg h1]
      by_cases h2 : j = c
      · subst h2; rw [Nat.sub_self, Nat.testBit_zero, Nat.testBit_zero]; simp
      · have h3 : c < j := by omega
        obtain ⟨i, hi⟩ : ∃ i, j - c = i + 1 := ⟨j - c - 1, by omega⟩
        rw [hi, par, Bool.and_self]; simp [h3]

theorem ones_low (w : BitVec 64) (h0 : w ≠ 0#64) : onesW w = Lib.ctz 64 w.toNat :: onesW (w &&& (w - 1#64)) := by
  obtain ⟨h1, h2, h3, h4⟩ := low_bit w h0
  generalize Lib.ctz 64 w.toNat = c at *
  unfold onesW
  have hr : List.range 64 = List.range c ++ c :: (List.range (63 - c)).map (c + 1 + ·) := by
    have e : 64 = c + (1 + (63 - c)) := by omega
    conv => lhs; rw [e]
    rw [List.range_add, List.range_add]
    simp [List.map_map, Function.comp_def, Nat.add_assoc]
  rw [hr, List.filter_append, List.filter_append, List.filter_cons_of_pos h2, List.filter_cons_of_neg (by rw [h4]; simp)]
  have e1 : (List.range c).filter w.getLsbD = [] := by
    rw [List.filter_eq_nil_iff]; intro j hj; rw [h3 j (List.mem_range.1 hj)]; simp
  have e2 : (List.range c).filter (w &&& (w - 1#64)).getLsbD = [] := by
    rw [List.filter_eq_nil_iff]; intro j hj; rw [h4, h3 j (List.mem_range.1 hj)]; simp
  rw [e1, e2, List.nil_append, List.nil_append]
  congr 1
  apply List.filter_congr
  intro j hj
  obtain ⟨i, _, rfl⟩ := List.mem_map.1 hj
  rw [h4]
  simp
  intro _
  omega

theorem ones_zero : onesW 0#64 = [] := by
  rw [onesW, List.filter_eq_nil_iff]; intro j _; simp

end Go.X

namespace Go.Proofs.YtgcapnlfkomgpaaDoor
open Go.X Go.RowKit

theorem bits_mixed : Tryd.prog.follows .mixedOrders = true := by kernel_rfl
noncomputable def bitsE0 : Env := envOf Tryd.prog
theorem bits_known : truthX bitsE0 8 20000 = true := by kernel_rfl
noncomputable def bitsE : Env := envKnown bitsE0 8 (truth_below bitsE0 bits_mixed bits_known)

abbrev iV (k : Int) : Value := .int .i64 k
abbrev isV (l : List Int) : List Value := l.map fun n => .int .i64 n
abbrev nsV (l : List Nat) : List Value := l.map fun (n : Nat) => Value.int .i64 (n : Int)
abbrev bsV (l : List Bool) : List Value := l.map fun b => .bool b
abbrev usV (l : List (BitVec 64)) : List Value := l.map uV
abbrev ptrV (i : Nat) : Value := .pointer (some ⟨i, 0, none⟩)

/-- A set of the program's. -/
structure SetR (h : Hp) (b : Nat) (bs : List Bool) (ws : List (BitVec 64)) (sw : Value) (Bw : List Nat) : Prop where
  top : h.get b = some (.cells [sw, iV bs.length] 71 0)
  row : Sl 69 h sw (usV ws) Bw
  wd : Wd ws bs
  lt : b < h.n
  nb : b ∉ Bw

def SAt (h : Hp) (b : Nat) (bs : List Bool) (own : List Nat) : Prop := ∃ ws sw Bw, SetR h b bs ws sw Bw ∧ own = b :: Bw

section
variable {h h' : Hp} {b : Nat} {bs : List Bool} {ws : List (BitVec 64)} {sw : Value} {Bw own cs : List Nat}

theorem SetR.keep (x : SetR h b bs ws sw Bw) (g : ExtB cs h h') (hd : ∀ i, i ∈ b :: Bw → i ∉ cs) : SetR h' b bs ws sw Bw :=
  ⟨by rw [g.get b x.lt (hd b (by simp))]; exact x.top, x.row.keep g fun i hi => hd i (by simp [hi]), x.wd, Nat.lt_of_lt_of_le x.lt g.n, x.nb⟩
theorem SetR.own_lt (x : SetR h b bs ws sw Bw) : ∀ i, i ∈ b :: Bw → i < h.n := fun i hi => by
  rcases List.mem_cons.1 hi with rfl | hi
  · exact x.lt
  · exact x.row.lt i hi
theorem SAt.keep (x : SAt h b bs own) (g : ExtB cs h h') (hd : ∀ i, i ∈ own → i ∉ cs) : SAt h' b bs own := by
  obtain ⟨ws, sw, Bw, x, rfl⟩ := x
  exact ⟨ws, sw, Bw, x.keep g hd, rfl⟩
theorem SAt.ext (x : SAt h b bs own) (g : Ext h h') : SAt h' b bs own := x.keep (g.b []) (by simp)
theorem SAt.lt (x : SAt h b bs own) : ∀ i, i ∈ own → i < h.n := by
  obtain ⟨ws, sw, Bw, x, rfl⟩ := x
  exact x.own_lt
theorem SAt.mem (x : SAt h b bs own) : b ∈ own := by
  obtain ⟨ws, sw, Bw, x, rfl⟩ := x
  simp

end

/-- Is a number one of the set's bits? -/
def hasB (bs : List Bool) (i : Int) : Bool := decide (0 ≤ i) && bget bs i.toNat
def inB (bs : List Bool) (i : Int) : Bool := decide (0 ≤ i) && decide (i < bs.length)

theorem us_at {ws : List (BitVec 64)} {o : Nat} (i : Nat) (h : i < ws.length) (e : o = i) : (usV ws)[o]? = some (uV (wget ws i)) := by
  subst e; rw [List.getElem?_map, List.getElem?_eq_getElem h, wget_get h]; rfl
theorem bs_at {bs : List Bool} {o : Nat} (i : Nat) (h : i < bs.length) (e : o = i) : (bsV bs)[o]? = some (.bool (bget bs i)) := by
  subst e; rw [List.getElem?_map, List.getElem?_eq_getElem h, bget_get h]; rfl

end Go.Proofs.YtgcapnlfkomgpaaDoor

namespace Go.Proofs.YtgcapnlfkomgpaaDoor
open Go.X

theorem rep_u : ∀ m : Nat, repeatCells [Value.int .u64 0] m = usV (List.replicate m 0#64)
  | 0 => rfl
  | m + 1 => by rw [List.replicate_succ]; show _ :: repeatCells _ m = _ :: _; rw [rep_u m]; rfl

theorem nat_of {i : Int} (h : 0 ≤ i) : some (iV i) = some (.int .i64 ((i.toNat : Nat) : Int)) := by rw [Int.toNat_of_nonneg h]

/-- New -/
theorem c36 {h : Hp} {n : Int} (hn : n ≤ 100000) : C bitsE 36 [iV n] h fun v h' => ∃ b own, v = ptrV b ∧ SAt h' b (List.replicate n.toNat false) own ∧ (∀ i, i ∈ own → h.n ≤ i) ∧ Ext h h' := by
  have hmax : max n 0 = ((n.toNat : Nat) : Int) := by omega
  refine c_enter (fu := Tryd.f36) (by kernel_rfl) rfl ?_
  refine w_seq ?_
  refine w_region (by kernel_rfl) ?_
  refine o_assign gn rfl rfl ?_
  refine wl_end ?_
  refine w_seq ?_
  refine w_region (by kernel_rfl) ?_
  refine o_move gn rfl rfl ?_
  refine o_max gn rfl rfl rfl ?_
  rw [hmax]
  refine o_assign gn rfl rfl ?_
  refine wl_end ?_
  refine w_seq ?_
  refine w_region (by kernel_rfl) ?_
  refine o_move gn rfl rfl ?_
  refine o_add gn rfl rfl rfl (by omega) (by omega) ?_
  refine o_sub gn rfl rfl rfl (by omega) (by omega) ?_
  refine o_quoI (b := 64) gn rfl (congrArg some (congrArg (Value.int .i64) (show (n.toNat : Int) + 64 - 1 = ((n.toNat + 63 : Nat) : Int) by omega))) rfl (by omega) (by omega) ?_
  refine o_makeSlice (e := 69) (z := 0) (zv := .int .u64 0) (by' := 8) gn rfl rfl rfl (by kernel_rfl) (by kernel_rfl) (by kernel_rfl) (by kernel_rfl) (by decide) (by omega) (by omega) (by omega) (by omega) ?_
  refine o_move gn rfl rfl ?_
  refine o_build (zv := .agg #[.slice none 0 0, .int .i64 0]) (pl := [(0, 1), (1, 1)]) [(0, _), (1, _)] gn rfl (by kernel_rfl) (by kernel_rfl) rfl rfl ?_
  refine o_box gn rfl rfl ?_
  refine wl_at (fun h2 => h2.get (h.n + 1) = some (.cells [.slice (some ⟨h.n, 0, none⟩) ((n.toNat + 63) / 64) ((n.toNat + 63) / 64), iV n.toNat] 71 0) ∧ h2.get h.n = some (.cells (usV (List.replicate ((n.toNat + 63) / 64) 0#64)) 69 0) ∧ Ext h h2 ∧ h2.n = h.n + 2) ⟨?_, ?_, (Ext.alloc _ _).trans (Ext.alloc _ _), by simp only [Hp.n_alloc]⟩ fun h2 ⟨g1, g2, x2, n2⟩ => ?_
  · rw [Hp.get_alloc, if_pos (Hp.n_alloc _ _)]; rfl
  · rw [Hp.get_alloc, if_neg (by rw [Hp.n_alloc]; omega), Hp.get_alloc, if_pos rfl]
    exact congrArg (fun c => some (AObj.cells c 69 0)) (rep_u _)
  rw [Hp.n_alloc]
  refine o_assign gn rfl rfl ?_
  refine wl_end ?_
  refine w_ret ?_
  refine ⟨.inl rfl, _, rfl, ?_⟩
  refine ⟨h.n + 1, [h.n + 1, h.n], rfl, ⟨List.replicate ((n.toNat + 63) / 64) 0#64, .slice (some ⟨h.n, 0, none⟩) ((n.toNat + 63) / 64) ((n.toNat + 63) / 64), [h.n], ⟨by rw [List.length_replicate]; exact g1, .inr ⟨h.n, 0, by simp, g2, .inl rfl, by omega, rfl⟩, Wd.new _, by omega, by simp⟩, rfl⟩, by simp, x2⟩

section
variable {h : Hp} {b : Nat} {bs : List Bool} {ws : List (BitVec 64)} {sw : Value} {Bw : List Nat}

/-- there -/
theorem c46 {i : Int} (x : SetR h b bs ws sw Bw) : CP bitsE 46 [ptrV b, iV i] h (.bool (inB bs i)) := by
  have ht := x.top
  refine c_enter (fu := Tryd.f46) (by kernel_rfl) rfl ?_
  refine w_seq ?_
  refine w_region (by kernel_rfl) ?_
  refine o_assign gn rfl rfl ?_
  refine wl_end ?_
  refine w_seq ?_
  refine w_region (by kernel_rfl) ?_
  refine o_move gn rfl rfl ?_
  refine o_nep gn rfl rfl rfl (by kernel_rfl) ?_
  refine o_move gn rfl rfl ?_
  refine o_and (n := 2) rfl rfl rfl gn rfl (fun hb => by
      refine o_move (gy rfl rfl rfl hb) rfl rfl ?_
      refine o_geq (gy rfl rfl rfl hb) rfl rfl rfl ?_
      exact wl_end ⟨rfl, rfl, 2, rfl, rfl⟩) ?_
  refine o_move gn rfl rfl ?_
  refine o_and (n := 6) rfl rfl rfl gn rfl (fun hb => by
      refine o_move (gy rfl rfl rfl hb) rfl rfl ?_
      refine o_move (gy rfl rfl rfl hb) rfl rfl ?_
      refine o_nilCheck (gy rfl rfl rfl hb) rfl rfl ?_
      refine o_fieldAddr (off := 1) (gy rfl rfl rfl hb) rfl rfl (by kernel_rfl) ?_
      refine o_load (gy rfl rfl rfl hb) rfl rfl (by kernel_rfl) (by assumption) rfl ?_
      refine o_lss (gy rfl rfl rfl hb) rfl rfl rfl ?_
      exact wl_end ⟨rfl, rfl, 6, rfl, rfl⟩) ?_
  refine o_assign gn rfl rfl ?_
  refine wl_end ?_
  refine w_ret ?_
  refine ⟨.inl rfl, _, rfl, ?_⟩
  exact ⟨by simp [oneOf, inB], rfl⟩

theorem inB_iff {bs : List Bool} {i : Int} : inB bs i = true ↔ 0 ≤ i ∧ i.toNat < bs.length := by
  unfold inB
  simp only [Bool.and_eq_true, decide_eq_true_eq]
  omega

theorem hasB_in {bs : List Bool} {i : Int} : hasB bs i = (inB bs i && bget bs i.toNat) := by
  unfold hasB inB
  by_cases h0 : 0 ≤ i
  · by_cases h1 : i < bs.length
    · simp [h0, h1]
    · simp [h0, h1, bget_ge (show bs.length ≤ i.toNat by omega)]
  · simp [h0]

/-- Has -/
theorem c45 {i : Int} (x : SetR h b bs ws sw Bw) (hn : bs.length ≤ 100000) : CP bitsE 45 [ptrV b, iV i] h (.bool (hasB bs i)) := by
  have ht := x.top
  obtain ⟨a, rfl⟩ := x.row.val
  have hlen := x.wd.len
  refine c_enter (fu := Tryd.f45) (by kernel_rfl) rfl ?_
  refine w_seq ?_
  refine w_region (by kernel_rfl) ?_
  refine o_assign gn rfl rfl ?_
  refine wl_end ?_
  refine w_seq ?_
  refine w_region (by kernel_rfl) ?_
  refine o_move gn rfl rfl ?_
  refine o_move gn rfl rfl ?_
  refine o_call [_, _] gn rfl rfl (by kernel_rfl) rfl (c_pure (c46 x) ⟨ag0, ?_⟩)
  refine o_move gn rfl rfl ?_
  refine o_and (n := 13) rfl rfl rfl gn rfl (fun hb => by
      refine o_move (gy rfl rfl rfl hb) rfl rfl ?_
      refine o_nilCheck (gy rfl rfl rfl hb) rfl rfl ?_
      refine o_fieldAddr (off := 0) (gy rfl rfl rfl hb) rfl rfl (by kernel_rfl) ?_
      refine o_load (gy rfl rfl rfl hb) rfl rfl (by kernel_rfl) (by assumption) rfl ?_
      refine o_move (gy rfl rfl rfl hb) rfl rfl ?_
      obtain ⟨h0, hlt⟩ := inB_iff.1 hb
      have hwl : i.toNat / 64 < ws.length := by omega
      obtain ⟨bw, m, ea, hg, _, _, _⟩ := x.row.at (by simp; omega)
      simp only [Value.slice.injEq, and_true] at ea
      subst ea
      refine o_quoI (b := 64) (gy rfl rfl rfl hb) rfl (nat_of h0) rfl (by omega) (by omega) ?_
      refine o_indexAddr (zz := 1) (gy rfl rfl rfl hb) rfl rfl rfl (by kernel_rfl) (by omega) (by simp; omega) ?_
      refine o_load (gy rfl rfl rfl hb) rfl rfl (by kernel_rfl) hg (us_at (i.toNat / 64) hwl (by omega)) ?_
      refine o_move (gy rfl rfl rfl hb) rfl rfl ?_
      refine o_remI (b := 64) (gy rfl rfl rfl hb) rfl (nat_of h0) rfl (by omega) ?_
      refine o_shrU (_) (_) (gy rfl rfl rfl hb) rfl rfl rfl (by omega) ?_
      refine o_andU (_) (1#64) (gy rfl rfl rfl hb) rfl rfl rfl ?_
      refine o_eqi (gy rfl rfl rfl hb) rfl rfl rfl ?_
      exact wl_end ⟨rfl, rfl, 13, rfl, rfl⟩) ?_
  refine o_assign gn rfl rfl ?_
  refine wl_end ?_
  refine w_ret ?_
  refine ⟨.inl rfl, _, rfl, ?_⟩
  exact ⟨by rw [hasB_in, ← x.wd.at', bit, ← shr_one]; rfl, rfl⟩

/-- Size -/
theorem c48 (x : SetR h b bs ws sw Bw) : CP bitsE 48 [ptrV b] h (iV bs.length) := by
  have ht := x.top
  refine c_enter (fu := Tryd.f48) (by kernel_rfl) rfl ?_
  refine w_seq ?_
  refine w_region (by kernel_rfl) ?_
  refine o_assign gn rfl rfl ?_
  refine wl_end ?_
  refine w_seq ?_
  refine w_seq ?_
  refine w_region (by kernel_rfl) ?_
  refine o_move gn rfl rfl ?_
  refine o_eqp gn rfl rfl rfl (by kernel_rfl) ?_
  refine wl_end ?_
  refine w_cond rfl (fun hb => ?_) fun hb => ?_
  · skip
    refine w_seq ?_
    refine w_region (by kernel_rfl) ?_
    refine o_assign gn rfl rfl ?_
    refine wl_end ?_
    refine w_ret ?_
    refine ⟨.inl rfl, _, rfl, ?_⟩
    cases hb
  · skip
    refine w_skip ?_
    refine w_seq ?_
    refine w_region (by kernel_rfl) ?_
    refine o_move gn rfl rfl ?_
    refine o_nilCheck gn rfl rfl ?_
    refine o_fieldAddr (off := 1) gn rfl rfl (by kernel_rfl) ?_
    refine o_load gn rfl rfl (by kernel_rfl) (by assumption) rfl ?_
    refine o_assign gn rfl rfl ?_
    refine wl_end ?_
    refine w_ret ?_
    refine ⟨.inl rfl, _, rfl, ?_⟩
    exact ⟨rfl, rfl⟩

/-- word -/
theorem c55 {i : Nat} {y : Value} (ht : h.get b = some (.cells [sw, y] 71 0)) (hr : Sl 69 h sw (usV ws) Bw) : CP bitsE 55 [ptrV b, iV i] h (uV (wget ws i)) := by
  obtain ⟨a, rfl⟩ := hr.val
  refine c_enter (fu := Tryd.f55) (by kernel_rfl) rfl ?_
  refine w_seq ?_
  refine w_region (by kernel_rfl) ?_
  refine o_assign gn rfl rfl ?_
  refine wl_end ?_
  refine w_seq ?_
  refine w_seq ?_
  refine w_region (by kernel_rfl) ?_
  refine o_move gn rfl rfl ?_
  refine o_eqp gn rfl rfl rfl (by kernel_rfl) ?_
  refine o_move gn rfl rfl ?_
  refine o_or (n := 7) rfl rfl rfl gn rfl (fun hb => by
      refine o_move (gy rfl rfl rfl hb) rfl rfl ?_
      refine o_move (gy rfl rfl rfl hb) rfl rfl ?_
      refine o_nilCheck (gy rfl rfl rfl hb) rfl rfl ?_
      refine o_fieldAddr (off := 0) (gy rfl rfl rfl hb) rfl rfl (by kernel_rfl) ?_
      refine o_load (gy rfl rfl rfl hb) rfl rfl (by kernel_rfl) (by assumption) rfl ?_
      refine o_len (gy rfl rfl rfl hb) rfl rfl (by kernel_rfl) ?_
      refine o_geq (gy rfl rfl rfl hb) rfl rfl rfl ?_
      exact wl_end ⟨rfl, rfl, 7, rfl, rfl⟩) ?_
  refine wl_end ?_
  refine w_cond rfl (fun hb => ?_) fun hb => ?_
  · skip
    refine w_seq ?_
    refine w_region (by kernel_rfl) ?_
    refine o_assign gn rfl rfl ?_
    refine wl_end ?_
    refine w_ret ?_
    refine ⟨.inl rfl, _, rfl, ?_⟩
    have hge : ws.length ≤ i := by simpa using hb
    exact ⟨by rw [wget_ge hge]; rfl, rfl⟩
  · skip
    have hlt : i < ws.length := by simpa using hb
    obtain ⟨bw, m, ea, hg, _, _, _⟩ := hr.at (by simp; omega)
    simp only [Value.slice.injEq, and_true] at ea
    subst ea
    refine w_skip ?_
    refine w_seq ?_
    refine w_region (by kernel_rfl) ?_
    refine o_move gn rfl rfl ?_
    refine o_nilCheck gn rfl rfl ?_
    refine o_fieldAddr (off := 0) gn rfl rfl (by kernel_rfl) ?_
    refine o_load gn rfl rfl (by kernel_rfl) (by assumption) rfl ?_
    refine o_move gn rfl rfl ?_
    refine o_indexAddr (zz := 1) gn rfl rfl rfl (by kernel_rfl) (by omega) (by simp; omega) ?_
    refine o_load gn rfl rfl (by kernel_rfl) hg (us_at i hlt (by omega)) ?_
    refine o_assign gn rfl rfl ?_
    refine wl_end ?_
    refine w_ret ?_
    refine ⟨.inl rfl, _, rfl, ?_⟩
    exact ⟨rfl, rfl⟩

/-- mask -/
theorem c56 {i n : Nat} (ht : h.get b = some (.cells [sw, iV n] 71 0)) (hn : n ≤ 100000) (hi : i * 64 ≤ n) : CP bitsE 56 [ptrV b, iV i] h (uV (maskW n i)) := by
  refine c_enter (fu := Tryd.f56) (by kernel_rfl) rfl ?_
  refine w_seq ?_
  refine w_region (by kernel_rfl) ?_
  refine o_assign gn rfl rfl ?_
  refine wl_end ?_
  refine w_seq ?_
  refine w_seq ?_
  refine w_region (by kernel_rfl) ?_
  refine o_move gn rfl rfl ?_
  refine o_nilCheck gn rfl rfl ?_
  refine o_fieldAddr (off := 1) gn rfl rfl (by kernel_rfl) ?_
  refine o_load gn rfl rfl (by kernel_rfl) (by assumption) rfl ?_
  refine o_move gn rfl rfl ?_
  refine o_mul gn rfl rfl rfl (by omega) (by omega) ?_
  refine o_sub gn rfl rfl rfl (by omega) (by omega) ?_
  refine o_assign gn rfl rfl ?_
  refine wl_end ?_
  refine w_seq ?_
  refine w_region (by kernel_rfl) ?_
  refine o_move gn rfl rfl ?_
  refine o_lss gn rfl rfl rfl ?_
  refine wl_end ?_
  refine w_cond rfl (fun hb => ?_) fun hb => ?_
  · skip
    refine w_seq ?_
    have hlt : n - i * 64 < 64 := by simp at hb; omega
    refine w_region (by kernel_rfl) ?_
    refine o_move gn rfl rfl ?_
    refine o_shlU (1#64) (n - i * 64) gn rfl rfl (congrArg some (congrArg (Value.int .i64) (show (n : Int) - (i : Int) * 64 = ((n - i * 64 : Nat) : Int) by omega))) (by omega) ?_
    refine o_subU (_) (1#64) gn rfl rfl rfl ?_
    refine o_assign gn rfl rfl ?_
    refine wl_end ?_
    refine w_ret ?_
    refine ⟨.inl rfl, _, rfl, ?_⟩
    exact ⟨by rw [maskW, if_pos hlt]; rfl, rfl⟩
  · skip
    refine w_skip ?_
    refine w_seq ?_
    refine w_region (by kernel_rfl) ?_
    refine o_assign gn rfl rfl ?_
    refine wl_end ?_
    refine w_ret ?_
    refine ⟨.inl rfl, _, rfl, ?_⟩
    have hge : ¬ n - i * 64 < 64 := by simp at hb; omega
    exact ⟨by rw [maskW, if_neg hge]; rfl, rfl⟩

end

end Go.Proofs.YtgcapnlfkomgpaaDoor


namespace Go.Proofs.YtgcapnlfkomgpaaDoor
open Go.X

def addB (bs : List Bool) (i : Int) : Bool := inB bs i && !bget bs i.toNat
def addO (bs : List Bool) (i : Int) : List Bool := if inB bs i then bs.set i.toNat true else bs
def dropO (bs : List Bool) (i : Int) : List Bool := if hasB bs i then bs.set i.toNat false else bs
theorem addO_len (bs : List Bool) (i : Int) : (addO bs i).length = bs.length := by unfold addO; split <;> simp
theorem dropO_len (bs : List Bool) (i : Int) : (dropO bs i).length = bs.length := by unfold dropO; split <;> simp

theorem set_self {bs : List Bool} {k : Nat} {v : Bool} (hk : k < bs.length) (hv : bget bs k = v) : bs.set k v = bs := by
  rw [bget_get hk] at hv; subst hv; exact List.set_getElem_self hk

theorem us_set (ws : List (BitVec 64)) (k : Nat) (w : BitVec 64) {o : Nat} (e : o = k) : (usV ws).set o (uV w) = usV (ws.set k w) := by subst e; simp [List.map_set]

section
variable {h : Hp} {b : Nat} {bs : List Bool} {own : List Nat}

/-- Add -/
theorem c13 {i : Int} (x : SAt h b bs own) (hn : bs.length ≤ 100000) : C bitsE 13 [ptrV b, iV i] h fun v h' => v = .bool (addB bs i) ∧ SAt h' b (addO bs i) own ∧ ExtB own h h' := by
  have x0 := x
  obtain ⟨ws, sw, Bw, x, rfl⟩ := x
  have ht := x.top
  have hlen := x.wd.len
  obtain ⟨a, rfl⟩ := x.row.val
  refine c_enter (fu := Tryd.f13) (by kernel_rfl) rfl ?_
  refine w_seq ?_
  refine w_region (by kernel_rfl) ?_
  refine o_assign gn rfl rfl ?_
  refine wl_end ?_
  refine w_seq ?_
  refine w_seq ?_
  refine w_region (by kernel_rfl) ?_
  refine o_move gn rfl rfl ?_
  refine o_move gn rfl rfl ?_
  refine o_call [_, _] gn rfl rfl (by kernel_rfl) rfl (c_pure (c46 x) ⟨ag0, ?_⟩)
  refine o_not gn rfl rfl ?_
  refine o_move gn rfl rfl ?_
  refine o_or (n := 3) rfl rfl rfl gn rfl (fun hb => by
      refine o_move (gy rfl rfl rfl hb) rfl rfl ?_
      refine o_move (gy rfl rfl rfl hb) rfl rfl ?_
      refine o_call [_, _] (gy rfl rfl rfl hb) rfl rfl (by kernel_rfl) rfl (c_pure (c45 x hn) ⟨ag0, ?_⟩)
      exact wl_end ⟨rfl, rfl, 3, rfl, rfl⟩) ?_
  refine wl_end ?_
  refine w_cond rfl (fun hb => ?_) fun hb => ?_
  · skip
    refine w_seq ?_
    refine w_region (by kernel_rfl) ?_
    refine o_assign gn rfl rfl ?_
    refine wl_end ?_
    refine w_ret ?_
    refine ⟨.inl rfl, _, rfl, ?_⟩
    have hno : addB bs i = false ∧ addO bs i = bs := by
      unfold addB addO
      rw [hasB_in] at hb
      cases hi : inB bs i with
      | false => exact ⟨rfl, rfl⟩
      | true =>
        rw [hi] at hb
        have hb' : bget bs i.toNat = true := by simpa using hb
        exact ⟨by rw [hb']; rfl, set_self (inB_iff.1 hi).2 hb'⟩
    exact ⟨by rw [hno.1]; rfl, by rw [hno.2]; exact x0, .refl _ _⟩
  · skip
    have hb' : inB bs i = true ∧ bget bs i.toNat = false := by
      rw [hasB_in] at hb
      cases hi : inB bs i <;> rw [hi] at hb <;> simp at hb
      exact ⟨rfl, hb⟩
    obtain ⟨h0, hlt⟩ := inB_iff.1 hb'.1
    have hwl : i.toNat / 64 < ws.length := by omega
    obtain ⟨bw, m, ea, hg, hm, hbw, hB⟩ := x.row.at (by simp; omega)
    simp only [Value.slice.injEq, and_true] at ea
    subst ea
    subst hB
    refine w_skip ?_
    refine w_seq ?_
    refine w_draw [(0, []), (1, []), (2, []), (3, []), (4, []), (5, []), (6, []), (7, []), (8, []), (9, []), (10, []), (11, []), (12, []), (13, [])] (by kernel_rfl) (by kernel_rfl) (by kernel_rfl) (by kernel_rfl) ?_
    refine o_move gn rfl rfl ?_
    refine o_nilCheck gn rfl rfl ?_
    refine o_fieldAddr (off := 0) gn rfl rfl (by kernel_rfl) ?_
    refine o_load gn rfl rfl (by kernel_rfl) (by assumption) rfl ?_
    refine o_move gn rfl rfl ?_
    refine o_quoI (b := 64) gn rfl (nat_of h0) rfl (by omega) (by omega) ?_
    refine o_indexAddr (zz := 1) gn rfl rfl rfl (by kernel_rfl) (by omega) (by simp; omega) ?_
    refine o_load gn rfl rfl (by kernel_rfl) hg (us_at (i.toNat / 64) hwl (by omega)) ?_
    refine o_move gn rfl rfl ?_
    refine o_remI (b := 64) gn rfl (nat_of h0) rfl (by omega) ?_
    refine o_shlU (1#64) (_) gn rfl rfl rfl (by omega) ?_
    refine o_orU (_) (_) gn rfl rfl rfl ?_
    refine o_indexAddr (zz := 1) gn rfl rfl rfl (by kernel_rfl) (by omega) (by simp; omega) ?_
    refine o_store gn rfl rfl rfl (by kernel_rfl) hg (by omega) (by simp; omega) ag0 ?_
    refine wl_end ?_
    refine w_seq ?_
    refine w_region (by kernel_rfl) ?_
    refine o_assign gn rfl rfl ?_
    refine wl_end ?_
    refine w_ret ?_
    refine ⟨.inl rfl, _, rfl, ?_⟩
    have hne : b ≠ bw := fun e => x.nb (by simp [e])
    rw [us_set ws (i.toNat / 64) _ (by omega)]
    refine ⟨by rw [addB, hb'.1, hb'.2]; rfl, ⟨ws.set (i.toNat / 64) (wget ws (i.toNat / 64) ||| 1#64 <<< (i.toNat % 64)), .slice (some ⟨bw, 0, none⟩) (usV ws).length (usV ws).length, [bw], ⟨?_, Sl.put (by simp) hm hbw, ?_, by rw [Hp.n_put]; exact x.lt, x.nb⟩, rfl⟩, (ExtB.put _ _ _).mono (by simp)⟩
    · rw [Hp.get_put, if_neg (fun e => hne e.symm), addO_len]; exact ht
    · rw [addO, if_pos hb'.1]; exact x.wd.add hlt

/-- Drop -/
theorem c15 {i : Int} (x : SAt h b bs own) (hn : bs.length ≤ 100000) : C bitsE 15 [ptrV b, iV i] h fun v h' => v = .bool (hasB bs i) ∧ SAt h' b (dropO bs i) own ∧ ExtB own h h' := by
  have x0 := x
  obtain ⟨ws, sw, Bw, x, rfl⟩ := x
  have ht := x.top
  have hlen := x.wd.len
  obtain ⟨a, rfl⟩ := x.row.val
  refine c_enter (fu := Tryd.f15) (by kernel_rfl) rfl ?_
  refine w_seq ?_
  refine w_region (by kernel_rfl) ?_
  refine o_assign gn rfl rfl ?_
  refine wl_end ?_
  refine w_seq ?_
  refine w_seq ?_
  refine w_region (by kernel_rfl) ?_
  refine o_move gn rfl rfl ?_
  refine o_move gn rfl rfl ?_
  refine o_call [_, _] gn rfl rfl (by kernel_rfl) rfl (c_pure (c45 x hn) ⟨ag0, ?_⟩)
  refine o_not gn rfl rfl ?_
  refine wl_end ?_
  refine w_cond rfl (fun hb => ?_) fun hb => ?_
  · skip
    refine w_seq ?_
    refine w_region (by kernel_rfl) ?_
    refine o_assign gn rfl rfl ?_
    refine wl_end ?_
    refine w_ret ?_
    refine ⟨.inl rfl, _, rfl, ?_⟩
    have hb' : hasB bs i = false := by simpa using hb
    exact ⟨by rw [hb']; rfl, by rw [dropO, if_neg (by simp [hb'])]; exact x0, .refl _ _⟩
  · skip
    have hb' : hasB bs i = true := by simpa using hb
    have hb2 := hb'
    rw [hasB_in, Bool.and_eq_true] at hb2
    obtain ⟨h0, hlt⟩ := inB_iff.1 hb2.1
    have hwl : i.toNat / 64 < ws.length := by omega
    obtain ⟨bw, m, ea, hg, hm, hbw, hB⟩ := x.row.at (by simp; omega)
    simp only [Value.slice.injEq, and_true] at ea
    subst ea
    subst hB
    refine w_skip ?_
    refine w_seq ?_
    refine w_draw [(0, []), (1, []), (2, []), (3, []), (4, []), (5, []), (6, []), (7, []), (8, []), (9, []), (10, []), (11, []), (12, []), (13, [])] (by kernel_rfl) (by kernel_rfl) (by kernel_rfl) (by kernel_rfl) ?_
    refine o_move gn rfl rfl ?_
    refine o_nilCheck gn rfl rfl ?_
    refine o_fieldAddr (off := 0) gn rfl rfl (by kernel_rfl) ?_
    refine o_load gn rfl rfl (by kernel_rfl) (by assumption) rfl ?_
    refine o_move gn rfl rfl ?_
    refine o_quoI (b := 64) gn rfl (nat_of h0) rfl (by omega) (by omega) ?_
    refine o_indexAddr (zz := 1) gn rfl rfl rfl (by kernel_rfl) (by omega) (by simp; omega) ?_
    refine o_load gn rfl rfl (by kernel_rfl) hg (us_at (i.toNat / 64) hwl (by omega)) ?_
    refine o_move gn rfl rfl ?_
    refine o_remI (b := 64) gn rfl (nat_of h0) rfl (by omega) ?_
    refine o_shlU (1#64) (_) gn rfl rfl rfl (by omega) ?_
    refine o_andNotU (_) (_) gn rfl rfl rfl ?_
    refine o_indexAddr (zz := 1) gn rfl rfl rfl (by kernel_rfl) (by omega) (by simp; omega) ?_
    refine o_store gn rfl rfl rfl (by kernel_rfl) hg (by omega) (by simp; omega) ag0 ?_
    refine wl_end ?_
    refine w_seq ?_
    refine w_region (by kernel_rfl) ?_
    refine o_assign gn rfl rfl ?_
    refine wl_end ?_
    refine w_ret ?_
    refine ⟨.inl rfl, _, rfl, ?_⟩
    have hne : b ≠ bw := fun e => x.nb (by simp [e])
    rw [us_set ws (i.toNat / 64) _ (by omega)]
    refine ⟨by rw [hb']; rfl, ⟨ws.set (i.toNat / 64) (wget ws (i.toNat / 64) &&& ~~~(1#64 <<< (i.toNat % 64))), .slice (some ⟨bw, 0, none⟩) (usV ws).length (usV ws).length, [bw], ⟨?_, Sl.put (by simp) hm hbw, ?_, by rw [Hp.n_put]; exact x.lt, x.nb⟩, rfl⟩, (ExtB.put _ _ _).mono (by simp)⟩
    · rw [Hp.get_put, if_neg (fun e => hne e.symm), dropO_len]; exact ht
    · rw [dropO, if_pos hb']; exact x.wd.drop hlt

end

/-- Something comes when two are joined. -/
def Came (a o : List Bool) : Prop := ∃ k, k < a.length ∧ bget o k = true ∧ bget a k = false

/-- Union, where what the other one's words are is known. -/
theorem c33g {h : Hp} {b bo : Nat} {bs obs : List Bool} {ws os : List (BitVec 64)} {sw : Value} {Bw : List Nat} (x : SetR h b bs ws sw Bw) (ho : Wd os obs) (hn : bs.length ≤ 100000)
    (hw : ∀ hh vs, ExtB Bw h hh → Sl 69 hh sw (usV vs) Bw → ∀ i, (∀ j, i ≤ j → wget vs j = wget ws j) → CP bitsE 55 [ptrV bo, iV (i : Nat)] hh (uV (wget os i))) :
    C bitsE 33 [ptrV b, ptrV bo] h fun v h' => ∃ t vs, v = .bool t ∧ (t = true ↔ Came bs obs) ∧ SetR h' b (orB bs obs) vs sw Bw ∧ ExtB Bw h h' := by
  have ht := x.top
  have hlen := x.wd.len
  have hblt := x.lt
  obtain ⟨a, rfl⟩ := x.row.val
  refine c_enter (fu := Tryd.f33) (by kernel_rfl) rfl ?_
  refine w_seq ?_
  refine w_region (by kernel_rfl) ?_
  refine o_assign gn rfl rfl ?_
  refine wl_end ?_
  refine w_seq ?_
  refine w_seq ?_
  refine w_region (by kernel_rfl) ?_
  refine o_move gn rfl rfl ?_
  refine o_eqp gn rfl rfl rfl (by kernel_rfl) ?_
  refine wl_end ?_
  refine w_cond rfl (fun hb => ?_) fun hb => ?_
  · skip
    cases hb
  · skip
    refine w_skip ?_
    refine w_seq ?_
    refine w_region (by kernel_rfl) ?_
    refine o_assign gn rfl rfl ?_
    refine wl_end ?_
    refine w_seq ?_
    refine w_seq ?_
    refine w_region (by kernel_rfl) ?_
    refine o_move gn rfl rfl ?_
    refine o_nilCheck gn rfl rfl ?_
    refine o_fieldAddr (off := 0) gn rfl rfl (by kernel_rfl) ?_
    refine o_load gn rfl rfl (by kernel_rfl) (by assumption) rfl ?_
    refine o_len gn rfl rfl (by kernel_rfl) ?_
    refine o_move gn rfl rfl ?_
    refine wl_end ?_
    refine w_block ?_
    refine w_weak [(0, ptrV b), (1, ptrV bo), (5, .bool false), (13, .slice a (usV ws).length (usV ws).length), (14, .int .i64 ((usV ws).length : Nat)), (15, iV (0 : Nat))] (by repeat (first | exact trivial | refine ⟨rfl, ?_⟩)) ?_
    refine w_loop (fun k l hh => ∃ (i : Nat) (vs : List (BitVec 64)) (cm : Bool), i ≤ ws.length ∧ k = ws.length - i ∧ vs.length = ws.length ∧ (∀ j, j < i → wget vs j = orW bs.length ws os j) ∧ (∀ j, i ≤ j → wget vs j = wget ws j) ∧ (cm = true ↔ ∃ j, j < i ∧ orW bs.length ws os j ≠ wget ws j) ∧ Sl 69 hh (.slice a (usV ws).length (usV ws).length) (usV vs) Bw ∧ ExtB Bw h hh ∧
      l = [(0, ptrV b), (1, ptrV bo), (5, .bool cm), (13, .slice a (usV ws).length (usV ws).length), (14, .int .i64 ((usV ws).length : Nat)), (15, iV (i : Nat))]) (n := ws.length) ?_ fun k l hh hI => ?_
    · exact ⟨0, ws, false, by omega, by omega, rfl, fun j hj => by omega, fun j _ => rfl, by simp, x.row, .refl _ _, rfl⟩
    · obtain ⟨i, vs, cm, hi, rfl, hvl, hlo, hup, hcm, hr, hx, rfl⟩ := hI
      refine w_seq ?_
      refine w_region (by kernel_rfl) ?_
      refine o_lss gn rfl rfl rfl ?_
      refine wl_end ?_
      refine w_seq ?_
      refine w_cond rfl (fun hb => ?_) fun hb => ?_
      · skip
        have hlt : i < ws.length := by simpa using hb
        have hth := (hx.get b hblt x.nb).trans ht
        obtain ⟨bw, m, ea, hg, hm, hbw, hB⟩ := hr.at (by simp; omega)
        simp only [Value.slice.injEq] at ea
        obtain ⟨rfl, _, _⟩ := ea
        subst hB
        have hne : b ≠ bw := fun e => x.nb (by simp [e])
        refine w_skip ?_
        refine w_seq ?_
        refine w_block ?_
        refine w_seq ?_
        refine w_region (by kernel_rfl) ?_
        refine o_move gn rfl rfl ?_
        refine o_indexAddr (zz := 1) gn rfl rfl rfl (by kernel_rfl) (by omega) (by simp; omega) ?_
        refine o_load gn rfl rfl (by kernel_rfl) hg (us_at i (by omega) (by omega)) ?_
        refine o_assign gn rfl rfl ?_
        refine o_assign gn rfl rfl ?_
        refine wl_end ?_
        refine w_seq ?_
        refine w_draw [(0, []), (1, []), (2, []), (3, []), (4, []), (5, []), (6, []), (7, []), (9, []), (10, []), (8, [3]), (11, [3]), (12, []), (13, []), (14, []), (15, [])] (by kernel_rfl) (by kernel_rfl) (by kernel_rfl) (by kernel_rfl) ?_
        refine o_move gn rfl rfl ?_
        refine o_nilCheck gn rfl rfl ?_
        refine o_fieldAddr (off := 0) gn rfl rfl (by kernel_rfl) ?_
        refine o_load gn rfl rfl (by kernel_rfl) (by assumption) rfl ?_
        refine o_move gn rfl rfl ?_
        refine o_move gn rfl rfl ?_
        refine o_move gn rfl rfl ?_
        refine o_move gn rfl rfl ?_
        refine o_move gn rfl rfl ?_
        refine o_move gn rfl rfl ?_
        refine o_call [_, _] gn rfl rfl (by kernel_rfl) rfl (c_pure (hw hh vs hx hr i hup) ⟨(ag1 (ag_load gn rfl (by kernel_rfl) (by assumption) rfl rfl same_slice) ag0), ?_⟩)
        refine o_call [_, _] gn rfl rfl (by kernel_rfl) rfl (c_pure (c56 hth hn (by omega)) ⟨(ag1 (ag_load gn rfl (by kernel_rfl) (by assumption) rfl rfl same_slice) ag0), ?_⟩)
        refine o_andU (_) (_) gn rfl rfl rfl ?_
        refine o_orU (_) (_) gn rfl rfl rfl ?_
        refine o_indexAddr (zz := 1) gn rfl rfl rfl (by kernel_rfl) (by omega) (by simp; omega) ?_
        refine o_store gn rfl rfl rfl (by kernel_rfl) hg (by omega) (by simp; omega) ag0 ?_
        rw [us_set vs i _ (by omega)]
        have hth2 : (hh.put bw (.cells (usV (vs.set i (wget vs i ||| (wget os i &&& maskW bs.length i)))) 69 m)).get b = _ := (Hp.get_put _ _ _ _).trans ((if_neg (fun e => hne e.symm)).trans hth)
        refine wl_end ?_
        refine w_region (by kernel_rfl) ?_
        refine o_move gn rfl rfl ?_
        refine o_move gn rfl rfl ?_
        refine o_or (n := 9) rfl rfl rfl gn rfl (fun hb => by
            refine o_move (gy rfl rfl rfl hb) rfl rfl ?_
            refine o_nilCheck (gy rfl rfl rfl hb) rfl rfl ?_
            refine o_fieldAddr (off := 0) (gy rfl rfl rfl hb) rfl rfl (by kernel_rfl) ?_
            refine o_load (gy rfl rfl rfl hb) rfl rfl (by kernel_rfl) (by assumption) rfl ?_
            refine o_move (gy rfl rfl rfl hb) rfl rfl ?_
            refine o_indexAddr (zz := 1) (gy rfl rfl rfl hb) rfl rfl rfl (by kernel_rfl) (by omega) (by simp; omega) ?_
            refine o_load (gy rfl rfl rfl hb) rfl rfl (by kernel_rfl) (Hp.get_put_self _ _ _) ((us_at i (by simp; omega) (by omega)).trans (by rw [wget_set (by omega), if_pos rfl])) ?_
            refine o_move (gy rfl rfl rfl hb) rfl rfl ?_
            refine o_nei (gy rfl rfl rfl hb) rfl rfl rfl ?_
            exact wl_end ⟨rfl, rfl, 9, rfl, rfl⟩) ?_
        refine o_assign gn rfl rfl ?_
        refine wl_end ?_
        refine w_region (by kernel_rfl) ?_
        refine o_add gn rfl rfl rfl (by omega) (by omega) ?_
        refine o_move gn rfl rfl ?_
        refine wl_end ?_
        have hwi : wget vs i = wget ws i := hup i (Nat.le_refl _)
        have hdec : (!decide (((wget vs i ||| (wget os i &&& maskW bs.length i)).toNat : Int) = ((wget vs i).toNat : Int))) = decide (orW bs.length ws os i ≠ wget ws i) := by
          rw [hwi]
          show (!decide (((orW bs.length ws os i).toNat : Int) = ((wget ws i).toNat : Int))) = _
          by_cases e : orW bs.length ws os i = wget ws i
          · rw [e]; simp
          · have h2 : ((orW bs.length ws os i).toNat : Int) ≠ ((wget ws i).toNat : Int) := fun h => e (BitVec.eq_of_toNat_eq (Int.ofNat_inj.1 h))
            simp [e, h2]
        refine ⟨ws.length - (i + 1), by omega, [(0, ptrV b), (1, ptrV bo), (5, .bool (cm || decide (orW bs.length ws os i ≠ wget ws i))), (13, .slice (some ⟨bw, 0, none⟩) (usV ws).length (usV ws).length), (14, .int .i64 ((usV ws).length : Nat)), (15, iV ((i + 1 : Nat) : Int))], ?_, i + 1, vs.set i (wget vs i ||| (wget os i &&& maskW bs.length i)), cm || decide (orW bs.length ws os i ≠ wget ws i), by omega, rfl, by simp [hvl], fun j hj => ?_, fun j hj => ?_, ?_, Sl.put (by simp [hvl]) hm hbw, hx.trans (ExtB.put _ _ _), rfl⟩
        · rw [← hdec]
          repeat (first | exact trivial | refine ⟨rfl, ?_⟩)
        · rw [wget_set (by omega)]
          by_cases e : j = i
          · subst e; rw [if_pos rfl, hwi]; rfl
          · rw [if_neg e]; exact hlo j (by omega)
        · rw [wget_set (by omega), if_neg (by omega)]; exact hup j (by omega)
        · simp only [Bool.or_eq_true, decide_eq_true_eq, hcm]
          constructor
          · rintro (⟨j, hj, h1⟩ | h1)
            · exact ⟨j, by omega, h1⟩
            · exact ⟨i, by omega, h1⟩
          · rintro ⟨j, hj, h1⟩
            by_cases e : j = i
            · subst e; exact .inr h1
            · exact .inl ⟨j, by omega, h1⟩
      · skip
        refine w_exit ?_
        refine thn_exit ?_
        refine rnd_exit ?_
        refine blk_eq ?_
        refine w_seq ?_
        refine w_region (by kernel_rfl) ?_
        refine o_move gn rfl rfl ?_
        refine o_assign gn rfl rfl ?_
        refine wl_end ?_
        refine w_ret ?_
        refine ⟨.inl rfl, _, rfl, ?_⟩
        have hge : i = ws.length := by have := hi; simp at hb; omega
        subst hge
        refine ⟨cm, vs, rfl, ?_, ⟨?_, hr, x.wd.or ho hvl hlo, Nat.lt_of_lt_of_le hblt hx.n, x.nb⟩, hx⟩
        · rw [hcm]
          constructor
          · rintro ⟨j, hj, h1⟩
            obtain ⟨k, _, h2⟩ := (orW_ne x.wd ho j hj).1 h1
            exact ⟨k, h2⟩
          · rintro ⟨k, h2⟩
            have hj : k / 64 < ws.length := by have := h2.1; omega
            exact ⟨k / 64, hj, (orW_ne x.wd ho _ hj).2 ⟨k, rfl, h2⟩⟩
        · rw [hx.get b hblt x.nb, orB_len]; exact ht

/-- Union with another one -/
theorem c33 {h : Hp} {b bo : Nat} {bs obs : List Bool} {own oo : List Nat} (x : SAt h b bs own) (o : SAt h bo obs oo) (hd : ∀ i, i ∈ oo → i ∉ own) (hn : bs.length ≤ 100000) :
    C bitsE 33 [ptrV b, ptrV bo] h fun v h' => ∃ t, v = .bool t ∧ (t = true ↔ Came bs obs) ∧ SAt h' b (orB bs obs) own ∧ ExtB own h h' := by
  obtain ⟨ws, sw, Bw, x, rfl⟩ := x
  obtain ⟨os, so, Bo, o, rfl⟩ := o
  refine (c33g x o.wd hn fun hh vs g _ i _ => ?_).mono fun v h' ⟨t, vs, e, ht, q, g⟩ => ⟨t, e, ht, ⟨_, _, _, q, rfl⟩, g.mono (by simp; grind)⟩
  have o' := o.keep g fun i hi hj => hd i hi (by simp [hj])
  exact c55 o'.top o'.row

/-- Union with itself -/
theorem c33s {h : Hp} {b : Nat} {bs : List Bool} {own : List Nat} (x : SAt h b bs own) (hn : bs.length ≤ 100000) :
    C bitsE 33 [ptrV b, ptrV b] h fun v h' => ∃ t, v = .bool t ∧ (t = true ↔ Came bs bs) ∧ SAt h' b (orB bs bs) own ∧ ExtB own h h' := by
  obtain ⟨ws, sw, Bw, x, rfl⟩ := x
  refine (c33g x x.wd hn fun hh vs g hr i hup => ?_).mono fun v h' ⟨t, vs, e, ht, q, g⟩ => ⟨t, e, ht, ⟨_, _, _, q, rfl⟩, g.mono (by simp; grind)⟩
  have := c55 (i := i) ((g.get b x.lt x.nb).trans x.top) hr
  rwa [hup i (Nat.le_refl _)] at this

/-- Meets -/
theorem c34 {h : Hp} {b bo : Nat} {bs obs : List Bool} {own oo : List Nat} (x : SAt h b bs own) (o : SAt h bo obs oo) (hn : bs.length ≤ 100000) :
    C bitsE 34 [ptrV b, ptrV bo] h fun v h' => h' = h ∧ ∃ t, v = .bool t ∧ (t = true ↔ ∃ k, bget bs k = true ∧ bget obs k = true) := by
  obtain ⟨ws, sw, Bw, x, rfl⟩ := x
  obtain ⟨os, so, Bo, o, rfl⟩ := o
  have ht := x.top
  have hlen := x.wd.len
  obtain ⟨a, rfl⟩ := x.row.val
  refine c_enter (fu := Tryd.f34) (by kernel_rfl) rfl ?_
  refine w_seq ?_
  refine w_region (by kernel_rfl) ?_
  refine o_assign gn rfl rfl ?_
  refine wl_end ?_
  refine w_seq ?_
  refine w_seq ?_
  refine w_region (by kernel_rfl) ?_
  refine o_move gn rfl rfl ?_
  refine o_eqp gn rfl rfl rfl (by kernel_rfl) ?_
  refine wl_end ?_
  refine w_cond rfl (fun hb => ?_) fun hb => ?_
  · skip
    cases hb
  · skip
    refine w_skip ?_
    refine w_seq ?_
    refine w_seq ?_
    refine w_region (by kernel_rfl) ?_
    refine o_move gn rfl rfl ?_
    refine o_nilCheck gn rfl rfl ?_
    refine o_fieldAddr (off := 0) gn rfl rfl (by kernel_rfl) ?_
    refine o_load gn rfl rfl (by kernel_rfl) (by assumption) rfl ?_
    refine o_len gn rfl rfl (by kernel_rfl) ?_
    refine o_move gn rfl rfl ?_
    refine wl_end ?_
    refine w_block ?_
    refine w_weak [(1, ptrV bo), (12, .slice a (usV ws).length (usV ws).length), (13, .int .i64 ((usV ws).length : Nat)), (14, iV (0 : Nat))] (by repeat (first | exact trivial | refine ⟨rfl, ?_⟩)) ?_
    refine w_loop (fun k l hh => ∃ (i : Nat), i ≤ ws.length ∧ k = ws.length - i ∧ (∀ j, j < i → (wget ws j &&& wget os j) = 0#64) ∧ l = [(1, ptrV bo), (12, .slice a (usV ws).length (usV ws).length), (13, .int .i64 ((usV ws).length : Nat)), (14, iV (i : Nat))] ∧ hh = h) (n := ws.length) ?_ fun k l hh hI => ?_
    · exact ⟨0, by omega, by omega, fun j hj => by omega, rfl, rfl⟩
    · obtain ⟨i, hi, rfl, hlo, rfl, e0⟩ := hI
      refine w_seq ?_
      refine w_region (by kernel_rfl) ?_
      refine o_lss gn rfl rfl rfl ?_
      refine wl_end ?_
      refine w_seq ?_
      refine w_cond rfl (fun hb => ?_) fun hb => ?_
      · skip
        obtain rfl := e0
        have hlt : i < ws.length := by simpa using hb
        obtain ⟨bw, m, ea, hg, hm, hbw, hB⟩ := x.row.at (by simp; omega)
        simp only [Value.slice.injEq, and_true] at ea
        subst ea
        refine w_skip ?_
        refine w_seq ?_
        refine w_block ?_
        refine w_seq ?_
        refine w_region (by kernel_rfl) ?_
        refine o_move gn rfl rfl ?_
        refine o_indexAddr (zz := 1) gn rfl rfl rfl (by kernel_rfl) (by omega) (by simp; omega) ?_
        refine o_load gn rfl rfl (by kernel_rfl) hg (us_at i (by omega) (by omega)) ?_
        refine o_assign gn rfl rfl ?_
        refine o_assign gn rfl rfl ?_
        refine wl_end ?_
        refine w_seq ?_
        refine w_region (by kernel_rfl) ?_
        refine o_move gn rfl rfl ?_
        refine o_move gn rfl rfl ?_
        refine o_move gn rfl rfl ?_
        refine o_call [_, _] gn rfl rfl (by kernel_rfl) rfl (c_pure (c55 o.top o.row) ⟨ag0, ?_⟩)
        refine o_andU (_) (_) gn rfl rfl rfl ?_
        refine o_nei gn rfl rfl rfl ?_
        refine wl_end ?_
        refine w_cond rfl (fun hb => ?_) fun hb => ?_
        · skip
          refine w_seq ?_
          refine w_region (by kernel_rfl) ?_
          refine o_assign gn rfl rfl ?_
          refine wl_end ?_
          refine w_ret ?_
          refine ⟨.inl rfl, _, rfl, ?_⟩
          have hne : (wget ws i &&& wget os i) ≠ 0#64 := fun e => by rw [e] at hb; simp at hb
          obtain ⟨k, _, hk⟩ := (meetW x.wd o.wd i).1 hne
          exact ⟨rfl, true, rfl, by simp; exact ⟨k, hk⟩⟩
        · skip
          refine w_skip ?_
          refine w_region (by kernel_rfl) ?_
          refine o_add gn rfl rfl rfl (by omega) (by omega) ?_
          refine o_move gn rfl rfl ?_
          refine wl_end ?_
          have hz : (wget ws i &&& wget os i) = 0#64 := by
            have : (((wget ws i &&& wget os i).toNat : Nat) : Int) = 0 := by simpa using hb
            exact BitVec.eq_of_toNat_eq (by simpa using this)
          exact ⟨ws.length - (i + 1), by omega, [(1, ptrV bo), (12, .slice (some ⟨bw, 0, none⟩) (usV ws).length (usV ws).length), (13, .int .i64 ((usV ws).length : Nat)), (14, iV ((i + 1 : Nat) : Int))], (by repeat (first | exact trivial | refine ⟨rfl, ?_⟩)), i + 1, by omega, rfl, fun j hj => by
            by_cases e : j = i
            · subst e; exact hz
            · exact hlo j (by omega), rfl, rfl⟩
      · skip
        refine w_exit ?_
        refine thn_exit ?_
        refine rnd_exit ?_
        refine blk_eq ?_
        refine w_seq ?_
        refine w_region (by kernel_rfl) ?_
        refine o_assign gn rfl rfl ?_
        refine wl_end ?_
        refine w_ret ?_
        refine ⟨.inl rfl, _, rfl, ?_⟩
        have hge : ws.length ≤ i := by simpa using hb
        refine ⟨e0, false, rfl, ?_⟩
        simp only [Bool.false_eq_true, false_iff, not_exists]
        intro k hk
        have hj : k / 64 < ws.length := by have := bget_lt hk.1; omega
        exact (meetW x.wd o.wd (k / 64)).2 ⟨k, rfl, hk⟩ (hlo _ (by omega))

end Go.Proofs.YtgcapnlfkomgpaaDoor


namespace Go.Proofs.YtgcapnlfkomgpaaDoor
open Go.X

/-- math/bits' table of 64. -/
def Tab (h : Hp) : Prop := 0 < h.n ∧ ∃ e m, h.get 0 = some (.cells (Lib.deBruijn64tab.map fun (n : Nat) => Value.int .u8 (n : Int)) e m)
theorem Tab.keep {h h' : Hp} {cs : List Nat} (t : Tab h) (g : ExtB cs h h') (h0 : 0 ∉ cs) : Tab h' := ⟨Nat.lt_of_lt_of_le t.1 g.n, by rw [g.get 0 t.1 h0]; exact t.2⟩
theorem Tab.ext {h h' : Hp} (t : Tab h) (g : Ext h h') : Tab h' := t.keep (g.b []) (by simp)

theorem tz_at (x : BitVec 64) (h0 : x ≠ 0#64) : (((x &&& -x) * 285870213051353865#64) >>> 58).toNat < 64 ∧ Lib.deBruijn64tab.getD (((x &&& -x) * 285870213051353865#64) >>> 58).toNat 0 = Lib.ctz 64 x.toNat := by
  have hn : x.toNat ≠ 0 := fun e => h0 (BitVec.eq_of_toNat_eq (by rw [e]; rfl))
  have hlt := x.isLt
  obtain ⟨h1, h2⟩ := Lib.lowest_bit 64 x.toNat hn hlt
  have e : (((x &&& -x) * 285870213051353865#64) >>> 58).toNat = 2 ^ Lib.ctz 64 x.toNat * 285870213051353865 % 18446744073709551616 / 288230376151711744 := by
    have hneg : (-x).toNat = 2 ^ 64 - x.toNat := by rw [BitVec.toNat_neg]; omega
    rw [shr_nat, BitVec.toNat_mul, BitVec.toNat_and, hneg, h1]
    rfl
  rw [e]
  exact Lib.deBruijn64_at _ h2

/-- TrailingZeros64 -/
theorem c43 {h : Hp} {x : BitVec 64} (t : Tab h) (h0 : x ≠ 0#64) : CP bitsE 43 [uV x] h (iV ((Lib.ctz 64 x.toNat : Nat) : Int)) := by
  obtain ⟨_, e, m, hg⟩ := t
  obtain ⟨hi, hv⟩ := tz_at x h0
  have hc := (Lib.lowest_bit 64 x.toNat (fun e => h0 (BitVec.eq_of_toNat_eq (by rw [e]; rfl))) x.isLt).2
  refine c_enter (fu := Tryd.f43) (by kernel_rfl) rfl ?_
  refine w_seq ?_
  refine w_region (by kernel_rfl) ?_
  refine o_assign gn rfl rfl ?_
  refine wl_end ?_
  refine w_seq ?_
  refine w_seq ?_
  refine w_region (by kernel_rfl) ?_
  refine o_move gn rfl rfl ?_
  refine o_eqi gn rfl rfl rfl ?_
  refine wl_end ?_
  refine w_cond rfl (fun hb => ?_) fun hb => ?_
  · skip
    refine w_seq ?_
    refine w_region (by kernel_rfl) ?_
    refine o_assign gn rfl rfl ?_
    refine wl_end ?_
    refine w_ret ?_
    refine ⟨.inl rfl, _, rfl, ?_⟩
    have : (x.toNat : Int) = 0 := by simpa using hb
    exact absurd (BitVec.eq_of_toNat_eq (by simpa using this)) h0
  · skip
    refine w_skip ?_
    refine w_seq ?_
    refine w_region (by kernel_rfl) ?_
    refine o_move gn rfl rfl ?_
    refine o_move gn rfl rfl ?_
    refine o_negU (_) gn rfl rfl ?_
    refine o_andU (_) (_) gn rfl rfl rfl ?_
    refine o_mulU (_) (285870213051353865#64) gn rfl rfl rfl ?_
    refine o_shrU (_) 58 gn rfl rfl rfl (by omega) ?_
    refine o_indexAddrA (n := 64) (e := 5) (zz := 1) gn rfl rfl rfl (by kernel_rfl) (by omega) (by omega) ?_
    refine o_load gn rfl rfl (by kernel_rfl) hg (show _ = some (Value.int .u8 ((Lib.ctz 64 x.toNat : Nat) : Int)) from by
  rw [Nat.zero_add, Nat.mul_one, Int.toNat_natCast, List.getElem?_map, List.getElem?_eq_getElem (show (((x &&& -x) * 285870213051353865#64) >>> 58).toNat < Lib.deBruijn64tab.length from hi)]
  rw [List.getD_eq_getElem?_getD, List.getElem?_eq_getElem (show (((x &&& -x) * 285870213051353865#64) >>> 58).toNat < Lib.deBruijn64tab.length from hi), Option.getD_some] at hv
  rw [hv]; rfl) ?_
    refine o_convert (k := .i64) gn rfl rfl (by kernel_rfl) (by kernel_rfl) ?_
    refine o_assign gn rfl rfl ?_
    refine wl_end ?_
    refine w_ret ?_
    refine ⟨.inl rfl, _, rfl, ?_⟩
    exact ⟨by rw [wrap64 (by omega) (by omega)]; rfl, rfl⟩

/-- OnesCount64 -/
theorem c57 {h : Hp} {x : BitVec 64} : CP bitsE 57 [uV x] h (iV ((popc x : Nat) : Int)) := by
  refine c_enter (fu := Tryd.f57) (by kernel_rfl) rfl ?_
  refine w_seq ?_
  refine w_region (by kernel_rfl) ?_
  refine o_assign gn rfl rfl ?_
  refine wl_end ?_
  refine w_seq ?_
  refine w_region (by kernel_rfl) ?_
  refine o_move gn rfl rfl ?_
  refine o_shrU (_) 1 gn rfl rfl rfl (by omega) ?_
  refine o_andU (_) (6148914691236517205#64) gn rfl rfl rfl ?_
  refine o_move gn rfl rfl ?_
  refine o_andU (_) (6148914691236517205#64) gn rfl rfl rfl ?_
  refine o_addU (_) (_) gn rfl rfl rfl ?_
  refine o_assign gn rfl rfl ?_
  refine wl_end ?_
  refine w_seq ?_
  refine w_region (by kernel_rfl) ?_
  refine o_move gn rfl rfl ?_
  refine o_shrU (_) 2 gn rfl rfl rfl (by omega) ?_
  refine o_andU (_) (3689348814741910323#64) gn rfl rfl rfl ?_
  refine o_move gn rfl rfl ?_
  refine o_andU (_) (3689348814741910323#64) gn rfl rfl rfl ?_
  refine o_addU (_) (_) gn rfl rfl rfl ?_
  refine o_assign gn rfl rfl ?_
  refine wl_end ?_
  refine w_seq ?_
  refine w_region (by kernel_rfl) ?_
  refine o_move gn rfl rfl ?_
  refine o_shrU (_) 4 gn rfl rfl rfl (by omega) ?_
  refine o_move gn rfl rfl ?_
  refine o_addU (_) (_) gn rfl rfl rfl ?_
  refine o_andU (_) (1085102592571150095#64) gn rfl rfl rfl ?_
  refine o_assign gn rfl rfl ?_
  refine wl_end ?_
  refine w_seq ?_
  refine w_region (by kernel_rfl) ?_
  refine o_move gn rfl rfl ?_
  refine o_move gn rfl rfl ?_
  refine o_shrU (_) 8 gn rfl rfl rfl (by omega) ?_
  refine o_addU (_) (_) gn rfl rfl rfl ?_
  refine o_assign gn rfl rfl ?_
  refine wl_end ?_
  refine w_seq ?_
  refine w_region (by kernel_rfl) ?_
  refine o_move gn rfl rfl ?_
  refine o_move gn rfl rfl ?_
  refine o_shrU (_) 16 gn rfl rfl rfl (by omega) ?_
  refine o_addU (_) (_) gn rfl rfl rfl ?_
  refine o_assign gn rfl rfl ?_
  refine wl_end ?_
  refine w_seq ?_
  refine w_region (by kernel_rfl) ?_
  refine o_move gn rfl rfl ?_
  refine o_move gn rfl rfl ?_
  refine o_shrU (_) 32 gn rfl rfl rfl (by omega) ?_
  refine o_addU (_) (_) gn rfl rfl rfl ?_
  refine o_assign gn rfl rfl ?_
  refine wl_end ?_
  refine w_seq ?_
  refine w_region (by kernel_rfl) ?_
  refine o_move gn rfl rfl ?_
  refine o_convert (k := .i64) gn rfl rfl (by kernel_rfl) (by kernel_rfl) ?_
  refine o_and64 gn rfl rfl rfl ?_
  refine o_assign gn rfl rfl ?_
  refine wl_end ?_
  refine w_ret ?_
  refine ⟨.inl rfl, _, rfl, ?_⟩
  refine ⟨?_, rfl⟩
  show iV (IntKind.i64.wrap ((BitVec.ofInt 64 (IntKind.i64.wrap ((oc6 (oc5 (oc4 (oc3 (oc2 (oc1 x)))))).toNat : Int)) &&& BitVec.ofInt 64 127).toNat : Int)) = _
  rw [ofInt_wrap64]
  have e : ((oc6 (oc5 (oc4 (oc3 (oc2 (oc1 x)))))) &&& BitVec.ofInt 64 127).toNat = popc x := by
    rw [← oc_pop x, BitVec.toNat_and]
    exact Nat.and_two_pow_sub_one_eq_mod _ 7
  have hle : popc x ≤ 64 := by
    have := List.length_filter_le (fun i => x.toNat.testBit i) (List.range 64)
    rw [List.length_range] at this
    exact this
  rw [e, wrap64 (by omega) (by omega)]

end Go.Proofs.YtgcapnlfkomgpaaDoor


namespace Go.Proofs.YtgcapnlfkomgpaaDoor
open Go.X

/-- The bits of a row's words, from one on. -/
def restW (ws : List (BitVec 64)) (i : Nat) : List Nat := (List.range' i (ws.length - i)).flatMap fun j => (onesW (wget ws j)).map (64 * j + ·)
theorem restW_zero {ws : List (BitVec 64)} {bs : List Bool} (h : Wd ws bs) : restW ws 0 = onesB bs := by rw [h.ones, restW, Nat.sub_zero, List.range_eq_range']
theorem restW_step {ws : List (BitVec 64)} {i : Nat} (hi : i < ws.length) : restW ws i = (onesW (wget ws i)).map (64 * i + ·) ++ restW ws (i + 1) := by
  unfold restW
  rw [show ws.length - i = (ws.length - (i + 1)) + 1 from by omega, List.range'_succ, List.flatMap_cons]
theorem restW_end {ws : List (BitVec 64)} {i : Nat} (hi : ws.length ≤ i) : restW ws i = [] := by
  unfold restW; rw [show ws.length - i = 0 from by omega]; rfl
theorem ones_le (w : BitVec 64) : (onesW w).length ≤ 64 := by
  have := List.length_filter_le w.getLsbD (List.range 64)
  rw [List.length_range] at this
  exact this
theorem onesB_le (bs : List Bool) : (onesB bs).length ≤ bs.length := by
  have := List.length_filter_le (bget bs) (List.range bs.length)
  rw [List.length_range] at this
  exact this
theorem onesB_mem {bs : List Bool} {k : Nat} : k ∈ onesB bs ↔ bget bs k = true := by
  unfold onesB
  rw [List.mem_filter, List.mem_range]
  exact ⟨fun h => h.2, fun h => ⟨bget_lt h, h⟩⟩

section
variable {h : Hp} {b : Nat} {bs : List Bool} {ws : List (BitVec 64)} {sw : Value} {Bw own : List Nat}

/-- Len -/
theorem c44 (x : SetR h b bs ws sw Bw) (hn : bs.length ≤ 100000) : CP bitsE 44 [ptrV b] h (iV ((onesB bs).length : Nat)) := by
  have ht := x.top
  have hlen := x.wd.len
  obtain ⟨a, rfl⟩ := x.row.val
  have hob := onesB_le bs
  refine c_enter (fu := Tryd.f44) (by kernel_rfl) rfl ?_
  refine w_seq ?_
  refine w_region (by kernel_rfl) ?_
  refine o_assign gn rfl rfl ?_
  refine wl_end ?_
  refine w_seq ?_
  refine w_seq ?_
  refine w_region (by kernel_rfl) ?_
  refine o_move gn rfl rfl ?_
  refine o_eqp gn rfl rfl rfl (by kernel_rfl) ?_
  refine wl_end ?_
  refine w_cond rfl (fun hb => ?_) fun hb => ?_
  · skip
    cases hb
  · skip
    refine w_skip ?_
    refine w_seq ?_
    refine w_seq ?_
    refine w_region (by kernel_rfl) ?_
    refine o_move gn rfl rfl ?_
    refine o_nilCheck gn rfl rfl ?_
    refine o_fieldAddr (off := 0) gn rfl rfl (by kernel_rfl) ?_
    refine o_load gn rfl rfl (by kernel_rfl) (by assumption) rfl ?_
    refine o_len gn rfl rfl (by kernel_rfl) ?_
    refine o_move gn rfl rfl ?_
    refine wl_end ?_
    refine w_block ?_
    refine w_weak [(2, iV (0 : Nat)), (10, .slice a (usV ws).length (usV ws).length), (11, .int .i64 ((usV ws).length : Nat)), (12, iV (0 : Nat))] (by repeat (first | exact trivial | refine ⟨rfl, ?_⟩)) ?_
    refine w_loop (fun k l hh => ∃ (i s : Nat), i ≤ ws.length ∧ k = ws.length - i ∧ s + (restW ws i).length = (onesB bs).length ∧ l = [(2, iV (s : Nat)), (10, .slice a (usV ws).length (usV ws).length), (11, .int .i64 ((usV ws).length : Nat)), (12, iV (i : Nat))] ∧ hh = h) (n := ws.length) ?_ fun k l hh hI => ?_
    · exact ⟨0, 0, by omega, by omega, by rw [restW_zero x.wd]; omega, rfl, rfl⟩
    · obtain ⟨i, s, hi, rfl, hs, rfl, e0⟩ := hI
      refine w_seq ?_
      refine w_region (by kernel_rfl) ?_
      refine o_lss gn rfl rfl rfl ?_
      refine wl_end ?_
      refine w_seq ?_
      refine w_cond rfl (fun hb => ?_) fun hb => ?_
      · skip
        obtain rfl := e0
        have hlt : i < ws.length := by simpa using hb
        obtain ⟨bw, m, ea, hg, hm, hbw, hB⟩ := x.row.at (by simp; omega)
        simp only [Value.slice.injEq, and_true] at ea
        subst ea
        have hstep := congrArg List.length (restW_step hlt)
        rw [List.length_append, List.length_map, ← popc_ones] at hstep
        refine w_skip ?_
        refine w_seq ?_
        refine w_block ?_
        refine w_seq ?_
        refine w_region (by kernel_rfl) ?_
        refine o_indexAddr (zz := 1) gn rfl rfl rfl (by kernel_rfl) (by omega) (by simp; omega) ?_
        refine o_load gn rfl rfl (by kernel_rfl) hg (us_at i (by omega) (by omega)) ?_
        refine o_assign gn rfl rfl ?_
        refine wl_end ?_
        refine w_region (by kernel_rfl) ?_
        refine o_move gn rfl rfl ?_
        refine o_move gn rfl rfl ?_
        refine o_call [_] gn rfl rfl (by kernel_rfl) rfl (c_pure c57 ⟨ag0, ?_⟩)
        refine o_add gn rfl rfl rfl (by omega) (by omega) ?_
        refine o_assign gn rfl rfl ?_
        refine wl_end ?_
        refine w_region (by kernel_rfl) ?_
        refine o_add gn rfl rfl rfl (by omega) (by omega) ?_
        refine o_move gn rfl rfl ?_
        refine wl_end ?_
        exact ⟨ws.length - (i + 1), by omega, [(2, iV ((s + popc (wget ws i) : Nat) : Int)), (10, .slice (some ⟨bw, 0, none⟩) (usV ws).length (usV ws).length), (11, .int .i64 ((usV ws).length : Nat)), (12, iV ((i + 1 : Nat) : Int))], (by repeat (first | exact trivial | refine ⟨rfl, ?_⟩)), i + 1, s + popc (wget ws i), by omega, rfl, by omega, rfl, rfl⟩
      · skip
        refine w_exit ?_
        refine thn_exit ?_
        refine rnd_exit ?_
        refine blk_eq ?_
        refine w_seq ?_
        refine w_region (by kernel_rfl) ?_
        refine o_move gn rfl rfl ?_
        refine o_assign gn rfl rfl ?_
        refine wl_end ?_
        refine w_ret ?_
        refine ⟨.inl rfl, _, rfl, ?_⟩
        have hge : ws.length ≤ i := by simpa using hb
        rw [restW_end hge] at hs
        have e1 : s = (onesB bs).length := by simpa using hs
        exact ⟨by rw [← e1]; rfl, e0⟩

theorem el69 : El bitsE 67 69 7 := ⟨by kernel_rfl, by kernel_rfl, by kernel_rfl, .int .u64 0, by kernel_rfl, rfl⟩
theorem all_us (ws : List (BitVec 64)) : (usV ws).all cellV = true := by simp [List.all_map, List.all_eq_true, cellV]

/-- slices.Clone of words -/
theorem c41 {a : Option Addr} {n c : Nat} {xs : List Value} (hs : Src h (.slice a n c) xs) (hn : xs.length ≤ 100000) :
    C bitsE 41 [.slice a n c] h fun v h' => ∃ bs, Sl 69 h' v xs bs ∧ Ext h h' ∧ ∀ i, i ∈ bs → h.n ≤ i := by
  obtain ⟨v', h', bs', h1, h2, h3, h4⟩ := append_new (E := bitsE) el69 hs (by omega)
  refine c_enter (fu := Tryd.f41) (by kernel_rfl) rfl ?_
  refine w_seq ?_
  refine w_region (by kernel_rfl) ?_
  refine o_assign gn rfl rfl ?_
  refine wl_end ?_
  refine w_seq ?_
  refine w_seq ?_
  refine w_region (by kernel_rfl) ?_
  refine o_move gn rfl rfl ?_
  refine o_eqs gn rfl rfl rfl (by kernel_rfl) ?_
  refine wl_end ?_
  refine w_cond rfl (fun hb => ?_) fun hb => ?_
  · skip
    refine w_seq ?_
    refine w_region (by kernel_rfl) ?_
    refine o_assign gn rfl rfl ?_
    refine wl_end ?_
    refine w_ret ?_
    refine ⟨.inl rfl, _, rfl, ?_⟩
    simp only [Option.isNone_iff_eq_none] at hb; subst hb; exact ⟨[], .inl ⟨rfl, hs.nil, rfl⟩, .refl _, by simp⟩
  · skip
    refine w_skip ?_
    refine w_seq ?_
    refine w_region (by kernel_rfl) ?_
    refine o_buildSlice (e := 69) (z := 0) (zv := .int .u64 0) [] gn rfl (by kernel_rfl) (by kernel_rfl) (by kernel_rfl) (by kernel_rfl) rfl rfl ?_
    refine o_move gn rfl rfl ?_
    refine o_append gn rfl rfl rfl h1 ag0 ?_
    refine o_assign gn rfl rfl ?_
    refine wl_end ?_
    refine w_ret ?_
    refine ⟨.inl rfl, _, rfl, ?_⟩
    exact ⟨bs', h2, h3, h4⟩

/-- Copy -/
theorem c9 (x : SetR h b bs ws sw Bw) (hn : bs.length ≤ 100000) : C bitsE 9 [ptrV b] h fun v h' => ∃ b' own', v = ptrV b' ∧ SAt h' b' bs own' ∧ (∀ i, i ∈ own' → h.n ≤ i) ∧ Ext h h' := by
  have ht := x.top
  have hlen := x.wd.len
  obtain ⟨a, rfl⟩ := x.row.val
  refine c_enter (fu := Tryd.f9) (by kernel_rfl) rfl ?_
  refine w_seq ?_
  refine w_region (by kernel_rfl) ?_
  refine o_assign gn rfl rfl ?_
  refine wl_end ?_
  refine w_seq ?_
  refine w_seq ?_
  refine w_region (by kernel_rfl) ?_
  refine o_move gn rfl rfl ?_
  refine o_eqp gn rfl rfl rfl (by kernel_rfl) ?_
  refine wl_end ?_
  refine w_cond rfl (fun hb => ?_) fun hb => ?_
  · skip
    refine w_seq ?_
    refine w_region (by kernel_rfl) ?_
    refine o_assign gn rfl rfl ?_
    refine wl_end ?_
    refine w_ret ?_
    refine ⟨.inl rfl, _, rfl, ?_⟩
    cases hb
  · skip
    refine w_skip ?_
    refine w_seq ?_
    refine w_draw [(0, []), (1, []), (2, []), (3, []), (5, []), (6, []), (7, []), (8, []), (4, [8]), (9, []), (10, []), (11, [])] (by kernel_rfl) (by kernel_rfl) (by kernel_rfl) (by kernel_rfl) ?_
    refine o_move gn rfl rfl ?_
    refine o_nilCheck gn rfl rfl ?_
    refine o_fieldAddr (off := 0) gn rfl rfl (by kernel_rfl) ?_
    refine o_load gn rfl rfl (by kernel_rfl) (by assumption) rfl ?_
    refine o_move gn rfl rfl ?_
    refine o_nilCheck gn rfl rfl ?_
    refine o_fieldAddr (off := 1) gn rfl rfl (by kernel_rfl) ?_
    refine o_load gn rfl rfl (by kernel_rfl) (by assumption) rfl ?_
    refine o_call [_] gn rfl rfl (by kernel_rfl) rfl (C.mono (c41 (x.row.src (all_us ws)) (by simp; omega)) ?_)
    rintro v1 h1 ⟨Bc, s1, x1, f1⟩
    have ht1 := (x1.get b x.lt).trans ht
    obtain ⟨a1, rfl⟩ := s1.val
    refine ⟨(ag1 (ag_load gn rfl (by kernel_rfl) (by assumption) rfl rfl same_int) ag0), ?_⟩
    refine o_build (zv := .agg #[.slice none 0 0, .int .i64 0]) (pl := [(0, 1), (1, 1)]) [(0, _), (1, _)] gn rfl (by kernel_rfl) (by kernel_rfl) rfl rfl ?_
    refine o_box gn rfl rfl ?_
    refine o_assign gn rfl rfl ?_
    refine wl_end ?_
    refine w_ret ?_
    refine ⟨.inl rfl, _, rfl, ?_⟩
    have hnb : h1.n ∉ Bc := fun hm => by have := s1.lt _ hm; omega
    have x1n := x1.n
    refine ⟨h1.n, h1.n :: Bc, rfl, ⟨ws, _, Bc, ⟨Hp.get_alloc_self _ _, s1.ext (Ext.alloc _ _), x.wd, by rw [Hp.n_alloc]; omega, hnb⟩, rfl⟩, fun i hi => ?_, x1.trans (Ext.alloc _ _)⟩
    rcases List.mem_cons.1 hi with rfl | hi
    · omega
    · exact f1 i hi

/-- A closure of All's: a cell that holds words. -/
def AllAt (h : Hp) (c : Nat) (bs : List Bool) (Bc : List Nat) : Prop := ∃ ws sw, h.get c = some (.cells [sw] 67 0) ∧ Sl 69 h sw (usV ws) Bc ∧ Wd ws bs ∧ c < h.n ∧ c ∉ Bc
theorem AllAt.keep {h' : Hp} {c : Nat} {Bc cs : List Nat} (x : AllAt h c bs Bc) (g : ExtB cs h h') (hd : ∀ i, i ∈ c :: Bc → i ∉ cs) : AllAt h' c bs Bc := by
  obtain ⟨ws, sw, p, q, r, s, t⟩ := x
  exact ⟨ws, sw, by rw [g.get c s (hd c (by simp))]; exact p, q.keep g fun i hi => hd i (by simp [hi]), r, Nat.lt_of_lt_of_le s g.n, t⟩
theorem AllAt.ext {h' : Hp} {c : Nat} {Bc : List Nat} (x : AllAt h c bs Bc) (g : Ext h h') : AllAt h' c bs Bc := x.keep (g.b []) (by simp)
theorem AllAt.lt {c : Nat} {Bc : List Nat} (x : AllAt h c bs Bc) : ∀ i, i ∈ c :: Bc → i < h.n := by
  obtain ⟨ws, sw, p, q, r, s, t⟩ := x
  intro i hi
  rcases List.mem_cons.1 hi with rfl | hi
  · exact s
  · exact q.lt i hi

/-- All -/
theorem c11 (x : SetR h b bs ws sw Bw) (hn : bs.length ≤ 100000) : C bitsE 11 [ptrV b] h fun v h' => ∃ c Bc, v = .func (.func 42) #[] #[ptrV c] ∧ AllAt h' c bs Bc ∧ (∀ i, i ∈ c :: Bc → h.n ≤ i) ∧ Ext h h' := by
  have ht := x.top
  have hlen := x.wd.len
  have hblt := x.lt
  obtain ⟨a, rfl⟩ := x.row.val
  refine c_enter (fu := Tryd.f11) (by kernel_rfl) rfl ?_
  refine w_seq ?_
  refine w_region (by kernel_rfl) ?_
  refine o_assign gn rfl rfl ?_
  refine wl_end ?_
  refine w_seq ?_
  refine w_region (by kernel_rfl) ?_
  refine o_alloc (zv := .slice none 0 0) gn rfl (by kernel_rfl) ?_
  refine wl_at (fun h1 => h1.get h.n = some (.cells [.slice none 0 0] 67 0) ∧ Ext h h1 ∧ h1.n = h.n + 1) ⟨Hp.get_alloc_self _ _, Ext.alloc _ _, Hp.n_alloc _ _⟩ fun h1 ⟨g1, x1, n1⟩ => ?_
  have ht1 := (x1.get b hblt).trans ht
  have hr1 := x.row.ext x1
  refine wl_end ?_
  refine w_seq ?_
  refine w_seq ?_
  refine w_region (by kernel_rfl) ?_
  refine o_move gn rfl rfl ?_
  refine o_nep gn rfl rfl rfl (by kernel_rfl) ?_
  refine wl_end ?_
  refine w_cond rfl (fun hb => ?_) fun hb => ?_
  · skip
    refine w_region (by kernel_rfl) ?_
    refine o_move gn rfl rfl ?_
    refine o_nilCheck gn rfl rfl ?_
    refine o_fieldAddr (off := 0) gn rfl rfl (by kernel_rfl) ?_
    refine o_load gn rfl rfl (by kernel_rfl) ht1 rfl ?_
    refine o_call [_] gn rfl rfl (by kernel_rfl) rfl (C.mono (c41 (hr1.src (all_us ws)) (by simp; omega)) ?_)
    rintro v2 h2 ⟨Bc, s2, x2, f2⟩
    obtain ⟨a2, rfl⟩ := s2.val
    have g2 := (x2.get h.n (by omega)).trans g1
    refine ⟨ag0, ?_⟩
    refine o_store gn rfl rfl rfl (by kernel_rfl) g2 (by decide) (by simp) ag0 ?_
    refine wl_end ?_
    refine w_seq ?_
    refine w_region (by kernel_rfl) ?_
    refine o_makeFunc1 gn rfl rfl ?_
    refine o_assign gn rfl rfl ?_
    refine wl_end ?_
    refine w_ret ?_
    refine ⟨.inl rfl, _, rfl, ?_⟩
    have hnb : h.n ∉ Bc := fun hm => by have := f2 _ hm; omega
    have x2n := x2.n
    refine ⟨h.n, Bc, rfl, ⟨ws, _, Hp.get_put_self _ _ _, s2.keep (ExtB.put _ _ _) (fun i hi hj => by simp at hj; subst hj; exact hnb hi), x.wd, by rw [Hp.n_put]; omega, hnb⟩, fun i hi => ?_, (x1.trans x2).of (ExtB.put _ _ _) (by simp)⟩
    rcases List.mem_cons.1 hi with rfl | hi
    · omega
    · have := f2 i hi; omega
  · skip
    cases hb

/-- What All yields -/
theorem c42 {h : Hp} {c x : Nat} {bs : List Bool} {Bc : List Nat} (ha : AllAt h c bs Bc) (tb : Tab h) (hn : bs.length ≤ 100000) (P : Nat → Hp → Prop) (R : Hp → Prop) (start : P 0 h)
    (round : ∀ k (hk : k < (onesB bs).length) h1, P k h1 → AllAt h1 c bs Bc → Tab h1 → Y bitsE x [iV (((onesB bs)[k] : Nat) : Int)] h1 fun v h2 => (∃ cs, ExtB cs h1 h2 ∧ ∀ i, i ∈ cs → i ∉ c :: Bc ∧ i ≠ 0) ∧ ((v = .bool true ∧ P (k + 1) h2) ∨ (v = .bool false ∧ R h2))) :
    C bitsE 42 [.func (.yield x) #[] #[], ptrV c] h fun _ h' => P (onesB bs).length h' ∨ R h' := by
  have ha0 := ha
  obtain ⟨ws, sw, hc, hr, hwd, hclt, hcB⟩ := ha
  have hlen := hwd.len
  obtain ⟨a, rfl⟩ := hr.val
  refine c_enter (fu := Tryd.f42) (by kernel_rfl) rfl ?_
  refine w_scope ?_
  refine w_seq ?_
  refine w_label ?_
  refine w_seq ?_
  refine w_region (by kernel_rfl) ?_
  refine o_load gn rfl rfl (by kernel_rfl) (by assumption) rfl ?_
  refine o_len gn rfl rfl (by kernel_rfl) ?_
  refine o_move gn rfl rfl ?_
  refine wl_end ?_
  refine w_block ?_
  refine w_weak [(0, .func (.yield x) #[] #[]), (5, .slice a (usV ws).length (usV ws).length), (6, .int .i64 ((usV ws).length : Nat)), (7, iV (0 : Nat))] (by repeat (first | exact trivial | refine ⟨rfl, ?_⟩)) ?_
  refine w_loop (fun k l hh => ∃ (i : Nat) (done : List Nat), i ≤ ws.length ∧ k = ws.length - i ∧ done ++ restW ws i = onesB bs ∧ P done.length hh ∧ AllAt hh c bs Bc ∧ Sl 69 hh (.slice a (usV ws).length (usV ws).length) (usV ws) Bc ∧ Tab hh ∧ l = [(0, .func (.yield x) #[] #[]), (5, .slice a (usV ws).length (usV ws).length), (6, .int .i64 ((usV ws).length : Nat)), (7, iV (i : Nat))]) (n := ws.length) ?_ fun k l hh hI => ?_
  · exact ⟨0, [], by omega, by omega, restW_zero hwd, start, ha0, hr, tb, rfl⟩
  · obtain ⟨i, done, hi, rfl, hdone, hP, hA, hS, hT, rfl⟩ := hI
    refine w_seq ?_
    refine w_region (by kernel_rfl) ?_
    refine o_lss gn rfl rfl rfl ?_
    refine wl_end ?_
    refine w_seq ?_
    refine w_cond rfl (fun hb => ?_) fun hb => ?_
    · skip
      have hlt : i < ws.length := by simpa using hb
      obtain ⟨bw, m, ea, hg, hm, hbw, hB⟩ := hS.at (by simp; omega)
      simp only [Value.slice.injEq, and_true] at ea
      subst ea
      have hstep := restW_step hlt
      refine w_skip ?_
      refine w_seq ?_
      refine w_block ?_
      refine w_seq ?_
      refine w_region (by kernel_rfl) ?_
      refine o_move gn rfl rfl ?_
      refine o_indexAddr (zz := 1) gn rfl rfl rfl (by kernel_rfl) (by omega) (by simp; omega) ?_
      refine o_load gn rfl rfl (by kernel_rfl) hg (us_at i (by omega) (by omega)) ?_
      refine o_assign gn rfl rfl ?_
      refine o_assign gn rfl rfl ?_
      refine wl_end ?_
      refine w_block ?_
      refine w_weak [(0, .func (.yield x) #[] #[]), (3, iV (i : Nat)), (4, uV (wget ws i)), (5, .slice (some ⟨bw, 0, none⟩) (usV ws).length (usV ws).length), (6, .int .i64 ((usV ws).length : Nat)), (7, iV (i : Nat))] (by repeat (first | exact trivial | refine ⟨rfl, ?_⟩)) ?_
      refine w_loop (fun k l hh => ∃ (w : BitVec 64) (dn : List Nat), k = (onesW w).length ∧ dn ++ ((onesW w).map (64 * i + ·) ++ restW ws (i + 1)) = onesB bs ∧ P dn.length hh ∧ AllAt hh c bs Bc ∧ Sl 69 hh (.slice (some ⟨bw, 0, none⟩) (usV ws).length (usV ws).length) (usV ws) Bc ∧ Tab hh ∧ l = [(0, .func (.yield x) #[] #[]), (3, iV (i : Nat)), (4, uV w), (5, .slice (some ⟨bw, 0, none⟩) (usV ws).length (usV ws).length), (6, .int .i64 ((usV ws).length : Nat)), (7, iV (i : Nat))]) (n := (onesW (wget ws i)).length) ?_ fun k l hh hI => ?_
      · exact ⟨wget ws i, done, rfl, by rw [← hstep]; exact hdone, hP, hA, hS, hT, rfl⟩
      · obtain ⟨w, dn, rfl, hdn, hP, hA, hS, hT, rfl⟩ := hI
        refine w_seq ?_
        refine w_seq ?_
        refine w_region (by kernel_rfl) ?_
        refine o_move gn rfl rfl ?_
        refine o_nei gn rfl rfl rfl ?_
        refine wl_end ?_
        refine w_cond rfl (fun hb => ?_) fun hb => ?_
        · skip
          have hw0 : w ≠ 0#64 := fun e => by rw [e] at hb; simp at hb
          have hlow := ones_low w hw0
          have hctz := (low_bit w hw0).1
          have hk : dn.length < (onesB bs).length := by
            rw [← hdn, hlow]; simp
          have hat : (onesB bs)[dn.length] = 64 * i + Lib.ctz 64 w.toNat := by
            have : (onesB bs)[dn.length]? = some (64 * i + Lib.ctz 64 w.toNat) := by rw [← hdn, hlow]; simp
            rw [List.getElem?_eq_getElem hk] at this
            exact Option.some.inj this
          refine w_skip ?_
          refine w_seq ?_
          refine w_block ?_
          refine w_seq ?_
          refine w_region (by kernel_rfl) ?_
          refine o_move gn rfl rfl ?_
          refine o_move gn rfl rfl ?_
          refine o_mul gn rfl rfl rfl (by omega) (by omega) ?_
          refine o_move gn rfl rfl ?_
          refine o_call [_] gn rfl rfl (by kernel_rfl) rfl (c_pure (c43 hT hw0) ⟨ag0, ?_⟩)
          refine o_add gn rfl rfl rfl (by omega) (by omega) ?_
          have hY := round dn.length hk _ hP hA hT
          rw [hat, show (((64 * i + Lib.ctz 64 w.toNat : Nat)) : Int) = (i : Int) * 64 + ((Lib.ctz 64 w.toNat : Nat) : Int) by omega] at hY
          refine o_yield [_] gn rfl rfl rfl (Y.mono hY ?_)
          rintro v2 h2 ⟨⟨cs, gx, hcs⟩, hv2⟩
          have hA2 := hA.keep gx fun i hi hj => (hcs i hj).1 hi
          have hS2 := hS.keep gx fun i hi hj => (hcs i hj).1 (by simp [hi])
          have hT2 := hT.keep gx fun hj => (hcs 0 hj).2 rfl
          obtain ⟨t, rfl, hv4⟩ : ∃ t, v2 = .bool t ∧ ((t = true ∧ P (dn.length + 1) h2) ∨ (t = false ∧ R h2)) := by
            rcases hv2 with ⟨rfl, hh⟩ | ⟨rfl, hh⟩
            · exact ⟨true, rfl, .inl ⟨rfl, hh⟩⟩
            · exact ⟨false, rfl, .inr ⟨rfl, hh⟩⟩
          refine ⟨ag0, ?_⟩
          refine o_not gn rfl rfl ?_
          refine wl_end ?_
          refine w_cond rfl (fun hb => ?_) fun hb => ?_
          · skip
            refine w_exit ?_
            refine blk_ne (by decide) ?_
            refine thn_exit ?_
            refine rnd_exit ?_
            refine blk_ne (by decide) ?_
            refine blk_ne (by decide) ?_
            refine thn_exit ?_
            refine rnd_exit ?_
            refine blk_eq ?_
            refine ⟨.inr rfl, _, rfl, ?_⟩
            rcases hv4 with ⟨rfl, _⟩ | ⟨_, hv4⟩
            · cases hb
            · exact .inr hv4
          · skip
            rcases hv4 with ⟨_, hv3⟩ | ⟨rfl, _⟩
            case inr => cases hb
            refine w_skip ?_
            refine w_region (by kernel_rfl) ?_
            refine o_move gn rfl rfl ?_
            refine o_move gn rfl rfl ?_
            refine o_subU (_) (1#64) gn rfl rfl rfl ?_
            refine o_andU (_) (_) gn rfl rfl rfl ?_
            refine o_assign gn rfl rfl ?_
            refine wl_end ?_
            exact ⟨(onesW (w &&& (w - 1#64))).length, by rw [hlow]; simp, _, (by repeat (first | exact trivial | refine ⟨rfl, ?_⟩)), w &&& (w - 1#64), dn ++ [64 * i + Lib.ctz 64 w.toNat], rfl, by rw [← hdn, hlow]; simp, by rw [List.length_append]; exact hv3, hA2, hS2, hT2, rfl⟩
        · skip
          refine w_exit ?_
          refine thn_exit ?_
          refine rnd_exit ?_
          refine blk_eq ?_
          refine w_region (by kernel_rfl) ?_
          refine o_add gn rfl rfl rfl (by omega) (by omega) ?_
          refine o_move gn rfl rfl ?_
          refine wl_end ?_
          have hw0 : w = 0#64 := BitVec.eq_of_toNat_eq (by simpa using hb)
          subst hw0
          exact ⟨ws.length - (i + 1), by omega, [(0, .func (.yield x) #[] #[]), (5, .slice (some ⟨bw, 0, none⟩) (usV ws).length (usV ws).length), (6, .int .i64 ((usV ws).length : Nat)), (7, iV ((i + 1 : Nat) : Int))], (by repeat (first | exact trivial | refine ⟨rfl, ?_⟩)), i + 1, dn, by omega, rfl, by rw [← hdn, ones_zero]; simp, hP, hA, hS, hT, rfl⟩
    · skip
      refine w_exit ?_
      refine thn_exit ?_
      refine rnd_exit ?_
      refine blk_eq ?_
      refine ⟨.inr rfl, _, rfl, ?_⟩
      have hge : ws.length ≤ i := by simpa using hb
      rw [restW_end hge, List.append_nil] at hdone
      exact .inl (hdone ▸ hP)

end

end Go.Proofs.YtgcapnlfkomgpaaDoor


namespace Go.Proofs.YtgcapnlfkomgpaaDoor
open Go.X

def SameB (a b : List Bool) : Prop := ∀ k, bget a k = bget b k

theorem cnt_same (f g : Nat → Bool) : ∀ n, (∀ k, k < n → f k = true → g k = true) → ((List.range n).filter f).length = ((List.range n).filter g).length → ∀ k, k < n → f k = g k
  | 0, _, _, k, hk => by omega
  | n + 1, h, e, k, hk => by
    rw [List.range_succ, List.filter_append, List.filter_append, List.length_append, List.length_append] at e
    have hle : ((List.range n).filter f).length ≤ ((List.range n).filter g).length := by
      clear e hk k
      have : ∀ m, m ≤ n → ((List.range m).filter f).length ≤ ((List.range m).filter g).length := by
        intro m
        induction m with
        | zero => intro _; simp
        | succ m ih =>
          intro hm
          rw [List.range_succ, List.filter_append, List.filter_append, List.length_append, List.length_append]
          have := ih (by omega)
          have hm' := h m (by omega)
          cases hf : f m <;> cases hg : g m <;> simp [hf, hg] at hm' ⊢ <;> omega
      exact this n (Nat.le_refl _)
    have hn := h n (by omega)
    have e1 : ((List.range n).filter f).length = ((List.range n).filter g).length ∧ f n = g n := by
      cases hf : f n <;> cases hg : g n <;> simp [hf, hg] at hn e ⊢ <;> omega
    by_cases hkn : k = n
    · subst hkn; exact e1.2
    · exact cnt_same f g n (fun j hj => h j (by omega)) e1.1 k (by omega)

theorem onesB_wide (bs : List Bool) (n : Nat) (hn : bs.length ≤ n) : onesB bs = (List.range n).filter (bget bs) := by
  obtain ⟨d, rfl⟩ := Nat.le.dest hn
  rw [List.range_add, List.filter_append]
  have e2 : ((List.range d).map (bs.length + ·)).filter (bget bs) = [] := by
    rw [List.filter_eq_nil_iff]
    intro k hk
    obtain ⟨j, _, rfl⟩ := List.mem_map.1 hk
    rw [bget_ge (by omega)]; simp
  rw [e2, List.append_nil]; rfl

theorem same_of {a b : List Bool} (hl : (onesB a).length = (onesB b).length) (hs : ∀ k, k ∈ onesB a → bget b k = true) : SameB a b := by
  intro k
  rw [onesB_wide a (max a.length b.length) (by omega), onesB_wide b (max a.length b.length) (by omega)] at hl
  by_cases hk : k < max a.length b.length
  · exact cnt_same _ _ _ (fun j _ hj => hs j (onesB_mem.2 hj)) hl k hk
  · rw [bget_ge (by omega), bget_ge (by omega)]
theorem SameB.ones {a b : List Bool} (h : SameB a b) : onesB a = onesB b := by
  rw [onesB_wide a (max a.length b.length) (by omega), onesB_wide b (max a.length b.length) (by omega)]
  exact List.filter_congr fun k _ => h k

theorem hasB_nat (bs : List Bool) (k : Nat) : hasB bs ((k : Nat) : Int) = bget bs k := by simp [hasB]

/-- Same -/
theorem c12 {h : Hp} {b bo : Nat} {bs obs : List Bool} {own oo : List Nat} (x : SAt h b bs own) (o : SAt h bo obs oo) (tb : Tab h) (hn : bs.length ≤ 100000) (hno : obs.length ≤ 100000) :
    C bitsE 12 [ptrV b, ptrV bo] h fun v h' => Ext h h' ∧ ∃ t, v = .bool t ∧ (t = true ↔ SameB bs obs) := by
  obtain ⟨ws, sw, Bw, x, rfl⟩ := x
  obtain ⟨os, so, Bo, o, rfl⟩ := o
  refine c_enterR (fu := Tryd.f12) (by kernel_rfl) rfl ?_
  refine w_seq ?_
  refine w_region (by kernel_rfl) ?_
  refine o_box gn rfl rfl ?_
  refine o_alloc (zv := .bool false) gn rfl (by kernel_rfl) ?_
  rw [Hp.n_alloc]
  refine wl_at (fun h1 => h1.get h.n = some (.cells [ptrV bo] 23 0) ∧ h1.get (h.n + 1) = some (.cells [.bool false] 4 0) ∧ Ext h h1 ∧ h1.n = h.n + 2) ⟨?_, ?_, (Ext.alloc _ _).trans (Ext.alloc _ _), by simp only [Hp.n_alloc]⟩ fun h1 ⟨g1, g2, x1, n1⟩ => ?_
  · rw [Hp.get_alloc, if_neg (by rw [Hp.n_alloc]; omega)]; exact Hp.get_alloc_self _ _
  · rw [Hp.get_alloc, if_pos (Hp.n_alloc _ _)]; rfl
  have xs1 := x.keep (x1.b []) (by simp)
  have os1 := o.keep (x1.b []) (by simp)
  have tb1 := tb.ext x1
  refine wl_end ?_
  refine w_seq ?_
  refine w_seq ?_
  refine w_draw [(0, []), (2, []), (1, [2]), (3, []), (4, [])] (by kernel_rfl) (by kernel_rfl) (by kernel_rfl) (by kernel_rfl) ?_
  refine o_move gn rfl rfl ?_
  refine o_load gn rfl rfl (by kernel_rfl) (by assumption) rfl ?_
  refine o_call [_] gn rfl rfl (by kernel_rfl) rfl (c_pure (c44 xs1 hn) ⟨(ag1 (ag_load gn rfl (by kernel_rfl) (by assumption) rfl rfl same_ptr) ag0), ?_⟩)
  refine o_call [_] gn rfl rfl (by kernel_rfl) rfl (c_pure (c44 os1 hno) ⟨ag0, ?_⟩)
  refine o_nei gn rfl rfl rfl ?_
  refine wl_end ?_
  refine w_cond rfl (fun hb => ?_) fun hb => ?_
  · skip
    refine w_seq ?_
    refine w_region (by kernel_rfl) ?_
    refine o_store gn rfl rfl rfl (by kernel_rfl) g2 (by decide) (by decide) ag0 ?_
    refine wl_end ?_
    refine w_ret ?_
    refine ⟨.inl rfl, _, (resH_cell rfl (by kernel_rfl) (Hp.get_put_self _ _ _) rfl rfl), fun h2 hco => ?_⟩
    have hne : (onesB bs).length ≠ (onesB obs).length := by simp at hb; omega
    exact ⟨hco.ext (x1.of (ExtB.put _ _ _) (by simp)), false, rfl, by simp; exact fun e => hne (by rw [e.ones])⟩
  · skip
    have hl : (onesB bs).length = (onesB obs).length := by simp at hb; omega
    refine w_skip ?_
    refine w_seq ?_
    refine w_seq ?_
    refine w_region (by kernel_rfl) ?_
    refine o_move gn rfl rfl ?_
    refine o_call [_] gn rfl rfl (by kernel_rfl) rfl (C.mono (c11 xs1 hn) ?_)
    rintro v2 h2 ⟨c, Bc, rfl, ha2, fa2, x2⟩
    have x2n := x2.n
    have hal := ha2.lt
    refine ⟨ag0, ?_⟩
    refine wl_end ?_
    refine w_block ?_
    refine w_weak [(3, ptrV h.n), (4, ptrV (h.n + 1)), (12, .func (.func 42) #[] #[ptrV c])] (by repeat (first | exact trivial | refine ⟨rfl, ?_⟩)) ?_
    refine w_rangeA rfl rfl (by kernel_rfl) (by kernel_rfl) (by kernel_rfl) (by kernel_rfl) fun rc hR h0 hx0 hn0 hrc => ?_
    have k1 := ((x2.trans hx0).get h.n (by omega)).trans g1
    have k2 := ((x2.trans hx0).get (h.n + 1) (by omega)).trans g2
    have x10 := x1.trans (x2.trans hx0)
    have hcn : ∀ i, i ∈ [h.n + 1, h2.n + 1] → i ∉ c :: Bc ∧ i ≠ 0 := fun i hi => by
      simp at hi
      refine ⟨fun hj => ?_, by omega⟩
      have h3 := fa2 i hj
      have h4 := hal i hj
      omega
    have hround : ∀ k (hk : k < (onesB bs).length) (m1 : Hp), (m1.get (h2.n + 1) = some (rc .ready none) ∧ m1.get (h.n + 1) = some (.cells [.bool false] 4 0) ∧ ExtB [h.n + 1, h2.n + 1] h0 m1 ∧ ∀ j (hj : j < (onesB bs).length), j < k → bget obs (onesB bs)[j] = true) → AllAt m1 c bs Bc → Tab m1 → Y bitsE (h2.n + 1) [iV (((onesB bs)[k] : Nat) : Int)] m1 fun v m2 => (∃ cs, ExtB cs m1 m2 ∧ ∀ i, i ∈ cs → i ∉ c :: Bc ∧ i ≠ 0) ∧
      ((v = .bool true ∧ (m2.get (h2.n + 1) = some (rc .ready none) ∧ m2.get (h.n + 1) = some (.cells [.bool false] 4 0) ∧ ExtB [h.n + 1, h2.n + 1] h0 m2 ∧ ∀ j (hj : j < (onesB bs).length), j < k + 1 → bget obs (onesB bs)[j] = true)) ∨ (v = .bool false ∧ (m2.get (h2.n + 1) = some (rc .done (some .ret)) ∧ m2.get (h.n + 1) = some (.cells [.bool false] 4 0) ∧ ExtB [h.n + 1, h2.n + 1] h0 m2 ∧ ¬ SameB bs obs))) := fun k hk m1 ⟨p1, p2, p3, p4⟩ hA hT => by
        refine hR.round p1 rfl ?_
        refine w_region (by kernel_rfl) ?_
        refine o_assign gn rfl rfl ?_
        refine wl_end ?_
        refine ⟨_, p1, ?_⟩
        refine w_at (fun m3 => m3.get (h2.n + 1) = some (rc .busy none) ∧ m3.get (h.n + 1) = some (.cells [.bool false] 4 0) ∧ ExtB [h2.n + 1] m1 m3 ∧ m3.n = m1.n) ⟨Hp.get_put_self _ _ _, by rw [Hp.get_put, if_neg (by omega)]; exact p2, ExtB.put _ _ _, Hp.n_put _ _ _⟩ fun m3 ⟨q1, q2, q3, q4⟩ => ?_
        have p3n := p3.n
        have h3 := p3.trans (q3.mono (by simp))
        have q5 := (h3.get h.n (by omega) (by simp; omega)).trans k1
        have xo := (x10.b [h.n + 1, h2.n + 1]).trans h3
        have o3 := o.keep xo fun i hi hj => by have := o.own_lt i hi; simp at hj; omega
        refine w_block ?_
        refine w_seq ?_
        refine w_region (by kernel_rfl) ?_
        refine o_load gn rfl rfl (by kernel_rfl) q5 rfl ?_
        refine o_move gn rfl rfl ?_
        refine o_call [_, _] gn rfl rfl (by kernel_rfl) rfl (c_pure (c45 o3 hno) ⟨ag0, ?_⟩)
        refine o_not gn rfl rfl ?_
        refine wl_end ?_
        refine w_cond rfl (fun hb => ?_) fun hb => ?_
        · skip
          refine w_seq ?_
          refine w_region (by kernel_rfl) ?_
          refine o_store gn rfl rfl rfl (by kernel_rfl) q2 (by decide) (by decide) ag0 ?_
          refine wl_end ?_
          refine w_ret ?_
          exact ⟨_, _, (by rw [Hp.get_put, if_neg (by omega)]; exact q1), ⟨⟨[h.n + 1, h2.n + 1], (q3.mono (by simp)).trans (((ExtB.put _ _ _).mono (by simp)).trans ((ExtB.put _ _ _).mono (by simp))), hcn⟩, .inr ⟨rfl, Hp.get_put_self _ _ _, by rw [Hp.get_put, if_neg (by omega)]; exact Hp.get_put_self _ _ _, h3.trans (((ExtB.put _ _ _).mono (by simp)).trans ((ExtB.put _ _ _).mono (by simp))), fun hs => by
            rw [hasB_nat, ← hs, onesB_mem.1 (List.getElem_mem hk)] at hb
            cases hb⟩⟩⟩
        · skip
          refine w_skip ?_
          exact ⟨_, _, q1, ⟨⟨[h.n + 1, h2.n + 1], (q3.mono (by simp)).trans ((ExtB.put _ _ _).mono (by simp)), hcn⟩, .inl ⟨rfl, Hp.get_put_self _ _ _, by rw [Hp.get_put, if_neg (by omega)]; exact q2, h3.trans ((ExtB.put _ _ _).mono (by simp)), fun j hj hjk => by
            by_cases e : j = k
            · subst e; rw [hasB_nat] at hb; simpa using hb
            · exact p4 j hj (by omega)⟩⟩⟩
    refine C.mono (c42 (ha2.ext hx0) ((tb1.ext x2).ext hx0) hn (fun k m1 => m1.get (h2.n + 1) = some (rc .ready none) ∧ m1.get (h.n + 1) = some (.cells [.bool false] 4 0) ∧ ExtB [h.n + 1, h2.n + 1] h0 m1 ∧ ∀ j (hj : j < (onesB bs).length), j < k → bget obs (onesB bs)[j] = true) (fun m2 => m2.get (h2.n + 1) = some (rc .done (some .ret)) ∧ m2.get (h.n + 1) = some (.cells [.bool false] 4 0) ∧ ExtB [h.n + 1, h2.n + 1] h0 m2 ∧ ¬ SameB bs obs) ⟨hrc, k2, .refl _ _, fun j hj hjk => by omega⟩ hround) ?_
    rintro v h' (⟨p1, p2, p3, p4⟩ | ⟨p1, p2, p3, p4⟩)
    case inr =>
      refine ⟨_, _, p1, by simp, fun m9 hx2 hn2 => ?_⟩
      have p3n := p3.n
      refine ⟨.inl rfl, _, (resH_cell rfl (by kernel_rfl) ((hx2.get _ (by omega) (by simp; omega)).trans p2) rfl rfl), fun m10 hco => ?_⟩
      exact ⟨hco.ext ((x10.of p3 (by simp; omega)).of hx2 (by simp; omega)), false, rfl, by simp [p4]⟩
    refine ⟨_, _, p1, (by simp), fun m9 hx2 hn2 => ?_⟩
    refine aft_blk (.inl rfl) ?_
    have p3n := p3.n
    have p5 := (hx2.get _ (by omega) (by simp; omega)).trans p2
    refine w_seq ?_
    refine w_region (by kernel_rfl) ?_
    refine o_store gn rfl rfl rfl (by kernel_rfl) p5 (by decide) (by decide) ag0 ?_
    refine wl_end ?_
    refine w_ret ?_
    refine ⟨.inl rfl, _, (resH_cell rfl (by kernel_rfl) (Hp.get_put_self _ _ _) rfl rfl), fun h2 hco => ?_⟩
    exact ⟨hco.ext (((x10.of p3 (by simp; omega)).of hx2 (by simp; omega)).of (ExtB.put _ _ _) (by simp)), true, rfl, by
      simp only [true_iff]
      exact same_of hl fun k hk => by
        obtain ⟨j, hj, rfl⟩ := List.mem_iff_getElem.1 hk
        exact p4 j hj hj⟩

end Go.Proofs.YtgcapnlfkomgpaaDoor


namespace Go.Proofs.YtgcapnlfkomgpaaDoor
open Go.X

/-- A set of the document's. -/
abbrev RefS (h : Hp) (s : Value) (bs : List Bool) (B : List Nat) : Prop := Sl 4 h s (bsV bs) B

theorem rep_b : ∀ m : Nat, repeatCells [Value.bool false] m = bsV (List.replicate m false)
  | 0 => rfl
  | m + 1 => by rw [List.replicate_succ]; show _ :: repeatCells _ m = _ :: _; rw [rep_b m]

/-- New -/
theorem c37 {h : Hp} {n : Int} (hn : n ≤ 100000) : C bitsE 37 [iV n] h fun v h' => ∃ B, RefS h' v (List.replicate n.toNat false) B ∧ (∀ i, i ∈ B → h.n ≤ i) ∧ Ext h h' := by
  have hmax : max n 0 = ((n.toNat : Nat) : Int) := by omega
  refine c_enter (fu := Tryd.f37) (by kernel_rfl) rfl ?_
  refine w_seq ?_
  refine w_region (by kernel_rfl) ?_
  refine o_assign gn rfl rfl ?_
  refine wl_end ?_
  refine w_seq ?_
  refine w_region (by kernel_rfl) ?_
  refine o_move gn rfl rfl ?_
  refine o_max gn rfl rfl rfl ?_
  rw [hmax]
  refine o_makeSlice (e := 4) (z := 0) (zv := .bool false) (by' := 1) gn rfl rfl rfl (by kernel_rfl) (by kernel_rfl) (by kernel_rfl) (by kernel_rfl) (by decide) (by omega) (by omega) (by omega) (by omega) ?_
  refine o_assign gn rfl rfl ?_
  refine wl_end ?_
  refine w_ret ?_
  refine ⟨.inl rfl, _, rfl, ?_⟩
  exact ⟨[h.n], .inr ⟨h.n, 0, by simp [oneOf]; omega, by rw [Hp.get_alloc, if_pos rfl]; exact congrArg (fun c => some (AObj.cells c 4 0)) (rep_b _), .inl rfl, by rw [Hp.n_alloc]; omega, rfl⟩, by simp, Ext.alloc _ _⟩

section
variable {h : Hp} {bs : List Bool} {s : Value} {B : List Nat}

theorem inB_block {i : Int} (x : RefS h s bs B) (hi : inB bs i = true) : ∃ b m, s = .slice (some ⟨b, 0, none⟩) (bsV bs).length (bsV bs).length ∧ h.get b = some (.cells (bsV bs) 4 m) ∧ (m = 0 ∨ m = 3) ∧ b < h.n ∧ B = [b] :=
  x.at (by have := (inB_iff.1 hi).2; simp; omega)

/-- Has -/
theorem c47 {i : Int} (x : RefS h s bs B) : CP bitsE 47 [s, iV i] h (.bool (hasB bs i)) := by
  obtain ⟨a, rfl⟩ := x.val
  refine c_enter (fu := Tryd.f47) (by kernel_rfl) rfl ?_
  refine w_seq ?_
  refine w_region (by kernel_rfl) ?_
  refine o_assign gn rfl rfl ?_
  refine wl_end ?_
  refine w_seq ?_
  refine w_region (by kernel_rfl) ?_
  refine o_move gn rfl rfl ?_
  refine o_geq gn rfl rfl rfl ?_
  refine o_move gn rfl rfl ?_
  refine o_and (n := 4) rfl rfl rfl gn rfl (fun hb => by
      refine o_move (gy rfl rfl rfl hb) rfl rfl ?_
      refine o_move (gy rfl rfl rfl hb) rfl rfl ?_
      refine o_len (gy rfl rfl rfl hb) rfl rfl (by kernel_rfl) ?_
      refine o_lss (gy rfl rfl rfl hb) rfl rfl rfl ?_
      exact wl_end ⟨rfl, rfl, 4, rfl, rfl⟩) ?_
  refine o_move gn rfl rfl ?_
  refine o_and (n := 4) rfl rfl rfl gn rfl (fun hb => by
      refine o_move (gy rfl rfl rfl hb) rfl rfl ?_
      refine o_move (gy rfl rfl rfl hb) rfl rfl ?_
      have hin : inB bs i = true := by simpa [inB] using hb
      obtain ⟨h0, hlt⟩ := inB_iff.1 hin
      obtain ⟨bb, m, ea, hg, _, _, _⟩ := inB_block x hin
      simp only [Value.slice.injEq, and_true] at ea
      subst ea
      refine o_indexAddr (zz := 1) (gy rfl rfl rfl hb) rfl rfl rfl (by kernel_rfl) (by omega) (by simp; omega) ?_
      refine o_load (gy rfl rfl rfl hb) rfl rfl (by kernel_rfl) hg (bs_at i.toNat hlt (by omega)) ?_
      exact wl_end ⟨rfl, rfl, 4, rfl, rfl⟩) ?_
  refine o_assign gn rfl rfl ?_
  refine wl_end ?_
  refine w_ret ?_
  refine ⟨.inl rfl, _, rfl, ?_⟩
  refine ⟨?_, rfl⟩
  rw [hasB_in]
  simp [oneOf, inB]

/-- Add -/
theorem c14 {i : Int} (x : RefS h s bs B) : C bitsE 14 [s, iV i] h fun v h' => v = .bool (addB bs i) ∧ RefS h' s (addO bs i) B ∧ ExtB B h h' := by
  have x0 := x
  obtain ⟨a, rfl⟩ := x.val
  refine c_enter (fu := Tryd.f14) (by kernel_rfl) rfl ?_
  refine w_seq ?_
  refine w_region (by kernel_rfl) ?_
  refine o_assign gn rfl rfl ?_
  refine wl_end ?_
  refine w_seq ?_
  refine w_seq ?_
  refine w_region (by kernel_rfl) ?_
  refine o_move gn rfl rfl ?_
  refine o_lss gn rfl rfl rfl ?_
  refine o_move gn rfl rfl ?_
  refine o_or (n := 4) rfl rfl rfl gn rfl (fun hb => by
      refine o_move (gy rfl rfl rfl hb) rfl rfl ?_
      refine o_move (gy rfl rfl rfl hb) rfl rfl ?_
      refine o_len (gy rfl rfl rfl hb) rfl rfl (by kernel_rfl) ?_
      refine o_geq (gy rfl rfl rfl hb) rfl rfl rfl ?_
      exact wl_end ⟨rfl, rfl, 4, rfl, rfl⟩) ?_
  refine o_move gn rfl rfl ?_
  refine o_or (n := 4) rfl rfl rfl gn rfl (fun hb => by
      refine o_move (gy rfl rfl rfl hb) rfl rfl ?_
      refine o_move (gy rfl rfl rfl hb) rfl rfl ?_
      have hin : inB bs i = true := by simp at hb; simp [inB]; omega
      obtain ⟨h0, hlt⟩ := inB_iff.1 hin
      obtain ⟨bb, m, ea, hg, _, _, _⟩ := inB_block x hin
      simp only [Value.slice.injEq, and_true] at ea
      subst ea
      refine o_indexAddr (zz := 1) (gy rfl rfl rfl hb) rfl rfl rfl (by kernel_rfl) (by omega) (by simp; omega) ?_
      refine o_load (gy rfl rfl rfl hb) rfl rfl (by kernel_rfl) hg (bs_at i.toNat hlt (by omega)) ?_
      exact wl_end ⟨rfl, rfl, 4, rfl, rfl⟩) ?_
  refine wl_end ?_
  refine w_cond rfl (fun hb => ?_) fun hb => ?_
  · skip
    refine w_seq ?_
    refine w_region (by kernel_rfl) ?_
    refine o_assign gn rfl rfl ?_
    refine wl_end ?_
    refine w_ret ?_
    refine ⟨.inl rfl, _, rfl, ?_⟩
    have hno : addB bs i = false ∧ addO bs i = bs := by
      unfold addB addO
      cases hi : inB bs i with
      | false => exact ⟨rfl, rfl⟩
      | true =>
        obtain ⟨h0, hlt⟩ := inB_iff.1 hi
        have hb' : bget bs i.toNat = true := by
          rcases (show (i < 0 ∨ (bs.length : Int) ≤ i) ∨ bget bs i.toNat = true by simpa using hb) with (h1 | h1) | h1
          · omega
          · omega
          · exact h1
        exact ⟨by rw [hb']; rfl, set_self hlt hb'⟩
    exact ⟨by rw [hno.1]; rfl, by rw [hno.2]; exact x0, .refl _ _⟩
  · skip
    have hb' : inB bs i = true ∧ bget bs i.toNat = false := by
      have h1 : (0 ≤ i ∧ i < (bs.length : Int)) ∧ bget bs i.toNat = false := by simpa using hb
      exact ⟨by simp [inB, h1.1.1, h1.1.2], h1.2⟩
    obtain ⟨h0, hlt⟩ := inB_iff.1 hb'.1
    obtain ⟨bb, m, ea, hg, hm, hbl, rfl⟩ := inB_block x hb'.1
    simp only [Value.slice.injEq, and_true] at ea
    subst ea
    refine w_skip ?_
    refine w_seq ?_
    refine w_region (by kernel_rfl) ?_
    refine o_move gn rfl rfl ?_
    refine o_move gn rfl rfl ?_
    refine o_indexAddr (zz := 1) gn rfl rfl rfl (by kernel_rfl) (by omega) (by simp; omega) ?_
    refine o_store gn rfl rfl rfl (by kernel_rfl) hg (by omega) (by simp; omega) ag0 ?_
    refine wl_end ?_
    refine w_seq ?_
    refine w_region (by kernel_rfl) ?_
    refine o_assign gn rfl rfl ?_
    refine wl_end ?_
    refine w_ret ?_
    refine ⟨.inl rfl, _, rfl, ?_⟩
    rw [show (bsV bs).set (0 + i.toNat * 1) (.bool true) = bsV (bs.set i.toNat true) by simp [List.map_set]]
    exact ⟨by rw [addB, hb'.1, hb'.2]; rfl, by rw [addO, if_pos hb'.1]; exact Sl.put (by simp) hm hbl, ExtB.put _ _ _⟩

/-- Drop -/
theorem c16 {i : Int} (x : RefS h s bs B) : C bitsE 16 [s, iV i] h fun v h' => v = .bool (hasB bs i) ∧ RefS h' s (dropO bs i) B ∧ ExtB B h h' := by
  have x0 := x
  obtain ⟨a, rfl⟩ := x.val
  refine c_enter (fu := Tryd.f16) (by kernel_rfl) rfl ?_
  refine w_seq ?_
  refine w_region (by kernel_rfl) ?_
  refine o_assign gn rfl rfl ?_
  refine wl_end ?_
  refine w_seq ?_
  refine w_seq ?_
  refine w_region (by kernel_rfl) ?_
  refine o_move gn rfl rfl ?_
  refine o_move gn rfl rfl ?_
  refine o_call [_, _] gn rfl rfl (by kernel_rfl) rfl (c_pure (c47 x) ⟨ag0, ?_⟩)
  refine o_not gn rfl rfl ?_
  refine wl_end ?_
  refine w_cond rfl (fun hb => ?_) fun hb => ?_
  · skip
    refine w_seq ?_
    refine w_region (by kernel_rfl) ?_
    refine o_assign gn rfl rfl ?_
    refine wl_end ?_
    refine w_ret ?_
    refine ⟨.inl rfl, _, rfl, ?_⟩
    have hb' : hasB bs i = false := by simpa using hb
    exact ⟨by rw [hb']; rfl, by rw [dropO, if_neg (by simp [hb'])]; exact x0, .refl _ _⟩
  · skip
    have hb' : hasB bs i = true := by simpa using hb
    have hb2 := hb'
    rw [hasB_in, Bool.and_eq_true] at hb2
    obtain ⟨h0, hlt⟩ := inB_iff.1 hb2.1
    obtain ⟨bb, m, ea, hg, hm, hbl, rfl⟩ := inB_block x hb2.1
    simp only [Value.slice.injEq, and_true] at ea
    subst ea
    refine w_skip ?_
    refine w_seq ?_
    refine w_region (by kernel_rfl) ?_
    refine o_move gn rfl rfl ?_
    refine o_move gn rfl rfl ?_
    refine o_indexAddr (zz := 1) gn rfl rfl rfl (by kernel_rfl) (by omega) (by simp; omega) ?_
    refine o_store gn rfl rfl rfl (by kernel_rfl) hg (by omega) (by simp; omega) ag0 ?_
    refine wl_end ?_
    refine w_seq ?_
    refine w_region (by kernel_rfl) ?_
    refine o_assign gn rfl rfl ?_
    refine wl_end ?_
    refine w_ret ?_
    refine ⟨.inl rfl, _, rfl, ?_⟩
    rw [show (bsV bs).set (0 + i.toNat * 1) (.bool false) = bsV (bs.set i.toNat false) by simp [List.map_set]]
    exact ⟨by rw [hb']; rfl, by rw [dropO, if_pos hb']; exact Sl.put (by simp) hm hbl, ExtB.put _ _ _⟩

theorem el4 : El bitsE 25 4 0 := ⟨by kernel_rfl, by kernel_rfl, by kernel_rfl, .bool false, by kernel_rfl, rfl⟩
theorem el3 : El bitsE 22 3 7 := ⟨by kernel_rfl, by kernel_rfl, by kernel_rfl, .int .i64 0, by kernel_rfl, rfl⟩

/-- Copy -/
theorem c10 (x : RefS h s bs B) (hn : bs.length ≤ 100000) : C bitsE 10 [s] h fun v h' => ∃ B', RefS h' v bs B' ∧ (∀ i, i ∈ B' → h.n ≤ i) ∧ Ext h h' := by
  obtain ⟨a, rfl⟩ := x.val
  obtain ⟨v', h', bs', h1, h2, h3, h4⟩ := append_nil (E := bitsE) el4 (x.src (all_bool bs)) (by simp; omega)
  refine c_enter (fu := Tryd.f10) (by kernel_rfl) rfl ?_
  refine w_seq ?_
  refine w_region (by kernel_rfl) ?_
  refine o_assign gn rfl rfl ?_
  refine wl_end ?_
  refine w_seq ?_
  refine w_region (by kernel_rfl) ?_
  refine o_move gn rfl rfl ?_
  refine o_append gn rfl rfl rfl h1 ag0 ?_
  refine o_assign gn rfl rfl ?_
  refine wl_end ?_
  refine w_ret ?_
  refine ⟨.inl rfl, _, rfl, ?_⟩
  exact ⟨bs', h2, h4, h3⟩

/-- Meets -/
theorem c35 {obs : List Bool} {so : Value} {Bo : List Nat} (x : RefS h s bs B) (o : RefS h so obs Bo) (hn : bs.length ≤ 100000) : C bitsE 35 [s, so] h fun v h' => h' = h ∧ ∃ t, v = .bool t ∧ (t = true ↔ ∃ k, bget bs k = true ∧ bget obs k = true) := by
  obtain ⟨a, rfl⟩ := x.val
  obtain ⟨b, rfl⟩ := o.val
  refine c_enter (fu := Tryd.f35) (by kernel_rfl) rfl ?_
  refine w_seq ?_
  refine w_region (by kernel_rfl) ?_
  refine o_assign gn rfl rfl ?_
  refine wl_end ?_
  refine w_seq ?_
  refine w_seq ?_
  refine w_region (by kernel_rfl) ?_
  refine o_assign gn rfl rfl ?_
  refine wl_end ?_
  refine w_block ?_
  refine w_weak [(0, .slice a (bsV bs).length (bsV bs).length), (1, .slice b (bsV obs).length (bsV obs).length), (5, iV (0 : Nat))] (by repeat (first | exact trivial | refine ⟨rfl, ?_⟩)) ?_
  refine w_loop (fun k l hh => ∃ (i : Nat), i ≤ bs.length ∧ k = bs.length - i ∧ (∀ j, j < i → ¬ (bget bs j = true ∧ bget obs j = true)) ∧ l = [(0, .slice a (bsV bs).length (bsV bs).length), (1, .slice b (bsV obs).length (bsV obs).length), (5, iV (i : Nat))] ∧ hh = h) (n := bs.length) ?_ fun k l hh hI => ?_
  · exact ⟨0, by omega, by omega, fun j hj => by omega, rfl, rfl⟩
  · obtain ⟨i, hi, rfl, hlo, rfl, e0⟩ := hI
    refine w_seq ?_
    refine w_seq ?_
    refine w_region (by kernel_rfl) ?_
    refine o_move gn rfl rfl ?_
    refine o_move gn rfl rfl ?_
    refine o_len gn rfl rfl (by kernel_rfl) ?_
    refine o_lss gn rfl rfl rfl ?_
    refine o_move gn rfl rfl ?_
    refine o_and (n := 4) rfl rfl rfl gn rfl (fun hb => by
        refine o_move (gy rfl rfl rfl hb) rfl rfl ?_
        refine o_move (gy rfl rfl rfl hb) rfl rfl ?_
        refine o_len (gy rfl rfl rfl hb) rfl rfl (by kernel_rfl) ?_
        refine o_lss (gy rfl rfl rfl hb) rfl rfl rfl ?_
        exact wl_end ⟨rfl, rfl, 4, rfl, rfl⟩) ?_
    refine wl_end ?_
    refine w_cond rfl (fun hb => ?_) fun hb => ?_
    · skip
      obtain rfl := e0
      have hlt : i < bs.length ∧ i < obs.length := by simpa using hb
      obtain ⟨b1, m1, ea1, hg1, _, _, _⟩ := x.at (by simp; omega)
      simp only [Value.slice.injEq, and_true] at ea1
      subst ea1
      obtain ⟨b2, m2, ea2, hg2, _, _, _⟩ := o.at (by simp; omega)
      simp only [Value.slice.injEq, and_true] at ea2
      subst ea2
      refine w_skip ?_
      refine w_seq ?_
      refine w_block ?_
      refine w_seq ?_
      refine w_region (by kernel_rfl) ?_
      refine o_move gn rfl rfl ?_
      refine o_move gn rfl rfl ?_
      refine o_indexAddr (zz := 1) gn rfl rfl rfl (by kernel_rfl) (by omega) (by simp; omega) ?_
      refine o_load gn rfl rfl (by kernel_rfl) hg1 (bs_at i (by omega) (by omega)) ?_
      refine o_move gn rfl rfl ?_
      refine o_and (n := 4) rfl rfl rfl gn rfl (fun hb => by
          refine o_move (gy rfl rfl rfl hb) rfl rfl ?_
          refine o_move (gy rfl rfl rfl hb) rfl rfl ?_
          refine o_indexAddr (zz := 1) (gy rfl rfl rfl hb) rfl rfl rfl (by kernel_rfl) (by omega) (by simp; omega) ?_
          refine o_load (gy rfl rfl rfl hb) rfl rfl (by kernel_rfl) hg2 (bs_at i (by omega) (by omega)) ?_
          exact wl_end ⟨rfl, rfl, 4, rfl, rfl⟩) ?_
      refine wl_end ?_
      refine w_cond rfl (fun hb => ?_) fun hb => ?_
      · skip
        refine w_seq ?_
        refine w_region (by kernel_rfl) ?_
        refine o_assign gn rfl rfl ?_
        refine wl_end ?_
        refine w_ret ?_
        refine ⟨.inl rfl, _, rfl, ?_⟩
        exact ⟨rfl, true, rfl, by simp; exact ⟨i, by simpa using hb⟩⟩
      · skip
        refine w_skip ?_
        refine w_region (by kernel_rfl) ?_
        refine o_move gn rfl rfl ?_
        refine o_add gn rfl rfl rfl (by omega) (by omega) ?_
        refine o_assign gn rfl rfl ?_
        refine wl_end ?_
        have hno : ¬ (bget bs i = true ∧ bget obs i = true) := by intro hh; simp [hh.1, hh.2] at hb
        exact ⟨bs.length - (i + 1), by omega, [(0, .slice (some ⟨b1, 0, none⟩) (bsV bs).length (bsV bs).length), (1, .slice (some ⟨b2, 0, none⟩) (bsV obs).length (bsV obs).length), (5, iV ((i + 1 : Nat) : Int))], (by repeat (first | exact trivial | refine ⟨rfl, ?_⟩)), i + 1, by omega, rfl, fun j hj => by
          by_cases e : j = i
          · subst e; exact hno
          · exact hlo j (by omega), rfl, rfl⟩
    · skip
      refine w_exit ?_
      refine thn_exit ?_
      refine rnd_exit ?_
      refine blk_eq ?_
      refine w_seq ?_
      refine w_region (by kernel_rfl) ?_
      refine o_assign gn rfl rfl ?_
      refine wl_end ?_
      refine w_ret ?_
      refine ⟨.inl rfl, _, rfl, ?_⟩
      have hge : ¬ (i < bs.length ∧ i < obs.length) := by simpa using hb
      refine ⟨e0, false, rfl, ?_⟩
      simp only [Bool.false_eq_true, false_iff, not_exists]
      intro k hk
      have h1 := bget_lt hk.1
      have h2 := bget_lt hk.2
      exact hlo k (by omega) hk

/-- Same -/
theorem c18 {obs : List Bool} {so : Value} {Bo : List Nat} (x : RefS h s bs B) (o : RefS h so obs Bo) (hn : bs.length ≤ 100000) (hno : obs.length ≤ 100000) : C bitsE 18 [s, so] h fun v h' => h' = h ∧ ∃ t, v = .bool t ∧ (t = true ↔ SameB bs obs) := by
  obtain ⟨a, rfl⟩ := x.val
  obtain ⟨b, rfl⟩ := o.val
  refine c_enter (fu := Tryd.f18) (by kernel_rfl) rfl ?_
  refine w_seq ?_
  refine w_region (by kernel_rfl) ?_
  refine o_assign gn rfl rfl ?_
  refine wl_end ?_
  refine w_seq ?_
  refine w_seq ?_
  refine w_region (by kernel_rfl) ?_
  refine o_assign gn rfl rfl ?_
  refine wl_end ?_
  refine w_block ?_
  refine w_weak [(0, .slice a (bsV bs).length (bsV bs).length), (1, .slice b (bsV obs).length (bsV obs).length), (5, iV (0 : Nat))] (by repeat (first | exact trivial | refine ⟨rfl, ?_⟩)) ?_
  refine w_loop (fun k l hh => ∃ (i : Nat), i ≤ max bs.length obs.length ∧ k = max bs.length obs.length - i ∧ (∀ j, j < i → bget bs j = bget obs j) ∧ l = [(0, .slice a (bsV bs).length (bsV bs).length), (1, .slice b (bsV obs).length (bsV obs).length), (5, iV (i : Nat))] ∧ hh = h) (n := (max bs.length obs.length)) ?_ fun k l hh hI => ?_
  · exact ⟨0, by omega, by omega, fun j hj => by omega, rfl, rfl⟩
  · obtain ⟨i, hi, rfl, hlo, rfl, e0⟩ := hI
    refine w_seq ?_
    refine w_seq ?_
    refine w_region (by kernel_rfl) ?_
    refine o_move gn rfl rfl ?_
    refine o_move gn rfl rfl ?_
    refine o_len gn rfl rfl (by kernel_rfl) ?_
    refine o_lss gn rfl rfl rfl ?_
    refine o_move gn rfl rfl ?_
    refine o_or (n := 4) rfl rfl rfl gn rfl (fun hb => by
        refine o_move (gy rfl rfl rfl hb) rfl rfl ?_
        refine o_move (gy rfl rfl rfl hb) rfl rfl ?_
        refine o_len (gy rfl rfl rfl hb) rfl rfl (by kernel_rfl) ?_
        refine o_lss (gy rfl rfl rfl hb) rfl rfl rfl ?_
        exact wl_end ⟨rfl, rfl, 4, rfl, rfl⟩) ?_
    refine wl_end ?_
    refine w_cond rfl (fun hb => ?_) fun hb => ?_
    · skip
      obtain rfl := e0
      have hlt : i < bs.length ∨ i < obs.length := by simpa using hb
      refine w_skip ?_
      refine w_seq ?_
      refine w_block ?_
      refine w_seq ?_
      refine w_region (by kernel_rfl) ?_
      refine o_move gn rfl rfl ?_
      refine o_move gn rfl rfl ?_
      refine o_call [_, _] gn rfl rfl (by kernel_rfl) rfl (c_pure (c47 x) ⟨ag0, ?_⟩)
      refine o_move gn rfl rfl ?_
      refine o_move gn rfl rfl ?_
      refine o_call [_, _] gn rfl rfl (by kernel_rfl) rfl (c_pure (c47 o) ⟨ag0, ?_⟩)
      refine o_neb gn rfl rfl rfl (by kernel_rfl) ?_
      refine wl_end ?_
      refine w_cond rfl (fun hb => ?_) fun hb => ?_
      · skip
        refine w_seq ?_
        refine w_region (by kernel_rfl) ?_
        refine o_assign gn rfl rfl ?_
        refine wl_end ?_
        refine w_ret ?_
        refine ⟨.inl rfl, _, rfl, ?_⟩
        have hne : bget bs i ≠ bget obs i := by rw [hasB_nat, hasB_nat] at hb; simpa using hb
        exact ⟨rfl, false, rfl, by simp; exact fun hs => hne (hs i)⟩
      · skip
        refine w_skip ?_
        refine w_region (by kernel_rfl) ?_
        refine o_move gn rfl rfl ?_
        refine o_add gn rfl rfl rfl (by omega) (by omega) ?_
        refine o_assign gn rfl rfl ?_
        refine wl_end ?_
        have heq : bget bs i = bget obs i := by rw [hasB_nat, hasB_nat] at hb; simpa using hb
        exact ⟨max bs.length obs.length - (i + 1), by omega, [(0, .slice a (bsV bs).length (bsV bs).length), (1, .slice b (bsV obs).length (bsV obs).length), (5, iV ((i + 1 : Nat) : Int))], (by repeat (first | exact trivial | refine ⟨rfl, ?_⟩)), i + 1, by omega, rfl, fun j hj => by
          by_cases e : j = i
          · subst e; exact heq
          · exact hlo j (by omega), rfl, rfl⟩
    · skip
      refine w_exit ?_
      refine thn_exit ?_
      refine rnd_exit ?_
      refine blk_eq ?_
      refine w_seq ?_
      refine w_region (by kernel_rfl) ?_
      refine o_assign gn rfl rfl ?_
      refine wl_end ?_
      refine w_ret ?_
      refine ⟨.inl rfl, _, rfl, ?_⟩
      have hge : ¬ (i < bs.length ∨ i < obs.length) := by simpa using hb
      refine ⟨e0, true, rfl, ?_⟩
      simp only [true_iff]
      intro k
      by_cases hk : k < i
      · exact hlo k hk
      · rw [bget_ge (by omega), bget_ge (by omega)]

/-- Lists of numbers -/
theorem c21 {a a' : Option Addr} {n n' c c' : Nat} {st st' : List Int} (hs : Src h (.slice a n c) (isV st)) (hs' : Src h (.slice a' n' c') (isV st')) (hn : st.length ≤ 100000) :
    CP bitsE 21 [.slice a n c, .slice a' n' c'] h (.bool (decide (st = st'))) := by
  have e1 := hs.len'; have e2 := hs'.len'
  simp only [List.length_map] at e1 e2
  subst e1; subst e2
  refine c_enter (fu := Tryd.f21) (by kernel_rfl) rfl ?_
  refine w_seq ?_
  refine w_region (by kernel_rfl) ?_
  refine o_assign gn rfl rfl ?_
  refine wl_end ?_
  refine w_seq ?_
  refine w_seq ?_
  refine w_region (by kernel_rfl) ?_
  refine o_move gn rfl rfl ?_
  refine o_len gn rfl rfl (by kernel_rfl) ?_
  refine o_move gn rfl rfl ?_
  refine o_len gn rfl rfl (by kernel_rfl) ?_
  refine o_nei gn rfl rfl rfl ?_
  refine wl_end ?_
  refine w_cond rfl (fun hb => ?_) fun hb => ?_
  · skip
    refine w_seq ?_
    refine w_region (by kernel_rfl) ?_
    refine o_assign gn rfl rfl ?_
    refine wl_end ?_
    refine w_ret ?_
    refine ⟨.inl rfl, _, rfl, ?_⟩
    have hne : st ≠ st' := fun e => by simp [e] at hb
    exact ⟨by simp [oneOf, hne], rfl⟩
  · skip
    refine w_skip ?_
    refine w_seq ?_
    refine w_seq ?_
    refine w_region (by kernel_rfl) ?_
    refine o_assign gn rfl rfl ?_
    refine wl_end ?_
    have hlen : st.length = st'.length := by simp at hb; omega
    refine w_block ?_
    refine w_weak [(0, .slice a st.length c), (1, .slice a' st'.length c'), (5, .int .i64 0)] (by repeat (first | exact trivial | refine ⟨rfl, ?_⟩)) ?_
    refine w_loop (fun k l hh => ∃ i : Int, 0 ≤ i ∧ i ≤ st.length ∧ k = st.length - i.toNat ∧ (∀ j : Nat, j < i.toNat → st[j]? = st'[j]?) ∧ l = [(0, .slice a st.length c), (1, .slice a' st'.length c'), (5, .int .i64 i)] ∧ hh = h) (n := st.length) ?_ fun k l hh hI => ?_
    · exact ⟨0, by omega, by omega, by omega, fun j hj => by omega, rfl, rfl⟩
    · obtain ⟨i, hi0, hi1, rfl, hall, rfl, rfl⟩ := hI
      refine w_seq ?_
      refine w_seq ?_
      refine w_region (by kernel_rfl) ?_
      refine o_move gn rfl rfl ?_
      refine o_move gn rfl rfl ?_
      refine o_len gn rfl rfl (by kernel_rfl) ?_
      refine o_lss gn rfl rfl rfl ?_
      refine wl_end ?_
      refine w_cond rfl (fun hb => ?_) fun hb => ?_
      · skip
        have hlt : i < st.length := by simpa using hb
        obtain ⟨bb, o, cs, e, m, rfl, hg, _, _, hcs⟩ := hs.at (by simp; omega)
        obtain ⟨bb', o', cs', e', m', rfl, hg', _, _, hcs'⟩ := hs'.at (by simp; omega)
        have hv := (hcs i.toNat (by simp; omega)).trans (at_int (k := .i64) i.toNat (by omega) rfl)
        have hv' := (hcs' i.toNat (by simp; omega)).trans (at_int (k := .i64) i.toNat (by omega) rfl)
        refine w_skip ?_
        refine w_seq ?_
        refine w_block ?_
        refine w_seq ?_
        refine w_draw [(0, []), (1, []), (2, []), (3, []), (4, []), (5, []), (6, []), (7, []), (8, [])] (by kernel_rfl) (by kernel_rfl) (by kernel_rfl) (by kernel_rfl) ?_
        refine o_move gn rfl rfl ?_
        refine o_move gn rfl rfl ?_
        refine o_indexAddr (zz := 1) gn rfl rfl rfl (by kernel_rfl) (by omega) (by omega) ?_
        refine o_load gn rfl rfl (by kernel_rfl) hg (by rw [Nat.mul_one]; exact hv) ?_
        refine o_move gn rfl rfl ?_
        refine o_move gn rfl rfl ?_
        refine o_indexAddr (zz := 1) gn rfl rfl rfl (by kernel_rfl) (by omega) (by omega) ?_
        refine o_load gn rfl rfl (by kernel_rfl) hg' (by rw [Nat.mul_one]; exact hv') ?_
        refine o_nei gn rfl rfl rfl ?_
        refine wl_end ?_
        refine w_cond rfl (fun hb => ?_) fun hb => ?_
        · skip
          refine w_seq ?_
          refine w_region (by kernel_rfl) ?_
          refine o_assign gn rfl rfl ?_
          refine wl_end ?_
          refine w_ret ?_
          refine ⟨.inl rfl, _, rfl, ?_⟩
          have hne : st ≠ st' := fun e => by subst e; simp at hb
          exact ⟨by simp [oneOf, hne], rfl⟩
        · skip
          refine w_skip ?_
          refine w_region (by kernel_rfl) ?_
          refine o_move gn rfl rfl ?_
          refine o_add gn rfl rfl rfl (by omega) (by omega) ?_
          refine o_assign gn rfl rfl ?_
          refine wl_end ?_
          exact ⟨(st.length - (i + 1).toNat), by omega, _, (by repeat (first | exact trivial | refine ⟨rfl, ?_⟩)), ⟨i + 1, by omega, by omega, rfl, fun j hj => by
            by_cases hji : j < i.toNat
            · exact hall j hji
            · have : j = i.toNat := by omega
              subst this
              have hb' : (st[i.toNat]?).getD 0 = (st'[i.toNat]?).getD 0 := by simpa using hb
              rw [List.getElem?_eq_getElem (show i.toNat < st.length by omega), List.getElem?_eq_getElem (show i.toNat < st'.length by omega)] at hb' ⊢
              simpa using hb', rfl, rfl⟩⟩
      · skip
        refine w_exit ?_
        refine thn_exit ?_
        refine rnd_exit ?_
        refine blk_eq ?_
        refine w_seq ?_
        refine w_region (by kernel_rfl) ?_
        refine o_assign gn rfl rfl ?_
        refine wl_end ?_
        refine w_ret ?_
        refine ⟨.inl rfl, _, rfl, ?_⟩
        have hge : st.length ≤ i := by simpa using hb
        have heq : st = st' := List.ext_getElem? fun j => by
          by_cases hj : j < st.length
          · exact hall j (by omega)
          · rw [List.getElem?_eq_none (by omega), List.getElem?_eq_none (by omega)]
        exact ⟨by simp [oneOf, heq], rfl⟩

end

end Go.Proofs.YtgcapnlfkomgpaaDoor


namespace Go.Proofs.YtgcapnlfkomgpaaDoor
open Go.X

theorem range_filter_succ (f : Nat → Bool) (i : Nat) : (List.range (i + 1)).filter f = (List.range i).filter f ++ if f i then [i] else [] := by
  rw [List.range_succ, List.filter_append]
  cases h : f i <;> simp [h]

theorem ns_len_le (f : Nat → Bool) (i : Nat) : ((List.range i).filter f).length ≤ i := by
  have := List.length_filter_le f (List.range i)
  rwa [List.length_range] at this

/-- One number behind others. -/
theorem push_ns {h : Hp} {s : Value} {l : List Nat} {B : List Nat} {x : Int} {k : Nat} (hx : x = (k : Nat)) (hs : Sl 3 h s (nsV l) B) (hn : l.length ≤ 100000) :
    ∃ a h' B', appendX bitsE (h.alloc (.cells [iV x] 3 0)) 22 22 s (.slice (some ⟨h.n, 0, none⟩) 1 1) = some (.slice a (nsV (l ++ [k])).length (nsV (l ++ [k])).length, h') ∧ Sl 3 h' (.slice a (nsV (l ++ [k])).length (nsV (l ++ [k])).length) (nsV (l ++ [k])) B' ∧ ExtB B h h' ∧ (∀ i, i ∈ B' → i ∈ B ∨ h.n ≤ i) := by
  have x5 : Ext h (h.alloc (.cells [iV x] 3 0)) := Ext.alloc _ _
  obtain ⟨v', h6, B6, a1, a2, a3, a4⟩ := append_own el3 (hs.ext x5) ((Sl.new (h := h) (e := 3) (vs := [iV x]) (m := 0) (.inl rfl)).src rfl) (by simp; omega)
  have e : nsV l ++ [iV x] = nsV (l ++ [k]) := by rw [hx]; simp
  rw [e] at a2
  obtain ⟨a, rfl⟩ := a2.val
  exact ⟨a, h6, B6, a1, a2, (x5.b B).trans a3, fun i hi => by
    rcases a4 i hi with h1 | h1
    · exact .inl h1
    · rw [Hp.n_alloc] at h1; exact .inr (by omega)⟩

section
variable {h : Hp} {bs : List Bool} {s : Value} {B : List Nat}

/-- List -/
theorem c20 (x : RefS h s bs B) (hn : bs.length ≤ 90000) : C bitsE 20 [s] h fun v h' => ∃ B', Sl 3 h' v (nsV (onesB bs)) B' ∧ (∀ i, i ∈ B' → h.n ≤ i) ∧ Ext h h' := by
  obtain ⟨a, rfl⟩ := x.val
  refine c_enter (fu := Tryd.f20) (by kernel_rfl) rfl ?_
  refine w_seq ?_
  refine w_region (by kernel_rfl) ?_
  refine o_assign gn rfl rfl ?_
  refine wl_end ?_
  refine w_seq ?_
  refine w_region (by kernel_rfl) ?_
  refine o_assign gn rfl rfl ?_
  refine wl_end ?_
  refine w_seq ?_
  refine w_seq ?_
  refine w_region (by kernel_rfl) ?_
  refine o_assign gn rfl rfl ?_
  refine wl_end ?_
  refine w_block ?_
  refine w_weak [(0, .slice a (bsV bs).length (bsV bs).length), (3, .slice none 0 0), (4, iV (0 : Nat))] (by repeat (first | exact trivial | refine ⟨rfl, ?_⟩)) ?_
  refine w_loop (fun k l hh => ∃ (i : Nat) (sv : Value) (Bd : List Nat), i ≤ bs.length ∧ k = bs.length - i ∧ Sl 3 hh sv (nsV ((List.range i).filter (bget bs))) Bd ∧ (∀ j, j ∈ Bd → h.n ≤ j) ∧ Ext h hh ∧ l = [(0, .slice a (bsV bs).length (bsV bs).length), (3, sv), (4, iV (i : Nat))]) (n := bs.length) ?_ fun k l hh hI => ?_
  · exact ⟨0, .slice none 0 0, [], by omega, by omega, .inl ⟨rfl, rfl, rfl⟩, by simp, .refl _, rfl⟩
  · obtain ⟨i, sv, Bd, hi, rfl, hs, hge, hx, rfl⟩ := hI
    refine w_seq ?_
    refine w_seq ?_
    refine w_region (by kernel_rfl) ?_
    refine o_move gn rfl rfl ?_
    refine o_move gn rfl rfl ?_
    refine o_len gn rfl rfl (by kernel_rfl) ?_
    refine o_lss gn rfl rfl rfl ?_
    refine wl_end ?_
    refine w_cond rfl (fun hb => ?_) fun hb => ?_
    · skip
      have hlt : i < bs.length := by simpa using hb
      obtain ⟨b1, m1, ea1, hg1, _, hb1, _⟩ := x.at (by simp; omega)
      simp only [Value.slice.injEq, and_true] at ea1
      subst ea1
      have hg2 := (hx.get b1 hb1).trans hg1
      obtain ⟨asv, rfl⟩ := hs.val
      have hfl := ns_len_le (bget bs) i
      have hfs := range_filter_succ (bget bs) i
      refine w_skip ?_
      refine w_seq ?_
      refine w_block ?_
      refine w_seq ?_
      refine w_region (by kernel_rfl) ?_
      refine o_move gn rfl rfl ?_
      refine o_move gn rfl rfl ?_
      refine o_indexAddr (zz := 1) gn rfl rfl rfl (by kernel_rfl) (by omega) (by simp; omega) ?_
      refine o_load gn rfl rfl (by kernel_rfl) hg2 (bs_at i (by omega) (by omega)) ?_
      refine wl_end ?_
      refine w_cond rfl (fun hb => ?_) fun hb => ?_
      · skip
        refine w_region (by kernel_rfl) ?_
        refine o_move gn rfl rfl ?_
        refine o_move gn rfl rfl ?_
        refine o_buildSlice (e := 3) (z := 0) (zv := .int .i64 0) [(0, _)] gn rfl (by kernel_rfl) (by kernel_rfl) (by kernel_rfl) (by kernel_rfl) rfl rfl ?_
        obtain ⟨a6, h6, B6, a1, a2, a3, a4⟩ := push_ns (x := (i : Int)) (k := i) rfl hs (by omega)
        refine o_append gn rfl rfl rfl a1 ag0 ?_
        refine o_assign gn rfl rfl ?_
        refine wl_end ?_
        refine w_region (by kernel_rfl) ?_
        refine o_move gn rfl rfl ?_
        refine o_add gn rfl rfl rfl (by omega) (by omega) ?_
        refine o_assign gn rfl rfl ?_
        refine wl_end ?_
        rw [hb, if_pos rfl] at hfs
        rw [← hfs] at a2
        have hn1 := hx.n
        rw [show nsV ((List.range i).filter (bget bs) ++ [i]) = nsV ((List.range (i + 1)).filter (bget bs)) by rw [hfs]]
        exact ⟨bs.length - (i + 1), by omega, [(0, .slice (some ⟨b1, 0, none⟩) (bsV bs).length (bsV bs).length), (3, .slice a6 (nsV ((List.range (i + 1)).filter (bget bs))).length (nsV ((List.range (i + 1)).filter (bget bs))).length), (4, iV ((i + 1 : Nat) : Int))], (by repeat (first | exact trivial | refine ⟨rfl, ?_⟩)), i + 1, _, B6, by omega, rfl, a2, fun j hj => by
          rcases a4 j hj with h1 | h1
          · exact hge j h1
          · omega, hx.of a3 hge, rfl⟩
      · skip
        refine w_skip ?_
        refine w_region (by kernel_rfl) ?_
        refine o_move gn rfl rfl ?_
        refine o_add gn rfl rfl rfl (by omega) (by omega) ?_
        refine o_assign gn rfl rfl ?_
        refine wl_end ?_
        rw [hb] at hfs
        simp only [Bool.false_eq_true, if_false, List.append_nil] at hfs
        exact ⟨bs.length - (i + 1), by omega, [(0, .slice (some ⟨b1, 0, none⟩) (bsV bs).length (bsV bs).length), (3, .slice asv (nsV ((List.range i).filter (bget bs))).length (nsV ((List.range i).filter (bget bs))).length), (4, iV ((i + 1 : Nat) : Int))], (by repeat (first | exact trivial | refine ⟨rfl, ?_⟩)), i + 1, _, Bd, by omega, rfl, by rw [hfs]; exact hs, hge, hx, rfl⟩
    · skip
      refine w_exit ?_
      refine thn_exit ?_
      refine rnd_exit ?_
      refine blk_eq ?_
      refine w_seq ?_
      refine w_region (by kernel_rfl) ?_
      refine o_move gn rfl rfl ?_
      refine o_assign gn rfl rfl ?_
      refine wl_end ?_
      refine w_ret ?_
      refine ⟨.inl rfl, _, rfl, ?_⟩
      have hge2 : i = bs.length := by have := hi; simp at hb; omega
      subst hge2
      exact ⟨Bd, hs, hge, hx⟩

/-- Union, where what the other one's bits are is known. -/
theorem c32g {obs : List Bool} {b : Option Addr} (x : RefS h s bs B) (hn : bs.length ≤ 90000)
    (hw : ∀ hh az, ExtB B h hh → RefS hh s az B → ∀ i, (∀ j, i ≤ j → bget az j = bget bs j) → az.length = bs.length → i < obs.length → ∃ bb cs m, b = some ⟨bb, 0, none⟩ ∧ hh.get bb = some (.cells (bsV cs) 4 m) ∧ cs.length = obs.length ∧ bget cs i = bget obs i) :
    C bitsE 32 [s, .slice b obs.length obs.length] h fun v h' => ∃ t, v = .bool t ∧ (t = true ↔ Came bs obs) ∧ RefS h' s (orB bs obs) B ∧ ExtB B h h' := by
  obtain ⟨a, rfl⟩ := x.val
  refine c_enter (fu := Tryd.f32) (by kernel_rfl) rfl ?_
  refine w_seq ?_
  refine w_region (by kernel_rfl) ?_
  refine o_assign gn rfl rfl ?_
  refine wl_end ?_
  refine w_seq ?_
  refine w_region (by kernel_rfl) ?_
  refine o_assign gn rfl rfl ?_
  refine wl_end ?_
  refine w_seq ?_
  refine w_seq ?_
  refine w_region (by kernel_rfl) ?_
  refine o_assign gn rfl rfl ?_
  refine wl_end ?_
  refine w_block ?_
  refine w_weak [(0, .slice a (bsV bs).length (bsV bs).length), (1, .slice b obs.length obs.length), (5, .bool false), (6, iV (0 : Nat))] (by repeat (first | exact trivial | refine ⟨rfl, ?_⟩)) ?_
  refine w_loop (fun k l hh => ∃ (i : Nat) (az : List Bool) (cm : Bool), i ≤ bs.length ∧ k = bs.length - i ∧ az.length = bs.length ∧ (∀ j, j < i → bget az j = (bget bs j || bget obs j)) ∧ (∀ j, i ≤ j → bget az j = bget bs j) ∧ (cm = true ↔ ∃ j, j < i ∧ bget obs j = true ∧ bget bs j = false) ∧ RefS hh (.slice a (bsV bs).length (bsV bs).length) az B ∧ ExtB B h hh ∧
    l = [(0, .slice a (bsV bs).length (bsV bs).length), (1, .slice b obs.length obs.length), (5, .bool cm), (6, iV (i : Nat))]) (n := bs.length) ?_ fun k l hh hI => ?_
  · exact ⟨0, bs, false, by omega, by omega, rfl, fun j hj => by omega, fun j _ => rfl, by simp, x, .refl _ _, rfl⟩
  · obtain ⟨i, az, cm, hi, rfl, hal, hlo, hup, hcm, hr, hx, rfl⟩ := hI
    refine w_seq ?_
    refine w_seq ?_
    refine w_region (by kernel_rfl) ?_
    refine o_move gn rfl rfl ?_
    refine o_move gn rfl rfl ?_
    refine o_len gn rfl rfl (by kernel_rfl) ?_
    refine o_lss gn rfl rfl rfl ?_
    refine o_move gn rfl rfl ?_
    refine o_and (n := 4) rfl rfl rfl gn rfl (fun hb => by
        refine o_move (gy rfl rfl rfl hb) rfl rfl ?_
        refine o_move (gy rfl rfl rfl hb) rfl rfl ?_
        refine o_len (gy rfl rfl rfl hb) rfl rfl (by kernel_rfl) ?_
        refine o_lss (gy rfl rfl rfl hb) rfl rfl rfl ?_
        exact wl_end ⟨rfl, rfl, 4, rfl, rfl⟩) ?_
    refine wl_end ?_
    refine w_cond rfl (fun hb => ?_) fun hb => ?_
    · skip
      have hlt : i < bs.length ∧ i < obs.length := by simpa using hb
      obtain ⟨bb, m, ea, hg, hm, hbb, hB⟩ := hr.at (by simp; omega)
      simp only [Value.slice.injEq] at ea
      obtain ⟨rfl, _, _⟩ := ea
      subst hB
      obtain ⟨bo, cs, mo, rfl, hgo, hcl, hco⟩ := hw hh az hx hr i hup hal hlt.2
      have hv1 : (bsV az)[0 + (i : Int).toNat * 1]? = some (.bool (bget bs i)) := (bs_at i (by omega) (by omega)).trans (by rw [hup i (Nat.le_refl _)])
      have hv2 : (bsV cs)[0 + (i : Int).toNat * 1]? = some (.bool (bget obs i)) := (bs_at i (by omega) (by omega)).trans (by rw [hco])
      refine w_skip ?_
      refine w_seq ?_
      refine w_block ?_
      refine w_seq ?_
      refine w_region (by kernel_rfl) ?_
      refine o_move gn rfl rfl ?_
      refine o_move gn rfl rfl ?_
      refine o_or (n := 11) rfl rfl rfl gn rfl (fun hb => by
          refine o_move (gy rfl rfl rfl hb) rfl rfl ?_
          refine o_move (gy rfl rfl rfl hb) rfl rfl ?_
          refine o_indexAddr (zz := 1) (gy rfl rfl rfl hb) rfl rfl rfl (by kernel_rfl) (by omega) (by simp; omega) ?_
          refine o_load (gy rfl rfl rfl hb) rfl rfl (by kernel_rfl) hgo hv2 ?_
          refine o_move (gy rfl rfl rfl hb) rfl rfl ?_
          refine o_and (n := 5) rfl rfl rfl (gy rfl rfl rfl hb) rfl (fun hb => by
              refine o_move (gy rfl rfl rfl hb) rfl rfl ?_
              refine o_move (gy rfl rfl rfl hb) rfl rfl ?_
              refine o_indexAddr (zz := 1) (gy rfl rfl rfl hb) rfl rfl rfl (by kernel_rfl) (by omega) (by simp; omega) ?_
              refine o_load (gy rfl rfl rfl hb) rfl rfl (by kernel_rfl) hg hv1 ?_
              refine o_not (gy rfl rfl rfl hb) rfl rfl ?_
              exact wl_end ⟨rfl, rfl, 5, rfl, rfl⟩) ?_
          exact wl_end ⟨rfl, rfl, 6, rfl, rfl⟩) ?_
      refine o_assign gn rfl rfl ?_
      refine wl_end ?_
      refine w_region (by kernel_rfl) ?_
      refine o_move gn rfl rfl ?_
      refine o_move gn rfl rfl ?_
      refine o_move gn rfl rfl ?_
      refine o_move gn rfl rfl ?_
      refine o_indexAddr (zz := 1) gn rfl rfl rfl (by kernel_rfl) (by omega) (by simp; omega) ?_
      refine o_load gn rfl rfl (by kernel_rfl) hg hv1 ?_
      refine o_move gn rfl rfl ?_
      refine o_or (n := 4) rfl rfl rfl gn rfl (fun hb => by
          refine o_move (gy rfl rfl rfl hb) rfl rfl ?_
          refine o_move (gy rfl rfl rfl hb) rfl rfl ?_
          refine o_indexAddr (zz := 1) (gy rfl rfl rfl hb) rfl rfl rfl (by kernel_rfl) (by omega) (by simp; omega) ?_
          refine o_load (gy rfl rfl rfl hb) rfl rfl (by kernel_rfl) hgo hv2 ?_
          exact wl_end ⟨rfl, rfl, 4, rfl, rfl⟩) ?_
      refine o_indexAddr (zz := 1) gn rfl rfl rfl (by kernel_rfl) (by omega) (by simp; omega) ?_
      refine o_store gn rfl rfl rfl (by kernel_rfl) hg (by omega) (by simp; omega) ag0 ?_
      refine wl_end ?_
      refine w_region (by kernel_rfl) ?_
      refine o_move gn rfl rfl ?_
      refine o_add gn rfl rfl rfl (by omega) (by omega) ?_
      refine o_assign gn rfl rfl ?_
      refine wl_end ?_
      rw [show (bsV az).set (0 + (i : Int).toNat * 1) (.bool (bget bs i || bget obs i)) = bsV (az.set i (bget bs i || bget obs i)) by simp [List.map_set]]
      refine ⟨bs.length - (i + 1), by omega, [(0, .slice (some ⟨bb, 0, none⟩) (bsV bs).length (bsV bs).length), (1, .slice (some ⟨bo, 0, none⟩) obs.length obs.length), (5, .bool (cm || (bget obs i && !bget bs i))), (6, iV ((i + 1 : Nat) : Int))], (by repeat (first | exact trivial | refine ⟨rfl, ?_⟩)), i + 1, az.set i (bget bs i || bget obs i), cm || (bget obs i && !bget bs i), by omega, rfl, by simp [hal], fun j hj => ?_, fun j hj => ?_, ?_, Sl.put (by simp [hal]) hm hbb, hx.trans (ExtB.put _ _ _), rfl⟩
      · rw [bget_set (by omega)]
        by_cases e : j = i
        · subst e; rw [if_pos rfl]
        · rw [if_neg e]; exact hlo j (by omega)
      · rw [bget_set (by omega), if_neg (by omega)]; exact hup j (by omega)
      · simp only [Bool.or_eq_true, Bool.and_eq_true, Bool.not_eq_true', hcm]
        constructor
        · rintro (⟨j, hj, h1⟩ | h1)
          · exact ⟨j, by omega, h1⟩
          · exact ⟨i, by omega, h1⟩
        · rintro ⟨j, hj, h1⟩
          by_cases e : j = i
          · subst e; exact .inr h1
          · exact .inl ⟨j, by omega, h1⟩
    · skip
      refine w_exit ?_
      refine thn_exit ?_
      refine rnd_exit ?_
      refine blk_eq ?_
      refine w_seq ?_
      refine w_region (by kernel_rfl) ?_
      refine o_move gn rfl rfl ?_
      refine o_assign gn rfl rfl ?_
      refine wl_end ?_
      refine w_ret ?_
      refine ⟨.inl rfl, _, rfl, ?_⟩
      have hge : ¬ (i < bs.length ∧ i < obs.length) := by simpa using hb
      have heq : az = orB bs obs := by
        apply List.ext_getElem (by rw [hal, orB_len])
        intro k h1 h2
        rw [← bget_get h1, ← bget_get h2, bget_orB]
        have hk : k < bs.length := by omega
        by_cases hki : k < i
        · rw [hlo k hki]; simp [hk]
        · rw [hup k (by omega), bget_ge (bs := obs) (by omega)]; simp [hk]
      refine ⟨cm, rfl, ?_, heq ▸ hr, hx⟩
      rw [hcm]
      constructor
      · rintro ⟨j, hj, h1⟩
        exact ⟨j, by omega, h1⟩
      · rintro ⟨k, hk, h1⟩
        exact ⟨k, by have := bget_lt h1.1; omega, h1⟩

/-- Union -/
theorem c32 {obs : List Bool} {so : Value} {Bo : List Nat} (x : RefS h s bs B) (o : RefS h so obs Bo) (hd : ∀ i, i ∈ Bo → i ∉ B) (hn : bs.length ≤ 90000) : C bitsE 32 [s, so] h fun v h' => ∃ t, v = .bool t ∧ (t = true ↔ Came bs obs) ∧ RefS h' s (orB bs obs) B ∧ ExtB B h h' := by
  obtain ⟨b, rfl⟩ := o.val
  rw [List.length_map] at o ⊢
  refine c32g x hn fun hh az g hr i _ _ hi => ?_
  have o' := o.keep g hd
  obtain ⟨bb, m, ea, hg, _⟩ := o'.at (by simp; omega)
  simp only [Value.slice.injEq] at ea
  exact ⟨bb, obs, m, ea.1, hg, rfl, rfl⟩

/-- Union with itself -/
theorem c32s (x : RefS h s bs B) (hn : bs.length ≤ 90000) : C bitsE 32 [s, s] h fun v h' => ∃ t, v = .bool t ∧ (t = true ↔ Came bs bs) ∧ RefS h' s (orB bs bs) B ∧ ExtB B h h' := by
  obtain ⟨b, rfl⟩ := x.val
  rw [List.length_map] at x ⊢
  refine c32g x hn fun hh az g hr i hup hal hi => ?_
  obtain ⟨bb, m, ea, hg, _⟩ := hr.at (by simp; omega)
  simp only [Value.slice.injEq] at ea
  exact ⟨bb, az, m, ea.1, hg, hal, hup i (Nat.le_refl _)⟩

end

end Go.Proofs.YtgcapnlfkomgpaaDoor


namespace Go.Proofs.YtgcapnlfkomgpaaDoor
open Go.X

def takeM (l : List Nat) (most : Int) : List Nat := if 1 ≤ most then l.take most.toNat else l
theorem takeM_zero (l : List Nat) : takeM l 0 = l := rfl
theorem ns_is (l : List Nat) : nsV l = isV (l.map fun (n : Nat) => (n : Int)) := by simp [List.map_map, Function.comp_def]

/-- list -/
theorem c19 {h : Hp} {b : Nat} {bs : List Bool} {own : List Nat} {most : Int} (x : SAt h b bs own) (tb : Tab h) (hn : bs.length ≤ 90000) :
    C bitsE 19 [ptrV b, iV most] h fun v h' => ∃ sv B', v = .tuple #[sv, .bool true] ∧ Sl 3 h' sv (nsV (takeM (onesB bs) most)) B' ∧ (∀ i, i ∈ B' → h.n ≤ i) ∧ Ext h h' := by
  obtain ⟨ws, sw, Bw, x, rfl⟩ := x
  have hob := onesB_le bs
  refine c_enterR (fu := Tryd.f19) (by kernel_rfl) rfl ?_
  refine w_seq ?_
  refine w_region (by kernel_rfl) ?_
  refine o_box gn rfl rfl ?_
  refine o_assign gn rfl rfl ?_
  refine o_assign gn rfl rfl ?_
  refine wl_end ?_
  refine w_seq ?_
  refine w_region (by kernel_rfl) ?_
  refine o_alloc (zv := .slice none 0 0) gn rfl (by kernel_rfl) ?_
  rw [Hp.n_alloc]
  refine wl_at (fun h1 => h1.get h.n = some (.cells [iV most] 3 0) ∧ h1.get (h.n + 1) = some (.cells [.slice none 0 0] 22 0) ∧ Ext h h1 ∧ h1.n = h.n + 2) ⟨?_, ?_, (Ext.alloc _ _).trans (Ext.alloc _ _), by simp only [Hp.n_alloc]⟩ fun h1 ⟨g1, g2, x1, n1⟩ => ?_
  · rw [Hp.get_alloc, if_neg (by rw [Hp.n_alloc]; omega)]; exact Hp.get_alloc_self _ _
  · rw [Hp.get_alloc, if_pos (Hp.n_alloc _ _)]; rfl
  have xs1 := x.keep (x1.b []) (by simp)
  have tb1 := tb.ext x1
  refine wl_end ?_
  refine w_seq ?_
  refine w_region (by kernel_rfl) ?_
  refine o_move gn rfl rfl ?_
  refine o_call [_] gn rfl rfl (by kernel_rfl) rfl (C.mono (c11 xs1 (by omega)) ?_)
  rintro v2 h2 ⟨c, Bc, rfl, ha2, fa2, x2⟩
  have x2n := x2.n
  have hal := ha2.lt
  refine ⟨ag0, ?_⟩
  refine o_assign gn rfl rfl ?_
  refine wl_end ?_
  refine w_seq ?_
  refine w_seq ?_
  refine w_region (by kernel_rfl) ?_
  refine o_move gn rfl rfl ?_
  refine o_eqf gn rfl rfl rfl (by kernel_rfl) ?_
  refine wl_end ?_
  refine w_cond rfl (fun hb => ?_) fun hb => ?_
  · skip
    cases hb
  · skip
    refine w_skip ?_
    refine w_seq ?_
    refine w_seq ?_
    refine w_region (by kernel_rfl) ?_
    refine o_move gn rfl rfl ?_
    refine wl_end ?_
    refine w_block ?_
    refine w_weak [(3, ptrV h.n), (6, ptrV (h.n + 1)), (13, .func (.func 42) #[] #[ptrV c])] (by repeat (first | exact trivial | refine ⟨rfl, ?_⟩)) ?_
    refine w_rangeA rfl rfl (by kernel_rfl) (by kernel_rfl) (by kernel_rfl) (by kernel_rfl) fun rc hR h0 hx0 hn0 hrc => ?_
    have k1 := ((x2.trans hx0).get h.n (by omega)).trans g1
    have k2 := ((x2.trans hx0).get (h.n + 1) (by omega)).trans g2
    have x10 := x1.trans (x2.trans hx0)
    have hcn : ∀ B : List Nat, (∀ i, i ∈ B → h0.n ≤ i) → ∀ i, i ∈ (h.n + 1) :: (h2.n + 1) :: B → i ∉ c :: Bc ∧ i ≠ 0 := fun B hB i hi => by
      simp only [List.mem_cons] at hi
      have h5 : i = h.n + 1 ∨ h2.n < i := by
        rcases hi with hi | hi | hi
        · exact .inl hi
        · exact .inr (by omega)
        · have := hB i hi; exact .inr (by omega)
      refine ⟨fun hj => ?_, by omega⟩
      have h3 := fa2 i hj
      have h4 := hal i hj
      omega
    have hround : ∀ k (hk : k < (onesB bs).length) (m1 : Hp), (m1.get (h2.n + 1) = some (rc .ready none) ∧ ExtB [h.n + 1, h2.n + 1] h0 m1 ∧ ¬ (1 ≤ most ∧ most ≤ (k : Int)) ∧ ∃ sv B, m1.get (h.n + 1) = some (.cells [sv] 22 0) ∧ Sl 3 m1 sv (nsV ((onesB bs).take k)) B ∧ ∀ i, i ∈ B → h0.n ≤ i) → AllAt m1 c bs Bc → Tab m1 → Y bitsE (h2.n + 1) [iV (((onesB bs)[k] : Nat) : Int)] m1 fun v m2 => (∃ cs, ExtB cs m1 m2 ∧ ∀ i, i ∈ cs → i ∉ c :: Bc ∧ i ≠ 0) ∧
      ((v = .bool true ∧ (m2.get (h2.n + 1) = some (rc .ready none) ∧ ExtB [h.n + 1, h2.n + 1] h0 m2 ∧ ¬ (1 ≤ most ∧ most ≤ ((k + 1 : Nat) : Int)) ∧ ∃ sv B, m2.get (h.n + 1) = some (.cells [sv] 22 0) ∧ Sl 3 m2 sv (nsV ((onesB bs).take (k + 1))) B ∧ ∀ i, i ∈ B → h0.n ≤ i)) ∨
        (v = .bool false ∧ (m2.get (h2.n + 1) = some (rc .done (some (.exit 0))) ∧ ExtB [h.n + 1, h2.n + 1] h0 m2 ∧ 1 ≤ most ∧ ∃ sv B, m2.get (h.n + 1) = some (.cells [sv] 22 0) ∧ Sl 3 m2 sv (nsV ((onesB bs).take most.toNat)) B ∧ ∀ i, i ∈ B → h0.n ≤ i))) := fun k hk m1 ⟨p1, p2, p3, sv, B, p4, p5, p6⟩ hA hT => by
        refine hR.round p1 rfl ?_
        refine w_region (by kernel_rfl) ?_
        refine o_assign gn rfl rfl ?_
        refine wl_end ?_
        refine ⟨_, p1, ?_⟩
        refine w_at (fun m3 => m3.get (h2.n + 1) = some (rc .busy none) ∧ m3.get (h.n + 1) = some (.cells [sv] 22 0) ∧ ExtB [h2.n + 1] m1 m3 ∧ m3.n = m1.n) ⟨Hp.get_put_self _ _ _, by rw [Hp.get_put, if_neg (by omega)]; exact p4, ExtB.put _ _ _, Hp.n_put _ _ _⟩ fun m3 ⟨q1, q2, q3, q4⟩ => ?_
        have p2n := p2.n
        have hs3 := p5.keep q3 (fun i hi hj => by have := p6 i hi; simp at hj; omega)
        obtain ⟨asv, rfl⟩ := hs3.val
        have hbl := hs3.lt
        have htl : ((onesB bs).take k).length = k := by rw [List.length_take]; omega
        have htk : (onesB bs).take (k + 1) = (onesB bs).take k ++ [(onesB bs)[k]] := by rw [List.take_add_one, List.getElem?_eq_getElem hk]; rfl
        refine w_block ?_
        refine w_seq ?_
        refine w_region (by kernel_rfl) ?_
        refine o_load gn rfl rfl (by kernel_rfl) q2 rfl ?_
        refine o_move gn rfl rfl ?_
        refine o_buildSlice (e := 3) (z := 0) (zv := .int .i64 0) [(0, _)] gn rfl (by kernel_rfl) (by kernel_rfl) (by kernel_rfl) (by kernel_rfl) rfl rfl ?_
        obtain ⟨a7, h7, B7, b1, b2, b3, b4⟩ := push_ns (x := (((onesB bs)[k] : Nat) : Int)) (k := (onesB bs)[k]) rfl hs3 (by omega)
        rw [← htk] at b1 b2
        have n7 := b3.n
        have hnB : ∀ j, j < h0.n → j ∉ B := fun j hj hm => by have := p6 j hm; omega
        have f7 := (b3.get (h.n + 1) (by omega) (hnB _ (by omega))).trans q2
        have f8 := (b3.get (h2.n + 1) (by omega) (hnB _ (by omega))).trans q1
        have hlen7 : (nsV ((onesB bs).take (k + 1))).length = k + 1 := by simp; omega
        refine o_append gn rfl rfl rfl b1 ag0 ?_
        refine o_store gn rfl rfl rfl (by kernel_rfl) f7 (by decide) (by simp) ag0 ?_
        refine wl_end ?_
        have hB7 : ∀ i, i ∈ B7 → h0.n ≤ i := fun i hi => by
          rcases b4 i hi with h9 | h9
          · exact p6 i h9
          · omega
        have gx : ExtB ((h2.n + 1) :: (h.n + 1) :: B) m1 (h7.put (h.n + 1) (.cells [.slice a7 (nsV ((onesB bs).take (k + 1))).length (nsV ((onesB bs).take (k + 1))).length] 22 0)) := (q3.mono (by simp)).trans ((b3.mono (fun j hj _ => by simp [hj])).trans ((ExtB.put _ _ _).mono (by simp)))
        have gh : ExtB [h.n + 1, h2.n + 1] h0 (h7.put (h.n + 1) (.cells [.slice a7 (nsV ((onesB bs).take (k + 1))).length (nsV ((onesB bs).take (k + 1))).length] 22 0)) := ⟨Nat.le_trans p2n gx.n, fun i hi hn => (gx.get i (by omega) (fun hj => by
          simp only [List.mem_cons] at hj
          rcases hj with hj | hj | hj
          · exact hn (by simp [hj])
          · exact hn (by simp [hj])
          · exact hnB i hi hj)).trans (p2.get i hi hn)⟩
        refine w_at (fun m6 => m6.get (h.n + 1) = some (.cells [.slice a7 (nsV ((onesB bs).take (k + 1))).length (nsV ((onesB bs).take (k + 1))).length] 22 0) ∧ m6.get (h2.n + 1) = some (rc .busy none) ∧ Sl 3 m6 (.slice a7 (nsV ((onesB bs).take (k + 1))).length (nsV ((onesB bs).take (k + 1))).length) (nsV ((onesB bs).take (k + 1))) B7 ∧ ExtB ((h2.n + 1) :: (h.n + 1) :: B) m1 m6 ∧ ExtB [h.n + 1, h2.n + 1] h0 m6) ⟨Hp.get_put_self _ _ _, by rw [Hp.get_put, if_neg (by omega)]; exact f8, b2.keep (ExtB.put _ _ _) (fun i hi hj => by have := hB7 i hi; simp at hj; omega), gx, gh⟩ fun m6 ⟨r1, r2, r3, r4, r5⟩ => ?_
        have r6 := (r5.get h.n (by omega) (by simp; omega)).trans k1
        have hx6 : ∀ o, ExtB [h2.n + 1] m6 (m6.put (h2.n + 1) o) := fun o => ExtB.put _ _ _
        have hk6 : ∀ o, Sl 3 (m6.put (h2.n + 1) o) (.slice a7 (nsV ((onesB bs).take (k + 1))).length (nsV ((onesB bs).take (k + 1))).length) (nsV ((onesB bs).take (k + 1))) B7 := fun o => r3.keep (hx6 o) (fun i hi hj => by have := hB7 i hi; simp at hj; omega)
        have hg6 : ∀ o, (m6.put (h2.n + 1) o).get (h.n + 1) = some (.cells [.slice a7 (nsV ((onesB bs).take (k + 1))).length (nsV ((onesB bs).take (k + 1))).length] 22 0) := fun o => by rw [Hp.get_put, if_neg (by omega)]; exact r1
        refine w_seq ?_
        refine w_region (by kernel_rfl) ?_
        refine o_load gn rfl rfl (by kernel_rfl) (by assumption) rfl ?_
        refine o_len gn rfl rfl (by kernel_rfl) ?_
        refine o_load gn rfl rfl (by kernel_rfl) (by assumption) rfl ?_
        refine o_eqi gn rfl rfl rfl ?_
        refine wl_end ?_
        refine w_cond rfl (fun hb => ?_) fun hb => ?_
        · skip
          refine w_exit ?_
          refine blk_ne (by decide) ?_
          exact ⟨_, _, r2, ⟨⟨(h.n + 1) :: (h2.n + 1) :: B, (r4.mono (by simp; grind)).trans ((hx6 _).mono (by simp)), hcn B p6⟩, .inr ⟨rfl, Hp.get_put_self _ _ _, r5.trans ((hx6 _).mono (by simp)), by rw [hlen7] at hb; simp at hb; omega, _, B7, hg6 _, by
            have : most.toNat = k + 1 := by rw [hlen7] at hb; simp at hb; omega
            rw [this]; exact hk6 _, hB7⟩⟩⟩
        · skip
          refine w_skip ?_
          exact ⟨_, _, r2, ⟨⟨(h.n + 1) :: (h2.n + 1) :: B, (r4.mono (by simp; grind)).trans ((hx6 _).mono (by simp)), hcn B p6⟩, .inl ⟨rfl, Hp.get_put_self _ _ _, r5.trans ((hx6 _).mono (by simp)), by rw [hlen7] at hb; simp at hb; omega, _, B7, hg6 _, hk6 _, hB7⟩⟩⟩
    refine C.mono (c42 (ha2.ext hx0) ((tb1.ext x2).ext hx0) (by omega) (fun k m1 => m1.get (h2.n + 1) = some (rc .ready none) ∧ ExtB [h.n + 1, h2.n + 1] h0 m1 ∧ ¬ (1 ≤ most ∧ most ≤ (k : Int)) ∧ ∃ sv B, m1.get (h.n + 1) = some (.cells [sv] 22 0) ∧ Sl 3 m1 sv (nsV ((onesB bs).take k)) B ∧ ∀ i, i ∈ B → h0.n ≤ i) (fun m2 => m2.get (h2.n + 1) = some (rc .done (some (.exit 0))) ∧ ExtB [h.n + 1, h2.n + 1] h0 m2 ∧ 1 ≤ most ∧ ∃ sv B, m2.get (h.n + 1) = some (.cells [sv] 22 0) ∧ Sl 3 m2 sv (nsV ((onesB bs).take most.toNat)) B ∧ ∀ i, i ∈ B → h0.n ≤ i) ⟨hrc, .refl _ _, by omega, .slice none 0 0, [], k2, .inl ⟨rfl, rfl, rfl⟩, by simp⟩ hround) ?_
    rintro v h' hPR
    obtain ⟨st, p, hrec, hst, hp, hxx, sv, B, hcell, hsl, hB⟩ : ∃ st p, h'.get (h2.n + 1) = some (rc st p) ∧ st ≠ .busy ∧ (p = none ∨ p = some (.exit 0)) ∧ ExtB [h.n + 1, h2.n + 1] h0 h' ∧ ∃ sv B, h'.get (h.n + 1) = some (.cells [sv] 22 0) ∧ Sl 3 h' sv (nsV (takeM (onesB bs) most)) B ∧ ∀ i, i ∈ B → h0.n ≤ i := by
      rcases hPR with ⟨e1, e2, e3, sv, B, e4, e5, e6⟩ | ⟨e1, e2, e3, sv, B, e4, e5, e6⟩
      · refine ⟨_, _, e1, by simp, .inl rfl, e2, sv, B, e4, ?_, e6⟩
        rw [List.take_length] at e5
        unfold takeM
        split
        · rw [List.take_of_length_le (by omega)]; exact e5
        · exact e5
      · exact ⟨_, _, e1, by simp, .inr rfl, e2, sv, B, e4, by rw [takeM, if_pos e3]; exact e5, e6⟩
    refine ⟨_, _, hrec, hst, fun m9 hx2 hn2 => ?_⟩
    refine aft_blk hp ?_
    have hxxn := hxx.n
    have c9 := (hx2.get (h.n + 1) (by omega) (by simp; omega)).trans hcell
    have s9 := hsl.keep hx2 (fun i hi hj => by have := hB i hi; simp at hj; omega)
    refine w_seq ?_
    refine w_region (by kernel_rfl) ?_
    refine o_load gn rfl rfl (by kernel_rfl) c9 rfl ?_
    refine o_assign gn rfl rfl ?_
    refine o_assign gn rfl rfl ?_
    refine wl_end ?_
    refine w_ret ?_
    refine ⟨.inl rfl, _, (resH_tmp rfl (resH_tmp rfl rfl)), fun h2 hco => ?_⟩
    refine ⟨sv, B, rfl, ?_, fun i hi => by have := hB i hi; have := x10.n; omega, hco.ext ((x10.of hxx (by simp; omega)).of hx2 (by simp; omega))⟩
    rcases s9 with s9 | ⟨bb, m, e1, e2, e3, e4, e5⟩
    · exact .inl s9
    · exact .inr ⟨bb, m, e1, hco.cells e2, e3, by rw [hco.1]; exact e4, e5⟩

end Go.Proofs.YtgcapnlfkomgpaaDoor


namespace Go.Proofs.YtgcapnlfkomgpaaDoor
open Go.X

/-- same: of the same bits -/
theorem c17 {h : Hp} {b : Nat} {bs : List Bool} {own B : List Nat} {s : Value} (x : SAt h b bs own) (r : RefS h s bs B) (tb : Tab h) (hn : bs.length ≤ 90000) : C bitsE 17 [ptrV b, s] h fun v h' => v = .bool true ∧ Ext h h' := by
  have hob := onesB_le bs
  obtain ⟨ar, rfl⟩ := r.val
  refine c_enter (fu := Tryd.f17) (by kernel_rfl) rfl ?_
  refine w_seq ?_
  refine w_region (by kernel_rfl) ?_
  refine o_assign gn rfl rfl ?_
  refine wl_end ?_
  refine w_seq ?_
  refine w_region (by kernel_rfl) ?_
  refine o_move gn rfl rfl ?_
  refine o_call [_, _] gn rfl rfl (by kernel_rfl) rfl (C.mono (c19 x tb hn) ?_)
  rintro v1 h1 ⟨sv, B1, rfl, s1, f1, x1⟩
  rw [takeM_zero] at s1
  obtain ⟨a1, rfl⟩ := s1.val
  obtain ⟨ws, sw, Bw, xs, hown⟩ := x.ext x1
  refine ⟨ag0, ?_⟩
  refine o_move gn rfl rfl ?_
  refine o_extract gn rfl rfl rfl ?_
  refine o_extract gn rfl rfl rfl ?_
  refine o_assign gn rfl rfl ?_
  refine o_assign gn rfl rfl ?_
  refine wl_end ?_
  refine w_seq ?_
  refine w_seq ?_
  refine w_region (by kernel_rfl) ?_
  refine o_move gn rfl rfl ?_
  refine o_not gn rfl rfl ?_
  refine o_move gn rfl rfl ?_
  refine o_or (n := 5) rfl rfl rfl gn rfl (fun hb => by
      refine o_move (gy rfl rfl rfl hb) rfl rfl ?_
      refine o_call [_] (gy rfl rfl rfl hb) rfl rfl (by kernel_rfl) rfl (c_pure (c48 xs) ⟨ag0, ?_⟩)
      refine o_move (gy rfl rfl rfl hb) rfl rfl ?_
      refine o_len (gy rfl rfl rfl hb) rfl rfl (by kernel_rfl) ?_
      refine o_nei (gy rfl rfl rfl hb) rfl rfl rfl ?_
      exact wl_end ⟨rfl, rfl, 5, rfl, rfl⟩) ?_
  refine o_move gn rfl rfl ?_
  refine o_or (n := 5) rfl rfl rfl gn rfl (fun hb => by
      refine o_move (gy rfl rfl rfl hb) rfl rfl ?_
      refine o_call [_] (gy rfl rfl rfl hb) rfl rfl (by kernel_rfl) rfl (c_pure (c44 xs (by omega)) ⟨ag0, ?_⟩)
      refine o_move (gy rfl rfl rfl hb) rfl rfl ?_
      refine o_len (gy rfl rfl rfl hb) rfl rfl (by kernel_rfl) ?_
      refine o_nei (gy rfl rfl rfl hb) rfl rfl rfl ?_
      exact wl_end ⟨rfl, rfl, 5, rfl, rfl⟩) ?_
  refine o_move gn rfl rfl ?_
  refine wl_split (dc := 29) rfl (fun hb29 => ?_) fun hb29 => ?_
  · skip
    simp at hb29
  · skip
    refine o_move (gy rfl rfl rfl hb29) rfl rfl ?_
    refine o_move (gy rfl rfl rfl hb29) rfl rfl ?_
    refine o_call [_] (gy rfl rfl rfl hb29) rfl rfl (by kernel_rfl) rfl (C.mono (c20 (r.ext x1) hn) ?_)
    rintro v2 h2 ⟨B2, s2, f2, x2⟩
    obtain ⟨a2, rfl⟩ := s2.val
    have q1 := (s1.ext x2).src (by simp [List.all_map, List.all_eq_true, cellV])
    have q2 := s2.src (by simp [List.all_map, List.all_eq_true, cellV])
    rw [ns_is] at q1 q2
    have hcp : CP bitsE 21 [.slice a1 (nsV (onesB bs)).length (nsV (onesB bs)).length, .slice a2 (nsV (onesB bs)).length (nsV (onesB bs)).length] h2 (.bool true) := by
      have := c21 q1 q2 (by simp; omega)
      rw [ns_is]
      simpa using this
    have x02 := x1.trans x2
    have r2 := r.ext x02
    obtain ⟨ws2, sw2, Bw2, xs2, _⟩ := x.ext x02
    refine ⟨ag0, ?_⟩
    refine o_call [_, _] (gy rfl rfl rfl hb29) rfl rfl (by kernel_rfl) rfl (c_pure hcp ⟨ag0, ?_⟩)
    refine o_not (gy rfl rfl rfl hb29) rfl rfl ?_
    refine o_pickf gn rfl rfl hb29 rfl ?_
    refine wl_end ?_
    refine w_cond rfl (fun hb => ?_) fun hb => ?_
    · skip
      cases hb
    · skip
      refine w_skip ?_
      refine w_seq ?_
      refine w_seq ?_
      refine w_region (by kernel_rfl) ?_
      refine o_assign gn rfl rfl ?_
      refine wl_end ?_
      refine w_block ?_
      refine w_weak [(0, ptrV b), (1, .slice ar (bsV bs).length (bsV bs).length), (7, iV (-1))] (by repeat (first | exact trivial | refine ⟨rfl, ?_⟩)) ?_
      refine w_loop (fun k l hh => ∃ (i : Int), -1 ≤ i ∧ i ≤ bs.length + 1 ∧ k = (bs.length + 1 - i).toNat ∧ l = [(0, ptrV b), (1, .slice ar (bsV bs).length (bsV bs).length), (7, iV i)] ∧ hh = h2) (n := (bs.length + 2)) ?_ fun k l hh hI => ?_
      · exact ⟨-1, by omega, by omega, by omega, rfl, rfl⟩
      · obtain ⟨i, hi0, hi1, rfl, rfl, e0⟩ := hI
        refine w_seq ?_
        refine w_seq ?_
        refine w_region (by kernel_rfl) ?_
        refine o_move gn rfl rfl ?_
        refine o_move gn rfl rfl ?_
        refine o_len gn rfl rfl (by kernel_rfl) ?_
        refine o_leq gn rfl rfl rfl ?_
        refine wl_end ?_
        refine w_cond rfl (fun hb => ?_) fun hb => ?_
        · skip
          obtain rfl := e0
          have hlt : i ≤ bs.length := by simpa using hb
          refine w_skip ?_
          refine w_seq ?_
          refine w_block ?_
          refine w_seq ?_
          refine w_region (by kernel_rfl) ?_
          refine o_move gn rfl rfl ?_
          refine o_move gn rfl rfl ?_
          refine o_call [_, _] gn rfl rfl (by kernel_rfl) rfl (c_pure (c45 xs2 (by omega)) ⟨ag0, ?_⟩)
          refine o_move gn rfl rfl ?_
          refine o_move gn rfl rfl ?_
          refine o_call [_, _] gn rfl rfl (by kernel_rfl) rfl (c_pure (c47 r2) ⟨ag0, ?_⟩)
          refine o_neb gn rfl rfl rfl (by kernel_rfl) ?_
          refine wl_end ?_
          refine w_cond rfl (fun hb => ?_) fun hb => ?_
          · skip
            simp at hb
          · skip
            refine w_skip ?_
            refine w_region (by kernel_rfl) ?_
            refine o_move gn rfl rfl ?_
            refine o_add gn rfl rfl rfl (by omega) (by omega) ?_
            refine o_assign gn rfl rfl ?_
            refine wl_end ?_
            exact ⟨((bs.length + 1 - (i + 1)).toNat), by omega, _, (by repeat (first | exact trivial | refine ⟨rfl, ?_⟩)), ⟨i + 1, by omega, by omega, rfl, rfl, rfl⟩⟩
        · skip
          refine w_exit ?_
          refine thn_exit ?_
          refine rnd_exit ?_
          refine blk_eq ?_
          refine w_seq ?_
          refine w_region (by kernel_rfl) ?_
          refine o_assign gn rfl rfl ?_
          refine wl_end ?_
          refine w_ret ?_
          refine ⟨.inl rfl, _, rfl, ?_⟩
          exact ⟨rfl, by rw [e0]; exact x02⟩

/-- A set of the program's and one of the document's, of the same bits, apart, and not old. -/
structure TwoS (n0 : Nat) (h : Hp) (b : Nat) (s : Value) (bs : List Bool) (own B : List Nat) : Prop where
  x : SAt h b bs own
  r : RefS h s bs B
  ap : ∀ i, i ∈ own → i ∉ B
  on : ∀ i, i ∈ own → n0 ≤ i
  bn : ∀ i, i ∈ B → n0 ≤ i

theorem TwoS.keep {n0 : Nat} {h h' : Hp} {b : Nat} {s : Value} {bs : List Bool} {own B cs : List Nat} (t : TwoS n0 h b s bs own B) (g : ExtB cs h h') (h1 : ∀ i, i ∈ own → i ∉ cs) (h2 : ∀ i, i ∈ B → i ∉ cs) : TwoS n0 h' b s bs own B :=
  ⟨t.x.keep g h1, t.r.keep g h2, t.ap, t.on, t.bn⟩
theorem TwoS.ext {n0 : Nat} {h h' : Hp} {b : Nat} {s : Value} {bs : List Bool} {own B : List Nat} (t : TwoS n0 h b s bs own B) (g : Ext h h') : TwoS n0 h' b s bs own B := t.keep (g.b []) (by simp) (by simp)
theorem TwoS.lt {n0 : Nat} {h : Hp} {b : Nat} {s : Value} {bs : List Bool} {own B : List Nat} (t : TwoS n0 h b s bs own B) : ∀ i, i ∈ own ∨ i ∈ B → i < h.n := fun i hi => by
  rcases hi with hi | hi
  · exact t.x.lt i hi
  · exact t.r.lt i hi

/-- Both changed, one behind the other one. -/
theorem TwoS.both {n0 : Nat} {h h1 h2 : Hp} {b : Nat} {s : Value} {bs bs' : List Bool} {own B : List Nat} (t : TwoS n0 h b s bs own B) (x1 : SAt h1 b bs' own) (g1 : ExtB own h h1) (r2 : RefS h2 s bs' B) (g2 : ExtB B h1 h2) :
    TwoS n0 h2 b s bs' own B ∧ ExtB (own ++ B) h h2 :=
  ⟨⟨x1.keep g2 t.ap, r2, t.ap, t.on, t.bn⟩, (g1.mono (by simp; grind)).trans (g2.mono (by simp; grind))⟩

def ofB (n : Int) (l : List Int) : List Bool := l.foldl addO (List.replicate n.toNat false)
theorem fold_len : ∀ (l : List Int) (bs : List Bool), (l.foldl addO bs).length = bs.length
  | [], _ => rfl
  | i :: r, bs => by rw [List.foldl_cons, fold_len r, addO_len]
theorem ofB_len (n : Int) (l : List Int) : (ofB n l).length = n.toNat := by rw [ofB, fold_len]; simp

/-- of -/
theorem c7 {h : Hp} {n : Int} {a : Option Addr} {c : Nat} {xs : List Int} (hs : Src h (.slice a xs.length c) (isV xs)) :
    C bitsE 7 [iV n, .slice a xs.length c] h fun v h' => Ext h h' ∧ ((v = .tuple #[.pointer none, .slice none 0 0, .bool false]) ∨
      (n ≤ 600 ∧ ∃ b s own B, v = .tuple #[ptrV b, s, .bool true] ∧ TwoS h.n h' b s (ofB n xs) own B)) := by
  refine c_enter (fu := Tryd.f7) (by kernel_rfl) rfl ?_
  refine w_seq ?_
  refine w_region (by kernel_rfl) ?_
  refine o_assign gn rfl rfl ?_
  refine o_assign gn rfl rfl ?_
  refine o_assign gn rfl rfl ?_
  refine wl_end ?_
  refine w_seq ?_
  refine w_seq ?_
  refine w_region (by kernel_rfl) ?_
  refine o_move gn rfl rfl ?_
  refine o_gtr gn rfl rfl rfl ?_
  refine o_move gn rfl rfl ?_
  refine o_or (n := 3) rfl rfl rfl gn rfl (fun hb => by
      refine o_move (gy rfl rfl rfl hb) rfl rfl ?_
      refine o_len (gy rfl rfl rfl hb) rfl rfl (by kernel_rfl) ?_
      refine o_gtr (gy rfl rfl rfl hb) rfl rfl rfl ?_
      exact wl_end ⟨rfl, rfl, 3, rfl, rfl⟩) ?_
  refine wl_end ?_
  refine w_cond rfl (fun hb => ?_) fun hb => ?_
  · skip
    refine w_seq ?_
    refine w_region (by kernel_rfl) ?_
    refine o_assign gn rfl rfl ?_
    refine o_assign gn rfl rfl ?_
    refine o_assign gn rfl rfl ?_
    refine wl_end ?_
    refine w_ret ?_
    refine ⟨.inl rfl, _, rfl, ?_⟩
    exact ⟨.refl _, .inl rfl⟩
  · skip
    have hsm : n ≤ 600 ∧ xs.length ≤ 200 := by simp at hb; omega
    have hn0 : n.toNat ≤ 600 := by omega
    refine w_skip ?_
    refine w_seq ?_
    refine w_region (by kernel_rfl) ?_
    refine o_move gn rfl rfl ?_
    refine o_call [_] gn rfl rfl (by kernel_rfl) rfl (C.mono (c36 (by omega)) ?_)
    rintro v1 h1 ⟨b, own, rfl, xa, fa, x1⟩
    refine ⟨ag0, ?_⟩
    refine o_move gn rfl rfl ?_
    refine o_call [_] gn rfl rfl (by kernel_rfl) rfl (C.mono (c37 (by omega)) ?_)
    rintro v2 h2 ⟨B, rb, fb, x2⟩
    obtain ⟨ab, rfl⟩ := rb.val
    have x1n := x1.n
    have t0 : TwoS h.n h2 b _ (List.replicate n.toNat false) own B := ⟨xa.ext x2, rb, fun i hi hj => by have := xa.lt i hi; have := fb i hj; omega, fa, fun i hi => by have := fb i hi; omega⟩
    have hcol : ∀ bs : List Bool, bs.length = n.toNat → (bsV bs).length = n.toNat := fun bs hb => by simp [hb]
    refine ⟨ag0, ?_⟩
    refine o_assign gn rfl rfl ?_
    refine o_assign gn rfl rfl ?_
    refine wl_end ?_
    refine w_seq ?_
    refine w_seq ?_
    refine w_region (by kernel_rfl) ?_
    refine o_assign gn rfl rfl ?_
    refine wl_end ?_
    refine w_block ?_
    refine w_weak [(1, .slice a xs.length c), (7, ptrV b), (8, .slice ab (bsV (List.replicate n.toNat false)).length (bsV (List.replicate n.toNat false)).length), (9, iV (0 : Nat))] (by repeat (first | exact trivial | refine ⟨rfl, ?_⟩)) ?_
    refine w_loop (fun k l hh => ∃ (i : Nat) (bs : List Bool), i ≤ xs.length ∧ k = xs.length - i ∧ bs = (xs.take i).foldl addO (List.replicate n.toNat false) ∧ TwoS h.n hh b (.slice ab (bsV (List.replicate n.toNat false)).length (bsV (List.replicate n.toNat false)).length) bs own B ∧ Ext h hh ∧ l = [(1, .slice a xs.length c), (7, ptrV b), (8, .slice ab (bsV (List.replicate n.toNat false)).length (bsV (List.replicate n.toNat false)).length), (9, iV (i : Nat))]) (n := xs.length) ?_ fun k l hh hI => ?_
    · exact ⟨0, _, by omega, by omega, rfl, t0, x1.trans x2, rfl⟩
    · obtain ⟨i, bs, hi, rfl, hbs, ht, hx, rfl⟩ := hI
      refine w_seq ?_
      refine w_seq ?_
      refine w_region (by kernel_rfl) ?_
      refine o_move gn rfl rfl ?_
      refine o_move gn rfl rfl ?_
      refine o_len gn rfl rfl (by kernel_rfl) ?_
      refine o_lss gn rfl rfl rfl ?_
      refine wl_end ?_
      refine w_cond rfl (fun hb => ?_) fun hb => ?_
      · skip
        have hlt : i < xs.length := by simpa using hb
        obtain ⟨bb, o, cs, e, m, rfl, hg, hbb, _, hcs⟩ := hs.at (by simp; omega)
        have hv : ∀ q, q = o + i → cs[q]? = some (iV ((xs[i]?).getD 0)) := fun q hq => by subst hq; exact (hcs i (by simp; omega)).trans (at_int (k := .i64) i hlt rfl)
        have hg2 := (hx.get bb hbb).trans hg
        have hbl : bs.length ≤ 600 := by rw [hbs, fold_len]; simp; omega
        refine w_skip ?_
        refine w_seq ?_
        refine w_block ?_
        refine w_seq ?_
        refine w_region (by kernel_rfl) ?_
        refine o_move gn rfl rfl ?_
        refine o_move gn rfl rfl ?_
        refine o_move gn rfl rfl ?_
        refine o_indexAddr (zz := 1) gn rfl rfl rfl (by kernel_rfl) (by omega) (by omega) ?_
        refine o_load gn rfl rfl (by kernel_rfl) hg2 (hv _ (by omega)) ?_
        refine o_call [_, _] gn rfl rfl (by kernel_rfl) rfl (C.mono (c13 ht.x (by omega)) ?_)
        rintro v3 h3 ⟨rfl, xa3, g3⟩
        have hg3 := (g3.get bb (Nat.lt_of_lt_of_le hbb hx.n) (fun hm => by have := ht.on _ hm; omega)).trans hg2
        refine ⟨ag0, ?_⟩
        refine wl_end ?_
        refine w_region (by kernel_rfl) ?_
        refine o_move gn rfl rfl ?_
        refine o_move gn rfl rfl ?_
        refine o_move gn rfl rfl ?_
        refine o_indexAddr (zz := 1) gn rfl rfl rfl (by kernel_rfl) (by omega) (by omega) ?_
        refine o_load gn rfl rfl (by kernel_rfl) hg3 (hv _ (by omega)) ?_
        refine o_call [_, _] gn rfl rfl (by kernel_rfl) rfl (C.mono (c14 (ht.r.keep g3 fun i hi hj => ht.ap i hj hi)) ?_)
        rintro v4 h4 ⟨rfl, rb4, g4⟩
        obtain ⟨t4, x4⟩ := ht.both xa3 g3 rb4 g4
        refine ⟨ag0, ?_⟩
        refine wl_end ?_
        refine w_region (by kernel_rfl) ?_
        refine o_move gn rfl rfl ?_
        refine o_add gn rfl rfl rfl (by omega) (by omega) ?_
        refine o_assign gn rfl rfl ?_
        refine wl_end ?_
        exact ⟨xs.length - (i + 1), by omega, [(1, .slice (some ⟨bb, o, none⟩) xs.length c), (7, ptrV b), (8, .slice ab (bsV (List.replicate n.toNat false)).length (bsV (List.replicate n.toNat false)).length), (9, iV ((i + 1 : Nat) : Int))], (by repeat (first | exact trivial | refine ⟨rfl, ?_⟩)), i + 1, _, by omega, rfl, by
          rw [List.take_add_one, List.getElem?_eq_getElem hlt, List.foldl_append, ← hbs]; rfl, t4, hx.of x4 (fun j hj => by rcases List.mem_append.1 hj with h1 | h1; exact ht.on j h1; exact ht.bn j h1), rfl⟩
      · skip
        refine w_exit ?_
        refine thn_exit ?_
        refine rnd_exit ?_
        refine blk_eq ?_
        refine w_seq ?_
        refine w_region (by kernel_rfl) ?_
        refine o_move gn rfl rfl ?_
        refine o_move gn rfl rfl ?_
        refine o_assign gn rfl rfl ?_
        refine o_assign gn rfl rfl ?_
        refine o_assign gn rfl rfl ?_
        refine wl_end ?_
        refine w_ret ?_
        refine ⟨.inl rfl, _, rfl, ?_⟩
        have hge : i = xs.length := by have := hi; simp at hb; omega
        subst hge
        rw [List.take_length] at hbs
        subst hbs
        exact ⟨hx, .inr ⟨hsm.1, b, _, own, B, rfl, ht⟩⟩

end Go.Proofs.YtgcapnlfkomgpaaDoor

