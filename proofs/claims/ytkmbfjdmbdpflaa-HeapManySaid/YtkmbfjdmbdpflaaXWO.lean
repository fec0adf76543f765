/- The calculus' rules for the operations: reads, reckoning, new blocks, stores. Conditions: none. -/
import Derived.Test.YtkmbfjdmbdpflaaXW
namespace Go.X

section
variable {E : Env} {fn : FuncId} {nt : Nat} {l l' : Kn} {h h' : Hp} {dr : Bool} {ops : Array Oper} {fin rest : List (Oper × List Oper)} {R : Kn → Hp → Prop} {lt : List Oper}
variable {d : Nat} {ty : TypeId} {pos : String} {af : Array Edge} {gg : Option (Nat × Bool)} {x y z : Operand} {v u : Value} {t : TypeId}

theorem o_move (g : Gd ops l gg) (hd : Nat.blt d nt = true) (hx : evl l x = some v) (q : WL E fn nt dr ops fin rest ((d, v) :: l) h R) : WL E fn nt dr ops fin ((⟨some d, .move x, ty, pos, af, gg⟩, lt) :: rest) l h R :=
  wl_read g rfl (fun _ a => congrArg some (a.ev hx)) (wn hd) q

theorem o_assign (g : Gd ops l gg) (hd : Nat.blt d nt = true) (hx : evl l x = some v) (q : WL E fn nt dr ops fin rest ((d, v) :: l) h R) : WL E fn nt dr ops fin ((⟨some d, .assign x, ty, pos, af, gg⟩, lt) :: rest) l h R :=
  wl_read g rfl (fun _ a => congrArg some (a.ev hx)) (wn hd) q

theorem o_pickt {b : Bool} (g : Gd ops l gg) (hd : Nat.blt d nt = true) (hx : evl l x = some (.bool b)) (hb : b = true) (hy : evl l y = some v) (q : WL E fn nt dr ops fin rest ((d, v) :: l) h R) :
    WL E fn nt dr ops fin ((⟨some d, .pick x y z, ty, pos, af, gg⟩, lt) :: rest) l h R :=
  wl_read g rfl (fun _ a => by subst hb; simp only [readX, a.ev hx, cond_true, a.ev hy]) (wn hd) q

theorem o_pickf {b : Bool} (g : Gd ops l gg) (hd : Nat.blt d nt = true) (hx : evl l x = some (.bool b)) (hb : b = false) (hz : evl l z = some v) (q : WL E fn nt dr ops fin rest ((d, v) :: l) h R) :
    WL E fn nt dr ops fin ((⟨some d, .pick x y z, ty, pos, af, gg⟩, lt) :: rest) l h R :=
  wl_read g rfl (fun _ a => by subst hb; simp only [readX, a.ev hx, cond_false, a.ev hz]) (wn hd) q

theorem o_not {b : Bool} (g : Gd ops l gg) (hd : Nat.blt d nt = true) (hx : evl l x = some (.bool b)) (q : WL E fn nt dr ops fin rest ((d, .bool (!b)) :: l) h R) :
    WL E fn nt dr ops fin ((⟨some d, .unOp .not t x, ty, pos, af, gg⟩, lt) :: rest) l h R :=
  wl_read g rfl (fun _ a => by simp only [readX, a.ev hx, unX, boolV_eq]) (wn hd) q

/-! Reckoning -/
section
variable {k : IntKind} {a b : Int} {op : BinOp} {ty2 : TypeId}

theorem o_int2 (g : Gd ops l gg) (hd : Nat.blt d nt = true) (hx : evl l x = some (.int k a)) (hy : evl l y = some (.int k b)) (hs : isShift op = false) (hv : intBin op k a b = some v)
    (q : WL E fn nt dr ops fin rest ((d, v) :: l) h R) : WL E fn nt dr ops fin ((⟨some d, .binOp op t x y ty2, ty, pos, af, gg⟩, lt) :: rest) l h R :=
  wl_read g rfl (fun _ ag => by simp only [readX, ag.ev hx, ag.ev hy, binX, hs, cond_false, kindEq_refl, cond_true, hv]) (wn hd) q

theorem o_lss (g : Gd ops l gg) (hd : Nat.blt d nt = true) (hx : evl l x = some (.int k a)) (hy : evl l y = some (.int k b)) (q : WL E fn nt dr ops fin rest ((d, .bool (decide (a < b))) :: l) h R) :
    WL E fn nt dr ops fin ((⟨some d, .binOp .lss t x y ty2, ty, pos, af, gg⟩, lt) :: rest) l h R := o_int2 g hd hx hy rfl (by simp only [intBin, boolV_eq]) q
theorem o_leq (g : Gd ops l gg) (hd : Nat.blt d nt = true) (hx : evl l x = some (.int k a)) (hy : evl l y = some (.int k b)) (q : WL E fn nt dr ops fin rest ((d, .bool (decide (a ≤ b))) :: l) h R) :
    WL E fn nt dr ops fin ((⟨some d, .binOp .leq t x y ty2, ty, pos, af, gg⟩, lt) :: rest) l h R := o_int2 g hd hx hy rfl (by simp only [intBin, boolV_eq]) q
theorem o_gtr (g : Gd ops l gg) (hd : Nat.blt d nt = true) (hx : evl l x = some (.int k a)) (hy : evl l y = some (.int k b)) (q : WL E fn nt dr ops fin rest ((d, .bool (decide (b < a))) :: l) h R) :
    WL E fn nt dr ops fin ((⟨some d, .binOp .gtr t x y ty2, ty, pos, af, gg⟩, lt) :: rest) l h R := o_int2 g hd hx hy rfl (by simp only [intBin, boolV_eq, gt_iff_lt]) q
theorem o_geq (g : Gd ops l gg) (hd : Nat.blt d nt = true) (hx : evl l x = some (.int k a)) (hy : evl l y = some (.int k b)) (q : WL E fn nt dr ops fin rest ((d, .bool (decide (b ≤ a))) :: l) h R) :
    WL E fn nt dr ops fin ((⟨some d, .binOp .geq t x y ty2, ty, pos, af, gg⟩, lt) :: rest) l h R := o_int2 g hd hx hy rfl (by simp only [intBin, boolV_eq, ge_iff_le]) q
theorem o_eqi (g : Gd ops l gg) (hd : Nat.blt d nt = true) (hx : evl l x = some (.int k a)) (hy : evl l y = some (.int k b)) (q : WL E fn nt dr ops fin rest ((d, .bool (decide (a = b))) :: l) h R) :
    WL E fn nt dr ops fin ((⟨some d, .binOp .eql t x y ty2, ty, pos, af, gg⟩, lt) :: rest) l h R := o_int2 g hd hx hy rfl (by simp only [intBin, boolV_eq]; rfl) q
theorem o_nei (g : Gd ops l gg) (hd : Nat.blt d nt = true) (hx : evl l x = some (.int k a)) (hy : evl l y = some (.int k b)) (q : WL E fn nt dr ops fin rest ((d, .bool (!decide (a = b))) :: l) h R) :
    WL E fn nt dr ops fin ((⟨some d, .binOp .neq t x y ty2, ty, pos, af, gg⟩, lt) :: rest) l h R := o_int2 g hd hx hy rfl (by simp only [intBin, boolV_eq]; rfl) q

theorem wrap64 {n : Int} (h1 : -9223372036854775808 ≤ n) (h2 : n < 9223372036854775808) : IntKind.i64.wrap n = n := IntWalk.i64_in n ⟨by omega, by omega⟩

theorem o_add (g : Gd ops l gg) (hd : Nat.blt d nt = true) (hx : evl l x = some (.int .i64 a)) (hy : evl l y = some (.int .i64 b)) (h1 : -9223372036854775808 ≤ a + b) (h2 : a + b < 9223372036854775808)
    (q : WL E fn nt dr ops fin rest ((d, .int .i64 (a + b)) :: l) h R) :
    WL E fn nt dr ops fin ((⟨some d, .binOp .add t x y ty2, ty, pos, af, gg⟩, lt) :: rest) l h R := o_int2 g hd hx hy rfl (by simp only [intBin, someI_eq, wrapX_eq, wrap64 h1 h2]) q
theorem o_sub (g : Gd ops l gg) (hd : Nat.blt d nt = true) (hx : evl l x = some (.int .i64 a)) (hy : evl l y = some (.int .i64 b)) (h1 : -9223372036854775808 ≤ a - b) (h2 : a - b < 9223372036854775808)
    (q : WL E fn nt dr ops fin rest ((d, .int .i64 (a - b)) :: l) h R) :
    WL E fn nt dr ops fin ((⟨some d, .binOp .sub t x y ty2, ty, pos, af, gg⟩, lt) :: rest) l h R := o_int2 g hd hx hy rfl (by simp only [intBin, someI_eq, wrapX_eq, wrap64 h1 h2]) q
theorem o_mul (g : Gd ops l gg) (hd : Nat.blt d nt = true) (hx : evl l x = some (.int .i64 a)) (hy : evl l y = some (.int .i64 b)) (h1 : -9223372036854775808 ≤ a * b) (h2 : a * b < 9223372036854775808)
    (q : WL E fn nt dr ops fin rest ((d, .int .i64 (a * b)) :: l) h R) :
    WL E fn nt dr ops fin ((⟨some d, .binOp .mul t x y ty2, ty, pos, af, gg⟩, lt) :: rest) l h R := o_int2 g hd hx hy rfl (by simp only [intBin, someI_eq, wrapX_eq, wrap64 h1 h2]) q
theorem o_rem (g : Gd ops l gg) (hd : Nat.blt d nt = true) (hx : evl l x = some (.int k a)) (hy : evl l y = some (.int k b)) (h1 : b ≠ 0)
    (q : WL E fn nt dr ops fin rest ((d, .int k (a.tmod b)) :: l) h R) :
    WL E fn nt dr ops fin ((⟨some d, .binOp .rem t x y ty2, ty, pos, af, gg⟩, lt) :: rest) l h R := o_int2 g hd hx hy rfl (by simp only [intBin, someI_eq, h1, decide_false, cond_false]) q

theorem o_max {as : Array TypeId} (g : Gd ops l gg) (hd : Nat.blt d nt = true) (hx : evl l x = some (.int k a)) (hy : evl l y = some (.int k b)) (q : WL E fn nt dr ops fin rest ((d, .int k (max a b)) :: l) h R) :
    WL E fn nt dr ops fin ((⟨some d, .call ⟨.builtin .max, #[x, y], as⟩, ty, pos, af, gg⟩, lt) :: rest) l h R :=
  wl_read g rfl (fun _ ag => by
    simp only [readX, List.map_cons, List.map_nil, ag.ev hx, ag.ev hy, foldX, max2X, someI_eq]
    have : (if b > a then b else a) = max a b := by rw [Int.max_def]; split <;> split <;> omega
    rw [this]) (wn hd) q
theorem o_min {as : Array TypeId} (g : Gd ops l gg) (hd : Nat.blt d nt = true) (hx : evl l x = some (.int k a)) (hy : evl l y = some (.int k b)) (q : WL E fn nt dr ops fin rest ((d, .int k (min a b)) :: l) h R) :
    WL E fn nt dr ops fin ((⟨some d, .call ⟨.builtin .min, #[x, y], as⟩, ty, pos, af, gg⟩, lt) :: rest) l h R :=
  wl_read g rfl (fun _ ag => by
    simp only [readX, List.map_cons, List.map_nil, ag.ev hx, ag.ev hy, foldX, min2X, someI_eq]
    have : (if b < a then b else a) = min a b := by rw [Int.min_def]; split <;> split <;> omega
    rw [this]) (wn hd) q
end

/-! Types, as they are asked for -/
def isB (E : Env) (t : TypeId) : Bool := match E.und t with | some .bool => true | _ => false
def isP (E : Env) (t : TypeId) : Bool := match E.und t with | some (.pointer _) => true | _ => false
def isS (E : Env) (t : TypeId) : Bool := match E.und t with | some (.slice _) => true | _ => false
def isStr (E : Env) (t : TypeId) : Bool := match E.und t with | some .string => true | _ => false
/-- One cell. -/
def isC (E : Env) (t : TypeId) : Bool := match E.und t with | some d => !aggDesc d | _ => false
def isA (E : Env) (t : TypeId) : Bool := match E.und t with | some d => aggDesc d | _ => false
/-- A slice's, or an array's, elements' size. -/
def elemZ (E : Env) (t : TypeId) : Option Nat := match E.und t with
  | some (.slice e) => E.size e
  | _ => none
def arrZ (E : Env) (t : TypeId) : Option (Nat × TypeId × Nat) := match E.und t with
  | some (.array n e) => (match E.size e with | some z => some (n, e, z) | none => none)
  | _ => none
def fOff (E : Env) (t : TypeId) (i : Nat) : Option Nat := match E.und t with
  | some (.struct fs) => (match fs[i]? with
    | some f => (match E.size f.type with
      | some (_ + 1) => some f.offset
      | _ => none)
    | none => none)
  | _ => none

theorem isP_und (hp : isP E t = true) : ∃ e, E.und t = some (.pointer e) := by
  unfold isP at hp; split at hp
  · exact ⟨_, ‹_›⟩
  · cases hp
theorem isS_und (hp : isS E t = true) : ∃ e, E.und t = some (.slice e) := by
  unfold isS at hp; split at hp
  · exact ⟨_, ‹_›⟩
  · cases hp
theorem isB_und (hp : isB E t = true) : E.und t = some .bool := by
  unfold isB at hp; split at hp
  · assumption
  · cases hp
theorem isStr_und (hp : isStr E t = true) : E.und t = some .string := by
  unfold isStr at hp; split at hp
  · assumption
  · cases hp
theorem isC_und (hp : isC E t = true) : ∃ e, E.und t = some e ∧ aggDesc e = false := by
  unfold isC at hp; split at hp
  · exact ⟨_, ‹_›, by simpa using hp⟩
  · cases hp
theorem isA_und (hp : isA E t = true) : ∃ e, E.und t = some e ∧ aggDesc e = true := by
  unfold isA at hp; split at hp
  · exact ⟨_, ‹_›, by simpa using hp⟩
  · cases hp
theorem elemZ_und {n : Nat} (hp : elemZ E t = some n) : ∃ e, E.und t = some (.slice e) ∧ E.size e = some n := by
  unfold elemZ at hp; split at hp
  · exact ⟨_, ‹_›, hp⟩
  · cases hp

section
variable {op : BinOp} {ty2 : TypeId}

theorem o_eqb {a b : Bool} (g : Gd ops l gg) (hd : Nat.blt d nt = true) (hx : evl l x = some (.bool a)) (hy : evl l y = some (.bool b)) (hb : isB E t = true)
    (q : WL E fn nt dr ops fin rest ((d, .bool (a == b)) :: l) h R) : WL E fn nt dr ops fin ((⟨some d, .binOp .eql t x y ty2, ty, pos, af, gg⟩, lt) :: rest) l h R :=
  wl_read g rfl (fun _ ag => by simp only [readX, ag.ev hx, ag.ev hy, binX, equalX, isB_und hb, boolV_eq]) (wn hd) q
theorem o_neb {a b : Bool} (g : Gd ops l gg) (hd : Nat.blt d nt = true) (hx : evl l x = some (.bool a)) (hy : evl l y = some (.bool b)) (hb : isB E t = true)
    (q : WL E fn nt dr ops fin rest ((d, .bool (!(a == b))) :: l) h R) : WL E fn nt dr ops fin ((⟨some d, .binOp .neq t x y ty2, ty, pos, af, gg⟩, lt) :: rest) l h R :=
  wl_read g rfl (fun _ ag => by simp only [readX, ag.ev hx, ag.ev hy, binX, equalX, isB_und hb, boolV_eq]) (wn hd) q

theorem o_eqp {a : Option Addr} (g : Gd ops l gg) (hd : Nat.blt d nt = true) (hx : evl l x = some (.pointer a)) (hy : evl l y = some (.pointer none)) (hb : isP E t = true)
    (q : WL E fn nt dr ops fin rest ((d, .bool a.isNone) :: l) h R) : WL E fn nt dr ops fin ((⟨some d, .binOp .eql t x y ty2, ty, pos, af, gg⟩, lt) :: rest) l h R :=
  wl_read g rfl (fun _ ag => by
    obtain ⟨e, he⟩ := isP_und hb
    cases a <;> simp only [readX, ag.ev hx, ag.ev hy, binX, equalX, he, boolV_eq, Option.isNone]) (wn hd) q
theorem o_nep {a : Option Addr} (g : Gd ops l gg) (hd : Nat.blt d nt = true) (hx : evl l x = some (.pointer a)) (hy : evl l y = some (.pointer none)) (hb : isP E t = true)
    (q : WL E fn nt dr ops fin rest ((d, .bool a.isSome) :: l) h R) : WL E fn nt dr ops fin ((⟨some d, .binOp .neq t x y ty2, ty, pos, af, gg⟩, lt) :: rest) l h R :=
  wl_read g rfl (fun _ ag => by
    obtain ⟨e, he⟩ := isP_und hb
    cases a <;> simp only [readX, ag.ev hx, ag.ev hy, binX, equalX, he, boolV_eq, Option.isNone, Option.isSome, Bool.not_true, Bool.not_false]) (wn hd) q

theorem o_eqs {a : Option Addr} {n c : Nat} (g : Gd ops l gg) (hd : Nat.blt d nt = true) (hx : evl l x = some (.slice a n c)) (hy : evl l y = some (.slice none 0 0)) (hb : isS E t = true)
    (q : WL E fn nt dr ops fin rest ((d, .bool a.isNone) :: l) h R) : WL E fn nt dr ops fin ((⟨some d, .binOp .eql t x y ty2, ty, pos, af, gg⟩, lt) :: rest) l h R :=
  wl_read g rfl (fun _ ag => by
    obtain ⟨e, he⟩ := isS_und hb
    cases a <;> simp only [readX, ag.ev hx, ag.ev hy, binX, equalX, he, boolV_eq, Option.isNone]) (wn hd) q
theorem o_nes {a : Option Addr} {n c : Nat} (g : Gd ops l gg) (hd : Nat.blt d nt = true) (hx : evl l x = some (.slice a n c)) (hy : evl l y = some (.slice none 0 0)) (hb : isS E t = true)
    (q : WL E fn nt dr ops fin rest ((d, .bool a.isSome) :: l) h R) : WL E fn nt dr ops fin ((⟨some d, .binOp .neq t x y ty2, ty, pos, af, gg⟩, lt) :: rest) l h R :=
  wl_read g rfl (fun _ ag => by
    obtain ⟨e, he⟩ := isS_und hb
    cases a <;> simp only [readX, ag.ev hx, ag.ev hy, binX, equalX, he, boolV_eq, Option.isNone, Option.isSome, Bool.not_true, Bool.not_false]) (wn hd) q

end

theorem o_len {a : Option Addr} {n c : Nat} (g : Gd ops l gg) (hd : Nat.blt d nt = true) (hx : evl l x = some (.slice a n c)) (hb : isS E t = true)
    (q : WL E fn nt dr ops fin rest ((d, .int .i64 (n : Nat)) :: l) h R) : WL E fn nt dr ops fin ((⟨some d, .call ⟨.builtin .len, #[x], #[t]⟩, ty, pos, af, gg⟩, lt) :: rest) l h R :=
  wl_read g rfl (fun _ ag => by
    obtain ⟨e, he⟩ := isS_und hb
    simp only [readX, List.map_cons, List.map_nil, ag.ev hx, lenX, he, someI_eq, List.getElem?_toArray, List.getElem?_cons_zero]) (wn hd) q

theorem o_lenstr {s : ByteArray} (g : Gd ops l gg) (hd : Nat.blt d nt = true) (hx : evl l x = some (.string s)) (hb : isStr E t = true)
    (q : WL E fn nt dr ops fin rest ((d, .int .i64 (s.size : Nat)) :: l) h R) : WL E fn nt dr ops fin ((⟨some d, .call ⟨.builtin .len, #[x], #[t]⟩, ty, pos, af, gg⟩, lt) :: rest) l h R :=
  wl_read g rfl (fun _ ag => by
    simp only [readX, List.map_cons, List.map_nil, ag.ev hx, lenX, isStr_und hb, someI_eq, List.getElem?_toArray, List.getElem?_cons_zero]) (wn hd) q

theorem o_nilCheck {a : Addr} (g : Gd ops l gg) (hd : Nat.blt d nt = true) (hx : evl l x = some (.pointer (some a))) (q : WL E fn nt dr ops fin rest ((d, .pointer (some a)) :: l) h R) :
    WL E fn nt dr ops fin ((⟨some d, .nilCheck x, ty, pos, af, gg⟩, lt) :: rest) l h R :=
  wl_read g rfl (fun _ ag => by simp only [readX, ag.ev hx]) (wn hd) q

theorem addr_add (b o k : Nat) : (⟨b, o, none⟩ : Addr).add k = ⟨b, o + k, none⟩ := by
  unfold Addr.add
  split
  · rename_i e; subst e; rfl
  · rfl

theorem o_fieldAddr {b o i off : Nat} (g : Gd ops l gg) (hd : Nat.blt d nt = true) (hx : evl l x = some (.pointer (some ⟨b, o, none⟩))) (ho : fOff E t i = some off)
    (q : WL E fn nt dr ops fin rest ((d, .pointer (some ⟨b, o + off, none⟩)) :: l) h R) : WL E fn nt dr ops fin ((⟨some d, .fieldAddr t x i, ty, pos, af, gg⟩, lt) :: rest) l h R :=
  wl_read g rfl (fun _ ag => by
    unfold fOff at ho
    split at ho
    · rename_i fs hu
      split at ho
      · rename_i f hf
        split at ho
        · rename_i n hs
          cases ho
          simp only [readX, ag.ev hx, fieldAddrX, hu, hf, hs, addr_add]
        · cases ho
      · cases ho
    · cases ho) (wn hd) q

theorem natOf_int {k : IntKind} {j : Int} (hj : 0 ≤ j) : natOf (.int k j) = some j.toNat := by
  cases j with
  | ofNat n => rfl
  | negSucc n => exact absurd hj (by omega)

theorem o_indexAddr {b o n c zz : Nat} {k : IntKind} {j : Int} (g : Gd ops l gg) (hd : Nat.blt d nt = true) (hx : evl l x = some (.slice (some ⟨b, o, none⟩) n c)) (hy : evl l y = some (.int k j))
    (hz : elemZ E t = some zz) (h1 : 0 ≤ j) (h2 : j < n)
    (q : WL E fn nt dr ops fin rest ((d, .pointer (some ⟨b, o + j.toNat * zz, none⟩)) :: l) h R) : WL E fn nt dr ops fin ((⟨some d, .indexAddr t x y, ty, pos, af, gg⟩, lt) :: rest) l h R :=
  wl_read g rfl (fun _ ag => by
    obtain ⟨e, he, hs⟩ := elemZ_und hz
    have hlt : Nat.blt j.toNat n = true := (blt_iff _ _).2 (by omega)
    simp only [readX, ag.ev hx, ag.ev hy, indexAddrX, natOf_int h1, he, hs, hlt, cond_true, addr_add]) (wn hd) q

theorem o_indexAddrA {b o n e zz : Nat} {k : IntKind} {j : Int} (g : Gd ops l gg) (hd : Nat.blt d nt = true) (hx : evl l x = some (.pointer (some ⟨b, o, none⟩))) (hy : evl l y = some (.int k j))
    (hz : arrZ E t = some (n, e, zz)) (h1 : 0 ≤ j) (h2 : j < n)
    (q : WL E fn nt dr ops fin rest ((d, .pointer (some ⟨b, o + j.toNat * zz, none⟩)) :: l) h R) : WL E fn nt dr ops fin ((⟨some d, .indexAddr t x y, ty, pos, af, gg⟩, lt) :: rest) l h R :=
  wl_read g rfl (fun _ ag => by
    unfold arrZ at hz
    split at hz
    · rename_i n' e' hu
      split at hz
      · rename_i z hs
        cases hz
        have hlt : Nat.blt j.toNat n = true := (blt_iff _ _).2 (by omega)
        simp only [readX, ag.ev hx, ag.ev hy, indexAddrX, natOf_int h1, hu, hs, hlt, cond_true, addr_add]
      · cases hz
    · cases hz) (wn hd) q

/-- An element of an array that is a value. -/
theorem o_index {n e zz : Nat} {k : IntKind} {j : Int} {cs : Array Value} (g : Gd ops l gg) (hd : Nat.blt d nt = true) (hx : evl l x = some (.agg cs)) (hy : evl l y = some (.int k j))
    (hz : arrZ E t = some (n, e, zz)) (h1 : 0 ≤ j) (h2 : j < n) (hv : partX E e cs (j.toNat * zz) = some v)
    (q : WL E fn nt dr ops fin rest ((d, v) :: l) h R) : WL E fn nt dr ops fin ((⟨some d, .index t x y, ty, pos, af, gg⟩, lt) :: rest) l h R :=
  wl_read g rfl (fun _ ag => by
    unfold arrZ at hz
    split at hz
    · rename_i n' e' hu
      split at hz
      · rename_i z hs
        cases hz
        have hlt : Nat.blt j.toNat n = true := (blt_iff _ _).2 (by omega)
        simp only [readX, ag.ev hx, ag.ev hy, indexX, natOf_int h1, hu, hs, hlt, cond_true, hv]
      · cases hz
    · cases hz) (wn hd) q

theorem o_field {cs : Array Value} {i : Nat} (g : Gd ops l gg) (hd : Nat.blt d nt = true) (hx : evl l x = some (.agg cs)) (hv : fieldX E t (.agg cs) i = some v)
    (q : WL E fn nt dr ops fin rest ((d, v) :: l) h R) : WL E fn nt dr ops fin ((⟨some d, .field t x i, ty, pos, af, gg⟩, lt) :: rest) l h R :=
  wl_read g rfl (fun _ ag => by simp only [readX, ag.ev hx, hv]) (wn hd) q

theorem o_convert {k : IntKind} {n : Int} {s : TypeId} {m : IntKind} (g : Gd ops l gg) (hd : Nat.blt d nt = true) (hx : evl l x = some (.int m n)) (ht : E.und t = some (.int k)) (hs : (E.und s).isSome = true)
    (q : WL E fn nt dr ops fin rest ((d, .int k (k.wrap n)) :: l) h R) : WL E fn nt dr ops fin ((⟨some d, .convert s t x, ty, pos, af, gg⟩, lt) :: rest) l h R :=
  wl_read g (by simp only [cls, ht]) (fun _ ag => by
    obtain ⟨sd, hsd⟩ := Option.isSome_iff_exists.1 hs
    simp only [readX, ag.ev hx, convertX, hsd, ht, someI_eq, wrapX_eq]) (wn hd) q

/-! Loads -/

theorem take_drop_one {l : List Value} {o : Nat} {v : Value} (h : l[o]? = some v) : (l.drop o).take 1 = [v] := by
  obtain ⟨hlt, rfl⟩ := List.getElem?_eq_some_iff.1 h
  rw [List.drop_eq_getElem_cons hlt]; rfl

theorem loadX_cell {b o : Nat} {cs : List Value} {e : TypeId} {m : Nat} (hc : isC E t = true) (hg : h.get b = some (.cells cs e m)) (hv : cs[o]? = some v) : loadX E t ⟨b, o, none⟩ h = some v := by
  obtain ⟨e, he, ha⟩ := isC_und hc
  have hlt := (List.getElem?_eq_some_iff.1 hv).1
  have : Nat.ble (o + 1) cs.length = true := (ble_iff _ _).2 hlt
  simp only [loadX, he, ha, rowOf, hg, this, cond_true, take_drop_one hv]

theorem o_load {b o : Nat} {cs : List Value} {e : TypeId} {m : Nat} (g : Gd ops l gg) (hd : Nat.blt d nt = true) (hx : evl l x = some (.pointer (some ⟨b, o, none⟩))) (hc : isC E t = true)
    (hg : h.get b = some (.cells cs e m)) (hv : cs[o]? = some v) (q : WL E fn nt dr ops fin rest ((d, v) :: l) h R) :
    WL E fn nt dr ops fin ((⟨some d, .load t x, ty, pos, af, gg⟩, lt) :: rest) l h R :=
  wl_read g rfl (fun _ ag => by simp only [readX, ag.ev hx, loadX_cell hc hg hv]) (wn hd) q

theorem loadX_agg {b o n : Nat} {cs : List Value} {e : TypeId} {m : Nat} (hc : isA E t = true) (hn : E.size t = some n) (hg : h.get b = some (.cells cs e m)) (hv : o + n ≤ cs.length) :
    loadX E t ⟨b, o, none⟩ h = some (.agg ((cs.drop o).take n).toArray) := by
  obtain ⟨e, he, ha⟩ := isA_und hc
  have : Nat.ble (o + n) cs.length = true := (ble_iff _ _).2 hv
  simp only [loadX, he, ha, hn, rowOf, hg, this, cond_true]

theorem o_loadA {b o n : Nat} {cs : List Value} {e : TypeId} {m : Nat} (g : Gd ops l gg) (hd : Nat.blt d nt = true) (hx : evl l x = some (.pointer (some ⟨b, o, none⟩))) (hc : isA E t = true) (hn : E.size t = some n)
    (hg : h.get b = some (.cells cs e m)) (hv : o + n ≤ cs.length) (q : WL E fn nt dr ops fin rest ((d, .agg ((cs.drop o).take n).toArray) :: l) h R) :
    WL E fn nt dr ops fin ((⟨some d, .load t x, ty, pos, af, gg⟩, lt) :: rest) l h R :=
  wl_read g rfl (fun _ ag => by simp only [readX, ag.ev hx, loadX_agg hc hn hg hv]) (wn hd) q

/-- A load that is made again. -/
theorem ag_load {b o : Nat} {cs : List Value} {e : TypeId} {m : Nat} (g : Gd ops l gg) (hx : evl l x = some (.pointer (some ⟨b, o, none⟩))) (hc : isC E t = true)
    (hg : h.get b = some (.cells cs e m)) (hv : cs[o]? = some v) (hl : lk l d = some v) (hs : sameV 20 v v = true) : Again E ops l h ⟨some d, .load t x, ty, pos, af, gg⟩ :=
  .inr ⟨g, v, d, rfl, hl, hs, fun _ ag => by simp only [readX, ag.ev hx, loadX_cell hc hg hv]⟩
theorem ag_len {a : Option Addr} {n c : Nat} (g : Gd ops l gg) (hx : evl l x = some (.slice a n c)) (hb : isS E t = true) (hl : lk l d = some (.int .i64 (n : Nat))) :
    Again E ops l h ⟨some d, .call ⟨.builtin .len, #[x], #[t]⟩, ty, pos, af, gg⟩ :=
  .inr ⟨g, _, d, rfl, hl, by simp [sameV, kindEq], fun _ ag => by
    obtain ⟨e, he⟩ := isS_und hb
    simp only [readX, List.map_cons, List.map_nil, ag.ev hx, lenX, he, someI_eq, List.getElem?_toArray, List.getElem?_cons_zero]⟩

theorem ag_max {k : IntKind} {a b : Int} {as : Array TypeId} (g : Gd ops l gg) (hx : evl l x = some (.int k a)) (hy : evl l y = some (.int k b)) (hl : lk l d = some (.int k (max a b))) :
    Again E ops l h ⟨some d, .call ⟨.builtin .max, #[x, y], as⟩, ty, pos, af, gg⟩ :=
  .inr ⟨g, _, d, rfl, hl, by simp [sameV, kindEq_refl], fun _ ag => by
    simp only [readX, List.map_cons, List.map_nil, ag.ev hx, ag.ev hy, foldX, max2X, someI_eq]
    have : (if b > a then b else a) = max a b := by rw [Int.max_def]; split <;> split <;> omega
    rw [this]⟩

theorem partX_agg {n off : Nat} {cs : Array Value} (hA : isA E t = true) (hn : E.size t = some n) : partX E t cs off = some (.agg (cs.extract off (off + n))) := by
  obtain ⟨e, he, ha⟩ := isA_und hA
  simp only [partX, he, ha, hn]
theorem partX_cell {off : Nat} {cs : Array Value} (hA : isC E t = true) : partX E t cs off = cs[off]? := by
  obtain ⟨e, he, ha⟩ := isC_und hA
  simp only [partX, he, ha]

theorem ag0 : ∀ q, q ∈ ([] : List Oper) → Again E ops l h q := fun q hq => by cases hq
theorem ag1 {q : Oper} {r : List Oper} (a : Again E ops l h q) (as : ∀ q, q ∈ r → Again E ops l h q) : ∀ p, p ∈ q :: r → Again E ops l h p := fun p hp => by
  rcases List.mem_cons.1 hp with rfl | hp
  · exact a
  · exact as p hp

theorem same_int {k : IntKind} {n : Int} : sameV 20 (.int k n) (.int k n) = true := by simp [sameV, kindEq_refl]
theorem same_bool {b : Bool} : sameV 20 (.bool b) (.bool b) = true := by simp [sameV]
theorem same_slice {a : Option Addr} {n c : Nat} : sameV 20 (.slice a n c) (.slice a n c) = true := by cases a <;> simp [sameV]
theorem same_ptr {a : Option Addr} : sameV 20 (.pointer a) (.pointer a) = true := by cases a <;> simp [sameV]

/-! New blocks -/

theorem o_alloc {e : TypeId} {zv : Value} (g : Gd ops l gg) (hd : Nat.blt d nt = true) (hz : E.zero e = some zv)
    (q : WL E fn nt dr ops fin rest ((d, .pointer (some ⟨h.n, 0, none⟩)) :: l) (h.alloc (.cells zv.cells.toList e 0)) R) :
    WL E fn nt dr ops fin ((⟨some d, .alloc e, ty, pos, af, gg⟩, lt) :: rest) l h R :=
  wl_alloc (f := ptrTo) g rfl (fun _ _ => by simp only [allocX, hz, cellsObj]) (wn hd) q

theorem o_box {e : TypeId} (g : Gd ops l gg) (hd : Nat.blt d nt = true) (hx : evl l x = some v)
    (q : WL E fn nt dr ops fin rest ((d, .pointer (some ⟨h.n, 0, none⟩)) :: l) (h.alloc (.cells v.cells.toList e 0)) R) :
    WL E fn nt dr ops fin ((⟨some d, .box e x, ty, pos, af, gg⟩, lt) :: rest) l h R :=
  wl_alloc (f := ptrTo) g rfl (fun _ ag => by simp only [allocX, ag.ev hx, cellsObj]) (wn hd) q

def partsOf (E : Env) (t : TypeId) : Option (List (Nat × Nat)) := match E.und t with
  | some (.struct fs) => fs.toList.mapM fun f => (E.size f.type).map fun n => (f.offset, n)
  | _ => none

theorem evs_parts {tm : Tr Value} (ag : Ag tm l) : ∀ {ps : List (Nat × Operand)} {pv : List (Nat × Value)}, ps.map (fun p => (p.1, evl l p.2)) = pv.map (fun p => (p.1, some p.2)) →
    (ps.map fun (p : Nat × Operand) => (p.1, ev tm p.2)) = pv
  | [], [], _ => rfl
  | [], _ :: _, h => by simp at h
  | _ :: _, [], h => by simp at h
  | p :: ps, q :: pv, h => by
    simp only [List.map_cons, List.cons.injEq, Prod.mk.injEq] at h
    rw [List.map_cons, evs_parts ag h.2, ag.ev h.1.2, h.1.1]

theorem o_build {ps : Array (Nat × Operand)} {pl : List (Nat × Nat)} {zv : Value} {cs : Array Value} (pv : List (Nat × Value)) (g : Gd ops l gg) (hd : Nat.blt d nt = true) (hz : E.zero t = some zv)
    (hp : partsOf E t = some pl) (hv : ps.toList.map (fun p => (p.1, evl l p.2)) = pv.map (fun p => (p.1, some p.2))) (hf : Instr.fill (fun i => pl[i]?) zv.cells pv = some cs)
    (q : WL E fn nt dr ops fin rest ((d, .agg cs) :: l) h R) : WL E fn nt dr ops fin ((⟨some d, .build t ps, ty, pos, af, gg⟩, lt) :: rest) l h R :=
  wl_read g rfl (fun _ ag => by
    unfold partsOf at hp
    split at hp
    · rename_i fs hu
      simp only [readX, hz, hu, hp, evs_parts ag hv, hf]
    · cases hp) (wn hd) q

theorem o_buildSlice {ps : Array (Nat × Operand)} {n : Nat} {e z : Nat} {zv : Value} {cs : Array Value} (pv : List (Nat × Value)) (g : Gd ops l gg) (hd : Nat.blt d nt = true) (hu : E.und t = some (.slice e)) (hs : E.size e = some (z + 1))
    (hz : E.zero e = some zv) (hn : (Nat.ble (n * (z + 1)) (2 ^ 24) && Nat.beq zv.cells.size (z + 1)) = true)
    (hv : ps.toList.map (fun p => (p.1, evl l p.2)) = pv.map (fun p => (p.1, some p.2))) (hf : Instr.fill (fun i => some (i * (z + 1), z + 1)) (repeatCells zv.cells.toList n).toArray pv = some cs)
    (q : WL E fn nt dr ops fin rest ((d, .slice (some ⟨h.n, 0, none⟩) n n) :: l) (h.alloc (.cells cs.toList e 0)) R) : WL E fn nt dr ops fin ((⟨some d, .buildSlice t n ps, ty, pos, af, gg⟩, lt) :: rest) l h R :=
  wl_alloc (f := fun i => .slice (some ⟨i, 0, none⟩) n n) g rfl (fun _ ag => by
    simp only [allocX, hu, hs, hz, hn, cond_true, evs_parts ag hv, hf, cellsObj]) (wn hd) q

theorem o_makeSlice {k k' : IntKind} {n c : Int} {e z by' : Nat} {zv : Value} (g : Gd ops l gg) (hd : Nat.blt d nt = true) (hx : evl l x = some (.int k n)) (hy : evl l y = some (.int k' c)) (hu : E.und t = some (.slice e)) (hs : E.size e = some (z + 1))
    (hz : E.zero e = some zv) (hb : E.bytes e = some by') (hzs : zv.cells.size = z + 1) (h0 : 0 ≤ n) (h1 : n ≤ c) (h2 : c ≤ 1099511627776) (h3 : by' * c.toNat ≤ 140737488355328)
    (q : WL E fn nt dr ops fin rest ((d, .slice (some ⟨h.n, 0, none⟩) n.toNat c.toNat) :: l) (h.alloc (.cells (repeatCells zv.cells.toList c.toNat) e 0)) R) :
    WL E fn nt dr ops fin ((⟨some d, .makeSlice t x y, ty, pos, af, gg⟩, lt) :: rest) l h R :=
  wl_alloc (f := fun i => .slice (some ⟨i, 0, none⟩) n.toNat c.toNat) g rfl (fun _ ag => by
    have e1 : Nat.ble n.toNat c.toNat = true := (ble_iff _ _).2 (by omega)
    have e2 : Nat.ble c.toNat (2 ^ 40) = true := (ble_iff _ _).2 (by omega)
    have e3 : Nat.ble (by' * c.toNat) (2 ^ 47) = true := (ble_iff _ _).2 (by omega)
    simp only [allocX, hu, hs, hz, hb, ag.ev hx, ag.ev hy, natOf_int h0, natOf_int (Int.le_trans h0 h1), e1, e2, e3, hzs, Nat.beq_refl, Bool.and_true, cond_true, cellsObj]) (wn hd) q

/-! Stores -/

theorem set_eq {l : List Value} {o : Nat} {v : Value} (h : o < l.length) : l.take o ++ [v] ++ l.drop (o + 1) = l.set o v := by
  rw [List.set_eq_take_append_cons_drop]; simp [h]

theorem o_store {b o : Nat} {cs : List Value} {e : TypeId} {m : Nat} (g : Gd ops l gg) (hx : evl l x = some (.pointer (some ⟨b, o, none⟩))) (hy : evl l y = some v) (hc : cellV v = true) (ht : E.size t = some 1)
    (hg : h.get b = some (.cells cs e m)) (hm : m ≠ 1) (hv : o < cs.length) (ha : ∀ q, q ∈ lt → Again E ops l (h.put b (.cells (cs.set o v) e m)) q)
    (q : WL E fn nt dr ops fin rest l (h.put b (.cells (cs.set o v) e m)) R) :
    WL E fn nt dr ops fin ((⟨none, .store t x y, ty, pos, af, gg⟩, lt) :: rest) l h R := by
  refine wl_none g rfl (fun _ ag => ?_) wn0 ha q
  have hcell : v.cells = #[v] := by cases v <;> first | rfl | simp [cellV] at hc
  have e1 : Nat.ble (o + 1) cs.length = true := (ble_iff _ _).2 hv
  have e2 : Nat.beq m 1 = false := (beq_false _ _).2 hm
  simp only [writeX, ag.ev hx, ag.ev hy, storeX, ht, hcell, List.size_toArray, List.length_cons, List.length_nil, Nat.zero_add, Nat.beq_refl, List.all_cons, List.all_nil, hc, Bool.and_true, cond_true, storeRow, hg, e1, e2,
    Bool.not_false, set_eq hv]

theorem o_append {s w : Value} {t' : TypeId} (g : Gd ops l gg) (hd : Nat.blt d nt = true) (hx : evl l x = some s) (hy : evl l y = some w) (ha : appendX E h t t' s w = some (v, h'))
    (hag : ∀ q, q ∈ lt → Again E ops ((d, v) :: l) h' q)
    (q : WL E fn nt dr ops fin rest ((d, v) :: l) h' R) : WL E fn nt dr ops fin ((⟨some d, .call ⟨.builtin .append, #[x, y], #[t, t']⟩, ty, pos, af, gg⟩, lt) :: rest) l h R :=
  wl_value g rfl (fun _ ag => by
    simp only [writeX, resolveX, invokeX, List.getElem?_toArray, List.getElem?_cons_zero, List.getElem?_cons_succ, List.map_toArray, List.map_cons, List.map_nil, ag.ev hx, ag.ev hy, ha]) (wn hd) hag q

/-! Calls -/

def callOk (E : Env) (f : FuncId) : Bool := !E.ext f && (E.orc f).isNone && match E.fn f with
  | some fn => fn.body.isSome && !(fn.name == "runtime.NumGoroutine")
  | none => false
def orcOk (E : Env) (f : FuncId) : Bool := !E.ext f && match E.fn f with
  | some fn => fn.body.isSome && !(fn.name == "runtime.NumGoroutine")
  | none => false

theorem evs_args {tm : Tr Value} (ag : Ag tm l) : ∀ {ps : List Operand} {pv : List Value}, ps.map (evl l) = pv.map some → ps.map (ev tm) = pv
  | [], [], _ => rfl
  | [], _ :: _, h => by simp at h
  | _ :: _, [], h => by simp at h
  | p :: ps, q :: pv, h => by
    simp only [List.map_cons, List.cons.injEq] at h
    rw [List.map_cons, evs_args ag h.2, ag.ev h.1]

theorem writeX_call {tm : Tr Value} {f : FuncId} {args : Array Operand} {as : Array TypeId} {vs : List Value} {first cap : Array Value} (ag : Ag tm l) (hf : evl l x = some (.func (.func f) first cap)) (hv : args.toList.map (evl l) = vs.map some)
    (ho : E.ext f = false) (hfn : (match E.fn f with | some fn => fn.body.isSome && !(fn.name == "runtime.NumGoroutine") | none => false) = true) :
    ∃ as', as'.toList = first.toList ++ vs ++ cap.toList ∧ writeX E tm ⟨some d, .call ⟨.value x, args, as⟩, ty, pos, af, gg⟩ h = some (.enter f as') := by
  refine ⟨(first ++ args.map (ev tm)) ++ cap, by simp [evs_args ag hv], ?_⟩
  simp only [writeX, resolveX, ag.ev hf, invokeX, callFnX, ho, cond_false]
  revert hfn
  cases E.fn f with
  | none => intro hfn; cases hfn
  | some fn => intro hfn; simp only at hfn; simp only [hfn, cond_true]

theorem o_call {f : FuncId} {args : Array Operand} {as : Array TypeId} (vs : List Value) {first cap : Array Value} (g : Gd ops l gg) (hd : Nat.blt d nt = true) (hf : evl l x = some (.func (.func f) first cap)) (ho : callOk E f = true) (hv : args.toList.map (evl l) = vs.map some)
    (q : C E f (first.toList ++ vs ++ cap.toList) h fun v h' => (∀ q, q ∈ lt → Again E ops ((d, v) :: l) h' q) ∧ WL E fn nt dr ops fin rest ((d, v) :: l) h' R) :
    WL E fn nt dr ops fin ((⟨some d, .call ⟨.value x, args, as⟩, ty, pos, af, gg⟩, lt) :: rest) l h R := by
  simp only [callOk, Bool.and_eq_true, Bool.not_eq_true', Option.isNone_iff_eq_none] at ho
  exact wl_enter g rfl ho.1.2 (fun _ ag => writeX_call ag hf hv ho.1.1 ho.2) (q.mono fun v h' q => ⟨_, wn hd, q.1, q.2⟩)

theorem o_orc {f : FuncId} {as : Array TypeId} (g : Gd ops l gg) (hd : Nat.blt d nt = true) (ho : orcOk E f = true) (he : E.orc f = some v) (ha : ∀ q, q ∈ lt → Again E ops ((d, v) :: l) h q)
    (q : WL E fn nt dr ops fin rest ((d, v) :: l) h R) :
    WL E fn nt dr ops fin ((⟨some d, .call ⟨.value (.func f), #[], as⟩, ty, pos, af, gg⟩, lt) :: rest) l h R := by
  simp only [orcOk, Bool.and_eq_true, Bool.not_eq_true'] at ho
  refine wl_orc (f := f) g rfl he (fun _ ag => ?_) (wn hd) ha q
  obtain ⟨as', h1, h2⟩ := writeX_call (E := E) (h := h) (d := d) (ty := ty) (pos := pos) (af := af) (gg := gg) (f := f) (x := .func f) (args := #[]) (as := as) (vs := []) (first := #[]) (cap := #[]) ag rfl rfl ho.1 ho.2
  have : as' = #[] := by simpa using h1
  rw [this] at h2
  exact h2

/-! 'a || b', 'a && b' -/

def disj : List Nat → List Nat → Bool
  | [], _ => true
  | a :: r, l => !memN a l && disj r l

/-- All operations are unwanted, if temporary `dc` is not `w`. -/
def skOk (nt : Nat) (ops : Array Oper) (dc : Nat) (w : Bool) (keys : List Nat) : List Nat → List (Oper × List Oper) → Bool
  | _, [] => true
  | done, (o, _) :: r => (match o.dst with
      | some d => Nat.blt d nt && !memN d keys && !memN d done &&
        (match o.guard with
         | some (i, w') => (match (pk ops.toList i).dst with
           | some e => Nat.blt i ops.size && ((Nat.beq e dc && (w == w')) || memN e done)
           | none => false)
         | none => false) && skOk nt ops dc w keys (d :: done) r
      | none => false)

theorem lk_mem : ∀ (l : Kn) (t : Nat) (v : Value), lk l t = some v → t ∈ l.map (·.1)
  | [], _, _, h => by simp [lk] at h
  | (k, u) :: r, t, v, h => by
    rw [lk_cons] at h
    split at h
    · rename_i e; subst e; simp
    · exact List.mem_cons_of_mem _ (lk_mem r t v h)

theorem lk_append : ∀ (p l : Kn) (t : Nat), t ∉ p.map (·.1) → lk (p ++ l) t = lk l t
  | [], _, _, _ => rfl
  | (k, u) :: r, l, t, h => by
    rw [List.cons_append, lk_cons, if_neg (fun e => h (by simp [e])), lk_append r l t (fun m => h (List.mem_cons_of_mem _ m))]

theorem Ag.split {tm : Tr Value} {p : Kn} (a : Ag tm (p ++ l)) (hd : ∀ t, t ∈ p.map (·.1) → t ∉ l.map (·.1)) : Ag tm l := fun t v h =>
  a t v (by rw [lk_append _ _ _ fun m => hd t m (lk_mem _ _ _ h)]; exact h)

theorem disj_iff : ∀ (a l : List Nat), disj a l = true → ∀ t, t ∈ a → t ∉ l
  | [], _, _, t, h => by simp at h
  | k :: r, l, hd, t, h => by
    simp only [disj, Bool.and_eq_true, Bool.not_eq_true', memN_false] at hd
    rcases List.mem_cons.1 h with rfl | h
    · exact hd.1
    · exact disj_iff r l hd.2 t h

/-- All of a row is passed by. -/
theorem sk_all {dc : Nat} {w b : Bool} (hb : lk l dc = some (.bool b)) (hw : b = !w) {its : List (Oper × List Oper)} : ∀ (seg : List (Oper × List Oper)) (done : List Nat) (p : Kn), p.map (·.1) = done → (∀ t v, (t, v) ∈ p → v = undef) →
    dc ∉ done → (∀ t, t ∈ done → t ∉ l.map (·.1)) → skOk nt ops dc w (l.map (·.1)) done seg = true → (∀ p', (∀ t, t ∈ p'.map (·.1) → t ∉ l.map (·.1)) → WL E fn nt dr ops fin its (p' ++ l) h R) → WL E fn nt dr ops fin (seg ++ its) (p ++ l) h R
  | [], done, p, hp, hu, hn, hd, hs, q => q p (hp ▸ hd)
  | (o, lt) :: r, done, p, hp, hu, hn, hd, hs, q => by
    unfold skOk at hs
    cases ho : o.dst with
    | none => rw [ho] at hs; cases hs
    | some d =>
      rw [ho] at hs
      simp only [Bool.and_eq_true, Bool.not_eq_true', memN_false] at hs
      obtain ⟨⟨⟨⟨h1, h2⟩, h3⟩, h4⟩, h5⟩ := hs
      have hdcl : dc ∈ l.map (·.1) := lk_mem _ _ _ hb
      have hmem : ∀ e, e ∈ done → ∃ v, (e, v) ∈ p := fun e he => by
        rw [← hp] at he
        obtain ⟨⟨a, b⟩, h6, h7⟩ := List.mem_map.1 he
        exact ⟨b, by rw [← h7]; exact h6⟩
      have hund : ∀ (p : Kn) (e : Nat), (∀ t v, (t, v) ∈ p → v = undef) → e ∈ p.map (·.1) → lk (p ++ l) e = some undef := by
        intro p
        induction p with
        | nil => intro e _ he; simp at he
        | cons x p ih =>
          intro e hu he
          obtain ⟨k, u⟩ := x
          rw [List.cons_append, lk_cons]
          by_cases ek : k = e
          · rw [if_pos ek, hu k u (by simp)]
          · rw [if_neg ek]
            refine ih e (fun t v h => hu t v (by simp [h])) ?_
            simp at he
            rcases he with he | he
            · exact absurd he.symm ek
            · simpa using he
      have hng : Ng ops (p ++ l) o.guard := by
        cases hg : o.guard with
        | none => rw [hg] at h4; cases h4
        | some gw =>
          obtain ⟨i, w'⟩ := gw
          rw [hg] at h4
          simp only at h4
          cases hpk : (pk ops.toList i).dst with
          | none => rw [hpk] at h4; cases h4
          | some e =>
            rw [hpk] at h4
            simp only [Bool.and_eq_true, Bool.or_eq_true, beq_iff, memN_iff, beq_iff_eq] at h4
            obtain ⟨h6, h7⟩ := h4
            rcases h7 with ⟨rfl, rfl⟩ | h7
            · exact ng (b := b) hpk h6 (by rw [lk_append _ _ _ (hp ▸ hn)]; exact hb) hw
            · exact ngu hpk h6 (hund p e hu (hp ▸ h7))
      refine wl_skip hng (l' := (d, undef) :: (p ++ l)) (by rw [ho]; exact wn h1) ?_
      refine sk_all hb hw r (d :: done) ((d, undef) :: p) (by simp [hp]) (fun t v h => ?_) (fun h => ?_) (fun t ht => ?_) h5 q
      · rcases List.mem_cons.1 h with h | h
        · cases h; rfl
        · exact hu t v h
      · rcases List.mem_cons.1 h with h | h
        · subst h; exact h2 hdcl
        · exact hn h
      · rcases List.mem_cons.1 ht with h | h
        · subst h; exact h2
        · exact hd t h

theorem o_or {dc tb n : Nat} {b B : Bool} {its : List (Oper × List Oper)} (hb : lk l dc = some (.bool b)) (hsk : skOk nt ops dc false (l.map (·.1)) [] (its.take n) = true)
    (hp : its.drop n = (⟨some d, .pick (.tmp dc) (.const (.bool true)) (.tmp tb), ty, pos, af, gg⟩, lt) :: rest) (g : Gd ops l gg) (hd : Nat.blt d nt = true)
    (q1 : b = false → WL E fn nt dr ops (its.drop n) its l h fun l1 h1 => h1 = h ∧ lk l1 tb = some (.bool B) ∧ ∃ k, l1.drop k = l ∧ disj ((l1.take k).map (·.1)) (l.map (·.1)) = true)
    (q : WL E fn nt dr ops fin rest ((d, .bool (b || B)) :: l) h R) : WL E fn nt dr ops fin its l h R := by
  cases b with
  | false =>
    refine wl_cut ((q1 rfl).mono fun l1 h1 ⟨e1, e2, k, e3, e4⟩ => ?_)
    subst e1
    have hlk : ∀ t v, lk l t = some v → lk l1 t = some v := fun t v e => by
      rw [← List.take_append_drop k l1, e3, lk_append _ _ _ (fun m => disj_iff _ _ e4 t m (lk_mem _ _ _ e))]; exact e
    rw [hp]
    have g' : Gd ops l1 gg := by
      unfold Gd at g ⊢
      cases gg with
      | none => trivial
      | some x => obtain ⟨og, d, a1, a2, a3⟩ := g; exact ⟨og, d, a1, a2, hlk _ _ a3⟩
    refine o_pickf (v := .bool B) g' hd (hlk dc _ hb) rfl e2 ?_
    intro todo hr tm ag
    refine q todo hr tm fun t v e => ?_
    rw [lk_cons] at e
    by_cases hdt : d = t
    · rw [if_pos hdt] at e; exact ag t v (by rw [lk_cons, if_pos hdt]; exact e)
    · rw [if_neg hdt] at e; exact ag t v (by rw [lk_cons, if_neg hdt]; exact hlk _ _ e)
  | true =>
    rw [← List.take_append_drop n its]
    refine sk_all (p := []) hb rfl (its.take n) [] rfl (fun _ _ h => by simp at h) (by simp) (fun _ h => by simp at h) hsk fun p' hp' => ?_
    rw [hp]
    have hlk : ∀ t v, lk l t = some v → lk (p' ++ l) t = some v := fun t v e => by
      rw [lk_append _ _ _ (fun m => hp' t m (lk_mem _ _ _ e))]; exact e
    have g' : Gd ops (p' ++ l) gg := by
      unfold Gd at g ⊢
      cases gg with
      | none => trivial
      | some x => obtain ⟨og, d, a1, a2, a3⟩ := g; exact ⟨og, d, a1, a2, hlk _ _ a3⟩
    refine o_pickt (v := .bool true) g' hd (hlk dc _ hb) rfl rfl ?_
    intro todo hr tm ag
    refine q todo hr tm fun t v e => ?_
    rw [lk_cons] at e
    by_cases hdt : d = t
    · rw [if_pos hdt] at e; exact ag t v (by rw [lk_cons, if_pos hdt]; exact e)
    · rw [if_neg hdt] at e; exact ag t v (by rw [lk_cons, if_neg hdt]; exact hlk _ _ e)

theorem o_and {dc tb n : Nat} {b B : Bool} {its : List (Oper × List Oper)} (hb : lk l dc = some (.bool b)) (hsk : skOk nt ops dc true (l.map (·.1)) [] (its.take n) = true)
    (hp : its.drop n = (⟨some d, .pick (.tmp dc) (.tmp tb) (.const (.bool false)), ty, pos, af, gg⟩, lt) :: rest) (g : Gd ops l gg) (hd : Nat.blt d nt = true)
    (q1 : b = true → WL E fn nt dr ops (its.drop n) its l h fun l1 h1 => h1 = h ∧ lk l1 tb = some (.bool B) ∧ ∃ k, l1.drop k = l ∧ disj ((l1.take k).map (·.1)) (l.map (·.1)) = true)
    (q : WL E fn nt dr ops fin rest ((d, .bool (b && B)) :: l) h R) : WL E fn nt dr ops fin its l h R := by
  cases b with
  | true =>
    refine wl_cut ((q1 rfl).mono fun l1 h1 ⟨e1, e2, k, e3, e4⟩ => ?_)
    subst e1
    have hlk : ∀ t v, lk l t = some v → lk l1 t = some v := fun t v e => by
      rw [← List.take_append_drop k l1, e3, lk_append _ _ _ (fun m => disj_iff _ _ e4 t m (lk_mem _ _ _ e))]; exact e
    rw [hp]
    have g' : Gd ops l1 gg := by
      unfold Gd at g ⊢
      cases gg with
      | none => trivial
      | some x => obtain ⟨og, d, a1, a2, a3⟩ := g; exact ⟨og, d, a1, a2, hlk _ _ a3⟩
    refine o_pickt (v := .bool B) g' hd (hlk dc _ hb) rfl e2 ?_
    intro todo hr tm ag
    refine q todo hr tm fun t v e => ?_
    rw [lk_cons] at e
    by_cases hdt : d = t
    · rw [if_pos hdt] at e; exact ag t v (by rw [lk_cons, if_pos hdt]; exact e)
    · rw [if_neg hdt] at e; exact ag t v (by rw [lk_cons, if_neg hdt]; exact hlk _ _ e)
  | false =>
    rw [← List.take_append_drop n its]
    refine sk_all (p := []) hb rfl (its.take n) [] rfl (fun _ _ h => by simp at h) (by simp) (fun _ h => by simp at h) hsk fun p' hp' => ?_
    rw [hp]
    have hlk : ∀ t v, lk l t = some v → lk (p' ++ l) t = some v := fun t v e => by
      rw [lk_append _ _ _ (fun m => hp' t m (lk_mem _ _ _ e))]; exact e
    have g' : Gd ops (p' ++ l) gg := by
      unfold Gd at g ⊢
      cases gg with
      | none => trivial
      | some x => obtain ⟨og, d, a1, a2, a3⟩ := g; exact ⟨og, d, a1, a2, hlk _ _ a3⟩
    refine o_pickf (v := .bool false) g' hd (hlk dc _ hb) rfl rfl ?_
    intro todo hr tm ag
    refine q todo hr tm fun t v e => ?_
    rw [lk_cons] at e
    by_cases hdt : d = t
    · rw [if_pos hdt] at e; exact ag t v (by rw [lk_cons, if_pos hdt]; exact e)
    · rw [if_neg hdt] at e; exact ag t v (by rw [lk_cons, if_neg hdt]; exact hlk _ _ e)

/-- By a bool's two cases. -/
theorem wl_split {dc : Nat} {b : Bool} {its : List (Oper × List Oper)} (_hb : lk l dc = some (.bool b)) (q1 : b = true → WL E fn nt dr ops fin its l h R) (q2 : b = false → WL E fn nt dr ops fin its l h R) : WL E fn nt dr ops fin its l h R := by
  cases b with
  | true => exact q1 rfl
  | false => exact q2 rfl

/-- Some operations that are passed by. -/
theorem wl_skips {dc n : Nat} {w b : Bool} {its : List (Oper × List Oper)} (hb : lk l dc = some (.bool b)) (hw : b = !w) (hsk : skOk nt ops dc w (l.map (·.1)) [] (its.take n) = true)
    (q : WL E fn nt dr ops fin (its.drop n) l h R) : WL E fn nt dr ops fin its l h R := by
  rw [← List.take_append_drop n its]
  refine sk_all (p := []) hb hw (its.take n) [] rfl (fun _ _ h => by simp at h) (by simp) (fun _ h => by simp at h) hsk fun p' hp' => ?_
  intro todo hr tm ag
  exact q todo hr tm (ag.split hp')

end

end Go.X
