/- What X's operators yield, the model's yield: operators on two values, conversions, slices, fields, indexes, maps that are read. Conditions: none. -/
import Derived.Test.YtkmbfjdmbdpflaaXRead
namespace Go.X

variable {E : Env}

theorem run_intBin {op : BinOp} {k : IntKind} {a b : Int} {v : Value} {t : TypeId} {w : World} (hs : isShift op = false) (hr : intBin op k a b = some v) :
    (binOp op t (.int k a) (.int k b)).run E.P w = .ok v w ∧ ∀ M, VRel M v v := by
  cases op <;> simp [intBin, someI_eq, wrapX_eq, boolV_eq, isShift] at hr hs <;>
    first
      | (subst hr
         exact ⟨by simp [binOp, Op.intArith, Op.intCmp, Op.intBits], fun M => by first | exact .int _ _ | exact .bool _⟩)
      | skip
  case quo =>
    cases hb : decide (b = 0) with
    | true => rw [hb] at hr; cases hr
    | false =>
      rw [hb, cond_false] at hr; cases hr
      have : b ≠ 0 := of_decide_eq_false hb
      exact ⟨by simp [binOp, Op.intDiv, this], fun M => .int _ _⟩
  case rem =>
    cases hb : decide (b = 0) with
    | true => rw [hb] at hr; cases hr
    | false =>
      rw [hb, cond_false] at hr; cases hr
      have : b ≠ 0 := of_decide_eq_false hb
      exact ⟨by simp [binOp, Op.intDiv, this], fun M => .int _ _⟩

theorem run_shiftX {op : BinOp} {k k' : IntKind} {a b : Int} {v : Value} {t : TypeId} {w : World} (hs : isShift op = true) (hr : shiftX op k a b = some v) :
    (binOp op t (.int k a) (.int k' b)).run E.P w = .ok v w ∧ ∀ M, VRel M v v := by
  unfold shiftX at hr
  cases hb : decide (b < 0) with
  | true => rw [hb] at hr; cases hr
  | false =>
    rw [hb, cond_false] at hr
    have hlt : ¬ b < 0 := of_decide_eq_false hb
    cases op <;> simp [isShift] at hs
    all_goals
      simp only [someI_eq, wrapX_eq, Option.some.injEq] at hr
      subst hr
      exact ⟨by simp [binOp, Op.shift, hlt], fun M => .int _ _⟩

theorem run_strBin {op : BinOp} {a b : ByteArray} {v : Value} {t : TypeId} {w : World} (hr : strBin op a b = some v) :
    (binOp op t (.string a) (.string b)).run E.P w = .ok v w ∧ ∀ M, VRel M v v := by
  cases op <;> simp only [strBin, boolV_eq] at hr <;> try cases hr
  case add =>
    obtain ⟨hc, hr⟩ : decide (((a.size + b.size : Nat) : Int) > IntKind.i64.max) = false ∧ some (Value.string (a ++ b)) = some v := by
      revert hr
      cases decide (((a.size + b.size : Nat) : Int) > IntKind.i64.max)
      · intro hr; exact ⟨rfl, hr⟩
      · intro hr; cases hr
    cases hr
    have := of_decide_eq_false hc
    refine ⟨?_, fun M => .string _⟩
    simp only [binOp, Op.stringOp]
    rw [if_neg this]; rfl
  all_goals exact ⟨by simp [binOp, Op.stringOp], fun M => .bool _⟩

theorem equalX_chan1 (E : Env) (h : Hp) (n : Nat) (t : TypeId) (r : Nat) (y : Value) : equalX E h n t (.chan (some r)) y = none := by
  cases n with
  | zero => rfl
  | succ n =>
    simp only [equalX]
    split
    · rfl
    · first | rfl | (split <;> first | rfl | (simp_all; done))
theorem equalX_chan2 (E : Env) (h : Hp) (n : Nat) (t : TypeId) (r : Nat) (x : Value) : equalX E h n t x (.chan (some r)) = none := by
  cases n with
  | zero => rfl
  | succ n =>
    simp only [equalX]
    split
    · rfl
    · first | rfl | (split <;> first | rfl | (simp_all; done))

section
variable {W : World} {B : Nat → Prop} {M : Mp} {h : Hp} {w : World} (H : HRel W B M h w)
include H

/-- Two pointers to blocks of X's whose capacity is what it says. -/
theorem sameAddr_ok {a a' b b' : Addr} {c c' : List Value} {e e' : TypeId} (ha : AddrRel M a a') (hb : AddrRel M b b')
    (ga : h.get a.block = some (.cells c e 0)) (gb : h.get b.block = some (.cells c' e' 0)) (sa : a.spot = none) (sb : b.spot = none)
    (la : 1 ≤ c.length) (lb : 1 ≤ c'.length) :
    (sameAddr a' b').run E.P w = .ok (Nat.beq a.block b.block && Nat.beq a.off b.off) w := by
  obtain ⟨i, δ, S, x, hρ, hx, cc, fr, rfl, hS, hle, hc, hm⟩ := H.place ha.1 ga (by simp)
  obtain ⟨j, δ', S', y, hρ', hy, cc', fr', rfl, hS', hle', hc', hm'⟩ := H.place hb.1 gb (by simp)
  have ea := ha.2 _ _ _ hρ
  have eb := hb.2 _ _ _ hρ'
  rw [sa] at ea; rw [sb] at eb
  have hm : δ = 0 ∧ S = c.length ∧ fr = (0, 0) := by
    rcases hm with ⟨_, _, h1, h2, h3⟩ | ⟨h1, _⟩ | ⟨⟨s, h1, _⟩, _⟩
    · exact ⟨h1, h2, h3⟩
    · cases h1
    · omega
  have hm' : δ' = 0 ∧ S' = c'.length ∧ fr' = (0, 0) := by
    rcases hm' with ⟨_, _, h1, h2, h3⟩ | ⟨h1, _⟩ | ⟨⟨s, h1, _⟩, _⟩
    · exact ⟨h1, h2, h3⟩
    · cases h1
    · omega
  obtain ⟨rfl, h2, rfl⟩ := hm
  obtain ⟨rfl, h2', rfl⟩ := hm'
  subst ea eb
  by_cases he : a.block = b.block
  · have hij : i = j := by rw [he, hρ'] at hρ; simp at hρ; exact hρ.1.symm
    subst hij
    have : Nat.beq a.block b.block = true := by rw [he]; exact Nat.beq_refl _
    rw [this, Bool.true_and]
    simp only [sameAddr, beq_self_eq_true, if_true, Sem.run_pure]
    congr 1
    rw [Bool.eq_iff_iff, beq_iff]
    simp
  · have hnr : ¬ RO h a.block := fun ⟨_, _, h1⟩ => by rw [ga] at h1; cases h1
    have hij : i ≠ j := fun e => he ((H.inj _ _ _ _ _ _ _ hρ (e ▸ hρ')).resolve_right hnr)
    have : Nat.beq a.block b.block = false := (beq_false _ _).2 he
    rw [this, Bool.false_and]
    have f1 : w.frozen? ⟨i, a.off, none⟩ = false := by simp [World.frozen?, hx]
    have f2 : w.frozen? ⟨j, b.off, none⟩ = false := by simp [World.frozen?, hy]
    have s1 : w.shape? i = some (e, cc.size) := by simp [World.shape?, hx]
    have s2 : w.shape? j = some (e', cc'.size) := by simp [World.shape?, hy]
    have f3 : w.frozen? ⟨i, cc.size, none⟩ = false := by simp [World.frozen?, hx]
    have f4 : w.frozen? ⟨j, cc'.size, none⟩ = false := by simp [World.frozen?, hy]
    have n1 : cc.size ≠ 0 := by omega
    have n2 : cc'.size ≠ 0 := by omega
    simp [sameAddr, hij, f1, f2, noView, viewAt, s1, s2, mayBeOne, stringish, f3, f4]

theorem equalX_sound {n d : Nat} {t : TypeId} {x y x' y' : Value} {b : Bool} (hx : VRel M x x') (hy : VRel M y y') (hr : equalX E h (n + 1) t x y = some b) :
    (Op.equalIn (d + 1) t x' y').run E.P w = .ok b w := by
  unfold equalX at hr
  simp only at hr
  cases hd : E.und t with
  | none => rw [hd] at hr; cases hr
  | some de =>
    rw [hd] at hr
    simp only at hr
    have hu := run_und hd w
    split at hr
    case h_1 => cases hx; cases hy; cases hr; simp [Op.equalIn, hu]
    case h_2 =>
      cases hx; cases hy
      rename_i k1 a1 k2 b1
      by_cases hk : k1 = k2
      · subst hk; rw [kindEq_refl, cond_true, Option.some.injEq] at hr; subst hr; simp [Op.equalIn, hu]
      · have : kindEq k1 k2 = false := by
          cases h0 : kindEq k1 k2 with
          | false => rfl
          | true => exact absurd ((kindEq_iff _ _).1 h0) hk
        rw [this, cond_false] at hr; cases hr
    case h_3 => cases hx; cases hy; cases hr; simp [Op.equalIn, hu]
    case h_4 =>
      cases hx
      cases hr
      cases hy <;> simp [Op.equalIn, hu]
    case h_5 => cases hx; cases hy; cases hr; simp [Op.equalIn, hu]
    case h_6 =>
      rename_i e a b'
      cases hx with
      | ptr ha =>
      cases hy with
      | ptr hb =>
      split at hr
      · rename_i z c e1 c' e2 hz g1 g2
        split at hr
        · rename_i s1 s2
          obtain ⟨hl, hr⟩ := cond_some hr
          cases hr
          simp only [Bool.and_eq_true, ble_iff] at hl
          have := sameAddr_ok (E := E) H ha hb g1 g2 s1 s2 hl.1 hl.2
          simp [Op.equalIn, hu, run_size hz, this]
        · cases hr
      · cases hr
    case h_7 => cases hx; cases hr; cases hy <;> simp [Op.equalIn, hu]
    case h_8 => cases hx; cases hy; cases hr; simp [Op.equalIn, hu]
    case h_9 => cases hx; cases hr; cases hy <;> simp [Op.equalIn, hu]
    case h_10 => cases hx; cases hy; cases hr; simp [Op.equalIn, hu]
    case h_11 => cases hx; cases hy; cases hr; simp [Op.equalIn, hu]
    case h_12 => cases hx; cases hy; cases hr; simp [Op.equalIn, hu]
    case h_13 => cases hx; cases hy; cases hr; simp [Op.equalIn, hu]
    case h_14 => cases hx; cases hy; cases hr; simp [Op.equalIn, hu]
    case h_15 => cases hx; cases hy; cases hr; simp [Op.equalIn, hu]
    case h_16 => cases hx; cases hy; cases hr; simp [Op.equalIn, hu]
    case h_17 => cases hr

end

end Go.X
