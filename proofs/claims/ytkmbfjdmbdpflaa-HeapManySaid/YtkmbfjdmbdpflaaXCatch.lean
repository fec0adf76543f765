/- The model catches up with X in a region whose order is open. Conditions: none. -/
import Derived.Test.YtkmbfjdmbdpflaaXDraw
import Derived.Test.YtkmbfjdmbdpflaaXWriteOp
namespace Go.X

section
variable {W : World} {B : Nat → Prop} {E : Env}

theorem Frame.finish_put (b : Frame) (tmps : Array Value) (df : List Deferred) (ops : Array Oper) {i : Nat} {o : Oper} (ho : ops[i]? = some o) (rest : List Nat) (k : List Item) (v : Value) :
    (b.atR ⟨tmps, df⟩ (.inRegion ops (i :: rest) :: k)).finish v = b.atR ((Act.mk tmps df).put o.dst v) (.inRegion ops rest :: k) := by
  rw [Frame.finish_atR]; simp [ho]

/-- Where an operation is a defer, it is one of X's writers. -/
theorem cls_defer {o : Oper} {cl : Call} (h : o.op = .defer cl) : cls E o = 2 := by
  unfold cls; rw [h]

theorem put_defers (tmps : Array Value) (df : List Deferred) (d : Option Tmp) (v : Value) : (Act.mk tmps df).put d v = ⟨((Act.mk tmps df).put d v).tmps, df⟩ := by
  cases d <;> rfl

/-- One operation whose outcome is a value. -/
theorem step_value {P : Program} {b : Frame} {tmps : Array Value} {df : List Deferred} {ops : Array Oper} {i : Nat} {o : Oper} {rest : List Nat} {k : List Item} {cs : List Frame} {w w' : World} {v : Value}
    (ho : ops[i]? = some o) (hw : Region.wanted o (yielded ops tmps) = true) (hr : (o.semAt b.roundOf (Act.mk tmps df).eval).run P w = .ok (.value v) w') :
    step P (lone (b.atR ⟨tmps, df⟩ (.inRegion ops (i :: rest) :: k)) cs w) = .next (lone (b.atR ((Act.mk tmps df).put o.dst v) (.inRegion ops rest :: k)) cs w') := by
  refine step_lone_go ?_
  rw [stepGR_op ho hw]
  simp only [stepG.apply, Sem.runT_eq, hr, GStep.bare_after, GStep.bare_go, if_true]
  rw [Frame.finish_put b tmps df ops ho]

theorem step_skipOp {P : Program} {b : Frame} {tmps : Array Value} {df : List Deferred} {ops : Array Oper} {i : Nat} {o : Oper} {rest : List Nat} {k : List Item} {cs : List Frame} {w w' : World}
    (ho : ops[i]? = some o) (hw : Region.wanted o (yielded ops tmps) = true) (hr : (o.semAt b.roundOf (Act.mk tmps df).eval).run P w = .ok .skip w') :
    step P (lone (b.atR ⟨tmps, df⟩ (.inRegion ops (i :: rest) :: k)) cs w) = .next (lone (b.atR ((Act.mk tmps df).put o.dst undef) (.inRegion ops rest :: k)) cs w') := by
  refine step_lone_go ?_
  rw [stepGR_op ho hw]
  simp only [stepG.apply, Sem.runT_eq, hr, GStep.bare_after, GStep.bare_go, if_true]
  rw [Frame.finish_put b tmps df ops ho]

/-- The changes that X does not see: what nobody knew, from lo on, is known now. -/
def KeepFrom (lo : Nat) (M : Mp) (h : Hp) (M' : Mp) (h' : Hp) : Prop := Keep M h M' h' (fun i => lo ≤ i)

theorem catch_up {h : Hp} {lo hi nt : Nat} {tm : Tr Value} {ops : Array Oper} {rest : List Nat} {idf : Nat → Nat} {b : Frame} {df : List Deferred} {k : List Item} {cs : List Frame} (hhi : hi ≤ h.n) :
    ∀ (l : List Nat) (M : Mp) (w : World) (tmps : Array Value), HRel W B M h w → Draw E M h lo hi nt tm ops false [] rest l tmps idf →
      ∃ M' w' l' tmps', Steps E.P (lone (b.atR ⟨tmps, df⟩ (.inRegion ops l :: k)) cs w) (lone (b.atR ⟨tmps', df⟩ (.inRegion ops l' :: k)) cs w') ∧
        Ev M M' ∧ HRel W B M' h w' ∧ KeepFrom lo M h M' h ∧ Draw E M' h lo hi nt tm ops false [] rest l' tmps' idf ∧ (∀ j t, l' = j :: t → j ∈ rest) := by
  intro l
  induction l with
  | nil => exact fun M w tmps H D => ⟨M, w, [], tmps, .refl _ _, .refl M, H, Keep.refl M h _, D, by intro j t e; cases e⟩
  | cons p l ih =>
    intro M w tmps H D
    by_cases hp : p ∈ rest
    · exact ⟨M, w, p :: l, tmps, .refl _ _, .refl M, H, Keep.refl M h _, D, by intro j t e; cases e; exact hp⟩
    · have hlt := D.lt p (by simp)
      have ho : ops[p]? = some ops[p] := Array.getElem?_eq_getElem hlt
      generalize ops[p] = o at ho
      have P := D.pend p o (by simp) hp ho
      unfold Pend at P
      cases hw : wantedX ops tm o with
      | none => rw [hw] at P; exact P.elim
      | some x =>
        have hwR := D.wantedR ho hw
        rw [hw] at P
        cases x with
        | false =>
          simp only at P
          have D' := D.stepR hp ho (.refl M) P (.undef M) (fun i _ _ hk _ => hk) df
          obtain ⟨M', w', l', tmps', S, h1, h2, h3, h4, h5⟩ := ih M w _ H D'
          refine ⟨M', w', l', tmps', .head ?_ S, h1, h2, h3, h4, h5⟩
          have := stepR_op_skip (P := E.P) (b := b) (a := ⟨tmps, df⟩) (k := k) (cs := cs) (w := w) (ops := ops) (i := p) (rest := l) (by simp [ho, hwR])
          rw [this]
          simp only [ho, Option.bind_some]
          rw [put_defers]
        | true =>
          simp only at P
          have hE := D.operands H.glob ho df
          cases hc : cls E o with
          | zero =>
            rw [hc] at P
            simp only [List.not_mem_nil, false_or] at P
            obtain ⟨_, v, hv, hd⟩ := P
            obtain ⟨v', hr, hvr⟩ := readX_sound H hE hv
            have D' := D.stepR hp ho (.refl M) hd hvr (fun i _ _ hk _ => hk) df
            obtain ⟨M', w', l', tmps', S, h1, h2, h3, h4, h5⟩ := ih M w _ H D'
            refine ⟨M', w', l', tmps', .head ?_ S, h1, h2, h3, h4, h5⟩
            rw [step_value (v := v') ho hwR (by rw [Oper.semAt_eq _ _ _ fun cl e => by rw [cls_defer e] at hc; cases hc]; exact hr), put_defers]
          | succ n =>
            cases n with
            | zero =>
              rw [hc] at P
              simp only at P
              obtain ⟨bo, f, ha, hd, hg, hk, h5, h6⟩ := P
              obtain ⟨x, S, v', hr, hx⟩ := allocX_sound (w := w) hE ha
              obtain ⟨hx1, hx2⟩ := hx (idf p) hk
              have H' := H.push hk (Nat.lt_of_lt_of_le h6 hhi) hg hx1
              have hev := Mp.add_ev M (idf p) w.heap.size 0 S 0 hk
              have D' := D.stepR hp ho hev hd hx2 (fun i _ _ hk hne => by
                simp only [Mp.add, not_or]; exact ⟨hne ⟨hw, hc⟩, hk⟩) df
              obtain ⟨M', w', l', tmps', S, h1, h2, h3, h4, h5'⟩ := ih _ _ _ H' D'
              refine ⟨M', w', l', tmps', .head ?_ S, hev.trans h1, h2, ?_, h4, h5'⟩
              · rw [step_value (v := v') ho hwR (by rw [Oper.semAt_eq _ _ _ fun cl e => by rw [cls_defer e] at hc; cases hc]; exact hr), put_defers]
              · refine Keep.trans ⟨Nat.le_refl _, fun i _ hki hX => ⟨?_, rfl⟩⟩ h3
                simp only [Mp.add, not_or]
                exact ⟨fun e => hX (e ▸ h5), hki⟩
            | succ n => rw [hc] at P; exact P.elim

/-- Then X's next writer is the model's. -/
theorem Draw.same_head {M : Mp} {h : Hp} {lo hi nt : Nat} {tm : Tr Value} {ops : Array Oper} {c rest l : List Nat} {s : Bool} {idf : Nat → Nat} {tmps : Array Value} {i : Nat}
    (D : Draw E M h lo hi nt tm ops s c (i :: rest) l tmps idf) (hc : clsAt E ops i = 2) (hh : ∀ j t, l = j :: t → j ∈ i :: rest) : ∃ t, l = i :: t := by
  cases l with
  | nil => exact absurd (D.sub i (by simp)) (by simp)
  | cons j t =>
    have hj := hh j t rfl
    rcases List.mem_cons.1 hj with rfl | hj'
    · exact ⟨t, rfl⟩
    · obtain ⟨p, hp, hpm⟩ := (orderOk_head D.ord).2.1 hc j hj'
      exact absurd (D.sub p hpm) (D.ord'.1 p hp)

end
end Go.X
