/- An operation of X's that writes, calls or leaves does what the model's does: all of them. Conditions: none. -/
import Derived.Test.YtkmbfjdmbdpflaaXCall
namespace Go.X

variable {E : Env}

section
variable {W : World} {B : Nat → Prop} {M : Mp} {h : Hp} {w : World} (H : HRel W B M h w)
include H

set_option maxHeartbeats 1000000 in
theorem writeX_sound {tm : Tr Value} {ρ : Operand → Value} {o : Oper} {n : Nx} (hE : ∀ x ∈ o.op.operands, VRel M (ev tm x) (ρ x)) (hr : writeX E tm o h = some n) :
    NxOk W B E M h w n ((execOp ρ o).run E.P w) := by
  obtain ⟨dst, op, type, pos, after, guard⟩ := o
  simp only at hE
  cases op <;> simp only [writeX] at hr <;> simp only [Op.operands] at hE
  case store t a x =>
    have ha := hE a (by simp)
    have hx := hE x (by simp)
    split at hr
    · rename_i p heq
      rw [heq] at ha
      split at hr
      · rename_i h' hst
        cases hr
        have hrun : (execOp ρ ⟨dst, .store t a x, type, pos, after, guard⟩) = (do Instr.storeAt t (ρ a) (ρ x); pure .skip) := rfl
        rw [hrun]
        generalize ρ a = q at ha
        cases ha with
        | ptr hp =>
        rename_i p'
        obtain ⟨w', r, H', K'⟩ := storeX_sound (E := E) H hp hx hst
        exact ⟨w', M, by simp [Instr.storeAt, Instr.sureAddr, r], Ev.refl M, H', K'⟩
      · cases hr
    · cases hr
  case mapUpdate t m k x =>
    split at hr
    · rename_i h' hst
      cases hr
      obtain ⟨w', r, H', K'⟩ := mapPutX_sound (E := E) H (hE m (by simp)) (hE k (by simp)) (hE x (by simp)) hst
      exact ⟨w', M, by simp [execOp, r], Ev.refl M, H', K'⟩
    · cases hr
  case insert t m k x =>
    split at hr
    · rename_i h' hst
      cases hr
      obtain ⟨w', r, H', K'⟩ := mapPutX_sound (E := E) H (hE m (by simp)) (hE k (by simp)) (hE x (by simp)) hst
      exact ⟨w', M, by simp [execOp, r], Ev.refl M, H', K'⟩
    · cases hr
  case mapEntry t m k =>
    split at hr
    · rename_i v h' hst
      cases hr
      obtain ⟨v', w', r, H', K', hv⟩ := mapEntryX_sound (E := E) H (hE m (by simp)) (hE k (by simp)) hst
      exact ⟨v', w', M, by simp [execOp, r], Ev.refl M, H', K', hv⟩
    · cases hr
  case entryStore t m s x =>
    split at hr
    · rename_i h' hst
      cases hr
      obtain ⟨w', r, H', K'⟩ := entryStoreX_sound (E := E) (t := t) H (hE m (by simp)) (hE s (by simp)) (hE x (by simp)) hst
      exact ⟨w', M, by simp [execOp, r], Ev.refl M, H', K'⟩
    · cases hr
  case range t x =>
    have hx := hE x (by simp)
    split at hr
    · rename_i s hu heq
      rw [heq] at hx
      cases hr
      have hrun : (execOp ρ ⟨dst, .range t x, type, pos, after, guard⟩) = (do pure (.value (← Instr.range t (ρ x)))) := rfl
      rw [hrun]
      generalize ρ x = q at hx
      cases hx
      obtain ⟨H', E', K'⟩ := newBlock H (o := .str s 0) (x := .stringIter s 0) (S := 0) (m := 0) ⟨rfl, rfl⟩
      exact ⟨.pointer (some ⟨w.heap.size, 0, none⟩), _, _, by simp [Instr.range, run_und hu], E', H', K', .ptr ⟨.inl rfl, fun b δ S hb => by simp [Mp.add] at hb; obtain ⟨rfl, rfl, _⟩ := hb; rfl⟩⟩
    · cases hr
  case next it isS =>
    cases isS with
    | false => cases hr
    | true =>
      have hx := hE it (by simp)
      simp only at hr
      split at hr
      · rename_i r heq
        rw [heq] at hx
        have hrun : (execOp ρ ⟨dst, .next it true, type, pos, after, guard⟩) = (do pure (.value (← Instr.next (ρ it) true type))) := rfl
        rw [hrun]
        generalize ρ it = q at hx
        cases hx with
        | ptr hp =>
        rename_i p'
        split at hr
        · rename_i s p hg
          obtain ⟨b, δ, S, x0, hρ, hx0, hδ, rfl⟩ := H.place hp.1 hg (by simp)
          subst hδ
          have ep := hp.2 b 0 S hρ
          simp only [Nat.zero_add] at ep
          subst ep
          have hgo : (getObj b).run E.P w = .ok (.stringIter s p) w := by simp [getObj, Sem.run, hx0]
          by_cases hlt : p < s.size
          · rw [(blt_iff _ _).2 hlt, cond_true] at hr
            cases hr
            obtain ⟨p1, p2, p3⟩ := HRel.setObj (E := E) H (o := .str s (p + (Utf8.decode s p).2)) (x := .stringIter s (p + (Utf8.decode s p).2)) hρ hx0 (by intro c e f hh; cases hh) ⟨rfl, rfl⟩
            refine ⟨.tuple #[.bool true, goInt p, .int .i32 (Utf8.decode s p).1], _, M, ?_, Ev.refl M, p2, p3, .tuple' (.cons (.bool _) (.cons (.int _ _) (.cons (.int _ _) (.nil M))))⟩
            simp [Instr.next, hgo, hlt, p1]
          · have : Nat.blt p s.size = false := by
              cases hb : Nat.blt p s.size with
              | false => rfl
              | true => exact absurd ((blt_iff _ _).1 hb) hlt
            rw [this, cond_false] at hr
            cases hr
            refine ⟨.tuple #[.bool false], w, M, ?_, Ev.refl M, H, Keep.refl _ _ _, .tuple' (.cons (.bool _) (.nil M))⟩
            simp [Instr.next, hgo, hlt]
        · cases hr
      · cases hr
  case convert src dst' x =>
    have hx := hE x (by simp)
    split at hr
    · rename_i ds e s hs hd heq
      rw [heq] at hx
      split at hr
      · rename_i hu
        cases hr
        have hrun : (execOp ρ ⟨dst, .convert src dst' x, type, pos, after, guard⟩) = (do pure (.value (← convert src dst' (ρ x)))) := rfl
        rw [hrun]
        generalize ρ x = q at hx
        cases hx
        let qq := Question.appendCap s.size 0 e
        let cap := qq.cut (w.tape w.drawn qq)
        have hcap : s.size ≤ cap := by show s.size ≤ s.size + _; omega
        let cells : Array Value := (s.data.map fun b => .int .u8 b.toNat) ++ Array.replicate (cap - s.size) (.int .u8 0)
        have hsz : cells.size = cap := by
          have : s.data.size = s.size := rfl
          simp only [cells, Array.size_append, Array.size_map, Array.size_replicate, this]; omega
        have hconv : (convert src dst' (.string s)).run E.P w = .ok (.slice (some ⟨w.heap.size, 0, none⟩) s.size cap) { w with drawn := w.drawn + 1, heap := w.heap.push (.cells cells e (cap, cap + 1)) } := by
          have r1 := run_und hs w
          have r2 := run_und hd w
          have r3 := run_und hu w
          have hsb : (Conv.stringToBytes e s).run E.P w = .ok (.slice (some ⟨w.heap.size, 0, none⟩) s.size cap) { w with drawn := w.drawn + 1, heap := w.heap.push (.cells cells e (cap, cap + 1)) } := by
            have hf : qq.forced = false := rfl
            simp only [Conv.stringToBytes, Sem.run_bind, run_choose]
            show (Result.andThen (if qq.forced = true then _ else _) _) = _
            rw [hf]
            simp only [Bool.false_eq_true, if_false, Result.andThen_ok, newRow, Sem.run_bind, run_newObj, Sem.run_pure, markStringish, run_shape]
            have hsh : (World.shape? { w with drawn := w.drawn + 1, heap := w.heap.push (.cells cells e) } w.heap.size) = some (e, cells.size) := by simp [World.shape?]
            show Result.andThen ((match World.shape? { w with drawn := w.drawn + 1, heap := w.heap.push (.cells cells e) } w.heap.size with
              | some (_, n) => freeze { block := w.heap.size, off := n } 1
              | _ => pure ()).run E.P { w with drawn := w.drawn + 1, heap := w.heap.push (.cells cells e) }) _ = _
            rw [hsh]
            simp only [run_freeze, Result.andThen_ok, hsz]
            congr 1
            simp only [World.freeze, Nat.succ_ne_zero, if_false]
            congr 1
            apply Array.ext_getElem?
            intro i
            rw [Array.getElem?_modify]
            by_cases hi : w.heap.size = i
            · subst hi; simp
            · rw [if_neg hi, Array.getElem?_push, Array.getElem?_push, if_neg (fun e0 => hi e0.symm), if_neg (fun e0 => hi e0.symm)]
          cases ds <;> simp only [convert, Sem.run_bind, r1, r2, r3, Result.andThen_ok, hsb]
        have Hd := World.drew_HRel H (w.drawn + 1)
        have hnk : ¬ M.K h.n := fun hk => by have := H.kn _ hk; omega
        have hE' := Mp.add_ev M h.n w.heap.size 0 cap 2 hnk
        obtain ⟨H', E', K'⟩ := newBlock Hd (o := .cells (s.data.toList.map fun b => .int .u8 b.toNat) e 3) (x := .cells cells e (cap, cap + 1)) (S := cap) (m := 2)
          ⟨cells, (cap, cap + 1), rfl, hsz.symm, by
            have : s.data.toList.length = s.size := by rw [Array.length_toList]; rfl
            rw [List.length_map, this]; omega, fun j v hj => by
            rw [Nat.zero_add]
            have hjl : j < s.data.size := by
              have := (List.getElem?_eq_some_iff.1 hj).1
              simpa using this
            refine ⟨v, ?_, ?_⟩
            · simp only [cells]
              rw [Array.getElem?_append_left (by simpa using hjl)]
              simpa using hj
            · rw [List.getElem?_map, Option.map_eq_some_iff] at hj
              obtain ⟨b, _, rfl⟩ := hj
              exact .int _ _, .inr (.inr ⟨⟨1, rfl, by simp [Mp.add]⟩, fun j hj => by simp only; omega⟩)⟩
        refine ⟨_, _, _, by rw [Sem.run_bind, hconv]; rfl, E', H', K', .sl ⟨.inl rfl, fun b δ S hb => ?_⟩⟩
        simp only [Mp.add, if_true, Option.some.injEq, Prod.mk.injEq] at hb
        obtain ⟨rfl, rfl, rfl⟩ := hb
        exact .inr ⟨1, by simp [Mp.add], .inl ⟨rfl, hcap, by simp⟩⟩
      · cases hr
    · cases hr
  case call c =>
    split at hr
    · rename_i d hd
      obtain ⟨d', r, hdd⟩ := resolveX_sound (E := E) (w := w) (ρ := ρ) (fun x hx => hE x hx) hd
      have := invokeX_sound (E := E) H hdd hr
      have hrun : (execOp ρ ⟨dst, .call c, type, pos, after, guard⟩).run E.P w = (invoke d'.target d'.args).run E.P w := by
        simp only [execOp, Sem.run_bind, r, Result.andThen_ok]
      rw [hrun]; exact this
    · cases hr
  case defer c =>
    split at hr
    · rename_i d hd
      cases hr
      obtain ⟨d', r, hdd⟩ := resolveX_sound (E := E) (w := w) (ρ := ρ) (fun x hx => hE x hx) hd
      exact ⟨d', by simp [execOp, r], hdd⟩
    · cases hr
  case panic x =>
    have hx := hE x (by simp)
    split at hr
    · rename_i t v heq
      cases hr
      rw [heq] at hx
      have hrun : (execOp ρ ⟨dst, .panic x, type, pos, after, guard⟩) = (do pure (.value (← Instr.panic (ρ x)))) := rfl
      rw [hrun]
      generalize ρ x = q at hx
      cases hx with
      | iface hv =>
      rename_i v'
      exact ⟨.iface t v', by simp [Instr.panic], .iface hv⟩
    · cases hr
  all_goals cases hr

end

end Go.X
