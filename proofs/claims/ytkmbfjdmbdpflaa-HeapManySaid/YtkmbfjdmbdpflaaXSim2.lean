/- What an operation leads to, X's step and the model's. Conditions: none. -/
import Derived.Test.YtkmbfjdmbdpflaaXSim1
namespace Go.X

section
variable {P : Program} {b : Frame} {tmps : Array Value} {df : List Deferred} {ops : Array Oper} {i : Nat} {o : Oper} {rest : List Nat} {k : List Item} {cs : List Frame} {w w' : World}

theorem step_enterOp {f : FuncId} {args : Array Value} (ho : ops[i]? = some o) (hw : Region.wanted o (yielded ops tmps) = true) (hr : (o.semAt b.roundOf (Act.mk tmps df).eval).run P w = .ok (.enter f args) w') :
    step P (lone (b.atR ⟨tmps, df⟩ (.inRegion ops (i :: rest) :: k)) cs w) = .next (lone (Frame.enter P f args .normal) (b.atR ⟨tmps, df⟩ (.inRegion ops (i :: rest) :: k) :: cs) w') := by
  refine step_lone_go ?_
  rw [stepGR_op ho hw]
  simp only [stepG.apply, Sem.runT_eq, hr, GStep.bare_after, GStep.bare_go, if_true, Frame.atR]

theorem step_roundOp {l : Nat} {f : FuncId} {ts : Array Value} {x y : Code} (ho : ops[i]? = some o) (hw : Region.wanted o (yielded ops tmps) = true) (hr : (o.semAt b.roundOf (Act.mk tmps df).eval).run P w = .ok (.round l f ts x y) w') :
    step P (lone (b.atR ⟨tmps, df⟩ (.inRegion ops (i :: rest) :: k)) cs w) = .next (lone (Frame.round l f ts x y .normal) (b.atR ⟨tmps, df⟩ (.inRegion ops (i :: rest) :: k) :: cs) w') := by
  refine step_lone_go ?_
  rw [stepGR_op ho hw]
  simp only [stepG.apply, Sem.runT_eq, hr, GStep.bare_after, GStep.bare_go, if_true, Frame.atR]

theorem step_deferOp {d : Deferred} (ho : ops[i]? = some o) (hw : Region.wanted o (yielded ops tmps) = true) (hr : (o.semAt b.roundOf (Act.mk tmps df).eval).run P w = .ok (.defer d) w') :
    step P (lone (b.atR ⟨tmps, df⟩ (.inRegion ops (i :: rest) :: k)) cs w) = .next (lone ((b.atR ⟨tmps, d :: df⟩ (.inRegion ops (i :: rest) :: k)).finish undef) cs w') := by
  refine step_lone_go ?_
  rw [stepGR_op ho hw]
  simp only [stepG.apply, Sem.runT_eq, hr, GStep.bare_after, GStep.bare_go, if_true, Frame.atR]

theorem step_panicOp {v : Value} (ho : ops[i]? = some o) (hw : Region.wanted o (yielded ops tmps) = true) (hr : (o.semAt b.roundOf (Act.mk tmps df).eval).run P w = .halt (.panic v) w') :
    step P (lone (b.atR ⟨tmps, df⟩ (.inRegion ops (i :: rest) :: k)) cs w) = .next (lone ((b.atR ⟨tmps, df⟩ (.inRegion ops (i :: rest) :: k)).raise [{ v, recovered := false }]) cs w') := by
  refine step_lone_go ?_
  rw [stepGR_op ho hw]
  simp only [stepG.apply, Sem.runT_eq, hr, GStep.bare_after, GStep.bare_go, if_true]

theorem step_recoverOp (hb : b.roundOf = none) (ho : ops[i]? = some o) (hw : Region.wanted o (yielded ops tmps) = true) (hr : (o.semAt b.roundOf (Act.mk tmps df).eval).run P w = .ok .recover w') {v : Value} {cs2 : List Frame}
    (ht : (match tryRecover (b.atR ⟨tmps, df⟩ (.inRegion ops (i :: rest) :: k)) cs with | some x => x | none => (.nilIface, cs)) = (v, cs2)) :
    step P (lone (b.atR ⟨tmps, df⟩ (.inRegion ops (i :: rest) :: k)) cs w) = .next (lone ((b.atR ⟨tmps, df⟩ (.inRegion ops (i :: rest) :: k)).finish v) cs2 w') := by
  refine step_lone_go ?_
  rw [stepGR_op ho hw]
  have hb' : (b.atR ⟨tmps, df⟩ (.inRegion ops (i :: rest) :: k)).roundOf = none := hb
  simp only [stepG.apply, Sem.runT_eq, hr, GStep.bare_after, if_true, hb']
  cases hrec : tryRecover (b.atR ⟨tmps, df⟩ (.inRegion ops (i :: rest) :: k)) cs with
  | none => rw [hrec] at ht; cases ht; rfl
  | some x => rw [hrec] at ht; cases x; cases ht; rfl

end

section
variable {W : World} {B : Nat → Prop} {E : Env} {M M' : Mp} {h h' : Hp} {w w' : World} {lo hi : Nat} {cs0 : List Frame}

theorem raise_sim {fr fr2 : Fr} {fr' : Frame} (R : FrWait E M h lo hi fr fr') {ch ch' : List PanicEntry} (hc : ChRel M ch ch') (hf : raiseX E fr ch = some fr2) (h' : Hp) (lo' : Nat) :
    FrTop E M h' lo' fr2 (fr'.raise ch') := by
  obtain ⟨fn, nt, tm, todo, df, md, kd, ro⟩ := fr
  obtain ⟨fn', tmps', todo', df', md', kd', ro'⟩ := fr'
  obtain ⟨h1, h2, h3, h4, h5, h6⟩ := R
  simp only at h1 h2 h3 h4 h5 h6
  subst h1; subst h2
  unfold raiseX at hf
  cases md with
  | panicking c =>
    cases md' <;> simp only [MdRel] at h5
    cases hf
    exact ⟨rfl, rfl, h3, h4, hc.append h5, h6⟩
  | returning =>
    cases md' <;> simp only [MdRel] at h5
    cases hf
    exact ⟨rfl, rfl, h3, h4, hc, h6⟩
  | run =>
    cases md' <;> simp only [MdRel] at h5
    simp only at hf h6
    split at hf
    · obtain ⟨i, rest', l, k', idf, e1, e2, e3, D⟩ := h6
      rename_i ops _ _
      cases hres : resOk E fn' ops with
      | false => rw [hres, cond_false] at hf; cases hf
      | true =>
        rw [hres, cond_true] at hf
        cases hf
        refine ⟨rfl, rfl, h3, h4, hc, fun f hfn r hr => D.tmp _ fun _ j o _ ho e => ?_⟩
        unfold resOk at hres
        rw [hfn] at hres
        have a1 := List.all_eq_true.1 (List.all_eq_true.1 hres r hr) o (by rw [Array.mem_toList_iff]; exact Array.mem_of_getElem? ho)
        cases r <;> simp [slotOf] at e <;> simp [dstIs_iff.2 e] at a1
    · exact h6.elim
    · cases hf
      rename_i hnd hnc
      have : ItsRel M todo todo' ∧ TRel M tm tmps' ∧ tmps'.size = nt := by
        unfold Wait at h6
        split at h6
        · exact absurd rfl (hnd _ _ _)
        · exact h6.elim
        · exact h6
      exact ⟨rfl, rfl, h3, h4, hc, this.2.1.res _⟩

theorem argsT_get : ∀ (l : List Value) (i : Nat) (t : Tr Value) (k : Nat), (argsT l i t).get k = if i ≤ k ∧ k < i + l.length then l[k - i]? else t.get k
  | [], i, t, k => by simp [argsT]; omega
  | v :: l, i, t, k => by
    rw [argsT, argsT_get l (i + 1) _ k]
    by_cases h1 : i + 1 ≤ k ∧ k < i + 1 + l.length
    · rw [if_pos h1, if_pos (by simp; omega)]
      have : k - i = (k - (i + 1)) + 1 := by omega
      rw [this, List.getElem?_cons_succ]
    · rw [if_neg h1, get_set _ _ _ _ _ (by omega)]
      by_cases e : i = k
      · subst e; simp
      · rw [if_neg (by omega), if_neg (by simp only [List.length_cons]; omega)]

theorem enter_sim {f : FuncId} {args args' : Array Value} {kind : CallKind} {fr : Fr} (hv : VsRel M args.toList args'.toList) (he : enterX E f args.toList kind = some fr) (h : Hp) (lo : Nat) :
    FrTop E M h lo fr (Frame.enter E.P f args' kind) := by
  unfold enterX at he
  split at he
  · rename_i fn hfn
    split at he
    · rename_i c hc
      cases he
      have hP := E.hfn f fn hfn
      have hl : args'.size = args.toList.length := by have := hv.1; simpa using this.symm
      refine ⟨rfl, rfl, trivial, trivial, trivial, ?_⟩
      simp only
      have : Frame.enter E.P f args' kind = { fn := f, tmps := args' ++ Array.replicate (fn.ntmps - args'.size) undef, todo := [.code c], defers := [], mode := .run, kind } := by
        simp [Frame.enter, hP, hc]
      rw [this]
      refine Body.plain (.cons (.code c) .nil) (fun t => ?_) (by simp only [Array.size_append, Array.size_replicate, hl])
      simp only [ev]
      rw [argsT_get]
      by_cases ht : t < args.toList.length
      · rw [if_pos (show 0 ≤ t ∧ t < 0 + args.toList.length from ⟨Nat.zero_le _, (Nat.zero_add _).symm ▸ ht⟩)]
        have h1 : args.toList[t]? = some args.toList[t] := List.getElem?_eq_getElem ht
        have ht' : t < args'.toList.length := by rw [← hv.1]; exact ht
        have h2 : args'.toList[t]? = some args'.toList[t] := List.getElem?_eq_getElem ht'
        have := hv.2 t _ _ h1 h2
        simp only [Nat.sub_zero, h1]
        have hs : t < args'.size := by simpa using ht'
        have e : (args' ++ Array.replicate (fn.ntmps - args'.size) undef).getD t undef = args'.toList[t] := by
          simp [Array.getElem?_append, hs]
        rw [e]; exact this
      · rw [if_neg (show ¬(0 ≤ t ∧ t < 0 + args.toList.length) from fun hx => ht (by have := hx.2; rwa [Nat.zero_add] at this))]
        have hs : ¬ t < args'.size := by rw [hl]; exact ht
        have e : (args' ++ Array.replicate (fn.ntmps - args'.size) undef).getD t undef = undef := by
          rw [Array.getD_eq_getD_getElem?, Array.getElem?_append, if_neg hs, Array.getElem?_replicate]
          split <;> rfl
        rw [e]
        exact .undef M
    · cases he
  · cases he

theorem params_rel {nt : Nat} : ∀ (ps : List Nat) (l l' : List Value) (tm : Tr Value) (tmps : Array Value), VsRel M l l' → TRel M tm tmps → tmps.size = nt →
    TRel M (paramsT nt ps l tm) ((ps.zip l').foldl (fun tmps (t, a) => tmps.setIfInBounds t a) tmps) ∧ ((ps.zip l').foldl (fun tmps (t, a) => tmps.setIfInBounds t a) tmps).size = nt
  | [], l, l', tm, tmps, _, hT, hs => by cases l <;> exact ⟨hT, hs⟩
  | p :: ps, [], [], tm, tmps, _, hT, hs => ⟨hT, hs⟩
  | p :: ps, [], _ :: _, _, _, hv, _, _ => by have := hv.1; simp at this
  | p :: ps, _ :: _, [], _, _, hv, _, _ => by have := hv.1; simp at this
  | p :: ps, v :: l, v' :: l', tm, tmps, hv, hT, hs => by
    simp only [paramsT, List.zip_cons_cons, List.foldl_cons]
    have hT' := hT.put hs hv.uncons.1 (some p) []
    exact params_rel ps l l' _ _ hv.uncons.2 hT' (by simp [hs])

theorem loopOf_some {l : Nat} {r : Lp} (hl : loopOf h l = some r) : h.get l = some (.loop r) := by
  unfold loopOf at hl
  split at hl
  · rename_i hg; cases hl; exact hg
  · cases hl

theorem loop_place (H : HRel W B M h w) {l l' : Nat} {r : Lp} (hi : IdRel M l l') (hl : loopOf h l = some r) :
    ∃ S r', M.ρ l = some (l', 0, S) ∧ w.heap[l']? = some (.loop r') ∧ LRel M r r' ∧ (Instr.getLoop l').run E.P w = .ok r' w := by
  obtain ⟨b, δ, S, x, hρ, hx, h0, r', rfl, he⟩ := H.place hi.1 (loopOf_some hl) (by simp)
  have := hi.2 b δ S hρ
  subst this; subst h0
  refine ⟨S, r', hρ, hx, he, ?_⟩
  have : (getObj l').run E.P w = .ok (.loop r') w := by simp [getObj, Sem.run, hx]
  simp [Instr.getLoop, this]

theorem HRel.below (H : HRel W B M h w) (b : RowKit.Below w.heap.size w w') : HRel W B M h w' := by
  refine ⟨fun i c δ S hi => ?_, H.inj, H.kn, H.fresh, H.live, b.os.trans H.os, b.tape.trans H.tape, b.output.trans H.output, Nat.le_trans H.size b.size, fun c hc hB => ?_, H.own, H.glob⟩
  · obtain ⟨hk, o, x, h1, h2, h3⟩ := H.obj i c δ S hi
    exact ⟨hk, o, x, h1, (b.block c (Array.getElem?_eq_some_iff.1 h2).1).trans h2, h3⟩
  · exact (b.block c (Nat.lt_of_lt_of_le hc H.size)).trans (H.old c hc hB)

theorem Keep.all {M M' : Mp} {h h' : Hp} (K : Keep M h M' h' (fun _ => False)) : ∀ i, i < h.n → ¬ M.K i → ¬ M'.K i ∧ h'.get i = h.get i := fun i hi hk => K.2 i hi hk id

set_option maxHeartbeats 1000000 in
theorem next_sim (H : HRel W B M h w) (hlo : lo ≤ h.n) {fr : Fr} {cs : List Fr} {cs' : List Frame} {n : Nx} {s' : St} {b : Frame} {tmps : Array Value} {df : List Deferred} {ops : Array Oper} {i : Nat} {o : Oper} {rest : List Nat} {k : List Item}
    (R : FrWait E M h lo h.n fr (b.atR ⟨tmps, df⟩ (.inRegion ops (i :: rest) :: k))) (S : StackRel E M h cs0 lo cs cs') (hn : nextX E fr cs h n = some s')
    (ho : ops[i]? = some o) (hw : Region.wanted o (yielded ops tmps) = true) (hx : NxOk W B E M h w n ((o.semAt b.roundOf (Act.mk tmps df).eval).run E.P w)) :
    ∃ m', Steps E.P (lone (b.atR ⟨tmps, df⟩ (.inRegion ops (i :: rest) :: k)) cs' w) m' ∧ Sim W B E cs0 s' m' := by
  cases n with
  | value v h2 =>
    obtain ⟨v', w', M', hr, e, H', K, hv⟩ := hx
    simp only [nextX] at hn
    split at hn
    · rename_i fr2 hf
      cases hn
      refine ⟨_, .one (step_value ho hw hr), M', lo, _, cs', w', rfl, H', Nat.le_trans hlo K.1, ?_, S.mono e fun j hj => K.all j (Nat.lt_of_lt_of_le hj hlo)⟩
      have := finish_sim (R.mono e (fun j _ hj => K.all j hj) K.1) hv hf (Nat.le_refl _)
      rw [Frame.finish_put b tmps df ops ho] at this
      exact this
    · cases hn
  | skip h2 =>
    obtain ⟨w', M', hr, e, H', K⟩ := hx
    simp only [nextX] at hn
    split at hn
    · rename_i fr2 hf
      cases hn
      refine ⟨_, .one (step_skipOp ho hw hr), M', lo, _, cs', w', rfl, H', Nat.le_trans hlo K.1, ?_, S.mono e fun j hj => K.all j (Nat.lt_of_lt_of_le hj hlo)⟩
      have := finish_sim (R.mono e (fun j _ hj => K.all j hj) K.1) (.undef M') hf (Nat.le_refl _)
      rw [Frame.finish_put b tmps df ops ho] at this
      exact this
    · cases hn
  | enter f args =>
    obtain ⟨args', hr, hv⟩ := hx
    simp only [nextX] at hn
    cases ho2 : E.orc f with
    | some v0 =>
      rw [ho2] at hn
      simp only at hn
      split at hn
      · rename_i hargs
        split at hn
        · rename_i fr2 hf
          cases hn
          have ea : args' = #[] := by
            rw [hargs] at hv
            have := hv.1
            apply Array.toList_inj.1
            simpa using this.symm
          subst ea
          obtain ⟨hpl, hcalls⟩ := E.horc f v0 ho2
          obtain ⟨e, w2, fr3, ⟨he, hb⟩, hc, hfn, hl⟩ := hcalls w (b.atR ⟨tmps, df⟩ (.inRegion ops (i :: rest) :: k) :: cs')
          subst he
          exact ⟨_, Steps.trans (.one (step_enterOp ho hw hr)) (Steps.trans hc (.one (step_leave_returned hl))), M, lo, _, cs', w2, rfl, H.below hb, hlo, finish_sim R (plain_rel M 20 v0 hpl) hf (Nat.le_refl _), S⟩
        · cases hn
      · cases hn
    | none =>
      rw [ho2] at hn
      simp only at hn
      split at hn
      · rename_i fr2 hf
        cases hn
        exact ⟨_, .one (step_enterOp ho hw hr), M, h.n, _, _ :: cs', w, rfl, H, Nat.le_refl _, enter_sim hv hf h _, lo, hlo, R, S⟩
      · cases hn
  | round l args =>
    obtain ⟨l', args', hl, hv, hr⟩ := hx
    simp only [nextX] at hn
    split at hn
    · rename_i a fn nt tm ps x y a' hlp
      cases hlen : Nat.beq args.toList.length ps.toList.length with
      | false => rw [hlen, cond_false] at hn; cases hn
      | true =>
        rw [hlen, cond_true] at hn
        cases hn
        obtain ⟨S0, r', hρ, hx', ⟨_, _, r3, r4, r5, r6, r7, r8, _⟩, hget⟩ := loop_place (E := E) H hl hlp
        simp only at r3 r4 r5 r6 r7 r8
        have hsz : args'.size = r'.params.size := by
          have e1 := (beq_iff _ _).1 hlen
          have e2 := hv.1
          simp only [Array.length_toList] at e1 e2
          rw [r6]; omega
        have hy : (Instr.yield l' args').run E.P w = .ok (.round l' r'.fn ((r'.params.zip args').foldl (fun tmps (t, a) => tmps.setIfInBounds t a) r'.tmps) r'.assign r'.body) w := by
          simp [Instr.yield, hget, hsz]
        refine ⟨_, .one (step_roundOp ho hw (hr.trans hy)), M, h.n, _, _ :: cs', w, rfl, H, Nat.le_refl _, ?_, lo, hlo, R, S⟩
        obtain ⟨p1, p2⟩ := params_rel ps.toList args.toList args'.toList tm r'.tmps hv r5 r4
        have e : (r'.params.zip args').foldl (fun tmps (t, a) => tmps.setIfInBounds t a) r'.tmps = (ps.toList.zip args'.toList).foldl (fun tmps (t, a) => tmps.setIfInBounds t a) r'.tmps := by
          rw [← Array.foldl_toList, Array.toList_zip, r6]
        rw [e, r7, r8]
        exact ⟨r3, rfl, hl, trivial, trivial, Body.plain (.cons (.code _) (.cons .beginRound (.cons (.code _) .nil))) p1 p2⟩
    · cases hn
  | defer d =>
    obtain ⟨d', hr, hd⟩ := hx
    obtain ⟨fn, nt, tm, todo, dfs, md, kd, ro⟩ := fr
    cases ro with
    | some l => simp only [nextX] at hn; cases hn
    | none =>
      simp only [nextX] at hn
      split at hn
      · rename_i fr2 hf
        cases hn
        refine ⟨_, .one (step_deferOp ho hw hr), M, lo, _, cs', w, rfl, H, hlo, finish_sim (hi := h.n) ?_ (.undef M) hf (Nat.le_refl _), S⟩
        obtain ⟨h1, h2, h3, h4, h5, h6⟩ := R
        exact ⟨h1, h2, h3, ⟨hd, h4⟩, h5, h6⟩
      · cases hn
  | recover =>
    obtain ⟨fn, nt, tm, todo, dfs, md, kd, ro⟩ := fr
    simp only [nextX] at hn
    cases ro with
    | some l => cases hn
    | none =>
      simp only at hn
      have hro : b.roundOf = none := by
        have := R.2.2.1
        cases hb : b.roundOf with
        | none => rfl
        | some x => simp [Frame.atR, hb, RoRel] at this
      have hkd : (b.atR ⟨tmps, df⟩ (.inRegion ops (i :: rest) :: k)).kind = kd := R.2.1
      -- what recover yields
      have key : ∀ v cs2, recoverX ⟨fn, nt, tm, todo, dfs, md, kd, none⟩ cs = some (v, cs2) → ∃ v' cs2', (match tryRecover (b.atR ⟨tmps, df⟩ (.inRegion ops (i :: rest) :: k)) cs' with | some x => x | none => (.nilIface, cs')) = (v', cs2') ∧
          VRel M v v' ∧ StackRel E M h cs0 lo cs2 cs2' := by
        intro v cs2 hrec
        unfold recoverX at hrec
        simp only at hrec
        split at hrec
        · rename_i fn1 nt1 tm1 todo1 df1 md1 kd1 ro1 rest1
          cases cs' with
          | nil => exact S.elim
          | cons c' cs' =>
            obtain ⟨lo1, g1, ⟨q1, q2, q3, q4, q5, q6⟩, g3⟩ := S
            simp only at q1 q2 q3 q4 q5 q6
            obtain ⟨fn1', tmps1', todo1', df1', md1', kd1', ro1'⟩ := c'
            simp only at q1 q2 q3 q4 q5 q6
            unfold tryRecover
            rw [hkd]
            simp only
            split at hrec
            ·
              rename_i u older
              cases hrec
              cases md1' <;> simp only [MdRel] at q5
              rename_i c1
              cases c1 with
              | nil => exact q5.elim
              | cons p' older' =>
                obtain ⟨⟨p1, p2, p3⟩, p4⟩ := q5
                obtain ⟨pv, pr, pg⟩ := p'
                simp only at p1 p2 p3
                subst p2; subst p3
                refine ⟨pv, _, rfl, p1, lo1, g1, ⟨q1, q2, q3, q4, ⟨⟨p1, rfl, rfl⟩, p4⟩, q6⟩, g3⟩
            · cases hrec
            · rename_i hno1 hno2
              cases hrec
              refine ⟨.nilIface, ⟨fn1', tmps1', todo1', df1', md1', kd1', ro1'⟩ :: cs', ?_, .nilIface, lo1, g1, ⟨q1, q2, q3, q4, q5, q6⟩, g3⟩
              cases md1' with
              | run => rfl
              | returning => rfl
              | panicking c => cases md1 <;> simp only [MdRel] at q5; exact absurd rfl (hno2 _)
        · cases hrec
          refine ⟨.nilIface, cs', ?_, .nilIface, S⟩
          unfold tryRecover
          rw [hkd]
        · cases hrec
      split at hn
      · rename_i v cs2 hrec
        obtain ⟨v', cs2', e1, e2, e3⟩ := key v cs2 hrec
        split at hn
        · rename_i fr2 hf
          cases hn
          exact ⟨_, .one (step_recoverOp hro ho hw hx e1), M, lo, _, cs2', w, rfl, H, hlo, finish_sim (hi := h.n) R e2 hf (Nat.le_refl _), e3⟩
        · cases hn
      · cases hn
  | panic v =>
    obtain ⟨v', hr, hv⟩ := hx
    simp only [nextX] at hn
    split at hn
    · rename_i fr2 hf
      cases hn
      exact ⟨_, .one (step_panicOp ho hw hr), M, lo, _, cs', w, rfl, H, hlo, raise_sim (ch := [⟨v, false, false⟩]) (ch' := [⟨v', false, false⟩]) R ⟨⟨hv, rfl, rfl⟩, trivial⟩ hf h lo, S⟩
    · cases hn

end
end Go.X
