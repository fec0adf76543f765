/- Code: X's step and the model's. Conditions: none. -/
import Derived.Test.YtkmbfjdmbdpflaaXSim3
import Derived.RangeFuncIn
namespace Go.X

section
variable {P : Program} {b : Frame} {a : Act} {k : List Item} {cs : List Frame} {w : World}
theorem stepR_scope {c : Code} : step P (lone (b.atR a (.code (.scope c) :: k)) cs w) = .next (lone (b.atR a (.code c :: .inScope c :: k)) cs w) :=
  step_lone_go (by simp [stepG, stepG.exec, Frame.atR])
theorem stepR_inScope {c : Code} : step P (lone (b.atR a (.inScope c :: k)) cs w) = .next (lone (b.atR a k) cs w) :=
  step_lone_go (by simp [stepG, stepG.exec, Frame.atR])
end

section
variable {W : World} {B : Nat → Prop} {E : Env} {M M' : Mp} {h h' : Hp} {w w' : World} {lo hi : Nat} {cs0 : List Frame}
variable {fn : FuncId} {nt : Nat} {tm : Tr Value} {todo : List It} {todo' : List Item} {df : List Deferred} {df' : List Deferred} {kd : CallKind} {ro ro' : Option Nat} {tmps : Array Value} {cs : List Fr} {cs' : List Frame} {s' : St}

theorem exit_rel (id : Nat) {k : List It} {k' : List Item} (r : ItsRel M k k') :
    (exitToX id k = none ∧ exitTo id k' = none) ∨ ∃ k1 k1', exitToX id k = some k1 ∧ exitTo id k' = some k1' ∧ ItsRel M k1 k1' := by
  induction r with
  | nil => exact .inl ⟨rfl, rfl⟩
  | cons x t ih =>
    cases x with
    | inBlock i =>
      simp only [exitToX, exitTo]
      by_cases e : i = id
      · subst e
        rw [Nat.beq_refl, cond_true, if_pos (by simp)]
        exact .inr ⟨_, _, rfl, rfl, t⟩
      · rw [(beq_false i id).2 e, cond_false, if_neg (by simpa using e)]
        exact ih
    | _ => exact ih

theorem goto_rel (l : Nat) {k : List It} {k' : List Item} (r : ItsRel M k k') :
    (gotoX l k = none ∧ gotoIn l k' = none) ∨ ∃ k1 k1', gotoX l k = some k1 ∧ gotoIn l k' = some k1' ∧ ItsRel M k1 k1' := by
  induction r with
  | nil => exact .inl ⟨rfl, rfl⟩
  | cons x t ih =>
    cases x with
    | inScope c =>
      simp only [gotoX, gotoIn]
      cases hf : findLabel c l with
      | none => exact ih
      | some rest => exact .inr ⟨_, _, rfl, rfl, .cons (.code rest) (.cons (.inScope c) t)⟩
    | _ => exact ih

/-- A loop's record, changed. -/
theorem loop_set (H : HRel W B M h w) {l l' : Nat} {r r2 : Lp} (hi : IdRel M l l') (hl : loopOf h l = some r) (f : Loop → Loop) (hf : ∀ r', LRel M r r' → LRel M r2 (f r')) :
    ∃ r' w', LRel M r r' ∧ (Instr.getLoop l').run E.P w = .ok r' w ∧ (setObj l' (.loop (f r'))).run E.P w = .ok () w' ∧ HRel W B M (h.put l (.loop r2)) w' ∧ Keep M h M (h.put l (.loop r2)) (fun _ => False) := by
  obtain ⟨S, r', hρ, hx, he, hget⟩ := loop_place (E := E) H hi hl
  obtain ⟨h1, h2, h3⟩ := H.setObj (E := E) (o := .loop r2) (x := .loop (f r')) hρ hx (by intro c e f h; cases h) ⟨rfl, _, rfl, hf r' he⟩
  exact ⟨r', _, he, hget, h1, h2, h3⟩

theorem endRound_ok (H : HRel W B M h w) {l l' : Nat} (hi : IdRel M l l') {jump : Option Code} (hx : endRoundX h l jump = some h') :
    ∃ w', (Instr.endRound l' jump).run E.P w = .ok (.bool jump.isNone) w' ∧ HRel W B M h' w' ∧ Keep M h M h' (fun _ => False) := by
  unfold endRoundX at hx
  split at hx
  · rename_i st p fn nt tm ps a b d hl
    cases hx
    obtain ⟨r', w', he, hget, h1, h2, h3⟩ := loop_set (E := E) (r2 := ⟨cond (noneJ jump) .ready .done, jump, fn, nt, tm, ps, a, b, d⟩) H hi hl
      (fun r => { r with state := if jump.isNone then .ready else .done, pending := jump }) (fun r' ⟨_, _, q⟩ => ⟨by cases jump <;> rfl, rfl, q⟩)
    exact ⟨w', by simp only [Instr.endRound, Sem.run_bind, hget, Result.andThen_ok, h1, Sem.run_pure], h2, h3⟩
  · cases hx

/-- Leaving: by the end, by return, or by a jump out of a round. -/
theorem leave_sim (H : HRel W B M h w) (hlo : lo ≤ h.n) (hro : RoRel M ro ro') (hdf : DsRel M df df') (S : StackRel E M h cs0 lo cs cs') (T : TRel M tm tmps) {jump : Option Code}
    (hx : leaveX E ⟨fn, nt, tm, todo, df, .run, kd, ro⟩ cs h jump = some s') {fr' : Frame}
    (h0 : ro' = none → (jump = none ∨ jump = some .ret) → step E.P (lone fr' cs' w) = .next (lone ⟨fn, tmps, todo', df', .returning, kd, ro'⟩ cs' w))
    (h1 : ∀ l' v w' c cs2, ro' = some l' → kd = .normal → cs' = c :: cs2 → (Instr.endRound l' jump).run E.P w = .ok v w' → step E.P (lone fr' cs' w) = .next (lone (c.finish v) cs2 w')) :
    ∃ m', Steps E.P (lone fr' cs' w) m' ∧ Sim W B E cs0 s' m' := by
  cases ro with
  | none =>
    cases ro' with
    | some x => exact hro.elim
    | none =>
      simp only [leaveX] at hx
      have hend : (jump = none ∨ jump = some .ret) ∧ s' = ⟨⟨fn, nt, tm, todo, df, .returning, kd, none⟩, cs, h⟩ := by
        cases jump with
        | none => cases hx; exact ⟨.inl rfl, rfl⟩
        | some c => cases c <;> simp only at hx <;> first | (cases hx; done) | (cases hx; exact ⟨.inr rfl, rfl⟩)
      obtain ⟨hj, rfl⟩ := hend
      exact ⟨_, .one (h0 rfl hj), M, lo, _, cs', w, rfl, H, hlo, ⟨rfl, rfl, trivial, hdf, trivial, T.res fn⟩, S⟩
  | some l =>
    cases ro' with
    | none => exact hro.elim
    | some l' =>
      simp only [leaveX] at hx
      cases kd <;> simp only at hx <;> (try (cases hx; done))
      split at hx
      · rename_i h2 hend
        obtain ⟨w', hr, H', K⟩ := endRound_ok (E := E) H hro hend
        unfold returnX at hx
        cases cs with
        | nil => cases hx
        | cons c rest =>
          cases cs' with
          | nil => exact S.elim
          | cons c' rest' =>
            obtain ⟨lo1, g1, g2, g3⟩ := S
            simp only at hx
            split at hx
            · rename_i c2 hf
              cases hx
              have hb : VRel M (boolV (noneJ jump)) (.bool jump.isNone) := by
                rw [boolV_eq]; cases jump <;> exact .bool _
              have hlo2 : lo ≤ h2.n := Nat.le_trans hlo K.1
              refine ⟨_, .one (h1 l' _ w' c' rest' rfl rfl rfl hr), M, lo1, _, rest', w', rfl, H', Nat.le_trans g1 hlo2, ?_, g3.mono (.refl M) fun i hi => K.all i (Nat.lt_of_lt_of_le hi (Nat.le_trans g1 hlo))⟩
              exact finish_sim (g2.mono (.refl M) (fun i _ hi => K.all i (Nat.lt_of_lt_of_le hi hlo)) (Nat.le_refl lo)) hb hf hlo2
            · cases hx
      · cases hx

/-- A read that X makes again comes to the same. -/
theorem Draw.again {ops : Array Oper} {i : Nat} {c rest l : List Nat} {idf : Nat → Nat} (D : Draw E M h lo hi nt tm ops false (i :: c) rest l tmps idf) (ha : againX E tm h ops i = true) :
    Draw E M h lo hi nt tm ops false c rest l tmps idf :=
  { D with
    pend := fun j o hl hr ho => by
      have Pd := D.pend j o hl hr ho
      unfold Pend at Pd ⊢
      cases hw : wantedX ops tm o with
      | none => rw [hw] at Pd; exact Pd
      | some b =>
        rw [hw] at Pd
        cases b with
        | false => exact Pd
        | true =>
          simp only at Pd ⊢
          cases hc : cls E o with
          | zero =>
            rw [hc] at Pd
            simp only at Pd ⊢
            rcases Pd with Pd | Pd
            · by_cases e : j = i
              · subst e
                unfold againX at ha
                rw [ho] at ha
                simp only [hw] at ha
                split at ha
                · rename_i v d hv hd
                  split at ha
                  · rename_i u hu
                    have := sameV_eq 20 v u ha
                    subst this
                    refine .inr ⟨by simp, v, hv, fun d' hd' _ => ?_⟩
                    rw [hd] at hd'; cases hd'
                    simp only [ev, hu]
                  · cases ha
                · cases ha
              · exact .inl ((List.mem_cons.1 Pd).resolve_left e)
            · exact .inr Pd
          | succ n => rw [hc] at Pd; cases n <;> exact Pd }

/-- A range over a function. -/
theorem range_sim {M1 : Mp} {h1 : Hp} {w1 : World} (H : HRel W B M1 h1 w1) (hlo : lo ≤ h1.n) (hro : RoRel M1 ro ro') {mark mark' : List Deferred} (hdf : DsRel M1 (mark ++ df) (mark' ++ df')) (S : StackRel E M1 h1 cs0 lo cs cs')
    (T : TRel M1 tm tmps) (hs : tmps.size = nt) {k : List It} {k' : List Item} (hk : ItsRel M1 k k') {f : Operand} {ps : Array Tmp} {x y : Code} {r r' : Nat} (hr : IdRel M1 r r')
    (hx : rangeX E fn nt tm k df kd ro cs h1 f ps x y mark r = some s')
    (he : ∀ l w2, (newObj (.loop { state := .ready, pending := none, fn, tmps, params := ps, assign := x, body := y, defers := r' })).run E.P w1 = .ok l w2 → (Instr.enterLoop fn tmps ps x y ro').run E.P w = .ok (l, mark') w2) :
    ∃ m', Steps E.P (lone (Frame.atR ⟨fn, tmps, [], df', .run, kd, ro'⟩ ⟨tmps, df'⟩ (.code (.rangeFunc f ps x y) :: k')) cs' w) m' ∧ Sim W B E cs0 s' m' := by
  unfold rangeX at hx
  cases hcf : constOk f with
  | false => rw [hcf, cond_false] at hx; cases hx
  | true =>
    rw [hcf, cond_true] at hx
    split at hx
    · rename_i d hd
      split at hx
      · rename_i g args hinv
        split at hx
        · rename_i fr2 hf2
          cases hx
          have hnk : ¬ M1.K h1.n := fun hk => by have := H.kn _ hk; omega
          have hev := Mp.add_ev M1 h1.n w1.heap.size 0 0 0 hnk
          have hlr : LRel (M1.add h1.n w1.heap.size 0 0 0) ⟨.ready, none, fn, nt, tm, ps, x, y, r⟩ { state := .ready, pending := none, fn, tmps, params := ps, assign := x, body := y, defers := r' } :=
            ⟨rfl, rfl, rfl, hs, T.mono hev, rfl, rfl, rfl, hr.mono hev⟩
          obtain ⟨H2, _, K⟩ := newBlock H (o := .loop ⟨.ready, none, fn, nt, tm, ps, x, y, r⟩) (x := .loop { state := .ready, pending := none, fn, tmps, params := ps, assign := x, body := y, defers := r' }) (S := 0) (m := 0) ⟨rfl, _, rfl, hlr⟩
          have hid : IdRel (M1.add h1.n w1.heap.size 0 0 0) h1.n w1.heap.size := ⟨.inl rfl, fun b δ S hb => by simp [Mp.add] at hb; exact hb.1⟩
          have henter := he w1.heap.size _ rfl
          -- the call
          unfold resolveX rangeCallX at hd
          simp only at hd
          split at hd
          · rename_i fv first captured heq
            cases hd
            have hfr : VRel (M1.add h1.n w1.heap.size 0 0 0) (ev tm f) ((Act.mk tmps df').eval f) := by
              cases f with
              | tmp t => exact (T t).mono hev
              | const v => exact plain_rel _ 20 v hcf
              | global g => exact H2.glob.ptr hcf
              | func f => exact .func' (f := .func f) (f' := .func f) rfl (.nil _) (.nil _)
            rw [heq] at hfr
            have hmap : (#[.const (.func (.yield w1.heap.size) #[] #[])] : Array Operand).map (Act.mk tmps df').eval = #[.func (.yield w1.heap.size) #[] #[]] := by simp [Act.eval]
            have hrun : ∀ w2, (resolve (Act.mk tmps df').eval (rangeCall f w1.heap.size) 0).run E.P w2 = (Deferred.ofValue ((Act.mk tmps df').eval f) #[.func (.yield w1.heap.size) #[] #[]]).run E.P w2 := fun w2 => by
              rw [← hmap]; rfl
            generalize (Act.mk tmps df').eval f = q at hfr hrun
            cases hfr with
            | func hfn ha hb ka kb =>
            rename_i f1 a1 b1
            have hok := invokeX_sound (E := E) H2 (d' := { target := .fn f1 b1, args := a1 ++ #[.func (.yield w1.heap.size) #[] #[]] }) (d := { target := .fn fv captured, args := first ++ (#[.const (.func (.yield h1.n) #[] #[])] : Array Operand).map (ev tm) }) ⟨⟨hfn, hb, kb⟩, by
              have hy : VRel (M1.add h1.n w1.heap.size 0 0 0) (.func (.yield h1.n) #[] #[]) (.func (.yield w1.heap.size) #[] #[]) := .func' (f := .yield h1.n) (f' := .yield w1.heap.size) hid (.nil _) (.nil _)
              simp only [Array.toList_append, Array.toList_map]
              exact VsRel.append ⟨ha, ka⟩ (VsRel.cons hy (.nil _))⟩ hinv
            obtain ⟨args', hi2, hv⟩ := hok
            have hst := stepR_rangeFunc (P := E.P) (b := ⟨fn, tmps, [], df', .run, kd, ro'⟩) (a := ⟨tmps, df'⟩) (k := k') (cs := cs') (w := w) (g := f) (ps := ps) (assign := x) (body := y) henter (hrun _) hi2
            have hn2 := K.1
            refine ⟨_, .one hst, _, (h1.alloc (.loop ⟨.ready, none, fn, nt, tm, ps, x, y, r⟩)).n, _, _ :: cs', _, rfl, H2, Nat.le_refl _, enter_sim hv hf2 _ _, lo, Nat.le_trans hlo hn2, ?_, S.mono hev fun i hi => K.all i (Nat.lt_of_lt_of_le hi hlo)⟩
            exact ⟨rfl, rfl, hro.mono hev, hdf.mono hev, trivial, ⟨.cons (.inRangeFunc hid) (hk.mono hev), T.mono hev, hs⟩⟩
          · cases hd
        · cases hx
      · cases hx
    · cases hx

end
end Go.X
