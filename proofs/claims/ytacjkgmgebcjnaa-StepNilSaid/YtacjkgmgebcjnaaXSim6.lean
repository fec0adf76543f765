/- Leaving, and the whole: what X runs to, the model comes to, whatever the tape says. Conditions: none. -/
import Derived.Test.YtacjkgmgebcjnaaXSim5
import Derived.Below
namespace Go.X

section
variable {P : Program}

theorem step_collected {fr : Frame} {cs : List Frame} {w w' : World} {b : Nat} {args : Array Value} {ds calls : List Deferred} (hm : fr.mode ≠ .run) (hd : fr.defers = { target := .collected b, args } :: ds)
    (hr : (Instr.takeDeferred b).run P w = .ok calls w') : step P (lone fr cs w) = .next (lone { fr with defers := calls ++ ds } cs w') := by
  refine step_lone_go ?_
  cases hmode : fr.mode with
  | run => exact absurd hmode hm
  | returning => simp [stepG, unwind, hmode, hd, Sem.runT_eq, hr, GStep.bare_after]
  | panicking chain => simp [stepG, unwind, hmode, hd, Sem.runT_eq, hr, GStep.bare_after]

end

section
variable {W : World} {B : Nat → Prop} {E : Env} {M M' : Mp} {h h' : Hp} {w w' : World} {lo hi : Nat} {cs0 : List Frame}
variable {fn : FuncId} {nt : Nat} {tm : Tr Value} {todo : List It} {todo' : List Item} {df : List Deferred} {df' : List Deferred} {md md' : FrameMode} {kd : CallKind} {ro ro' : Option Nat} {tmps : Array Value} {cs : List Fr} {cs' : List Frame} {s' : St}

theorem results_list (H : HRel W B M h w) : ∀ (rs : List ResultVar) (vs : List Value), resultsX E tm h rs = some vs → (∀ r, r ∈ rs → VRel M (ev tm (.tmp (slotOf r))) (tmps.getD (slotOf r) undef)) →
    ∃ vs', (rs.mapM fun (r : ResultVar) => (match r with
      | .tmp t => pure (tmps.getD t undef)
      | .cell a t => do loadVar t (← asAddr (tmps.getD a undef)) : Sem Value)).run E.P w = .ok vs' w ∧ VsRel M vs vs'
  | [], vs, hx, _ => by
    simp only [resultsX] at hx; cases hx
    exact ⟨[], by simp [List.mapM_nil], .nil M⟩
  | r :: rs, vs, hx, hr => by
    have h0 := hr r (by simp)
    cases r with
    | tmp t =>
      simp only [resultsX] at hx
      split at hx
      · rename_i r hrs
        cases hx
        obtain ⟨vs', h1, h2⟩ := results_list H rs r hrs fun q hq => hr q (by simp [hq])
        exact ⟨tmps.getD t undef :: vs', by simp only [List.mapM_cons, Sem.run_bind, Sem.run_pure, Result.andThen_ok, h1], .cons h0 h2⟩
      · cases hx
    | cell a t =>
      simp only [resultsX] at hx
      split at hx
      · rename_i p hp
        split at hx
        · rename_i v r hv hrs
          cases hx
          simp only [slotOf] at h0
          rw [hp] at h0
          generalize hq : tmps.getD a undef = q at h0
          cases h0 with
          | ptr ha =>
            obtain ⟨v', hl, hvr⟩ := loadX_sound (E := E) H ha hv
            obtain ⟨vs', h1, h2⟩ := results_list H rs r hrs fun q hq => hr q (by simp [hq])
            rename_i p'
            have hp' : (asAddr (tmps.getD a undef)).run E.P w = .ok p' w := by rw [hq]; rfl
            exact ⟨v' :: vs', by simp only [List.mapM_cons, Sem.run_bind, Sem.run_pure, Result.andThen_ok, hp', hl, h1], .cons hvr h2⟩
        · cases hx
      · cases hx

theorem results_sound (H : HRel W B M h w) {f : Func} {vs : List Value} (hf : E.fn fn = some f) (hx : resultsX E tm h f.results.toList = some vs) (hr : ResRel E M fn tm tmps) :
    ∃ v', (results f tmps).run E.P w = .ok v' w ∧ VRel M (oneOf vs) v' := by
  obtain ⟨vs', h1, h2⟩ := results_list H f.results.toList vs hx (hr f hf)
  refine ⟨if h : vs'.toArray.size = 1 then vs'.toArray[0] else .tuple vs'.toArray, ?_, ?_⟩
  · unfold results
    rw [Array.mapM_eq_mapM_toList]
    simp only [Sem.run_bind, map_eq_pure_bind, bind_assoc, pure_bind, Result.andThen_ok, Sem.run_pure]
    exact congrArg (fun r => Result.andThen r (fun a w' => Result.ok (if h : a.toArray.size = 1 then a.toArray[0] else Value.tuple a.toArray) w')) h1
  · match vs, vs', h2 with
    | [], [], _ => exact .tuple' (.nil M)
    | [], _ :: _, h2 => have := h2.1; simp at this
    | _ :: _, [], h2 => have := h2.1; simp at this
    | [v], [v'], h2 => simpa [oneOf] using h2.uncons.1
    | [_], _ :: _ :: _, h2 => have := h2.1; simp at this
    | _ :: _ :: _, [_], h2 => have := h2.1; simp at this
    | a :: b :: l, a' :: b' :: l', h2 => simpa [oneOf] using VRel.tuple' (by simpa using h2)

theorem dropWhile_rel : ∀ {a b : List PanicEntry}, ChRel M a b → ChRel M (a.dropWhile (!·.goexit)) (b.dropWhile (!·.goexit))
  | [], [], _ => trivial
  | [], _ :: _, h => h.elim
  | _ :: _, [], h => h.elim
  | p :: l, p' :: l', h => by
    simp only [List.dropWhile_cons, h.1.2.2]
    split
    · exact dropWhile_rel h.2
    · exact h

theorem settle_rel {fr : Fr} {fr' : Frame} {v : Value} {cs : List Fr} {s' : St} (R : FrWait E M h lo hi fr fr') (hh : hi ≤ h.n) (hx : returnX E .deferred (fr :: cs) h v = some s') :
    ∃ fr2, s' = ⟨fr2, cs, h⟩ ∧ FrTop E M h lo fr2 { fr' with mode := settle fr'.mode } := by
  obtain ⟨fn, nt, tm, todo, df, md, kd, ro⟩ := fr
  obtain ⟨fn', tmps', todo', df', md', kd', ro'⟩ := fr'
  obtain ⟨h1, h2, h3, h4, h5, h6⟩ := R
  simp only at h1 h2 h3 h4 h5 h6
  subst h1; subst h2
  unfold returnX at hx
  simp only at hx
  cases md with
  | run => cases hx
  | returning =>
    cases md' <;> simp only [MdRel] at h5
    cases hx
    exact ⟨_, rfl, rfl, rfl, h3, h4, trivial, h6⟩
  | panicking c =>
    cases md' <;> simp only [MdRel] at h5
    rename_i c'
    cases c with
    | nil =>
      cases c' with
      | nil => cases hx; exact ⟨_, rfl, rfl, rfl, h3, h4, trivial, h6⟩
      | cons p' l' => exact h5.elim
    | cons p l =>
      cases c' with
      | nil => exact h5.elim
      | cons p' l' =>
        obtain ⟨pv, pr, pg⟩ := p
        obtain ⟨pv', pr', pg'⟩ := p'
        obtain ⟨⟨q1, q2, q3⟩, q4⟩ := h5
        simp only at q1 q2 q3
        subst q2; subst q3
        cases pr' with
        | false => cases hx; exact ⟨_, rfl, rfl, rfl, h3, h4, ⟨⟨q1, rfl, rfl⟩, q4⟩, h6⟩
        | true =>
          have hd := dropWhile_rel q4
          simp only [settle]
          simp only at hx
          generalize l.dropWhile (!·.goexit) = x at hx hd
          generalize l'.dropWhile (!·.goexit) = y at hd
          cases x with
          | nil =>
            cases y with
            | nil => cases hx; exact ⟨_, rfl, rfl, rfl, h3, h4, trivial, h6⟩
            | cons a b => exact hd.elim
          | cons a b =>
            cases y with
            | nil => exact hd.elim
            | cons a' b' => cases hx; exact ⟨_, rfl, rfl, rfl, h3, h4, hd, h6⟩

theorem top_of (H : HRel W B M h w) (hlo : lo ≤ h.n) (hne : md ≠ .run) (hmd : MdRel M md md') (hres : ResRel E M fn tm tmps) (hro : RoRel M ro ro') (hdf : DsRel M df df') (S : StackRel E M h cs0 lo cs cs') :
    Sim W B E cs0 ⟨⟨fn, nt, tm, todo, df, md, kd, ro⟩, cs, h⟩ (lone ⟨fn, tmps, todo', df', md', kd, ro'⟩ cs' w) := by
  refine ⟨M, lo, _, cs', w, rfl, H, hlo, ⟨rfl, rfl, hro, hdf, hmd, ?_⟩, S⟩
  cases md with
  | run => exact absurd rfl hne
  | returning => exact hres
  | panicking c => exact hres


theorem invoke_target {d : Deferred} {f : FuncId} {args : Array Value} (hx : invokeX E h d = some (.enter f args)) : ∃ fv cap, d.target = .fn fv cap := by
  obtain ⟨t, a⟩ := d
  cases t with
  | fn fv cap => exact ⟨fv, cap, rfl⟩
  | builtin b ts ty cs =>
    exfalso
    simp only [invokeX] at hx
    split at hx <;> first
      | (cases hx; done)
      | (split at hx <;> first | (cases hx; done) | (split at hx <;> cases hx))
  | _ => simp only [invokeX] at hx; cases hx

set_option maxHeartbeats 1000000 in
theorem unwind_sim (H : HRel W B M h w) (hlo : lo ≤ h.n) (hne : md ≠ .run) (hmd : MdRel M md md') (hres : ResRel E M fn tm tmps) (hro : RoRel M ro ro') (hdf : DsRel M df df') (S : StackRel E M h cs0 lo cs cs')
    (hx : unwindX E fn nt tm todo df md kd ro cs h = some s') : ∃ m', Steps E.P (lone ⟨fn, tmps, todo', df', md', kd, ro'⟩ cs' w) m' ∧ Sim W B E cs0 s' m' := by
  have hne' : md' ≠ .run := by
    intro e; subst e
    cases md <;> simp only [MdRel] at hmd
    exact hne rfl
  cases df with
  | cons d ds =>
    cases df' with
    | nil => exact hdf.elim
    | cons d' ds' =>
      obtain ⟨hd, hds⟩ := hdf
      simp only [unwindX] at hx
      split at hx
      · -- the calls that the rounds have put off
        rename_i b hb
        split at hx
        · rename_i calls hg
          cases hx
          obtain ⟨t, a⟩ := d
          obtain ⟨t', a'⟩ := d'
          simp only at hb
          subst hb
          obtain ⟨ht, hargs⟩ := hd
          cases t' <;> simp only [TgRel] at ht
          rename_i b'
          obtain ⟨b2, δ, S2, x, hρ, hxb, h0, calls', rfl, hc⟩ := H.place ht.1 hg (by simp)
          have := ht.2 b2 δ S2 hρ
          subst this; subst h0
          obtain ⟨r1, r2, r3⟩ := H.setObj (E := E) (o := .deferred none) (x := .deferred none) hρ hxb (by intro c e f h; cases h) ⟨rfl, rfl⟩
          have hget : (getObj b').run E.P w = .ok (.deferred (some calls')) w := by simp [getObj, Sem.run, hxb]
          have hrun : (Instr.takeDeferred b').run E.P w = .ok calls' { w with heap := w.heap.setIfInBounds b' (.deferred none) } := by
            simp only [Instr.takeDeferred, Sem.run_bind, hget, Result.andThen_ok, r1, Sem.run_pure]
          refine ⟨_, .one (step_collected hne' rfl hrun), ?_⟩
          exact top_of r2 (Nat.le_trans hlo r3.1) hne hmd hres hro (hc.append hds) (S.mono (.refl M) fun i hi => r3.all i (Nat.lt_of_lt_of_le hi hlo))
        · cases hx
      · split at hx
        · rename_i f args hinv
          split at hx
          · rename_i fr hfr
            cases hx
            obtain ⟨fv, cap, htg⟩ := invoke_target hinv
            obtain ⟨args', hi2, hv⟩ := invokeX_sound (E := E) H hd hinv
            obtain ⟨t, a⟩ := d
            obtain ⟨t', a'⟩ := d'
            simp only at htg
            subst htg
            have htt := hd.1
            cases t' <;> simp only [TgRel] at htt
            refine ⟨_, .one (step_defer (fr := ⟨fn, tmps, todo', _ :: ds', md', kd, ro'⟩) hne' rfl rfl hi2), M, h.n, _, _ :: cs', w, rfl, H, Nat.le_refl _, enter_sim hv hfr h _, lo, hlo, ⟨rfl, rfl, hro, hds, hmd, ?_⟩, S⟩
            cases md with
            | run => exact absurd rfl hne
            | returning => exact hres
            | panicking c => exact hres
          · cases hx
        · cases hx
  | nil =>
    cases df' with
    | cons d' ds' => exact hdf.elim
    | nil =>
      simp only [unwindX] at hx
      cases md with
      | run => exact absurd rfl hne
      | panicking chain =>
        cases md' <;> simp only [MdRel] at hmd
        rename_i chain'
        simp only at hx
        split at hx
        · rename_i c rest f hf
          cases cs' with
          | nil => exact S.elim
          | cons c' rest' =>
            obtain ⟨lo1, g1, g2, g3⟩ := S
            split at hx
            · rename_i c2 hr
              cases hx
              refine ⟨_, .one (step_leave_panicked (chain := chain') ⟨rfl, rfl, f, E.hfn fn f hf⟩), M, lo1, _, rest', w, rfl, H, Nat.le_trans g1 hlo, raise_sim g2 hmd hr h lo1, g3⟩
            · cases hx
        · cases hx
      | returning =>
        cases md' <;> simp only [MdRel] at hmd
        simp only at hx
        split at hx
        · cases hx
        · rename_i c rest
          split at hx
          · rename_i f hf
            split at hx
            · rename_i vs hvs
              obtain ⟨v', hr, hv⟩ := results_sound H hf hvs hres
              cases cs' with
              | nil => exact S.elim
              | cons c' rest' =>
                obtain ⟨lo1, g1, g2, g3⟩ := S
                have hP := E.hfn fn f hf
                cases kd with
                | normal =>
                  simp only [returnX] at hx
                  split at hx
                  · rename_i c2 hfin
                    cases hx
                    exact ⟨_, .one (step_leave_returned (v := v') ⟨rfl, rfl, rfl, f, hP, hr⟩), M, lo1, _, rest', w, rfl, H, Nat.le_trans g1 hlo, finish_sim g2 hv hfin hlo, g3⟩
                  · cases hx
                | deferred =>
                  obtain ⟨fr2, rfl, ht⟩ := settle_rel g2 hlo hx
                  exact ⟨_, .one (step_going_returned (v := v') rfl ⟨rfl, rfl, f, hP, hr⟩), M, lo1, _, rest', w, rfl, H, Nat.le_trans g1 hlo, ht, g3⟩
                | _ => simp only [returnX] at hx; cases hx
            · cases hx
          · cases hx

/-- One step of X's. -/
theorem step_sim (hm : E.P.follows .mixedOrders = true) {s : St} {m : Machine} (hx : stepX E s = some s') (R : Sim W B E cs0 s m) : ∃ m', Steps E.P m m' ∧ Sim W B E cs0 s' m' := by
  obtain ⟨M, lo, fr', cs', w, rfl, H, hlo, T, S⟩ := R
  obtain ⟨⟨fn, nt, tm, todo, df, md, kd, ro⟩, cs, h⟩ := s
  obtain ⟨fn', tmps, todo', df', md', kd', ro'⟩ := fr'
  obtain ⟨h1, h2, h3, h4, h5, h6⟩ := T
  simp only at h1 h2 h3 h4 h5 h6 H hlo S
  subst h1; subst h2
  cases md with
  | run =>
    cases md' <;> simp only [MdRel] at h5
    exact exec_sim hm H hlo h3 h4 S h6 hx
  | returning => exact unwind_sim H hlo (by simp) h5 h6 h3 h4 S hx
  | panicking c => exact unwind_sim H hlo (by simp) h5 h6 h3 h4 S hx

theorem run_sim (hm : E.P.follows .mixedOrders = true) : ∀ (n : Nat) {s : St} {m : Machine}, Sim W B E cs0 s m → ∃ m', Steps E.P m m' ∧ Sim W B E cs0 (runX E n s) m'
  | 0, s, m, R => ⟨m, .refl _ _, R⟩
  | n + 1, s, m, R => by
    unfold runX
    split
    · rename_i s' hx
      obtain ⟨m1, S1, R1⟩ := step_sim hm hx R
      obtain ⟨m2, S2, R2⟩ := run_sim hm n R1
      exact ⟨m2, S1.trans S2, R2⟩
    · exact ⟨m, .refl _ _, R⟩

end

/-- Nothing is known, nothing is placed. -/
def Mp.none : Mp := ⟨fun _ => Option.none, fun _ => False, fun _ => 0⟩

theorem HRel.start (w : World) : HRel w (fun _ => False) Mp.none Hp.empty w := by
  refine ⟨fun i b δ S hi => by simp [Mp.none] at hi, fun i j b δ S δ' S' hi => by simp [Mp.none] at hi, fun i hi => hi.elim, fun i hi => Hp.get_empty i, fun i hi => hi.elim, rfl, rfl, rfl, Nat.le_refl _, fun b _ _ => rfl, fun i b δ S hi => by simp [Mp.none] at hi⟩

/-- X's run of a call without arguments, and the model's: whatever the world, it ends so, and what lay in the world lies there still. -/
theorem truth_calls (E : Env) (hm : E.P.follows .mixedOrders = true) {f : FuncId} {n : Nat} (ht : truthX E f n = true) (w : World) :
    Calls E.P f #[] w fun e w' => e = .returned (.bool true) ∧ w'.os = w.os ∧ w'.tape = w.tape ∧ w'.output = w.output ∧ w.heap.size ≤ w'.heap.size ∧ ∀ b, b < w.heap.size → w'.heap[b]? = w.heap[b]? := by
  intro cs0
  unfold truthX at ht
  split at ht
  · rename_i s hs
    unfold startX at hs
    split at hs
    · rename_i fr hfr
      cases hs
      have R0 : Sim w (fun _ => False) E cs0 ⟨fr, [], Hp.empty⟩ (lone (Frame.enter E.P f #[] .normal) cs0 w) :=
        ⟨Mp.none, 0, _, cs0, w, rfl, HRel.start w, Nat.zero_le _, enter_sim (args := #[]) (args' := #[]) (.nil _) hfr Hp.empty 0, rfl⟩
      obtain ⟨m', St, M, lo, fr', cs', w', rfl, H, hlo, T, S⟩ := run_sim hm n R0
      generalize runX E n ⟨fr, [], Hp.empty⟩ = s at ht H T S hlo
      split at ht
      · rename_i b hend
        subst ht
        unfold endX at hend
        split at hend
        · rename_i fn nt tm todo ro h
          cases hfn : Nat.beq fn f with
          | false => rw [hfn, cond_false] at hend; cases hend
          | true =>
            rw [hfn, cond_true] at hend
            have e := (beq_iff _ _).1 hfn
            subst e
            split at hend
            · rename_i fu hfu
              split at hend
              · rename_i vs hvs
                obtain ⟨fn', tmps, todo', df', md', kd', ro'⟩ := fr'
                obtain ⟨h1, h2, h3, h4, h5, h6⟩ := T
                simp only at h1 h2 h3 h4 h5 h6 H S
                subst h1; subst h2
                cases md' <;> simp only [MdRel] at h5
                cases df' with
                | cons d l => exact h4.elim
                | nil =>
                  obtain ⟨v', hr, hv⟩ := results_sound H hfu hvs h6
                  have hv' : v' = .bool true := by
                    have hone : oneOf vs = .bool true := Option.some.inj hend
                    rw [hone] at hv; cases hv; rfl
                  subst hv'
                  have hcs : cs' = cs0 := S
                  subst hcs
                  exact ⟨.returned (.bool true), w', _, ⟨rfl, H.os, H.tape, H.output, H.size, fun b hb => H.old b hb id⟩, St, rfl, rfl, rfl, rfl, fu, E.hfn _ fu hfu, hr⟩
              · cases hend
            · cases hend
        · cases hend
      · cases ht
    · cases hs
  · cases ht

end Go.X
