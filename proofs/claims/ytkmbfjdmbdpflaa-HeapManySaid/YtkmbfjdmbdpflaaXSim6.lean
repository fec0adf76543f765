/- Leaving, and the whole: what X runs to, the model comes to, whatever the tape says. Conditions: none. -/
import Derived.Test.YtkmbfjdmbdpflaaXSim5
import Derived.Below
namespace Go.X

section
variable {P : Program}

theorem step_collected {fr : Frame} {cs : List Frame} {w w' : World} {b : Nat} {args : Array Value} {ds calls : List Deferred} (hm : fr.mode ≠ .run) (hd : fr.defers = { target := .collected b, args } :: ds)
    (hr : (Instr.takeDeferred b).run P w = .ok calls w') : step P (lone fr cs w) = .next (lone { fr with defers := calls ++ ds } cs w') := by
  refine step_lone_go ?_
  cases hmode : fr.mode with
  | run => exact absurd hmode hm
  | returning => simp [stepG, unwind, hmode, hd, Sem.runT_eq, hr, GStep.bare_after]
  | panicking chain => simp [stepG, unwind, hmode, hd, Sem.runT_eq, hr, GStep.bare_after]

end

section
variable {W : World} {B : Nat → Prop} {E : Env} {M M' : Mp} {h h' : Hp} {w w' : World} {lo hi : Nat} {cs0 : List Frame}
variable {fn : FuncId} {nt : Nat} {tm : Tr Value} {todo : List It} {todo' : List Item} {df : List Deferred} {df' : List Deferred} {md md' : FrameMode} {kd : CallKind} {ro ro' : Option Nat} {tmps : Array Value} {cs : List Fr} {cs' : List Frame} {s' : St}

theorem results_list (H : HRel W B M h w) : ∀ (rs : List ResultVar) (vs : List Value), resultsX E tm h rs = some vs → (∀ r, r ∈ rs → VRel M (ev tm (.tmp (slotOf r))) (tmps.getD (slotOf r) undef)) →
    ∃ vs', (rs.mapM fun (r : ResultVar) => (match r with
      | .tmp t => pure (tmps.getD t undef)
      | .cell a t => do loadVar t (← asAddr (tmps.getD a undef)) : Sem Value)).run E.P w = .ok vs' w ∧ VsRel M vs vs'
  | [], vs, hx, _ => by
    simp only [resultsX] at hx; cases hx
    exact ⟨[], by simp [List.mapM_nil], .nil M⟩
  | r :: rs, vs, hx, hr => by
    have h0 := hr r (by simp)
    cases r with
    | tmp t =>
      simp only [resultsX] at hx
      split at hx
      · rename_i r hrs
        cases hx
        obtain ⟨vs', h1, h2⟩ := results_list H rs r hrs fun q hq => hr q (by simp [hq])
        exact ⟨tmps.getD t undef :: vs', by simp only [List.mapM_cons, Sem.run_bind, Sem.run_pure, Result.andThen_ok, h1], .cons h0 h2⟩
      · cases hx
    | cell a t =>
      simp only [resultsX] at hx
      split at hx
      · rename_i p hp
        split at hx
        · rename_i v r hv hrs
          cases hx
          simp only [slotOf] at h0
          rw [hp] at h0
          generalize hq : tmps.getD a undef = q at h0
          cases h0 with
          | ptr ha =>
            obtain ⟨v', hl, hvr⟩ := loadX_sound (E := E) H ha hv
            obtain ⟨vs', h1, h2⟩ := results_list H rs r hrs fun q hq => hr q (by simp [hq])
            rename_i p'
            have hp' : (asAddr (tmps.getD a undef)).run E.P w = .ok p' w := by rw [hq]; rfl
            exact ⟨v' :: vs', by simp only [List.mapM_cons, Sem.run_bind, Sem.run_pure, Result.andThen_ok, hp', hl, h1], .cons hvr h2⟩
        · cases hx
      · cases hx

theorem plain_eq : ∀ (n : Nat) {v w : Value}, plainV n v = true → VRel M v w → w = v
  | 0, v, w, hp, _ => by cases hp
  | n + 1, v, w, hp, hr => by
    cases hr with
    | bool => rfl
    | int => rfl
    | string => rfl
    | nilp => rfl
    | nils => rfl
    | nilm => rfl
    | nilFunc => rfl
    | nilIface => rfl
    | iface h => rw [plain_eq n (by simpa [plainV] using hp) h]
    | @agg a c ha ka =>
      have hall : a.toList.all (plainV n) = true := by simpa [plainV] using hp
      have : c.toList = a.toList := by
        apply List.ext_getElem? 
        intro i
        cases hi : a.toList[i]? with
        | none => rw [List.getElem?_eq_none_iff] at hi ⊢; omega
        | some x =>
          have hlt := (List.getElem?_eq_some_iff.1 hi).1
          have hc : c.toList[i]? = some (c.toList[i]'(by omega)) := List.getElem?_eq_getElem _
          rw [hc, plain_eq n (List.all_eq_true.1 hall x (List.mem_of_getElem? hi)) (ka i _ _ hi hc)]
      rw [Array.toList_inj.1 this]
    | _ => simp [plainV] at hp

theorem results_sound (H : HRel W B M h w) {f : Func} {vs : List Value} (hf : E.fn fn = some f) (hx : resultsX E tm h f.results.toList = some vs) (hr : ResRel E M fn tm tmps) :
    ∃ v', (results f tmps).run E.P w = .ok v' w ∧ VRel M (oneOf vs) v' := by
  obtain ⟨vs', h1, h2⟩ := results_list H f.results.toList vs hx (hr f hf)
  refine ⟨if h : vs'.toArray.size = 1 then vs'.toArray[0] else .tuple vs'.toArray, ?_, ?_⟩
  · unfold results
    rw [Array.mapM_eq_mapM_toList]
    simp only [Sem.run_bind, map_eq_pure_bind, bind_assoc, pure_bind, Sem.run_pure]
    exact congrArg (fun r => Result.andThen r (fun a w' => Result.ok (if h : a.toArray.size = 1 then a.toArray[0] else Value.tuple a.toArray) w')) h1
  · match vs, vs', h2 with
    | [], [], _ => exact .tuple' (.nil M)
    | [], _ :: _, h2 => have := h2.1; simp at this
    | _ :: _, [], h2 => have := h2.1; simp at this
    | [v], [v'], h2 => simpa [oneOf] using h2.uncons.1
    | [_], _ :: _ :: _, h2 => have := h2.1; simp at this
    | _ :: _ :: _, [_], h2 => have := h2.1; simp at this
    | a :: b :: l, a' :: b' :: l', h2 => simpa [oneOf] using VRel.tuple' (by simpa using h2)

theorem dropWhile_rel : ∀ {a b : List PanicEntry}, ChRel M a b → ChRel M (a.dropWhile (!·.goexit)) (b.dropWhile (!·.goexit))
  | [], [], _ => trivial
  | [], _ :: _, h => h.elim
  | _ :: _, [], h => h.elim
  | p :: l, p' :: l', h => by
    simp only [List.dropWhile_cons, h.1.2.2]
    split
    · exact dropWhile_rel h.2
    · exact h

theorem settle_rel {fr : Fr} {fr' : Frame} {v : Value} {cs : List Fr} {s' : St} (R : FrWait E M h lo hi fr fr') (_hh : hi ≤ h.n) (hx : returnX E .deferred (fr :: cs) h v = some s') :
    ∃ fr2, s' = ⟨fr2, cs, h⟩ ∧ FrTop E M h lo fr2 { fr' with mode := settle fr'.mode } := by
  obtain ⟨fn, nt, tm, todo, df, md, kd, ro⟩ := fr
  obtain ⟨fn', tmps', todo', df', md', kd', ro'⟩ := fr'
  obtain ⟨h1, h2, h3, h4, h5, h6⟩ := R
  simp only at h1 h2 h3 h4 h5 h6
  subst h1; subst h2
  unfold returnX at hx
  simp only at hx
  cases md with
  | run => cases hx
  | returning =>
    cases md' <;> simp only [MdRel] at h5
    cases hx
    exact ⟨_, rfl, rfl, rfl, h3, h4, trivial, h6⟩
  | panicking c =>
    cases md' <;> simp only [MdRel] at h5
    rename_i c'
    cases c with
    | nil =>
      cases c' with
      | nil => cases hx; exact ⟨_, rfl, rfl, rfl, h3, h4, trivial, h6⟩
      | cons p' l' => exact h5.elim
    | cons p l =>
      cases c' with
      | nil => exact h5.elim
      | cons p' l' =>
        obtain ⟨pv, pr, pg⟩ := p
        obtain ⟨pv', pr', pg'⟩ := p'
        obtain ⟨⟨q1, q2, q3⟩, q4⟩ := h5
        simp only at q1 q2 q3
        subst q2; subst q3
        cases pr' with
        | false => cases hx; exact ⟨_, rfl, rfl, rfl, h3, h4, ⟨⟨q1, rfl, rfl⟩, q4⟩, h6⟩
        | true =>
          have hd := dropWhile_rel q4
          simp only [settle]
          simp only at hx
          generalize l.dropWhile (!·.goexit) = x at hx hd
          generalize l'.dropWhile (!·.goexit) = y at hd
          cases x with
          | nil =>
            cases y with
            | nil => cases hx; exact ⟨_, rfl, rfl, rfl, h3, h4, trivial, h6⟩
            | cons a b => exact hd.elim
          | cons a b =>
            cases y with
            | nil => exact hd.elim
            | cons a' b' => cases hx; exact ⟨_, rfl, rfl, rfl, h3, h4, hd, h6⟩

theorem top_of (H : HRel W B M h w) (hlo : lo ≤ h.n) (hne : md ≠ .run) (hmd : MdRel M md md') (hres : ResRel E M fn tm tmps) (hro : RoRel M ro ro') (hdf : DsRel M df df') (S : StackRel E M h cs0 lo cs cs') :
    Sim W B E cs0 ⟨⟨fn, nt, tm, todo, df, md, kd, ro⟩, cs, h⟩ (lone ⟨fn, tmps, todo', df', md', kd, ro'⟩ cs' w) := by
  refine ⟨M, lo, _, cs', w, rfl, H, hlo, ⟨rfl, rfl, hro, hdf, hmd, ?_⟩, S⟩
  cases md with
  | run => exact absurd rfl hne
  | returning => exact hres
  | panicking c => exact hres


theorem invoke_target {d : Deferred} {f : FuncId} {args : Array Value} (hx : invokeX E h d = some (.enter f args)) : ∃ fv cap, d.target = .fn fv cap := by
  obtain ⟨t, a⟩ := d
  cases t with
  | fn fv cap => exact ⟨fv, cap, rfl⟩
  | builtin b ts ty cs =>
    exfalso
    simp only [invokeX] at hx
    split at hx <;> first
      | (cases hx; done)
      | (split at hx <;> first | (cases hx; done) | (split at hx <;> cases hx))
  | _ => simp only [invokeX] at hx; cases hx

set_option maxHeartbeats 1000000 in
theorem unwind_sim (H : HRel W B M h w) (hlo : lo ≤ h.n) (hne : md ≠ .run) (hmd : MdRel M md md') (hres : ResRel E M fn tm tmps) (hro : RoRel M ro ro') (hdf : DsRel M df df') (S : StackRel E M h cs0 lo cs cs')
    (hx : unwindX E fn nt tm todo df md kd ro cs h = some s') : ∃ m', Steps E.P (lone ⟨fn, tmps, todo', df', md', kd, ro'⟩ cs' w) m' ∧ Sim W B E cs0 s' m' := by
  have hne' : md' ≠ .run := by
    intro e; subst e
    cases md <;> simp only [MdRel] at hmd
    exact hne rfl
  cases df with
  | cons d ds =>
    cases df' with
    | nil => exact hdf.elim
    | cons d' ds' =>
      obtain ⟨hd, hds⟩ := hdf
      simp only [unwindX] at hx
      split at hx
      ·
        rename_i b hb
        split at hx
        · rename_i calls hg
          cases hx
          obtain ⟨t, a⟩ := d
          obtain ⟨t', a'⟩ := d'
          simp only at hb
          subst hb
          obtain ⟨ht, hargs⟩ := hd
          cases t' <;> simp only [TgRel] at ht
          rename_i b'
          obtain ⟨b2, δ, S2, x, hρ, hxb, h0, calls', rfl, hc⟩ := H.place ht.1 hg (by simp)
          have := ht.2 b2 δ S2 hρ
          subst this; subst h0
          obtain ⟨r1, r2, r3⟩ := H.setObj (E := E) (o := .deferred none) (x := .deferred none) hρ hxb (by intro c e f h; cases h) ⟨rfl, rfl⟩
          have hget : (getObj b').run E.P w = .ok (.deferred (some calls')) w := by simp [getObj, Sem.run, hxb]
          have hrun : (Instr.takeDeferred b').run E.P w = .ok calls' { w with heap := w.heap.setIfInBounds b' (.deferred none) } := by
            simp only [Instr.takeDeferred, Sem.run_bind, hget, Result.andThen_ok, r1, Sem.run_pure]
          refine ⟨_, .one (step_collected hne' rfl hrun), ?_⟩
          exact top_of r2 (Nat.le_trans hlo r3.1) hne hmd hres hro (hc.append hds) (S.mono (.refl M) fun i hi => r3.all i (Nat.lt_of_lt_of_le hi hlo))
        · cases hx
      · split at hx
        · rename_i f args hinv
          split at hx
          · rename_i fr hfr
            cases hx
            obtain ⟨fv, cap, htg⟩ := invoke_target hinv
            obtain ⟨args', hi2, hv⟩ := invokeX_sound (E := E) H hd hinv
            obtain ⟨t, a⟩ := d
            obtain ⟨t', a'⟩ := d'
            simp only at htg
            subst htg
            have htt := hd.1
            cases t' <;> simp only [TgRel] at htt
            refine ⟨_, .one (step_defer (fr := ⟨fn, tmps, todo', _ :: ds', md', kd, ro'⟩) hne' rfl rfl hi2), M, h.n, _, _ :: cs', w, rfl, H, Nat.le_refl _, enter_sim hv hfr h _, lo, hlo, ⟨rfl, rfl, hro, hds, hmd, ?_⟩, S⟩
            cases md with
            | run => exact absurd rfl hne
            | returning => exact hres
            | panicking c => exact hres
          · cases hx
        · cases hx
  | nil =>
    cases df' with
    | cons d' ds' => exact hdf.elim
    | nil =>
      simp only [unwindX] at hx
      cases md with
      | run => exact absurd rfl hne
      | panicking chain =>
        cases md' <;> simp only [MdRel] at hmd
        rename_i chain'
        simp only at hx
        split at hx
        · rename_i c rest f hf
          cases cs' with
          | nil => exact S.elim
          | cons c' rest' =>
            obtain ⟨lo1, g1, g2, g3⟩ := S
            split at hx
            · rename_i c2 hr
              cases hx
              refine ⟨_, .one (step_leave_panicked (chain := chain') ⟨rfl, rfl, f, E.hfn fn f hf⟩), M, lo1, _, rest', w, rfl, H, Nat.le_trans g1 hlo, raise_sim g2 hmd hr h lo1, g3⟩
            · cases hx
        · cases hx
      | returning =>
        cases md' <;> simp only [MdRel] at hmd
        simp only at hx
        split at hx
        · cases hx
        · rename_i c rest
          split at hx
          · rename_i f hf
            split at hx
            · rename_i vs hvs
              obtain ⟨v', hr, hv⟩ := results_sound H hf hvs hres
              cases cs' with
              | nil => exact S.elim
              | cons c' rest' =>
                obtain ⟨lo1, g1, g2, g3⟩ := S
                have hP := E.hfn fn f hf
                cases kd with
                | normal =>
                  simp only [returnX] at hx
                  split at hx
                  · rename_i c2 hfin
                    cases hx
                    exact ⟨_, .one (step_leave_returned (v := v') ⟨rfl, rfl, rfl, f, hP, hr⟩), M, lo1, _, rest', w, rfl, H, Nat.le_trans g1 hlo, finish_sim g2 hv hfin hlo, g3⟩
                  · cases hx
                | deferred =>
                  obtain ⟨fr2, rfl, ht⟩ := settle_rel g2 hlo hx
                  exact ⟨_, .one (step_going_returned (v := v') rfl ⟨rfl, rfl, f, hP, hr⟩), M, lo1, _, rest', w, rfl, H, Nat.le_trans g1 hlo, ht, g3⟩
                | _ => simp only [returnX] at hx; cases hx
            · cases hx
          · cases hx

/-- One step of X's. -/
theorem step_sim (hm : E.P.follows .mixedOrders = true) {s : St} {m : Machine} (hx : stepX E s = some s') (R : Sim W B E cs0 s m) : ∃ m', Steps E.P m m' ∧ Sim W B E cs0 s' m' := by
  obtain ⟨M, lo, fr', cs', w, rfl, H, hlo, T, S⟩ := R
  obtain ⟨⟨fn, nt, tm, todo, df, md, kd, ro⟩, cs, h⟩ := s
  obtain ⟨fn', tmps, todo', df', md', kd', ro'⟩ := fr'
  obtain ⟨h1, h2, h3, h4, h5, h6⟩ := T
  simp only at h1 h2 h3 h4 h5 h6 H hlo S
  subst h1; subst h2
  cases md with
  | run =>
    cases md' <;> simp only [MdRel] at h5
    exact exec_sim hm H hlo h3 h4 S h6 hx
  | returning => exact unwind_sim H hlo (by simp) h5 h6 h3 h4 S hx
  | panicking c => exact unwind_sim H hlo (by simp) h5 h6 h3 h4 S hx

theorem run_sim (hm : E.P.follows .mixedOrders = true) : ∀ (n : Nat) {s : St} {m : Machine}, Sim W B E cs0 s m → ∃ m', Steps E.P m m' ∧ Sim W B E cs0 (runX E n s) m'
  | 0, s, m, R => ⟨m, .refl _ _, R⟩
  | n + 1, s, m, R => by
    unfold runX
    split
    · rename_i s' hx
      obtain ⟨m1, S1, R1⟩ := step_sim hm hx R
      obtain ⟨m2, S2, R2⟩ := run_sim hm n R1
      exact ⟨m2, S1.trans S2, R2⟩
    · exact ⟨m, .refl _ _, R⟩

end

/-- Nothing is known, nothing is placed. -/
def Mp.none : Mp := ⟨fun _ => Option.none, fun i => i ≤ 255, fun _ => 0⟩

theorem HRel.start (w : World) : HRel w (fun _ => False) Mp.none Hp.empty w := by
  refine ⟨fun i b δ S hi => by simp [Mp.none] at hi, fun i j b δ S δ' S' hi => by simp [Mp.none] at hi, fun i hi => by have : i ≤ 255 := hi; show i < 256; omega, fun i hi => Hp.get_empty i, fun i hi _ => .inl (Hp.get_empty i), rfl, rfl, rfl, Nat.le_refl _, fun b _ _ => rfl, fun i b δ S hi => by simp [Mp.none] at hi, fun i h2 => ⟨h2, fun b δ S h => by simp [Mp.none] at h⟩⟩

/-- X's run of a call, and the model's: whatever the tape, it ends so, and what lay in the world lies there still. The arguments' blocks, where X has them, it only reads. -/
theorem run_calls (E : Env) (hm : E.P.follows .mixedOrders = true) {f : FuncId} {n : Nat} {args : List Value} {args' : Array Value} {M0 : Mp} {h0 : Hp} {w : World} {s0 : St}
    {v0 : Value} (hpl : plainV 20 v0 = true) (H0 : HRel w (fun _ => False) M0 h0 w) (hv : VsRel M0 args args'.toList) (hs : startX E f args h0 = some s0) (he : endX E f (runX E n s0) = some v0) :
    Calls E.P f args' w fun e w' => e = .returned v0 ∧ w'.os = w.os ∧ w'.tape = w.tape ∧ w'.output = w.output ∧ w.heap.size ≤ w'.heap.size ∧ ∀ b, b < w.heap.size → w'.heap[b]? = w.heap[b]? := by
  intro cs0
  unfold startX at hs
  split at hs
  · rename_i fr hfr
    cases hs
    have R0 : Sim w (fun _ => False) E cs0 ⟨fr, [], h0⟩ (lone (Frame.enter E.P f args' .normal) cs0 w) :=
      ⟨M0, 0, _, cs0, w, rfl, H0, Nat.zero_le _, enter_sim (args := args.toArray) (by simpa using hv) (by simpa using hfr) h0 0, rfl⟩
    obtain ⟨m', St, M, lo, fr', cs', w', rfl, H, hlo, T, S⟩ := run_sim hm n R0
    generalize runX E n ⟨fr, [], h0⟩ = s at he H T S hlo
    unfold endX at he
    split at he
    · rename_i fn nt tm todo ro h
      cases hfn : Nat.beq fn f with
      | false => rw [hfn, cond_false] at he; cases he
      | true =>
        rw [hfn, cond_true] at he
        have e := (beq_iff _ _).1 hfn
        subst e
        split at he
        · rename_i fu hfu
          split at he
          · rename_i vs hvs
            obtain ⟨fn', tmps, todo', df', md', kd', ro'⟩ := fr'
            obtain ⟨h1, h2, h3, h4, h5, h6⟩ := T
            simp only at h1 h2 h3 h4 h5 h6 H S
            subst h1; subst h2
            cases md' <;> simp only [MdRel] at h5
            cases df' with
            | cons d l => exact h4.elim
            | nil =>
              obtain ⟨v', hr, hv⟩ := results_sound H hfu hvs h6
              have hv' : v' = v0 := by
                have hone : oneOf vs = v0 := Option.some.inj he
                rw [hone] at hv; exact plain_eq 20 hpl hv
              subst hv'
              have hcs : cs' = cs0 := S
              subst hcs
              exact ⟨.returned v', w', _, ⟨rfl, H.os, H.tape, H.output, H.size, fun b hb => H.old b hb id⟩, St, rfl, rfl, rfl, rfl, fu, E.hfn _ fu hfu, hr⟩
          · cases he
        · cases he
    · cases he
  · cases hs

/-- A call without arguments. -/
theorem value_calls (E : Env) (hm : E.P.follows .mixedOrders = true) {f : FuncId} {n : Nat} {v : Value} (ht : valueX E f n = some v) (hp : plainV 20 v = true) (w : World) :
    Calls E.P f #[] w fun e w' => e = .returned v ∧ w'.os = w.os ∧ w'.tape = w.tape ∧ w'.output = w.output ∧ w.heap.size ≤ w'.heap.size ∧ ∀ b, b < w.heap.size → w'.heap[b]? = w.heap[b]? := by
  unfold valueX at ht
  split at ht
  · rename_i s hs
    exact run_calls E hm hp (HRel.start w) (.nil _) hs ht
  · cases ht

theorem truth_value {E : Env} {f : FuncId} {n : Nat} (ht : truthX E f n = true) : valueX E f n = some (.bool true) := by
  unfold truthX at ht
  unfold valueX
  split at ht
  · rename_i s hs
    split at ht
    · rename_i b hend
      subst ht
      exact hend
    · cases ht
  · cases ht

theorem truth_calls (E : Env) (hm : E.P.follows .mixedOrders = true) {f : FuncId} {n : Nat} (ht : truthX E f n = true) (w : World) :
    Calls E.P f #[] w fun e w' => e = .returned (.bool true) ∧ w'.os = w.os ∧ w'.tape = w.tape ∧ w'.output = w.output ∧ w.heap.size ≤ w'.heap.size ∧ ∀ b, b < w.heap.size → w'.heap[b]? = w.heap[b]? :=
  value_calls E hm (truth_value ht) rfl w

/-! Runs, one behind the other -/

theorem runX_stuck {E : Env} {s : St} (h : stepX E s = none) : ∀ n, runX E n s = s
  | 0 => rfl
  | n + 1 => by simp [runX, h]

theorem runX_add {E : Env} : ∀ (a b : Nat) (s : St), runX E (a + b) s = runX E b (runX E a s)
  | 0, b, s => by simp [runX]
  | a + 1, b, s => by
    rw [show a + 1 + b = (a + b) + 1 by omega]
    simp only [runX]
    cases h : stepX E s with
    | some s' => exact runX_add a b s'
    | none => exact (runX_stuck h b).symm

/-- X comes from here to there. -/
def Runs (E : Env) (s s' : St) : Prop := ∃ n, runX E n s = s'

theorem Runs.refl (E : Env) (s : St) : Runs E s s := ⟨0, rfl⟩
theorem Runs.trans {E : Env} {a b c : St} : Runs E a b → Runs E b c → Runs E a c
  | ⟨n, h⟩, ⟨m, k⟩ => ⟨n + m, by rw [runX_add, h, k]⟩
theorem Runs.step {E : Env} {a b c : St} (h : stepX E a = some b) (k : Runs E b c) : Runs E a c :=
  Runs.trans ⟨1, by simp [runX, h]⟩ k

end Go.X
