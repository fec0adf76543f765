/- An operation of X's that writes, calls or leaves does what the model's does. Conditions: none. -/
import Derived.Test.YtkmbfjdmbdpflaaXAppend2
namespace Go.X

variable {E : Env}

theorem arr2 {M : Mp} {x y : Value} {a : Array Value} (h : VsRel M [x, y] a.toList) : ∃ x' y', a = #[x', y'] ∧ VRel M x x' ∧ VRel M y y' := by
  obtain ⟨l⟩ := a
  match l, h with
  | [], h => have := h.1; simp at this
  | [_], h => have := h.1; simp at this
  | [x', y'], h => exact ⟨x', y', rfl, h.uncons.1, h.uncons.2.uncons.1⟩
  | _ :: _ :: _ :: _, h => have := h.1; simp at this

theorem arrCons {M : Mp} {x : Value} {l : List Value} {a : Array Value} (h : VsRel M (x :: l) a.toList) : ∃ x' l', a.toList = x' :: l' ∧ VRel M x x' ∧ VsRel M l l' := by
  obtain ⟨l0⟩ := a
  match l0, h with
  | [], h => have := h.1; simp at this
  | x' :: l', h => exact ⟨x', l', rfl, h.uncons.1, h.uncons.2⟩

section
variable {W : World} {B : Nat → Prop} {M : Mp} {h : Hp} {w : World} (H : HRel W B M h w)

theorem resolveX_sound {tm : Tr Value} {ρ : Operand → Value} {c : Call} {type : TypeId} {d : Deferred} (hE : ∀ x ∈ c.operands, VRel M (ev tm x) (ρ x)) (hr : resolveX tm c type = some d) :
    ∃ d', (resolve ρ c type).run E.P w = .ok d' w ∧ DRel M d d' := by
  obtain ⟨callee, args, argTypes⟩ := c
  have hargs : VsRel M (args.map (ev tm)).toList (args.map ρ).toList := by
    rw [Array.toList_map, Array.toList_map]
    refine .map _ _ _ fun x hx => hE x ?_
    cases callee <;> simp [Call.operands] <;> first | exact .inr (by simpa using hx) | simpa using hx
  unfold resolveX at hr
  cases callee with
  | builtin b => cases hr; exact ⟨_, rfl, ⟨rfl, rfl, rfl, rfl⟩, hargs⟩
  | invoke r m =>
    cases hr
    have hrr := hE r (by simp [Call.operands])
    refine ⟨_, rfl, ⟨rfl, .nil M⟩, ?_⟩
    simp only [Array.toList_append]
    exact (VsRel.cons hrr (.nil M)).append hargs
  | value f =>
    have hf := hE f (by simp [Call.operands])
    simp only at hr
    split at hr
    · rename_i fn first captured heq
      cases hr
      rw [heq] at hf
      have hrun : (resolve ρ ⟨.value f, args, argTypes⟩ type).run E.P w = (Deferred.ofValue (ρ f) (args.map ρ)).run E.P w := rfl
      rw [hrun]
      generalize ρ f = q at hf
      cases hf with
      | func hfn ha hb ka kb =>
      refine ⟨_, rfl, ⟨hfn, ⟨hb, kb⟩⟩, ?_⟩
      simp only [Array.toList_append]
      exact VsRel.append ⟨ha, ka⟩ hargs
    · cases hr

/-- X makes a block, the model makes one: known from now on. -/
theorem newBlock (H : HRel W B M h w) {o : AObj} {x : Obj} {S m : Nat} (hx : ORel (M.add h.n w.heap.size 0 S m) h.n o 0 S x) :
    HRel W B (M.add h.n w.heap.size 0 S m) (h.alloc o) { w with heap := w.heap.push x } ∧ Ev M (M.add h.n w.heap.size 0 S m) ∧ Keep M h (M.add h.n w.heap.size 0 S m) (h.alloc o) (fun _ => False) := by
  have hnk : ¬ M.K h.n := fun hk => by have := H.kn _ hk; omega
  refine ⟨(H.allocX o).push hnk (by rw [Hp.n_alloc]; omega) (by rw [Hp.get_alloc, if_pos rfl]) hx, Mp.add_ev M _ _ _ _ _ hnk, keep_alloc fun i hi hki => ?_⟩
  rcases hki with rfl | hki
  · omega
  · exact hki

theorem callFnX_sound {f : FuncId} {args args' : Array Value} {n : Nx} (H : HRel W B M h w) (ha : VsRel M args.toList args'.toList) (hr : callFnX E h f args = some n) :
    NxOk W B E M h w n ((callFunc f args').run E.P w) := by
  unfold callFnX at hr
  cases hx : E.ext f with
  | true =>
    rw [hx, cond_true] at hr
    obtain ⟨fn, hf, hnm, hb, hn, he⟩ := E.hext f hx
    unfold cloneX at hr
    split at hr
    · rename_i t r hargs
      split at hr
      · rename_i es cl hg
        cases hr
        rw [hargs] at ha
        obtain ⟨v', l', e1, hv, hl⟩ := arrCons ha
        have hl' : l' = [] := by have := hl.1; simpa using this.symm
        subst hl'
        cases hv with
        | iface hv =>
          cases hv with
          | map hi =>
            rename_i r'
            obtain ⟨S, es', hρ, hxo, hes, hget⟩ := map_place (E := E) H hi hg
            have hnk : ¬ M.K h.n := fun hk => by have := H.kn _ hk; omega
            have hev := Mp.add_ev M h.n w.heap.size 0 0 0 hnk
            obtain ⟨H', e', K⟩ := newBlock H (o := .map es cl) (x := .map es' cl) (S := 0) (m := 0) ⟨rfl, es', rfl, hes.mono hev⟩
            have e2 : args' = #[.iface t (.map (some r'))] := by
              apply Array.toList_inj.1; exact e1
            subst e2
            refine ⟨.iface t (.map (some w.heap.size)), _, _, ?_, e', H', K, .iface (.map ⟨.inl rfl, fun b δ S hb => by simp [Mp.add] at hb; exact hb.1⟩)⟩
            have hcl : (Extern.MapsClone.clone #[.iface t (.map (some r'))]).run E.P w = .ok (.iface t (.map (some w.heap.size))) { w with heap := w.heap.push (.map es' cl) } := by
              have e3 : Extern.MapsClone.clone #[.iface t (.map (some r'))] = (getObj r' >>= fun o => match o with
                | .map entries clock => (do pure (.iface t (.map (some (← newObj (.map entries clock))))))
                | _ => stuck "maps.clone: a map expected") := rfl
              rw [e3]
              simp only [Sem.run_bind, hget, Result.andThen_ok]
              rfl
            have hmk : (mark (.extern f)).run E.P w = .ok () w := rfl
            simp only [callFunc, Sem.run_bind, run_program, Result.andThen_ok, hf, hnm, Bool.false_eq_true, if_false, hb, if_true, hn, he, hmk, hcl, Sem.run_pure]
      · cases hr
    · cases hr
  | false =>
    rw [hx, cond_false] at hr
    split at hr
    · rename_i fn hf
      obtain ⟨hc, hr⟩ := cond_some hr
      cases hr
      simp only [Bool.and_eq_true, Bool.not_eq_true'] at hc
      have hb : fn.body.isNone = false := by cases hq : fn.body <;> simp [hq] at hc ⊢
      refine ⟨args', ?_, ha⟩
      simp only [callFunc, Sem.run_bind, run_program, Result.andThen_ok, E.hfn f fn hf, hc.2, Bool.false_eq_true, if_false, hb, Sem.run_pure]
    · cases hr

theorem method_run {t : TypeId} {v : Value} {name : String} {f : FuncId} (hm : methodX E t name = some f) (n : Nat) :
    (method (n + 1) t v name).run E.P w = .ok (f, v) w := by
  unfold methodX at hm
  split at hm
  · rename_i i hi
    split at hm
    · rename_i m hfind
      split at hm
      · rename_i f' hp hfn
        split at hm
        · rename_i e hd
          cases hm
          have hu : E.und t = some (.pointer e) := by
            unfold Env.und; rw [hi]
            obtain ⟨desc, _, _, _, _, _, _, _, _, _⟩ := i
            simp only at hd
            subst hd; rfl
          simp [method, run_info hi, hfind, hp, follow, hfn, receiverAt, run_und hu, Place.get]
        · cases hm
      · rename_i f' hp hfn
        split at hm
        · cases hm
        · rename_i d hnot hu
          cases hm
          simp only [method, Sem.run_bind, run_info hi, Result.andThen_ok, hfind, hp, follow, Sem.run_pure, hfn, receiverAt, run_und hu]
          cases d <;> first
            | (exact absurd rfl (hnot _))
            | simp [Place.get]
        · cases hm
      · cases hm
    · cases hm
  · cases hm

include H

theorem invokeX_sound {d d' : Deferred} {n : Nx} (hd : DRel M d d') (hr : invokeX E h d = some n) :
    NxOk W B E M h w n ((invoke d'.target d'.args).run E.P w) := by
  obtain ⟨tg, args⟩ := d
  obtain ⟨tg', args'⟩ := d'
  obtain ⟨ht, ha⟩ := hd
  simp only at ht ha
  unfold invokeX at hr
  simp only at hr
  split at hr
  ·
    rename_i f cap
    cases tg' <;> simp only [TgRel] at ht <;> try (exact ht.elim)
    rename_i f' cap'
    obtain ⟨hf, hcap⟩ := ht
    cases f' <;> simp only [FnRel] at hf <;> first | (cases hf; done) | skip
    cases hf
    have hall : VsRel M (args ++ cap).toList (args' ++ cap').toList := by
      simp only [Array.toList_append]; exact ha.append hcap
    exact callFnX_sound H hall hr
  ·
    rename_i l cap
    cases hr
    cases tg' <;> simp only [TgRel] at ht <;> try (exact ht.elim)
    rename_i f' cap'
    obtain ⟨hf, hcap⟩ := ht
    cases f' <;> simp only [FnRel] at hf <;> first | (exact hf.elim) | skip
    rename_i l'
    exact ⟨l', args', hf, ha, rfl⟩
  ·
    rename_i name cap
    cases tg' <;> simp only [TgRel] at ht <;> try (exact ht.elim)
    rename_i f' cap'
    obtain ⟨hf, hcap⟩ := ht
    cases f' <;> simp only [FnRel] at hf <;> first | (cases hf; done) | skip
    cases hf
    split at hr
    · rename_i t v rest hl
      rw [hl] at ha
      obtain ⟨x', l', e1, hx, hl'⟩ := arrCons ha
      cases hx with
      | iface hv =>
      rename_i v'
      split at hr
      · rename_i f hm
        have hrun := method_run (E := E) (w := w) (v := v') hm (E.P.types.size + 99)
        have e0 : args'[0]? = some (.iface t v') := by rw [← Array.getElem?_toList, e1]; rfl
        have e2 : (args'.extract 1 args'.size).toList = l' := by
          rw [Array.toList_extract, List.extract_eq_take_drop, e1]
          have : args'.size = l'.length + 1 := by have := congrArg List.length e1; simpa using this
          rw [this]; simp
        have hall : VsRel M (#[v] ++ rest.toArray).toList (#[v'] ++ args'.extract 1 args'.size).toList := by
          simp only [Array.toList_append]
          rw [e2]
          exact (VsRel.cons hv (.nil M)).append (by simpa using hl')
        have hc := callFnX_sound H (W := W) (B := B) (h := h) (w := w) hall hr
        have hinv : (invoke (.fn (.method name) cap') args').run E.P w = (callFunc f (#[v'] ++ args'.extract 1 args'.size)).run E.P w := by
          have hd : E.P.types.size + Made.depth = E.P.types.size + 99 + 1 := rfl
          simp only [invoke, e0, callMethod, Sem.run_bind, run_program, Result.andThen_ok, hd, hrun]
        rw [hinv]; exact hc
      · cases hr
    · cases hr
  ·
    rename_i b ts ty cs
    cases tg' <;> simp only [TgRel] at ht <;> try (exact ht.elim)
    obtain ⟨rfl, rfl, rfl, rfl⟩ := ht
    split at hr
    · rename_i t s x h0 hl
      rw [hl] at ha
      obtain ⟨s', x', rfl, hs, hx⟩ := arr2 ha
      split at hr
      · rename_i t' h1
        split at hr
        · rename_i v h' hap
          cases hr
          obtain ⟨v', w', M', r1, r2, r3, r4, r5⟩ := appendX_sound (E := E) (ty := ty) H hs hx h0 h1 hap
          exact ⟨v', w', M', by simp [invoke, builtin, r1], r2, r3, r4, r5⟩
        · cases hr
      · cases hr
    · rename_i t a b0 h0 hl
      rw [hl] at ha
      obtain ⟨s', x', rfl, hs, hx⟩ := arr2 ha
      split at hr
      · rename_i v h' hap
        cases hr
        obtain ⟨v', w', r1, r3, r4, r5⟩ := copyX_sound (E := E) (ty := ty) H hs hx h0 hap
        exact ⟨v', w', M, by simp [invoke, builtin, r1], Ev.refl M, r3, r4, r5⟩
      · cases hr
    · rename_i t a b0 h0 hl
      rw [hl] at ha
      obtain ⟨s', x', rfl, hs, hx⟩ := arr2 ha
      split at hr
      · rename_i h' hap
        cases hr
        obtain ⟨w', r1, r3, r4⟩ := deleteX_sound (E := E) (ty := ty) H hs hx h0 hap
        exact ⟨_, w', M, by simp [invoke, builtin, r1], Ev.refl M, r3, r4, .tuple' (.nil M)⟩
      · cases hr
    · cases hr
      simp [NxOk, invoke, builtin]
    · rename_i x l hl
      rw [hl] at ha
      obtain ⟨x', l', e1, hx, hl'⟩ := arrCons ha
      split at hr
      · rename_i t v
        cases hr
        cases hx with
        | iface hv =>
        rename_i v'
        have e0 : args'.getD 0 .nilIface = .iface t v' := by
          have : args'[0]? = some (.iface t v') := by rw [← Array.getElem?_toList, e1]; rfl
          simp [Array.getD_eq_getD_getElem?, this]
        exact ⟨.iface t v', by simp [invoke, builtin, e0, Instr.panic], .iface hv⟩
      · cases hr
    · cases hr
  · cases hr

end

end Go.X
