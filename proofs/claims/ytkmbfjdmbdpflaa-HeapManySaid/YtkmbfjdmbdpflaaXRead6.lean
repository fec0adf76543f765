/- An operation that X's readX tells yields in the model a value that is its like, and the world stays: all of them. And what hangs on the operands alone. Conditions: none. -/
import Derived.Test.YtkmbfjdmbdpflaaXRead5
namespace Go.X

variable {E : Env}

theorem mapM_size {l : List Field} {pl : List (Nat × Nat)} {w : World} : (l.mapM fun f => (E.size f.type).map fun n => (f.offset, n)) = some pl →
    (l.mapM fun f => (do pure (f.offset, ← sizeOf f.type) : Sem (Nat × Nat))).run E.P w = .ok pl w := by
  induction l generalizing pl with
  | nil => intro hh; simp at hh; subst hh; simp
  | cons f l ih =>
    intro hh
    simp only [List.mapM_cons] at hh ⊢
    cases hs : E.size f.type with
    | none => rw [hs] at hh; simp at hh
    | some n =>
      rw [hs] at hh
      cases hm : (l.mapM fun f => (E.size f.type).map fun n => (f.offset, n)) with
      | none => rw [hm] at hh; simp at hh
      | some pl' =>
        rw [hm] at hh
        simp at hh
        subst hh
        have := ih hm
        rw [Sem.run_bind, Sem.run_bind, run_size hs, Result.andThen_ok, Sem.run_pure, Result.andThen_ok, Sem.run_bind, this, Result.andThen_ok, Sem.run_pure]

section
variable {W : World} {B : Nat → Prop} {M : Mp} {h : Hp} {w : World} (H : HRel W B M h w)
include H

set_option maxHeartbeats 1000000 in
theorem readX_sound {tm : Tr Value} {ρ : Operand → Value} {o : Oper} {v : Value} (hE : ∀ x ∈ o.op.operands, VRel M (ev tm x) (ρ x)) (hr : readX E tm o h = some v) :
    ∃ v', (execOp ρ o).run E.P w = .ok (.value v') w ∧ VRel M v v' := by
  obtain ⟨dst, op, type, pos, after, guard⟩ := o
  simp only at hE
  have up : ∀ {s : Sem Value} {v' : Value}, s.run E.P w = .ok v' w → ((do pure (.value (← s)) : Sem Next)).run E.P w = .ok (.value v') w := by
    intro s v' hs; simp [hs]
  cases op <;> simp only [readX] at hr <;> simp only [Op.operands] at hE
  case move x => cases hr; exact ⟨_, by simp [execOp], hE x (by simp)⟩
  case assign x => cases hr; exact ⟨_, by simp [execOp], hE x (by simp)⟩
  case pick c a b =>
    have hc := hE c (by simp)
    split at hr
    · rename_i t heq
      rw [heq] at hc
      cases hr
      generalize ρ c = rc at hc
      have hrc : ρ c = ρ c := rfl
      cases t with
      | true => exact ⟨ρ a, by simp [execOp]; have := hE c (by simp); rw [heq] at this; generalize ρ c = q at this; cases this; simp [asBool], hE a (by simp)⟩
      | false => exact ⟨ρ b, by simp [execOp]; have := hE c (by simp); rw [heq] at this; generalize ρ c = q at this; cases this; simp [asBool], hE b (by simp)⟩
    · cases hr
  case build t ps =>
    have hps : ∀ (i : Nat) (a b : Nat × Value), (ps.toList.map fun (i, x) => (i, ev tm x))[i]? = some a → (ps.toList.map fun (i, x) => (i, ρ x))[i]? = some b → a.1 = b.1 ∧ VRel M a.2 b.2 := by
      intro i a b ha hb
      simp only [List.getElem?_map, Option.map_eq_some_iff] at ha hb
      obtain ⟨p, hp, rfl⟩ := ha
      obtain ⟨p', hp', rfl⟩ := hb
      rw [hp] at hp'; cases hp'
      refine ⟨rfl, hE p.2 ?_⟩
      simp only [List.mem_toArray, List.mem_map]
      exact ⟨p, List.mem_of_getElem? hp, rfl⟩
    have hlen : (ps.toList.map fun (i, x) => (i, ev tm x)).length = (ps.toList.map fun (i, x) => (i, ρ x)).length := by simp
    split at hr
    · rename_i z fs hz hu
      have hzr := (zero_rel hz M).cells
      split at hr
      · rename_i pl hpl
        split at hr
        · rename_i cs hf
          cases hr
          obtain ⟨cs', hf', hv⟩ := fill_rel _ _ _ _ _ _ hlen hps hzr hf
          refine ⟨.agg cs', up ?_, .agg' hv⟩
          have hpl' := mapM_size (E := E) (w := w) hpl
          have hm : (fs.mapM fun f => (do pure (f.offset, ← sizeOf f.type) : Sem (Nat × Nat))).run E.P w = .ok pl.toArray w := by
            rw [Array.mapM_eq_mapM_toList, Sem.run_map, hpl']
            rfl
          simp only [Instr.build, Sem.run_bind, run_zero hz, Result.andThen_ok, run_und hu w, hm]
          have e1 : (ps.map fun (p : Nat × Operand) => (p.1, ρ p.2)).toList = (ps.toList.map fun (i, x) => (i, ρ x)) := by simp
          have e2 : (fun (i : Nat) => pl.toArray[i]?) = (fun (i : Nat) => pl[i]?) := by funext i; simp
          rw [e2]
          rw [← e1] at hf'
          simp only [hf', Sem.run_pure]
        · cases hr
      · cases hr
    · rename_i z n e hz hu
      have hzr := (zero_rel hz M).cells
      split at hr
      · rename_i n' hn
        split at hr
        · rename_i cs hf
          cases hr
          obtain ⟨cs', hf', hv⟩ := fill_rel _ _ _ _ _ _ hlen hps hzr hf
          refine ⟨.agg cs', up ?_, .agg' hv⟩
          have e1 : (ps.map fun (p : Nat × Operand) => (p.1, ρ p.2)).toList = (ps.toList.map fun (i, x) => (i, ρ x)) := by simp
          rw [← e1] at hf'
          simp only [Instr.build, Sem.run_bind, run_zero hz, Result.andThen_ok, run_und hu w, run_size hn, hf', Sem.run_pure]
        · cases hr
      · cases hr
    · cases hr
  case load t a =>
    have ha := hE a (by simp)
    split at hr
    · rename_i p heq
      rw [heq] at ha
      obtain ⟨v', r, hv⟩ : ∃ v', (Instr.loadAt t (ρ a)).run E.P w = .ok v' w ∧ VRel M v v' := by
        generalize ρ a = q at ha
        cases ha with
        | ptr hp =>
        obtain ⟨v', r, hv⟩ := loadX_sound (E := E) H hp hr
        exact ⟨v', by simp [Instr.loadAt, Instr.sureAddr, r], hv⟩
      exact ⟨v', up r, hv⟩
    · cases hr
  case nilCheck x =>
    have hx := hE x (by simp)
    simp only [execOp]
    generalize ρ x = q at hx
    generalize ev tm x = u at hx hr
    split at hr
    · cases hr; cases hx with | ptr hp => exact ⟨_, by simp, .ptr hp⟩
    · rename_i f a b
      cases hr
      cases hx with
      | func hf ha hb ka kb =>
      rename_i f' c d
      cases f' <;> simp only [FnRel] at hf <;> first | (cases hf; done) | skip
      cases hf
      exact ⟨_, by simp, .func rfl ha hb ka kb⟩
    · rename_i f a b
      cases hr
      cases hx with
      | func hf ha hb ka kb =>
      rename_i f' c d
      cases f' <;> simp only [FnRel] at hf <;> first | (exact hf.elim) | skip
      rename_i l'
      exact ⟨.func (.yield l') c d, by simp, .func (f := .yield f) (f' := .yield l') hf ha hb ka kb⟩
    · cases hr; cases hx with | iface hv => exact ⟨_, by simp, .iface hv⟩
    · cases hr
  case binOp op t x y u =>
    obtain ⟨v', r, hv⟩ := binX_sound (E := E) H (hE x (by simp)) (hE y (by simp)) hr
    exact ⟨v', up r, hv⟩
  case unOp op t x =>
    have hx := hE x (by simp)
    suffices hs : ∃ v', (Op.unary op (ρ x)).run E.P w = .ok v' w ∧ VRel M v v' by
      obtain ⟨v', r, hv⟩ := hs
      exact ⟨v', up r, hv⟩
    generalize ρ x = q at hx
    generalize ev tm x = u at hx hr
    unfold unX at hr
    split at hr
    · cases hx; rw [someI_eq, wrapX_eq] at hr; cases hr; exact ⟨_, by simp only [Op.unary, Op.intArith, Sem.run_pure], .int _ _⟩
    · cases hx
      rename_i k n
      simp only [intBin, someI_eq, wrapX_eq] at hr
      cases hr
      exact ⟨_, by simp only [Op.unary, Op.intBits, Sem.run_pure], .int _ _⟩
    · cases hx; rw [boolV_eq] at hr; cases hr; exact ⟨_, by simp only [Op.unary, Sem.run_pure], .bool _⟩
    · cases hr
  case convert s d x =>
    obtain ⟨v', r, hv⟩ := convertX_sound (E := E) H (hE x (by simp)) hr
    exact ⟨v', up r, hv⟩
  case makeInterface t x =>
    have hx := hE x (by simp)
    split at hr
    · cases hr
    · rename_i d hnot hu
      cases hr
      refine ⟨.iface t (ρ x), up ?_, .iface hx⟩
      cases d <;> first
        | (rename_i hu' _; exact absurd rfl (hnot _))
        | simp [Instr.makeInterface, run_und hu]
        | (exact absurd rfl (hnot _))
    · cases hr
  case makeFunc fn a b =>
    split at hr
    · cases hr
    · rename_i hnot
      cases hr
      refine ⟨.func fn (a.map ρ) (b.map ρ), by simp [execOp, Instr.makeFunc], .func' ?_ ?_ ?_⟩
      · cases fn <;> first | rfl | (exact absurd rfl (hnot _))
      · rw [Array.toList_map, Array.toList_map]
        exact .map _ _ _ fun x hx => hE x (by simp; exact .inl (by simpa using hx))
      · rw [Array.toList_map, Array.toList_map]
        exact .map _ _ _ fun x hx => hE x (by simp; exact .inr (by simpa using hx))
  case slice t x lo hi mx =>
    obtain ⟨v', r, hv⟩ := sliceX_sound (E := E) H (hE x (by simp))
      (ORelV.map (o := lo) (f := ev tm) (g := ρ) fun y hy => hE y (by subst hy; simp)) (ORelV.map (o := hi) (f := ev tm) (g := ρ) fun y hy => hE y (by subst hy; simp))
      (ORelV.map (o := mx) (f := ev tm) (g := ρ) fun y hy => hE y (by subst hy; simp)) hr
    exact ⟨v', up r, hv⟩
  case fieldAddr t x i =>
    obtain ⟨v', r, hv⟩ := fieldAddrX_sound (E := E) (w := w) (hE x (by simp)) hr
    exact ⟨v', up r, hv⟩
  case field t x i =>
    obtain ⟨v', r, hv⟩ := fieldX_sound (E := E) (w := w) (hE x (by simp)) hr
    exact ⟨v', up r, hv⟩
  case indexAddr t x i =>
    obtain ⟨v', r, hv⟩ := indexAddrX_sound (E := E) (w := w) (hE x (by simp)) (hE i (by simp)) hr
    exact ⟨v', up r, hv⟩
  case index t x i =>
    obtain ⟨v', r, hv⟩ := indexX_sound (E := E) (w := w) (hE x (by simp)) (hE i (by simp)) hr
    exact ⟨v', up r, hv⟩
  case lookup t m k ok =>
    obtain ⟨v', r, hv⟩ := lookupX_sound (E := E) H (hE m (by simp)) (hE k (by simp)) hr
    exact ⟨v', up r, hv⟩
  case typeAssert x t a ok =>
    obtain ⟨v', r, hv⟩ := typeAssertX_sound (E := E) (w := w) (hE x (by simp)) hr
    exact ⟨v', up r, hv⟩
  case extract x i =>
    have hx := hE x (by simp)
    suffices hs : ∃ v', (Instr.extract (ρ x) i).run E.P w = .ok v' w ∧ VRel M v v' by
      obtain ⟨v', r, hv⟩ := hs
      exact ⟨v', up r, hv⟩
    generalize ρ x = q at hx
    generalize ev tm x = u at hx hr
    split at hr
    · rename_i vs
      cases hx with
      | tuple ha ka =>
      rename_i vs'
      have hlt : i < vs.size := (Array.getElem?_eq_some_iff.1 hr).1
      have hlt' : i < vs'.size := by simp at ha; omega
      exact ⟨vs'[i], by simp [Instr.extract, hlt'], ka i v _ (by simpa using hr) (by simp [hlt'])⟩
    · cases hr
  case call c =>
    obtain ⟨callee, args, argTypes⟩ := c
    cases callee with
    | value f => cases hr
    | invoke r m => cases hr
    | builtin b =>
      simp only [Call.operands] at hE
      have hargs : VsRel M (args.toList.map (ev tm)) (args.toList.map ρ) := .map _ _ _ fun x hx => hE x (by simpa using hx)
      simp only at hr
      have res : (resolve ρ { callee := .builtin b, args := args, argTypes := argTypes } type).run E.P w = .ok { target := .builtin b argTypes type (args.map fun | .const _ => true | _ => false), args := args.map ρ } w := by
        simp only [resolve, Sem.run_pure]
        rfl
      have e0 : (args.map ρ).toList = args.toList.map ρ := by simp
      split at hr
      · rename_i t x l ht hl
        rw [hl] at hargs
        cases hl' : args.toList.map ρ with
        | nil => rw [hl'] at hargs; have := hargs.1; simp at this
        | cons x' l' =>
          rw [hl'] at hargs
          have ha : (args.map ρ)[0]? = some x' := by rw [← Array.getElem?_toList, e0, hl']; rfl
          obtain ⟨v', r, hv⟩ := lenX_sound (E := E) H (ts := argTypes) (ty := type) hargs.uncons.1 ht ha hr
          exact ⟨v', by simp only [execOp, Sem.run_bind, res, Result.andThen_ok, invoke, builtin, r, Sem.run_pure], hv⟩
      · rename_i x l hl
        rw [hl] at hargs
        cases hl' : args.toList.map ρ with
        | nil => rw [hl'] at hargs; have := hargs.1; simp at this
        | cons x' l' =>
          rw [hl'] at hargs
          obtain ⟨v', r, hv⟩ := foldX_max (E := E) (w := w) l l' x x' v hargs.uncons.1 hargs.uncons.2 hr
          exact ⟨v', by simp only [execOp, Sem.run_bind, res, Result.andThen_ok, invoke, builtin, Builtin.max_, e0, hl', r, Sem.run_pure], hv⟩
      · rename_i x l hl
        rw [hl] at hargs
        cases hl' : args.toList.map ρ with
        | nil => rw [hl'] at hargs; have := hargs.1; simp at this
        | cons x' l' =>
          rw [hl'] at hargs
          obtain ⟨v', r, hv⟩ := foldX_min (E := E) (w := w) l l' x x' v hargs.uncons.1 hargs.uncons.2 hr
          exact ⟨v', by simp only [execOp, Sem.run_bind, res, Result.andThen_ok, invoke, builtin, Builtin.min_, e0, hl', r, Sem.run_pure], hv⟩
      · cases hr
  all_goals cases hr

end

end Go.X
