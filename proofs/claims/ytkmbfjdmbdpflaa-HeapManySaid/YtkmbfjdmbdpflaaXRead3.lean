/- What X's readX tells, the model's operation yields (second part): equality of structs, conversions, slices, fields, maps. Conditions: none. -/
import Derived.Test.YtkmbfjdmbdpflaaXRead2
import Derived.Laws.StructEq
namespace Go.X

variable {E : Env}

theorem fieldsOf_ok {t : TypeId} {fs : Array Field} (h : E.und t = some (.struct fs)) : E.P.fieldsOf t = fs := by
  simp [Program.fieldsOf, und_ok h]

section
variable {W : World} {B : Nat → Prop} {M : Mp} {h : Hp} {w : World} (H : HRel W B M h w)
include H

theorem structEq_sound {d : Nat} {xs ys xs' ys' : Array Value} (hx : VsRel M xs.toList xs'.toList) (hy : VsRel M ys.toList ys'.toList) :
    ∀ {l : List Field} {b : Bool}, structEq E h xs ys l = some b → (Op.eqFields (d + 1) xs' ys' l).run E.P w = .ok b w := by
  intro l
  induction l with
  | nil => intro b hr; cases hr; simp [Op.eqFields]
  | cons f l ih =>
    intro b hr
    unfold structEq at hr
    cases hn : (f.name == "_") with
    | true => rw [hn, cond_true] at hr; cases hr
    | false =>
      rw [hn, cond_false] at hr
      have hne : f.name ≠ "_" := by simpa using hn
      cases ha : partX E f.type xs f.offset with
      | none => rw [ha] at hr; cases hr
      | some a =>
        cases hb : partX E f.type ys f.offset with
        | none => rw [ha, hb] at hr; cases hr
        | some c =>
          rw [ha, hb] at hr
          simp only at hr
          obtain ⟨a', ra, va⟩ := partX_sound (E := E) (w := w) hx ha
          obtain ⟨c', rc, vc⟩ := partX_sound (E := E) (w := w) hy hb
          cases he : equalX E h 1 f.type a c with
          | none => rw [he] at hr; cases hr
          | some q =>
            rw [he] at hr
            have re := equalX_sound (n := 0) (d := d) H va vc he
            cases q with
            | true => simp [Op.eqFields, hne, ra, rc, re, ih hr]
            | false => simp only at hr; cases hr; simp [Op.eqFields, hne, ra, rc, re]

set_option maxHeartbeats 1000000 in
theorem binX_sound {op : BinOp} {t : TypeId} {xo yo : Operand} {x y x' y' v : Value} (hx : VRel M x x') (hy : VRel M y y') (hr : binX E h op t xo yo x y = some v) :
    ∃ v', (do eqGuard op t xo yo x' y'; binOp op t x' y' : Sem Value).run E.P w = .ok v' w ∧ VRel M v v' := by
  have guard0 : ∀ u u' : Value, (∀ a b, ¬ (u = .agg a ∧ u' = .agg b)) → ¬ (u = .nilIface ∧ u' = .nilIface) → (eqGuard op t xo yo u u').run E.P w = .ok () w := by
    intro u u' h1 h2
    unfold eqGuard
    cases op <;> simp only [Bool.not_true, Bool.not_false, if_true, Sem.run_pure] <;>
      (cases u <;> cases u' <;> first | rfl | exact absurd ⟨rfl, rfl⟩ h2 | exact absurd ⟨rfl, rfl⟩ (h1 _ _))
  have gen : ∀ {b : Bool}, equalX E h 1 t x y = some b → (∀ a b, ¬ (x' = .agg a ∧ y' = .agg b)) → ¬ (x' = .nilIface ∧ y' = .nilIface) →
      (∀ k n k' m, ¬ (x' = .int k n ∧ y' = .int k' m)) → (∀ a b, ¬ (x' = .string a ∧ y' = .string b)) → (∀ k a, x' ≠ .float k a) → (∀ k a b, x' ≠ .complex k a b) →
      (do eqGuard .eql t xo yo x' y'; binOp .eql t x' y' : Sem Value).run E.P w = .ok (.bool b) w ∧ (do eqGuard .neq t xo yo x' y'; binOp .neq t x' y' : Sem Value).run E.P w = .ok (.bool !b) w := by
    intro b he n1 n2 n3 n4 n5 n6
    have re := equalX_sound (n := 0) (d := 9999) H hx hy he
    have g : ∀ op', (eqGuard op' t xo yo x' y').run E.P w = .ok () w := by
      intro op'
      unfold eqGuard
      cases op' <;> simp only [Bool.not_true, Bool.not_false, if_true, Sem.run_pure] <;>
        (cases x' <;> cases y' <;> first | rfl | exact absurd ⟨rfl, rfl⟩ n2 | exact absurd ⟨rfl, rfl⟩ (n1 _ _))
    have b1 : (binOp .eql t x' y').run E.P w = .ok (.bool b) w ∧ (binOp .neq t x' y').run E.P w = .ok (.bool !b) w := by
      cases x' <;> cases y' <;> first
        | (exact absurd ⟨rfl, rfl⟩ (n3 _ _ _ _))
        | (exact absurd ⟨rfl, rfl⟩ (n4 _ _))
        | (exact absurd rfl (n5 _ _))
        | (exact absurd rfl (n6 _ _ _))
        | (refine ⟨?_, ?_⟩ <;> simp [binOp, Op.equal, Op.maxDepth, re])
    exact ⟨by simp [g, b1.1], by simp [g, b1.2]⟩
  unfold binX at hr
  split at hr
  case h_1 k a k' b =>
    cases hx; cases hy
    have g := guard0 (.int k a) (.int k' b) (by intro a b hh; cases hh.1) (by intro hh; cases hh.1)
    cases hs : isShift op with
    | true =>
      rw [hs, cond_true] at hr
      obtain ⟨r, vr⟩ := run_shiftX (E := E) (t := t) (w := w) (k' := k') hs hr
      exact ⟨v, by simp [g, r], vr M⟩
    | false =>
      rw [hs, cond_false] at hr
      obtain ⟨hk, hr2⟩ := cond_some hr
      have := (kindEq_iff _ _).1 hk
      subst this
      obtain ⟨r, vr⟩ := run_intBin (E := E) (t := t) (w := w) hs hr2
      exact ⟨v, by simp [g, r], vr M⟩
  case h_2 a b =>
    cases hx; cases hy
    have g := guard0 (.string a) (.string b) (by intro a b hh; cases hh.1) (by intro hh; cases hh.1)
    obtain ⟨r, vr⟩ := run_strBin (E := E) (t := t) (w := w) hr
    exact ⟨v, by simp [g, r], vr M⟩
  case h_3 =>
    cases hx; cases hy
    obtain ⟨hc, hr2⟩ := cond_some hr
    have g : (eqGuard op t xo yo .nilIface .nilIface).run E.P w = .ok () w := by
      cases op <;> cases xo <;> cases yo <;> simp [isConstOp] at hc <;> simp [eqGuard]
    have key : ∀ ms, E.und t = some (.interface ms) → (Op.equal t .nilIface .nilIface).run E.P w = .ok true w := by
      intro ms hu
      simp only [Op.equal, Op.maxDepth]
      exact equalX_sound (n := 0) (d := 9999) H .nilIface .nilIface (by simp only [equalX, hu])
    cases op <;> first | (simp only at hr2; cases hr2; done) | skip
    case eql =>
      cases hu : E.und t with
      | none => rw [hu] at hr2; cases hr2
      | some d =>
        rw [hu] at hr2
        cases d <;> first | (simp only at hr2; cases hr2; done) | skip
        cases hr2
        exact ⟨.bool true, by simp [g, binOp, key _ hu], .bool _⟩
    case neq =>
      cases hu : E.und t with
      | none => rw [hu] at hr2; cases hr2
      | some d =>
        rw [hu] at hr2
        cases d <;> first | (simp only at hr2; cases hr2; done) | skip
        cases hr2
        exact ⟨.bool false, by simp [g, binOp, key _ hu], .bool _⟩
  case h_4 => cases hr
  case h_5 => cases hr
  case h_6 xs ys =>
    cases hx with
    | agg ha ka =>
    cases hy with
    | agg hb kb =>
    rename_i xs' ys'
    split at hr
    · rename_i fs hu
      cases hg : (E.P.eqGuardType E.P.depth t || E.P.stoodInHeld t) with
      | true => rw [hg, cond_true] at hr; cases hr
      | false =>
        rw [hg, cond_false] at hr
        simp only [Bool.or_eq_false_iff] at hg
        have g := run_eqGuard_agg (P := E.P) w op t xo yo xs' ys' hg.1
        have hst := run_equalIn_struct (P := E.P) w 9999 t xs' ys' (by rw [fieldsOf_ok hu]; exact und_ok hu) hg.2
        rw [fieldsOf_ok hu] at hst
        split at hr
        · rename_i b hb'
          cases hr
          have := structEq_sound (d := 9998) H ⟨ha, ka⟩ ⟨hb, kb⟩ hb'
          rw [this] at hst
          exact ⟨.bool b, by simp [g, run_eql_struct, hst], by rw [boolV_eq]; exact .bool _⟩
        · rename_i b hb'
          cases hr
          have := structEq_sound (d := 9998) H ⟨ha, ka⟩ ⟨hb, kb⟩ hb'
          rw [this] at hst
          exact ⟨.bool !b, by simp [g, run_neq_struct, hst], by rw [boolV_eq]; exact .bool _⟩
        · cases hr
    · cases hr
  case h_7 n1 n2 n3 n4 n5 n6 =>
    split at hr
    · split at hr
      · rename_i b he
        cases hr
        obtain ⟨g1, _⟩ := gen he (by rintro a b ⟨rfl, rfl⟩; cases hx <;> cases hy <;> (first | (rw [equalX_chan1] at he; cases he) | (rw [equalX_chan2] at he; cases he) | exact n1 _ _ _ _ rfl rfl | exact n1 _ _ rfl rfl | exact n1 rfl rfl | exact n1 _ _ rfl | exact n1 _ _ _ rfl | exact n2 _ _ _ _ rfl rfl | exact n2 _ _ rfl rfl | exact n2 rfl rfl | exact n2 _ _ rfl | exact n2 _ _ _ rfl | exact n3 _ _ _ _ rfl rfl | exact n3 _ _ rfl rfl | exact n3 rfl rfl | exact n3 _ _ rfl | exact n3 _ _ _ rfl | exact n4 _ _ _ _ rfl rfl | exact n4 _ _ rfl rfl | exact n4 rfl rfl | exact n4 _ _ rfl | exact n4 _ _ _ rfl | exact n5 _ _ _ _ rfl rfl | exact n5 _ _ rfl rfl | exact n5 rfl rfl | exact n5 _ _ rfl | exact n5 _ _ _ rfl | exact n6 _ _ _ _ rfl rfl | exact n6 _ _ rfl rfl | exact n6 rfl rfl | exact n6 _ _ rfl | exact n6 _ _ _ rfl)) (by rintro ⟨rfl, rfl⟩; cases hx <;> cases hy <;> (first | (rw [equalX_chan1] at he; cases he) | (rw [equalX_chan2] at he; cases he) | exact n1 _ _ _ _ rfl rfl | exact n1 _ _ rfl rfl | exact n1 rfl rfl | exact n1 _ _ rfl | exact n1 _ _ _ rfl | exact n2 _ _ _ _ rfl rfl | exact n2 _ _ rfl rfl | exact n2 rfl rfl | exact n2 _ _ rfl | exact n2 _ _ _ rfl | exact n3 _ _ _ _ rfl rfl | exact n3 _ _ rfl rfl | exact n3 rfl rfl | exact n3 _ _ rfl | exact n3 _ _ _ rfl | exact n4 _ _ _ _ rfl rfl | exact n4 _ _ rfl rfl | exact n4 rfl rfl | exact n4 _ _ rfl | exact n4 _ _ _ rfl | exact n5 _ _ _ _ rfl rfl | exact n5 _ _ rfl rfl | exact n5 rfl rfl | exact n5 _ _ rfl | exact n5 _ _ _ rfl | exact n6 _ _ _ _ rfl rfl | exact n6 _ _ rfl rfl | exact n6 rfl rfl | exact n6 _ _ rfl | exact n6 _ _ _ rfl))
          (by rintro k n k' m ⟨rfl, rfl⟩; cases hx <;> cases hy <;> (first | (rw [equalX_chan1] at he; cases he) | (rw [equalX_chan2] at he; cases he) | exact n1 _ _ _ _ rfl rfl | exact n1 _ _ rfl rfl | exact n1 rfl rfl | exact n1 _ _ rfl | exact n1 _ _ _ rfl | exact n2 _ _ _ _ rfl rfl | exact n2 _ _ rfl rfl | exact n2 rfl rfl | exact n2 _ _ rfl | exact n2 _ _ _ rfl | exact n3 _ _ _ _ rfl rfl | exact n3 _ _ rfl rfl | exact n3 rfl rfl | exact n3 _ _ rfl | exact n3 _ _ _ rfl | exact n4 _ _ _ _ rfl rfl | exact n4 _ _ rfl rfl | exact n4 rfl rfl | exact n4 _ _ rfl | exact n4 _ _ _ rfl | exact n5 _ _ _ _ rfl rfl | exact n5 _ _ rfl rfl | exact n5 rfl rfl | exact n5 _ _ rfl | exact n5 _ _ _ rfl | exact n6 _ _ _ _ rfl rfl | exact n6 _ _ rfl rfl | exact n6 rfl rfl | exact n6 _ _ rfl | exact n6 _ _ _ rfl)) (by rintro a b ⟨rfl, rfl⟩; cases hx <;> cases hy <;> (first | (rw [equalX_chan1] at he; cases he) | (rw [equalX_chan2] at he; cases he) | exact n1 _ _ _ _ rfl rfl | exact n1 _ _ rfl rfl | exact n1 rfl rfl | exact n1 _ _ rfl | exact n1 _ _ _ rfl | exact n2 _ _ _ _ rfl rfl | exact n2 _ _ rfl rfl | exact n2 rfl rfl | exact n2 _ _ rfl | exact n2 _ _ _ rfl | exact n3 _ _ _ _ rfl rfl | exact n3 _ _ rfl rfl | exact n3 rfl rfl | exact n3 _ _ rfl | exact n3 _ _ _ rfl | exact n4 _ _ _ _ rfl rfl | exact n4 _ _ rfl rfl | exact n4 rfl rfl | exact n4 _ _ rfl | exact n4 _ _ _ rfl | exact n5 _ _ _ _ rfl rfl | exact n5 _ _ rfl rfl | exact n5 rfl rfl | exact n5 _ _ rfl | exact n5 _ _ _ rfl | exact n6 _ _ _ _ rfl rfl | exact n6 _ _ rfl rfl | exact n6 rfl rfl | exact n6 _ _ rfl | exact n6 _ _ _ rfl))
          (by rintro k a rfl; cases hx <;> (first | (rw [equalX_chan1] at he; cases he) | (rw [equalX_chan2] at he; cases he) | exact n1 _ _ _ _ rfl rfl | exact n1 _ _ rfl rfl | exact n1 rfl rfl | exact n1 _ _ rfl | exact n1 _ _ _ rfl | exact n2 _ _ _ _ rfl rfl | exact n2 _ _ rfl rfl | exact n2 rfl rfl | exact n2 _ _ rfl | exact n2 _ _ _ rfl | exact n3 _ _ _ _ rfl rfl | exact n3 _ _ rfl rfl | exact n3 rfl rfl | exact n3 _ _ rfl | exact n3 _ _ _ rfl | exact n4 _ _ _ _ rfl rfl | exact n4 _ _ rfl rfl | exact n4 rfl rfl | exact n4 _ _ rfl | exact n4 _ _ _ rfl | exact n5 _ _ _ _ rfl rfl | exact n5 _ _ rfl rfl | exact n5 rfl rfl | exact n5 _ _ rfl | exact n5 _ _ _ rfl | exact n6 _ _ _ _ rfl rfl | exact n6 _ _ rfl rfl | exact n6 rfl rfl | exact n6 _ _ rfl | exact n6 _ _ _ rfl)) (by rintro k a b rfl; cases hx <;> (first | (rw [equalX_chan1] at he; cases he) | (rw [equalX_chan2] at he; cases he) | exact n1 _ _ _ _ rfl rfl | exact n1 _ _ rfl rfl | exact n1 rfl rfl | exact n1 _ _ rfl | exact n1 _ _ _ rfl | exact n2 _ _ _ _ rfl rfl | exact n2 _ _ rfl rfl | exact n2 rfl rfl | exact n2 _ _ rfl | exact n2 _ _ _ rfl | exact n3 _ _ _ _ rfl rfl | exact n3 _ _ rfl rfl | exact n3 rfl rfl | exact n3 _ _ rfl | exact n3 _ _ _ rfl | exact n4 _ _ _ _ rfl rfl | exact n4 _ _ rfl rfl | exact n4 rfl rfl | exact n4 _ _ rfl | exact n4 _ _ _ rfl | exact n5 _ _ _ _ rfl rfl | exact n5 _ _ rfl rfl | exact n5 rfl rfl | exact n5 _ _ rfl | exact n5 _ _ _ rfl | exact n6 _ _ _ _ rfl rfl | exact n6 _ _ rfl rfl | exact n6 rfl rfl | exact n6 _ _ rfl | exact n6 _ _ _ rfl))
        exact ⟨_, g1, by rw [boolV_eq]; exact .bool _⟩
      · cases hr
    · split at hr
      · rename_i b he
        cases hr
        obtain ⟨_, g1⟩ := gen he (by rintro a b ⟨rfl, rfl⟩; cases hx <;> cases hy <;> (first | (rw [equalX_chan1] at he; cases he) | (rw [equalX_chan2] at he; cases he) | exact n1 _ _ _ _ rfl rfl | exact n1 _ _ rfl rfl | exact n1 rfl rfl | exact n1 _ _ rfl | exact n1 _ _ _ rfl | exact n2 _ _ _ _ rfl rfl | exact n2 _ _ rfl rfl | exact n2 rfl rfl | exact n2 _ _ rfl | exact n2 _ _ _ rfl | exact n3 _ _ _ _ rfl rfl | exact n3 _ _ rfl rfl | exact n3 rfl rfl | exact n3 _ _ rfl | exact n3 _ _ _ rfl | exact n4 _ _ _ _ rfl rfl | exact n4 _ _ rfl rfl | exact n4 rfl rfl | exact n4 _ _ rfl | exact n4 _ _ _ rfl | exact n5 _ _ _ _ rfl rfl | exact n5 _ _ rfl rfl | exact n5 rfl rfl | exact n5 _ _ rfl | exact n5 _ _ _ rfl | exact n6 _ _ _ _ rfl rfl | exact n6 _ _ rfl rfl | exact n6 rfl rfl | exact n6 _ _ rfl | exact n6 _ _ _ rfl)) (by rintro ⟨rfl, rfl⟩; cases hx <;> cases hy <;> (first | (rw [equalX_chan1] at he; cases he) | (rw [equalX_chan2] at he; cases he) | exact n1 _ _ _ _ rfl rfl | exact n1 _ _ rfl rfl | exact n1 rfl rfl | exact n1 _ _ rfl | exact n1 _ _ _ rfl | exact n2 _ _ _ _ rfl rfl | exact n2 _ _ rfl rfl | exact n2 rfl rfl | exact n2 _ _ rfl | exact n2 _ _ _ rfl | exact n3 _ _ _ _ rfl rfl | exact n3 _ _ rfl rfl | exact n3 rfl rfl | exact n3 _ _ rfl | exact n3 _ _ _ rfl | exact n4 _ _ _ _ rfl rfl | exact n4 _ _ rfl rfl | exact n4 rfl rfl | exact n4 _ _ rfl | exact n4 _ _ _ rfl | exact n5 _ _ _ _ rfl rfl | exact n5 _ _ rfl rfl | exact n5 rfl rfl | exact n5 _ _ rfl | exact n5 _ _ _ rfl | exact n6 _ _ _ _ rfl rfl | exact n6 _ _ rfl rfl | exact n6 rfl rfl | exact n6 _ _ rfl | exact n6 _ _ _ rfl))
          (by rintro k n k' m ⟨rfl, rfl⟩; cases hx <;> cases hy <;> (first | (rw [equalX_chan1] at he; cases he) | (rw [equalX_chan2] at he; cases he) | exact n1 _ _ _ _ rfl rfl | exact n1 _ _ rfl rfl | exact n1 rfl rfl | exact n1 _ _ rfl | exact n1 _ _ _ rfl | exact n2 _ _ _ _ rfl rfl | exact n2 _ _ rfl rfl | exact n2 rfl rfl | exact n2 _ _ rfl | exact n2 _ _ _ rfl | exact n3 _ _ _ _ rfl rfl | exact n3 _ _ rfl rfl | exact n3 rfl rfl | exact n3 _ _ rfl | exact n3 _ _ _ rfl | exact n4 _ _ _ _ rfl rfl | exact n4 _ _ rfl rfl | exact n4 rfl rfl | exact n4 _ _ rfl | exact n4 _ _ _ rfl | exact n5 _ _ _ _ rfl rfl | exact n5 _ _ rfl rfl | exact n5 rfl rfl | exact n5 _ _ rfl | exact n5 _ _ _ rfl | exact n6 _ _ _ _ rfl rfl | exact n6 _ _ rfl rfl | exact n6 rfl rfl | exact n6 _ _ rfl | exact n6 _ _ _ rfl)) (by rintro a b ⟨rfl, rfl⟩; cases hx <;> cases hy <;> (first | (rw [equalX_chan1] at he; cases he) | (rw [equalX_chan2] at he; cases he) | exact n1 _ _ _ _ rfl rfl | exact n1 _ _ rfl rfl | exact n1 rfl rfl | exact n1 _ _ rfl | exact n1 _ _ _ rfl | exact n2 _ _ _ _ rfl rfl | exact n2 _ _ rfl rfl | exact n2 rfl rfl | exact n2 _ _ rfl | exact n2 _ _ _ rfl | exact n3 _ _ _ _ rfl rfl | exact n3 _ _ rfl rfl | exact n3 rfl rfl | exact n3 _ _ rfl | exact n3 _ _ _ rfl | exact n4 _ _ _ _ rfl rfl | exact n4 _ _ rfl rfl | exact n4 rfl rfl | exact n4 _ _ rfl | exact n4 _ _ _ rfl | exact n5 _ _ _ _ rfl rfl | exact n5 _ _ rfl rfl | exact n5 rfl rfl | exact n5 _ _ rfl | exact n5 _ _ _ rfl | exact n6 _ _ _ _ rfl rfl | exact n6 _ _ rfl rfl | exact n6 rfl rfl | exact n6 _ _ rfl | exact n6 _ _ _ rfl))
          (by rintro k a rfl; cases hx <;> (first | (rw [equalX_chan1] at he; cases he) | (rw [equalX_chan2] at he; cases he) | exact n1 _ _ _ _ rfl rfl | exact n1 _ _ rfl rfl | exact n1 rfl rfl | exact n1 _ _ rfl | exact n1 _ _ _ rfl | exact n2 _ _ _ _ rfl rfl | exact n2 _ _ rfl rfl | exact n2 rfl rfl | exact n2 _ _ rfl | exact n2 _ _ _ rfl | exact n3 _ _ _ _ rfl rfl | exact n3 _ _ rfl rfl | exact n3 rfl rfl | exact n3 _ _ rfl | exact n3 _ _ _ rfl | exact n4 _ _ _ _ rfl rfl | exact n4 _ _ rfl rfl | exact n4 rfl rfl | exact n4 _ _ rfl | exact n4 _ _ _ rfl | exact n5 _ _ _ _ rfl rfl | exact n5 _ _ rfl rfl | exact n5 rfl rfl | exact n5 _ _ rfl | exact n5 _ _ _ rfl | exact n6 _ _ _ _ rfl rfl | exact n6 _ _ rfl rfl | exact n6 rfl rfl | exact n6 _ _ rfl | exact n6 _ _ _ rfl)) (by rintro k a b rfl; cases hx <;> (first | (rw [equalX_chan1] at he; cases he) | (rw [equalX_chan2] at he; cases he) | exact n1 _ _ _ _ rfl rfl | exact n1 _ _ rfl rfl | exact n1 rfl rfl | exact n1 _ _ rfl | exact n1 _ _ _ rfl | exact n2 _ _ _ _ rfl rfl | exact n2 _ _ rfl rfl | exact n2 rfl rfl | exact n2 _ _ rfl | exact n2 _ _ _ rfl | exact n3 _ _ _ _ rfl rfl | exact n3 _ _ rfl rfl | exact n3 rfl rfl | exact n3 _ _ rfl | exact n3 _ _ _ rfl | exact n4 _ _ _ _ rfl rfl | exact n4 _ _ rfl rfl | exact n4 rfl rfl | exact n4 _ _ rfl | exact n4 _ _ _ rfl | exact n5 _ _ _ _ rfl rfl | exact n5 _ _ rfl rfl | exact n5 rfl rfl | exact n5 _ _ rfl | exact n5 _ _ _ rfl | exact n6 _ _ _ _ rfl rfl | exact n6 _ _ rfl rfl | exact n6 rfl rfl | exact n6 _ _ rfl | exact n6 _ _ _ rfl))
        exact ⟨_, g1, by rw [boolV_eq]; exact .bool _⟩
      · cases hr
    · cases hr

end

end Go.X
