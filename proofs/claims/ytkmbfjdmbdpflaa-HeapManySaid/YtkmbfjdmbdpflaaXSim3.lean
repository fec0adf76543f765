/- Operations, in regions in order and in open ones: X's step and the model's. Conditions: none. -/
import Derived.Test.YtkmbfjdmbdpflaaXSim2
namespace Go.X

section
variable {W : World} {B : Nat → Prop} {E : Env} {M M' : Mp} {h h' : Hp} {w w' : World} {lo hi : Nat} {cs0 : List Frame}

theorem const_rel (M : Mp) (hG : Gl M) {ops : Array Oper} (hc : constsOk ops = true) {i : Nat} {o : Oper} (ho : ops[i]? = some o) {tm : Tr Value} {tmps : Array Value} (df : List Deferred)
    (ht : ∀ t, Operand.tmp t ∈ o.op.operands → VRel M (ev tm (.tmp t)) (tmps.getD t undef)) : ∀ x, x ∈ o.op.operands → VRel M (ev tm x) ((Act.mk tmps df).eval x) := by
  intro x hx
  have h1 := List.all_eq_true.1 hc o (by rw [Array.mem_toList_iff]; exact Array.mem_of_getElem? ho)
  have h2 := List.all_eq_true.1 h1 x (by simpa using hx)
  cases x with
  | tmp t => exact ht t hx
  | const v => exact plain_rel M 20 v h2
  | global g => exact hG.ptr h2
  | func f => exact .func' (f := .func f) (f' := .func f) rfl (.nil M) (.nil M)

theorem wanted_plain {tm : Tr Value} {tmps : Array Value} (T : TRel M tm tmps) {ops : Array Oper} {o : Oper} {b : Bool} (hw : wantedX ops tm o = some b) : Region.wanted o (yielded ops tmps) = b := by
  unfold wantedX at hw
  unfold Region.wanted
  cases hg : o.guard with
  | none => rw [hg] at hw; cases hw; rfl
  | some gb =>
    obtain ⟨g, want⟩ := gb
    rw [hg] at hw
    simp only at hw ⊢
    unfold yielded
    cases hog : ops[g]? with
    | none => rw [hog] at hw; cases hw
    | some og =>
      rw [hog] at hw
      simp only at hw
      cases hd : og.dst with
      | none => rw [hd] at hw; cases hw
      | some d =>
        rw [hd] at hw
        simp only at hw
        have hrel := T d
        simp only [ev] at hrel
        simp only [Option.bind_some, hd]
        split at hw
        · rename_i x hx
          cases hw
          rw [hx] at hrel
          simp only at hrel
          generalize hy : tmps.getD d undef = y at hrel
          cases hrel
          have : tmps[d]? = some (.bool x) := by
            cases ht : tmps[d]? with
            | none => simp [ht, undef] at hy
            | some z => simp [ht] at hy; rw [hy]
          simp only [this]
          cases x <;> cases want <;> rfl
        · rename_i x hx
          cases hw
          rw [hx] at hrel
          simp only at hrel
          generalize hy : tmps.getD d undef = y at hrel
          cases hrel
          cases ht : tmps[d]? with
          | none => cases want <;> rfl
          | some z => simp [ht] at hy; subst hy; cases want <;> rfl
        · cases hw

/-- Whatever an operation is: what it leads to here, and there. -/
theorem oper_ok (H : HRel W B M h w) {fr : Fr} {cs : List Fr} {o : Oper} {s' : St} {ρ : Operand → Value} (hE : ∀ x, x ∈ o.op.operands → VRel M (ev fr.tm x) (ρ x)) (hx : operX E fr cs h o = some s') :
    ∃ n, nextX E fr cs h n = some s' ∧ NxOk W B E M h w n ((execOp ρ o).run E.P w) ∧ ∀ cl, o.op = .defer cl → ∃ d, n = .defer d := by
  unfold operX at hx
  split at hx
  · rename_i hc
    split at hx
    · rename_i v hv
      obtain ⟨v', hr, hvr⟩ := readX_sound H hE hv
      exact ⟨_, hx, ⟨v', w, M, hr, .refl M, H, Keep.refl M h _, hvr⟩, fun cl e => by rw [cls_defer e] at hc; cases hc⟩
    · cases hx
  · rename_i hc
    split at hx
    · rename_i b f ha
      obtain ⟨x, S, v', hr, hall⟩ := allocX_sound (w := w) hE ha
      have hnk : ¬ M.K h.n := fun hk => by have := H.kn _ hk; omega
      obtain ⟨h1, h2⟩ := hall h.n hnk
      obtain ⟨H', e, K⟩ := newBlock H h1
      exact ⟨_, hx, ⟨v', _, _, hr, e, H', K, h2⟩, fun cl e => by rw [cls_defer e] at hc; cases hc⟩
    · cases hx
  · split at hx
    · rename_i n hn
      refine ⟨n, hx, writeX_sound H hE hn, fun cl e => ?_⟩
      obtain ⟨dst, op, type, pos, after, guard⟩ := o
      simp only at e
      subst e
      simp only [writeX] at hn
      split at hn
      · cases hn; exact ⟨_, rfl⟩
      · cases hn
    · cases hx

theorem sem_at {fr : Fr} {cs : List Fr} {n : Nx} {s' : St} {ro' : Option Nat} {o : Oper} {ρ : Operand → Value} (hro : RoRel M fr.ro ro') (hn : nextX E fr cs h n = some s') (hd : ∀ cl, o.op = .defer cl → ∃ d, n = .defer d) :
    o.semAt ro' ρ = execOp ρ o := by
  cases ro' with
  | none => exact Oper.semAt_none ρ o
  | some l =>
    refine Oper.semAt_eq _ _ _ fun cl e => ?_
    obtain ⟨d, rfl⟩ := hd cl e
    obtain ⟨fn, nt, tm, todo, df, md, kd, ro⟩ := fr
    cases ro with
    | none => exact hro.elim
    | some x => simp only [nextX] at hn; cases hn

theorem cls_le (E : Env) (o : Oper) : cls E o ≤ 2 := by
  unfold cls
  split <;> first | omega | (split <;> omega)

variable {fn : FuncId} {nt : Nat} {tm : Tr Value} {todo : List It} {todo' : List Item} {df : List Deferred} {df' : List Deferred} {kd : CallKind} {ro ro' : Option Nat} {tmps : Array Value} {cs : List Fr} {cs' : List Frame} {s' : St}

theorem mk_sim (H : HRel W B M h w) (hlo : lo ≤ h.n) (hro : RoRel M ro ro') (hdf : DsRel M df df') (S : StackRel E M h cs0 lo cs cs') (hb : Body E M h lo nt tm todo todo' tmps) :
    Sim W B E cs0 ⟨⟨fn, nt, tm, todo, df, .run, kd, ro⟩, cs, h⟩ (lone (Frame.atR ⟨fn, tmps, [], df', .run, kd, ro'⟩ ⟨tmps, df'⟩ todo') cs' w) :=
  ⟨M, lo, _, cs', w, rfl, H, hlo, ⟨rfl, rfl, hro, hdf, trivial, hb⟩, S⟩

/-- A region in order. -/
theorem region_sim (H : HRel W B M h w) (hlo : lo ≤ h.n) (hro : RoRel M ro ro') (hdf : DsRel M df df') (S : StackRel E M h cs0 lo cs cs') {ops : Array Oper} {l : List Nat} {k : List It} {k' : List Item}
    (hc : constsOk ops = true) (hk : ItsRel M k k') (T : TRel M tm tmps) (hs : tmps.size = nt)
    (hx : execX E fn nt tm (.inRegion ops l :: k) df kd ro cs h = some s') :
    ∃ m', Steps E.P (lone (Frame.atR ⟨fn, tmps, [], df', .run, kd, ro'⟩ ⟨tmps, df'⟩ (.inRegion ops l :: k')) cs' w) m' ∧ Sim W B E cs0 s' m' := by
  simp only [execX] at hx
  split at hx
  · cases hx
    exact ⟨_, .one stepR_region_end, mk_sim H hlo hro hdf S (.plain hk T hs)⟩
  · rename_i i rest
    split at hx
    · cases hx
    · rename_i o ho
      split at hx
      · cases hx
      · rename_i hw
        cases hx
        refine ⟨_, .one (stepR_op_skip (by simp [ho, wanted_plain T hw])), ?_⟩
        simp only [ho, Option.bind_some]
        rw [put_defers]
        exact mk_sim H hlo hro hdf S (.plain (.cons (.inRegion ops rest hc) hk) (T.put hs (.undef M) _ df') ((put_size _ _ _ _).trans hs))
      · rename_i hw
        obtain ⟨n, hn, hok, hd⟩ := oper_ok (ρ := (Act.mk tmps df').eval) H (const_rel M H.glob hc ho df' fun t _ => T t) hx
        have hsem := sem_at (ρ := (Act.mk tmps df').eval) hro hn hd
        obtain ⟨m', h1, h2⟩ := next_sim (fr := ⟨fn, nt, tm, .inRegion ops (i :: rest) :: k, df, .run, kd, ro⟩) (b := ⟨fn, tmps, [], df', .run, kd, ro'⟩) (tmps := tmps) (df := df') (rest := rest) (k := k') H hlo ⟨rfl, rfl, hro, hdf, trivial, ⟨.cons (.inRegion ops (i :: rest) hc) hk, T, hs⟩⟩ S hn ho (wanted_plain T hw) (hsem ▸ hok)
        exact ⟨m', h1, h2⟩

/-- What X is ahead with may wait. -/
theorem Draw.susp {ops : Array Oper} {i : Nat} {rest l : List Nat} {idf : Nat → Nat} (D : Draw E M h lo hi nt tm ops false [] (i :: rest) (i :: l) tmps idf) :
    Draw E M h lo hi nt tm ops true (late E ops i rest) (i :: rest) (i :: l) tmps idf :=
  { D with
    pend := fun j o hl hr ho => (D.pend j o hl hr ho).congr (fun _ _ => rfl) rfl (fun _ _ => rfl) (fun _ => rfl)
      (fun hc => ⟨fun h => (by simp at h), fun v _ hv => by
        cases hp : isPure o with
        | true => exact .inr ⟨fun _ => rfl, hv⟩
        | false =>
          refine .inl ?_
          have hjl : j ∈ l := (List.mem_cons.1 hl).resolve_left fun e => hr (by simp [e])
          have hjs := D.lt j hl
          refine List.mem_filter.2 ⟨List.mem_range.2 hjs, ?_⟩
          simp only [clsAt, ho, hc, hp, Bool.and_eq_true, Bool.not_eq_true', Nat.beq_refl, Bool.not_false, memN_false, true_and]
          refine ⟨hr, ?_⟩
          cases ha : ahead ops j i with
          | false => rfl
          | true => exact absurd hl (ahead_head D.eok D.cl' D.ord'.1 ha (D.lt i (by simp)))⟩)
      (fun _ a b k x hx => ⟨k, hx, a, b⟩) }

set_option maxHeartbeats 1000000 in
/-- An open region. -/
theorem draw_sim (H : HRel W B M h w) (hlo : lo ≤ h.n) (hro : RoRel M ro ro') (hdf : DsRel M df df') (S : StackRel E M h cs0 lo cs cs') {ops : Array Oper} {rest l : List Nat} {k : List It} {k' : List Item} {idf : Nat → Nat}
    (hk : ItsRel M k k') (D : Draw E M h lo h.n nt tm ops false [] rest l tmps idf)
    (hx : execX E fn nt tm (.draw ops rest :: k) df kd ro cs h = some s') :
    ∃ m', Steps E.P (lone (Frame.atR ⟨fn, tmps, [], df', .run, kd, ro'⟩ ⟨tmps, df'⟩ (.inRegion ops l :: k')) cs' w) m' ∧ Sim W B E cs0 s' m' := by
  simp only [execX] at hx
  split at hx
  ·
    cases hx
    obtain ⟨M', w', l', tmps', St, e, H', K, D', hh⟩ := catch_up (E := E) (b := ⟨fn, tmps, [], df', .run, kd, ro'⟩) (df := df') (k := k') (cs := cs') (Nat.le_refl h.n) l M w tmps H D
    have hl : l' = [] := by
      cases l' with
      | nil => rfl
      | cons j t => exact absurd (hh j t rfl) (by simp)
    subst hl
    refine ⟨_, St.trans (.one stepR_region_end), ?_⟩
    exact mk_sim H' hlo (hro.mono e) (hdf.mono e) (S.mono e (KeepFrom.low K hlo)) (.plain (hk.mono e) (fun t => D'.tmp t fun _ i o hi => absurd hi (by simp)) D'.size)
  · rename_i i rest
    unfold drawX at hx
    split at hx
    · cases hx
    · rename_i o ho
      simp only at hx
      obtain ⟨hp, hwr, hord⟩ := orderOk_head D.ord
      have hlow : ∀ j q, j ∈ l → j ∉ i :: rest → ops[j]? = some q → allocP E tm ops q → idf j < h.n := fun j q hj hjr hq ha => ((D.pend j q hj hjr hq).range ha).2.2
      have hwP : ∀ v, wantedX ops (putT nt tm o.dst v) o = wantedX ops tm o := fun v => wanted_put D ho (D.looksX ho).2 v
      have hev : ∀ v x, x ∈ o.op.operands → ev (putT nt tm o.dst v) x = ev tm x := fun v x hx => ev_same fun t e => putT_ev nt tm o.dst v t fun _ => (D.looksX ho).1 t (e ▸ hx)
      split at hx
      · cases hx
      ·
        rename_i hw
        cases hx
        refine ⟨_, .refl _ _, mk_sim H hlo hro hdf S ⟨l, k', idf, rfl, hk, D.stepX ho (.refl h) (Nat.le_refl _) (fun _ _ => rfl) ?_ (fun ha => by rw [ha.1] at hw; cases hw) hlow⟩⟩
        unfold Pend
        rw [hwP, hw]
        exact putT_dst nt tm o undef
      · rename_i hw
        split at hx
        ·
          rename_i hc
          split at hx
          · rename_i v hv
            cases hx
            refine ⟨_, .refl _ _, mk_sim H hlo hro hdf S ⟨l, k', idf, rfl, hk, D.stepX ho (.refl h) (Nat.le_refl _) (fun _ _ => rfl) ?_ (fun ha => by rw [ha.2] at hc; cases hc) hlow⟩⟩
            unfold Pend
            rw [hwP, hw]
            simp only [hc]
            exact .inr ⟨by simp, v, (readX_congr E (hev v) (.inr rfl)).trans hv, putT_dst nt tm o v⟩
          · cases hx
        ·
          rename_i hc
          split at hx
          · rename_i b f ha
            cases hx
            have hfr : h.get h.n = none := H.fresh h.n (Nat.le_refl _)
            have hnk : ¬ M.K h.n := fun hk => by have := H.kn _ hk; omega
            refine ⟨_, .refl _ _, mk_sim (H.allocX b) (by rw [Hp.n_alloc]; omega) hro hdf (S.mono (.refl M) fun j hj hkj => ⟨hkj, ?_⟩)
              ⟨l, k', fun j => if j = i then h.n else idf j, rfl, hk, D.stepX ho (.alloc b hfr) (by rw [Hp.n_alloc]; omega) (fun j hj => by simp [hj]) ?_ (fun _ => by simp) hlow⟩⟩
            · rw [Hp.get_alloc, if_neg (by omega)]
            · unfold Pend
              rw [hwP, hw]
              simp only [hc]
              exact ⟨b, f, (allocX_congr E (hev _)).trans ha, by simpa using putT_dst nt tm o (f h.n), by simp [Hp.get_alloc], by simpa using hnk, by simpa using hlo, by simp [Hp.n_alloc]⟩
          · cases hx
        ·
          rename_i hc0 hc1
          split at hx
          · rename_i n hn
            have hc2 : cls E o = 2 := by
              have := cls_le E o
              cases hcl : cls E o with
              | zero => exact absurd hcl hc0
              | succ m =>
                cases m with
                | zero => exact absurd hcl hc1
                | succ m => rw [hcl] at this; have : m = 0 := by omega
                            subst this; rfl
            obtain ⟨M', w', l', tmps', St, e, H', K, D', hh⟩ := catch_up (E := E) (b := ⟨fn, tmps, [], df', .run, kd, ro'⟩) (df := df') (k := k') (cs := cs') (Nat.le_refl h.n) l M w tmps H D
            obtain ⟨t, rfl⟩ := D'.same_head (by simp [clsAt, ho, hc2]) hh
            have hok := writeX_sound (ρ := (Act.mk tmps' df').eval) H' (D'.operands H'.glob ho df') hn
            have hd : ∀ cl, o.op = .defer cl → ∃ d, n = .defer d := fun cl ecl => by
              obtain ⟨dst, op, type, pos, after, guard⟩ := o
              simp only at ecl
              subst ecl
              simp only [writeX] at hn
              split at hn
              · cases hn; exact ⟨_, rfl⟩
              · cases hn
            have hsem := sem_at (ρ := (Act.mk tmps' df').eval) (hro.mono e) hx hd
            obtain ⟨m', h1, h2⟩ := next_sim (fr := ⟨fn, nt, tm, .draw ops (i :: rest) :: k, df, .run, kd, ro⟩) (b := ⟨fn, tmps, [], df', .run, kd, ro'⟩) (tmps := tmps') (df := df') (rest := t) (k := k') H' hlo
              ⟨rfl, rfl, hro.mono e, hdf.mono e, trivial, ⟨i, rest, t, k', idf, rfl, rfl, hk.mono e, D'.susp⟩⟩ (S.mono e (KeepFrom.low K hlo)) hx ho (D'.wantedR ho hw) (hsem ▸ hok)
            exact ⟨m', St.trans h1, h2⟩
          · cases hx

end
end Go.X
