/- A step of X's: the model comes to the like. Conditions: none. -/
import Derived.Test.YtkmbfjdmbdpflaaXSim4
import Derived.Defers
namespace Go.X

section
variable {W : World} {B : Nat → Prop} {E : Env} {M M' : Mp} {h h' : Hp} {w w' : World} {lo hi : Nat} {cs0 : List Frame}
variable {fn : FuncId} {nt : Nat} {tm : Tr Value} {todo : List It} {todo' : List Item} {df : List Deferred} {df' : List Deferred} {kd : CallKind} {ro ro' : Option Nat} {tmps : Array Value} {cs : List Fr} {cs' : List Frame} {s' : St}

theorem region_draw {ops : Array Oper} (hc : constsOk ops = true) (hr : regionOk E ops = true) (T : TRel M tm tmps) (hs : tmps.size = nt) (t : Nat) :
    Draw E M h lo hi nt tm ops false [] (canon E ops) (Region.schedule true ops t) tmps id := by
  unfold regionOk at hr
  simp only [Bool.and_eq_true] at hr
  obtain ⟨⟨⟨r1, r2⟩, _⟩, r4⟩ := hr
  unfold orderFits at r4
  simp only [Bool.and_eq_true] at r4
  obtain ⟨⟨⟨q1, q2⟩, q3⟩, q4⟩ := r4
  obtain ⟨s1, s2, s3⟩ := schedule_ok r1 t
  have hall : ∀ i, i < ops.size → i ∈ canon E ops := fun i hi => (memN_iff _ _).1 (List.all_eq_true.1 q4 i (List.mem_range.2 hi))
  have hlt : ∀ i, i ∈ canon E ops → i < ops.size := fun i hi => (blt_iff _ _).1 (List.all_eq_true.1 q3 i hi)
  exact ⟨r1, r2, hc, q1, (nodupN_iff _).1 q2, fun i hi hn => absurd (hall i hi) hn, s2, s1, fun i hi hn => absurd ((s3 i).2 hi) hn, fun i hi => (s3 i).2 (hlt i hi), fun i hi => (s3 i).1 hi, hs, fun t _ => T t,
    fun i o hi hn _ => absurd (hall i ((s3 i).1 hi)) hn, fun i j o q hi hn _ _ _ _ _ _ _ => absurd (hall i ((s3 i).1 hi)) hn⟩

set_option maxHeartbeats 1000000 in
theorem code_sim (hm : E.P.follows .mixedOrders = true) (H : HRel W B M h w) (hlo : lo ≤ h.n) (hro : RoRel M ro ro') (hdf : DsRel M df df') (S : StackRel E M h cs0 lo cs cs') {c : Code} {k : List It} {k' : List Item}
    (hk : ItsRel M k k') (T : TRel M tm tmps) (hs : tmps.size = nt) (hx : execX E fn nt tm (.code c :: k) df kd ro cs h = some s') :
    ∃ m', Steps E.P (lone (Frame.atR ⟨fn, tmps, [], df', .run, kd, ro'⟩ ⟨tmps, df'⟩ (.code c :: k')) cs' w) m' ∧ Sim W B E cs0 s' m' := by
  cases c with
  | skip =>
    simp only [execX] at hx; cases hx
    exact ⟨_, .one stepR_skip, mk_sim H hlo hro hdf S (.plain hk T hs)⟩
  | label l =>
    simp only [execX] at hx; cases hx
    exact ⟨_, .one stepR_label, mk_sim H hlo hro hdf S (.plain hk T hs)⟩
  | ret =>
    simp only [execX] at hx
    refine leave_sim (todo' := .code .ret :: k') H hlo hro hdf S T hx (fun e _ => by subst e; exact stepR_ret rfl) (fun l' v w' c cs2 e1 e2 e3 hr => by subst e1; subst e2; subst e3; exact stepR_round_ret rfl rfl hr)
  | seq x y =>
    simp only [execX] at hx; cases hx
    exact ⟨_, .one stepR_seq, mk_sim H hlo hro hdf S (.plain (.cons (.code x) (.cons (.code y) hk)) T hs)⟩
  | cond c x y =>
    simp only [execX] at hx
    split at hx
    · rename_i t ht
      cases hx
      have hv : (Act.mk tmps df').eval c = .bool t := by
        cases c with
        | tmp u => have := T u; rw [ht] at this; generalize hq : (Act.mk tmps df').eval (.tmp u) = q; simp only [Act.eval] at hq; rw [hq] at this; cases this; rfl
        | const v => exact ht
        | global g => simp [ev] at ht
        | func f => simp [ev] at ht
      refine ⟨_, .one (stepR_cond hv), mk_sim H hlo hro hdf S ?_⟩
      cases t
      · exact .plain (.cons (.code y) hk) T hs
      · exact .plain (.cons (.code x) hk) T hs
    · cases hx
  | block id x =>
    simp only [execX] at hx; cases hx
    exact ⟨_, .one stepR_block, mk_sim H hlo hro hdf S (.plain (.cons (.code x) (.cons (.inBlock id) hk)) T hs)⟩
  | loop x =>
    simp only [execX] at hx; cases hx
    exact ⟨_, .one stepR_loop, mk_sim H hlo hro hdf S (.plain (.cons (.code x) (.cons (.inLoop x) hk)) T hs)⟩
  | scope x =>
    simp only [execX] at hx; cases hx
    exact ⟨_, .one stepR_scope, mk_sim H hlo hro hdf S (.plain (.cons (.code x) (.cons (.inScope x) hk)) T hs)⟩
  | exit id =>
    simp only [execX] at hx
    rcases exit_rel id hk with ⟨e1, e2⟩ | ⟨k1, k1', e1, e2, hk1⟩
    · rw [e1] at hx
      refine leave_sim (todo' := .code (.exit id) :: k') H hlo hro hdf S T hx (fun _ hj => by rcases hj with hj | hj <;> cases hj) (fun l' v w' c cs2 g1 g2 g3 hr => by subst g1; subst g2; subst g3; exact stepR_round_exit rfl rfl e2 hr)
    · rw [e1] at hx; cases hx
      exact ⟨_, .one (stepR_exit e2), mk_sim H hlo hro hdf S (.plain hk1 T hs)⟩
  | goto l =>
    simp only [execX] at hx
    rcases goto_rel l hk with ⟨e1, e2⟩ | ⟨k1, k1', e1, e2, hk1⟩
    · rw [e1] at hx
      refine leave_sim (todo' := .code (.goto l) :: k') H hlo hro hdf S T hx (fun _ hj => by rcases hj with hj | hj <;> cases hj) (fun l' v w' c cs2 g1 g2 g3 hr => by subst g1; subst g2; subst g3; exact stepR_round_goto rfl rfl e2 hr)
    · rw [e1] at hx; cases hx
      exact ⟨_, .one (stepR_goto e2), mk_sim H hlo hro hdf S (.plain hk1 T hs)⟩
  | rangeFunc f ps x y =>
    simp only [execX] at hx
    cases ro with
    | none =>
      cases ro' with
      | some z => exact hro.elim
      | none =>
        simp only at hx
        have hnk : ¬ M.K h.n := fun hk => by have := H.kn _ hk; omega
        obtain ⟨H1, e1, K1⟩ := newBlock H (o := .deferred (some [])) (x := .deferred (some [])) (S := 0) (m := 0) ⟨rfl, [], rfl, trivial⟩
        have hid : IdRel (M.add h.n w.heap.size 0 0 0) h.n w.heap.size := ⟨.inl rfl, fun b δ S hb => by simp [Mp.add] at hb; exact hb.1⟩
        refine range_sim (lo := lo) (ro := none) (ro' := none) H1 (Nat.le_trans hlo K1.1) trivial (mark := [{ target := .collected h.n, args := #[] }]) (df := df) (mark' := [{ target := .collected w.heap.size, args := #[] }]) (df' := df') ⟨⟨hid, .nil _⟩, hdf.mono e1⟩ (S.mono e1 fun i hi => K1.all i (Nat.lt_of_lt_of_le hi hlo)) (T.mono e1) hs (hk.mono e1) hid hx fun l w2 hl => ?_
        simp only [run_newObj] at hl
        cases hl
        simp [Instr.enterLoop]
        rfl
    | some o =>
      cases ro' with
      | none => exact hro.elim
      | some o' =>
        simp only at hx
        split at hx
        · cases hx
        · rename_i r hl
          obtain ⟨S0, r', hρ, hxo, he, hget⟩ := loop_place (E := E) H hro hl
          have hdr := he.2.2.2.2.2.2.2.2
          refine range_sim (lo := lo) H hlo hro (mark := []) (df := df) (mark' := []) (df' := df') hdf S T hs hk hdr hx fun l w2 hl => ?_
          simp only [run_newObj] at hl
          cases hl
          simp [Instr.enterLoop, hget]
  | region id ops draw =>
    simp only [execX] at hx
    cases hc : constsOk ops with
    | false => rw [hc, cond_false] at hx; cases hx
    | true =>
      rw [hc, cond_true] at hx
      cases draw with
      | false =>
        rw [cond_false] at hx; cases hx
        exact ⟨_, .one stepR_region, mk_sim H hlo hro hdf S (.plain (.cons (.inRegion ops _ hc) hk) T hs)⟩
      | true =>
        rw [cond_true] at hx
        cases hr : regionOk E ops with
        | false => rw [hr, cond_false] at hx; cases hx
        | true =>
          rw [hr, cond_true] at hx; cases hx
          have hst := stepR_region_draw (P := E.P) (b := ⟨fn, tmps, [], df', .run, kd, ro'⟩) (a := ⟨tmps, df'⟩) (k := k') (cs := cs') (w := w) (ops := ops) (id := id)
          rw [hm] at hst
          exact ⟨_, .one hst, mk_sim (World.drew_HRel H (w.drawn + 1)) hlo hro hdf S ⟨_, k', _root_.id, rfl, hk, region_draw hc hr T hs _⟩⟩
  | refuse y => simp only [execX] at hx; cases hx

set_option maxHeartbeats 1000000 in
theorem exec_sim (hm : E.P.follows .mixedOrders = true) (H : HRel W B M h w) (hlo : lo ≤ h.n) (hro : RoRel M ro ro') (hdf : DsRel M df df') (S : StackRel E M h cs0 lo cs cs')
    (hb : Body E M h lo nt tm todo todo' tmps) (hx : execX E fn nt tm todo df kd ro cs h = some s') :
    ∃ m', Steps E.P (lone (Frame.atR ⟨fn, tmps, [], df', .run, kd, ro'⟩ ⟨tmps, df'⟩ todo') cs' w) m' ∧ Sim W B E cs0 s' m' := by
  cases todo with
  | nil =>
    obtain ⟨hk, T, hs⟩ := hb
    cases hk
    simp only [execX] at hx
    refine leave_sim (todo' := []) H hlo hro hdf S T hx (fun e _ => by subst e; exact stepR_end rfl) (fun l' v w' c cs2 e1 e2 e3 hr => by subst e1; subst e2; subst e3; exact stepR_round_end rfl rfl hr)
  | cons it k =>
    cases it with
    | code c =>
      obtain ⟨hk, T, hs⟩ := hb
      cases hk with
      | cons hi ht => cases hi; exact code_sim hm H hlo hro hdf S ht T hs hx
    | inBlock i =>
      obtain ⟨hk, T, hs⟩ := hb
      cases hk with
      | cons hi ht =>
        cases hi
        simp only [execX] at hx; cases hx
        exact ⟨_, .one stepR_inBlock, mk_sim H hlo hro hdf S (.plain ht T hs)⟩
    | inScope c =>
      obtain ⟨hk, T, hs⟩ := hb
      cases hk with
      | cons hi ht =>
        cases hi
        simp only [execX] at hx; cases hx
        exact ⟨_, .one stepR_inScope, mk_sim H hlo hro hdf S (.plain ht T hs)⟩
    | inLoop c =>
      obtain ⟨hk, T, hs⟩ := hb
      cases hk with
      | cons hi ht =>
        cases hi
        simp only [execX] at hx; cases hx
        exact ⟨_, .one stepR_inLoop, mk_sim H hlo hro hdf S (.plain (.cons (.code c) (.cons (.inLoop c) ht)) T hs)⟩
    | inRegion ops l =>
      obtain ⟨hk, T, hs⟩ := hb
      cases hk with
      | cons hi ht =>
        cases hi with
        | inRegion _ _ hc => exact region_sim H hlo hro hdf S hc ht T hs hx
    | draw ops rest =>
      obtain ⟨l, k', idf, rfl, hk, D⟩ := hb
      exact draw_sim H hlo hro hdf S hk D hx
    | chk ops c rest =>
      obtain ⟨l, k', idf, rfl, hk, D⟩ := hb
      simp only [execX] at hx
      split at hx
      · cases hx
        exact ⟨_, .refl _ _, mk_sim H hlo hro hdf S ⟨l, k', idf, rfl, hk, D⟩⟩
      · rename_i i c
        cases ha : againX E tm h ops i with
        | false => rw [ha, cond_false] at hx; cases hx
        | true =>
          rw [ha, cond_true] at hx; cases hx
          exact ⟨_, .refl _ _, mk_sim H hlo hro hdf S ⟨l, k', idf, rfl, hk, D.again ha⟩⟩
    | inRangeFunc l => simp only [execX] at hx; cases hx
    | beginRound =>
      obtain ⟨hk, T, hs⟩ := hb
      cases hk with
      | cons hi ht =>
        cases hi
        simp only [execX] at hx
        cases ro with
        | none => cases hx
        | some l =>
          cases ro' with
          | none => exact hro.elim
          | some l' =>
            simp only at hx
            split at hx
            · rename_i p f n t ps x y d hl
              cases hx
              obtain ⟨r', w', he, hget, h1, h2, h3⟩ := loop_set (E := E) (r2 := ⟨.busy, p, f, n, t, ps, x, y, d⟩) H hro hl (fun r => { r with state := .busy }) (fun r' ⟨_, q⟩ => ⟨rfl, q⟩)
              have hst : r'.state = .ready := he.1
              refine ⟨_, .one (stepR_beginRound (w' := w') rfl ?_), mk_sim h2 (Nat.le_trans hlo h3.1) hro hdf (S.mono (.refl M) fun i hi => h3.all i (Nat.lt_of_lt_of_le hi hlo)) (.plain ht T hs)⟩
              simp [Instr.beginRound, hget, h1, hst]
            · cases hx
    | endRangeFunc l =>
      obtain ⟨hk, T, hs⟩ := hb
      cases hk with
      | cons hi ht =>
        cases hi with
        | endRangeFunc hl' =>
          rename_i l' 
          simp only [execX] at hx
          split at hx
          · cases hx
          · rename_i st p f n t ps x y d hnb hl
            cases hx
            obtain ⟨r', w', he, hget, h1, h2, h3⟩ := loop_set (E := E) (r2 := ⟨.exhausted, p, f, n, t, ps, x, y, d⟩) H hl' hl (fun r => { r with state := .exhausted }) (fun r' ⟨_, q⟩ => ⟨rfl, q⟩)
            have hst : r'.state ≠ LoopState.busy := by rw [he.1]; exact hnb
            have hp : r'.pending = p := he.2.1
            have hrun : (Instr.endLoop l').run E.P w = .ok p w' := by subst hp; simp [Instr.endLoop, hget, h1, hst]
            refine ⟨_, .one (stepR_endRangeFunc hrun), mk_sim h2 (Nat.le_trans hlo h3.1) hro hdf (S.mono (.refl M) fun i hi => h3.all i (Nat.lt_of_lt_of_le hi hlo)) ?_⟩
            cases p with
            | none => exact .plain ht T hs
            | some c => exact .plain (.cons (.code c) ht) T hs
          · cases hx

end
end Go.X
