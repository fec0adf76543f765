/- The frames of X and of the model: how they stand to each other, and that it stays. Conditions: none. -/
import Derived.Test.YtkmbfjdmbdpflaaXCatch
namespace Go.X

inductive ItRel (M : Mp) : It → Item → Prop
  | code (c) : ItRel M (.code c) (.code c)
  | inBlock (i) : ItRel M (.inBlock i) (.inBlock i)
  | inLoop (c) : ItRel M (.inLoop c) (.inLoop c)
  | inScope (c) : ItRel M (.inScope c) (.inScope c)
  | inRegion (ops l) (h : constsOk ops = true) : ItRel M (.inRegion ops l) (.inRegion ops l)
  | inRangeFunc {l l'} (h : IdRel M l l') : ItRel M (.inRangeFunc l) (.inRangeFunc l')
  | endRangeFunc {l l'} (h : IdRel M l l') : ItRel M (.endRangeFunc l) (.endRangeFunc l')
  | beginRound : ItRel M .beginRound .beginRound

inductive ItsRel (M : Mp) : List It → List Item → Prop
  | nil : ItsRel M [] []
  | cons {x y k k'} (h : ItRel M x y) (t : ItsRel M k k') : ItsRel M (x :: k) (y :: k')

def RoRel (M : Mp) : Option Nat → Option Nat → Prop
  | none, none => True
  | some l, some l' => IdRel M l l'
  | _, _ => False

def ChRel (M : Mp) : List PanicEntry → List PanicEntry → Prop
  | [], [] => True
  | p :: l, p' :: l' => (VRel M p.v p'.v ∧ p'.recovered = p.recovered ∧ p'.goexit = p.goexit) ∧ ChRel M l l'
  | _, _ => False

def MdRel (M : Mp) : FrameMode → FrameMode → Prop
  | .run, .run => True
  | .returning, .returning => True
  | .panicking c, .panicking c' => ChRel M c c'
  | _, _ => False

def slotOf : ResultVar → Nat
  | .tmp t => t
  | .cell t _ => t

section
variable {W : World} {B : Nat → Prop} {E : Env}

def ResRel (E : Env) (M : Mp) (fn : FuncId) (tm : Tr Value) (tmps : Array Value) : Prop :=
  ∀ f, E.fn fn = some f → ∀ r, r ∈ f.results.toList → VRel M (ev tm (.tmp (slotOf r))) (tmps.getD (slotOf r) undef)

/-- A running frame. -/
def Body (E : Env) (M : Mp) (h : Hp) (lo nt : Nat) (tm : Tr Value) (todo : List It) (todo' : List Item) (tmps : Array Value) : Prop :=
  match todo with
  | .draw ops rest :: k => ∃ l k' idf, todo' = .inRegion ops l :: k' ∧ ItsRel M k k' ∧ Draw E M h lo h.n nt tm ops false [] rest l tmps idf
  | .chk ops c rest :: k => ∃ l k' idf, todo' = .inRegion ops l :: k' ∧ ItsRel M k k' ∧ Draw E M h lo h.n nt tm ops false c rest l tmps idf
  | todo => ItsRel M todo todo' ∧ TRel M tm tmps ∧ tmps.size = nt

/-- A frame that waits for a call to come back. -/
def Wait (E : Env) (M : Mp) (h : Hp) (lo hi nt : Nat) (tm : Tr Value) (todo : List It) (todo' : List Item) (tmps : Array Value) : Prop :=
  match todo with
  | .draw ops rest :: k => ∃ i rest' l k' idf, rest = i :: rest' ∧ todo' = .inRegion ops (i :: l) :: k' ∧ ItsRel M k k' ∧ Draw E M h lo hi nt tm ops true (late E ops i rest') (i :: rest') (i :: l) tmps idf
  | .chk _ _ _ :: _ => False
  | todo => ItsRel M todo todo' ∧ TRel M tm tmps ∧ tmps.size = nt

def FrTop (E : Env) (M : Mp) (h : Hp) (lo : Nat) (fr : Fr) (fr' : Frame) : Prop :=
  fr'.fn = fr.fn ∧ fr'.kind = fr.kind ∧ RoRel M fr.ro fr'.roundOf ∧ DsRel M fr.defers fr'.defers ∧ MdRel M fr.mode fr'.mode ∧
    (match fr.mode with
     | .run => Body E M h lo fr.nt fr.tm fr.todo fr'.todo fr'.tmps
     | _ => ResRel E M fr.fn fr.tm fr'.tmps)

def FrWait (E : Env) (M : Mp) (h : Hp) (lo hi : Nat) (fr : Fr) (fr' : Frame) : Prop :=
  fr'.fn = fr.fn ∧ fr'.kind = fr.kind ∧ RoRel M fr.ro fr'.roundOf ∧ DsRel M fr.defers fr'.defers ∧ MdRel M fr.mode fr'.mode ∧
    (match fr.mode with
     | .run => Wait E M h lo hi fr.nt fr.tm fr.todo fr'.todo fr'.tmps
     | _ => ResRel E M fr.fn fr.tm fr'.tmps)

def StackRel (E : Env) (M : Mp) (h : Hp) (cs0 : List Frame) : Nat → List Fr → List Frame → Prop
  | _, [], cs' => cs' = cs0
  | _, _ :: _, [] => False
  | n, c :: cs, c' :: cs' => ∃ lo, lo ≤ n ∧ FrWait E M h lo n c c' ∧ StackRel E M h cs0 lo cs cs'

def Sim (W : World) (B : Nat → Prop) (E : Env) (cs0 : List Frame) (s : St) (m : Machine) : Prop :=
  ∃ M lo fr' cs' w, m = lone fr' cs' w ∧ HRel W B M s.h w ∧ lo ≤ s.h.n ∧ FrTop E M s.h lo s.fr fr' ∧ StackRel E M s.h cs0 lo s.cs cs'

variable {M M' : Mp} {h h' : Hp} {w w' : World} {lo hi hi' nt : Nat} {tm tm2 : Tr Value} {ops : Array Oper} {s : Bool} {c rest l : List Nat} {tmps : Array Value} {idf : Nat → Nat}

theorem ItRel.mono (e : Ev M M') {x : It} {y : Item} (r : ItRel M x y) : ItRel M' x y := by
  cases r with
  | code c => exact .code c
  | inBlock i => exact .inBlock i
  | inLoop c => exact .inLoop c
  | inScope c => exact .inScope c
  | inRegion ops l h => exact .inRegion ops l h
  | inRangeFunc h => exact .inRangeFunc (h.mono e)
  | endRangeFunc h => exact .endRangeFunc (h.mono e)
  | beginRound => exact .beginRound

theorem ItsRel.mono (e : Ev M M') {x : List It} {y : List Item} (r : ItsRel M x y) : ItsRel M' x y := by
  induction r with
  | nil => exact .nil
  | cons h t ih => exact .cons (h.mono e) ih

theorem RoRel.mono (e : Ev M M') {x y : Option Nat} (r : RoRel M x y) : RoRel M' x y := by
  cases x <;> cases y <;> simp only [RoRel] at r ⊢
  exact IdRel.mono e r

theorem ChRel.mono (e : Ev M M') : ∀ {x y : List PanicEntry}, ChRel M x y → ChRel M' x y
  | [], [], _ => trivial
  | [], _ :: _, h => h.elim
  | _ :: _, [], h => h.elim
  | _ :: _, _ :: _, h => ⟨⟨h.1.1.mono e, h.1.2⟩, ChRel.mono e h.2⟩

theorem ChRel.append : ∀ {a b c d : List PanicEntry}, ChRel M a b → ChRel M c d → ChRel M (a ++ c) (b ++ d)
  | [], [], _, _, _, k => k
  | [], _ :: _, _, _, h, _ => h.elim
  | _ :: _, [], _, _, h, _ => h.elim
  | _ :: _, _ :: _, _, _, h, k => ⟨h.1, ChRel.append h.2 k⟩

theorem MdRel.mono (e : Ev M M') {x y : FrameMode} (r : MdRel M x y) : MdRel M' x y := by
  cases x <;> cases y <;> simp only [MdRel] at r ⊢
  exact ChRel.mono e r

theorem ResRel.mono (e : Ev M M') {fn : FuncId} (r : ResRel E M fn tm tmps) : ResRel E M' fn tm tmps := fun f hf x hx => (r f hf x hx).mono e

theorem TRel.res (h : TRel M tm tmps) (fn : FuncId) : ResRel E M fn tm tmps := fun _ _ r _ => h (slotOf r)

/-- What waits, waits on. -/
theorem Draw.mono (D : Draw E M h lo hi nt tm ops true c rest l tmps idf) (e : Ev M M') (hk : ∀ i, lo ≤ i → i < hi → ¬ M.K i → ¬ M'.K i ∧ h'.get i = h.get i) (hh : hi ≤ hi') :
    Draw E M' h' lo hi' nt tm ops true c rest l tmps idf :=
  { D with
    tmp := fun t ht => (D.tmp t ht).mono e
    pend := fun i o hl hr ho => (D.pend i o hl hr ho).congr (fun _ _ => rfl) rfl (fun _ _ => rfl) (fun _ => rfl)
      (fun _ => ⟨fun h => h, fun v hs hv => .inr ⟨hs, (readX_congr E (fun _ _ => rfl) (.inl (hs rfl))).symm.trans hv⟩⟩)
      (fun _ a b k x hx => by obtain ⟨p, q⟩ := hk _ a b k; exact ⟨p, q.trans hx, a, Nat.lt_of_lt_of_le b hh⟩) }

theorem Wait.mono {todo : List It} {todo' : List Item} (R : Wait E M h lo hi nt tm todo todo' tmps) (e : Ev M M') (hk : ∀ i, lo ≤ i → i < hi → ¬ M.K i → ¬ M'.K i ∧ h'.get i = h.get i) (hh : hi ≤ hi') :
    Wait E M' h' lo hi' nt tm todo todo' tmps := by
  unfold Wait at R ⊢
  split at R
  · obtain ⟨i, rest', l, k', idf, h1, h2, h3, h4⟩ := R
    exact ⟨i, rest', l, k', idf, h1, h2, h3.mono e, h4.mono e hk hh⟩
  · exact R.elim
  · exact ⟨R.1.mono e, R.2.1.mono e, R.2.2⟩

theorem FrWait.mono {fr : Fr} {fr' : Frame} (R : FrWait E M h lo hi fr fr') (e : Ev M M') (hk : ∀ i, lo ≤ i → i < hi → ¬ M.K i → ¬ M'.K i ∧ h'.get i = h.get i) (hh : hi ≤ hi') :
    FrWait E M' h' lo hi' fr fr' := by
  obtain ⟨h1, h2, h3, h4, h5, h6⟩ := R
  refine ⟨h1, h2, h3.mono e, h4.mono e, h5.mono e, ?_⟩
  split at h6
  · exact h6.mono e hk hh
  · exact h6.mono e

theorem StackRel.mono {cs0 : List Frame} (e : Ev M M') : ∀ {n : Nat} {cs : List Fr} {cs' : List Frame}, StackRel E M h cs0 n cs cs' → (∀ i, i < n → ¬ M.K i → ¬ M'.K i ∧ h'.get i = h.get i) →
    StackRel E M' h' cs0 n cs cs'
  | _, [], _, R, _ => R
  | _, _ :: _, [], R, _ => R.elim
  | _n, _c :: _cs, _c' :: _cs', ⟨lo, h1, h2, h3⟩, hk =>
    ⟨lo, h1, h2.mono e (fun i _ hi => hk i hi) (Nat.le_refl _), StackRel.mono e h3 fun i hi => hk i (Nat.lt_of_lt_of_le hi h1)⟩

theorem KeepFrom.low {lo : Nat} (k : KeepFrom lo M h M' h') (hl : lo ≤ h.n) : ∀ i, i < lo → ¬ M.K i → ¬ M'.K i ∧ h'.get i = h.get i :=
  fun i hi hk => k.2 i (Nat.lt_of_lt_of_le hi hl) hk (Nat.not_le_of_lt hi)

theorem Body.plain {todo : List It} {todo' : List Item} (a : ItsRel M todo todo') (b : TRel M tm tmps) (c : tmps.size = nt) : Body E M h lo nt tm todo todo' tmps := by
  cases a with
  | nil => exact ⟨.nil, b, c⟩
  | cons x t => cases x <;> exact ⟨.cons (by constructor <;> assumption) t, b, c⟩

theorem Wait.plain {todo : List It} {todo' : List Item} (a : ItsRel M todo todo') (b : TRel M tm tmps) (c : tmps.size = nt) : Wait E M h lo hi nt tm todo todo' tmps := by
  cases a with
  | nil => exact ⟨.nil, b, c⟩
  | cons x t => cases x <;> exact ⟨.cons (by constructor <;> assumption) t, b, c⟩

theorem put_size (tmps : Array Value) (df : List Deferred) (d : Option Tmp) (v : Value) : ((Act.mk tmps df).put d v).tmps.size = tmps.size := by
  cases d <;> simp [Act.put]

theorem put_getD (tmps : Array Value) (df : List Deferred) (d : Option Tmp) (v : Value) (t : Nat) :
    ((Act.mk tmps df).put d v).tmps.getD t undef = if d = some t ∧ t < tmps.size then v else tmps.getD t undef := by
  cases d with
  | none => simp [Act.put]
  | some d =>
    by_cases e : d = t
    · subst e
      by_cases hlt : d < tmps.size
      · simp [Act.put, hlt]
      · simp [Act.put, hlt]
    · simp [Act.put, e, Array.getElem?_setIfInBounds_ne e]

theorem ev_putT (nt : Nat) (tm : Tr Value) (d : Option Nat) (v : Value) (t : Nat) : ev (putT nt tm d v) (.tmp t) = if d = some t ∧ t < nt then v else ev tm (.tmp t) := by
  by_cases e : d = some t ∧ t < nt
  · obtain ⟨e, hlt⟩ := e
    subst e
    rw [if_pos ⟨rfl, hlt⟩]
    simp only [ev, putT]
    rw [get_setT, if_pos ⟨rfl, hlt⟩]
  · rw [if_neg e, putT_ev]
    exact fun hlt he => e ⟨he, hlt⟩

theorem TRel.put (T : TRel M tm tmps) (hs : tmps.size = nt) {v v' : Value} (hv : VRel M v v') (d : Option Nat) (df : List Deferred) : TRel M (putT nt tm d v) ((Act.mk tmps df).put d v').tmps := by
  intro t
  rw [ev_putT, put_getD, hs]
  split
  · exact hv
  · exact T t

/-- The call comes back: the waiting frame goes on. -/
theorem Draw.finish {i : Nat} (D : Draw E M h lo hi nt tm ops true c (i :: rest) (i :: l) tmps idf) {q : Oper} (hq : ops[i]? = some q) {v v' : Value} (hv : VRel M v v') (hh : hi ≤ hi') (df : List Deferred) :
    Draw E M h lo hi' nt (putT nt tm q.dst v) ops false c rest l ((Act.mk tmps df).put q.dst v').tmps idf := by
  obtain ⟨hp, _, hord⟩ := orderOk_head D.ord
  obtain ⟨hir, hnd⟩ := List.nodup_cons.1 D.nd
  obtain ⟨hil, hnd'⟩ := List.nodup_cons.1 D.nd'
  refine ⟨D.eok, D.tok, D.cok, hord, hnd, D.cl.tail hp, D.ord'.2, hnd', D.cl'.tail D.ord'.1, fun j hj => ?_, fun j hj => D.lt j (by simp [hj]), (put_size _ _ _ _).trans D.size, fun t ht => ?_, fun j o hjl hjr ho => ?_, ?_⟩
  · rcases List.mem_cons.1 (D.sub j (by simp [hj])) with rfl | h
    · exact absurd hj hir
    · exact h
  · rw [ev_putT, put_getD, D.size]
    split
    · exact hv
    · rename_i hn
      refine D.tmp t fun hlt j o hj ho => ?_
      rcases List.mem_cons.1 hj with rfl | hj
      · rw [hq] at ho; cases ho; exact fun e => hn ⟨e, hlt⟩
      · exact ht hlt j o hj ho
  · have hji : j ≠ i := fun e => hil (e ▸ hjl)
    have hjr' : j ∉ i :: rest := by simp [hji, hjr]
    obtain ⟨l1, l2, l3⟩ := D.looks ho hjr' hq (by simp)
    exact (D.pend j o (by simp [hjl]) hjr' ho).congr (fun x hx => ev_same fun t et => putT_ev nt tm q.dst v t fun _ => l1 t (et ▸ hx)) (wanted_put D hq l2 v)
      (fun d hd => putT_ev nt tm q.dst v d fun _ => l3 d hd) (fun _ => rfl) (fun _ => ⟨fun h => h, fun u _ hu => .inr ⟨by simp, hu⟩⟩) fun _ a b k x hx => ⟨k, hx, a, Nat.lt_of_lt_of_le b hh⟩
  · intro j k o o' hjl hjr ho ha hkl hkr hk hb heq
    have hji : j ≠ i := fun e => hil (e ▸ hjl)
    have hki : k ≠ i := fun e => hil (e ▸ hkl)
    have hjr' : j ∉ i :: rest := by simp [hji, hjr]
    have hkr' : k ∉ i :: rest := by simp [hki, hkr]
    have w1 := wanted_put D hq (D.looks ho hjr' hq (by simp)).2.1 v
    have w2 := wanted_put D hq (D.looks hk hkr' hq (by simp)).2.1 v
    exact D.inj j k o o' (by simp [hjl]) hjr' ho ⟨w1 ▸ ha.1, ha.2⟩ (by simp [hkl]) hkr' hk ⟨w2 ▸ hb.1, hb.2⟩ heq

theorem finish_sim {fr fr2 : Fr} {fr' : Frame} (R : FrWait E M h lo hi fr fr') {v v' : Value} (hv : VRel M v v') (hf : finishX E fr v = some fr2) (hh : hi ≤ h.n) : FrTop E M h lo fr2 (fr'.finish v') := by
  obtain ⟨fn, nt, tm, todo, df, md, kd, ro⟩ := fr
  obtain ⟨fn', tmps', todo', df', md', kd', ro'⟩ := fr'
  obtain ⟨h1, h2, h3, h4, h5, h6⟩ := R
  simp only at h1 h2 h3 h4 h5 h6
  subst h1; subst h2
  unfold finishX at hf
  split at hf
  · rename_i hmd
    cases hmd
    cases md' <;> simp only [MdRel] at h5
    simp only at h6
    split at hf
    ·
      obtain ⟨h61, h62, h63⟩ := h6
      cases h61 with
      | cons hx ht =>
        cases hx with
        | inRegion _ _ hc =>
          split at hf
          · rename_i o ho
            cases hf
            show FrTop E M h lo _ (Frame.finish (Frame.atR ⟨fn', tmps', [], df', .run, kd', ro'⟩ ⟨tmps', df'⟩ _) v')
            rw [Frame.finish_put _ _ _ _ ho]
            refine ⟨rfl, rfl, h3, ?_, trivial, Body.plain (.cons (.inRegion _ _ hc) ht) (h62.put h63 hv _ _) ((put_size _ _ _ _).trans h63)⟩
            rw [put_defers]; exact h4
          · cases hf
    ·
      obtain ⟨i, rest', l, k', idf, e1, e2, e3, D⟩ := h6
      cases e1
      subst e2
      split at hf
      · rename_i o ho
        cases hf
        show FrTop E M h lo _ (Frame.finish (Frame.atR ⟨fn', tmps', [], df', .run, kd', ro'⟩ ⟨tmps', df'⟩ _) v')
        rw [Frame.finish_put _ _ _ _ ho]
        refine ⟨rfl, rfl, h3, ?_, trivial, l, k', idf, rfl, e3, D.finish ho hv hh df'⟩
        rw [put_defers]; exact h4
      · cases hf
    ·
      cases hf
      obtain ⟨h61, h62, h63⟩ := h6
      cases h61 with
      | cons hx ht =>
        cases hx with
        | inRangeFunc hl => exact ⟨rfl, rfl, h3, h4, trivial, Body.plain (.cons (.endRangeFunc hl) ht) h62 h63⟩
    · cases hf
  · cases hf

end
end Go.X
