/- Regions whose order is open: X is ahead of the model; what X has done and the model hasn't is known. Conditions: none. -/
import Derived.Test.YtkmbfjdmbdpflaaXOrd
import Derived.Test.YtkmbfjdmbdpflaaXCongr
import Derived.Test.YtkmbfjdmbdpflaaXMono
import Derived.Test.YtkmbfjdmbdpflaaXRead6
import Derived.Test.YtkmbfjdmbdpflaaXAlloc
import Derived.AtR
namespace Go.X

section
variable {W : World} {B : Nat → Prop} {E : Env}

/-- X has laid it into the operation's slot. -/
def DstIs (nt : Nat) (tm : Tr Value) (o : Oper) (v : Value) : Prop := ∀ d, o.dst = some d → d < nt → ev tm (.tmp d) = v

/-- What X has done ahead of the model: skipped; read; made a block that nobody knows yet. c: the reads that are still to be made again; s: the memory may change. -/
def Pend (E : Env) (M : Mp) (h : Hp) (lo hi nt : Nat) (tm : Tr Value) (ops : Array Oper) (s : Bool) (c : List Nat) (idf : Nat → Nat) (i : Nat) (o : Oper) : Prop :=
  match wantedX ops tm o with
  | none => False
  | some false => DstIs nt tm o undef
  | some true => match cls E o with
    | 0 => i ∈ c ∨ ((s = true → isPure o = true) ∧ ∃ v, readX E tm o h = some v ∧ DstIs nt tm o v)
    | 1 => ∃ b f, allocX E tm o = some (b, f) ∧ DstIs nt tm o (f (idf i)) ∧ h.get (idf i) = some b ∧ ¬ M.K (idf i) ∧ lo ≤ idf i ∧ idf i < hi
    | _ => False

def allocP (E : Env) (tm : Tr Value) (ops : Array Oper) (o : Oper) : Prop := wantedX ops tm o = some true ∧ cls E o = 1

structure Draw (E : Env) (M : Mp) (h : Hp) (lo hi nt : Nat) (tm : Tr Value) (ops : Array Oper) (s : Bool) (c rest l : List Nat) (tmps : Array Value) (idf : Nat → Nat) : Prop where
  eok : edgesOk ops = true
  tok : tmpsOk ops = true
  cok : constsOk ops = true
  ord : orderOk E ops rest = true
  nd : rest.Nodup
  cl : Closed ops rest
  ord' : OrdOk ops l
  nd' : l.Nodup
  cl' : Closed ops l
  sub : ∀ i, i ∈ rest → i ∈ l
  lt : ∀ i, i ∈ l → i < ops.size
  size : tmps.size = nt
  tmp : ∀ t, (t < nt → ∀ i o, i ∈ l → ops[i]? = some o → o.dst ≠ some t) → VRel M (ev tm (.tmp t)) (tmps.getD t undef)
  pend : ∀ i o, i ∈ l → i ∉ rest → ops[i]? = some o → Pend E M h lo hi nt tm ops s c idf i o
  inj : ∀ i j o q, i ∈ l → i ∉ rest → ops[i]? = some o → allocP E tm ops o → j ∈ l → j ∉ rest → ops[j]? = some q → allocP E tm ops q → idf i = idf j → i = j

variable {M M' : Mp} {h h' : Hp} {w w' : World} {lo hi hi' nt : Nat} {tm tm2 : Tr Value} {ops : Array Oper} {s : Bool} {c rest l : List Nat} {tmps : Array Value} {idf : Nat → Nat}

theorem wantedX_congr {o : Oper} (hg : ∀ g b og d, o.guard = some (g, b) → ops[g]? = some og → og.dst = some d → tm.get d = tm2.get d) : wantedX ops tm o = wantedX ops tm2 o := by
  unfold wantedX
  cases hgd : o.guard with
  | none => rfl
  | some gb =>
    obtain ⟨g, b⟩ := gb
    simp only
    cases hog : ops[g]? with
    | none => rfl
    | some og =>
      simp only
      cases hd : og.dst with
      | none => rfl
      | some d => simp only; rw [hg g b og d hgd hog hd]

theorem putT_get (nt : Nat) (tm : Tr Value) (d : Option Nat) (v : Value) (t : Nat) (h : t < nt → d ≠ some t) : (putT nt tm d v).get t = tm.get t := by
  cases d with
  | none => rfl
  | some d => rw [putT, get_setT, if_neg (by rintro ⟨rfl, hlt⟩; exact h hlt rfl)]

theorem putT_ev (nt : Nat) (tm : Tr Value) (d : Option Nat) (v : Value) (t : Nat) (h : t < nt → d ≠ some t) : ev (putT nt tm d v) (.tmp t) = ev tm (.tmp t) := by
  simp only [ev]; rw [putT_get nt tm d v t h]

theorem putT_dst (nt : Nat) (tm : Tr Value) (o : Oper) (v : Value) : DstIs nt (putT nt tm o.dst v) o v := by
  intro d hd hlt
  simp only [ev, hd, putT]
  rw [get_setT, if_pos ⟨rfl, hlt⟩]

/-- The slots that an operation done by X looks at are laid by what X has done. -/
theorem Draw.looks (D : Draw E M h lo hi nt tm ops s c rest l tmps idf) {i j : Nat} {o q : Oper} (ho : ops[i]? = some o) (hir : i ∉ rest) (hq : ops[j]? = some q) (hj : j ∈ rest) :
    (∀ t, Operand.tmp t ∈ o.op.operands → q.dst ≠ some t) ∧ (∀ g b, o.guard = some (g, b) → g ≠ j) ∧ ∀ d, o.dst = some d → q.dst ≠ some d := by
  have hlt := (Array.getElem?_eq_some_iff.1 ho).1
  obtain ⟨h1, h2, h3⟩ := tmpsOk_spec D.tok ho hq
  refine ⟨fun t ht e => ahead_out D.eok D.cl (h2 t ht e) hlt hir hj, fun g b hg e => ?_, h1 fun e => hir (e ▸ hj)⟩
  subst e
  exact ahead_out D.eok D.cl (h3 _ b hg) hlt hir hj

/-- So are those of the one that X does next. -/
theorem Draw.looksX {j : Nat} (D : Draw E M h lo hi nt tm ops s c (j :: rest) l tmps idf) {q : Oper} (hq : ops[j]? = some q) :
    (∀ t, Operand.tmp t ∈ q.op.operands → q.dst ≠ some t) ∧ (∀ g b, q.guard = some (g, b) → g ≠ j) := by
  have hlt := (Array.getElem?_eq_some_iff.1 hq).1
  obtain ⟨h1, h2, h3⟩ := tmpsOk_spec D.tok hq hq
  have hp := (orderOk_head D.ord).1
  refine ⟨fun t ht e => ahead_head D.eok D.cl hp (h2 t ht e) hlt (by simp), fun g b hg e => ?_⟩
  subst e
  exact ahead_head D.eok D.cl hp (h3 _ b hg) hlt (by simp)

/-- And of the one that the model does next. -/
theorem Draw.looksR {p : Nat} (D : Draw E M h lo hi nt tm ops s c rest (p :: l) tmps idf) {o : Oper} (ho : ops[p]? = some o) {j : Nat} {q : Oper} (hq : ops[j]? = some q) (hj : j ∈ p :: l) :
    (∀ t, Operand.tmp t ∈ o.op.operands → q.dst ≠ some t) ∧ (∀ g b, o.guard = some (g, b) → g ≠ j) := by
  have hlt := (Array.getElem?_eq_some_iff.1 ho).1
  obtain ⟨h1, h2, h3⟩ := tmpsOk_spec D.tok ho hq
  refine ⟨fun t ht e => ahead_head D.eok D.cl' D.ord'.1 (h2 t ht e) hlt hj, fun g b hg e => ?_⟩
  subst e
  exact ahead_head D.eok D.cl' D.ord'.1 (h3 _ b hg) hlt hj

/-- What had been done stays so. -/
theorem Pend.congr {i : Nat} {o : Oper} (P : Pend E M h lo hi nt tm ops s c idf i o) {idf' : Nat → Nat} {lo' : Nat} {c' : List Nat} {s' : Bool}
    (he : ∀ x, x ∈ o.op.operands → ev tm2 x = ev tm x)
    (hg : wantedX ops tm2 o = wantedX ops tm o) (hd : ∀ d, o.dst = some d → ev tm2 (.tmp d) = ev tm (.tmp d)) (hid : allocP E tm ops o → idf' i = idf i)
    (hr : cls E o = 0 → (i ∈ c → i ∈ c') ∧ ∀ v, (s = true → isPure o = true) → readX E tm2 o h = some v → i ∈ c' ∨ ((s' = true → isPure o = true) ∧ readX E tm2 o h' = some v))
    (hK : allocP E tm ops o → lo ≤ idf i → idf i < hi → ¬ M.K (idf i) → ∀ b, h.get (idf i) = some b → ¬ M'.K (idf i) ∧ h'.get (idf i) = some b ∧ lo' ≤ idf i ∧ idf i < hi') :
    Pend E M' h' lo' hi' nt tm2 ops s' c' idf' i o := by
  have hD : ∀ v, DstIs nt tm o v → DstIs nt tm2 o v := fun v hv d hd' hlt => (hd d hd').trans (hv d hd' hlt)
  unfold Pend at P ⊢
  rw [hg]
  cases hw : wantedX ops tm o with
  | none => rw [hw] at P; exact P
  | some b =>
    rw [hw] at P
    cases b with
    | false => exact hD _ P
    | true =>
      simp only at P ⊢
      cases hc : cls E o with
      | zero =>
        rw [hc] at P
        simp only at P ⊢
        obtain ⟨hr1, hr2⟩ := hr hc
        rcases P with P | ⟨P1, v, P2, P3⟩
        · exact .inl (hr1 P)
        · rcases hr2 v P1 ((readX_congr E he (.inr rfl)).trans P2) with hr2 | ⟨a, b⟩
          · exact .inl hr2
          · exact .inr ⟨a, v, b, hD v P3⟩
      | succ n =>
        cases n with
        | zero =>
          rw [hc] at P
          simp only at P ⊢
          obtain ⟨b, f, p1, p2, p3, p4, p5, p6⟩ := P
          obtain ⟨q1, q2, q3, q4⟩ := hK ⟨hw, hc⟩ p5 p6 p4 b p3
          have hid' := hid ⟨hw, hc⟩
          exact ⟨b, f, (allocX_congr E he).trans p1, by rw [hid']; exact hD _ p2, by rw [hid']; exact q2, by rw [hid']; exact q1, by rw [hid']; exact q3, by rw [hid']; exact q4⟩
        | succ n => rw [hc] at P; exact P

theorem wanted_put (D : Draw E M h lo hi nt tm ops s c rest l tmps idf) {j : Nat} {q o : Oper} (hq : ops[j]? = some q) (hg : ∀ g b, o.guard = some (g, b) → g ≠ j) (v : Value) :
    wantedX ops (putT nt tm q.dst v) o = wantedX ops tm o := by
  refine wantedX_congr fun g b og d hgd hog hd => putT_get nt tm q.dst v d fun _ e => ?_
  exact (tmpsOk_spec D.tok hog hq).1 (hg g b hgd) d hd e

/-- X goes one step ahead. -/
theorem Draw.stepX {j : Nat} (D : Draw E M h lo hi nt tm ops false [] (j :: rest) l tmps idf) {q : Oper} (hq : ops[j]? = some q) {v : Value} (L : HLe h h') (hhi : hi ≤ hi') {idf' : Nat → Nat}
    (hid : ∀ i, i ≠ j → idf' i = idf i) (P : Pend E M h' lo hi' nt (putT nt tm q.dst v) ops false [] idf' j q) (hfr : allocP E tm ops q → hi ≤ idf' j)
    (hlow : ∀ i o, i ∈ l → i ∉ j :: rest → ops[i]? = some o → allocP E tm ops o → idf i < hi) :
    Draw E M h' lo hi' nt (putT nt tm q.dst v) ops false [] rest l tmps idf' := by
  obtain ⟨hp, _, hord⟩ := orderOk_head D.ord
  have hjr : j ∉ rest := (List.nodup_cons.1 D.nd).1
  have hw : ∀ i o, i ∉ j :: rest → ops[i]? = some o → wantedX ops (putT nt tm q.dst v) o = wantedX ops tm o := fun i o hi ho =>
    wanted_put D hq (D.looks ho hi hq (by simp)).2.1 v
  have hwj : wantedX ops (putT nt tm q.dst v) q = wantedX ops tm q := wanted_put D hq (D.looksX hq).2 v
  refine ⟨D.eok, D.tok, D.cok, hord, (List.nodup_cons.1 D.nd).2, D.cl.tail hp, D.ord', D.nd', D.cl', fun i hi => D.sub i (by simp [hi]), D.lt, D.size, fun t ht => ?_, fun i o hil hir ho => ?_, ?_⟩
  · rw [putT_ev nt tm q.dst v t fun hlt => ht hlt j q (D.sub j (by simp)) hq]
    exact D.tmp t ht
  · by_cases e : i = j
    · subst e; rw [hq] at ho; cases ho; exact P
    · have hir' : i ∉ j :: rest := by simp [e, hir]
      obtain ⟨l1, l2, l3⟩ := D.looks ho hir' hq (by simp)
      refine (D.pend i o hil hir' ho).congr (fun x hx => ev_same fun t et => putT_ev nt tm q.dst v t fun _ => l1 t (et ▸ hx)) (hw i o hir' ho)
        (fun d hd => putT_ev nt tm q.dst v d fun _ => l3 d hd) (fun _ => hid i e) (fun _ => ⟨fun h => h, fun u _ hu => .inr ⟨by simp, readX_mono L hu⟩⟩) fun _ a b c' x hx => ⟨c', L _ _ hx, a, Nat.lt_of_lt_of_le b hhi⟩
  · intro i k o o' hil hir ho hai hkl hkr hk hak heq
    by_cases e : i = j <;> by_cases e' : k = j
    · rw [e, e']
    · subst e
      rw [hq] at ho; cases ho
      have hkr' : k ∉ i :: rest := by simp [e', hkr]
      have := hlow k o' hkl hkr' hk ⟨(hw k o' hkr' hk) ▸ hak.1, hak.2⟩
      have h2 := hfr ⟨hwj ▸ hai.1, hai.2⟩
      rw [heq, hid k e'] at h2; omega
    · subst e'
      rw [hq] at hk; cases hk
      have hir' : i ∉ k :: rest := by simp [e, hir]
      have := hlow i o hil hir' ho ⟨(hw i o hir' ho) ▸ hai.1, hai.2⟩
      have h2 := hfr ⟨hwj ▸ hak.1, hak.2⟩
      rw [← heq, hid i e] at h2; omega
    · have hir' : i ∉ j :: rest := by simp [e, hir]
      have hkr' : k ∉ j :: rest := by simp [e', hkr]
      rw [hid i e, hid k e'] at heq
      exact D.inj i k o o' hil hir' ho ⟨(hw i o hir' ho) ▸ hai.1, hai.2⟩ hkl hkr' hk ⟨(hw k o' hkr' hk) ▸ hak.1, hak.2⟩ heq

theorem Pend.range {i : Nat} {o : Oper} (P : Pend E M h lo hi nt tm ops s c idf i o) (ha : allocP E tm ops o) : ¬ M.K (idf i) ∧ lo ≤ idf i ∧ idf i < hi := by
  unfold Pend at P
  rw [ha.1] at P
  simp only [ha.2] at P
  obtain ⟨b, f, _, _, _, p4, p5, p6⟩ := P
  exact ⟨p4, p5, p6⟩

/-- The model does one that X had done. -/
theorem Draw.stepR {p : Nat} (D : Draw E M h lo hi nt tm ops s c rest (p :: l) tmps idf) (hp : p ∉ rest) {o : Oper} (ho : ops[p]? = some o) (e : Ev M M') {v v' : Value} (hv : DstIs nt tm o v)
    (hvr : VRel M' v v') (hK : ∀ i, lo ≤ i → i < hi → ¬ M.K i → (allocP E tm ops o → i ≠ idf p) → ¬ M'.K i) (df : List Deferred) :
    Draw E M' h lo hi nt tm ops s c rest l ((Act.mk tmps df).put o.dst v').tmps idf := by
  obtain ⟨hpl, hnd⟩ := List.nodup_cons.1 D.nd'
  have hsz : ((Act.mk tmps df).put o.dst v').tmps.size = tmps.size := by
    unfold Act.put; cases o.dst <;> simp
  refine ⟨D.eok, D.tok, D.cok, D.ord, D.nd, D.cl, D.ord'.2, hnd, D.cl'.tail D.ord'.1, fun i hi => ?_, fun i hi => D.lt i (by simp [hi]), hsz.trans D.size, fun t ht => ?_, fun i q hil hir hq => ?_, ?_⟩
  · rcases List.mem_cons.1 (D.sub i hi) with rfl | h
    · exact absurd hi hp
    · exact h
  · by_cases hd : t < nt ∧ o.dst = some t
    · obtain ⟨hlt, hd⟩ := hd
      have : ((Act.mk tmps df).put o.dst v').tmps.getD t undef = v' := by
        simp [Act.put, hd, D.size, hlt]
      rw [this, hv t hd hlt]; exact hvr
    · have : ((Act.mk tmps df).put o.dst v').tmps.getD t undef = tmps.getD t undef := by
        unfold Act.put
        cases hod : o.dst with
        | none => rfl
        | some d =>
          by_cases edt : d = t
          · subst edt
            have : ¬ d < nt := fun h => hd ⟨h, hod⟩
            rw [← D.size] at this
            simp [Array.getElem?_eq_none (Nat.le_of_not_lt this)]
            intro hx; exact absurd hx this
          · simp [Array.getElem?_setIfInBounds_ne edt]
      rw [this]
      refine (D.tmp t fun hlt i q hi hq => ?_).mono e
      rcases List.mem_cons.1 hi with rfl | h
      · rw [ho] at hq; cases hq; exact fun h => hd ⟨hlt, h⟩
      · exact ht hlt i q h hq
  · have hil' : i ∈ p :: l := by simp [hil]
    refine (D.pend i q hil' hir hq).congr (fun _ _ => rfl) rfl (fun _ _ => rfl) (fun _ => rfl) (fun _ => ⟨fun h => h, fun u hs hu => .inr ⟨hs, hu⟩⟩) fun ha a b k x hx => ⟨hK _ a b k fun hap heq => ?_, hx, a, b⟩
    have := D.inj i p q o hil' hir hq ha (by simp) hp ho hap heq
    subst this; exact hpl hil
  · exact fun i k q q' hil hir hq ha hkl hkr hk hb heq => D.inj i k q q' (by simp [hil]) hir hq ha (by simp [hkl]) hkr hk hb heq

/-- The operands of the one that the model does next. -/
theorem Draw.operands {p : Nat} (D : Draw E M h lo hi nt tm ops s c rest (p :: l) tmps idf) (hG : Gl M) {o : Oper} (ho : ops[p]? = some o) (df : List Deferred) :
    ∀ x, x ∈ o.op.operands → VRel M (ev tm x) ((Act.mk tmps df).eval x) := by
  intro x hx
  cases x with
  | tmp t => exact D.tmp t fun _ i q hi hq => (D.looksR ho hq hi).1 t hx
  | const v =>
    have h1 := List.all_eq_true.1 D.cok o (by rw [Array.mem_toList_iff]; exact Array.mem_of_getElem? ho)
    exact plain_rel M 20 v (List.all_eq_true.1 h1 (.const v) (by simpa using hx))
  | global g =>
    have h1 := List.all_eq_true.1 D.cok o (by rw [Array.mem_toList_iff]; exact Array.mem_of_getElem? ho)
    exact hG.ptr (List.all_eq_true.1 h1 (.global g) (by simpa using hx))
  | func f => exact .func' (f := .func f) (f' := .func f) rfl (.nil M) (.nil M)

theorem Draw.wantedR {p : Nat} (D : Draw E M h lo hi nt tm ops s c rest (p :: l) tmps idf) {o : Oper} (ho : ops[p]? = some o) {b : Bool} (hw : wantedX ops tm o = some b) :
    Region.wanted o (yielded ops tmps) = b := by
  unfold wantedX at hw
  unfold Region.wanted
  cases hg : o.guard with
  | none => rw [hg] at hw; cases hw; rfl
  | some gb =>
    obtain ⟨g, want⟩ := gb
    rw [hg] at hw
    simp only at hw ⊢
    unfold yielded
    cases hog : ops[g]? with
    | none => rw [hog] at hw; cases hw
    | some og =>
      rw [hog] at hw
      simp only at hw
      cases hd : og.dst with
      | none => rw [hd] at hw; cases hw
      | some d =>
        rw [hd] at hw
        simp only at hw
        have hrel := D.tmp d fun _ i q hi hq e => by
          have hne := (D.looksR ho hq hi).2 g want hg
          exact (tmpsOk_spec D.tok hog hq).1 hne d hd e
        simp only [ev] at hrel
        simp only [Option.bind_some, hd]
        split at hw
        · rename_i x hx
          cases hw
          rw [hx] at hrel
          simp only at hrel
          generalize hy : tmps.getD d undef = y at hrel
          cases hrel
          have : tmps[d]? = some (.bool x) := by
            cases ht : tmps[d]? with
            | none => simp [ht, undef] at hy
            | some z => simp [ht] at hy; rw [hy]
          simp only [this]
          cases x <;> cases want <;> rfl
        · rename_i x hx
          cases hw
          rw [hx] at hrel
          simp only at hrel
          generalize hy : tmps.getD d undef = y at hrel
          cases hrel
          cases ht : tmps[d]? with
          | none => cases want <;> rfl
          | some z => simp [ht] at hy; subst hy; cases want <;> rfl
        · cases hw

end
end Go.X
