/- What X reads hangs on the operands; what is pure, on nothing else. Conditions: none. -/
import Derived.Test.YtkmbfjdmbdpflaaXTr
namespace Go.X

theorem evs_congr {tm tm2 : Tr Value} {l : List Operand} (h : ∀ x, x ∈ l → ev tm x = ev tm2 x) : l.map (ev tm) = l.map (ev tm2) := List.map_congr_left h
theorem evsA_congr {tm tm2 : Tr Value} {l : Array Operand} (h : ∀ x, x ∈ l → ev tm x = ev tm2 x) : l.map (ev tm) = l.map (ev tm2) := Array.map_congr_left h
theorem evO_congr {tm tm2 : Tr Value} {x : Option Operand} (h : ∀ y, x = some y → ev tm y = ev tm2 y) : x.map (ev tm) = x.map (ev tm2) := by
  cases x with
  | none => rfl
  | some y => simp [h y rfl]
theorem evsP_congr {α : Type} {tm tm2 : Tr Value} {l : List (α × Operand)} (h : ∀ p, p ∈ l → ev tm p.2 = ev tm2 p.2) : (l.map fun (i, x) => (i, ev tm x)) = (l.map fun (i, x) => (i, ev tm2 x)) :=
  List.map_congr_left fun p hp => by obtain ⟨i, x⟩ := p; have := h _ hp; simp only at this ⊢; rw [this]

theorem readX_congr (E : Env) {tm tm2 : Tr Value} {o : Oper} {h h2 : Hp} (he : ∀ x, x ∈ o.op.operands → ev tm x = ev tm2 x) (hh : isPure o = true ∨ h = h2) :
    readX E tm o h = readX E tm2 o h2 := by
  obtain ⟨dst, op, type, pos, after, guard⟩ := o
  simp only at he
  cases op <;> simp only [Op.operands] at he <;> simp only [readX] <;> (try rfl)
  case move x => rw [he x (by simp)]
  case assign x => rw [he x (by simp)]
  case pick c a b => rw [he c (by simp), he a (by simp), he b (by simp)]
  case build t ps => rw [evsP_congr fun p hp => he p.2 (by simp; exact ⟨p.1, by simpa using hp⟩)]
  case load t a =>
    rcases hh with hh | rfl
    · simp [isPure] at hh
    · rw [he a (by simp)]
  case nilCheck x => rw [he x (by simp)]
  case binOp op t x y ty =>
    rcases hh with hh | rfl
    · simp [isPure] at hh
    · rw [he x (by simp), he y (by simp)]
  case unOp op t x => rw [he x (by simp)]
  case convert s d x =>
    rcases hh with hh | rfl
    · simp [isPure] at hh
    · rw [he x (by simp)]
  case makeInterface t x => rw [he x (by simp)]
  case makeFunc f a b => rw [evsA_congr fun x hx => he x (by simp [hx]), evsA_congr (l := b) fun x hx => he x (by simp [hx])]
  case slice t x lo hi mx =>
    rcases hh with hh | rfl
    · simp [isPure] at hh
    · rw [he x (by simp), evO_congr (x := lo) fun y hy => he y (by simp [hy]), evO_congr (x := hi) fun y hy => he y (by simp [hy]), evO_congr (x := mx) fun y hy => he y (by simp [hy])]
  case fieldAddr t x i => rw [he x (by simp)]
  case field t x i => rw [he x (by simp)]
  case indexAddr t x i => rw [he x (by simp), he i (by simp)]
  case index t x i => rw [he x (by simp), he i (by simp)]
  case lookup t m k ok =>
    rcases hh with hh | rfl
    · simp [isPure] at hh
    · rw [he m (by simp), he k (by simp)]
  case typeAssert x t a ok => rw [he x (by simp)]
  case extract x i => rw [he x (by simp)]
  case call c =>
    obtain ⟨callee, args, argTypes⟩ := c
    cases callee with
    | builtin b =>
      rcases hh with hh | rfl
      · simp [isPure] at hh
      · simp only
        rw [evs_congr (l := args.toList) fun x hx => he x (by simp [Call.operands]; simpa using hx)]
    | value f => rfl
    | invoke r m => rfl

theorem allocX_congr (E : Env) {tm tm2 : Tr Value} {o : Oper} (he : ∀ x, x ∈ o.op.operands → ev tm x = ev tm2 x) : allocX E tm o = allocX E tm2 o := by
  obtain ⟨dst, op, type, pos, after, guard⟩ := o
  simp only at he
  cases op <;> simp only [Op.operands] at he <;> simp only [allocX] <;> (try rfl)
  case box e x => rw [he x (by simp)]
  case buildSlice t n ps => rw [evsP_congr fun p hp => he p.2 (by simp; exact ⟨p.1, by simpa using hp⟩)]
  case makeMap t r =>
    cases r with
    | none => rfl
    | some r =>
      have e := he r (by simp)
      cases E.und t with
      | none => rfl
      | some d => cases d <;> first | rfl | (simp only; rw [e])
  case makeSlice t l c => rw [he l (by simp), he c (by simp)]

/-- The slots that are looked at: an operation's operands, and its guard's. -/
theorem ev_same {tm tm2 : Tr Value} {x : Operand} (h : ∀ t, x = .tmp t → ev tm (.tmp t) = ev tm2 (.tmp t)) : ev tm x = ev tm2 x := by
  cases x with
  | tmp t => exact h t rfl
  | _ => rfl

theorem mem_tmpsOf {l : List Operand} {t : Nat} : t ∈ tmpsOf l ↔ Operand.tmp t ∈ l := by
  simp only [tmpsOf, List.mem_filterMap]
  constructor
  · rintro ⟨x, hx, h⟩
    cases x <;> simp at h
    subst h; exact hx
  · intro h; exact ⟨_, h, rfl⟩

theorem dstIs_iff {o : Oper} {t : Nat} : dstIs o t = true ↔ o.dst = some t := by
  unfold dstIs
  cases o.dst with
  | none => simp
  | some d => simp only [beq_iff, Option.some.injEq]

/-- What `tmpsOk` says. -/
theorem tmpsOk_spec {ops : Array Oper} (h : tmpsOk ops = true) {i j : Nat} {o q : Oper} (ho : ops[i]? = some o) (hq : ops[j]? = some q) :
    (i ≠ j → ∀ d, o.dst = some d → q.dst ≠ some d) ∧ (∀ t, Operand.tmp t ∈ o.op.operands → q.dst = some t → ahead ops j i = true) ∧
      (∀ g b, o.guard = some (g, b) → ahead ops g i = true) := by
  have hm : ∀ {k : Nat} {p : Oper}, ops[k]? = some p → (p, k) ∈ ops.toList.zipIdx := fun {k p} hk => by
    rw [List.mem_zipIdx_iff_getElem?]; simpa using hk
  unfold tmpsOk at h
  simp only [Bool.and_eq_true] at h
  obtain ⟨h1, h2⟩ := h
  have a1 := List.all_eq_true.1 (List.all_eq_true.1 h1 _ (hm ho)) _ (hm hq)
  have a2 := List.all_eq_true.1 h2 _ (hm ho)
  simp only [Bool.and_eq_true] at a2
  refine ⟨fun hne d hd => ?_, fun t ht hqt => ?_, fun g b hg => ?_⟩
  · simp only [(beq_false i j).2 hne, Bool.false_or, hd, Bool.not_eq_true'] at a1
    intro e
    rw [dstIs_iff.2 e] at a1; cases a1
  · have := List.all_eq_true.1 (List.all_eq_true.1 a2.1 t (mem_tmpsOf.2 (by simpa using ht))) _ (hm hq)
    simpa [dstIs_iff.2 hqt] using this
  · have := a2.2
    rw [hg] at this; exact this

end Go.X
