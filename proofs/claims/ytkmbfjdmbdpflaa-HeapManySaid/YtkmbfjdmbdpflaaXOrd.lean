/- Regions whose order is open: every order that the model may take goes forward along the edges, and misses nothing. Conditions: none. -/
import Derived.Test.YtkmbfjdmbdpflaaXTr
import Derived.Orders
namespace Go.X

/-- What stands ahead of one comes ahead of it. -/
def OrdOk (ops : Array Oper) : List Nat → Prop
  | [] => True
  | i :: rest => (∀ p, p ∈ predsOf ops i → p ∉ i :: rest) ∧ OrdOk ops rest

/-- What isn't in the list is done, and so is what stands ahead of it. -/
def Closed (ops : Array Oper) (l : List Nat) : Prop := ∀ i, i < ops.size → i ∉ l → ∀ p, p ∈ predsOf ops i → p ∉ l

theorem Closed.tail {ops : Array Oper} {i : Nat} {l : List Nat} (h : Closed ops (i :: l)) (hp : ∀ p, p ∈ predsOf ops i → p ∉ i :: l) : Closed ops l := by
  intro j hj hjl p hpj hpl
  by_cases e : j = i
  · subst e; exact hp p hpj (List.mem_cons_of_mem _ hpl)
  · exact h j hj (by simp [e, hjl]) p hpj (List.mem_cons_of_mem _ hpl)

theorem edges_lt {ops : Array Oper} (he : edgesOk ops = true) {i p : Nat} (hp : p ∈ predsOf ops i) : p < i := by
  have hi : i < ops.size := by
    unfold predsOf at hp
    split at hp
    · rename_i o ho; exact (Array.getElem?_eq_some_iff.1 ho).1
    · simp at hp
  have := List.all_eq_true.1 he i (List.mem_range.2 hi)
  exact (blt_iff p i).1 (List.all_eq_true.1 this p hp)

theorem isAnc_out {ops : Array Oper} (he : edgesOk ops = true) {l : List Nat} (hc : Closed ops l) : ∀ (n i j : Nat), isAnc ops n i j = true → j < ops.size → j ∉ l → i ∉ l := by
  intro n
  induction n with
  | zero => intro i j h; simp [isAnc] at h
  | succ n ih =>
    intro i j h hj hjl
    simp only [isAnc, Bool.or_eq_true, memN_iff, List.any_eq_true] at h
    rcases h with h | ⟨p, hp, h⟩
    · exact hc j hj hjl i h
    · exact ih i p h (Nat.lt_trans (edges_lt he hp) hj) (hc j hj hjl p hp)

theorem ahead_out {ops : Array Oper} (he : edgesOk ops = true) {l : List Nat} (hc : Closed ops l) {i j : Nat} (h : ahead ops i j = true) (hj : j < ops.size) (hjl : j ∉ l) : i ∉ l :=
  isAnc_out he hc 12 i j h hj hjl

/-- The same for the one that comes next. -/
theorem ahead_head {ops : Array Oper} (he : edgesOk ops = true) {j : Nat} {l : List Nat} (hc : Closed ops (j :: l)) (hp : ∀ p, p ∈ predsOf ops j → p ∉ j :: l) {i : Nat}
    (h : ahead ops i j = true) (hj : j < ops.size) : i ∉ j :: l := by
  have h12 : ahead ops i j = (memN i (predsOf ops j) || (predsOf ops j).any (fun p => isAnc ops 11 i p)) := rfl
  rw [h12] at h
  simp only [Bool.or_eq_true, memN_iff, List.any_eq_true] at h
  rcases h with h | ⟨p, hpj, h⟩
  · exact hp i h
  · exact isAnc_out he hc 11 i p h (Nat.lt_trans (edges_lt he hpj) hj) (hp p hpj)

theorem orderOk_head {E : Env} {ops : Array Oper} {i : Nat} {rest : List Nat} (h : orderOk E ops (i :: rest) = true) :
    (∀ p, p ∈ predsOf ops i → p ∉ i :: rest) ∧ (clsAt E ops i = 2 → ∀ j, j ∈ rest → ∃ p, p ∈ predsOf ops j ∧ p ∈ i :: rest) ∧ orderOk E ops rest = true := by
  simp only [orderOk, Bool.and_eq_true] at h
  obtain ⟨⟨h1, h2⟩, h3⟩ := h
  refine ⟨fun p hp => ?_, fun hw j hj => ?_, h3⟩
  · have := List.all_eq_true.1 h1 p hp
    simp only [Bool.not_eq_true', memN_false] at this
    exact this
  · rw [(beq_iff _ _).2 hw, cond_true] at h2
    have := List.all_eq_true.1 h2 j hj
    simp only [List.any_eq_true, memN_iff] at this
    exact this

/-! The model's orders -/

theorem mem_predsOf {ops : Array Oper} {i : Nat} {o : Oper} (ho : ops[i]? = some o) (p : Nat) : p ∈ predsOf ops i ↔ ∃ e, e ∈ o.after ∧ Region.binds .any e = true ∧ e.on = p := by
  simp only [predsOf, ho, List.mem_map, List.mem_filter]
  constructor
  · rintro ⟨e, ⟨h1, h2⟩, h3⟩; exact ⟨e, Array.mem_toList_iff.1 h1, h2, h3⟩
  · rintro ⟨e, h1, h2, h3⟩; exact ⟨e, ⟨Array.mem_toList_iff.2 h1, h2⟩, h3⟩

theorem ready_preds {ops : Array Oper} {listed : Array Bool} {j : Nat} : j ∈ Region.ready .any ops listed ↔
    listed.getD j true = false ∧ j < ops.size ∧ ∀ p, p ∈ predsOf ops j → listed.getD p false = true := by
  rw [mem_ready]
  constructor
  · rintro ⟨h0, o, ho, h⟩
    refine ⟨h0, (Array.getElem?_eq_some_iff.1 ho).1, fun p hp => ?_⟩
    obtain ⟨e, he, hb, rfl⟩ := (mem_predsOf ho p).1 hp
    exact h e he hb
  · rintro ⟨h0, hj, h⟩
    refine ⟨h0, ops[j], Array.getElem?_eq_getElem hj, fun e he hb => h _ ?_⟩
    exact (mem_predsOf (Array.getElem?_eq_getElem hj) _).2 ⟨e, he, hb, rfl⟩

def unl (listed : Array Bool) (n : Nat) : List Nat := (List.range n).filter fun i => !listed.getD i true

theorem mem_unl {listed : Array Bool} {n j : Nat} : j ∈ unl listed n ↔ j < n ∧ listed.getD j true = false := by
  simp [unl, List.mem_filter]

theorem getD_false_of_true {listed : Array Bool} {j : Nat} (h : listed.getD j true = false) : listed.getD j false = false := by
  rcases Nat.lt_or_ge j listed.size with h' | h'
  · simpa [h'] using h
  · simp [Array.getElem?_eq_none h'] at h

theorem getD_true_of_false {listed : Array Bool} {j : Nat} (h : listed.getD j false = true) : listed.getD j true = true := by
  rcases Nat.lt_or_ge j listed.size with h' | h'
  · simpa [h'] using h
  · simp [Array.getElem?_eq_none h'] at h

theorem ready_nil {ops : Array Oper} (he : edgesOk ops = true) {listed : Array Bool} (hs : listed.size = ops.size) (h : Region.ready .any ops listed = []) : ∀ j, j < ops.size → listed.getD j true = true := by
  intro j
  induction j using Nat.strongRecOn with
  | ind j ih =>
    intro hj
    cases hx : listed.getD j true with
    | true => rfl
    | false =>
      have : j ∈ Region.ready .any ops listed := ready_preds.2 ⟨hx, hj, fun p hp => by
        have hpj := edges_lt he hp
        have hpt := ih p hpj (by omega)
        have hps : p < listed.size := by omega
        simpa [hps] using hpt⟩
      rw [h] at this; cases this

theorem unl_set {listed : Array Bool} {n i : Nat} (hs : listed.size = n) (hi : i ∈ unl listed n) : (unl (listed.setIfInBounds i true) n).length + 1 = (unl listed n).length := by
  have hin := mem_unl.1 hi
  have e : unl (listed.setIfInBounds i true) n = (unl listed n).filter (fun j => !(j == i)) := by
    unfold unl
    rw [List.filter_filter]
    refine List.filter_congr fun j hj => ?_
    by_cases h : j = i
    · subst h; simp [hs, hin.1]
    · rw [getD_set_ne true (Ne.symm h)]; simp [h]
  have hnd : (unl listed n).Nodup := List.Pairwise.filter _ List.nodup_range
  rw [e]
  clear e hin
  generalize unl listed n = u at hi hnd ⊢
  induction u with
  | nil => simp at hi
  | cons x l ih =>
    obtain ⟨hx, hl⟩ := List.nodup_cons.1 hnd
    by_cases h : x = i
    · subst h
      have : l.filter (fun j => !(j == x)) = l := List.filter_eq_self.2 fun a ha => by
        have : a ≠ x := fun e => hx (e ▸ ha)
        simp [this]
      simp [this]
    · have hil : i ∈ l := (List.mem_cons.1 hi).resolve_left (fun e => h e.symm)
      have := ih hil hl
      simp [h]; omega

theorem go_ok {ops : Array Oper} (he : edgesOk ops = true) : ∀ (fuel t : Nat) (listed : Array Bool), listed.size = ops.size → (unl listed ops.size).length ≤ fuel →
    ∃ l, Region.linearise.go .any ops fuel t listed [] = l ∧ l.Nodup ∧ OrdOk ops l ∧ (∀ j, j ∈ l ↔ j ∈ unl listed ops.size) := by
  intro fuel
  induction fuel with
  | zero =>
    intro t listed hs hf
    have : unl listed ops.size = [] := List.eq_nil_of_length_eq_zero (by omega)
    exact ⟨[], by simp [Region.linearise.go], List.nodup_nil, trivial, fun j => by simp [this]⟩
  | succ fuel ih =>
    intro t listed hs hf
    simp only [Region.linearise.go]
    change ∃ l, (match (Region.ready .any ops listed)[t % (Region.ready .any ops listed).length]? with
      | some i => Region.linearise.go .any ops fuel (t / (Region.ready .any ops listed).length) (listed.setIfInBounds i true) [i]
      | none => [].reverse) = l ∧ _
    cases hi : (Region.ready .any ops listed)[t % (Region.ready .any ops listed).length]? with
    | none =>
      have hnil : Region.ready .any ops listed = [] := by
        cases hr : Region.ready .any ops listed with
        | nil => rfl
        | cons x xs =>
          rw [hr] at hi
          have hlt : t % (x :: xs).length < (x :: xs).length := Nat.mod_lt _ (by simp)
          simp at hi
          simp at hlt
          omega
      refine ⟨[], by simp, List.nodup_nil, trivial, fun j => ?_⟩
      simp only [List.not_mem_nil, false_iff, mem_unl, not_and, Bool.not_eq_false]
      exact ready_nil he hs hnil j
    | some i =>
      have hir := List.mem_of_getElem? hi
      obtain ⟨h0, hlt, hp⟩ := ready_preds.1 hir
      have hiu : i ∈ unl listed ops.size := mem_unl.2 ⟨hlt, h0⟩
      have hlen := unl_set hs hiu
      obtain ⟨l, hl, hnd, hord, hmem⟩ := ih (t / (Region.ready .any ops listed).length) (listed.setIfInBounds i true) (by simpa using hs) (by omega)
      have hm : ∀ j, j ∈ l ↔ j ∈ unl listed ops.size ∧ j ≠ i := fun j => by
        rw [hmem, mem_unl, mem_unl]
        by_cases e : j = i
        · subst e; simp [hs, hlt]
        · rw [getD_set_ne true (Ne.symm e)]; simp [e]
      refine ⟨i :: l, ?_, ?_, ⟨fun p hpi hpl => ?_, hord⟩, fun j => ?_⟩
      · simp only []
        rw [linearise_go_acc, hl]; simp
      · exact List.nodup_cons.2 ⟨fun h => ((hm i).1 h).2 rfl, hnd⟩
      · have hpt := getD_true_of_false (hp p hpi)
        rcases List.mem_cons.1 hpl with e | h
        · subst e; rw [h0] at hpt; cases hpt
        · rw [(mem_unl.1 ((hm p).1 h).1).2] at hpt; cases hpt
      · rw [List.mem_cons, hm]
        constructor
        · rintro (rfl | h)
          · exact hiu
          · exact h.1
        · intro h
          by_cases e : j = i
          · exact .inl e
          · exact .inr ⟨h, e⟩

theorem schedule_ok {ops : Array Oper} (he : edgesOk ops = true) (t : Nat) :
    (Region.schedule true ops t).Nodup ∧ OrdOk ops (Region.schedule true ops t) ∧ ∀ j, j ∈ Region.schedule true ops t ↔ j < ops.size := by
  have hu : ∀ j, j ∈ unl (Array.replicate ops.size false) ops.size ↔ j < ops.size := fun j => by
    rw [mem_unl]
    constructor
    · exact fun h => h.1
    · exact fun h => ⟨h, by simp [h]⟩
  obtain ⟨l, hl, h1, h2, h3⟩ := go_ok he ops.size t (Array.replicate ops.size false) (by simp) (by
    have : (unl (Array.replicate ops.size false) ops.size).length ≤ (List.range ops.size).length := List.length_filter_le _ _
    simpa using this)
  have e : Region.schedule true ops t = l := by simp [Region.schedule, Region.linearise, hl]
  rw [e]
  exact ⟨h1, h2, fun j => (h3 j).trans (hu j)⟩

end Go.X
