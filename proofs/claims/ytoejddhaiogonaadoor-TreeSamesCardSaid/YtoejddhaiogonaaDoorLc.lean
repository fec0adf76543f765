/- Chapter 2: much; whose kid a twig is: as the document has it, as the program has it. Conditions: at most 1000 twigs, rows of kids no longer than Go's rows are. Chapter 2: Ups; the law of TreeSames. Conditions: the table of blanks; rows of kids no longer than Go's rows are. Chapter 2: trees that are arguments, and the table of blanks, as X has them. Conditions: none. -/
import Derived.Test.YtoejddhaiogonaaDoorLb
import Derived.Test.YtoejddhaiogonaaDoorXc
import Derived.Test.YtoejddhaiogonaaDoorTie
import Derived.Test.YtoejddhaiogonaaDoorCards
import Derived.SevenTiedAt
import Derived.LaidMore
import Derived.LaidHandle
import Derived.ProofKit
namespace Go.Proofs.YtoejddhaiogonaaDoor
open Go.X

def kidsAt (T : List Tw) (i : Nat) : List Int := match T[i]? with
  | some w => w.kids
  | none => []
theorem kidsAt_of {T : List Tw} {i : Nat} {w : Tw} (h : T[i]? = some w) : kidsAt T i = w.kids := by rw [kidsAt, h]
/-- What is owned within twigs from a up to n. -/
def Own (T : List Tw) (a n : Nat) : Prop := (∀ i, a ≤ i → i < n → ∀ k, k ∈ kidsAt T i → (i : Int) < k ∧ k < (n : Int)) ∧ (∀ i j k, a ≤ i → i < n → a ≤ j → j < n → k ∈ kidsAt T i → k ∈ kidsAt T j → i = j) ∧ (∀ p : Nat, a < p → p < n → ∃ i, a ≤ i ∧ i < n ∧ (p : Int) ∈ kidsAt T i)
def OwnL (T : List Tw) (l : List Int) (a n : Nat) : Prop := (∀ i, a ≤ i → i < n → ∀ k, k ∈ kidsAt T i → (i : Int) < k ∧ k < (n : Int)) ∧ (∀ i j k, a ≤ i → i < n → a ≤ j → j < n → k ∈ kidsAt T i → k ∈ kidsAt T j → i = j) ∧
  (∀ k, k ∈ l → (a : Int) ≤ k ∧ k < (n : Int) ∧ ∀ i, a ≤ i → i < n → k ∉ kidsAt T i) ∧ (∀ p : Nat, a ≤ p → p < n → (p : Int) ∈ l ∨ ∃ i, a ≤ i ∧ i < n ∧ (p : Int) ∈ kidsAt T i)
theorem own_kids {rec : Nat → Int → Option Nat} {T : List Tw} {w : Tw} {nest : Int} (hr : ∀ at' nest n, rec at' nest = some n → at' < n ∧ Own T at' n) : ∀ {l : List Int} {i next n : Nat}, kidsW rec T w nest l i next = some n → next ≤ n ∧ OwnL T l next n
  | [], i, next, n, e => by
    simp [kidsW] at e
    subst e
    exact ⟨Nat.le_refl _, fun i h1 h2 => by omega, fun i j k h1 h2 => by omega, fun k hk => by (cases hk), fun p h1 h2 => by omega⟩
  | k :: l, i, next, n, e => by
    simp only [kidsW] at e
    split at e
    · rename_i hk
      split at e
      · split at e
        · rename_i q hq
          obtain ⟨h1, o1, o2, o3⟩ := hr _ _ _ hq
          obtain ⟨h2, p1, p2, p3, p4⟩ := own_kids hr e
          have lo : ∀ i, next ≤ i → i < n → i < q ∨ q ≤ i := fun i _ _ => by omega
          refine ⟨by omega, fun i hi1 hi2 k' hk' => ?_, fun i j k' hi1 hi2 hj1 hj2 hki hkj => ?_, fun k' hk' => ?_, fun p hp1 hp2 => ?_⟩
          · rcases lo i hi1 hi2 with h | h
            · have := o1 i hi1 h k' hk'; omega
            · exact p1 i h hi2 k' hk'
          · rcases lo i hi1 hi2 with h | h <;> rcases lo j hj1 hj2 with h' | h'
            · exact o2 i j k' hi1 h hj1 h' hki hkj
            · have := o1 i hi1 h k' hki; have := p1 j h' hj2 k' hkj; omega
            · have := o1 j hj1 h' k' hkj; have := p1 i h hi2 k' hki; omega
            · exact p2 i j k' h hi2 h' hj2 hki hkj
          · rcases List.mem_cons.1 hk' with rfl | hk'
            · refine ⟨by omega, by omega, fun i hi1 hi2 hm => ?_⟩
              rcases lo i hi1 hi2 with h | h
              · have := o1 i hi1 h _ hm; omega
              · have := p1 i h hi2 _ hm; omega
            · obtain ⟨a1, a2, a3⟩ := p3 k' hk'
              refine ⟨by omega, a2, fun i hi1 hi2 hm => ?_⟩
              rcases lo i hi1 hi2 with h | h
              · have := o1 i hi1 h _ hm; omega
              · exact a3 i h hi2 hm
          · rcases lo p hp1 hp2 with h | h
            · by_cases hpn : p = next
              · subst hpn; exact .inl (by rw [hk]; exact List.mem_cons_self ..)
              · obtain ⟨i, a1, a2, a3⟩ := o3 p (by omega) h
                exact .inr ⟨i, a1, by omega, a3⟩
            · rcases p4 p h hp2 with h3 | ⟨i, a1, a2, a3⟩
              · exact .inl (List.mem_cons_of_mem _ h3)
              · exact .inr ⟨i, by omega, a2, a3⟩
        · cases e
      · cases e
    · cases e
theorem own_walk {T : List Tw} : ∀ {f at' : Nat} {nest : Int} {n : Nat}, walkS T f at' nest = some n → at' < n ∧ Own T at' n
  | 0, _, _, _, e => by simp [walkS] at e
  | f + 1, at', nest, n, e => by
    simp only [walkS] at e
    split at e
    · rename_i w hw
      split at e
      · cases e
      · cases hq : kidsW (walkS T f) T w nest w.kids 0 (at' + 1) with
        | none => rw [hq] at e; cases e
        | some q =>
          rw [hq] at e
          simp only [finW] at e
          split at e
          · cases e
            obtain ⟨h2, p1, p2, p3, p4⟩ := own_kids (fun _ _ _ h => own_walk (f := f) h) hq
            have hka := kidsAt_of hw
            refine ⟨by omega, fun i hi1 hi2 k hk => ?_, fun i j k hi1 hi2 hj1 hj2 hki hkj => ?_, fun p hp1 hp2 => ?_⟩
            · by_cases h : i = at'
              · subst h; rw [hka] at hk; have := p3 k hk; omega
              · exact p1 i (by omega) hi2 k hk
            · by_cases h : i = at' <;> by_cases h' : j = at'
              · omega
              · subst h; rw [hka] at hki; exact absurd hkj ((p3 k hki).2.2 j (by omega) hj2)
              · subst h'; rw [hka] at hkj; exact absurd hki ((p3 k hkj).2.2 i (by omega) hi2)
              · exact p2 i j k (by omega) hi2 (by omega) hj2 hki hkj
            · rcases p4 p hp1 hp2 with h | ⟨i, a1, a2, a3⟩
              · exact ⟨at', Nat.le_refl _, by omega, by rw [hka]; exact h⟩
              · exact ⟨i, by omega, a2, a3⟩
          · cases e
    · cases e
theorem may_own {T : List Tw} (h : mayS T = true) : 0 < T.length ∧ Own T 0 T.length := by
  simp only [mayS, Bool.and_eq_true, decide_eq_true_eq] at h
  obtain ⟨⟨h1, _⟩, h2⟩ := h
  have h0 : 0 < T.length := by omega
  refine ⟨h0, ?_⟩
  cases hw : walkS T (T.length + 1) 0 0 with
  | none => rw [hw] at h2; exact absurd h2 (show ¬ (-1 : Int) = T.length by omega)
  | some n =>
    rw [hw] at h2
    have : n = T.length := by have : (n : Int) = T.length := h2; omega
    subst this
    exact (own_walk hw).2

/-- Whose kid a twig is. -/
def IsUp (T : List Tw) (p : Nat) (r : Int) : Prop := (∃ i : Nat, r = i ∧ i < p ∧ i < T.length ∧ (p : Int) ∈ kidsAt T i ∧ ∀ i', i' < i → (p : Int) ∉ kidsAt T i') ∨ (r = -1 ∧ ∀ i, i < p → i < T.length → (p : Int) ∉ kidsAt T i)
theorem IsUp.one {T : List Tw} {p : Nat} {r r' : Int} (a : IsUp T p r) (b : IsUp T p r') : r = r' := by
  rcases a with ⟨i, rfl, h1, h2, h3, h4⟩ | ⟨rfl, h1⟩ <;> rcases b with ⟨j, rfl, g1, g2, g3, g4⟩ | ⟨rfl, g1⟩
  · rcases Nat.lt_trichotomy i j with h | h | h
    · exact absurd h3 (g4 i h)
    · rw [h]
    · exact absurd g3 (h4 j h)
  · exact absurd h3 (g1 i h1 h2)
  · exact absurd g3 (h1 j g1 g2)
  · rfl
/-- What has been written after so many twigs, and some kids of the next. -/
def UpTo (T : List Tw) (os : List Int) (i : Nat) (ks : List Int) : Prop := ∀ p (hp : p < os.length), (∃ i' : Nat, (i' < i ∨ (i' = i ∧ (p : Int) ∈ ks)) ∧ (p : Int) ∈ kidsAt T i' ∧ os[p] = i') ∨ ((∀ i', i' < i → (p : Int) ∉ kidsAt T i') ∧ (p : Int) ∉ ks ∧ os[p] = if p = 0 then -1 else 0)
theorem upTo_start (T : List Tw) (n : Nat) : UpTo T ((List.replicate n (0 : Int)).set 0 (-1)) 0 [] := fun p hp => .inr ⟨fun i hi => by omega, by simp, by
  cases p with
  | zero => simp
  | succ p => simp⟩
theorem upTo_next {T : List Tw} {os : List Int} {i : Nat} (h : UpTo T os i (kidsAt T i)) : UpTo T os (i + 1) [] := fun p hp => by
  rcases h p hp with ⟨i', h1, h2, h3⟩ | ⟨h1, h2, h3⟩
  · exact .inl ⟨i', .inl (by omega), h2, h3⟩
  · refine .inr ⟨fun i' hi => ?_, by simp, h3⟩
    by_cases e : i' = i
    · subst e; exact h2
    · exact h1 i' (by omega)
theorem upTo_set {T : List Tw} {os : List Int} {i q : Nat} {ks : List Int} (hq : (q : Int) ∈ kidsAt T i) (h : UpTo T os i ks) : UpTo T (os.set q (i : Int)) i (ks ++ [(q : Int)]) := fun p hp => by
  have hp' : p < os.length := by simpa using hp
  by_cases e : p = q
  · subst e
    exact .inl ⟨i, .inr ⟨rfl, by simp⟩, hq, by simp⟩
  · rw [List.getElem_set_ne (fun h => e h.symm)]
    rcases h p hp' with ⟨i', h1, h2, h3⟩ | ⟨h1, h2, h3⟩
    · exact .inl ⟨i', h1.imp id (fun h => ⟨h.1, List.mem_append_left _ h.2⟩), h2, h3⟩
    · refine .inr ⟨h1, ?_, h3⟩
      rw [List.mem_append, not_or]
      exact ⟨h2, by simp; omega⟩
theorem upTo_end {T : List Tw} {os : List Int} (hl : os.length = T.length) (ho : Own T 0 T.length) (h : UpTo T os T.length []) : ∀ p (hp : p < os.length), IsUp T p os[p] := fun p hp => by
  obtain ⟨o1, o2, o3⟩ := ho
  rcases h p hp with ⟨i', h1, h2, h3⟩ | ⟨h1, h2, h3⟩
  · have hi : i' < T.length := by
      rcases h1 with h | ⟨_, h⟩
      · exact h
      · cases h
    have hr := o1 i' (by omega) hi _ h2
    refine .inl ⟨i', h3, by omega, hi, h2, fun j hj hm => ?_⟩
    have := o2 i' j _ (by omega) hi (by omega) (by omega) h2 hm
    omega
  · by_cases e : p = 0
    · subst e
      exact .inr ⟨by rw [h3]; rfl, fun i hi => by omega⟩
    · obtain ⟨i, a1, a2, a3⟩ := o3 p (by omega) (by omega)
      exact absurd a3 (h1 i a2)

def muchT (T : List Tw) (n : Nat) : Bool := ((T.take n).any fun t => decide (100 < t.s.toList.length)) || decide (n < T.length)
theorem much_no {T : List Tw} {n : Nat} (h : muchT T n = false) : T.length ≤ n ∧ ∀ t, t ∈ T → t.s.toList.length ≤ 100 := by
  simp only [muchT, Bool.or_eq_false_iff, decide_eq_false_iff_not] at h
  have hl : T.length ≤ n := by omega
  refine ⟨hl, fun t ht => ?_⟩
  rw [List.take_of_length_le hl] at h
  have := List.any_eq_false.1 h.1 t ht
  simpa using this
theorem much_one {T : List Tw} {n j : Nat} (hj : j < T.length) (hn : j < n) (h : 100 < T[j].s.toList.length) : muchT T n = true := by
  unfold muchT
  rw [Bool.or_eq_true]
  refine .inl (List.any_eq_true.2 ⟨T[j], ?_, by simpa using h⟩)
  exact List.mem_take_iff_getElem.2 ⟨j, by omega, rfl⟩
theorem much_end {T : List Tw} {n : Nat} (h : ∀ j (hj : j < T.length), j < n → T[j].s.toList.length ≤ 100) : muchT T n = decide (n < T.length) := by
  unfold muchT
  have : ((T.take n).any fun t => decide (100 < t.s.toList.length)) = false := List.any_eq_false.2 fun t ht => by
    obtain ⟨j, hj, rfl⟩ := List.mem_take_iff_getElem.1 ht
    have := h j (by omega) (by omega)
    simp; omega
  rw [this, Bool.false_or]
theorem rep_zeros (n : Nat) : repeatCells [Value.int .i64 0] n = isV (List.replicate n (0 : Int)) := by
  induction n with
  | zero => rfl
  | succ n ih => rw [List.replicate_succ, isV, List.map_cons, ← isV, ← ih]; rfl
theorem set_isV (os : List Int) (q : Nat) (i : Int) : (isV os).set q (iV i) = isV (os.set q i) := by rw [isV, isV, List.map_set]

section
variable {h : Hp} {sv : Value} {T : List Tw}

/-- Much -/
theorem c8 (X : TreeAt h sv T) : C trE 8 [.agg #[sv], iV 300] h fun v h' => v = .bool (muchT T 300) ∧ Ext h h' := by
  obtain ⟨ta, tc, rfl⟩ := X.val
  refine c_enter (fu := Tryd.f8) (by kernel_rfl) rfl ?_
  have S := SH.start h
  refine w_seq ?_
  refine w_region (by kernel_rfl) ?_
  refine s_box S gn rfl rfl fun b1 g nb1 S => ?_
  refine o_assign gn rfl rfl ?_
  refine wl_end ?_
  refine w_seq ?_
  refine w_seq ?_
  refine w_region (by kernel_rfl) ?_
  refine o_assign gn rfl rfl ?_
  refine wl_end ?_
  refine w_block ?_
  refine w_loopS [(5, _)] [(1, _), (2, _)] (by repeat (first | exact trivial | refine ⟨rfl, ?_⟩)) (fun kk lv hh => ∃ j : Nat, lv = [(5, iV j)] ∧ kk = 300 - j ∧ j ≤ 300 ∧ SH h [] [cR b1 (.cells [.slice ta T.length tc] 24 0)] hh ∧ ∀ i (hi : i < T.length), i < j → T[i].s.toList.length ≤ 100) (n := 300) ?_ fun kk lv hh hI => ?_
  · exact ⟨0, rfl, rfl, by omega, S, fun i _ hi => by omega⟩
  · obtain ⟨j, rfl, hkk, hj3, S, hs⟩ := hI
    refine w_seq ?_
    refine w_seq ?_
    refine w_region (by kernel_rfl) ?_
    refine o_move gn rfl rfl ?_
    refine o_fieldAddr (off := 0) gn rfl rfl (by kernel_rfl) ?_
    refine o_load gn rfl rfl (by kernel_rfl) (by first | exact S.cel 0 rfl | exact S.cel 1 rfl | exact S.cel 2 rfl) rfl ?_
    refine o_len gn rfl rfl (by kernel_rfl) ?_
    refine o_lss gn rfl rfl rfl ?_
    refine o_move gn rfl rfl ?_
    refine o_and (n := 3) rfl rfl rfl gn rfl (fun hb => by
        refine o_move (gy rfl rfl rfl hb) rfl rfl ?_
        refine o_move (gy rfl rfl rfl hb) rfl rfl ?_
        refine o_lss (gy rfl rfl rfl hb) rfl rfl rfl ?_
        exact wl_end ⟨rfl, rfl, 3, rfl, rfl⟩) ?_
    refine wl_end ?_
    refine w_cond rfl (fun hb => ?_) fun hb => ?_
    · skip
      refine w_skip ?_
      obtain ⟨hj, hj3⟩ : j < T.length ∧ j < 300 := by
        simp only [Bool.and_eq_true, decide_eq_true_eq] at hb; omega
      obtain ⟨b, o, c, cs, e, m, hv, hg, hlb, hl6, hat⟩ := X.at (by omega)
      have hta : ta = some ⟨b, o, none⟩ := by injection hv
      have hw : cs[o + Int.toNat (j : Int) * 6 + 1]? = some (.string T[j].s) := by rw [Int.toNat_natCast]; exact cut_at (hat j hj) (by omega) rfl
      refine w_seq ?_
      refine w_block ?_
      refine w_seq ?_
      refine w_region (by kernel_rfl) ?_
      refine o_fieldAddr (off := 0) gn rfl rfl (by kernel_rfl) ?_
      refine o_load gn rfl rfl (by kernel_rfl) (by first | exact S.cel 0 rfl | exact S.cel 1 rfl | exact S.cel 2 rfl) rfl ?_
      refine o_move gn rfl rfl ?_
      rw [hta]
      refine o_indexAddr (zz := 6) gn rfl rfl rfl (by kernel_rfl) (by omega) (by omega) ?_
      rw [← hta]
      refine o_fieldAddr (off := 1) gn rfl rfl (by kernel_rfl) ?_
      refine o_load gn rfl rfl (by kernel_rfl) (S.old0 hg hlb) hw ?_
      refine o_lenstr gn rfl rfl (by kernel_rfl) ?_
      rw [size_len]
      refine o_gtr gn rfl rfl rfl ?_
      refine wl_end ?_
      refine w_cond rfl (fun hb => ?_) fun hb => ?_
      · skip
        refine w_seq ?_
        refine w_region (by kernel_rfl) ?_
        refine o_assign gn rfl rfl ?_
        refine wl_end ?_
        refine w_ret ?_
        refine ⟨.inl rfl, _, rfl, ?_⟩
        exact ⟨by rw [much_one hj hj3 (by simp at hb; omega)]; rfl, S.e0⟩
      · skip
        refine w_skip ?_
        refine w_region (by kernel_rfl) ?_
        refine o_move gn rfl rfl ?_
        refine o_add gn rfl rfl rfl (by omega) (by omega) ?_
        refine o_assign gn rfl rfl ?_
        refine wl_end ?_
        exact rndS (300 - (j + 1)) (by omega) [(5, _)] (by repeat (first | exact trivial | refine ⟨rfl, ?_⟩)) ⟨j + 1, rfl, rfl, by omega, S, fun i hi hij => by
          have hsw : T[j].s.toList.length ≤ 100 := by simp at hb; omega
          by_cases e : i = j
          · subst e; exact hsw
          · exact hs i hi (by omega)⟩
    · skip
      refine w_exit ?_
      refine thn_exit ?_
      refine rnd_exit ?_
      refine blk_eq ?_
      refine w_seq ?_
      refine w_region (by kernel_rfl) ?_
      refine o_fieldAddr (off := 0) gn rfl rfl (by kernel_rfl) ?_
      refine o_load gn rfl rfl (by kernel_rfl) (by first | exact S.cel 0 rfl | exact S.cel 1 rfl | exact S.cel 2 rfl) rfl ?_
      refine o_len gn rfl rfl (by kernel_rfl) ?_
      refine o_move gn rfl rfl ?_
      refine o_gtr gn rfl rfl rfl ?_
      refine o_assign gn rfl rfl ?_
      refine wl_end ?_
      refine w_ret ?_
      refine ⟨.inl rfl, _, rfl, ?_⟩
      exact ⟨by
        rw [much_end fun i hi h3 => hs i hi (by simp at hb; omega)]
        show Value.bool _ = Value.bool _
        congr 1
        rw [Bool.eq_iff_iff, decide_eq_true_eq, decide_eq_true_eq]; omega, S.e0⟩

/-- Up -/
theorem c23 {p : Nat} (X : TreeAt h sv T) (hT : T.length ≤ 1000) (hp : p < T.length) (hk : ∀ t, t ∈ T → t.kids.length ≤ 9223372036854775807) : C trE 23 [.agg #[sv], iV p] h fun v h' => (∃ r, v = iV r ∧ IsUp T p r) ∧ Ext h h' := by
  obtain ⟨ta, tc, rfl⟩ := X.val
  refine c_enter (fu := Tryd.f23) (by kernel_rfl) rfl ?_
  have S := SH.start h
  refine w_seq ?_
  refine w_region (by kernel_rfl) ?_
  refine s_box S gn rfl rfl fun b1 g nb1 S => ?_
  refine o_assign gn rfl rfl ?_
  refine wl_end ?_
  refine w_seq ?_
  refine w_seq ?_
  refine w_region (by kernel_rfl) ?_
  refine o_assign gn rfl rfl ?_
  refine wl_end ?_
  refine w_block ?_
  refine w_loopS [(5, _)] [(1, _), (2, _)] (by repeat (first | exact trivial | refine ⟨rfl, ?_⟩)) (fun kk lv hh => ∃ i : Nat, lv = [(5, iV i)] ∧ kk = T.length - i ∧ i ≤ T.length ∧ SH h [] [cR b1 (.cells [.slice ta T.length tc] 24 0)] hh ∧ ∀ i', i' < i → (p : Int) ∉ kidsAt T i') (n := (T.length)) ?_ fun kk lv hh hI => ?_
  · exact ⟨0, rfl, rfl, by omega, S, fun i hi => by omega⟩
  · obtain ⟨i, rfl, hkk, hi3, S, hs⟩ := hI
    refine w_seq ?_
    refine w_seq ?_
    refine w_region (by kernel_rfl) ?_
    refine o_move gn rfl rfl ?_
    refine o_move gn rfl rfl ?_
    refine o_lss gn rfl rfl rfl ?_
    refine o_move gn rfl rfl ?_
    refine o_and (n := 5) rfl rfl rfl gn rfl (fun hb => by
        refine o_move (gy rfl rfl rfl hb) rfl rfl ?_
        refine o_fieldAddr (off := 0) (gy rfl rfl rfl hb) rfl rfl (by kernel_rfl) ?_
        refine o_load (gy rfl rfl rfl hb) rfl rfl (by kernel_rfl) (by first | exact S.cel 0 rfl | exact S.cel 1 rfl | exact S.cel 2 rfl) rfl ?_
        refine o_len (gy rfl rfl rfl hb) rfl rfl (by kernel_rfl) ?_
        refine o_lss (gy rfl rfl rfl hb) rfl rfl rfl ?_
        exact wl_end ⟨rfl, rfl, 5, rfl, rfl⟩) ?_
    refine wl_end ?_
    refine w_cond rfl (fun hb => ?_) fun hb => ?_
    · skip
      refine w_skip ?_
      obtain ⟨hip, hi⟩ : i < p ∧ i < T.length := by
        simp only [Bool.and_eq_true, decide_eq_true_eq] at hb; omega
      obtain ⟨b, o, c, cs, e, m, hv, hg, hlb, hl6, hat⟩ := X.at (by omega)
      have hta : ta = some ⟨b, o, none⟩ := by injection hv
      have hm := X.2 _ (List.getElem_mem hi)
      have hkl := hk _ (List.getElem_mem hi)
      have hka := kidsAt_of (List.getElem?_eq_getElem hi)
      have hw := hat i hi
      generalize T[i] = w at hm hkl hka hw
      obtain ⟨K, s, N, L, Co, ks, kids⟩ := w
      simp only at hm hkl hka
      obtain ⟨ka, kc, rfl⟩ := hm.valM
      have hw5 : cs[o + Int.toNat (i : Int) * 6 + 5]? = some (.slice ka kids.length kc) := by rw [Int.toNat_natCast]; exact cut_at hw (by omega) rfl
      refine w_seq ?_
      refine w_block ?_
      refine w_seq ?_
      refine w_region (by kernel_rfl) ?_
      refine o_assign gn rfl rfl ?_
      refine wl_end ?_
      refine w_block ?_
      refine w_loopS [(6, _)] [(1, _), (2, _), (5, _)] (by repeat (first | exact trivial | refine ⟨rfl, ?_⟩)) (fun kk lv hh => ∃ k : Nat, lv = [(6, iV k)] ∧ kk = kids.length - k ∧ k ≤ kids.length ∧ SH h [] [cR b1 (.cells [.slice ta T.length tc] 24 0)] hh ∧ (p : Int) ∉ kids.take k) (n := (kids.length)) ?_ fun kk lv hh hI => ?_
      · exact ⟨0, rfl, rfl, by omega, S, by simp⟩
      · obtain ⟨k, rfl, hkk2, hk3, S, hs2⟩ := hI
        refine w_seq ?_
        refine w_seq ?_
        refine w_region (by kernel_rfl) ?_
        refine o_move gn rfl rfl ?_
        refine o_fieldAddr (off := 0) gn rfl rfl (by kernel_rfl) ?_
        refine o_load gn rfl rfl (by kernel_rfl) (by first | exact S.cel 0 rfl | exact S.cel 1 rfl | exact S.cel 2 rfl) rfl ?_
        refine o_move gn rfl rfl ?_
        rw [hta]
        refine o_indexAddr (zz := 6) gn rfl rfl rfl (by kernel_rfl) (by omega) (by omega) ?_
        rw [← hta]
        refine o_fieldAddr (off := 5) gn rfl rfl (by kernel_rfl) ?_
        refine o_load gn rfl rfl (by kernel_rfl) (S.old0 hg hlb) hw5 ?_
        refine o_len gn rfl rfl (by kernel_rfl) ?_
        refine o_lss gn rfl rfl rfl ?_
        refine wl_end ?_
        refine w_cond rfl (fun hb => ?_) fun hb => ?_
        · skip
          refine w_skip ?_
          refine w_seq ?_
          refine w_block ?_
          refine w_seq ?_
          refine w_region (by kernel_rfl) ?_
          refine o_fieldAddr (off := 0) gn rfl rfl (by kernel_rfl) ?_
          refine o_load gn rfl rfl (by kernel_rfl) (by first | exact S.cel 0 rfl | exact S.cel 1 rfl | exact S.cel 2 rfl) rfl ?_
          refine o_move gn rfl rfl ?_
          rw [hta]
          refine o_indexAddr (zz := 6) gn rfl rfl rfl (by kernel_rfl) (by omega) (by omega) ?_
          rw [← hta]
          refine o_fieldAddr (off := 5) gn rfl rfl (by kernel_rfl) ?_
          refine o_load gn rfl rfl (by kernel_rfl) (S.old0 hg hlb) hw5 ?_
          refine o_move gn rfl rfl ?_
          have hkl2 : k < kids.length := by simp at hb; omega
          obtain ⟨kb, ko, kc', kcs, ke, km, hv2, hg2, hlt2, hat2⟩ := hm.atM (by omega)
          have hka2 : ka = some ⟨kb, ko, none⟩ := by injection hv2
          rw [hka2]
          refine o_indexAddr (zz := 1) gn rfl rfl rfl (by kernel_rfl) (by omega) (by omega) ?_
          rw [← hka2]
          refine o_load gn rfl rfl (by kernel_rfl) (S.old0 hg2 hlt2) (by rw [Int.toNat_natCast, Nat.mul_one]; exact hat2 k hkl2) ?_
          refine o_move gn rfl rfl ?_
          refine o_eqi gn rfl rfl rfl ?_
          refine wl_end ?_
          refine w_cond rfl (fun hb => ?_) fun hb => ?_
          · skip
            refine w_seq ?_
            refine w_region (by kernel_rfl) ?_
            refine o_move gn rfl rfl ?_
            refine o_assign gn rfl rfl ?_
            refine wl_end ?_
            refine w_ret ?_
            refine ⟨.inl rfl, _, rfl, ?_⟩
            exact ⟨⟨_, rfl, .inl ⟨i, rfl, hip, hi, by
              rw [hka]
              have hkk : kids[k] = (p : Int) := by simpa using hb
              rw [← hkk]; exact List.getElem_mem hkl2, hs⟩⟩, S.e0⟩
          · skip
            refine w_skip ?_
            refine w_region (by kernel_rfl) ?_
            refine o_move gn rfl rfl ?_
            refine o_add gn rfl rfl rfl (by omega) (by omega) ?_
            refine o_assign gn rfl rfl ?_
            refine wl_end ?_
            exact rndS (kids.length - (k + 1)) (by omega) [(6, _)] (by repeat (first | exact trivial | refine ⟨rfl, ?_⟩)) ⟨k + 1, rfl, rfl, by omega, S, by
              have hkk : ¬ kids[k] = (p : Int) := by simpa using hb
              rw [List.take_add_one, List.getElem?_eq_getElem hkl2, List.mem_append, not_or]
              exact ⟨hs2, by simp; exact fun e => hkk e.symm⟩⟩
        · skip
          refine w_exit ?_
          refine thn_exit ?_
          refine rnd_exit ?_
          refine blk_eq ?_
          refine w_region (by kernel_rfl) ?_
          refine o_move gn rfl rfl ?_
          refine o_add gn rfl rfl rfl (by omega) (by omega) ?_
          refine o_assign gn rfl rfl ?_
          refine wl_end ?_
          exact rndS (T.length - (i + 1)) (by omega) [(5, _)] (by repeat (first | exact trivial | refine ⟨rfl, ?_⟩)) ⟨i + 1, rfl, rfl, by omega, S, fun i' hi' => by
            have hke : kids.length ≤ k := by simp at hb; omega
            by_cases e : i' = i
            · subst e; rw [hka]
              have : kids.take k = kids := List.take_of_length_le hke
              rw [this] at hs2; exact hs2
            · exact hs i' (by omega)⟩
    · skip
      refine w_exit ?_
      refine thn_exit ?_
      refine rnd_exit ?_
      refine blk_eq ?_
      refine w_seq ?_
      refine w_region (by kernel_rfl) ?_
      refine o_assign gn rfl rfl ?_
      refine wl_end ?_
      refine w_ret ?_
      refine ⟨.inl rfl, _, rfl, ?_⟩
      exact ⟨⟨_, rfl, .inr ⟨rfl, fun i' h1 h2 => hs i' (by simp at hb; omega)⟩⟩, S.e0⟩
end
end Go.Proofs.YtoejddhaiogonaaDoor


namespace Go.Proofs.YtoejddhaiogonaaDoor
open Go.X

theorem knows {h : Hp} (ht : tabThere 1 spaces h = true) : knownX 1 spaces [] h = some (.bool true, h) := by
  simp only [knownX, ht, cond_true]

section
variable {h : Hp} {sv va vb : Value} {T A D : List Tw}

/-- Ups -/
theorem c22 (B : Blk h) (X : TreeAt h sv T) (hT : T.length ≤ 1000) (hs : ∀ t, t ∈ T → t.s.toList.length ≤ 100) (hk : ∀ t, t ∈ T → t.kids.length ≤ 9223372036854775807) :
    C trE 22 [.agg #[sv]] h fun v h' => (∃ os : List Int, RowV h' v (isV os) ∧ (mayS T = false → os = []) ∧ (mayS T = true → os.length = T.length ∧ ∀ p (hp : p < os.length), IsUp T p os[p])) ∧ Ext h h' := by
  have Y := X
  obtain ⟨ta, tc, rfl⟩ := X.val
  refine c_enter (fu := Tryd.f22) (by kernel_rfl) rfl ?_
  have S := SH.start h
  refine w_seq ?_
  refine w_region (by kernel_rfl) ?_
  refine s_box S gn rfl rfl fun b1 g nb1 S => ?_
  refine o_assign gn rfl rfl ?_
  refine wl_end ?_
  refine w_seq ?_
  refine w_seq ?_
  refine w_region (by kernel_rfl) ?_
  refine o_loadA (n := 1) gn rfl rfl (by kernel_rfl) (by kernel_rfl) (by first | exact S.cel 0 rfl | exact S.cel 1 rfl | exact S.cel 2 rfl) (by first | decide | exact Nat.le_refl _ | (simp; done)) ?_
  refine o_call [_] gn rfl rfl (by kernel_rfl) rfl (C.mono (c10 (B.ext S.e0) (Y.ext S.e0) hT hs) ?_)
  rintro v g ⟨rfl, x⟩
  have S := S.grow x
  refine ⟨ag0, ?_⟩
  refine o_not gn rfl rfl ?_
  refine wl_end ?_
  refine w_cond rfl (fun hb => ?_) fun hb => ?_
  · skip
    refine w_seq ?_
    refine w_region (by kernel_rfl) ?_
    refine o_assign gn rfl rfl ?_
    refine wl_end ?_
    refine w_ret ?_
    refine ⟨.inl rfl, _, rfl, ?_⟩
    exact ⟨⟨[], RowV.nil, fun _ => rfl, fun e => by rw [Bool.not_eq_true'] at hb; rw [hb] at e; cases e⟩, S.e0⟩
  · skip
    refine w_skip ?_
    have hmay : mayS T = true := by simpa using hb
    obtain ⟨h0, hO⟩ := may_own hmay
    refine w_seq ?_
    refine w_region (by kernel_rfl) ?_
    refine o_fieldAddr (off := 0) gn rfl rfl (by kernel_rfl) ?_
    refine o_load gn rfl rfl (by kernel_rfl) (by first | exact S.cel 0 rfl | exact S.cel 1 rfl | exact S.cel 2 rfl) rfl ?_
    refine o_len gn rfl rfl (by kernel_rfl) ?_
    refine s_makeSlice (e := 3) (z := 0) (zv := .int .i64 0) (by' := 8) S gn rfl rfl rfl (by kernel_rfl) (by kernel_rfl) (by kernel_rfl) (by kernel_rfl) (by decide) (by omega) (by omega) (by omega) (by omega) fun b2 g nb2 S => ?_
    have S : SH h [] [cR b2 (.cells (isV (List.replicate T.length 0)) 3 0), cR b1 (.cells [.slice ta T.length tc] 24 0)] g := by rw [← rep_zeros]; exact S
    refine o_assign gn rfl rfl ?_
    refine wl_end ?_
    refine w_seq ?_
    refine w_region (by kernel_rfl) ?_
    refine o_move gn rfl rfl ?_
    refine o_indexAddr (zz := 1) gn rfl rfl rfl (by kernel_rfl) (by omega) (by omega) ?_
    refine s_store 0 S gn rfl rfl rfl (by kernel_rfl) rfl (by decide) (by simp; omega) (fun g S => ag0) fun g S => ?_
    have S : SH h [] [cR b2 (.cells (isV ((List.replicate T.length 0).set 0 (-1))) 3 0), cR b1 (.cells [.slice ta T.length tc] 24 0)] g := by rw [← set_isV]; exact S
    refine wl_end ?_
    refine w_seq ?_
    refine w_seq ?_
    refine w_region (by kernel_rfl) ?_
    refine o_fieldAddr (off := 0) gn rfl rfl (by kernel_rfl) ?_
    refine o_load gn rfl rfl (by kernel_rfl) (by first | exact S.cel 0 rfl | exact S.cel 1 rfl | exact S.cel 2 rfl | exact S.cel 3 rfl) rfl ?_
    refine o_len gn rfl rfl (by kernel_rfl) ?_
    refine o_move gn rfl rfl ?_
    refine wl_end ?_
    refine w_block ?_
    refine w_loopS [(20, _)] [(3, _), (18, _), (19, _)] (by repeat (first | exact trivial | refine ⟨rfl, ?_⟩)) (fun kk lv hh => ∃ (i : Nat) (os : List Int), lv = [(20, iV i)] ∧ kk = T.length - i ∧ i ≤ T.length ∧ SH h [] [cR b2 (.cells (isV os) 3 0), cR b1 (.cells [.slice ta T.length tc] 24 0)] hh ∧ os.length = T.length ∧ UpTo T os i []) (n := (T.length)) ?_ fun kk lv hh hI => ?_
    · exact ⟨0, _, rfl, rfl, by omega, S, by simp, upTo_start T _⟩
    · obtain ⟨i, os, rfl, hkk, hi3, S, hol, hU⟩ := hI
      refine w_seq ?_
      refine w_region (by kernel_rfl) ?_
      refine o_lss gn rfl rfl rfl ?_
      refine wl_end ?_
      refine w_seq ?_
      refine w_cond rfl (fun hb => ?_) fun hb => ?_
      · skip
        refine w_skip ?_
        have hi : i < T.length := by simp at hb; omega
        obtain ⟨b, o, c, cs, e, m, hv, hg, hlb, hl6, hat⟩ := Y.at (by omega)
        have hta : ta = some ⟨b, o, none⟩ := by injection hv
        have hm := Y.2 _ (List.getElem_mem hi)
        have hkl := hk _ (List.getElem_mem hi)
        have hka := kidsAt_of (List.getElem?_eq_getElem hi)
        have hw := hat i hi
        generalize T[i] = w at hm hkl hka hw
        obtain ⟨K, s, N, L, Co, ks, kids⟩ := w
        simp only at hm hkl hka
        obtain ⟨ka, kc, rfl⟩ := hm.valM
        have hw2 : (cs.drop (o + Int.toNat (i : Int) * 6)).take 6 = [iV K, .string s, iV N, iV L, iV Co, .slice ka kids.length kc] := by rw [Int.toNat_natCast]; exact hw
        refine w_seq ?_
        refine w_block ?_
        refine w_seq ?_
        refine w_region (by kernel_rfl) ?_
        refine o_move gn rfl rfl ?_
        rw [hta]
        refine o_indexAddr (zz := 6) gn rfl rfl rfl (by kernel_rfl) (by omega) (by omega) ?_
        refine o_loadA (n := 6) gn rfl rfl (by kernel_rfl) (by kernel_rfl) (S.old0 hg hlb) (by rw [Int.toNat_natCast]; omega) ?_
        rw [hw2, ← hta]
        refine s_alloc (zv := .agg #[.int .i64 0, .string .empty, .int .i64 0, .int .i64 0, .int .i64 0, .slice none 0 0]) S gn rfl (by kernel_rfl) fun b3 g nb3 S => ?_
        refine o_assign gn rfl rfl ?_
        first | refine s_storeA (n := 6) 0 S gn rfl rfl (by kernel_rfl) (by kernel_rfl) rfl rfl (by decide) rfl (fun g S => ag0) fun g S => ?_ | refine s_storeA (n := 6) 1 S gn rfl rfl (by kernel_rfl) (by kernel_rfl) rfl rfl (by decide) rfl (fun g S => ag0) fun g S => ?_ | refine s_storeA (n := 6) 2 S gn rfl rfl (by kernel_rfl) (by kernel_rfl) rfl rfl (by decide) rfl (fun g S => ag0) fun g S => ?_ | refine s_storeA (n := 6) 3 S gn rfl rfl (by kernel_rfl) (by kernel_rfl) rfl rfl (by decide) rfl (fun g S => ag0) fun g S => ?_ | refine s_storeA (n := 6) 4 S gn rfl rfl (by kernel_rfl) (by kernel_rfl) rfl rfl (by decide) rfl (fun g S => ag0) fun g S => ?_
        refine wl_end ?_
        refine w_seq ?_
        refine w_region (by kernel_rfl) ?_
        refine o_fieldAddr (off := 5) gn rfl rfl (by kernel_rfl) ?_
        refine o_load gn rfl rfl (by kernel_rfl) (by first | exact S.cel 0 rfl | exact S.cel 1 rfl | exact S.cel 2 rfl | exact S.cel 3 rfl | exact S.cel 4 rfl) rfl ?_
        refine o_len gn rfl rfl (by kernel_rfl) ?_
        refine o_move gn rfl rfl ?_
        refine wl_end ?_
        refine w_block ?_
        refine w_loopS [(28, _)] [(3, _), (4, _), (18, _), (19, _), (20, _), (26, _), (27, _)] (by repeat (first | exact trivial | refine ⟨rfl, ?_⟩)) (fun kk lv hh => ∃ (k : Nat) (os : List Int), lv = [(28, iV k)] ∧ kk = kids.length - k ∧ k ≤ kids.length ∧ SH h [] [cR b3 (.cells (twC K s N L Co (.slice ka kids.length kc)) 30 0), cR b2 (.cells (isV os) 3 0), cR b1 (.cells [.slice ta T.length tc] 24 0)] hh ∧ os.length = T.length ∧ UpTo T os i (kids.take k)) (n := (kids.length)) ?_ fun kk lv hh hI => ?_
        · exact ⟨0, os, rfl, rfl, by omega, S, hol, hU⟩
        · obtain ⟨k, os, rfl, hkk2, hk3, S, hol, hU⟩ := hI
          refine w_seq ?_
          refine w_region (by kernel_rfl) ?_
          refine o_lss gn rfl rfl rfl ?_
          refine wl_end ?_
          refine w_seq ?_
          refine w_cond rfl (fun hb => ?_) fun hb => ?_
          · skip
            refine w_skip ?_
            have hkl2 : k < kids.length := by simp at hb; omega
            obtain ⟨kb, ko, kc', kcs, ke, km, hv2, hg2, hlt2, hat2⟩ := hm.atM (by omega)
            have hka2 : ka = some ⟨kb, ko, none⟩ := by injection hv2
            obtain ⟨q, hq⟩ : ∃ q : Nat, kids[k] = q := ⟨kids[k].toNat, by
              have := hO.1 i (by omega) hi kids[k] (by rw [hka]; exact List.getElem_mem hkl2); omega⟩
            have hqm : (q : Int) ∈ kidsAt T i := by rw [hka, ← hq]; exact List.getElem_mem hkl2
            have hqr := hO.1 i (by omega) hi _ hqm
            have hat3 : kcs[ko + k]? = some (iV q) := by rw [hat2 k hkl2, hq]
            refine w_seq ?_
            refine w_block ?_
            refine w_seq ?_
            refine w_region (by kernel_rfl) ?_
            rw [hka2]
            refine o_indexAddr (zz := 1) gn rfl rfl rfl (by kernel_rfl) (by omega) (by omega) ?_
            rw [← hka2]
            refine o_load gn rfl rfl (by kernel_rfl) (S.old0 hg2 hlt2) (by rw [Int.toNat_natCast, Nat.mul_one]; exact hat3) ?_
            refine o_assign gn rfl rfl ?_
            refine wl_end ?_
            refine w_region (by kernel_rfl) ?_
            refine o_move gn rfl rfl ?_
            refine o_move gn rfl rfl ?_
            refine o_move gn rfl rfl ?_
            refine o_indexAddr (zz := 1) gn rfl rfl rfl (by kernel_rfl) (by omega) (by omega) ?_
            refine s_store 1 S gn rfl rfl rfl (by kernel_rfl) rfl (by decide) (by rw [Int.toNat_natCast, List.length_map]; omega) (fun g S => ag0) fun g S => ?_
            have S : SH h [] [cR b3 (.cells (twC K s N L Co (.slice ka kids.length kc)) 30 0), cR b2 (.cells (isV (os.set q i)) 3 0), cR b1 (.cells [.slice ta T.length tc] 24 0)] g := by
              rw [← set_isV]
              have e : 0 + Int.toNat (q : Int) * 1 = q := by omega
              rw [e] at S; exact S
            refine wl_end ?_
            refine w_region (by kernel_rfl) ?_
            refine o_add gn rfl rfl rfl (by omega) (by omega) ?_
            refine o_move gn rfl rfl ?_
            refine wl_end ?_
            exact rndS (kids.length - (k + 1)) (by omega) [(28, _)] (by repeat (first | exact trivial | refine ⟨rfl, ?_⟩)) ⟨k + 1, os.set q i, rfl, rfl, by omega, S, by rw [List.length_set]; exact hol, by
              rw [List.take_add_one, List.getElem?_eq_getElem hkl2, hq]
              exact upTo_set hqm hU⟩
          · skip
            refine w_exit ?_
            refine thn_exit ?_
            refine rnd_exit ?_
            refine blk_eq ?_
            refine w_region (by kernel_rfl) ?_
            refine o_add gn rfl rfl rfl (by omega) (by omega) ?_
            refine o_move gn rfl rfl ?_
            refine wl_end ?_
            exact rndS (T.length - (i + 1)) (by omega) [(20, _)] (by repeat (first | exact trivial | refine ⟨rfl, ?_⟩)) ⟨i + 1, os, rfl, rfl, by omega, S.drop, hol, by
              rw [List.take_of_length_le (by simp at hb; omega), ← hka] at hU
              exact upTo_next hU⟩
      · skip
        refine w_exit ?_
        refine thn_exit ?_
        refine rnd_exit ?_
        refine blk_eq ?_
        refine w_seq ?_
        refine w_region (by kernel_rfl) ?_
        refine o_move gn rfl rfl ?_
        refine o_assign gn rfl rfl ?_
        refine wl_end ?_
        refine w_ret ?_
        refine ⟨.inl rfl, _, rfl, ?_⟩
        exact ⟨⟨os, RowV.of (S.cel 0 rfl) (S.lt1 0 rfl) (by rw [List.length_map, hol]; rfl), fun e => (by rw [hmay] at e; cases e), fun _ => ⟨hol, upTo_end hol hO (by
          have : i = T.length := by simp at hb; omega
          rw [this] at hU; exact hU)⟩⟩, S.e0⟩

/-- TreeSames -/
theorem c7 (B : Blk h) (X1 : TreeAt h va A) (X2 : TreeAt h vb D) (hk1 : ∀ t, t ∈ A → t.kids.length ≤ 9223372036854775807) (hk2 : ∀ t, t ∈ D → t.kids.length ≤ 9223372036854775807) : C trE 7 [.agg #[va], .agg #[vb]] h fun v _ => v = .bool true := by
  have Y1 := X1
  have Y2 := X2
  obtain ⟨a1, c1, rfl⟩ := X1.val
  obtain ⟨a2, c2, rfl⟩ := X2.val
  refine c_enter (fu := Tryd.f7) (by kernel_rfl) rfl ?_
  have S := SH.start h
  refine w_seq ?_
  refine w_region (by kernel_rfl) ?_
  refine s_box S gn rfl rfl fun b1 g nb1 S => ?_
  refine s_box S gn rfl rfl fun b2 g nb2 S => ?_
  refine o_assign gn rfl rfl ?_
  refine wl_end ?_
  refine w_cutS [(2, ptrV b1), (3, ptrV b2)] (fun lv hh => lv = [] ∧ SH h [] [cR b2 (.cells [.slice a2 D.length c2] 24 0), cR b1 (.cells [.slice a1 A.length c1] 24 0)] hh ∧ muchT A 300 = false ∧ muchT D 300 = false) ?_ fun lv hh hJ => ?_
  · skip
    refine w_seq ?_
    refine w_region (by kernel_rfl) ?_
    refine o_loadA (n := 1) gn rfl rfl (by kernel_rfl) (by kernel_rfl) (by first | exact S.cel 0 rfl | exact S.cel 1 rfl | exact S.cel 2 rfl | exact S.cel 3 rfl) (by first | decide | exact Nat.le_refl _ | (simp; done)) ?_
    refine o_call [_, _] gn rfl rfl (by kernel_rfl) rfl (C.mono (c8 (Y1.ext S.e0)) ?_)
    rintro v g ⟨rfl, x⟩
    have S := S.grow x
    refine ⟨ag0, ?_⟩
    refine o_move gn rfl rfl ?_
    refine wl_split (dc := 9) rfl (fun hb9 => ?_) fun hb9 => ?_
    · skip
      refine wl_skips (n := 2) (dc := 9) (w := false) rfl hb9 rfl ?_
      refine o_pickt gn rfl rfl hb9 rfl ?_
      refine wl_end ?_
      refine w_cond rfl (fun hb => ?_) fun hb => ?_
      · skip
        refine w_seq ?_
        refine w_region (by kernel_rfl) ?_
        refine o_sm [] gn rfl rfl (by kernel_rfl) (by kernel_rfl) sm9 rfl (knows (B.ext S.e0).t) (.refl _) ag0 ?_
        refine o_assign gn rfl rfl ?_
        refine wl_end ?_
        refine w_ret ?_
        refine ⟨.inl rfl, _, rfl, ?_⟩
        exact rfl
      · skip
        exact absurd hb (by decide)
    · skip
      refine o_loadA (n := 1) (gy rfl rfl rfl hb9) rfl rfl (by kernel_rfl) (by kernel_rfl) (by first | exact S.cel 0 rfl | exact S.cel 1 rfl | exact S.cel 2 rfl | exact S.cel 3 rfl) (by first | decide | exact Nat.le_refl _ | (simp; done)) ?_
      refine o_call [_, _] (gy rfl rfl rfl hb9) rfl rfl (by kernel_rfl) rfl (C.mono (c8 (Y2.ext S.e0)) ?_)
      rintro v g ⟨rfl, x⟩
      have S := S.grow x
      refine ⟨ag0, ?_⟩
      refine o_pickf gn rfl rfl hb9 rfl ?_
      refine wl_end ?_
      refine w_cond rfl (fun hb => ?_) fun hb => ?_
      · skip
        refine w_seq ?_
        refine w_region (by kernel_rfl) ?_
        refine o_sm [] gn rfl rfl (by kernel_rfl) (by kernel_rfl) sm9 rfl (knows (B.ext S.e0).t) (.refl _) ag0 ?_
        refine o_assign gn rfl rfl ?_
        refine wl_end ?_
        refine w_ret ?_
        refine ⟨.inl rfl, _, rfl, ?_⟩
        exact rfl
      · skip
        refine w_skip ?_
        exact cutS [] (by repeat (first | exact trivial | refine ⟨rfl, ?_⟩)) ⟨rfl, S, hb9, hb⟩
  · obtain ⟨rfl, S, hm1, hm2⟩ := hJ
    obtain ⟨l1, s1⟩ := much_no hm1
    obtain ⟨l2, s2⟩ := much_no hm2
    refine w_cutS [(2, ptrV b1)] (fun lv hh => lv = [] ∧ SH h [] [cR b2 (.cells [.slice a2 D.length c2] 24 0), cR b1 (.cells [.slice a1 A.length c1] 24 0)] hh) ?_ fun lv hh hJ => ?_
    · skip
      refine w_seq ?_
      refine w_draw [(0, []), (1, []), (3, []), (4, []), (2, [3, 4]), (5, []), (6, []), (7, []), (8, []), (9, []), (11, []), (12, []), (10, [11, 12]), (13, []), (14, []), (15, []), (16, []), (17, []), (18, []), (19, []), (20, []), (21, [])] (by kernel_rfl) (by kernel_rfl) (by kernel_rfl) (by kernel_rfl) ?_
      refine o_loadA (n := 1) gn rfl rfl (by kernel_rfl) (by kernel_rfl) (by first | exact S.cel 0 rfl | exact S.cel 1 rfl | exact S.cel 2 rfl | exact S.cel 3 rfl) (by first | decide | exact Nat.le_refl _ | (simp; done)) ?_
      refine o_loadA (n := 1) gn rfl rfl (by kernel_rfl) (by kernel_rfl) (by first | exact S.cel 0 rfl | exact S.cel 1 rfl | exact S.cel 2 rfl | exact S.cel 3 rfl) (by first | decide | exact Nat.le_refl _ | (simp; done)) ?_
      refine o_loadA (n := 1) gn rfl rfl (by kernel_rfl) (by kernel_rfl) (by first | exact S.cel 0 rfl | exact S.cel 1 rfl | exact S.cel 2 rfl | exact S.cel 3 rfl) (by first | decide | exact Nat.le_refl _ | (simp; done)) ?_
      refine o_loadA (n := 1) gn rfl rfl (by kernel_rfl) (by kernel_rfl) (by first | exact S.cel 0 rfl | exact S.cel 1 rfl | exact S.cel 2 rfl | exact S.cel 3 rfl) (by first | decide | exact Nat.le_refl _ | (simp; done)) ?_
      refine o_call [_, _] gn rfl rfl (by kernel_rfl) rfl (C.mono (c21 (Y1.ext S.e0) (Y2.ext S.e0) (by omega) hk1) ?_)
      rintro v g ⟨rfl, x⟩
      have S := S.grow x
      refine ⟨(ag1 (ag_loadA (n := 1) gn rfl (by kernel_rfl) (by kernel_rfl) (by first | exact S.cel 0 rfl | exact S.cel 1 rfl | exact S.cel 2 rfl | exact S.cel 3 rfl) (by first | decide | exact Nat.le_refl _ | (simp; done)) rfl (same1 _ _ _)) (ag1 (ag_loadA (n := 1) gn rfl (by kernel_rfl) (by kernel_rfl) (by first | exact S.cel 0 rfl | exact S.cel 1 rfl | exact S.cel 2 rfl | exact S.cel 3 rfl) (by first | decide | exact Nat.le_refl _ | (simp; done)) rfl (same1 _ _ _)) ag0)), ?_⟩
      refine o_call [_, _] gn rfl rfl (by kernel_rfl) rfl (C.mono (c14 (Y1.ext S.e0) (Y2.ext S.e0) (by omega) hk1) ?_)
      rintro v g ⟨rfl, x⟩
      have S := S.grow x
      refine ⟨ag0, ?_⟩
      refine o_neb gn rfl rfl rfl (by kernel_rfl) ?_
      refine o_move gn rfl rfl ?_
      refine wl_split (dc := 21) rfl (fun hb21 => ?_) fun hb21 => ?_
      · skip
        exact absurd hb21 (by simp)
      · skip
        refine o_loadA (n := 1) (gy rfl rfl rfl hb21) rfl rfl (by kernel_rfl) (by kernel_rfl) (by first | exact S.cel 0 rfl | exact S.cel 1 rfl | exact S.cel 2 rfl | exact S.cel 3 rfl) (by first | decide | exact Nat.le_refl _ | (simp; done)) ?_
        refine o_loadA (n := 1) (gy rfl rfl rfl hb21) rfl rfl (by kernel_rfl) (by kernel_rfl) (by first | exact S.cel 0 rfl | exact S.cel 1 rfl | exact S.cel 2 rfl | exact S.cel 3 rfl) (by first | decide | exact Nat.le_refl _ | (simp; done)) ?_
        refine o_loadA (n := 1) (gy rfl rfl rfl hb21) rfl rfl (by kernel_rfl) (by kernel_rfl) (by first | exact S.cel 0 rfl | exact S.cel 1 rfl | exact S.cel 2 rfl | exact S.cel 3 rfl) (by first | decide | exact Nat.le_refl _ | (simp; done)) ?_
        refine o_loadA (n := 1) (gy rfl rfl rfl hb21) rfl rfl (by kernel_rfl) (by kernel_rfl) (by first | exact S.cel 0 rfl | exact S.cel 1 rfl | exact S.cel 2 rfl | exact S.cel 3 rfl) (by first | decide | exact Nat.le_refl _ | (simp; done)) ?_
        refine o_call [_, _] (gy rfl rfl rfl hb21) rfl rfl (by kernel_rfl) rfl (C.mono (c21 (Y2.ext S.e0) (Y1.ext S.e0) (by omega) hk2) ?_)
        rintro v g ⟨rfl, x⟩
        have S := S.grow x
        refine ⟨(ag1 (ag_loadA (n := 1) (gy rfl rfl rfl hb21) rfl (by kernel_rfl) (by kernel_rfl) (by first | exact S.cel 0 rfl | exact S.cel 1 rfl | exact S.cel 2 rfl | exact S.cel 3 rfl) (by first | decide | exact Nat.le_refl _ | (simp; done)) rfl (same1 _ _ _)) (ag1 (ag_loadA (n := 1) (gy rfl rfl rfl hb21) rfl (by kernel_rfl) (by kernel_rfl) (by first | exact S.cel 0 rfl | exact S.cel 1 rfl | exact S.cel 2 rfl | exact S.cel 3 rfl) (by first | decide | exact Nat.le_refl _ | (simp; done)) rfl (same1 _ _ _)) ag0)), ?_⟩
        refine o_call [_, _] (gy rfl rfl rfl hb21) rfl rfl (by kernel_rfl) rfl (C.mono (c14 (Y1.ext S.e0) (Y2.ext S.e0) (by omega) hk1) ?_)
        rintro v g ⟨rfl, x⟩
        have S := S.grow x
        refine ⟨ag0, ?_⟩
        refine o_neb (gy rfl rfl rfl hb21) rfl rfl rfl (by kernel_rfl) ?_
        refine o_pickf gn rfl rfl hb21 rfl ?_
        refine o_move gn rfl rfl ?_
        refine wl_split (dc := 30) rfl (fun hb30 => ?_) fun hb30 => ?_
        · skip
          exact absurd hb30 (by rw [sameT_comm D A]; simp)
        · skip
          refine o_loadA (n := 1) (gy rfl rfl rfl hb30) rfl rfl (by kernel_rfl) (by kernel_rfl) (by first | exact S.cel 0 rfl | exact S.cel 1 rfl | exact S.cel 2 rfl | exact S.cel 3 rfl) (by first | decide | exact Nat.le_refl _ | (simp; done)) ?_
          refine o_loadA (n := 1) (gy rfl rfl rfl hb30) rfl rfl (by kernel_rfl) (by kernel_rfl) (by first | exact S.cel 0 rfl | exact S.cel 1 rfl | exact S.cel 2 rfl | exact S.cel 3 rfl) (by first | decide | exact Nat.le_refl _ | (simp; done)) ?_
          refine o_call [_, _] (gy rfl rfl rfl hb30) rfl rfl (by kernel_rfl) rfl (C.mono (c21 (Y1.ext S.e0) (Y1.ext S.e0) (by omega) hk1) ?_)
          rintro v g ⟨rfl, x⟩
          have S := S.grow x
          refine ⟨ag0, ?_⟩
          refine o_not (gy rfl rfl rfl hb30) rfl rfl ?_
          refine o_pickf gn rfl rfl hb30 rfl ?_
          refine wl_end ?_
          refine w_cond rfl (fun hb => ?_) fun hb => ?_
          · skip
            refine w_seq ?_
            exact absurd hb (by rw [sameT_refl]; simp)
          · skip
            refine w_skip ?_
            exact cutS [] (by repeat (first | exact trivial | refine ⟨rfl, ?_⟩)) ⟨rfl, S⟩
    · obtain ⟨rfl, S⟩ := hJ
      refine w_seq ?_
      refine w_region (by kernel_rfl) ?_
      refine o_loadA (n := 1) gn rfl rfl (by kernel_rfl) (by kernel_rfl) (by first | exact S.cel 0 rfl | exact S.cel 1 rfl | exact S.cel 2 rfl | exact S.cel 3 rfl) (by first | decide | exact Nat.le_refl _ | (simp; done)) ?_
      refine o_call [_] gn rfl rfl (by kernel_rfl) rfl (C.mono (c22 (B.ext S.e0) (Y1.ext S.e0) (by omega) s1 hk1) ?_)
      rintro v g ⟨⟨os, R, hno, hyes⟩, x⟩
      obtain ⟨la, lc, rfl⟩ := R.valM
      have S := S.grow x
      refine ⟨ag0, ?_⟩
      refine o_assign gn rfl rfl ?_
      refine wl_end ?_
      refine w_seq ?_
      refine w_seq ?_
      refine w_region (by kernel_rfl) ?_
      refine o_loadA (n := 1) gn rfl rfl (by kernel_rfl) (by kernel_rfl) (by first | exact S.cel 0 rfl | exact S.cel 1 rfl | exact S.cel 2 rfl | exact S.cel 3 rfl) (by first | decide | exact Nat.le_refl _ | (simp; done)) ?_
      refine o_call [_] gn rfl rfl (by kernel_rfl) rfl (C.mono (c11 (Y1.ext S.e0) (by omega) s1) ?_)
      rintro v g ⟨rfl, x⟩
      have R := R.ext x
      have S := S.grow x
      refine ⟨ag0, ?_⟩
      refine o_not gn rfl rfl ?_
      refine wl_end ?_
      refine w_cond rfl (fun hb => ?_) fun hb => ?_
      · skip
        refine w_seq ?_
        refine w_region (by kernel_rfl) ?_
        refine o_move gn rfl rfl ?_
        refine o_len gn rfl rfl (by kernel_rfl) ?_
        refine o_eqi gn rfl rfl rfl ?_
        refine o_move gn rfl rfl ?_
        refine wl_split (dc := 44) rfl (fun hb44 => ?_) fun hb44 => ?_
        · skip
          refine o_sm [] (gy rfl rfl rfl hb44) rfl rfl (by kernel_rfl) (by kernel_rfl) sm9 rfl (knows (B.ext S.e0).t) (.refl _) ag0 ?_
          refine o_pickt gn rfl rfl hb44 rfl ?_
          refine o_assign gn rfl rfl ?_
          refine wl_end ?_
          refine w_ret ?_
          refine ⟨.inl rfl, _, rfl, ?_⟩
          exact rfl
        · skip
          refine wl_skips (n := 1) (dc := 44) (w := true) rfl hb44 rfl ?_
          refine o_pickf gn rfl rfl hb44 rfl ?_
          refine o_assign gn rfl rfl ?_
          refine wl_end ?_
          refine w_ret ?_
          refine ⟨.inl rfl, _, rfl, ?_⟩
          exact absurd hb44 (by
            have hm : mayS A = false := by simpa using hb
            rw [hno hm]; simp)
      · skip
        refine w_skip ?_
        have hm : mayS A = true := by simpa using hb
        obtain ⟨hol, hup⟩ := hyes hm
        refine w_seq ?_
        refine w_seq ?_
        refine w_region (by kernel_rfl) ?_
        refine o_move gn rfl rfl ?_
        refine o_len gn rfl rfl (by kernel_rfl) ?_
        refine o_fieldAddr (off := 0) gn rfl rfl (by kernel_rfl) ?_
        refine o_load gn rfl rfl (by kernel_rfl) (by first | exact S.cel 0 rfl | exact S.cel 1 rfl | exact S.cel 2 rfl | exact S.cel 3 rfl) rfl ?_
        refine o_len gn rfl rfl (by kernel_rfl) ?_
        refine o_nei gn rfl rfl rfl ?_
        refine wl_end ?_
        refine w_cond rfl (fun hb => ?_) fun hb => ?_
        · skip
          refine w_seq ?_
          exact absurd hb (by rw [hol]; simp)
        · skip
          refine w_skip ?_
          refine w_seq ?_
          refine w_seq ?_
          refine w_region (by kernel_rfl) ?_
          refine o_assign gn rfl rfl ?_
          refine wl_end ?_
          refine w_block ?_
          refine w_loopS [(6, _)] [(2, _), (5, _)] (by repeat (first | exact trivial | refine ⟨rfl, ?_⟩)) (fun kk lv hh => ∃ i : Nat, lv = [(6, iV i)] ∧ kk = A.length - i ∧ i ≤ A.length ∧ SH h [] [cR b2 (.cells [.slice a2 D.length c2] 24 0), cR b1 (.cells [.slice a1 A.length c1] 24 0)] hh ∧ RowV hh (.slice la os.length lc) (isV os)) (n := (A.length)) ?_ fun kk lv hh hI => ?_
          · exact ⟨0, rfl, rfl, by omega, S, R⟩
          · obtain ⟨i, rfl, hkk, hi3, S, R⟩ := hI
            refine w_seq ?_
            refine w_seq ?_
            refine w_region (by kernel_rfl) ?_
            refine o_move gn rfl rfl ?_
            refine o_move gn rfl rfl ?_
            refine o_len gn rfl rfl (by kernel_rfl) ?_
            refine o_lss gn rfl rfl rfl ?_
            refine wl_end ?_
            refine w_cond rfl (fun hb => ?_) fun hb => ?_
            · skip
              refine w_skip ?_
              have hi : i < os.length := by simp at hb; omega
              obtain ⟨kb, ko, kc', kcs, ke, km, hv2, hg2, hlt2, hat2⟩ := R.atM (by omega)
              have hla : la = some ⟨kb, ko, none⟩ := by injection hv2
              refine w_seq ?_
              refine w_block ?_
              refine w_seq ?_
              refine w_draw [(0, []), (1, []), (2, []), (3, []), (4, []), (5, []), (6, [3]), (7, [])] (by kernel_rfl) (by kernel_rfl) (by kernel_rfl) (by kernel_rfl) ?_
              refine o_move gn rfl rfl ?_
              refine o_move gn rfl rfl ?_
              rw [hla]
              refine o_indexAddr (zz := 1) gn rfl rfl rfl (by kernel_rfl) (by omega) (by omega) ?_
              refine o_load gn rfl rfl (by kernel_rfl) hg2 (by rw [Int.toNat_natCast, Nat.mul_one]; exact hat2 i hi) ?_
              refine o_loadA (n := 1) gn rfl rfl (by kernel_rfl) (by kernel_rfl) (by first | exact S.cel 0 rfl | exact S.cel 1 rfl | exact S.cel 2 rfl | exact S.cel 3 rfl) (by first | decide | exact Nat.le_refl _ | (simp; done)) ?_
              refine o_move gn rfl rfl ?_
              refine o_call [_, _] gn rfl rfl (by kernel_rfl) rfl (C.mono (c23 (Y1.ext S.e0) (by omega) (by omega) hk1) ?_)
              rintro v g ⟨⟨r, rfl, hr⟩, x⟩
              have R := R.ext x
              have S := S.grow x
              refine ⟨(ag1 (ag_load gn rfl (by kernel_rfl) ((x.get kb hlt2).trans hg2) (by rw [Int.toNat_natCast, Nat.mul_one]; exact hat2 i hi) rfl same_int) ag0), ?_⟩
              rw [← hla]
              refine o_nei gn rfl rfl rfl ?_
              refine wl_end ?_
              refine w_cond rfl (fun hb => ?_) fun hb => ?_
              · skip
                refine w_seq ?_
                exact absurd hb (by rw [(hup i hi).one hr]; simp)
              · skip
                refine w_skip ?_
                refine w_region (by kernel_rfl) ?_
                refine o_move gn rfl rfl ?_
                refine o_add gn rfl rfl rfl (by omega) (by omega) ?_
                refine o_assign gn rfl rfl ?_
                refine wl_end ?_
                exact rndS (A.length - (i + 1)) (by omega) [(6, _)] (by repeat (first | exact trivial | refine ⟨rfl, ?_⟩)) ⟨i + 1, rfl, rfl, by omega, S, R⟩
            · skip
              refine w_exit ?_
              refine thn_exit ?_
              refine rnd_exit ?_
              refine blk_eq ?_
              refine w_seq ?_
              refine w_region (by kernel_rfl) ?_
              refine o_sm [] gn rfl rfl (by kernel_rfl) (by kernel_rfl) sm9 rfl (knows (B.ext S.e0).t) (.refl _) ag0 ?_
              refine o_assign gn rfl rfl ?_
              refine wl_end ?_
              refine w_ret ?_
              refine ⟨.inl rfl, _, rfl, ?_⟩
              exact rfl
end
end Go.Proofs.YtoejddhaiogonaaDoor


namespace Go.Proofs.YtoejddhaiogonaaDoor
open Go.ChangeShapes Go.WideShapes Go.ChangeAt Go.RowKit Go.Deep Go.X

set_option maxRecDepth 100000

theorem tre_bool : Tryd.prog.underlying 4 = some .bool := by kernel_rfl
theorem tre_own : ownKnob Tryd.prog.godebug = none := by kernel_rfl
theorem tre_laid : laidOutB Tryd.prog = true := by kernel_rfl
theorem tre_int : Tryd.prog.underlying 3 = some (.int .i64) := by kernel_rfl
theorem tre_i64 : Tryd.prog.underlying 2 = some (.int .i64) := by kernel_rfl
theorem tre_kind : Tryd.prog.underlying 27 = some (.int .i64) := by kernel_rfl
theorem tre_str : Tryd.prog.underlying 9 = some .string := by kernel_rfl
theorem tre_ints : Tryd.prog.underlying 28 = some (.slice 3) := by kernel_rfl
theorem tre_twigs : Tryd.prog.underlying 22 = some (.slice 30) := by kernel_rfl
theorem tre_c24 : Tryd.prog.cellsOf 24 = 1 := by kernel_rfl
theorem tre_ct24 : Tryd.prog.cellTypes Tryd.prog.depth 24 = some [22] := by kernel_rfl
theorem tre_c22 : Tryd.prog.cellsOf 22 = 1 := by kernel_rfl
theorem tre_c30 : Tryd.prog.cellsOf 30 = 6 := by kernel_rfl
theorem tre_c27 : Tryd.prog.cellsOf 27 = 1 := by kernel_rfl
theorem tre_c9 : Tryd.prog.cellsOf 9 = 1 := by kernel_rfl
theorem tre_c2 : Tryd.prog.cellsOf 2 = 1 := by kernel_rfl
theorem tre_c3 : Tryd.prog.cellsOf 3 = 1 := by kernel_rfl
theorem tre_c28 : Tryd.prog.cellsOf 28 = 1 := by kernel_rfl
noncomputable def treeFs : Array Field := match Tryd.prog.underlying 24 with | some (.struct fs) => fs | _ => #[]
theorem tree_struct : Tryd.prog.underlying 24 = some (.struct treeFs) := by kernel_rfl
noncomputable def twigFs : Array Field := match Tryd.prog.underlying 30 with | some (.struct fs) => fs | _ => #[]
theorem twig_struct : Tryd.prog.underlying 30 = some (.struct twigFs) := by kernel_rfl
theorem tre_named : Tryd.prog.globalNamed "strings.asciiSpace" = some 1 := by kernel_rfl
theorem tre_type : (Tryd.prog.globals[1]?).map (·.type) = some 121 := by kernel_rfl
theorem tre_arr : Tryd.prog.underlying 121 = some (.array 256 5) := by kernel_rfl
theorem tre_u8 : Tryd.prog.underlying 5 = some (.int .u8) := by kernel_rfl
theorem tre_cell : Tryd.prog.cellsOf 5 = 1 := by kernel_rfl
theorem tre_cells : Tryd.prog.cellsOf 121 = 256 := by kernel_rfl

/-- strings.asciiSpace, as numbers -/
def spaceI : List Int := (List.range 256).map fun i => cond (Nat.beq i 32 || (Nat.ble 9 i && Nat.ble i 13)) 1 0
theorem spaceI_eq : spaceI.map (Value.int .u8) = spaces := by unfold spaceI spaces; rw [List.map_map]; apply List.map_congr_left; intro i _; simp only [Function.comp]
theorem blank_of {L : List (String × DataW Unit)} (hb : ((L.filter fun x => x.2.handleName?.isNone).filter fun x => x.1 == "strings.asciiSpace") = [("strings.asciiSpace", Lib.tabData .u8 spaceI)]) {W : World} (h : laidMetH Tryd.prog L W) : tabThere 1 spaces (Hp.all W) = true := by
  have h1 := (laidMetH_iff.1 h).1.filter fun x => x.1 == "strings.asciiSpace"
  rw [hb] at h1
  have hT : Lib.TabIs Tryd.prog W "strings.asciiSpace" .u8 spaceI := Lib.tabIs_of_head tre_named tre_type tre_arr tre_u8 tre_cell tre_cells (rest := []) h1
  obtain ⟨e, fr, hg⟩ := tab_block tre_named hT
  have hget : (Hp.all W).get 1 = some (.cells spaces e 1) := by
    rw [Hp.all_get, allObj, hg]
    simp only [Option.some.injEq, AObj.cells.injEq, and_true]
    rw [← spaceI_eq, List.map_map]
    refine List.map_congr_left fun n _ => ?_
    exact selfX_eq (.int _ _)
  have hs : tabThere 1 spaces (Hp.empty.put 1 (.cells spaces 0 1)) = true := by kernel_rfl
  unfold tabThere at *
  rw [hget]
  rw [Hp.get_put, if_pos rfl] at hs
  exact hs
theorem blk_of {L : List (String × DataW Unit)} (hb : ((L.filter fun x => x.2.handleName?.isNone).filter fun x => x.1 == "strings.asciiSpace") = [("strings.asciiSpace", Lib.tabData .u8 spaceI)]) {W : World} (h : laidMetH Tryd.prog L W) : Blk (Hp.all W) :=
  ⟨blank_of hb h, by have := topB_256 W; show 1 < topB W; omega⟩

/-- A row of whole numbers. -/
theorem ints_rd {h : Hp} {cs : List Value} (x : Rd Tryd.prog h 28 cs) : ∃ v kids, cs = [v] ∧ RowV h v (isV kids) ∧ kids.length ≤ 9223372036854775807 := by
  obtain ⟨a, n, c, rfl, hn, hc, _, _, hrow⟩ := x.inv_slice tre_ints (by rw [tre_c3]; omega)
  have hm : n ≤ 9223372036854775807 := by have : maxLen = 9223372036854775807 := by decide
                                          omega
  rcases hrow with rfl | ⟨b, o, xs, u, rfl, hb, hg, hl, hr⟩
  · exact ⟨_, [], rfl, .inl ⟨rfl, a, c, rfl⟩, by simp⟩
  · rw [tre_c3] at hl hr
    obtain ⟨kids, hkl, hk⟩ := rows_of (Q := fun i (k : Int) => (xs.drop (o + i * 1)).take 1 = [.int .i64 k]) fun i hi => by
      obtain ⟨k, e, _⟩ := (hr i hi).inv_int tre_int; exact ⟨k, e⟩
    refine ⟨_, kids, rfl, .inr ⟨b, o, c, xs, u, 1, by rw [List.length_map, hkl], hg, hb, fun i hi => ?_⟩, by omega⟩
    have hi' : i < kids.length := by simpa using hi
    have := one_at (hk i hi')
    rw [Nat.mul_one] at this
    rw [this, List.getElem_map]
/-- A twig. -/
theorem twig_rd {h : Hp} {cs : List Value} (x : Rd Tryd.prog h 30 cs) : ∃ w : Tw, cs = w.cells ∧ RowV h w.ks (isV w.kids) ∧ w.kids.length ≤ 9223372036854775807 := by
  have hl := (x.inv_struct twig_struct).1
  rw [tre_c30] at hl
  obtain ⟨K, e0, _⟩ := x.fld_int twig_struct 0 0 27 rfl ⟨rfl, rfl⟩ tre_kind tre_c27
  obtain ⟨s, e1, _⟩ := x.fld_string twig_struct 1 1 9 rfl ⟨rfl, rfl⟩ tre_str tre_c9
  obtain ⟨N, e2, _⟩ := x.fld_int twig_struct 2 2 2 rfl ⟨rfl, rfl⟩ tre_i64 tre_c2
  obtain ⟨L, e3, _⟩ := x.fld_int twig_struct 3 3 3 rfl ⟨rfl, rfl⟩ tre_int tre_c3
  obtain ⟨Co, e4, _⟩ := x.fld_int twig_struct 4 4 3 rfl ⟨rfl, rfl⟩ tre_int tre_c3
  have h5 := x.fld twig_struct 5 5 28 rfl ⟨rfl, rfl⟩
  rw [tre_c28] at h5
  obtain ⟨v, kids, e5, hk, hkl⟩ := ints_rd h5
  match cs, hl with
  | [c0, c1, c2, c3, c4, c5], _ =>
    simp only [List.getElem?_cons_zero, List.getElem?_cons_succ, Option.some.injEq] at e0 e1 e2 e3 e4
    simp only [List.drop_succ_cons, List.drop_zero, List.take_succ_cons, List.take_zero, List.cons.injEq, and_true] at e5
    subst e0; subst e1; subst e2; subst e3; subst e4; subst e5
    exact ⟨⟨K, s, N, L, Co, c5, kids⟩, rfl, hk, hkl⟩
/-- A tree's twigs. -/
theorem twigs_rd {h : Hp} {v : Value} (x : Rd Tryd.prog h 22 [v]) : ∃ T, TreeAt h v T ∧ ∀ t, t ∈ T → t.kids.length ≤ 9223372036854775807 := by
  obtain ⟨a, n, c, e, _, _, _, _, hrow⟩ := x.inv_slice tre_twigs (by rw [tre_c30]; omega)
  simp only [List.cons.injEq, and_true] at e
  subst e
  rcases hrow with rfl | ⟨b, o, xs, u, rfl, hb, hg, hl, hr⟩
  · exact ⟨[], ⟨.inl ⟨rfl, a, c, rfl⟩, by simp⟩, by simp⟩
  · rw [tre_c30] at hl hr
    obtain ⟨T, hTl, hT⟩ := rows_of (Q := fun i (w : Tw) => (xs.drop (o + i * 6)).take 6 = w.cells ∧ RowV h w.ks (isV w.kids) ∧ w.kids.length ≤ 9223372036854775807) fun i hi => twig_rd (hr i hi)
    refine ⟨T, ⟨.inr ⟨b, o, c, xs, u, 1, by rw [hTl], hg, hb, by rw [hTl]; exact hl, fun i hi => (hT i hi).1⟩, fun t ht => ?_⟩, fun t ht => ?_⟩
    · obtain ⟨i, hi, rfl⟩ := List.mem_iff_getElem.1 ht
      exact (hT i hi).2.1
    · obtain ⟨i, hi, rfl⟩ := List.mem_iff_getElem.1 ht
      exact (hT i hi).2.2
/-- A tree that is an argument. -/
theorem tree_arg {H : Type} {enc : TypeId × Value → H} {W : World} {r : Reach} {base : Nat} {v : Value} {d : DataW H} {ps : List MemPlace} (hok : Value.okWide Tryd.prog W r base 24 v) (ht : DataW.Trod enc Tryd.prog W 0 (fun _ => true) true 24 v d ps) :
    ∃ sv T, v = .agg #[sv] ∧ VRel (Mp.all W) sv sv ∧ TreeAt (Hp.all W) sv T ∧ ∀ t, t ∈ T → t.kids.length ≤ 9223372036854775807 := by
  simp only [Value.okWide, tree_struct] at hok
  obtain ⟨cs, rfl, hsz, ts, hts, _, hc⟩ := hok
  rw [tre_ct24, Option.some.injEq] at hts
  subst hts
  rw [tre_c24] at hsz
  obtain ⟨cs⟩ := cs
  match cs, hsz with
  | [f], _ =>
    obtain ⟨_, e0, h0⟩ := hc 0 f rfl
    simp at e0
    subst e0
    have h6 : Value.okWide Tryd.prog W r base 22 f := by simp only [Value.okWide, tre_twigs]; exact h0
    obtain ⟨fuel, hf⟩ := ht
    have hcl : (Value.agg #[f]).cells.toList = [f] := rfl
    rw [hcl] at hf
    have hv : VRel (Mp.all W) f f ∧ refB f ≤ topB W := by
      rcases okSlice tre_twigs h6 with rfl | ⟨a, len, cap, rfl, hb⟩
      · exact ⟨.nils 0 0, by simp [refB]⟩
      · refine ⟨all_slice (w := W) a len cap hb, ?_⟩
        have := topB_size W
        simp only [refB]; omega
    have hr := rd_of_trod fuel 24 _ _ (fun v hv' => by
      simp only [List.mem_singleton] at hv'
      subst hv'; exact hv.2) hf
    rw [selfX_of hv.1] at hr
    have h7 := hr.fld tree_struct 0 0 22 rfl ⟨rfl, rfl⟩
    rw [tre_c22] at h7
    obtain ⟨T, hT, hk⟩ := twigs_rd (v := f) h7
    exact ⟨f, T, rfl, hv.1, hT, hk⟩

end Go.Proofs.YtoejddhaiogonaaDoor
