/- What X's readX tells, the model's operation yields: the whole. Conditions: none. -/
import Derived.Test.YtkmbfjdmbdpflaaXRead4
namespace Go.X

variable {E : Env}

/-- What may stand there, and its like. -/
def ORelV (M : Mp) (a b : Option Value) : Prop :=
  match a, b with
  | none, none => True
  | some v, some w => VRel M v w
  | _, _ => False

theorem ORelV.map {M : Mp} {f g : Operand → Value} {o : Option Operand} (h : ∀ x, o = some x → VRel M (f x) (g x)) : ORelV M (o.map f) (o.map g) := by
  cases o with
  | none => trivial
  | some x => exact h x rfl

theorem run_bound {M : Mp} {w : World} {v v' : Value} {n y : Nat} {code : BoundsCode} (hv : VRel M v v') (hn : natOf v = some n) (hle : n ≤ y) :
    (Instr.sliceBound v' y code).run E.P w = .ok n w := by
  obtain ⟨k, rfl⟩ := natOf_ok hn
  cases hv
  have : (0 : Int) ≤ n ∧ (n : Int) ≤ y := ⟨by omega, by omega⟩
  simp [Instr.sliceBound, asIntOf, this]

theorem run_bounds {M : Mp} {w : World} {b : Bool} {len cap l r : Nat} {lo hi lo' hi' : Option Value} (hl : ORelV M lo lo') (hh : ORelV M hi hi')
    (nl : optNat 0 lo = some l) (nr : optNat len hi = some r) (h1 : l ≤ r) (h2 : r ≤ cap) :
    (Instr.sliceBounds b len cap lo' hi' none).run E.P w = .ok (l, r, cap) w := by
  unfold Instr.sliceBounds
  cases lo with
  | none =>
    cases lo' with
    | some _ => exact hl.elim
    | none =>
      simp [optNat] at nl
      subst nl
      cases hi with
      | none => cases hi' with
        | some _ => exact hh.elim
        | none => simp [optNat] at nr; subst nr; simp
      | some v => cases hi' with
        | none => exact hh.elim
        | some v' => simp [run_bound hh nr h2]
  | some u =>
    cases lo' with
    | none => exact hl.elim
    | some u' =>
      cases hi with
      | none => cases hi' with
        | some _ => exact hh.elim
        | none =>
          simp [optNat] at nr; subst nr
          simp [run_bound hl nl h1]
      | some v => cases hi' with
        | none => exact hh.elim
        | some v' => simp [run_bound hh nr h2, run_bound hl nl h1]

theorem boundsOk_iff {l r m : Nat} : boundsOk l r m = true ↔ l ≤ r ∧ r ≤ m := by simp [boundsOk]

section
variable {W : World} {B : Nat → Prop} {M : Mp} {h : Hp} {w : World} (H : HRel W B M h w)
include H

theorem mode_place {a : Addr} {m : Nat} (hk : M.K a.block) (hm : modeOf h a = some m) :
    ∃ b δ S, M.ρ a.block = some (b, δ, S) ∧ ((m ≤ 1 ∧ M.md a.block = 0) ∨ ∃ s, m = s + 2 ∧ M.md a.block = s + 1) := by
  unfold modeOf at hm
  split at hm
  · rename_i c e m' hg
    cases hm
    obtain ⟨b, δ, S, x, hρ, hx, c', fr, rfl, hS, hle, hc, hmm⟩ := H.place hk hg (by simp)
    refine ⟨b, δ, S, hρ, ?_⟩
    rcases hmm with ⟨h1, h2, _⟩ | ⟨h1, h2, _⟩ | ⟨⟨s, h1, h2⟩, _⟩
    · exact .inl ⟨by omega, h2⟩
    · exact .inl ⟨by omega, h2⟩
    · exact .inr ⟨s, h1, h2⟩
  · cases hm

omit H in
theorem block_add (a : Addr) (n : Nat) : (a.add n).block = a.block := by unfold Addr.add; split <;> rfl

theorem sliceX_sound {t : TypeId} {x x' v : Value} {lo hi mx lo' hi' mx' : Option Value} (hx : VRel M x x') (hl : ORelV M lo lo') (hh : ORelV M hi hi') (hm : ORelV M mx mx')
    (hr : sliceX E h t x lo hi mx = some v) : ∃ v', (Instr.sliceAt t x' lo' hi' mx').run E.P w = .ok v' w ∧ VRel M v v' := by
  unfold sliceX at hr
  split at hr
  · rename_i hu
    split at hr
    · rename_i s
      cases hx
      cases mx' with
      | some _ => exact hm.elim
      | none =>
      split at hr
      · rename_i l r nl nr
        obtain ⟨hb, hr⟩ := cond_some hr
        cases hr
        obtain ⟨h1, h2⟩ := boundsOk_iff.1 hb
        have := run_bounds (E := E) (w := w) (b := false) hl hh nl nr h1 h2
        exact ⟨.string (s.extract l r), by simp [Instr.sliceAt, Instr.slice, run_und hu, this], .string _⟩
      · cases hr
    · cases hr
  · rename_i e hu
    split at hr
    · rename_i z hz
      cases hx
      cases mx' with
      | some _ => exact hm.elim
      | none =>
      split at hr
      · rename_i nl nr
        cases hr
        have := run_bounds (E := E) (w := w) (b := true) (cap := 0) hl hh nl nr (Nat.le_refl _) (Nat.le_refl _)
        exact ⟨.slice none 0 0, by simp [Instr.sliceAt, Instr.slice, run_und hu, this, run_size hz], .nils _ _⟩
      · cases hr
    · rename_i a n c z hz
      cases hx with
      | sl hs =>
      rename_i a' c'
      cases mx' with
      | some _ => exact hm.elim
      | none =>
      split at hr
      · rename_i l r s nl nr nm
        obtain ⟨hb, hr⟩ := cond_some hr
        cases hr
        simp only [Bool.and_eq_true, boundsOk_iff, beq_iff] at hb
        obtain ⟨⟨h1, h2⟩, rfl⟩ := hb
        obtain ⟨b, δ, S, hρ, hmd⟩ := mode_place H hs.1 nm
        rcases hmd with ⟨hlt, _⟩ | ⟨s', he, hmd⟩
        · omega
        have es : s' = s := by omega
        subst es
        rcases hs.2 b δ S hρ with ⟨h0, _⟩ | ⟨s2, hs2, hcase⟩
        · omega
        have es2 : s2 = s' := by omega
        subst es2
        have hc : c ≤ c' := by rcases hcase with ⟨_, h3, _⟩ | ⟨_, h3, h4⟩ <;> omega
        have run := run_bounds (E := E) (w := w) (b := true) (cap := c') hl hh nl nr h1 (by omega)
        refine ⟨.slice (some (if c' = l then a' else a'.add (l * s2))) (r - l) (c' - l), by simp [Instr.sliceAt, Instr.slice, run_und hu, run, run_size hz]; split <;> rfl, .sl ⟨by rw [block_add]; exact hs.1, fun b2 δ2 S2 hρ2 => ?_⟩⟩
        rw [block_add, hρ] at hρ2
        cases hρ2
        refine .inr ⟨s2, by rw [block_add]; exact hmd, ?_⟩
        rcases hcase with ⟨ha, h3, h4⟩ | ⟨h3, h4, h5⟩
        · by_cases e : c' = l
          · right; refine ⟨by omega, by omega, by omega⟩
          · left
            rw [if_neg e]
            refine ⟨?_, by omega, ?_⟩
            · have := (AddrRel.add (M := { ρ := fun _ => some (b, δ, S), K := fun _ => True, md := M.md }) (a := a) (a' := a') ⟨trivial, fun b3 δ3 S3 h6 => by cases h6; exact ha⟩ (l * s2)).2 b δ S rfl
              simpa [block_add] using this
            · have : (a.add (l * s2)).off = a.off + l * s2 := by
                unfold Addr.add; split
                · rename_i e0; rw [e0]; rfl
                · rfl
              rw [this]
              have e1 : (c' - l) * s2 = c' * s2 - l * s2 := Nat.sub_mul _ _ _
              have e2 : l * s2 ≤ c' * s2 := Nat.mul_le_mul_right _ (by omega)
              omega
        · right; refine ⟨by omega, by omega, by omega⟩
      · rename_i l r m hnot nl nr nm
        obtain ⟨hb, hr⟩ := cond_some hr
        cases hr
        obtain ⟨h1, h2⟩ := boundsOk_iff.1 hb
        obtain ⟨b, δ, S, hρ, hmd⟩ := mode_place H hs.1 nm
        have hmd : M.md a.block = 0 := by
          rcases hmd with ⟨_, h0⟩ | ⟨s', he, _⟩
          · exact h0
          · subst he; exact absurd rfl (hnot s')
        have hcase : a' = ⟨b, δ + a.off, a.spot⟩ ∧ c' = c := by
          rcases hs.2 b δ S hρ with ⟨_, h3, h4⟩ | ⟨s2, hs2, _⟩
          · exact ⟨h3, h4⟩
          · omega
        obtain ⟨ha, rfl⟩ := hcase
        have run := run_bounds (E := E) (w := w) (b := true) (cap := c') hl hh nl nr h1 h2
        refine ⟨.slice (some (if c' = l then a' else a'.add (l * z))) (r - l) (c' - l), by simp [Instr.sliceAt, Instr.slice, run_und hu, run, run_size hz]; split <;> rfl, ?_⟩
        have hA : AddrRel M a a' := ⟨hs.1, fun b2 δ2 S2 h6 => by rw [hρ] at h6; cases h6; exact ha⟩
        have gen : ∀ A A', AddrRel M A A' → A.block = a.block → VRel M (.slice (some A) (r - l) (c' - l)) (.slice (some A') (r - l) (c' - l)) := fun A A' hA hbk =>
          .sl ⟨hA.1, fun b2 δ2 S2 h6 => .inl ⟨by rw [hbk]; exact hmd, hA.2 b2 δ2 S2 h6, rfl⟩⟩
        by_cases e : c' = l
        · rw [if_pos e, (beq_iff _ _).2 e, cond_true]; exact gen _ _ hA rfl
        · rw [if_neg e, (beq_false _ _).2 e, cond_false]; exact gen _ _ (hA.add _) (block_add a _)
      · cases hr
    · cases hr
  · rename_i n e hu
    split at hr
    · rename_i a z hz
      cases hx with
      | ptr ha =>
      rename_i a'
      cases mx' with
      | some _ => exact hm.elim
      | none =>
      split at hr
      · rename_i l r nm nl nr
        obtain ⟨hb, hr⟩ := cond_some hr
        cases hr
        obtain ⟨h1, h2⟩ := boundsOk_iff.1 hb
        obtain ⟨b, δ, S, hρ, hmd⟩ := mode_place H ha.1 nm
        have hmd : M.md a.block = 0 := by
          rcases hmd with ⟨_, h0⟩ | ⟨s', he, _⟩
          · exact h0
          · omega
        have run := run_bounds (E := E) (w := w) (b := false) (cap := n) hl hh nl nr h1 h2
        refine ⟨.slice (some (if n = l then a' else a'.add (l * z))) (r - l) (n - l), by simp [Instr.sliceAt, run_und hu, run, run_size hz, Instr.sureAddr], ?_⟩
        have gen : ∀ A A', AddrRel M A A' → A.block = a.block → VRel M (.slice (some A) (r - l) (n - l)) (.slice (some A') (r - l) (n - l)) := fun A A' hA hbk =>
          .sl ⟨hA.1, fun b2 δ2 S2 h6 => .inl ⟨by rw [hbk]; exact hmd, hA.2 b2 δ2 S2 h6, rfl⟩⟩
        by_cases e : n = l
        · rw [if_pos e, (beq_iff _ _).2 e, cond_true]; exact gen _ _ ha rfl
        · rw [if_neg e, (beq_false _ _).2 e, cond_false]; exact gen _ _ (ha.add _) (block_add a _)
      · cases hr
    · cases hr
  · cases hr

/-! Maps -/

omit H in
theorem keyFits_eq {d : TypeDesc} {k k' : Value} (hf : keyFits d k = true) (hk : VRel M k k') : k' = k := by
  cases d <;> cases k <;> first | (simp [keyFits] at hf; done) | (cases hk; rfl)

omit H in
theorem scalarV_eq {k k' : Value} (hf : scalarV k = true) (hk : VRel M k k') : k' = k := by
  cases k <;> first | (simp [scalarV] at hf; done) | (cases hk; rfl)

omit H in
theorem scalars_eq : ∀ (l l' : List Value), l.all scalarV = true → VsRel M l l' → l' = l := by
  intro l
  induction l with
  | nil => intro l' _ hv; cases l' with
    | nil => rfl
    | cons => have := hv.1; simp at this
  | cons v l ih => intro l' hs hv; cases l' with
    | nil => have := hv.1; simp at this
    | cons v' l' =>
      simp only [List.all_cons, Bool.and_eq_true] at hs
      obtain ⟨h1, h2⟩ := hv.uncons
      rw [scalarV_eq hs.1 h1, ih l' hs.2 h2]

omit H in
theorem keyOk_eq {kt : TypeId} {k k' : Value} (hf : keyOkX E kt k = true) (hk : VRel M k k') : k' = k := by
  unfold keyOkX at hf
  split at hf
  · split at hf
    · rename_i cs
      simp only [Bool.and_eq_true] at hf
      cases hk with
      | agg ha ka =>
      rename_i cs'
      have := scalars_eq _ _ hf.1 ⟨ha, ka⟩
      obtain ⟨cs⟩ := cs; obtain ⟨cs'⟩ := cs'
      simp at this; rw [this]
    · cases hf
  · exact keyFits_eq hf hk
  · cases hf

omit H in
theorem sameNow_ok {d : TypeDesc} {k e : Value} (hk : keyFits d k = true) (he : keyFits d e = true) : Instr.sameNow d k e = some (sameV 2 k e) := by
  cases d <;> cases k <;> first
    | (simp [keyFits] at hk; done)
    | skip
  all_goals cases e <;> first
    | (simp [keyFits] at he; done)
    | skip
  · rename_i a b
    simp [Instr.sameNow, sameV]
  · simp only [keyFits, kindEq_iff] at hk he
    subst hk; subst he
    rename_i a b
    simp only [Instr.sameNow, sameV, kindEq_refl, if_true, Bool.true_and, Option.some.injEq]
    rw [Bool.eq_iff_iff]; simp
  · rename_i a b
    obtain ⟨⟨a⟩⟩ := a; obtain ⟨⟨b⟩⟩ := b
    simp only [Instr.sameNow, sameV, Option.some.injEq]
    show ((⟨a⟩ : Array UInt8) == ⟨b⟩) = (a == b)
    simp

omit H in
theorem run_scalarKey {n : Nat} {t : TypeId} {d : TypeDesc} {b : Bool} {v : Value} (hu : E.und t = some d) (hs : scalarD d = true) :
    (Instr.checkKey b (n + 1) t v).run E.P w = .ok () w := by
  have hu' := run_und hu w
  cases d <;> first
    | (simp [scalarD] at hs; done)
    | simp [Instr.checkKey, hu']

omit H in
theorem checkKey_gen {kt : TypeId} {k : Value} {b : Bool} (n : Nat) (hk : keyOkX E kt k = true) :
    (Instr.checkKey b (n + 2) kt k).run E.P w = .ok () w := by
  unfold keyOkX at hk
  split at hk
  · rename_i fs hu
    split at hk
    · rename_i cs
      simp only [Bool.and_eq_true] at hk
      have hu' := run_und hu w
      rw [Instr.checkKey]
      simp only [Sem.run_bind, hu', Result.andThen_ok]
      rw [← Array.forIn_toList]
      have hall := hk.2
      generalize fs.toList = l at hall
      induction l with
      | nil => simp
      | cons f l ih =>
        simp only [List.all_cons, Bool.and_eq_true] at hall
        obtain ⟨⟨h1, h2⟩, h3⟩ := hall
        simp only [List.forIn_cons, Sem.run_bind]
        have hp : ∃ v, (part f.type cs f.offset).run E.P w = .ok v w := by
          obtain ⟨v, hv⟩ := Option.isSome_iff_exists.1 h2
          have hsc : VsRel ({ ρ := fun _ => none, K := fun _ => True, md := fun _ => 0 } : Mp) cs.toList cs.toList := by
            refine ⟨rfl, fun i a b ha hb => ?_⟩
            rw [ha] at hb; cases hb
            have := List.all_eq_true.1 hk.1 a (List.mem_of_getElem? ha)
            cases a <;> first | (simp [scalarV] at this; done) | constructor
          obtain ⟨v', r, _⟩ := partX_sound (E := E) (w := w) hsc hv
          exact ⟨v', r⟩
        obtain ⟨v, hp⟩ := hp
        cases hd : E.und f.type with
        | none => rw [hd] at h1; cases h1
        | some d =>
          rw [hd] at h1
          have hck := run_scalarKey (w := w) (n := n) (b := b) (v := v) hd h1
          by_cases hn : f.name = "_"
          · simp only [hn, ne_eq, not_true_eq_false, if_false, Sem.run_pure, Result.andThen_ok]
            exact ih h3
          · simp only [hn, ne_eq, not_false_eq_true, if_true, Sem.run_bind, hp, Result.andThen_ok, hck, Sem.run_pure]
            exact ih h3
    · cases hk
  · rename_i d hnot hu
    have hu' := run_und hu w
    cases d <;> cases k <;> first
      | (simp [keyFits] at hk; done)
      | (rw [Instr.checkKey]; simp [hu'])
  · cases hk

omit H in
theorem checkKey_ok {kt : TypeId} {k : Value} {b : Bool} (hk : keyOkX E kt k = true) :
    (Instr.checkKey b 10000 kt k).run E.P w = .ok () w := checkKey_gen 9998 hk

theorem keyEq_run {kt : TypeId} {k e e' : Value} {b : Bool} (hk : VRel M k k) (he : VRel M e e') (hr : keyEqX E h kt k e = some b) :
    (Op.equal kt k e').run E.P w = .ok b w ∧ (∀ d, E.und kt = some d → (∀ fs, d ≠ .struct fs) → Instr.sameNow d k e' = some b) ∧ (b = true → k = e) := by
  unfold keyEqX at hr
  split at hr
  · rename_i fs hu
    split at hr
    · rename_i xs ys
      cases hst : E.P.stoodInHeld kt with
      | true => rw [hst] at hr; cases hr
      | false =>
        rw [hst, cond_false] at hr
        cases hk with
        | agg hka hkb =>
        cases he with
        | agg ha ka =>
        rename_i ys'
        have hs := run_equalIn_struct (P := E.P) w 9999 kt xs ys' (by rw [fieldsOf_ok hu]; exact und_ok hu) hst
        rw [fieldsOf_ok hu] at hs
        have fin : ∀ q, structEq E h xs ys fs.toList = some q → (Op.equal kt (.agg xs) (.agg ys')).run E.P w = .ok q w := by
          intro q hq
          have := structEq_sound (d := 9998) H ⟨hka, hkb⟩ ⟨ha, ka⟩ hq
          rw [this] at hs
          simp only [Op.equal, Op.maxDepth]; exact hs
        split at hr
        · rename_i hq
          obtain ⟨hsv, hr⟩ := cond_some hr
          cases hr
          exact ⟨fin _ hq, fun d hd hn => by rw [hu] at hd; cases hd; exact absurd rfl (hn _), fun _ => sameV_eq 4 _ _ hsv⟩
        · rename_i hq
          cases hr
          exact ⟨fin _ hq, fun d hd hn => by rw [hu] at hd; cases hd; exact absurd rfl (hn _), fun h0 => by cases h0⟩
        · cases hr
    · cases hr
  · rename_i d hnot hu
    obtain ⟨hf, hr⟩ := cond_some hr
    simp only [Option.some.injEq] at hr
    simp only [Bool.and_eq_true] at hf
    have ee := keyFits_eq hf.2 he
    subst ee
    refine ⟨?_, fun d' hd hn => by rw [hu] at hd; cases hd; rw [sameNow_ok hf.1 hf.2, hr], fun h0 => sameV_eq 2 _ _ (by rw [hr]; exact h0)⟩
    have hsn := sameNow_ok hf.1 hf.2
    rw [hr] at hsn
    have hu' := und_ok hu
    cases d <;> cases k <;> first
      | (simp [keyFits] at hf; done)
      | skip
    all_goals cases e' <;> first
      | (simp [keyFits] at hf; done)
      | skip
    · simp [Instr.sameNow] at hsn
      simp only [Op.equal, Op.maxDepth]; rw [run_equalIn_bool' w 9999 kt _ _ hu', hsn]
    · simp only [keyFits, kindEq_iff] at hf
      obtain ⟨hf1, hf2⟩ := hf
      subst hf1; subst hf2
      simp [Instr.sameNow] at hsn
      simp only [Op.equal, Op.maxDepth]; rw [run_equalIn_int w 9999 kt _ _ _ _ hu', hsn]
    · simp [Instr.sameNow] at hsn
      simp only [Op.equal, Op.maxDepth]; rw [run_equalIn_string w 9999 kt _ _ hu', ← beq_toListBytes, hsn]
  · cases hr

/-- What X finds of a key, the model finds. -/
theorem findKey_ok {kt : TypeId} {k : Value} {d : TypeDesc} (hu : E.und kt = some d) (hk : VRel M k k) : ∀ (es es' : List MapEntry) (i : Nat) (r : Option (Nat × Value)), EsRel M es es' → findX E h kt k es i = some r →
    ∃ r', (r = none ∧ r' = none ∨ ∃ j e e', r = some (i + j, e.val) ∧ r' = some (i + j, e'.val) ∧ es[j]? = some e ∧ es'[j]? = some e' ∧ ERel M e e' ∧ e.key = k) ∧
      ((∃ fs, d = .struct fs) → (Instr.findAsking kt k es' i).run E.P w = .ok r' w) ∧ ((∀ fs, d ≠ .struct fs) → Instr.findNow d k es' i = some r') := by
  intro es
  induction es with
  | nil =>
    intro es' i r he hr
    cases es' with
    | nil => cases hr; exact ⟨none, .inl ⟨rfl, rfl⟩, fun _ => by simp [Instr.findAsking], fun _ => rfl⟩
    | cons => have := he.1; simp at this
  | cons e es ih =>
    intro es' i r he hr
    cases es' with
    | nil => have := he.1; simp at this
    | cons e' es' =>
      have h0 : ERel M e e' := he.2 0 e e' rfl rfl
      have hrest : EsRel M es es' := ⟨by have := he.1; simpa using this, fun j a b ha hb => he.2 (j + 1) a b (by simpa using ha) (by simpa using hb)⟩
      unfold findX at hr
      split at hr
      · rename_i hq
        cases hr
        obtain ⟨r1, r2, r3⟩ := keyEq_run (E := E) H hk h0.1 hq
        refine ⟨some (i, e'.val), .inr ⟨0, e, e', by simp, by simp, rfl, rfl, h0, (r3 rfl).symm⟩, fun _ => by simp [Instr.findAsking, r1], fun hn => ?_⟩
        simp only [Instr.findNow, r2 d hu hn]
      · rename_i hq
        obtain ⟨r1, r2, _⟩ := keyEq_run (E := E) H hk h0.1 hq
        obtain ⟨r', hcase, hA, hN⟩ := ih es' (i + 1) r hrest hr
        refine ⟨r', ?_, fun hs => by simp [Instr.findAsking, r1, hA hs], fun hn => by simp only [Instr.findNow, r2 d hu hn]; exact hN hn⟩
        rcases hcase with ⟨h1, h2⟩ | ⟨j, a, a', h1, h2, h3, h4, h5, h6⟩
        · exact .inl ⟨h1, h2⟩
        · refine .inr ⟨j + 1, a, a', ?_, ?_, by simpa using h3, by simpa using h4, h5, h6⟩
          · rw [h1]; congr 2; omega
          · rw [h2]; congr 2; omega
      · cases hr

theorem findKey_run {kt : TypeId} {k : Value} {es es' : List MapEntry} {r : Option (Nat × Value)} (hok : keyOkX E kt k = true) (hk : VRel M k k) (he : EsRel M es es') (hr : findX E h kt k es 0 = some r) :
    ∃ r', (Instr.findKey kt k es').run E.P w = .ok r' w ∧ (r = none ∧ r' = none ∨ ∃ j e e', r = some (j, e.val) ∧ r' = some (j, e'.val) ∧ es[j]? = some e ∧ es'[j]? = some e' ∧ ERel M e e' ∧ e.key = k) := by
  cases hu : E.und kt with
  | none => unfold keyOkX at hok; rw [hu] at hok; cases hok
  | some d =>
    obtain ⟨r', hcase, hA, hN⟩ := findKey_ok (E := E) H hu hk es es' 0 r he hr
    have hcase' : (r = none ∧ r' = none ∨ ∃ j e e', r = some (j, e.val) ∧ r' = some (j, e'.val) ∧ es[j]? = some e ∧ es'[j]? = some e' ∧ ERel M e e' ∧ e.key = k) := by
      rcases hcase with h1 | ⟨j, e, e', h1, h2, h3⟩
      · exact .inl h1
      · exact .inr ⟨j, e, e', by rw [h1]; simp, by rw [h2]; simp, h3⟩
    refine ⟨r', ?_, hcase'⟩
    have hu' := run_und hu w
    by_cases hs : ∃ fs, d = .struct fs
    · obtain ⟨fs, rfl⟩ := hs
      have ha := hA ⟨fs, rfl⟩
      cases es' with
      | nil =>
        have : r' = none := by simpa [Instr.findAsking] using (Eq.symm ha)
        subst this
        simp [Instr.findKey, hu', Instr.findNow]
      | cons e0 es0 =>
        have : Instr.findNow (.struct fs) k (e0 :: es0) 0 = none := by
          simp only [Instr.findNow]
          have : Instr.sameNow (.struct fs) k e0.key = none := by cases k <;> rfl
          rw [this]
        simp [Instr.findKey, hu', this, ha]
    · have hn := hN (fun fs hfs => hs ⟨fs, hfs⟩)
      simp [Instr.findKey, hu', hn]

omit H in
theorem keyOk_rel {kt : TypeId} {k : Value} (hf : keyOkX E kt k = true) (M : Mp) : VRel M k k := by
  unfold keyOkX at hf
  split at hf
  · split at hf
    · rename_i cs
      simp only [Bool.and_eq_true] at hf
      refine .agg rfl fun i a b ha hb => ?_
      rw [ha] at hb; cases hb
      have := List.all_eq_true.1 hf.1 a (List.mem_of_getElem? ha)
      cases a <;> first | (simp [scalarV] at this; done) | constructor
    · cases hf
  · rename_i d _ _
    cases d <;> cases k <;> first | (simp [keyFits] at hf; done) | constructor
  · cases hf

theorem lookupX_sound {t : TypeId} {m k m' k' v : Value} {ok : Bool} (hm : VRel M m m') (hk : VRel M k k') (hr : lookupX E h t m k ok = some v) :
    ∃ v', (Instr.lookup t m' k' ok).run E.P w = .ok v' w ∧ VRel M v v' := by
  unfold lookupX at hr
  split at hr
  · rename_i kt et es hu hmo
    obtain ⟨hfit, hr⟩ := cond_some hr
    have ek := keyOk_eq hfit hk
    subst ek
    have core : ∀ es' : Array MapEntry, EsRel M es es'.toList → ∃ r' v', (Instr.findKey kt k' es'.toList).run E.P w = .ok r' w ∧ VRel M v v' ∧
        ((∃ i u, r' = some (i, u) ∧ v' = (if ok = true then .tuple #[u, .bool true] else u)) ∨ (r' = none ∧ ∃ z, E.zero et = some z ∧ v' = (if ok = true then .tuple #[z, .bool false] else z))) := by
      intro es' he
      split at hr
      · rename_i i v0 hf
        obtain ⟨r', hfk, hc⟩ := findKey_run (E := E) H hfit hk he hf
        rcases hc with ⟨h1, _⟩ | ⟨j, e, e', h1, h2, _, _, h5, _⟩
        · cases h1
        · cases h1; subst h2
          cases ok with
          | true => cases hr; exact ⟨_, .tuple #[e'.val, .bool true], hfk, .tuple' (.cons h5.2.1 (.cons (.bool _) (.nil M))), .inl ⟨_, _, rfl, rfl⟩⟩
          | false => cases hr; exact ⟨_, e'.val, hfk, h5.2.1, .inl ⟨_, _, rfl, rfl⟩⟩
      · rename_i hf
        obtain ⟨r', hfk, hc⟩ := findKey_run (E := E) H hfit hk he hf
        rcases hc with ⟨_, rfl⟩ | ⟨j, e, e', h1, _⟩
        · split at hr
          · rename_i z hz
            cases ok with
            | true => cases hr; exact ⟨none, .tuple #[z, .bool false], hfk, .tuple' (.cons (zero_rel hz M) (.cons (.bool _) (.nil M))), .inr ⟨rfl, z, hz, rfl⟩⟩
            | false => cases hr; exact ⟨none, z, hfk, zero_rel hz M, .inr ⟨rfl, z, hz, rfl⟩⟩
          · cases hr
        · cases h1
      · cases hr
    have hu' := run_und hu w
    rcases mapOf_ok (E := E) H hm hmo with ⟨rfl, rfl⟩ | ⟨r, i, es', cl, rfl, rfl, hg, he⟩
    · obtain ⟨r', v', hfk, hv, hc⟩ := core #[] ⟨rfl, by intro i a b ha; simp at ha⟩
      have hck : (Instr.checkKey (#[] : Array MapEntry).isEmpty 10000 kt k').run E.P w = .ok () w := checkKey_ok hfit
      refine ⟨v', ?_, hv⟩
      rcases hc with ⟨i, u, rfl, rfl⟩ | ⟨rfl, z, hz, rfl⟩
      · simp only [Instr.lookup, Sem.run_bind, hu', Result.andThen_ok, Sem.run_pure, hck, hfk]
      · simp only [Instr.lookup, Sem.run_bind, hu', Result.andThen_ok, Sem.run_pure, hck, hfk, run_zero hz]
    · obtain ⟨r', v', hfk, hv, hc⟩ := core es' he
      have hck : (Instr.checkKey es'.isEmpty 10000 kt k').run E.P w = .ok () w := checkKey_ok hfit
      refine ⟨v', ?_, hv⟩
      rcases hc with ⟨i, u, rfl, rfl⟩ | ⟨rfl, z, hz, rfl⟩
      · simp only [Instr.lookup, Sem.run_bind, hu', Result.andThen_ok, hg, Sem.run_pure, hck, hfk]
      · simp only [Instr.lookup, Sem.run_bind, hu', Result.andThen_ok, hg, Sem.run_pure, hck, hfk, run_zero hz]
  · cases hr

omit H in
theorem typeAssertX_sound {x x' v : Value} {t a : TypeId} {ok : Bool} (hx : VRel M x x') (hr : typeAssertX E x t a ok = some v) :
    ∃ v', (Instr.typeAssert x' t a ok).run E.P w = .ok v' w ∧ VRel M v v' := by
  unfold typeAssertX at hr
  split at hr
  · cases hr
  · rename_i d u v0 hnot hu
    cases hx with
    | iface hv =>
    rename_i v1
    cases hb : Nat.beq u a with
    | true =>
      have := (beq_iff _ _).1 hb
      subst this
      rw [hb, cond_true] at hr
      cases ok with
      | true => cases hr; exact ⟨.tuple #[v1, .bool true], by cases d <;> first | (exact absurd rfl (hnot _)) | simp [Instr.typeAssert, run_und hu], .tuple' (.cons hv (.cons (.bool _) (.nil M)))⟩
      | false => cases hr; exact ⟨v1, by cases d <;> first | (exact absurd rfl (hnot _)) | simp [Instr.typeAssert, run_und hu], hv⟩
    | false =>
      have hne := (beq_false _ _).1 hb
      rw [hb, cond_false] at hr
      obtain ⟨rfl, hr⟩ := cond_some hr
      split at hr
      · rename_i z hz
        cases hr
        exact ⟨.tuple #[z, .bool false], by cases d <;> first | (exact absurd rfl (hnot _)) | simp [Instr.typeAssert, run_und hu, hne, run_zero hz], .tuple' (.cons (zero_rel hz M) (.cons (.bool _) (.nil M)))⟩
      · cases hr
  · rename_i d hnot hu
    cases hx
    obtain ⟨rfl, hr⟩ := cond_some hr
    split at hr
    · rename_i z hz
      cases hr
      exact ⟨.tuple #[z, .bool false], by cases d <;> first | (exact absurd rfl (hnot _)) | simp [Instr.typeAssert, run_und hu, run_zero hz], .tuple' (.cons (zero_rel hz M) (.cons (.bool _) (.nil M)))⟩
    · cases hr
  · cases hr

/-! Building -/

omit H in
theorem put_rel {cs cs' : List Value} {v v' : Value} (i : Nat) (hc : VsRel M cs cs') (hv : VRel M v v') : VsRel M (cs.set i v) (cs'.set i v') := by
  refine ⟨by simp [hc.1], fun j a b ha hb => ?_⟩
  rw [List.getElem?_set] at ha hb
  split at ha
  · rename_i e
    rw [if_pos e] at hb
    have hl := hc.1
    split at ha
    · rw [if_pos (by omega)] at hb; cases ha; cases hb; exact hv
    · cases ha
  · rename_i e
    rw [if_neg e] at hb
    exact hc.2 j a b ha hb

omit H in
theorem fold_rel {M : Mp} (off : Nat) : ∀ (l l' : List (Value × Nat)) (cs cs' : Array Value), l.length = l'.length → (∀ (i : Nat) (a b : Value × Nat), l[i]? = some a → l'[i]? = some b → VRel M a.1 b.1 ∧ a.2 = b.2) →
    VsRel M cs.toList cs'.toList →
    VsRel M (l.foldl (fun (cs : Array Value) (p : Value × Nat) => cs.setIfInBounds (off + p.2) p.1) cs).toList (l'.foldl (fun (cs : Array Value) (p : Value × Nat) => cs.setIfInBounds (off + p.2) p.1) cs').toList := by
  intro l
  induction l with
  | nil => intro l' cs cs' hl _ hc; cases l' with
    | nil => exact hc
    | cons => simp at hl
  | cons a l ih =>
    intro l' cs cs' hl hr hc
    cases l' with
    | nil => simp at hl
    | cons b l' =>
      obtain ⟨h1, h2⟩ := hr 0 a b rfl rfl
      simp only [List.foldl_cons]
      refine ih l' _ _ (by simpa using hl) (fun i x y hx hy => hr (i + 1) x y (by simpa using hx) (by simpa using hy)) ?_
      rw [h2]
      simp only [Array.toList_setIfInBounds]
      exact put_rel _ hc h1

omit H in
theorem fill_rel {M : Mp} (place : Nat → Option (Nat × Nat)) : ∀ (ps ps' : List (Nat × Value)) (cs cs' : Array Value) (r : Array Value), ps.length = ps'.length →
    (∀ (i : Nat) (a b : Nat × Value), ps[i]? = some a → ps'[i]? = some b → a.1 = b.1 ∧ VRel M a.2 b.2) → VsRel M cs.toList cs'.toList → Instr.fill place cs ps = some r →
    ∃ r', Instr.fill place cs' ps' = some r' ∧ VsRel M r.toList r'.toList := by
  intro ps
  induction ps with
  | nil => intro ps' cs cs' r hl _ hc hf; cases ps' with
    | nil => simp [Instr.fill] at hf; subst hf; exact ⟨cs', by simp [Instr.fill], hc⟩
    | cons => simp at hl
  | cons p ps ih =>
    intro ps' cs cs' r hl hr hc hf
    cases ps' with
    | nil => simp at hl
    | cons p' ps' =>
      obtain ⟨i, v⟩ := p
      obtain ⟨i', v'⟩ := p'
      obtain ⟨h1, h2⟩ := hr 0 _ _ rfl rfl
      simp only at h1 h2
      subst h1
      unfold Instr.fill at hf ⊢
      split at hf
      · cases hf
      · rename_i off size hp
        have hcell := h2.cells
        have hsz : v'.cells.size = v.cells.size := by have := hcell.1; simp at this; exact this.symm
        have hsz2 : cs'.size = cs.size := by have := hc.1; simp at this; exact this.symm
        split at hf
        · cases hf
        · rename_i hcond
          rw [hsz, hsz2, if_neg hcond]
          refine ih ps' _ _ r (by simpa using hl) (fun j x y hx hy => hr (j + 1) x y (by simpa using hx) (by simpa using hy)) ?_ hf
          rw [← Array.foldl_toList, ← Array.foldl_toList]
          refine fold_rel off _ _ _ _ (by simp [hsz]) (fun j x y hx hy => ?_) hc
          simp only [Array.toList_zipIdx, List.getElem?_zipIdx, Option.map_eq_some_iff] at hx hy
          obtain ⟨u, hu, rfl⟩ := hx
          obtain ⟨u', hu', rfl⟩ := hy
          exact ⟨hcell.2 j u u' hu hu', rfl⟩

end

end Go.X
