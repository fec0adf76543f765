/- What X's readX tells, the model's operation yields (third part): conversions, slices, fields, indexes, maps, lengths. Conditions: none. -/
import Derived.Test.YtkmbfjdmbdpflaaXRead3
namespace Go.X

variable {E : Env}

theorem natOf_ok {v : Value} {n : Nat} (h : natOf v = some n) : ∃ k, v = .int k (n : Int) := by
  cases v <;> try (simp [natOf] at h; done)
  rename_i k m
  cases m with
  | ofNat m => simp [natOf] at h; subst h; exact ⟨k, rfl⟩
  | negSucc m => simp [natOf] at h

theorem AddrRel.add {M : Mp} {a a' : Addr} (h : AddrRel M a a') (n : Nat) : AddrRel M (a.add n) (a'.add n) := by
  refine ⟨?_, fun b δ S hb => ?_⟩
  · have : (a.add n).block = a.block := by unfold Addr.add; split <;> rfl
    rw [this]; exact h.1
  · have : (a.add n).block = a.block := by unfold Addr.add; split <;> rfl
    rw [this] at hb
    have := h.2 b δ S hb
    subst this
    unfold Addr.add
    split
    · rfl
    · simp [Nat.add_assoc]

theorem plainI {k : IntKind} {n : Int} (M : Mp) : VRel M (.int k n) (.int k n) := .int k n

theorem bytesIn_cons {c : Value} {l : List Value} {acc bs : List UInt8} (h : bytesIn (c :: l) acc = some bs) :
    ∃ n, c = .int .u8 n ∧ bytesIn l (UInt8.ofNat n.toNat :: acc) = some bs := by
  unfold bytesIn at h
  split at h
  · rename_i heq; cases heq
  · rename_i heq; cases heq; exact ⟨_, rfl, h⟩
  · cases h

theorem bytesLoop (f : Value → ByteArray → Sem (ForInStep ByteArray)) (hf : ∀ n s, f (.int .u8 n) s = pure (ForInStep.yield (s.push (UInt8.ofNat n.toNat)))) :
    ∀ (l : List Value) (acc bs : List UInt8) (w : World), bytesIn l acc = some bs →
    (forIn l (⟨acc.reverse.toArray⟩ : ByteArray) f).run E.P w = .ok ⟨bs.toArray⟩ w := by
  intro l
  induction l with
  | nil => intro acc bs w h; simp [bytesIn] at h; subst h; simp
  | cons c l ih =>
    intro acc bs w h
    obtain ⟨n, rfl, h⟩ := bytesIn_cons h
    have := ih (UInt8.ofNat n.toNat :: acc) bs w h
    simp only [List.forIn_cons, hf, Sem.run_bind, Sem.run_pure, Result.andThen_ok]
    have e : (⟨(UInt8.ofNat n.toNat :: acc).reverse.toArray⟩ : ByteArray) = (⟨acc.reverse.toArray⟩ : ByteArray).push (UInt8.ofNat n.toNat) := by
      simp [ByteArray.push]
    rw [e] at this
    exact this

theorem bytesIn_rel {M : Mp} : ∀ (u v : List Value) (acc bs : List UInt8), VsRel M u v → bytesIn u acc = some bs → bytesIn v acc = some bs := by
  intro u
  induction u with
  | nil => intro v acc bs hv hb; cases v with
    | nil => exact hb
    | cons => have := hv.1; simp at this
  | cons c u ih =>
    intro v acc bs hv hb
    cases v with
    | nil => have := hv.1; simp at this
    | cons c' v =>
      obtain ⟨h1, h2⟩ := hv.uncons
      obtain ⟨n, rfl, hb⟩ := bytesIn_cons hb
      cases h1
      exact ih v _ _ h2 hb

theorem SlRel.live {M : Mp} {a a' : Addr} {l c c' : Nat} (hs : SlRel M a a' l c c') (hl : 0 < l) : AddrRel M a a' := by
  refine ⟨hs.1, fun b δ S hb => ?_⟩
  rcases hs.2 b δ S hb with ⟨_, h1, _⟩ | ⟨s, _, ⟨h1, _⟩ | ⟨h1, _⟩⟩
  · exact h1
  · exact h1
  · omega

section
variable {W : World} {B : Nat → Prop} {M : Mp} {h : Hp} {w : World} (H : HRel W B M h w)
include H

theorem convertX_sound {s d : TypeId} {x x' v : Value} (hx : VRel M x x') (hr : convertX E h s d x = some v) :
    ∃ v', (convert s d x').run E.P w = .ok v' w ∧ VRel M v v' := by
  unfold convertX at hr
  cases hs : E.und s with
  | none => rw [hs] at hr; cases hr
  | some ds =>
    cases hd : E.und d with
    | none => rw [hs, hd] at hr; cases hr
    | some dd =>
      rw [hs, hd] at hr
      simp only at hr
      have r1 := run_und hs w
      have r2 := run_und hd w
      split at hr
      · cases hx
        simp only [someI_eq, wrapX_eq, Option.some.injEq] at hr
        subst hr
        exact ⟨_, by simp only [convert, Sem.run_bind, r1, r2, Result.andThen_ok, Conv.intToInt, Sem.run_pure], .int _ _⟩
      · cases hx
        cases hr
        exact ⟨_, by simp only [convert, Sem.run_bind, r1, r2, Result.andThen_ok, Conv.intToString, Sem.run_pure], .string _⟩
      · cases hx
        cases hr
        exact ⟨_, by simp only [convert, Sem.run_bind, r1, r2, Result.andThen_ok, Sem.run_pure], .string _⟩
      · rename_i e l c
        cases hx
        split at hr
        · rename_i hu
          cases hr
          exact ⟨_, by simp only [convert, Sem.run_bind, r1, r2, Result.andThen_ok, run_und hu w, Conv.bytesToString, Sem.run_pure], .string _⟩
        · cases hr
      · rename_i e a l c
        cases hx with
        | sl hsl =>
        rename_i a' c'
        split at hr
        · rename_i hu
          split at hr
          · rename_i r hrow
            split at hr
            · rename_i bs hbs
              cases hr
              by_cases hl : l = 0
              · subst hl
                have hr0 : r = [] := by
                  have := hrow
                  unfold rowOf at this
                  split at this
                  · cases this
                  · split at this
                    · obtain ⟨_, h2⟩ := cond_some this; simp at h2; exact h2.symm ▸ rfl
                    · cases this
                subst hr0
                simp [bytesIn] at hbs; subst hbs
                refine ⟨.string ⟨#[]⟩, ?_, .string _⟩
                simp only [convert, Sem.run_bind, r1, r2, Result.andThen_ok, run_und hu w, Conv.bytesToString]
                simp [loadCells, loadCellsFrom]
                rfl
              · obtain ⟨hlen, l', hv, hc, _⟩ := rowOf_ok H (SlRel.live hsl (by omega)) hrow
                have hl' := bytesIn_rel r l' [] bs hv hbs
                have hcells := run_loadCells_list (P := E.P) w a' l' hc
                rw [← hv.1, hlen] at hcells
                refine ⟨.string ⟨bs.toArray⟩, ?_, .string _⟩
                simp only [convert, Sem.run_bind, r1, r2, Result.andThen_ok, run_und hu w, Conv.bytesToString, hcells]
                rw [← Array.forIn_toList]
                have e0 : (ByteArray.empty : ByteArray) = ⟨([] : List UInt8).reverse.toArray⟩ := rfl
                rw [e0, bytesLoop (E := E) _ (fun _ _ => rfl) l' [] bs w hl']
                rfl
            · cases hr
          · cases hr
        · cases hr
      · cases hr

omit H in
theorem fieldAddrX_sound {s : TypeId} {x x' v : Value} {i : Nat} (hx : VRel M x x') (hr : fieldAddrX E s x i = some v) :
    ∃ v', (Instr.fieldAt s x' i).run E.P w = .ok v' w ∧ VRel M v v' := by
  unfold fieldAddrX at hr
  split at hr
  · rename_i a fs hu
    cases hx with
    | ptr ha =>
    rename_i a'
    split at hr
    · rename_i f hf
      split at hr
      · rename_i n hz
        cases hr
        refine ⟨.pointer (some (a'.add f.offset)), ?_, .ptr (ha.add _)⟩
        simp [Instr.fieldAt, run_und hu, hf, Instr.sureAddr, fieldPlace, run_size hz]
      · cases hr
    · cases hr
  · cases hr

omit H in
theorem fieldX_sound {t : TypeId} {x x' v : Value} {i : Nat} (hx : VRel M x x') (hr : fieldX E t x i = some v) :
    ∃ v', (Instr.field t x' i).run E.P w = .ok v' w ∧ VRel M v v' := by
  unfold fieldX at hr
  split at hr
  · rename_i cs fs hu
    cases hx with
    | agg ha ka =>
    split at hr
    · rename_i f hf
      obtain ⟨v', r, vr⟩ := partX_sound (E := E) (w := w) ⟨ha, ka⟩ hr
      exact ⟨v', by simp [Instr.field, run_und hu, hf, asAgg, r], vr⟩
    · cases hr
  · cases hr

omit H in
theorem indexAddrX_sound {t : TypeId} {x ix x' ix' v : Value} (hx : VRel M x x') (hi : VRel M ix ix') (hr : indexAddrX E t x ix = some v) :
    ∃ v', (Instr.indexAt t x' ix').run E.P w = .ok v' w ∧ VRel M v v' := by
  unfold indexAddrX at hr
  split at hr
  · rename_i i n e a hn hu
    obtain ⟨k, rfl⟩ := natOf_ok hn
    cases hi
    cases hx with
    | ptr ha =>
    rename_i a'
    split at hr
    · rename_i z hz
      obtain ⟨hlt, hr⟩ := cond_some hr
      cases hr
      have hlt := (blt_iff _ _).1 hlt
      refine ⟨.pointer (some (a'.add (i * z))), ?_, .ptr (ha.add _)⟩
      have h1 : (0 : Int) ≤ i ∧ (i : Int) < n := ⟨by omega, by omega⟩
      simp [Instr.indexAt, asIntOf, run_und hu, Instr.sureAddr, h1, run_size hz, hlt]
    · cases hr
  · rename_i i e a n c hn hu
    obtain ⟨k, rfl⟩ := natOf_ok hn
    cases hi
    cases hx with
    | sl hs =>
    rename_i a' c'
    split at hr
    · rename_i z hz
      obtain ⟨hlt, hr⟩ := cond_some hr
      cases hr
      have hlt := (blt_iff _ _).1 hlt
      refine ⟨.pointer (some (a'.add (i * z))), ?_, .ptr ((SlRel.live hs (by omega)).add _)⟩
      have h1 : (0 : Int) ≤ i ∧ (i : Int) < n := ⟨by omega, by omega⟩
      simp [Instr.indexAt, asIntOf, run_und hu, h1, run_size hz, hlt]
    · cases hr
  · cases hr

omit H in
theorem indexX_sound {t : TypeId} {x ix x' ix' v : Value} (hx : VRel M x x') (hi : VRel M ix ix') (hr : indexX E t x ix = some v) :
    ∃ v', (Instr.index t x' ix').run E.P w = .ok v' w ∧ VRel M v v' := by
  unfold indexX at hr
  split at hr
  · rename_i i n e cs hn hu
    obtain ⟨k, rfl⟩ := natOf_ok hn
    cases hi
    cases hx with
    | agg ha ka =>
    split at hr
    · rename_i z hz
      obtain ⟨hlt, hr⟩ := cond_some hr
      have hlt := (blt_iff _ _).1 hlt
      obtain ⟨v', r, vr⟩ := partX_sound (E := E) (w := w) ⟨ha, ka⟩ hr
      have h1 : (0 : Int) ≤ i ∧ (i : Int) < n := ⟨by omega, by omega⟩
      exact ⟨v', by simp [Instr.index, asIntOf, run_und hu, h1, run_size hz, r, hlt], vr⟩
    · cases hr
  · rename_i i s hn hu
    obtain ⟨k, rfl⟩ := natOf_ok hn
    cases hi
    cases hx
    split at hr
    · rename_i b hb
      cases hr
      exact ⟨.int .u8 b.toNat, by simp [Instr.index, asIntOf, run_und hu, hb], .int _ _⟩
    · cases hr
  · cases hr

theorem mapOf_ok {m m' : Value} {es : List MapEntry} (hm : VRel M m m') (hr : mapOf h m = some es) :
    (m' = .map none ∧ es = []) ∨ ∃ r i es' cl, m = .map (some i) ∧ m' = .map (some r) ∧ (getObj r).run E.P w = .ok (.map es' cl) w ∧ EsRel M es es'.toList := by
  unfold mapOf at hr
  split at hr
  · cases hm; cases hr; exact .inl ⟨rfl, rfl⟩
  · rename_i r
    cases hm with
    | map hi =>
    rename_i r'
    split at hr
    · rename_i es0 cl hg
      cases hr
      obtain ⟨b, δ, S, x, hρ, hx, h0, es', rfl, he⟩ := H.place hi.1 hg (by simp)
      have := hi.2 b δ S hρ
      subst this
      refine .inr ⟨r', r, es', cl, rfl, rfl, ?_, he⟩
      simp [getObj, Sem.run, hx]
    · cases hr
  · cases hr

theorem lenX_sound {t : TypeId} {x x' v : Value} {ts : Array TypeId} {ty : TypeId} {rest : Array Value} (hx : VRel M x x') (ht : ts[0]? = some t) (ha : rest[0]? = some x') (hr : lenX E h t x = some v) :
    ∃ v', (Builtin.len_ ts ty rest).run E.P w = .ok v' w ∧ VRel M v v' := by
  unfold lenX at hr
  split at hr
  · rename_i s hu
    cases hx
    rw [someI_eq] at hr; cases hr
    exact ⟨_, by simp [Builtin.len_, ht, ha, run_und hu]; rfl, .int _ _⟩
  · rename_i n e hu
    rw [someI_eq] at hr; cases hr
    exact ⟨_, by simp [Builtin.len_, ht, ha, run_und hu]; rfl, .int _ _⟩
  · rename_i e a n c hu
    rw [someI_eq] at hr; cases hr
    cases hx <;> exact ⟨_, by simp [Builtin.len_, ht, ha, run_und hu]; rfl, .int _ _⟩
  · rename_i k e hu
    split at hr
    · rename_i es hm
      rw [someI_eq] at hr; cases hr
      rcases mapOf_ok (E := E) H hx hm with ⟨rfl, rfl⟩ | ⟨r, i, es', cl, rfl, rfl, hg, he⟩
      · exact ⟨_, by simp [Builtin.len_, ht, ha, run_und hu]; rfl, .int _ _⟩
      · refine ⟨_, by simp [Builtin.len_, ht, ha, run_und hu, hg]; rfl, ?_⟩
        have := he.1
        simp at this
        rw [this]; exact .int _ _
    · cases hr
  · cases hr

end

theorem foldX_max {M : Mp} {w : World} : ∀ (l l' : List Value) (x x' v : Value), VRel M x x' → VsRel M l l' → foldX max2X x l = some v →
    ∃ v', (l'.foldlM Builtin.max2 x').run E.P w = .ok v' w ∧ VRel M v v' := by
  intro l
  induction l with
  | nil => intro l' x x' v hx hl hr; cases l' with
    | nil => cases hr; exact ⟨x', by simp, hx⟩
    | cons => have := hl.1; simp at this
  | cons y l ih => intro l' x x' v hx hl hr; cases l' with
    | nil => have := hl.1; simp at this
    | cons y' l' =>
      obtain ⟨hy, hl2⟩ := hl.uncons
      unfold foldX at hr
      split at hr
      · rename_i z hz
        unfold max2X at hz
        split at hz
        · cases hx; cases hy
          rw [someI_eq] at hz; cases hz
          rename_i k a k' b
          obtain ⟨v', r, vr⟩ := ih l' _ (.int k (if b > a then b else a)) v (.int _ _) hl2 hr
          exact ⟨v', by simp [Builtin.max2, r], vr⟩
        · cases hz
      · cases hr

theorem foldX_min {M : Mp} {w : World} : ∀ (l l' : List Value) (x x' v : Value), VRel M x x' → VsRel M l l' → foldX min2X x l = some v →
    ∃ v', (l'.foldlM Builtin.min2 x').run E.P w = .ok v' w ∧ VRel M v v' := by
  intro l
  induction l with
  | nil => intro l' x x' v hx hl hr; cases l' with
    | nil => cases hr; exact ⟨x', by simp, hx⟩
    | cons => have := hl.1; simp at this
  | cons y l ih => intro l' x x' v hx hl hr; cases l' with
    | nil => have := hl.1; simp at this
    | cons y' l' =>
      obtain ⟨hy, hl2⟩ := hl.uncons
      unfold foldX at hr
      split at hr
      · rename_i z hz
        unfold min2X at hz
        split at hz
        · cases hx; cases hy
          rw [someI_eq] at hz; cases hz
          rename_i k a k' b
          obtain ⟨v', r, vr⟩ := ih l' _ (.int k (if b < a then b else a)) v (.int _ _) hl2 hr
          exact ⟨v', by simp [Builtin.min2, r], vr⟩
        · cases hz
      · cases hr

end Go.X
