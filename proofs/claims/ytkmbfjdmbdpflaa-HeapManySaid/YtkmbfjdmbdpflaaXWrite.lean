/- What X writes into maps, appends and copies, the model does. Conditions: none. -/
import Derived.Test.YtkmbfjdmbdpflaaXAlloc
namespace Go.X

variable {E : Env}

/-- What an operation leads to here, and there. -/
def NxOk (W : World) (B : Nat → Prop) (E : Env) (M : Mp) (h : Hp) (w : World) (n : Nx) (r : Result Next) : Prop :=
  match n with
  | .value v h' => ∃ v' w' M', r = .ok (.value v') w' ∧ Ev M M' ∧ HRel W B M' h' w' ∧ Keep M h M' h' (fun _ => False) ∧ VRel M' v v'
  | .skip h' => ∃ w' M', r = .ok .skip w' ∧ Ev M M' ∧ HRel W B M' h' w' ∧ Keep M h M' h' (fun _ => False)
  | .enter f args => ∃ args', r = .ok (.enter f args') w ∧ VsRel M args.toList args'.toList
  | .round l args => ∃ l' args', IdRel M l l' ∧ VsRel M args.toList args'.toList ∧ r = (Instr.yield l' args').run E.P w
  | .defer d => ∃ d', r = .ok (.defer d') w ∧ DRel M d d'
  | .recover => r = .ok .recover w
  | .panic v => ∃ v', r = .halt (.panic v') w ∧ VRel M v v'

theorem sameBits_scalar {v : Value} (hv : scalarV v = true) (n : Nat) : Instr.sameBits n v v = true := by
  cases v <;> simp [scalarV] at hv <;> (cases n <;> simp [Instr.sameBits, beq_toListBytes])

theorem zip_self_all {f : Value → Value → Bool} : ∀ (l : List Value), (∀ v ∈ l, f v v = true) → (l.zip l).all (fun (x, y) => f x y) = true
  | [], _ => rfl
  | v :: l, h => by
    simp only [List.zip_cons_cons, List.all_cons, Bool.and_eq_true]
    exact ⟨h v (by simp), zip_self_all l fun u hu => h u (by simp [hu])⟩

theorem sameBits_key {kt : TypeId} {k : Value} (hk : keyOkX E kt k = true) (n : Nat) : Instr.sameBits (n + 1) k k = true := by
  unfold keyOkX at hk
  split at hk
  · split at hk
    · rename_i cs
      simp only [Bool.and_eq_true] at hk
      simp only [Instr.sameBits, beq_self_eq_true, Bool.true_and]
      exact zip_self_all _ fun v hv => sameBits_scalar (List.all_eq_true.1 hk.1 v hv) n
    · cases hk
  · rename_i d _ _
    refine sameBits_scalar ?_ _
    cases d <;> cases k <;> first | (simp [keyFits] at hk; done) | rfl
  · cases hk

theorem EsRel.modify {M : Mp} {es : List MapEntry} {es' : Array MapEntry} {f g : MapEntry → MapEntry} (i : Nat) (h : EsRel M es es'.toList)
    (hfg : ∀ e e', es[i]? = some e → es'.toList[i]? = some e' → ERel M (f e) (g e')) : EsRel M (es.modify i f) (es'.modify i g).toList := by
  refine ⟨by simp [h.1], fun j a b ha hb => ?_⟩
  rw [Array.getElem?_toList, Array.getElem?_modify] at hb
  rw [List.getElem?_modify] at ha
  by_cases e : i = j
  · subst e
    rw [if_pos rfl, Option.map_eq_some_iff] at hb
    obtain ⟨y, hy, rfl⟩ := hb
    cases hx : es[i]? with
    | none => rw [hx] at ha; cases ha
    | some x =>
      rw [hx] at ha
      simp at ha
      subst ha
      exact hfg x y hx (by simpa using hy)
  · rw [if_neg e] at hb
    have : es[j]? = some a := by
      cases hj : es[j]? with
      | none => rw [hj] at ha; cases ha
      | some q => rw [hj] at ha; simp [e] at ha; rw [ha]
    exact h.2 j a b this (by simpa using hb)

theorem EsRel.push {M : Mp} {es : List MapEntry} {es' : Array MapEntry} {e e' : MapEntry} (h : EsRel M es es'.toList) (he : ERel M e e') : EsRel M (es ++ [e]) (es'.push e').toList := by
  refine ⟨by simp [h.1], fun j a b ha hb => ?_⟩
  rw [Array.toList_push] at hb
  by_cases hj : j < es.length
  · rw [List.getElem?_append_left hj] at ha
    rw [List.getElem?_append_left (by rw [← h.1]; exact hj)] at hb
    exact h.2 j a b ha hb
  · rw [List.getElem?_append_right (by omega)] at ha
    rw [List.getElem?_append_right (by rw [← h.1]; omega), ← h.1] at hb
    cases hk : j - es.length with
    | zero => rw [hk] at ha hb; simp at ha hb; subst ha; subst hb; exact he
    | succ n => rw [hk] at ha; simp at ha

theorem EsRel.erase {M : Mp} {es : List MapEntry} {es' : Array MapEntry} (i : Nat) (h : EsRel M es es'.toList) : EsRel M (es.eraseIdx i) (es'.eraseIdxIfInBounds i).toList := by
  have e1 : (es'.eraseIdxIfInBounds i).toList = es'.toList.eraseIdx i := by
    simp
  rw [e1]
  refine ⟨by simp [List.length_eraseIdx, h.1], fun j a b ha hb => ?_⟩
  rw [List.getElem?_eraseIdx] at ha hb
  split at ha
  · rw [if_pos ‹_›] at hb; exact h.2 j a b ha hb
  · rw [if_neg ‹_›] at hb; exact h.2 _ a b ha hb

section
variable {W : World} {B : Nat → Prop} {M : Mp} {h : Hp} {w : World} (H : HRel W B M h w)
include H

/-- An object that is no row of cells, changed. -/
theorem HRel.setObj {i b δ S : Nat} {o : AObj} {x x0 : Obj} (hρ : M.ρ i = some (b, δ, S)) (hx0 : w.heap[b]? = some x0) (hnc : ∀ c e f, x0 ≠ .cells c e f) (hx : ORel M i o δ S x) :
    (setObj b x).run E.P w = .ok () { w with heap := w.heap.setIfInBounds b x } ∧ HRel W B M (h.put i o) { w with heap := w.heap.setIfInBounds b x } ∧ Keep M h M (h.put i o) (fun _ => False) := by
  have hlt : b < w.heap.size := (Array.getElem?_eq_some_iff.1 hx0).1
  have hnr : ¬ RO h i := fun ⟨c, e, hg⟩ => by
    obtain ⟨_, o', x', h1, h2, h3⟩ := H.obj i b δ S hρ
    rw [hg] at h1
    cases h1
    obtain ⟨c', fr, hx', _⟩ := h3
    rw [hx0] at h2
    cases h2
    exact hnc _ _ _ hx'
  refine ⟨?_, H.put hρ hnr rfl rfl rfl (by simp) (by simp [hlt]) (fun c hc => by simp [Array.getElem?_setIfInBounds_ne (fun e => hc e.symm)]) hx, ⟨by rw [Hp.n_put]; exact Nat.le_refl _, fun j hj hk _ => ⟨hk, ?_⟩⟩⟩
  · cases x0 <;> first
      | (exact absurd rfl (hnc _ _ _))
      | simp [Go.setObj, Sem.run, hx0]
  · have : i ≠ j := fun e => hk (e ▸ (H.obj i b δ S hρ).1)
    rw [Hp.get_put, if_neg this]

theorem map_place {r r' : Nat} {es : List MapEntry} {cl : Nat} (hi : IdRel M r r') (hg : h.get r = some (.map es cl)) :
    ∃ S es', M.ρ r = some (r', 0, S) ∧ w.heap[r']? = some (.map es' cl) ∧ EsRel M es es'.toList ∧ (getObj r').run E.P w = .ok (.map es' cl) w := by
  obtain ⟨b, δ, S, x, hρ, hx, h0, es', rfl, he⟩ := H.place hi.1 hg (by simp)
  have := hi.2 b δ S hρ
  subst this; subst h0
  exact ⟨S, es', hρ, hx, he, by simp [getObj, Sem.run, hx]⟩

omit H in
theorem keyStays {kt : TypeId} {k e' : Value} (hk : keyOkX E kt k = true) (he : VRel M k e') : (Instr.keyThatStays e' k).run E.P w = .ok k w := by
  have := keyOk_eq hk he
  subst this
  simp [Instr.keyThatStays, sameBits_key hk 9999]

theorem mapPutX_sound {t : TypeId} {m k v m' k' v' : Value} {h' : Hp} (hm : VRel M m m') (hk : VRel M k k') (hv : VRel M v v') (hr : mapPutX E h t m k v = some h') :
    ∃ w', (Instr.mapUpdate t m' k' v').run E.P w = .ok () w' ∧ HRel W B M h' w' ∧ Keep M h M h' (fun _ => False) := by
  unfold mapPutX at hr
  split at hr
  · rename_i kt et r hu
    cases hm with
    | map hi =>
    rename_i r'
    split at hr
    · rename_i es cl hg
      obtain ⟨S, es', hρ, hx, he, hgo⟩ := map_place (E := E) H hi hg
      obtain ⟨hok, hr⟩ := cond_some hr
      have ek := keyOk_eq hok hk
      subst ek
      have hck : (Instr.checkKey false 10000 kt k').run E.P w = .ok () w := checkKey_ok hok
      have hu' := run_und hu w
      split at hr
      · rename_i i v0 hf
        cases hr
        obtain ⟨r2, hfk, hc⟩ := findKey_run (E := E) H hok hk he hf
        rcases hc with ⟨h1, _⟩ | ⟨j, e, e', h1, h2, h3, h4, h5, h6⟩
        · cases h1
        · cases h1; subst h2
          have hks : (Instr.keyThatStays e'.key k').run E.P w = .ok k' w := keyStays hok (by have := h5.1; rw [h6] at this; exact this)
          have h4' : es'[i]? = some e' := by simpa using h4
          obtain ⟨p1, p2, p3⟩ := HRel.setObj (E := E) H (o := .map (es.modify i fun e => { e with key := k', val := v }) cl) (x := .map (es'.modify i fun e => { e with key := k', val := v' }) cl) hρ hx (by intro c e f hh; cases hh)
            ⟨rfl, _, rfl, he.modify i fun a b ha hb => ⟨hk, hv, (he.2 i a b ha hb).2.2⟩⟩
          exact ⟨_, by simp [Instr.mapUpdate, hu', hgo, hck, hfk, h4', hks, p1], p2, p3⟩
      · rename_i hf
        cases hr
        obtain ⟨r2, hfk, hc⟩ := findKey_run (E := E) H hok hk he hf
        rcases hc with ⟨_, rfl⟩ | ⟨j, e, e', h1, _⟩
        · obtain ⟨p1, p2, p3⟩ := HRel.setObj (E := E) H (o := .map (es ++ [{ key := k', val := v, born := cl }]) (cl + 1)) (x := .map (es'.push { key := k', val := v', born := cl }) (cl + 1)) hρ hx (by intro c e f hh; cases hh)
            ⟨rfl, _, rfl, he.push ⟨hk, hv, rfl⟩⟩
          exact ⟨_, by simp [Instr.mapUpdate, hu', hgo, hck, hfk, p1], p2, p3⟩
        · cases h1
      · cases hr
    · cases hr
  · cases hr

theorem mapEntryX_sound {t : TypeId} {m k v m' k' : Value} {h' : Hp} (hm : VRel M m m') (hk : VRel M k k') (hr : mapEntryX E h t m k = some (v, h')) :
    ∃ v' w', (Instr.mapEntry t m' k').run E.P w = .ok v' w' ∧ HRel W B M h' w' ∧ Keep M h M h' (fun _ => False) ∧ VRel M v v' := by
  unfold mapEntryX at hr
  split at hr
  · rename_i kt et r hu
    cases hm with
    | map hi =>
    rename_i r'
    split at hr
    · rename_i es cl hg
      obtain ⟨S, es', hρ, hx, he, hgo⟩ := map_place (E := E) H hi hg
      obtain ⟨hok, hr⟩ := cond_some hr
      have ek := keyOk_eq hok hk
      subst ek
      have hck : (Instr.checkKey false 10000 kt k').run E.P w = .ok () w := checkKey_ok hok
      have hu' := run_und hu w
      split at hr
      · rename_i i v0 hf
        obtain ⟨r2, hfk, hc⟩ := findKey_run (E := E) H hok hk he hf
        rcases hc with ⟨h1, _⟩ | ⟨j, e, e', h1, h2, h3, h4, h5, h6⟩
        · cases h1
        · cases h1; subst h2
          rw [h3] at hr
          cases hr
          have hks : (Instr.keyThatStays e'.key k').run E.P w = .ok k' w := keyStays hok (by have := h5.1; rw [h6] at this; exact this)
          have h4' : es'[i]? = some e' := by simpa using h4
          obtain ⟨p1, p2, p3⟩ := HRel.setObj (E := E) H (o := .map (es.modify i fun e => { e with key := k' }) cl) (x := .map (es'.modify i fun e => { e with key := k' }) cl) hρ hx (by intro c e f hh; cases hh)
            ⟨rfl, _, rfl, he.modify i fun a b ha hb => ⟨hk, (he.2 i a b ha hb).2.1, (he.2 i a b ha hb).2.2⟩⟩
          refine ⟨.tuple #[e'.val, goInt e'.born], _, by simp [Instr.mapEntry, hu', hgo, hck, hfk, h4', hks, p1], p2, p3, ?_⟩
          rw [h5.2.2]
          exact .tuple' (.cons h5.2.1 (.cons (.int _ _) (.nil M)))
      · rename_i hf
        obtain ⟨r2, hfk, hc⟩ := findKey_run (E := E) H hok hk he hf
        rcases hc with ⟨_, rfl⟩ | ⟨j, e, e', h1, _⟩
        · split at hr
          · rename_i z hz
            cases hr
            obtain ⟨p1, p2, p3⟩ := HRel.setObj (E := E) H (o := .map (es ++ [{ key := k', val := z, born := cl }]) (cl + 1)) (x := .map (es'.push { key := k', val := z, born := cl }) (cl + 1)) hρ hx (by intro c e f hh; cases hh)
              ⟨rfl, _, rfl, he.push ⟨hk, zero_rel hz M, rfl⟩⟩
            exact ⟨.tuple #[z, goInt cl], _, by simp [Instr.mapEntry, hu', hgo, hck, hfk, run_zero hz, p1], p2, p3, .tuple' (.cons (zero_rel hz M) (.cons (.int _ _) (.nil M)))⟩
          · cases hr
        · cases h1
      · cases hr
    · cases hr
  · cases hr

theorem deleteX_sound {t : TypeId} {m k m' k' : Value} {h' : Hp} {ts : Array TypeId} {ty : TypeId} (hm : VRel M m m') (hk : VRel M k k') (ht : ts[0]? = some t) (hr : deleteX E h t m k = some h') :
    ∃ w', (Builtin.delete_ ts ty #[m', k']).run E.P w = .ok (.tuple #[]) w' ∧ HRel W B M h' w' ∧ Keep M h M h' (fun _ => False) := by
  unfold deleteX at hr
  split at hr
  · rename_i kt et r hu
    cases hm with
    | map hi =>
    rename_i r'
    split at hr
    · rename_i es cl hg
      obtain ⟨S, es', hρ, hx, he, hgo⟩ := map_place (E := E) H hi hg
      obtain ⟨hok, hr⟩ := cond_some hr
      have ek := keyOk_eq hok hk
      subst ek
      have hck : (Instr.checkKey es'.isEmpty 10000 kt k').run E.P w = .ok () w := checkKey_ok hok
      have hu' := run_und hu w
      split at hr
      · rename_i i v0 hf
        cases hr
        obtain ⟨r2, hfk, hc⟩ := findKey_run (E := E) H hok hk he hf
        rcases hc with ⟨h1, _⟩ | ⟨j, e, e', h1, h2, h3, h4, h5, h6⟩
        · cases h1
        · cases h1; subst h2
          obtain ⟨p1, p2, p3⟩ := HRel.setObj (E := E) H (o := .map (es.eraseIdx i) cl) (x := .map (es'.eraseIdxIfInBounds i) cl) hρ hx (by intro c e f hh; cases hh) ⟨rfl, _, rfl, he.erase i⟩
          exact ⟨_, by simp only [Builtin.delete_, ht]; simp [hu', hgo, hck, hfk, p1], p2, p3⟩
      · rename_i hf
        cases hr
        obtain ⟨r2, hfk, hc⟩ := findKey_run (E := E) H hok hk he hf
        rcases hc with ⟨_, rfl⟩ | ⟨j, e, e', h1, _⟩
        · have hlt : r' < w.heap.size := (Array.getElem?_eq_some_iff.1 hx).1
          refine ⟨{ w with heap := w.heap.setIfInBounds r' (.map es' cl) }, ?_, ?_, Keep.refl _ _ _⟩
          · simp only [Builtin.delete_, ht]; simp [hu', hgo, hck, hfk, Go.setObj, Sem.run, hx]
          · have : w.heap.setIfInBounds r' (.map es' cl) = w.heap := by
              apply Array.ext_getElem?
              intro i
              by_cases e : r' = i
              · subst e
                rw [hx]; simp [hlt]
              · rw [Array.getElem?_setIfInBounds_ne e]
            rw [this]; exact H
        · cases h1
      · cases hr
    · cases hr
  · cases hr

theorem entryStoreX_sound {t : TypeId} {m s v m' s' v' : Value} {h' : Hp} (hm : VRel M m m') (hs : VRel M s s') (hv : VRel M v v') (hr : entryStoreX h m s v = some h') :
    ∃ w', (Instr.entryStore t m' s' v').run E.P w = .ok () w' ∧ HRel W B M h' w' ∧ Keep M h M h' (fun _ => False) := by
  unfold entryStoreX at hr
  split at hr
  · rename_i r b hn
    cases hm with
    | map hi =>
    rename_i r'
    obtain ⟨k, rfl⟩ := natOf_ok hn
    cases hs
    split at hr
    · rename_i es cl hg
      obtain ⟨S, es', hρ, hx, he, hgo⟩ := map_place (E := E) H hi hg
      split at hr
      · rename_i i hf
        cases hr
        have hf' : es'.findIdx? (fun e => (e.born : Int) == (b : Int)) = some i := by
          have e1 : es'.findIdx? (fun e => (e.born : Int) == (b : Int)) = es'.toList.findIdx? (fun e => (e.born : Int) == (b : Int)) := by obtain ⟨q⟩ := es'; exact List.findIdx?_toArray _ _
          rw [e1]
          have gen : ∀ (l l' : List MapEntry), EsRel M l l' → l'.findIdx? (fun e => (e.born : Int) == (b : Int)) = l.findIdx? (fun e => Nat.beq e.born b) := by
            intro l
            induction l with
            | nil => intro l' hl; cases l' with
              | nil => rfl
              | cons => have := hl.1; simp at this
            | cons x l ih => intro l' hl; cases l' with
              | nil => have := hl.1; simp at this
              | cons y l' =>
                have h0 := (hl.2 0 x y rfl rfl).2.2
                have hrest : EsRel M l l' := ⟨by have := hl.1; simpa using this, fun j a b ha hb => hl.2 (j + 1) a b (by simpa using ha) (by simpa using hb)⟩
                simp only [List.findIdx?_cons, h0, ih l' hrest]
                have : ((x.born : Int) == (b : Int)) = Nat.beq x.born b := by
                  rw [Bool.eq_iff_iff, beq_iff]; simp; omega
                rw [this]
          rw [gen es es'.toList he]; exact hf
        obtain ⟨p1, p2, p3⟩ := HRel.setObj (E := E) H (o := .map (es.modify i fun e => { e with val := v }) cl) (x := .map (es'.modify i fun e => { e with val := v' }) cl) hρ hx (by intro c e f hh; cases hh)
          ⟨rfl, _, rfl, he.modify i fun a b ha hb => ⟨(he.2 i a b ha hb).1, hv, (he.2 i a b ha hb).2.2⟩⟩
        exact ⟨_, by simp only [Instr.entryStore, Sem.run_bind, hgo, Result.andThen_ok, asInt, asIntOf, Sem.run_pure, hf', p1], p2, p3⟩
      · cases hr
    · cases hr
  · cases hr

end

end Go.X
