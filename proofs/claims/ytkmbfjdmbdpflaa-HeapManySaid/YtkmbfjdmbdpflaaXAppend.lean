/- What X appends and copies, the model appends and copies. Conditions: none. -/
import Derived.Test.YtkmbfjdmbdpflaaXWrite
namespace Go.X

variable {E : Env}

theorem growBy_le (n : Nat) : ∀ (r c : Nat), c ≤ n + (n + 768) / 4 → Builtin.growBy n r c ≤ n + (n + 768) / 4
  | 0, c, h => h
  | r + 1, c, h => by
    unfold Builtin.growBy
    split
    · exact h
    · exact growBy_le n r _ (by omega)

theorem nextcap_le (n c : Nat) (h : c < n) : Builtin.nextslicecap n c ≤ 2 * n + 192 := by
  unfold Builtin.nextslicecap
  split
  · omega
  · split
    · omega
    · have := growBy_le n 4 c (by omega)
      omega

section
variable {W : World} {B : Nat → Prop} {M : Mp} {h : Hp} {w : World} (H : HRel W B M h w)
include H

omit H in
theorem loadCells_zero (a : Addr) (w : World) : (loadCells a 0).run E.P w = .ok #[] w := by simp [loadCells, loadCellsFrom]

theorem firstX_sound {z n : Nat} {x x' : Value} {xs : List Value} (hx : VRel M x x') (hr : firstX h z n x = some xs) :
    xs.length = n * z ∧ ∃ xs', VsRel M xs xs' ∧ ∀ d, (Builtin.firstCells z n x').run E.P { w with drawn := d } = .ok xs'.toArray { w with drawn := d } := by
  unfold firstX at hr
  split at hr
  · rename_i a l c
    cases hx with
    | sl hs =>
    rename_i a' c'
    obtain ⟨hle, hr⟩ := cond_some hr
    have hle := (ble_iff _ _).1 hle
    by_cases hn : n = 0
    · subst hn
      have : xs = [] := by
        have h2 : some [] = some xs := hr
        exact (Option.some.inj h2).symm
      subst this
      exact ⟨by simp, [], .nil M, fun d => by simp [Builtin.firstCells, loadCells_zero]⟩
    · rw [(beq_false n 0).2 hn, cond_false] at hr
      obtain ⟨hl, l', hv, hc, _⟩ := rowOf_ok H (SlRel.live hs (by omega)) hr
      refine ⟨hl, l', hv, fun d => ?_⟩
      have := run_loadCells_list (P := E.P) { w with drawn := d } a' l' hc
      rw [← hv.1, hl] at this
      simp [Builtin.firstCells, this]
  · cases hx
    obtain ⟨hle, hr⟩ := cond_some hr
    simp only [Bool.and_eq_true, ble_iff, beq_iff] at hle
    cases hr
    have : n = 0 := by omega
    subst this
    exact ⟨by simp, [], .nil M, fun d => by simp [Builtin.firstCells]⟩
  · rename_i s
    cases hx
    obtain ⟨hle, hr2⟩ := cond_some hr
    clear hr
    simp only [Bool.and_eq_true, ble_iff, beq_iff] at hle
    obtain ⟨hle, rfl⟩ := hle
    cases hr2
    have hsz : s.data.toList.length = s.size := by rw [Array.length_toList]; rfl
    refine ⟨by rw [List.length_map, List.length_take, hsz]; omega, (s.data.toList.take n).map fun b => .int .u8 b.toNat, .map _ _ _ fun _ _ => .int _ _, fun d => ?_⟩
    simp only [Builtin.firstCells, Sem.run_pure]
    congr 1
    apply Array.ext'
    simp
  · cases hr

omit H in
theorem lenOfX_sound {x x' : Value} {n : Nat} (hx : VRel M x x') (hr : lenOfX x = some n) : (Builtin.lenOf x').run E.P w = .ok n w := by
  unfold lenOfX at hr
  split at hr
  · cases hr; cases hx <;> simp [Builtin.lenOf]
  · cases hr; cases hx; simp [Builtin.lenOf]
  · cases hr

omit H in
/-- The model's append, where there is no room. -/
theorem run_grow {t t' e : TypeId} {d' : TypeDesc} {z b n l c' : Nat} {zv x' : Value} {base : Option Addr} {old' xs' : List Value} {ty : TypeId} {ts : Array TypeId}
    (hu : E.und t = some (.slice e)) (hu' : E.und t' = some d') (hd : ∀ k, d' ≠ .int k) (hz : E.size e = some (z + 1)) (hb : E.bytes e = some (b + 1)) (hzv : E.zero e = some zv) (hzs : zv.cells.size = z + 1)
    (ht : ts[0]? = some t) (ht' : ts[1]? = some t') (hn : (Builtin.lenOf x').run E.P w = .ok n w) (hgt : c' < l + n) (hbound : (l + n) * (b + 1) ≤ 2 ^ 40)
    (hold : ∀ d, (Builtin.firstCells (z + 1) l (.slice base l c')).run E.P { w with drawn := d } = .ok old'.toArray { w with drawn := d })
    (hxs : ∀ d, (Builtin.firstCells (z + 1) n x').run E.P { w with drawn := d } = .ok xs'.toArray { w with drawn := d }) :
    ∃ cap rest, l + n ≤ cap ∧ rest.size = (cap - (l + n)) * (z + 1) ∧ (Builtin.append_ ts ty #[.slice base l c', x']).run E.P w =
      .ok (.slice (some ⟨w.heap.size, 0, none⟩) (l + n) cap) { w with drawn := w.drawn + 1, heap := w.heap.push (.cells (old'.toArray ++ xs'.toArray ++ rest) e) } := by
  obtain ⟨ti, hti, hby⟩ := run_bytes hb
  have hcap := nextcap_le (l + n) c' hgt
  have hb1 : b + 1 ≤ 2 ^ 40 := by
    have : 1 * (b + 1) ≤ (l + n) * (b + 1) := Nat.mul_le_mul_right _ (by omega)
    omega
  have hmul : Builtin.nextslicecap (l + n) c' * (b + 1) ≤ 2 ^ 48 := by
    calc Builtin.nextslicecap (l + n) c' * (b + 1) ≤ (2 * (l + n) + 192) * (b + 1) := Nat.mul_le_mul_right _ hcap
      _ = 2 * ((l + n) * (b + 1)) + 192 * (b + 1) := by rw [Nat.add_mul, Nat.mul_assoc]
      _ ≤ 2 ^ 48 := by omega
  let q := Question.appendCap (l + n) c' e
  refine ⟨q.cut (w.tape w.drawn q), Builtin.zeroCells zv.cells (q.cut (w.tape w.drawn q) - (l + n)), ?_, ?_, ?_⟩
  · show l + n ≤ (l + n) + _; omega
  · simp [Builtin.zeroCells, hzs]
  · have hnint : (match d' with | .int _ => true | _ => false) = false := by cases d' <;> first | rfl | (exact absurd rfl (hd _))
    have w1 := hold (w.drawn + 1)
    have w2 := hxs (w.drawn + 1)
    simp only [Builtin.append_, ht, ht']
    have g0 : (#[Value.slice base l c', x'] : Array Value)[0]? = some (.slice base l c') := rfl
    have g1 : (#[Value.slice base l c', x'] : Array Value)[1]? = some x' := rfl
    simp only [g0, g1, Sem.run_bind, run_und hu w, run_und hu' w, Result.andThen_ok, run_size hz, Sem.run_pure]
    simp only [Bool.false_eq_true, if_false, hn, Result.andThen_ok, Sem.run_bind]
    rw [if_neg (by omega)]
    have hns : ¬ (Builtin.nextslicecap (l + n) c' * ti.bytes > 2 ^ 48) := by rw [hby]; omega
    simp only [Sem.run_bind, run_info hti, Result.andThen_ok, hby, Nat.succ_ne_zero, or_self, and_false, if_false, Sem.run_ite]
    rw [if_neg (by rw [hby] at hns; exact hns)]
    simp only [Sem.run_pure, Result.andThen_ok, run_choose, Question.forced, Bool.false_eq_true, if_false, run_askRoom]
    simp only [w1, w2, Result.andThen_ok, run_zero hzv]
    simp only [newRow, Sem.run_bind, run_newObj, Result.andThen_ok, Sem.run_pure]
    rfl

/-- X's append that makes room, and the model's; what of X's block is given up, is known. -/
theorem grow_place {h0 : Hp} {M0 : Mp} {e : TypeId} {z n cap S : Nat} {old xs old' xs' : List Value} {rest : Array Value} (H0 : HRel W B M0 h0 w)
    (hK : ∀ i, M0.K i ↔ M.K i) (hn0 : h0.n = h.n) (hev : Ev M M0)
    (ho : VsRel M old old') (hx : VsRel M xs xs') (hle : n ≤ cap) (hlen : old.length + xs.length = n * (z + 1)) (hrest : rest.size = (cap - n) * (z + 1)) (hS : S = cap * (z + 1))
    (d : Nat) : HRel W B (M0.add h.n w.heap.size 0 S (z + 2)) (h0.alloc (.cells (old ++ xs) e (z + 3))) { w with drawn := d, heap := w.heap.push (.cells (old'.toArray ++ xs'.toArray ++ rest) e) } ∧
      Ev M (M0.add h.n w.heap.size 0 S (z + 2)) ∧ VRel (M0.add h.n w.heap.size 0 S (z + 2)) (.slice (some ⟨h.n, 0, none⟩) n n) (.slice (some ⟨w.heap.size, 0, none⟩) n cap) := by
  have hnk : ¬ M0.K h.n := fun hk => by have := H.kn _ ((hK _).1 hk); omega
  have hlen' : old'.length + xs'.length = n * (z + 1) := by rw [← ho.1, ← hx.1]; exact hlen
  have hmul : n * (z + 1) ≤ cap * (z + 1) := Nat.mul_le_mul_right _ hle
  have hsub : (cap - n) * (z + 1) = cap * (z + 1) - n * (z + 1) := Nat.sub_mul _ _ _
  have hsize : (old'.toArray ++ xs'.toArray ++ rest).size = S := by
    simp only [Array.size_append, List.size_toArray]
    omega
  have hevA := Mp.add_ev M0 h.n w.heap.size 0 S (z + 2) hnk
  have hevM := hev.trans hevA
  have hAll : VsRel (M0.add h.n w.heap.size 0 S (z + 2)) (old ++ xs) (old' ++ xs') := (ho.mono hevM).append (hx.mono hevM)
  refine ⟨?_, hevM, .sl ⟨.inl rfl, fun b δ S' hb => ?_⟩⟩
  · have Ha := World.drew_HRel (H0.allocX (.cells (old ++ xs) e (z + 3))) d
    refine Ha.push (i := h.n) (o := .cells (old ++ xs) e (z + 3)) (x := .cells (old'.toArray ++ xs'.toArray ++ rest) e) (S := S) (m := z + 2) hnk (by rw [Hp.n_alloc]; omega) (by rw [Hp.get_alloc, if_pos hn0]) ?_
    refine ⟨_, (0, 0), rfl, hsize.symm, by simp; omega, fun j v hj => ?_, .inr (.inr ⟨⟨z + 1, rfl, by simp [Mp.add]⟩, fun j _ => by simp⟩)⟩
    have hjl : j < (old ++ xs).length := (List.getElem?_eq_some_iff.1 hj).1
    have hjl' : j < (old' ++ xs').length := by rw [← hAll.1]; exact hjl
    refine ⟨(old' ++ xs')[j], ?_, hAll.2 j v _ hj (by simp [])⟩
    rw [Nat.zero_add]
    have e1 : old'.toArray ++ xs'.toArray = (old' ++ xs').toArray := by simp
    rw [e1, Array.getElem?_append_left (by simpa using hjl')]
    simp []
  · simp only [Mp.add, if_true, Option.some.injEq, Prod.mk.injEq] at hb
    obtain ⟨rfl, rfl, rfl⟩ := hb
    exact .inr ⟨z + 1, by simp [Mp.add], .inl ⟨rfl, hle, by simp [hS]⟩⟩

/-- Giving a block up. -/
def Mp.drop (M : Mp) (i : Nat) : Mp := { M with ρ := fun j => if j = i then none else M.ρ j }

omit H in
theorem drop_ev (i : Nat) : Ev M (M.drop i) := ⟨fun _ hj => hj, fun j x _ hx => by
  simp only [Mp.drop] at hx
  split at hx
  · cases hx
  · exact hx, fun _ _ => rfl⟩

theorem drop_ok {i : Nat} (hk : M.K i) : HRel W B (M.drop i) (h.put i .dead) w ∧ Ev M (M.drop i) := by
  refine ⟨⟨fun j b δ S hj => ?_, fun j k b δ S δ' S' hj hk' => ?_, fun j hj => ?_, fun j hj => ?_, fun j hkj hj => ?_, H.os, H.tape, H.output, H.size, H.old, fun j b δ S hj => ?_, H.glob.mono (drop_ev i)⟩, drop_ev i⟩
  · simp only [Mp.drop] at hj
    split at hj
    · cases hj
    · rename_i e
      obtain ⟨h1, o, x, h2, h3, h4⟩ := H.obj j b δ S hj
      refine ⟨h1, o, x, by rw [Hp.get_put, if_neg (fun e' => e e'.symm)]; exact h2, h3, ?_⟩
      exact h4.mono (drop_ev i) h1
  · simp only [Mp.drop] at hj hk'
    split at hj
    · cases hj
    · rename_i e
      split at hk'
      · cases hk'
      · rcases H.inj _ _ _ _ _ _ _ hj hk' with h1 | ⟨c, e', h1⟩
        · exact .inl h1
        · exact .inr ⟨c, e', by rw [Hp.get_put, if_neg (fun x => e x.symm)]; exact h1⟩
  · rw [Hp.n_put]; exact H.kn j hj
  · rw [Hp.n_put] at hj
    rw [Hp.get_put, if_neg (by have := H.kn i hk; omega)]; exact H.fresh j hj
  · simp only [Mp.drop] at hj
    by_cases e : j = i
    · subst e; exact .inr (by rw [Hp.get_put, if_pos rfl])
    · rw [if_neg e] at hj
      rw [Hp.get_put, if_neg (fun e' => e e'.symm)]; exact H.live j hkj hj
  · simp only [Mp.drop] at hj
    split at hj
    · cases hj
    · rename_i e
      intro hb
      rcases H.own j b δ S hj hb with h1 | ⟨c, e', h1⟩
      · exact .inl h1
      · exact .inr ⟨c, e', by rw [Hp.get_put, if_neg (fun x => e x.symm)]; exact h1⟩

/-- X's block goes on under another number, at the same place: it has grown there. -/
theorem move_ok {i b δ S o s : Nat} {cs cs' : List Value} {e : TypeId} {c2 : Array Value} {fr : Nat × Nat} {w' : World}
    (hρ : M.ρ i = some (b, δ, S)) (hmd : M.md i = s + 1)
    (hos : w'.os = w.os) (htape : w'.tape = w.tape) (hout : w'.output = w.output) (hsz : w'.heap.size = w.heap.size)
    (hb : w'.heap[b]? = some (.cells c2 e fr)) (hother : ∀ c, c ≠ b → w'.heap[c]? = w.heap[c]?) (hS : S = c2.size)
    (hcs : VsRel M cs cs') (hat : ∀ j v, cs'[j]? = some v → c2[δ + o + j]? = some v) (hfit : δ + o + cs.length ≤ S) (hfr : ∀ j, j < S → ¬(fr.1 ≤ j ∧ j < fr.2)) :
    HRel W B ((M.drop i).add h.n b (δ + o) S (s + 1)) ((h.put i .dead).alloc (.cells cs e (s + 2))) w' ∧ Ev M ((M.drop i).add h.n b (δ + o) S (s + 1)) := by
  have hk := (H.obj i b δ S hρ).1
  have hilt := H.kn i hk
  have hnk : ¬ M.K h.n := fun hk' => by have := H.kn _ hk'; omega
  obtain ⟨H1, E1⟩ := drop_ok H hk
  have hnk1 : ¬ (M.drop i).K h.n := hnk
  have E2 := Mp.add_ev (M.drop i) h.n b (δ + o) S (s + 1) hnk1
  have EE := E1.trans E2
  have hnr : ¬ RO h i := fun ⟨cc, ee, hg⟩ => by
    obtain ⟨_, o', x', h1, h2, h3⟩ := H.obj i b δ S hρ
    rw [hg] at h1
    cases h1
    obtain ⟨c', fr', hx', _, _, _, h4⟩ := h3
    rcases h4 with ⟨h5, _⟩ | ⟨_, h5, _⟩ | ⟨⟨s', h5, _⟩, _⟩
    · cases h5
    · rw [hmd] at h5; cases h5
    · omega
  have hbB : b < W.heap.size → B b := fun hb => (H.own i b δ S hρ hb).resolve_right hnr
  refine ⟨⟨fun j b' δ' S' hj => ?_, fun j k b' δ1 S1 δ2 S2 hj hk' => ?_, fun j hj => ?_, fun j hj => ?_, fun j hkj hj => ?_, hos.trans H.os, htape.trans H.tape, hout.trans H.output, by rw [hsz]; exact H.size, fun k hk1 hk2 => ?_, fun j b' δ' S' hj hlt => ?_, H.glob.mono EE⟩, EE⟩
  · by_cases ej : j = h.n
    · subst ej
      simp only [Mp.add, if_true, Option.some.injEq, Prod.mk.injEq] at hj
      obtain ⟨rfl, rfl, rfl⟩ := hj
      refine ⟨.inl rfl, .cells cs e (s + 2), _, by rw [Hp.get_alloc, Hp.n_put, if_pos rfl], hb, c2, fr, rfl, hS, hfit, fun j v hj => ?_, .inr (.inr ⟨⟨s, rfl, by simp [Mp.add]⟩, hfr⟩)⟩
      have hlt : j < cs'.length := by rw [← hcs.1]; exact (List.getElem?_eq_some_iff.1 hj).1
      exact ⟨cs'[j], hat j _ (by simp [hlt]), (hcs.2 j v _ hj (by simp [hlt])).mono EE⟩
    · simp only [Mp.add, if_neg ej, Mp.drop] at hj
      split at hj
      · cases hj
      · rename_i ei
        obtain ⟨h1, o', x, h2, h3, h4⟩ := H.obj j b' δ' S' hj
        have hne : b' ≠ b := fun e' => ei ((H.inj i j b δ S δ' S' hρ (e' ▸ hj)).resolve_right hnr).symm
        refine ⟨.inr h1, o', x, ?_, by rw [hother _ hne]; exact h3, h4.mono EE h1⟩
        rw [Hp.get_alloc, Hp.n_put, if_neg (fun e' => ej e'.symm), Hp.get_put, if_neg (fun e' => ei e'.symm)]; exact h2
  · by_cases ej : j = h.n <;> by_cases ek : k = h.n
    · exact .inl (by rw [ej, ek])
    · simp only [Mp.add, if_pos ej, if_neg ek, Mp.drop, Option.some.injEq, Prod.mk.injEq] at hj hk'
      split at hk'
      · cases hk'
      · rename_i ei
        obtain ⟨rfl, _, _⟩ := hj
        exact absurd ((H.inj i k b δ S δ2 S2 hρ hk').resolve_right hnr).symm ei
    · simp only [Mp.add, if_neg ej, if_pos ek, Mp.drop, Option.some.injEq, Prod.mk.injEq] at hj hk'
      split at hj
      · cases hj
      · rename_i ei
        obtain ⟨rfl, _, _⟩ := hk'
        exact absurd ((H.inj i j b δ S δ1 S1 hρ hj).resolve_right hnr).symm ei
    · simp only [Mp.add, if_neg ej, if_neg ek, Mp.drop] at hj hk'
      split at hj
      · cases hj
      · rename_i ei
        split at hk'
        · cases hk'
        · rcases H.inj _ _ _ _ _ _ _ hj hk' with h1 | ⟨cc, ee, h1⟩
          · exact .inl h1
          · refine .inr ⟨cc, ee, ?_⟩
            rw [Hp.get_alloc, Hp.n_put, if_neg (fun e' => ej e'.symm), Hp.get_put, if_neg (fun e' => ei e'.symm)]; exact h1
  · rw [Hp.n_alloc, Hp.n_put]
    rcases hj with rfl | hj
    · omega
    · have := H.kn j hj; omega
  · rw [Hp.n_alloc, Hp.n_put] at hj
    rw [Hp.get_alloc, Hp.n_put, if_neg (by omega), Hp.get_put, if_neg (by omega)]; exact H.fresh j (by omega)
  · by_cases ej : j = h.n
    · subst ej; simp [Mp.add] at hj
    · have hkj' : M.K j := hkj.resolve_left ej
      simp only [Mp.add, if_neg ej, Mp.drop] at hj
      rw [Hp.get_alloc, Hp.n_put, if_neg (fun e' => ej e'.symm)]
      by_cases ei : j = i
      · subst ei; exact .inr (by rw [Hp.get_put, if_pos rfl])
      · rw [if_neg ei] at hj
        rw [Hp.get_put, if_neg (fun e' => ei e'.symm)]; exact H.live j hkj' hj
  · have : k ≠ b := fun e' => hk2 (e' ▸ hbB (e' ▸ hk1))
    rw [hother k this]; exact H.old k hk1 hk2
  · by_cases ej : j = h.n
    · simp only [Mp.add, if_pos ej, Option.some.injEq, Prod.mk.injEq] at hj
      obtain ⟨rfl, _, _⟩ := hj
      exact .inl (hbB hlt)
    · simp only [Mp.add, if_neg ej, Mp.drop] at hj
      split at hj
      · cases hj
      · rename_i ei
        rcases H.own j b' δ' S' hj hlt with h1 | ⟨cc, ee, h1⟩
        · exact .inl h1
        · refine .inr ⟨cc, ee, ?_⟩
          rw [Hp.get_alloc, Hp.n_put, if_neg (fun e' => ej e'.symm), Hp.get_put, if_neg (fun e' => ei e'.symm)]; exact h1

end

end Go.X
