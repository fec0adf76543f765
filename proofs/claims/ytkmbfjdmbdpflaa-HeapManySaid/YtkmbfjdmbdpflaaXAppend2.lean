/- X's append and copy are the model's. Conditions: none. -/
import Derived.Test.YtkmbfjdmbdpflaaXAppend
namespace Go.X

variable {E : Env}

theorem storeCells_nil (a : Addr) (w : World) (i : Nat) : (storeCells a [] i).run E.P w = .ok () w := rfl

/-- The model's append, where there is room. -/
theorem run_room {w w' : World} {t t' e : TypeId} {d' : TypeDesc} {z n l c' : Nat} {x' : Value} {base : Option Addr} {xs' : List Value} {ty : TypeId} {ts : Array TypeId}
    (hu : E.und t = some (.slice e)) (hu' : E.und t' = some d') (hd : ∀ k, d' ≠ .int k) (hz : E.size e = some (z + 1))
    (ht : ts[0]? = some t) (ht' : ts[1]? = some t') (hn : (Builtin.lenOf x').run E.P w = .ok n w) (hle : l + n ≤ c')
    (hxs : (Builtin.firstCells (z + 1) n x').run E.P w = .ok xs'.toArray w)
    (hst : match base with | some a => (storeCells (a.add (l * (z + 1))) xs').run E.P w = .ok () w' | none => w' = w) :
    (Builtin.append_ ts ty #[.slice base l c', x']).run E.P w = .ok (.slice base (l + n) c') w' := by
  have hnint : (match d' with | .int _ => true | _ => false) = false := by cases d' <;> first | rfl | (exact absurd rfl (hd _))
  simp only [Builtin.append_, ht, ht']
  have g0 : (#[Value.slice base l c', x'] : Array Value)[0]? = some (.slice base l c') := rfl
  have g1 : (#[Value.slice base l c', x'] : Array Value)[1]? = some x' := rfl
  simp only [g0, g1, Sem.run_bind, run_und hu w, run_und hu' w, Result.andThen_ok, run_size hz, Sem.run_pure]
  simp only [Bool.false_eq_true, if_false, hn, Result.andThen_ok, Sem.run_bind]
  rw [if_pos hle]
  simp only [Sem.run_bind]
  cases base with
  | none => simp only at hst; subst hst; simp [hxs]
  | some a => simp only at hst; simp [hxs, hst]

section
variable {W : World} {B : Nat → Prop} {M : Mp} {h : Hp} {w : World} (H : HRel W B M h w)
include H

omit H in
theorem rowZero {a : Addr} {old : List Value} (hr : rowOf h a 0 = some old) : old = [] := by
  unfold rowOf at hr
  split at hr
  · cases hr
  · split at hr
    · obtain ⟨_, h2⟩ := cond_some hr; simp at h2; exact h2.symm ▸ rfl
    · cases hr

omit H in
theorem keep_alloc {M' : Mp} {o : AObj} (hk : ∀ i, i < h.n → M'.K i → M.K i) : Keep M h M' (h.alloc o) (fun _ => False) := by
  refine ⟨by rw [Hp.n_alloc]; omega, fun i hi hki _ => ⟨fun hh => hki (hk i hi hh), ?_⟩⟩
  rw [Hp.get_alloc, if_neg (by omega)]

omit H in
theorem keep_move {M' : Mp} {o : AObj} {j : Nat} (hj : M.K j) (hk : ∀ i, i < h.n → M'.K i → M.K i) : Keep M h M' ((h.put j .dead).alloc o) (fun _ => False) := by
  refine ⟨by rw [Hp.n_alloc, Hp.n_put]; omega, fun i hi hki _ => ⟨fun hh => hki (hk i hi hh), ?_⟩⟩
  have hne : j ≠ i := fun h0 => hki (h0 ▸ hj)
  rw [Hp.get_alloc, Hp.n_put, if_neg (by omega), Hp.get_put, if_neg hne]

theorem mode_slice {a a' : Addr} {l c c' m : Nat} (hs : SlRel M a a' l c c') (hm : modeOf h a = some m) :
    ∃ b δ S, M.ρ a.block = some (b, δ, S) ∧ ((m ≤ 1 ∧ M.md a.block = 0 ∧ a' = ⟨b, δ + a.off, a.spot⟩ ∧ c' = c) ∨
      (∃ q, m = q + 2 ∧ M.md a.block = q + 1 ∧ ((a' = ⟨b, δ + a.off, a.spot⟩ ∧ c ≤ c' ∧ δ + a.off + c' * q ≤ S) ∨ (l = 0 ∧ c' = 0 ∧ c = 0)))) := by
  obtain ⟨b, δ, S, hρ, hmd⟩ := mode_place H hs.1 hm
  refine ⟨b, δ, S, hρ, ?_⟩
  rcases hs.2 b δ S hρ with ⟨h0, h1, h2⟩ | ⟨q, h0, h1⟩
  · rcases hmd with ⟨h3, h4⟩ | ⟨s, h3, h4⟩
    · exact .inl ⟨h3, h4, h1, h2⟩
    · omega
  · rcases hmd with ⟨h3, h4⟩ | ⟨s, h3, h4⟩
    · omega
    · have : s = q := by omega
      subst this
      exact .inr ⟨s, h3, h4, h1⟩

set_option maxHeartbeats 2000000 in
theorem appendX_sound {t t' : TypeId} {s x s' x' v : Value} {h' : Hp} {ts : Array TypeId} {ty : TypeId} (hs : VRel M s s') (hx : VRel M x x') (ht : ts[0]? = some t) (ht' : ts[1]? = some t')
    (hr : appendX E h t t' s x = some (v, h')) :
    ∃ v' w' M', (Builtin.append_ ts ty #[s', x']).run E.P w = .ok v' w' ∧ Ev M M' ∧ HRel W B M' h' w' ∧ Keep M h M' h' (fun _ => False) ∧ VRel M' v v' := by
  unfold appendX at hr
  split at hr
  case h_2 => cases hr
  rename_i e d' n hu hu' hn
  have hlen := lenOfX_sound (E := E) (w := w) hx hn
  split at hr
  · cases hr
  · rename_i d' _ _ _ z b hdn hz hb
    have hd : ∀ k, d' ≠ .int k := fun k hk => hdn k hk
    have kn : ∀ (M0 : Mp) (bl δ S m : Nat), (∀ i, M0.K i ↔ M.K i) → ∀ i, i < h.n → (M0.add h.n bl δ S m).K i → M.K i := by
      intro M0 bl δ S m hM i hi hki
      rcases hki with rfl | hki
      · omega
      · exact (hM i).1 hki
    split at hr
    ·
      rename_i xs hxs
      cases hs
      obtain ⟨hxl, xs', hxr, hxrun⟩ := firstX_sound (E := E) H hx hxs
      cases hn0 : Nat.beq n 0 with
      | true =>
        have hn1 := (beq_iff _ _).1 hn0
        subst hn1
        rw [hn0, cond_true] at hr
        cases hr
        exact ⟨.slice none 0 0, w, M, run_room (base := none) (l := 0) (c' := 0) hu hu' hd hz ht ht' hlen (by omega) (hxrun w.drawn) rfl, Ev.refl M, H, Keep.refl _ _ _, .nils _ _⟩
      | false =>
        have hn1 := (beq_false _ _).1 hn0
        rw [hn0, cond_false] at hr
        unfold growX at hr
        split at hr
        · rename_i zv hzv
          obtain ⟨hc, hr⟩ := cond_some hr
          simp only [Bool.and_eq_true, ble_iff, beq_iff] at hc
          cases hr
          obtain ⟨cap, rest, h1, h2, h3⟩ := run_grow (E := E) (w := w) (l := 0) (c' := 0) (base := none) (old' := []) (xs' := xs') (ty := ty) hu hu' hd hz hb hzv hc.2 ht ht' hlen (by omega) (by rw [Nat.zero_add]; exact hc.1)
            (fun d => by simp [Builtin.firstCells]) hxrun
          rw [Nat.zero_add] at h1 h2 h3
          obtain ⟨p1, p2, p3⟩ := grow_place (M := M) (h := h) (w := w) H (h0 := h) (M0 := M) (e := e) (z := z) (n := n) (cap := cap) (S := cap * (z + 1)) (old := []) (old' := []) (xs := xs) (xs' := xs') (rest := rest) H (fun _ => Iff.rfl) rfl (Ev.refl M) (.nil M) hxr h1 (by simpa using hxl) h2 rfl (w.drawn + 1)
          exact ⟨_, _, _, h3, p2, p1, keep_alloc (kn M _ _ _ _ (fun _ => Iff.rfl)), p3⟩
        · cases hr
    ·
      rename_i a l c xs hxs
      cases hs with
      | sl hsl =>
      rename_i a' c'
      obtain ⟨hxl, xs', hxr, hxrun⟩ := firstX_sound (E := E) H hx hxs
      cases hn0 : Nat.beq n 0 with
      | true =>
        have hn1 := (beq_iff _ _).1 hn0
        subst hn1
        rw [hn0, cond_true] at hr
        split at hr
        · rename_i m hm
          obtain ⟨hlc, hr⟩ := cond_some hr
          have hlc := (ble_iff _ _).1 hlc
          cases hr
          have hx0 : xs' = [] := by
            have := hxr.1; rw [hxl] at this; simp at this
            cases xs' with
            | nil => rfl
            | cons => simp at this
          subst hx0
          have hle : l + 0 ≤ c' := by
            obtain ⟨bb, δ, S, _, hcase⟩ := mode_slice H hsl hm
            rcases hcase with ⟨_, _, _, h4⟩ | ⟨q, _, _, ⟨_, h4, _⟩ | ⟨h4, _, _⟩⟩ <;> omega
          exact ⟨_, w, M, run_room (base := some a') hu hu' hd hz ht ht' hlen hle (hxrun w.drawn) (storeCells_nil _ _ _), Ev.refl M, H, Keep.refl _ _ _, .sl hsl⟩
        · cases hr
      | false =>
        have hn1 := (beq_false _ _).1 hn0
        rw [hn0, cond_false] at hr
        cases hle0 : Nat.ble (l + n) c with
        | true =>
          have hle := (ble_iff _ _).1 hle0
          rw [hle0, cond_true] at hr
          split at hr
          · rename_i h1 hst
            obtain ⟨hcv, hr⟩ := cond_some hr
            cases hr
            -- the block is there, in either case
            have hmo : ∃ m, modeOf h a = some m := by
              unfold storeRow at hst
              split at hst
              · cases hst
              · split at hst
                · rename_i cc ee mm hg
                  rw [block_add] at hg
                  exact ⟨mm, by unfold modeOf; rw [hg]⟩
                · cases hst
            obtain ⟨m, hm⟩ := hmo
            obtain ⟨bb, δ, S, hρ, hcase⟩ := mode_slice H hsl hm
            have hA : AddrRel M a a' ∧ c ≤ c' := by
              rcases hcase with ⟨_, _, h3, h4⟩ | ⟨q, _, _, ⟨h3, h4, _⟩ | ⟨h3, h4, h5⟩⟩
              · exact ⟨⟨hsl.1, fun b2 δ2 S2 h6 => by rw [hρ] at h6; cases h6; exact h3⟩, by omega⟩
              · exact ⟨⟨hsl.1, fun b2 δ2 S2 h6 => by rw [hρ] at h6; cases h6; exact h3⟩, by omega⟩
              · omega
            obtain ⟨w', r, H', K', _⟩ := storeRow_sound (E := E) H (hA.1.add (l * (z + 1))) hxr hcv hst
            refine ⟨_, w', M, run_room (base := some a') hu hu' hd hz ht ht' hlen (by omega) (hxrun w.drawn) r, Ev.refl M, H', K', .sl ⟨hsl.1, fun b2 δ2 S2 h6 => ?_⟩⟩
            rw [hρ] at h6; cases h6
            rcases hcase with ⟨_, h2, h3, h4⟩ | ⟨q, _, h2, ⟨h3, h4, h5⟩ | ⟨h3, h4, h5⟩⟩
            · exact .inl ⟨h2, h3, h4⟩
            · exact .inr ⟨q, h2, .inl ⟨h3, h4, h5⟩⟩
            · omega
          · cases hr
        | false =>
          have hgt : c < l + n := by
            rcases Nat.lt_or_ge c (l + n) with h1 | h1
            · exact h1
            · rw [(ble_iff _ _).2 h1] at hle0; cases hle0
          rw [hle0, cond_false] at hr
          split at hr
          · rename_i old c0 be m hrow hg
            obtain ⟨hcv, hr⟩ := cond_some hr
            have hm : modeOf h a = some m := by unfold modeOf; rw [hg]
            obtain ⟨bb, δ, S, hρ, hcase⟩ := mode_slice H hsl hm
            -- what was there, read
            have hold : old.length = l * (z + 1) ∧ ∃ old', VsRel M old old' ∧ ∀ d, (Builtin.firstCells (z + 1) l (.slice (some a') l c')).run E.P { w with drawn := d } = .ok old'.toArray { w with drawn := d } := by
              by_cases hl : l = 0
              · subst hl
                rw [Nat.zero_mul] at hrow
                have := rowZero hrow
                subst this
                exact ⟨by simp, [], .nil M, fun d => by simp [Builtin.firstCells, loadCells_zero]⟩
              · obtain ⟨hl2, l', hv, hc, _⟩ := rowOf_ok H (SlRel.live hsl (by omega)) hrow
                refine ⟨hl2, l', hv, fun d => ?_⟩
                have := run_loadCells_list (P := E.P) { w with drawn := d } a' l' hc
                rw [← hv.1, hl2] at this
                simp [Builtin.firstCells, this]
            obtain ⟨holdl, old', hor, horun⟩ := hold
            have htot : old.length + xs.length = (l + n) * (z + 1) := by rw [holdl, hxl, Nat.add_mul]
            -- the way on which the model makes a new block
            have grow : ∀ (h0 : Hp) (M0 : Mp), HRel W B M0 h0 w → (∀ i, M0.K i ↔ M.K i) → h0.n = h.n → Ev M M0 → growX E h0 e (z + 1) (b + 1) (l + n) old xs = some (v, h') → c' < l + n →
                (∀ M', (∀ i, i < h.n → M'.K i → M.K i) → Keep M h M' (h0.alloc (.cells (old ++ xs) e (z + 3))) (fun _ => False)) →
                ∃ v' w' M', (Builtin.append_ ts ty #[.slice (some a') l c', x']).run E.P w = .ok v' w' ∧ Ev M M' ∧ HRel W B M' h' w' ∧ Keep M h M' h' (fun _ => False) ∧ VRel M' v v' := by
              intro h0 M0 H0 hK hn0 hev hg hlt hkeep
              unfold growX at hg
              split at hg
              · rename_i zv hzv
                obtain ⟨hc, hg⟩ := cond_some hg
                simp only [Bool.and_eq_true, ble_iff, beq_iff] at hc
                cases hg
                obtain ⟨cap, rest, h1, h2, h3⟩ := run_grow (E := E) (w := w) (l := l) (c' := c') (base := some a') (old' := old') (xs' := xs') (ty := ty) hu hu' hd hz hb hzv hc.2 ht ht' hlen hlt hc.1 horun hxrun
                obtain ⟨p1, p2, p3⟩ := grow_place (M := M) (h := h) (w := w) H (h0 := h0) (M0 := M0) (e := e) (z := z) (n := l + n) (cap := cap) (S := cap * (z + 1)) (rest := rest) H0 hK hn0 hev hor hxr h1 htot h2 rfl (w.drawn + 1)
                refine ⟨_, _, _, h3, p2, p1, hkeep _ (kn M0 _ _ _ _ hK), ?_⟩
                rw [hn0]; exact p3
              · cases hg
            split at hr
            ·
              rename_i q
              obtain ⟨hq, hr2⟩ := cond_some hr
              clear hr
              simp only [Bool.and_eq_true, beq_iff] at hq
              obtain ⟨rfl, rfl⟩ := hq
              obtain ⟨H1, E1⟩ := drop_ok H hsl.1
              rcases hcase with ⟨h2, _⟩ | ⟨q2, h2, hmd, hc2⟩
              · omega
              have : q2 = z + 1 := by omega
              subst this
              by_cases hroom : l + n ≤ c'
              ·
                rcases hc2 with ⟨ha, hcc, hfit⟩ | ⟨h3, h4, h5⟩
                · obtain ⟨bx, δx, Sx, x0, hρx, hx0, c1, fr, rfl, hS, hle2, hcs, hmm⟩ := H.place hsl.1 hg (by simp)
                  rw [hρ] at hρx; cases hρx
                  have hsp : a.spot = none := by
                    have := hrow
                    unfold rowOf at this
                    split at this
                    · cases this
                    · assumption
                  rw [hsp] at ha
                  subst ha
                  have hfr : ∀ j, j < c1.size → ¬(fr.1 ≤ j ∧ j < fr.2) := by
                    rcases hmm with ⟨h6, _⟩ | ⟨h6, _⟩ | ⟨_, h6⟩
                    · omega
                    · omega
                    · rw [hS] at h6; exact h6
                  have hxl' : xs'.length = n * (z + 1) := by rw [← hxr.1]; exact hxl
                  have hmul : (l + n) * (z + 1) ≤ c' * (z + 1) := Nat.mul_le_mul_right _ hroom
                  rw [Nat.add_mul] at hmul
                  have hadd : (⟨bb, δ + a.off, none⟩ : Addr).add (l * (z + 1)) = ⟨bb, δ + a.off + l * (z + 1), none⟩ := by
                    unfold Addr.add; split
                    · rename_i e0; rw [e0]; rfl
                    · rfl
                  have hone : ∀ v ∈ xs', v.oneCell' = true := by
                    intro v hvm
                    obtain ⟨i, hi⟩ := List.getElem?_of_mem hvm
                    have hlt : i < xs.length := by have := (List.getElem?_eq_some_iff.1 hi).1; have := hxr.1; omega
                    have hu : xs[i]? = some xs[i] := by simp [hlt]
                    exact cellV_one (List.all_eq_true.1 hcv _ (List.getElem_mem hlt)) (hxr.2 i _ _ hu hi)
                  have run := run_storeCells_cells (P := E.P) bb (δ + a.off + l * (z + 1)) xs' 0 w (fun j hj => by
                      have : δ + a.off + l * (z + 1) + j < c1.size := by omega
                      simp [World.cell?, hx0, this]) (fun j hj => by
                      have := hfr (δ + a.off + l * (z + 1) + j) (by omega)
                      simp only [World.frozen?, hx0, Nat.add_zero]
                      obtain ⟨lo, hi⟩ := fr
                      simp only at this ⊢
                      rw [Bool.and_eq_false_iff]
                      simp only [decide_eq_false_iff_not]
                      omega) hone
                  rw [Nat.add_zero] at run
                  obtain ⟨c2, p1, p2, p3, p4, p5, p6, p7, p8⟩ := setCells_heap bb xs' (δ + a.off + l * (z + 1)) w c1 be fr hx0 (by omega)
                  have holdat : ∀ j v, old'[j]? = some v → c1[δ + a.off + j]? = some v := by
                    intro j v hj
                    have hlt : j < old'.length := (List.getElem?_eq_some_iff.1 hj).1
                    have hl0 : 0 < l := by
                      rcases Nat.eq_zero_or_pos l with h6 | h6
                      · subst h6; have := hor.1; rw [holdl] at this; omega
                      · exact h6
                    obtain ⟨_, l', hv, hc, _⟩ := rowOf_ok H (SlRel.live hsl hl0) hrow
                    have h7 := run_loadCells_list (P := E.P) w _ l' hc
                    have h8 := horun w.drawn
                    rw [← hv.1, holdl] at h7
                    simp only [Builtin.firstCells] at h8
                    have h9 : Result.ok l'.toArray w = Result.ok old'.toArray w := h7.symm.trans h8
                    have h10 : l' = old' := by
                      have := (Result.ok.injEq _ _ _ _).mp h9
                      simpa using this.1
                    have h11 := hc j v (by rw [h10]; exact hj)
                    rw [cell_add hx0] at h11
                    exact h11
                  have hAll := hor.append hxr
                  obtain ⟨q1, q2⟩ := move_ok (e := be) (o := a.off) H hρ hmd p6 p7 p8 p5 p1 p4 (by rw [p2]; exact hS) hAll
                    (fun j v hj => by
                      rw [p3]
                      by_cases hj0 : j < old'.length
                      · rw [List.getElem?_append_left hj0] at hj
                        have : old'.length = l * (z + 1) := by rw [← hor.1]; exact holdl
                        rw [if_neg (by omega)]
                        exact holdat j v hj
                      · rw [List.getElem?_append_right (by omega)] at hj
                        have h12 : old'.length = l * (z + 1) := by rw [← hor.1]; exact holdl
                        have h13 := (List.getElem?_eq_some_iff.1 hj).1
                        rw [if_pos (by omega)]
                        have : δ + a.off + j - (δ + a.off + l * (z + 1)) = j - old'.length := by omega
                        rw [this]; exact hj) (by rw [List.length_append]; omega) (by rw [hS]; exact hfr)
                  unfold growX at hr2
                  split at hr2
                  · rename_i zv hzv
                    obtain ⟨_, hr3⟩ := cond_some hr2
                    clear hr2
                    cases hr3
                    refine ⟨.slice (some ⟨bb, δ + a.off, none⟩) (l + n) c', _, _, run_room (base := some ⟨bb, δ + a.off, none⟩) hu hu' hd hz ht ht' hlen hroom (hxrun w.drawn) (by show (storeCells ((⟨bb, δ + a.off, none⟩ : Addr).add (l * (z + 1))) xs').run E.P w = _; rw [hadd]; exact run), q2, q1,
                      keep_move hsl.1 (kn (M.drop a.block) _ _ _ _ (fun _ => Iff.rfl)), .sl ⟨by rw [Hp.n_put]; exact .inl rfl, fun b2 δ2 S2 h6 => ?_⟩⟩
                    simp only [Mp.add, Hp.n_put, if_true, Option.some.injEq, Prod.mk.injEq] at h6
                    obtain ⟨rfl, rfl, rfl⟩ := h6
                    refine .inr ⟨z + 1, by simp [Mp.add, Hp.n_put], .inl ⟨by simp, hroom, by simpa using hfit⟩⟩
                  · cases hr2
                · omega
              · exact grow _ _ H1 (fun _ => Iff.rfl) (Hp.n_put _ _ _) E1 hr2 (by omega) (fun M' hM' => keep_move hsl.1 hM')
            ·
              rename_i hnot
              rcases hcase with ⟨_, _, _, h4⟩ | ⟨q, h2, _⟩
              · subst h4
                exact grow h M H (fun _ => Iff.rfl) rfl (Ev.refl M) hr hgt (fun M' hM' => keep_alloc hM')
              · exact absurd h2 (hnot q)
          · cases hr
    · cases hr
  · cases hr

theorem copyX_sound {t : TypeId} {d s d' s' v : Value} {h' : Hp} {ts : Array TypeId} {ty : TypeId} (hd : VRel M d d') (hs : VRel M s s') (ht : ts[0]? = some t)
    (hr : copyX E h t d s = some (v, h')) :
    ∃ v' w', (Builtin.copy_ ts ty #[d', s']).run E.P w = .ok v' w' ∧ HRel W B M h' w' ∧ Keep M h M h' (fun _ => False) ∧ VRel M v v' := by
  unfold copyX at hr
  split at hr
  case h_2 => cases hr
  rename_i e n hu hn
  have hlen := lenOfX_sound (E := E) (w := w) hs hn
  have g0 : (#[d', s'] : Array Value)[0]? = some d' := rfl
  have g1 : (#[d', s'] : Array Value)[1]? = some s' := rfl
  split at hr
  · rename_i z a l c hz
    cases hd with
    | sl hsl =>
    rename_i a' c'
    split at hr
    · rename_i xs hxs
      obtain ⟨hxl, xs', hxr, hxrun⟩ := firstX_sound (E := E) H hs hxs
      obtain ⟨hcv, hr⟩ := cond_some hr
      split at hr
      · rename_i h1 hst
        cases hr
        have hrun := hxrun w.drawn
        by_cases hl : l = 0
        · subst hl
          have hx0 : xs = [] := by
            cases xs with
            | nil => rfl
            | cons => simp at hxl
          subst hx0
          have hx1 : xs' = [] := by
            cases xs' with
            | nil => rfl
            | cons => have := hxr.1; simp at this
          subst hx1
          -- nothing is written: the block is put as it was
          unfold storeRow at hst
          split at hst
          · cases hst
          · split at hst
            · rename_i cc ee mm hg
              obtain ⟨hc, hst⟩ := cond_some hst
              cases hst
              obtain ⟨b, δ, S, x, hρ, hx, ho⟩ := H.place hsl.1 hg (by simp)
              refine ⟨.int .i64 (min n 0 : Nat), w, ?_, ?_, ?_, .int _ _⟩
              · simp only [Builtin.copy_, ht, g0, g1, Sem.run_bind, run_und hu w, Result.andThen_ok, hlen, run_size hz]
                have : (Builtin.firstCells (z + 1) (n.min 0) s').run E.P w = .ok #[] w := hrun
                rw [this]
                simp [storeCells_nil, goInt]
              · have hcc : cc.take a.off ++ ([] : List Value) ++ cc.drop (a.off + ([] : List Value).length) = cc := by simp
                rw [hcc]
                refine H.put hρ (fun ⟨c1, e1, h1⟩ => ?_) rfl rfl rfl rfl hx (fun _ _ => rfl) ho
                rw [hg] at h1
                cases h1
                simp at hc
              · refine ⟨by rw [Hp.n_put]; exact Nat.le_refl _, fun i hi hk _ => ⟨hk, ?_⟩⟩
                have hne : a.block ≠ i := fun e0 => hk (e0 ▸ hsl.1)
                rw [Hp.get_put, if_neg hne]
            · cases hst
        · obtain ⟨w', r, H', K', _⟩ := storeRow_sound (E := E) H (SlRel.live hsl (by omega)) hxr hcv hst
          refine ⟨.int .i64 (min n l : Nat), w', ?_, H', K', .int _ _⟩
          simp only [Builtin.copy_, ht, g0, g1, Sem.run_bind, run_und hu w, Result.andThen_ok, hlen, run_size hz]
          have : (Builtin.firstCells (z + 1) (n.min l) s').run E.P w = .ok xs'.toArray w := hrun
          rw [this]
          simp [r, goInt]
      · cases hr
    · cases hr
  · rename_i z hz
    cases hd
    cases hr
    refine ⟨.int .i64 0, w, ?_, H, Keep.refl _ _ _, .int _ _⟩
    have hf : (Builtin.firstCells (z + 1) 0 s').run E.P w = .ok #[] w := by
      unfold lenOfX at hn
      split at hn
      · cases hs with
        | nils => simp [Builtin.firstCells]
        | sl => simp [Builtin.firstCells, loadCells_zero]
      · cases hs; simp [Builtin.firstCells]
      · cases hn
    simp only [Builtin.copy_, ht, g0, g1, Sem.run_bind, run_und hu w, Result.andThen_ok, hlen, run_size hz]
    have e0 : n.min 0 = 0 := by simp
    rw [e0, hf]
    simp [goInt]
  · cases hr

end

end Go.X
