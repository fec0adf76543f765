/- What X reads, the model reads: an operation that X's readX tells yields in the model a value that is its like, and the world stays. Conditions: none. -/
import Derived.Test.YtkmbfjdmbdpflaaXRel
import Derived.Laws.IdiomCopy
import Derived.Laws.Cells
namespace Go.X

variable {E : Env}

theorem und_ok {t : TypeId} {d : TypeDesc} (h : E.und t = some d) : E.P.underlying t = some d := by
  unfold Env.und at h
  unfold Program.underlying
  cases hi : E.ty t with
  | none => rw [hi] at h; cases h
  | some i =>
    rw [hi] at h
    rw [E.hty t i hi]
    obtain ⟨desc, str, size, bytes, hp, al, fa, ze, co, me⟩ := i
    cases desc <;> simp only at h ⊢ <;> try exact h
    rename_i name u
    cases hj : E.ty u with
    | none => rw [hj] at h; cases h
    | some j => rw [hj] at h; rw [E.hty u j hj]; exact h

theorem run_und {t : TypeId} {d : TypeDesc} (h : E.und t = some d) (w : World) : (underlying t).run E.P w = .ok d w := run_underlying (und_ok h) w

theorem run_info {t : TypeId} {i : TypeInfo} (h : E.ty t = some i) (w : World) : (typeInfo t).run E.P w = .ok i w := by
  simp [typeInfo, E.hty t i h]

theorem run_size {t : TypeId} {n : Nat} (h : E.size t = some n) (w : World) : (sizeOf t).run E.P w = .ok n w := by
  unfold Env.size at h
  cases hi : E.ty t with
  | none => rw [hi] at h; cases h
  | some i => rw [hi] at h; cases h; simp [sizeOf, run_info hi]

theorem run_zero {t : TypeId} {z : Value} (h : E.zero t = some z) (w : World) : (zeroValue t).run E.P w = .ok z w := by
  unfold Env.zero at h
  cases hi : E.ty t with
  | none => rw [hi] at h; cases h
  | some i =>
    rw [hi] at h
    simp only at h
    cases hz : i.zero with
    | none => rw [hz] at h; cases h
    | some z' =>
      rw [hz] at h
      cases hp : plainV 4 z' with
      | false => simp only [hp] at h; cases h
      | true => simp only [hp] at h; cases h; simp [zeroValue, run_info hi, hz]

theorem plain_rel (M : Mp) : ∀ (n : Nat) (v : Value), plainV n v = true → VRel M v v := by
  intro n
  induction n with
  | zero => intro v hv; cases hv
  | succ n ih =>
    intro v hv
    unfold plainV at hv
    split at hv
    · exact .bool _
    · exact .int _ _
    · exact .string _
    · refine .agg rfl fun i a b ha hb => ?_
      rw [ha] at hb; cases hb
      exact ih a (List.all_eq_true.1 hv a (List.mem_of_getElem? ha))
    · exact .iface (ih _ hv)
    · exact .nilIface
    · exact .nilFunc
    · exact .nilp
    · exact .nils _ _
    · exact .nilm
    · cases hv

theorem zero_rel {t : TypeId} {z : Value} (h : E.zero t = some z) (M : Mp) : VRel M z z := by
  unfold Env.zero at h
  cases hi : E.ty t with
  | none => rw [hi] at h; cases h
  | some i =>
    rw [hi] at h
    simp only at h
    cases hz : i.zero with
    | none => rw [hz] at h; cases h
    | some z' =>
      rw [hz] at h
      cases hp : plainV 4 z' with
      | false => simp only [hp] at h; cases h
      | true => simp only [hp] at h; cases h; exact plain_rel M 4 _ hp

theorem run_bytes {t : TypeId} {n : Nat} (h : E.bytes t = some n) : ∃ i, E.ty t = some i ∧ i.bytes = n := by
  unfold Env.bytes at h
  cases hi : E.ty t with
  | none => rw [hi] at h; cases h
  | some i => rw [hi] at h; cases h; exact ⟨i, rfl, rfl⟩

theorem run_agg {t : TypeId} {d : TypeDesc} (h : E.und t = some d) (w : World) : (isAgg t).run E.P w = .ok (aggDesc d) w := by
  cases d <;> simp [isAgg, run_und h, aggDesc]

theorem cell_add {w : World} {b : Nat} {c : Array Value} {e : TypeId} {fr : Nat × Nat} (hx : w.heap[b]? = some (.cells c e fr)) (o j : Nat) :
    w.cell? ((⟨b, o, none⟩ : Addr).add j) = c[o + j]? := by
  unfold Addr.add
  split
  · rename_i e0; subst e0; simp [World.cell?, hx]
  · simp [World.cell?, hx]

theorem cond_some {α : Type} {c : Bool} {a : Option α} {x : α} (h : cond c a none = some x) : c = true ∧ a = some x := by
  cases c
  · cases h
  · exact ⟨rfl, h⟩

section
variable {W : World} {B : Nat → Prop} {M : Mp} {h : Hp} {w : World} (H : HRel W B M h w)
include H

theorem HRel.place {i : Nat} {o : AObj} (hk : M.K i) (hg : h.get i = some o) (hd : o ≠ .dead) :
    ∃ b δ S x, M.ρ i = some (b, δ, S) ∧ w.heap[b]? = some x ∧ ORel M i o δ S x := by
  cases hr : M.ρ i with
  | none =>
    rcases H.live i hk hr with e | e
    · rw [e] at hg; cases hg
    · rw [e] at hg; cases hg; exact absurd rfl hd
  | some p =>
    obtain ⟨b, δ, S⟩ := p
    obtain ⟨_, o', x, h1, h2, h3⟩ := H.obj i b δ S hr
    rw [hg] at h1; cases h1
    exact ⟨b, δ, S, x, rfl, h2, h3⟩

/-- A row of cells that X reads. -/
theorem rowOf_ok {a a' : Addr} {n : Nat} {l : List Value} (ha : AddrRel M a a') (hr : rowOf h a n = some l) :
    l.length = n ∧ ∃ l', VsRel M l l' ∧ (∀ j v, l'[j]? = some v → w.cell? (a'.add j) = some v) ∧ a'.spot = none := by
  unfold rowOf at hr
  cases hs : a.spot with
  | some _ => rw [hs] at hr; cases hr
  | none =>
    rw [hs] at hr
    simp only at hr
    split at hr
    case h_2 => cases hr
    rename_i c e m hg
    obtain ⟨hle, hr⟩ := cond_some hr
    have hle := (ble_iff _ _).1 hle
    simp only [Option.some.injEq] at hr
    subst hr
    obtain ⟨b, δ, S, x, hρ, hx, c', fr, rfl, hS, hle2, hc, hm⟩ := H.place ha.1 hg (by simp)
    have ea := ha.2 b δ S hρ
    have hlen : ((c.drop a.off).take n).length = n := by simp; omega
    refine ⟨hlen, ((c'.toList.drop (δ + a.off)).take n), ⟨?_, ?_⟩, ?_, ?_⟩
    · rw [hlen]; simp; omega
    · intro i v w' hv hw'
      rw [List.getElem?_take] at hv hw'
      split at hv
      · rw [if_pos ‹_›] at hw'
        rw [List.getElem?_drop] at hv hw'
        obtain ⟨u, h1, h2⟩ := hc _ v hv
        rw [← Nat.add_assoc] at h1
        have : c'.toList[δ + a.off + i]? = some u := by simpa using h1
        rw [this] at hw'; cases hw'; exact h2
      · cases hv
    · intro j v hv
      rw [List.getElem?_take] at hv
      split at hv
      · rw [List.getElem?_drop] at hv
        rw [ea, hs, cell_add hx]
        simpa using hv
      · cases hv
    · subst ea; exact hs

theorem loadX_sound {t : TypeId} {a a' : Addr} {v : Value} (ha : AddrRel M a a') (hr : loadX E t a h = some v) :
    ∃ v', (loadVar t a').run E.P w = .ok v' w ∧ VRel M v v' := by
  unfold loadX at hr
  cases hd : E.und t with
  | none => rw [hd] at hr; cases hr
  | some d =>
    rw [hd] at hr
    simp only at hr
    split at hr
    · rename_i hagg
      cases hz : E.size t with
      | none => rw [hz] at hr; cases hr
      | some n =>
        rw [hz] at hr
        simp only at hr
        split at hr
        · cases hr
        · rename_i l hrow
          cases hr
          obtain ⟨hl, l', hv, hc, _⟩ := rowOf_ok H ha hrow
          refine ⟨.agg l'.toArray, ?_, .agg' (by simpa using hv)⟩
          have := run_loadCells_list (P := E.P) w a' l' hc
          rw [← hv.1, hl] at this
          simp [loadVar, run_agg hd, hagg, run_size hz, this]
    · rename_i hagg
      split at hr
      · rename_i v0 hrow
        cases hr
        obtain ⟨hl, l', hv, hc, _⟩ := rowOf_ok H ha hrow
        obtain ⟨hv1, hv2⟩ := hv
        match l', hv1, hv2, hc with
        | [v'], _, hv2, hc =>
          refine ⟨v', ?_, hv2 0 _ _ rfl rfl⟩
          have := hc 0 v' rfl
          have ea : a'.add 0 = a' := by simp [Addr.add]
          rw [ea] at this
          simp [loadVar, run_agg hd, hagg, this]
      · cases hr
end

theorem partX_sound {M : Mp} {w : World} {t : TypeId} {cs cs' : Array Value} {off : Nat} {v : Value} (hv : VsRel M cs.toList cs'.toList) (hr : partX E t cs off = some v) :
    ∃ v', (part t cs' off).run E.P w = .ok v' w ∧ VRel M v v' := by
  unfold partX at hr
  cases hd : E.und t with
  | none => rw [hd] at hr; cases hr
  | some d =>
    rw [hd] at hr
    simp only at hr
    split at hr
    · rename_i hagg
      cases hz : E.size t with
      | none => rw [hz] at hr; cases hr
      | some n =>
        rw [hz] at hr
        cases hr
        refine ⟨.agg (cs'.extract off (off + n)), by simp [part, run_agg hd, hagg, run_size hz], .agg' ?_⟩
        simp only [Array.toList_extract, List.extract_eq_take_drop]
        exact (hv.drop _).take _
    · rename_i hagg
      have hlt : off < cs.size := (Array.getElem?_eq_some_iff.1 hr).1
      have hlt' : off < cs'.size := by have := hv.1; simp at this; omega
      refine ⟨cs'[off], by simp [part, run_agg hd, hagg, hlt'], hv.2 off v _ (by simpa using hr) (by simp [hlt'])⟩

theorem sameL_eq : ∀ (n : Nat), (∀ v w, sameV n v w = true → v = w) → ∀ l m, sameV.sameL n l m = true → l = m := by
  intro n ih l
  induction l with
  | nil => intro m hm; cases m with
    | nil => rfl
    | cons => simp [sameV.sameL] at hm
  | cons v l ihl => intro m hm; cases m with
    | nil => simp [sameV.sameL] at hm
    | cons w m =>
      simp only [sameV.sameL, Bool.and_eq_true] at hm
      rw [ih v w hm.1, ihl m hm.2]

theorem sameV_eq : ∀ (n : Nat) (v w : Value), sameV n v w = true → v = w := by
  intro n
  induction n with
  | zero => intro v w hh; simp [sameV] at hh
  | succ n ih =>
    intro v w hh
    have hl := sameL_eq n ih
    cases v <;> cases w <;> first | (simp only [sameV] at hh; cases hh; done) | skip
    case bool.bool => simp [sameV] at hh; rw [hh]
    case int.int => simp [sameV, kindEq_iff] at hh; rw [hh.1, hh.2]
    case string.string a b =>
      obtain ⟨⟨a⟩⟩ := a; obtain ⟨⟨b⟩⟩ := b
      simp [sameV] at hh; rw [hh]
    case pointer.pointer a b => cases a <;> cases b <;> simp [sameV] at hh <;> first | rfl | rw [hh]
    case slice.slice a l c b l' c' =>
      cases a <;> cases b <;> simp [sameV] at hh
      · rw [hh.1, hh.2]
      · rw [hh.1.1, hh.1.2, hh.2]
    case map.map a b => cases a <;> cases b <;> simp [sameV] at hh <;> first | rfl | rw [hh]
    case nilFunc.nilFunc => rfl
    case nilIface.nilIface => rfl
    case iface.iface => simp [sameV] at hh; rw [hh.1, ih _ _ hh.2]
    case func.func f a b g c d =>
      cases f <;> cases g <;> simp [sameV] at hh
      have e1 := hl _ _ hh.1.2
      have e2 := hl _ _ hh.2
      obtain ⟨a⟩ := a; obtain ⟨b⟩ := b; obtain ⟨c⟩ := c; obtain ⟨d⟩ := d
      simp at e1 e2
      rw [hh.1.1, e1, e2]
    case agg.agg a b =>
      simp only [sameV] at hh
      have e1 := hl _ _ hh
      obtain ⟨a⟩ := a; obtain ⟨b⟩ := b; simp at e1; rw [e1]
    case tuple.tuple a b =>
      simp only [sameV] at hh
      have e1 := hl _ _ hh
      obtain ⟨a⟩ := a; obtain ⟨b⟩ := b; simp at e1; rw [e1]
    all_goals (simp [sameV] at hh)

end Go.X
