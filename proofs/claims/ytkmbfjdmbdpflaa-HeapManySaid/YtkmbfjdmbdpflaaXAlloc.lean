/- What X makes, the model makes; what X writes into cells, the model writes. Conditions: none. -/
import Derived.Test.YtkmbfjdmbdpflaaXRead6
namespace Go.X

variable {E : Env}

theorem setCells_heap (b : Nat) : ∀ (vs : List Value) (o : Nat) (w : World) (c : Array Value) (e : TypeId) (fr : Nat × Nat), w.heap[b]? = some (.cells c e fr) → o + vs.length ≤ c.size →
    ∃ c', (w.setCells b o vs).heap[b]? = some (.cells c' e fr) ∧ c'.size = c.size ∧ (∀ k, c'[k]? = if o ≤ k ∧ k < o + vs.length then vs[k - o]? else c[k]?) ∧
      (∀ k, k ≠ b → (w.setCells b o vs).heap[k]? = w.heap[k]?) ∧ (w.setCells b o vs).heap.size = w.heap.size ∧
      (w.setCells b o vs).os = w.os ∧ (w.setCells b o vs).tape = w.tape ∧ (w.setCells b o vs).output = w.output
  | [], o, w, c, e, fr, h, _ => ⟨c, h, rfl, fun k => by rw [if_neg (by simp only [List.length_nil]; omega)], fun _ _ => rfl, rfl, rfl, rfl, rfl⟩
  | v :: r, o, w, c, e, fr, h, hle => by
    have hle' : o + (r.length + 1) ≤ c.size := by simpa using hle
    have h1 : (w.setCell ⟨b, o, none⟩ v).heap[b]? = some (.cells (c.setIfInBounds o v) e fr) := by
      simp [World.setCell, Array.getElem?_modify, h]
    obtain ⟨c', p1, p2, p3, p4, p5, p6, p7, p8⟩ := setCells_heap b r (o + 1) _ _ e fr h1 (by simp; omega)
    refine ⟨c', p1, by rw [p2]; simp, fun k => ?_, fun k hk => ?_, ?_, p6, p7, p8⟩
    · rw [p3]
      by_cases e1 : k = o
      · subst e1
        rw [if_neg (by omega), if_pos (by simp only [List.length_cons]; omega)]
        have : k < c.size := by omega
        simp [this]
      · by_cases e2 : o + 1 ≤ k ∧ k < o + 1 + r.length
        · rw [if_pos e2, if_pos (by simp only [List.length_cons]; omega)]
          have : k - o = (k - (o + 1)) + 1 := by omega
          rw [this, List.getElem?_cons_succ]
        · rw [if_neg e2, if_neg (by simp only [List.length_cons]; omega)]
          rw [Array.getElem?_setIfInBounds_ne (fun h0 => e1 h0.symm)]
    · rw [World.setCells, p4 k hk]
      simp only [World.setCell, Array.getElem?_modify]
      rw [if_neg (fun h0 => hk h0.symm)]
    · rw [World.setCells, p5]; simp [World.setCell]

theorem cellV_one {v v' : Value} {M : Mp} (h : cellV v = true) (hv : VRel M v v') : v'.oneCell' = true := by
  cases hv with
  | junk r hc => cases v' <;> first | rfl | exact hc.elim
  | _ => first | rfl | (simp [cellV] at h)

section
variable {W : World} {B : Nat → Prop} {M : Mp} {h : Hp} {w : World} (H : HRel W B M h w)
include H

/-- A row of cells is written. -/
theorem storeRow_sound {a a' : Addr} {l l' : List Value} {h' : Hp} (ha : AddrRel M a a') (hl : VsRel M l l') (hv : l.all cellV = true) (hr : storeRow h a l = some h') :
    ∃ w', (storeCells a' l').run E.P w = .ok () w' ∧ HRel W B M h' w' ∧ Keep M h M h' (fun _ => False) ∧ w'.drawn = w'.drawn := by
  unfold storeRow at hr
  cases hs : a.spot with
  | some _ => rw [hs] at hr; cases hr
  | none =>
    rw [hs] at hr
    simp only at hr
    split at hr
    case h_2 => cases hr
    rename_i c e m hg
    obtain ⟨hc, hr⟩ := cond_some hr
    simp only [Bool.and_eq_true, Bool.not_eq_true', ble_iff, beq_false] at hc
    cases hr
    have hnr : ¬ RO h a.block := fun ⟨c1, e1, h1⟩ => by
      rw [hg] at h1
      cases h1
      exact hc.1 rfl
    obtain ⟨b, δ, S, x, hρ, hx, c', fr, rfl, hS, hle2, hcs, hm⟩ := H.place ha.1 hg (by simp)
    have ea := ha.2 b δ S hρ
    rw [hs] at ea
    subst ea
    have hlen : l'.length = l.length := hl.1.symm
    have hfr : ∀ k, k < c'.size → ¬(fr.1 ≤ k ∧ k < fr.2) := by
      rcases hm with ⟨_, _, _, _, h5⟩ | ⟨h1, _⟩ | ⟨_, h1⟩
      · subst h5; intro k _; simp
      · exact absurd h1 hc.1
      · rw [hS] at h1; exact h1
    have hcell : ∀ j, j < l'.length → (w.cell? ⟨b, δ + a.off + 0 + j, none⟩).isSome = true := by
      intro j hj
      have : δ + a.off + j < c'.size := by omega
      simp [World.cell?, hx, this]
    have hfz : ∀ j, j < l'.length → w.frozen? ⟨b, δ + a.off + 0 + j, none⟩ = false := by
      intro j hj
      have := hfr (δ + a.off + j) (by omega)
      simp only [World.frozen?, hx, Nat.add_zero]
      obtain ⟨lo, hi⟩ := fr
      simp only at this ⊢
      rw [Bool.and_eq_false_iff]
      simp only [decide_eq_false_iff_not]
      omega
    have hone : ∀ v ∈ l', v.oneCell' = true := by
      intro v hvm
      obtain ⟨i, hi⟩ := List.getElem?_of_mem hvm
      have hlt : i < l.length := by have := (List.getElem?_eq_some_iff.1 hi).1; omega
      have hu : l[i]? = some l[i] := by simp [hlt]
      exact cellV_one (List.all_eq_true.1 hv _ (List.getElem_mem hlt)) (hl.2 i _ _ hu hi)
    have run := run_storeCells_cells (P := E.P) b (δ + a.off) l' 0 w hcell hfz hone
    rw [Nat.add_zero] at run
    obtain ⟨c2, p1, p2, p3, p4, p5, p6, p7, p8⟩ := setCells_heap b l' (δ + a.off) w c' e fr hx (by omega)
    refine ⟨_, run, ?_, ?_, rfl⟩
    · refine H.put hρ hnr p6 p7 p8 p5 p1 p4 ⟨c2, fr, rfl, by omega, ?_, ?_, ?_⟩
      · simp; omega
      · intro j v hj
        rw [p3]
        by_cases hin : a.off ≤ j ∧ j < a.off + l.length
        · rw [if_pos (by omega)]
          have : (c.take a.off ++ l ++ c.drop (a.off + l.length))[j]? = l[j - a.off]? := by
            have e1 : (c.take a.off).length = a.off := by simp; omega
            rw [List.append_assoc, List.getElem?_append_right (by omega), e1, List.getElem?_append_left (by omega)]
          rw [this] at hj
          have hlt : j - a.off < l'.length := by omega
          refine ⟨l'[j - a.off], ?_, hl.2 _ _ _ hj (by simp [hlt])⟩
          have : δ + j - (δ + a.off) = j - a.off := by omega
          rw [this]; simp [hlt]
        · rw [if_neg (by omega)]
          have : (c.take a.off ++ l ++ c.drop (a.off + l.length))[j]? = c[j]? := by
            have e1 : (c.take a.off).length = a.off := by simp; omega
            rw [List.append_assoc]
            by_cases h1 : j < a.off
            · rw [List.getElem?_append_left (by omega), List.getElem?_take, if_pos h1]
            · rw [List.getElem?_append_right (by omega), e1, List.getElem?_append_right (by omega), List.getElem?_drop]
              congr 1; omega
          rw [this] at hj
          exact hcs j v hj
      · have hl2 : (c.take a.off ++ l ++ c.drop (a.off + l.length)).length = c.length := by simp; omega
        rw [hl2]; exact hm
    · refine ⟨by rw [Hp.n_put]; exact Nat.le_refl _, fun i hi hk _ => ⟨hk, ?_⟩⟩
      have : a.block ≠ i := fun e => hk (e ▸ ha.1)
      rw [Hp.get_put, if_neg this]

theorem storeX_sound {t : TypeId} {a a' : Addr} {v v' : Value} {h' : Hp} (ha : AddrRel M a a') (hv : VRel M v v') (hr : storeX E t a v h = some h') :
    ∃ w', (storeVar t a' v').run E.P w = .ok () w' ∧ HRel W B M h' w' ∧ Keep M h M h' (fun _ => False) := by
  unfold storeX at hr
  split at hr
  · rename_i n hz
    obtain ⟨hc, hr⟩ := cond_some hr
    simp only [Bool.and_eq_true, beq_iff] at hc
    obtain ⟨w', r, H', K', _⟩ := storeRow_sound (E := E) H ha hv.cells hc.2 hr
    have hsz : v'.cells.size = n := by have := hv.cells.1; simp at this; omega
    exact ⟨w', by simp [storeVar, run_size hz, hsz, r], H', K'⟩
  · cases hr

end

theorem repeat_len (l : List Value) (n : Nat) : (repeatCells l n).length = n * l.length := by
  induction n with
  | zero => simp [repeatCells]
  | succ n ih => simp [repeatCells, ih, Nat.succ_mul, Nat.add_comm]

theorem repeat_get (l : List Value) (_hl : 0 < l.length) : ∀ (n i : Nat), i < n * l.length → (repeatCells l n)[i]? = l[i % l.length]? := by
  intro n
  induction n with
  | zero => intro i hi; simp at hi
  | succ n ih =>
    intro i hi
    rw [Nat.succ_mul] at hi
    unfold repeatCells
    by_cases h : i < l.length
    · rw [List.getElem?_append_left h, Nat.mod_eq_of_lt h]
    · rw [List.getElem?_append_right (by omega), ih _ (by omega)]
      congr 1
      rw [← Nat.mod_eq_sub_mod (by omega)]

theorem repeat_rel {M : Mp} {l : List Value} (h : VsRel M l l) (n : Nat) : VsRel M (repeatCells l n) (repeatCells l n) := by
  induction n with
  | zero => exact .nil M
  | succ n ih => exact .append h ih

theorem repeat_eq (z : Array Value) (hz : 0 < z.size) (n : Nat) : ((Array.range (n * z.size)).map (fun i => z[i % z.size]!)) = (repeatCells z.toList n).toArray := by
  apply Array.ext'
  apply List.ext_getElem?
  intro i
  simp only [Array.toList_map, Array.toList_range, List.getElem?_map]
  by_cases h : i < n * z.size
  · rw [repeat_get _ (by simpa using hz) n i (by simpa using h)]
    have : i % z.size < z.size := Nat.mod_lt _ hz
    simp [h, this]
  · have h1 : (List.range (n * z.size))[i]? = none := by simp; omega
    have h2 : (repeatCells z.toList n)[i]? = none := by
      rw [List.getElem?_eq_none_iff, repeat_len]; simp; omega
    rw [h1, h2]; rfl

/-- A new block of cells: what the placing gives. -/
theorem newCells_rel {M : Mp} {i b : Nat} {cs cs' : Array Value} {e : TypeId} (hi : ¬ M.K i) (hv : VsRel M cs.toList cs'.toList) :
    ORel (M.add i b 0 cs'.size 0) i (cellsObj cs e) 0 cs'.size (.cells cs' e) := by
  have he := Mp.add_ev M i b 0 cs'.size 0 hi
  have hl := hv.1
  refine ⟨cs', (0, 0), rfl, rfl, by simp at hl; simp; omega, fun j v hj => ?_, .inl ⟨rfl, by simp [Mp.add], rfl, by simp at hl; simp; omega, rfl⟩⟩
  have hlt : j < cs'.size := by
    have := (List.getElem?_eq_some_iff.1 hj).1
    simp at hl this; omega
  refine ⟨cs'[j], by simp [hlt], (hv.2 j v _ hj (by simp [hlt])).mono he⟩

theorem allocX_sound {M : Mp} {w : World} {tm : Tr Value} {ρ : Operand → Value} {o : Oper} {b : AObj} {f : Nat → Value} (hE : ∀ x ∈ o.op.operands, VRel M (ev tm x) (ρ x)) (hr : allocX E tm o = some (b, f)) :
    ∃ x S v', (execOp ρ o).run E.P w = .ok (.value v') { w with heap := w.heap.push x } ∧
      ∀ i, ¬ M.K i → ORel (M.add i w.heap.size 0 S 0) i b 0 S x ∧ VRel (M.add i w.heap.size 0 S 0) (f i) v' := by
  obtain ⟨dst, op, type, pos, after, guard⟩ := o
  simp only at hE
  have ptr : ∀ (M : Mp) i n S, VRel (M.add i n 0 S 0) (ptrTo i) (.pointer (some ⟨n, 0, none⟩)) := fun M i n S =>
    .ptr ⟨.inl rfl, fun b δ S' hb => by simp [Mp.add] at hb; obtain ⟨rfl, rfl, _⟩ := hb; rfl⟩
  have slc : ∀ (M : Mp) i n S l c, VRel (M.add i n 0 S 0) (.slice (some ⟨i, 0, none⟩) l c) (.slice (some ⟨n, 0, none⟩) l c) := fun M i n S l c =>
    .sl ⟨.inl rfl, fun b δ S' hb => by simp [Mp.add] at hb; obtain ⟨rfl, rfl, _⟩ := hb; exact .inl ⟨by simp [Mp.add], rfl, rfl⟩⟩
  cases op <;> simp only [allocX] at hr <;> simp only [Op.operands] at hE
  case alloc e =>
    split at hr
    · rename_i z hz
      cases hr
      refine ⟨.cells z.cells e, z.cells.size, .pointer (some ⟨w.heap.size, 0, none⟩), ?_, fun i hi => ⟨newCells_rel hi (zero_rel hz M).cells, ptr _ _ _ _⟩⟩
      simp [execOp, Instr.alloc, run_zero hz, newVar, newRow]
    · cases hr
  case box e x =>
    cases hr
    have hx := hE x (by simp)
    refine ⟨.cells (ρ x).cells e, (ρ x).cells.size, .pointer (some ⟨w.heap.size, 0, none⟩), ?_, fun i hi => ⟨newCells_rel hi hx.cells, ptr _ _ _ _⟩⟩
    simp [execOp, Instr.box, newVar, newRow]
  case buildSlice t n ps =>
    split at hr
    · rename_i e hu
      split at hr
      · rename_i z zv hz hzv
        obtain ⟨hc, hr⟩ := cond_some hr
        simp only [Bool.and_eq_true, ble_iff, beq_iff] at hc
        split at hr
        · rename_i cs hf
          cases hr
          have hps : ∀ (i : Nat) (a b : Nat × Value), (ps.toList.map fun (i, x) => (i, ev tm x))[i]? = some a → (ps.toList.map fun (i, x) => (i, ρ x))[i]? = some b → a.1 = b.1 ∧ VRel M a.2 b.2 := by
            intro i a b ha hb
            simp only [List.getElem?_map, Option.map_eq_some_iff] at ha hb
            obtain ⟨p, hp, rfl⟩ := ha
            obtain ⟨p', hp', rfl⟩ := hb
            rw [hp] at hp'; cases hp'
            refine ⟨rfl, hE p.2 ?_⟩
            simp only [List.mem_toArray, List.mem_map]
            exact ⟨p, List.mem_of_getElem? hp, rfl⟩
          have hrep := repeat_rel (zero_rel hzv M).cells n
          obtain ⟨cs', hf', hv⟩ := fill_rel _ _ _ _ _ _ (by simp) hps (by simpa using hrep) hf
          refine ⟨.cells cs' e, cs'.size, .slice (some ⟨w.heap.size, 0, none⟩) n n, ?_, fun i hi => ⟨newCells_rel hi hv, slc _ _ _ _ _ _⟩⟩
          have e1 : (ps.map fun (p : Nat × Operand) => (p.1, ρ p.2)).toList = (ps.toList.map fun (i, x) => (i, ρ x)) := by simp
          rw [← e1] at hf'
          have hb : Instr.buildSlice t n (ps.map fun (p : Nat × Operand) => (p.1, ρ p.2)) = Instr.buildSlice t n (ps.map fun (p : Nat × Operand) => (p.1, ρ p.2)) := rfl
          have run : (Instr.buildSlice t n (ps.map fun (p : Nat × Operand) => (p.1, ρ p.2))).run E.P w = .ok (.slice (some ⟨w.heap.size, 0, none⟩) n n) { w with heap := w.heap.push (.cells cs' e) } := by
            have hle : ¬ n * (z + 1) > 2 ^ 24 := by omega
            by_cases hn : n = 0
            · subst hn
              simp only [repeatCells] at hf'
              simp only [Instr.buildSlice, Sem.run_bind, run_und hu w, Result.andThen_ok, run_size hz]
              simp only [Nat.zero_mul, if_true]
              rw [if_neg (by simp)]
              have hre0 : (Array.range 0).map (fun i => ((#[] : Array Value)[i % (#[] : Array Value).size]!)) = ⟨[]⟩ := by simp
              simp only [Sem.run_bind, Sem.run_pure, Result.andThen_ok, hre0, hf']
              simp [newRow]
            · have h0 : ¬ n * (z + 1) = 0 := by
                intro h0; rcases Nat.mul_eq_zero.1 h0 with h1 | h1
                · exact hn h1
                · omega
              have hre := repeat_eq zv.cells (by omega) n
              rw [hc.2] at hre
              simp only [Instr.buildSlice, Sem.run_bind, run_und hu w, Result.andThen_ok, run_size hz]
              rw [if_neg hle]
              simp only [Sem.run_bind, if_neg h0, run_zero hzv, Sem.run_pure, Result.andThen_ok, hc.2, hre, hf']
              simp [newRow]
          have : execOp ρ ⟨dst, .buildSlice t n ps, type, pos, after, guard⟩ = (do pure (.value (← Instr.buildSlice t n (ps.map fun (p : Nat × Operand) => (p.1, ρ p.2))))) := rfl
          rw [this, Sem.run_bind, run]; rfl
        · cases hr
      · cases hr
    · cases hr
  case makeMap t r =>
    have mapR : ∀ i, ¬ M.K i → ORel (M.add i w.heap.size 0 0 0) i (.map [] 0) 0 0 (.map #[] 0) ∧ VRel (M.add i w.heap.size 0 0 0) (.map (some i)) (.map (some w.heap.size)) := fun i hi =>
      ⟨⟨rfl, #[], rfl, rfl, by intro j a b ha; simp at ha⟩, .map ⟨.inl rfl, fun b δ S hb => by simp [Mp.add] at hb; exact hb.1⟩⟩
    split at hr
    · cases hr
      exact ⟨.map #[] 0, 0, .map (some w.heap.size), by simp [execOp, Instr.makeMap], mapR⟩
    · rename_i r' k e hu
      split at hr
      · rename_i kk n heq
        cases hr
        have hx := hE r' (by simp)
        rw [heq] at hx
        refine ⟨.map #[] 0, 0, .map (some w.heap.size), ?_, mapR⟩
        simp only [execOp, Option.map_some]
        generalize ρ r' = q at hx
        cases hx
        simp [Instr.makeMap, run_und hu, asInt, asIntOf]
      · cases hr
    · cases hr
  case makeSlice t l c =>
    split at hr
    · rename_i e l' c' hu hl hc
      split at hr
      · rename_i z zv by' hz hzv hby
        obtain ⟨hcond, hr⟩ := cond_some hr
        simp only [Bool.and_eq_true, ble_iff, beq_iff] at hcond
        obtain ⟨⟨⟨h1, h2⟩, h3⟩, h4⟩ := hcond
        cases hr
        have hrep := repeat_rel (zero_rel hzv M).cells c'
        refine ⟨.cells (repeatCells zv.cells.toList c').toArray e, (repeatCells zv.cells.toList c').toArray.size, .slice (some ⟨w.heap.size, 0, none⟩) l' c', ?_, fun i hi => ⟨newCells_rel hi (by simpa using hrep), slc _ _ _ _ _ _⟩⟩
        have hx := hE l (by simp)
        have hy := hE c (by simp)
        obtain ⟨k1, e1⟩ := natOf_ok hl
        obtain ⟨k2, e2⟩ := natOf_ok hc
        rw [e1] at hx; rw [e2] at hy
        obtain ⟨ti, hti, hby2⟩ := run_bytes hby
        have run : (Instr.makeSlice t (ρ l) (ρ c)).run E.P w = .ok (.slice (some ⟨w.heap.size, 0, none⟩) l' c') { w with heap := w.heap.push (.cells (repeatCells zv.cells.toList c').toArray e) } := by
          generalize ρ l = q1 at hx
          generalize ρ c = q2 at hy
          cases hx; cases hy
          have w1 : IntKind.i64.wrap (l' : Int) = l' := IntWalk.i64_in _ ⟨by omega, by omega⟩
          have w2 : IntKind.i64.wrap (c' : Int) = c' := IntWalk.i64_in _ ⟨by omega, by omega⟩
          have h5 : (by' : Int) * (c' : Int) ≤ 2 ^ 48 := by
            have : ((by' * c' : Nat) : Int) ≤ ((2 ^ 47 : Nat) : Int) := Int.ofNat_le.2 h3
            rw [Int.natCast_mul] at this
            omega
          have tl : ¬ (((c' : Int) < 0 ∨ (2 ^ 48 : Int) < (by' : Int) * (c' : Int)) ∨ (l' : Int) < 0) := by omega
          simp only [Instr.makeSlice, Sem.run_bind, run_und hu w, Result.andThen_ok, asInt, asIntOf, Sem.run_pure, run_info hti, hby2, w1, w2]
          have hif : ((decide ((c' : Int) < 0) || decide ((by' : Int) * (c' : Int) > 2 ^ 48)) || decide ((l' : Int) < 0) || decide ((l' : Int) > (c' : Int))) = false := by
            simp only [Bool.or_eq_false_iff, decide_eq_false_iff_not]
            omega
          simp only [hif, Bool.false_eq_true, if_false, Sem.run_bind, run_askRoom, Result.andThen_ok, Int.toNat_natCast, run_size hz]
          by_cases hn : c' * (z + 1) = 0
          · have hc0 : c' = 0 := by
              rcases Nat.mul_eq_zero.1 hn with h0 | h0
              · exact h0
              · omega
            subst hc0
            have hre0 : (Array.range 0).map (fun (_ : Nat) => (default : Value)) = #[] := by
              apply Array.ext'; simp
            simp [newRow, repeatCells]
            rw [hre0]
          · have hre := repeat_eq zv.cells (by omega) c'
            rw [h4] at hre
            simp only [if_neg hn, Sem.run_bind, run_zero hzv, Sem.run_pure, Result.andThen_ok, h4, hre]
            simp [newRow]
        have : execOp ρ ⟨dst, .makeSlice t l c, type, pos, after, guard⟩ = (do pure (.value (← Instr.makeSlice t (ρ l) (ρ c)))) := rfl
        rw [this, Sem.run_bind, run]; rfl
      · cases hr
    · cases hr
  all_goals cases hr

end Go.X
