/- The calculus: delete on maps keyed by integers; such maps held by a function; slices.Sorted of their keys. Conditions: none. The calculus: operations on structs that are compared; copies of slices whose elements are of several cells. Conditions: none. slices.SortFunc as a call that is not gone through: rows of elements of several plain cells. Conditions: none. The calculus: slices of one's own that need not fill their block (elements of several cells); appending to them, copying them. Conditions: none. The calculus: several elements appended at once, out of any slice that is read. Conditions: none. -/
import Derived.Test.YtfjnnbdgehaeaaaXc
import Derived.Shelf.SlSortCmp.WholeK
namespace Go.X

def delI (M : Ms) (k : Int) : Ms := match fi k M 0 with
  | some (i, _) => M.eraseIdx i
  | none => M

/-- No key twice, no time twice. -/
structure MsOk (M : Ms) (cl : Nat) : Prop where
  keys : (M.map (·.1)).Nodup
  born : (M.map (·.2.2)).Nodup
  lt : ∀ x, x ∈ M → x.2.2 < cl

theorem MsOk.nil (cl : Nat) : MsOk [] cl := ⟨by simp, by simp, by simp⟩
theorem fi_none {k : Int} : ∀ {M : Ms} {i : Nat}, fi k M i = none → k ∉ M.map (·.1)
  | [], _, _ => by simp
  | (a, v, n) :: r, i, h => by
    simp only [fi] at h
    by_cases e : a = k
    · rw [if_pos e] at h; cases h
    · rw [if_neg e] at h
      have := fi_none h
      simp only [List.map_cons, List.mem_cons, not_or]
      exact ⟨fun q => e q.symm, this⟩
theorem getI_none {k : Int} {M : Ms} : getI M k = none ↔ k ∉ M.map (·.1) := by
  unfold getI
  cases h : fi k M 0 with
  | none => simpa using fi_none h
  | some x =>
    obtain ⟨j, v⟩ := x
    obtain ⟨p, _, hp, n, h3⟩ := fi_some h
    simp only [Option.map_some, reduceCtorEq, false_iff, Classical.not_not]
    exact List.mem_map.2 ⟨_, List.mem_of_getElem? h3, rfl⟩
theorem map_modify_same {α β : Type} (f : α → β) (u : α → α) (l : List α) (p : Nat) (h : ∀ x, l[p]? = some x → f (u x) = f x) : (l.modify p u).map f = l.map f := by
  apply List.ext_getElem?
  intro j
  simp only [List.getElem?_map, List.getElem?_modify]
  by_cases e : p = j
  · subst e
    cases hx : l[p]? with
    | none => simp
    | some x => simp [h x hx]
  · simp [e]
theorem MsOk.put {M : Ms} {cl : Nat} (x : MsOk M cl) (k : Int) (v : Value) : MsOk (putI M k v cl).1 (putI M k v cl).2 := by
  unfold putI
  cases h : fi k M 0 with
  | none =>
    have hk := fi_none h
    refine ⟨?_, ?_, fun y hy => ?_⟩
    · simp only [List.map_append, List.map_cons, List.map_nil]
      rw [List.nodup_append]
      exact ⟨x.keys, by simp, fun a ha b hb => by simp at hb; subst hb; exact fun e => hk (e ▸ ha)⟩
    · simp only [List.map_append, List.map_cons, List.map_nil]
      rw [List.nodup_append]
      refine ⟨x.born, by simp, fun a ha b hb => ?_⟩
      simp at hb; subst hb
      obtain ⟨y, hy, rfl⟩ := List.mem_map.1 ha
      have := x.lt y hy
      omega
    · simp only [List.mem_append, List.mem_singleton] at hy
      rcases hy with hy | rfl
      · have := x.lt y hy; show _ < cl + 1; omega
      · show cl < cl + 1; omega
  | some q =>
    obtain ⟨i, w⟩ := q
    obtain ⟨p, hp, _, n, h3⟩ := fi_some h
    simp only [Nat.zero_add] at hp
    subst hp
    refine ⟨?_, ?_, fun y hy => ?_⟩
    · show ((M.modify i _).map _).Nodup
      rw [map_modify_same _ _ _ _ (fun z hz => by rw [h3] at hz; cases hz; rfl)]
      exact x.keys
    · show ((M.modify i _).map _).Nodup
      rw [map_modify_same (fun x : Int × Value × Nat => x.2.2) (fun x => (k, v, x.2.2)) _ _ (fun z _ => rfl)]
      exact x.born
    · have : y.2.2 ∈ (M.modify i fun z => (k, v, z.2.2)).map (·.2.2) := List.mem_map.2 ⟨y, hy, rfl⟩
      rw [map_modify_same (fun x : Int × Value × Nat => x.2.2) (fun x => (k, v, x.2.2)) _ _ (fun z _ => rfl)] at this
      obtain ⟨z, hz, e⟩ := List.mem_map.1 this
      have := x.lt z hz
      show y.2.2 < cl
      omega
theorem MsOk.del {M : Ms} {cl : Nat} (x : MsOk M cl) (k : Int) : MsOk (delI M k) cl := by
  unfold delI
  cases h : fi k M 0 with
  | none => exact x
  | some q =>
    obtain ⟨i, w⟩ := q
    have hs : (M.eraseIdx i).Sublist M := List.eraseIdx_sublist M i
    exact ⟨x.keys.sublist (hs.map _), x.born.sublist (hs.map _), fun y hy => x.lt y (hs.subset hy)⟩

theorem fi_erase {k k' : Int} : ∀ (M : Ms) (s p : Nat) (u : Value), (M.map (·.1)).Nodup → fi k M s = some (s + p, u) →
    (fi k' (M.eraseIdx p) s).map (·.2) = if k' = k then none else (fi k' M s).map (·.2)
  | [], _, _, _, _, h => by simp [fi] at h
  | (a, w, n) :: r, s, p, u, hn, h => by
    simp only [List.map_cons, List.nodup_cons] at hn
    simp only [fi] at h
    by_cases e : a = k
    · rw [if_pos e] at h
      have hp : p = 0 := by simp at h; omega
      subst hp
      subst e
      simp only [List.eraseIdx_cons_zero, fi]
      by_cases e' : k' = a
      · subst e'
        rw [if_pos rfl]
        have : getI r k' = none := getI_none.2 hn.1
        cases hq : fi k' r s with
        | none => rfl
        | some y =>
          obtain ⟨j, v⟩ := y
          obtain ⟨p, _, hp, m, h3⟩ := fi_some hq
          exact absurd (List.mem_map.2 ⟨_, List.mem_of_getElem? h3, rfl⟩) hn.1
      · rw [if_neg e', if_neg (fun x => e' x.symm)]
        have hsh : ∀ (M : Ms) (s t : Nat), (fi k' M s).map (·.2) = (fi k' M t).map (·.2) := by
          intro M
          induction M with
          | nil => intro s t; rfl
          | cons y r ih =>
            intro s t
            obtain ⟨b, c, d⟩ := y
            simp only [fi]
            split
            · rfl
            · exact ih _ _
        exact hsh _ _ _
    · rw [if_neg e] at h
      cases p with
      | zero =>
        obtain ⟨q, h1, _⟩ := fi_some h
        omega
      | succ p =>
        simp only [List.eraseIdx_cons_succ, fi]
        by_cases e' : a = k'
        · rw [if_pos e', if_pos e', if_neg (fun x => e (e'.trans x))]
        · rw [if_neg e', if_neg e']
          exact fi_erase r (s + 1) p u hn.2 (by rw [h]; congr 2; omega)
theorem get_del {M : Ms} {cl : Nat} (x : MsOk M cl) (k k' : Int) : getI (delI M k) k' = if k' = k then none else getI M k' := by
  unfold delI getI
  cases h : fi k M 0 with
  | none =>
    by_cases e : k' = k
    · subst e; simp [h]
    · simp [e]
  | some q =>
    obtain ⟨i, u⟩ := q
    exact fi_erase M 0 i u x.keys (by rw [h, Nat.zero_add])

section
variable {E : Env} {fn : FuncId} {nt : Nat} {l l' : Kn} {h h' : Hp} {dr : Bool} {ops : Array Oper} {fin rest : List (Oper × List Oper)} {R : Kn → Hp → Prop} {lt : List Oper}
variable {d : Nat} {ty : TypeId} {pos : String} {af : Array Edge} {gg : Option (Nat × Bool)} {x y z : Operand} {v u : Value} {t t2 : TypeId}

theorem put_same {h : Hp} {r : Nat} {o : AObj} (hg : h.get r = some o) (i : Nat) : (h.put r o).get i = h.get i := by
  rw [Hp.get_put]
  split
  · rename_i e; subst e; exact hg.symm
  · rfl

theorem erase_map {α β : Type} (f : α → β) : ∀ (l : List α) (i : Nat), (l.map f).eraseIdx i = (l.eraseIdx i).map f
  | [], _ => rfl
  | _ :: _, 0 => rfl
  | a :: r, i + 1 => by simp only [List.map_cons, List.eraseIdx_cons_succ, erase_map f r i]

/-- delete, on a map keyed by integers. -/
theorem o_delete {kt et : TypeId} {M : Ms} {cl r : Nat} {k : Int} (m : MapT E t kt et) (g : Gd ops l gg) (hx : evl l x = some (.map (some r))) (hy : evl l y = some (.int .i64 k))
    (hg : h.get r = some (.map (M.map ent) cl)) (hin : k ∈ M.map (·.1)) (ha : ∀ q, q ∈ lt → Again E ops l (h.put r (.map ((delI M k).map ent) cl)) q)
    (q : WL E fn nt dr ops fin rest l (h.put r (.map ((delI M k).map ent) cl)) R) :
    WL E fn nt dr ops fin ((⟨none, .call ⟨.builtin .delete, #[x, y], #[t, t2]⟩, ty, pos, af, gg⟩, lt) :: rest) l h R := by
  refine wl_value (v := .tuple #[]) g rfl (fun _ ag => ?_) wn0 ha q
  simp only [writeX, resolveX, invokeX, List.getElem?_toArray, List.getElem?_cons_zero, List.map_toArray, List.map_cons, List.map_nil, ag.ev hx, ag.ev hy, deleteX, m.und, hg, keyOk_int m.key, cond_true, findX_int m.key, delI]
  cases hf : fi k M 0 with
  | none => exact absurd hin (fi_none hf)
  | some q =>
    obtain ⟨i, w⟩ := q
    simp only [erase_map]

end

/-- What slices.Sorted comes to of a map's keys. -/
theorem keysI_ent : ∀ M : Ms, (∀ x, x ∈ M → (Lit.int .i64 x.1).wf = true) → keysI (M.map ent) = some (M.map (·.1))
  | [], _ => rfl
  | x :: r, h => by
    have h1 := h x (by simp)
    simp only [List.map_cons, keysI, keysI_ent r fun y hy => h y (by simp [hy]), keyI, ent, h1, decide_true, cond_true]
theorem stampI_ent {M : Ms} {cl : Nat} (x : MsOk M cl) (hl : M.length ≤ 100000) : stampI (M.map ent) cl (M.map (·.1)) = true := by
  have e : (M.map ent).map (·.born) = M.map (·.2.2) := by rw [List.map_map]; rfl
  simp only [stampI, Bool.and_eq_true, List.all_eq_true, blt_iff, ble_iff, List.length_map]
  refine ⟨⟨⟨fun y hy => ?_, ?_⟩, (freshI_iff _).2 x.keys⟩, hl⟩
  · obtain ⟨z, hz, rfl⟩ := List.mem_map.1 hy
    exact x.lt z hz
  · rw [e]; exact (freshI_iff _).2 x.born
theorem sortedM_ent {M : Ms} {cl : Nat} {h : Hp} {elem : Nat} (x : MsOk M cl) (hl : M.length ≤ 100000) (hw : ∀ y, y ∈ M → (Lit.int .i64 y.1).wf = true) :
    ∃ v h' bs, sortedM elem (M.map ent) cl h = some (v, h') ∧ Sl elem h' v ((sortI (M.map (·.1))).map (Value.int .i64)) bs ∧ Ext h h' ∧ (∀ i, i ∈ bs → h.n ≤ i) ∧ KD h h' := by
  unfold sortedM
  rw [keysI_ent M hw]
  simp only [stampI_ent x hl, cond_true]
  cases hs : sortI (M.map (·.1)) with
  | nil => exact ⟨_, _, [], rfl, .inl ⟨rfl, rfl, rfl⟩, .refl _, by simp, .refl _⟩
  | cons y ys =>
    exact ⟨_, _, [h.n], rfl, .inr ⟨h.n, 3, by simp, Hp.get_alloc_self _ _, .inr rfl, by rw [Hp.n_alloc]; omega, rfl⟩, Ext.alloc _ _, by simp, KD.alloc _ _⟩
theorem sortedX_ent {M : Ms} {cl c r g t : Nat} {h : Hp} {elem : Nat} (x : MsOk M cl) (hl : M.length ≤ 100000) (hw : ∀ y, y ∈ M → (Lit.int .i64 y.1).wf = true) (hc : h.get c = some (.cells [.map (some r)] t 0)) (hr : h.get r = some (.map (M.map ent) cl)) :
    ∃ v h' bs, sortedX g elem [.func (.func g) #[] #[.pointer (some ⟨c, 0, none⟩)]] h = some (v, h') ∧ Sl elem h' v ((sortI (M.map (·.1))).map (Value.int .i64)) bs ∧ Ext h h' ∧ (∀ i, i ∈ bs → h.n ≤ i) ∧ KD h h' := by
  have e : sortedX g elem [.func (.func g) #[] #[.pointer (some ⟨c, 0, none⟩)]] h = sortedM elem (M.map ent) cl h := by
    simp only [sortedX, isFn, Nat.beq_refl, ptrOf, mapIn, hc, hr]
    rfl
  rw [e]
  exact sortedM_ent x hl hw

end Go.X

namespace Go.X

section
variable {E : Env} {fn : FuncId} {nt : Nat} {l l' : Kn} {h h' : Hp} {dr : Bool} {ops : Array Oper} {fin rest : List (Oper × List Oper)} {R : Kn → Hp → Prop} {lt : List Oper}
variable {d : Nat} {ty t ty2 : TypeId} {pos : String} {af : Array Edge} {gg : Option (Nat × Bool)} {x y : Operand} {v u w : Value} {op : BinOp}

theorem o_bin (g : Gd ops l gg) (hd : Nat.blt d nt = true) (hx : evl l x = some u) (hy : evl l y = some w) (hv : binX E h op t x y u w = some v) (q : WL E fn nt dr ops fin rest ((d, v) :: l) h R) :
    WL E fn nt dr ops fin ((⟨some d, .binOp op t x y ty2, ty, pos, af, gg⟩, lt) :: rest) l h R :=
  wl_read g rfl (fun _ ag => by simp only [readX, ag.ev hx, ag.ev hy, hv]) (wn hd) q
end

theorem structEq_cons {E : Env} {h : Hp} {xs ys : Array Value} {f : Field} {fs : List Field} {u w : Value} {b c : Bool} (hn : (f.name == "_") = false) (hu : partX E f.type xs f.offset = some u) (hw : partX E f.type ys f.offset = some w) (he : equalX E h 1 f.type u w = some b)
    (hr : structEq E h xs ys fs = some c) : structEq E h xs ys (f :: fs) = some (b && c) := by
  simp only [structEq, hn, cond_false, hu, hw, he]
  cases b
  · rfl
  · simpa using hr
theorem binA_neq {E : Env} {h : Hp} {t : TypeId} {x y : Operand} {xs ys : Array Value} {fs : Array Field} {r : Bool} (hu : E.und t = some (.struct fs)) (hg : (E.P.eqGuardType E.P.depth t || E.P.stoodInHeld t) = false) (hs : structEq E h xs ys fs.toList = some r) :
    binX E h .neq t x y (.agg xs) (.agg ys) = some (.bool (!r)) := by
  simp only [binX, hu, hg, cond_false, hs, boolV_eq]
theorem binA_eql {E : Env} {h : Hp} {t : TypeId} {x y : Operand} {xs ys : Array Value} {fs : Array Field} {r : Bool} (hu : E.und t = some (.struct fs)) (hg : (E.P.eqGuardType E.P.depth t || E.P.stoodInHeld t) = false) (hs : structEq E h xs ys fs.toList = some r) :
    binX E h .eql t x y (.agg xs) (.agg ys) = some (.bool r) := by
  simp only [binX, hu, hg, cond_false, hs, boolV_eq]

/-- append to a new slice of no items: what slices.Clone does. -/
theorem appendN_new {E : Env} {h : Hp} {t e z by' : Nat} {s : Value} {cs : List Value} {n : Nat} {bs : List Nat} (x : ElN E t e z by') (hs : SlN e z h s cs n bs) (hcv : cs.all cellV = true) (hn : n * (by' + 1) ≤ 1099511627776) :
    ∃ v' h' bs', appendX E (h.alloc (.cells [] e 0)) t t (.slice (some ⟨h.n, 0, none⟩) 0 0) s = some (v', h') ∧ SlN e z h' v' cs n bs' ∧ Ext h h' ∧ ∀ i, i ∈ bs' → h.n ≤ i := by
  have hx1 : Ext h (h.alloc (.cells [] e 0)) := Ext.alloc _ _
  have hg0 : (h.alloc (.cells [] e 0)).get h.n = some (.cells [] e 0) := Hp.get_alloc_self _ _
  have hrow : rowOf (h.alloc (.cells [] e 0)) ⟨h.n, 0, none⟩ (0 * (z + 1)) = some [] := by
    simp only [rowOf, hg0, Nat.zero_mul]
    rfl
  have hbl : Nat.ble 0 0 = true := rfl
  have hbq : Nat.beq 0 0 = true := rfl
  have h00 : ∀ o : Option Addr, firstX (h.alloc (.cells [] e 0)) (z + 1) 0 (.slice o 0 0) = some [] → appendX E (h.alloc (.cells [] e 0)) t t (.slice (some ⟨h.n, 0, none⟩) 0 0) (.slice o 0 0) = some (.slice (some ⟨h.n, 0, none⟩) 0 0, h.alloc (.cells [] e 0)) := fun o ho => by
    simp only [appendX, x.und, lenOfX, x.size, x.bytes, ho, hbq, modeOf, hg0, hbl, cond_true]
  rcases hs with ⟨rfl, rfl, rfl, rfl⟩ | ⟨b, m, rfl, hb, hm, hlt, rfl, hl⟩
  · refine ⟨_, _, [h.n], ?_, .inr ⟨h.n, 0, rfl, hg0, .inl rfl, by rw [Hp.n_alloc]; omega, rfl, by simp⟩, hx1, by simp⟩
    exact h00 _ (by simp [firstX, hbl])
  · by_cases h0 : n = 0
    · subst h0
      have : cs = [] := by simpa using hl
      subst this
      refine ⟨_, _, [h.n], ?_, .inr ⟨h.n, 0, rfl, hg0, .inl rfl, by rw [Hp.n_alloc]; omega, rfl, by simp⟩, hx1, by simp⟩
      exact h00 _ (by simp [firstX, hbl])
    · have hb1 := (hx1.get b hlt).trans hb
      have e1 : Nat.ble (0 + n * (z + 1)) cs.length = true := (ble_iff _ _).2 (by omega)
      have e2 : Nat.ble n n = true := (ble_iff _ _).2 (Nat.le_refl _)
      have e3 : Nat.beq n 0 = false := (beq_false _ _).2 h0
      have hfirst : firstX (h.alloc (.cells [] e 0)) (z + 1) n (.slice (some ⟨b, 0, none⟩) n n) = some cs := by
        simp only [firstX, e2, e3, cond_true, cond_false, rowOf, hb1, e1, List.drop_zero]
        rw [List.take_of_length_le (by omega)]
      have e4 : Nat.ble (0 + n) 0 = false := by
        cases hc : Nat.ble (0 + n) 0 with
        | false => rfl
        | true => have := (ble_iff _ _).1 hc; omega
      refine ⟨_, _, [(h.alloc (.cells [] e 0)).n], ?_, .inr ⟨_, z + 3, rfl, Hp.get_alloc_self _ _, .inr rfl, by simp only [Hp.n_alloc]; omega, rfl, hl⟩, hx1.trans (Ext.alloc _ _), fun i hi => by rw [Hp.n_alloc] at hi; simp at hi; omega⟩
      simp only [appendX, x.und, lenOfX, x.size, x.bytes, hfirst, e3, cond_false, e4, hrow, hg0, hcv, cond_true]
      have := x.growX (h.alloc (.cells [] e 0)) n [] cs (by omega)
      simpa [Nat.beq_refl] using this

end Go.X

namespace Go.X
open Go.RowKit Go.Sort Go.Shelf Go.Lib Go.Proofs

/-- The library's contract, at function f with the closure g. -/
structure SortFn (P : Program) (f g : Nat) {α : Type} [Inhabited α] (enc : α → List Value) (k : Nat) (lt : α → α → Bool) : Prop where
  yes : ∀ (blk off cap : Nat) (d : Array α) (w : World), HoldsK enc k w blk off d → blk < w.heap.size → d.size < 4611686018427387904 →
    Calls P f #[.slice (some ⟨blk, off, none⟩) d.size cap, .func (.func g) #[] #[]] w fun e w' => e = .returned (.tuple #[]) ∧ ∃ d' n os, PermIn 0 d.size d d' ∧ SortedIn lt 0 d.size d' ∧ w' = sortWorldK enc k w blk off n d' os
  no : ∀ (p : Option Addr) (cap : Nat) (w : World), Calls P f #[.slice p 0 cap, .func (.func g) #[] #[]] w fun e w' => e = .returned (.tuple #[]) ∧ w' = w

/-- What X does: the cells of the row are handed to srt. -/
def sortRowX (k : Nat) (srt : Nat → List Value → Option (List Value)) (h : Hp) : Option Addr → Nat → Option (Value × Hp)
  | _, 0 => some (.tuple #[], h)
  | some a, n + 1 => (match rowOf h a ((n + 1) * k) with
      | some cs => (match srt (n + 1) cs with
        | some cs' => (match storeRow h a cs' with
          | some h' => some (.tuple #[], h')
          | none => none)
        | none => none)
      | none => none)
  | none, _ + 1 => none
def isFn0 (g : Nat) : Value → Bool
  | .func (.func g') a b => Nat.beq g' g && Nat.beq a.toList.length 0 && Nat.beq b.toList.length 0
  | _ => false
def sortFX (g k : Nat) (srt : Nat → List Value → Option (List Value)) (args : List Value) (h : Hp) : Option (Value × Hp) := match args with
  | [.slice o n _, f] => cond (isFn0 g f) (sortRowX k srt h o n) none
  | _ => none
theorem isFn0_some {g : Nat} {f : Value} (e : isFn0 g f = true) : ∃ a b, f = .func (.func g) a b ∧ a.toList.length = 0 ∧ b.toList.length = 0 := by
  unfold isFn0 at e
  split at e
  · simp only [Bool.and_eq_true, beq_iff] at e
    obtain ⟨⟨rfl, h1⟩, h2⟩ := e
    exact ⟨_, _, rfl, h1, h2⟩
  · cases e

theorem flat_len {α : Type} {enc : α → List Value} {k : Nat} (hk : ∀ x, (enc x).length = k) : ∀ L : List α, (L.flatMap enc).length = L.length * k
  | [] => by simp
  | x :: r => by rw [List.flatMap_cons, List.length_append, flat_len hk r, hk, List.length_cons, Nat.add_mul]; omega

theorem flat_get {α : Type} [Inhabited α] {enc : α → List Value} {k : Nat} (hk : ∀ x, (enc x).length = k) : ∀ (L : List α) (j : Nat), j < L.length * k → (L.flatMap enc)[j]? = some (enc L[j / k]!)[j % k]!
  | [], j, h => by simp at h
  | x :: r, j, h => by
    have hk0 : 0 < k := by
      rcases Nat.eq_zero_or_pos k with e | e
      · rw [e] at h; omega
      · exact e
    rw [List.flatMap_cons]
    by_cases hj : j < k
    · rw [List.getElem?_append_left (by rw [hk]; exact hj), Nat.div_eq_of_lt hj, Nat.mod_eq_of_lt hj]
      have : j < (enc x).length := by rw [hk]; exact hj
      simp [this]
    · rw [List.getElem?_append_right (by rw [hk]; omega), hk]
      have h2 : j - k < r.length * k := by rw [List.length_cons, Nat.add_mul] at h; omega
      rw [flat_get hk r (j - k) h2]
      have e1 : j / k = (j - k) / k + 1 := by rw [Nat.div_eq_sub_div hk0 (by omega)]
      have e2 : j % k = (j - k) % k := Nat.mod_eq_sub_mod (by omega)
      rw [e1, e2]
      simp

theorem flatK_list {α : Type} [Inhabited α] {enc : α → List Value} {k : Nat} (hk : ∀ x, (enc x).length = k) (d : Array α) : (flatK enc k d).toList = d.toList.flatMap enc := by
  apply List.ext_getElem?
  intro j
  by_cases hj : j < d.size * k
  · rw [flat_get hk d.toList j (by simpa using hj)]
    have h1 : j < (flatK enc k d).size := by rw [size_flatK]; exact hj
    rw [Array.getElem?_toList, Array.getElem?_eq_getElem h1]
    have := get_flatK enc k d j hj
    rw [getElem!_pos _ j h1] at this
    rw [this]
    congr 1
    simp [Array.getElem!_eq_getD]
  · rw [List.getElem?_eq_none (by simpa using hj), List.getElem?_eq_none (by rw [flat_len hk]; simpa using hj)]

theorem setMany_all : ∀ (vs : List Value) (s : Nat) (F : Array Value) (t : Nat), (setMany F s vs)[t]? = if s ≤ t ∧ t < s + vs.length ∧ t < F.size then vs[t - s]? else F[t]?
  | [], s, F, t => by simp [setMany]; intro h1 h2; omega
  | v :: r, s, F, t => by
    rw [setMany, setMany_all r (s + 1)]
    simp only [Array.size_setIfInBounds, List.length_cons]
    by_cases h1 : s + 1 ≤ t ∧ t < s + 1 + r.length ∧ t < F.size
    · rw [if_pos h1, if_pos (by omega), show t - s = (t - (s + 1)) + 1 by omega, List.getElem?_cons_succ]
    · rw [if_neg h1]
      by_cases h2 : t = s
      · subst h2
        by_cases h3 : t < F.size
        · rw [if_pos (by omega)]; simp [h3]
        · rw [if_neg (by omega), Array.getElem?_eq_none (by simp; omega), Array.getElem?_eq_none (by omega)]
      · rw [Array.getElem?_setIfInBounds_ne (fun e => h2 e.symm)]
        by_cases h4 : s ≤ t ∧ t < s + (r.length + 1) ∧ t < F.size
        · omega
        · rw [if_neg h4]

theorem putRow_cells {W : World} {blk off : Nat} {F F' : Array Value} (h : Holds id W blk off F) (hs : F'.size = F.size) : putRow id W blk off F' = W.setCells blk off F'.toList := by
  have e := setCells_putRow W blk off F'.toList 0 F (by simp [hs])
  rw [putRow_self id W blk off F h, Nat.add_zero] at e
  rw [e]
  congr 1
  apply Array.ext_getElem?
  intro i
  rw [setMany_all]
  by_cases hi : i < F'.size
  · rw [if_pos (by simp; omega)]; simp
  · rw [if_neg (by simp; omega), Array.getElem?_eq_none (by omega), Array.getElem?_eq_none (by omega)]

theorem VRel.func0_inv {M : Mp} {g : Nat} {a b : Array Value} {u : Value} (h : VRel M (.func (.func g) a b) u) (ha : a.toList.length = 0) (hb : b.toList.length = 0) : u = .func (.func g) #[] #[] := by
  obtain ⟨f', c, d, rfl, hf, h1, h2⟩ := h.func_inv
  obtain rfl : Fn.func g = f' := by simpa [FnRel] using hf
  have e1 : c = #[] := Array.toList_inj.1 (List.eq_nil_of_length_eq_zero (by rw [← h1.1, ha]))
  have e2 : d = #[] := Array.toList_inj.1 (List.eq_nil_of_length_eq_zero (by rw [← h2.1, hb]))
  rw [e1, e2]

theorem sortF_law {P : Program} {f g : Nat} {α : Type} [Inhabited α] {enc : α → List Value} {k : Nat} {lt : α → α → Bool} {srt : Nat → List Value → Option (List Value)}
    (hk : ∀ x, (enc x).length = k) (hpl : ∀ x v, v ∈ enc x → plainV 20 v = true ∧ cellV v = true)
    (hs : ∀ n cs cs', srt n cs = some cs' → ∃ L : List α, L.length = n ∧ n < 4611686018427387904 ∧ cs = L.flatMap enc ∧ ∀ L' : List α, L'.Perm L → L'.Pairwise (fun x y => lt y x = false) → cs' = L'.flatMap enc)
    (S : SortFn P f g enc k lt) : SmLaw P f (sortFX g k srt) := by
  intro W B M h w args args' v h' hnb H hv hF
  unfold sortFX at hF
  split at hF
  case h_2 => cases hF
  rename_i o n c f0
  replace hF := cond_some hF
  obtain ⟨hc, hF⟩ := hF
  obtain ⟨a0, b0, rfl, ha0, hb0⟩ := isFn0_some hc
  have hargs : ∃ s', args' = #[s', .func (.func g) #[] #[]] ∧ VRel M (.slice o n c) s' := by
    have h1 : args'.toList.length = 2 := by rw [← hv.1]; rfl
    match hq : args'.toList, h1 with
    | [u1, u2], _ =>
      rw [hq] at hv
      have e2 := hv.uncons.2.uncons.1.func0_inv ha0 hb0
      subst e2
      exact ⟨u1, Array.toList_inj.1 hq, hv.uncons.1⟩
  obtain ⟨s', rfl, hsl⟩ := hargs
  unfold sortRowX at hF
  split at hF
  · cases hF
    have hn : ∃ p c', s' = .slice p 0 c' := by cases hsl <;> exact ⟨_, _, rfl⟩
    obtain ⟨p, c', rfl⟩ := hn
    refine (S.no p c' w).mono fun e w' ⟨he, hw⟩ => ?_
    subst hw
    exact ⟨_, M, he, .refl M, H, .refl _ _ _, .tuple rfl (fun i v w hi => by simp at hi)⟩
  case h_3 => cases hF
  · rename_i a n
    split at hF
    case h_2 => cases hF
    rename_i cs hrow
    split at hF
    case h_2 => cases hF
    rename_i cs' hsrt
    split at hF
    case h_2 => cases hF
    rename_i h2 hst
    cases hF
    obtain ⟨L, hL, hbig, rfl, hall⟩ := hs _ _ _ hsrt
    cases hsl with
    | sl hsl =>
    rename_i a' c'
    have haddr := hsl.live (by omega)
    -- the row as it lies
    have hplace : ∃ b δ S c0 c1 e m fr, a.spot = none ∧ M.ρ a.block = some (b, δ, S) ∧ h.get a.block = some (.cells c0 e m) ∧ w.heap[b]? = some (.cells c1 e fr) ∧ a' = ⟨b, δ + a.off, none⟩ ∧ S = c1.size ∧ δ + c0.length ≤ S ∧
        a.off + (n + 1) * k ≤ c0.length ∧ (c0.drop a.off).take ((n + 1) * k) = L.flatMap enc ∧ (∀ j v, c0[j]? = some v → ∃ w, c1[δ + j]? = some w ∧ VRel M v w) ∧ ∀ j, j < c1.size → ¬(fr.1 ≤ j ∧ j < fr.2) := by
      unfold rowOf at hrow
      split at hrow
      · cases hrow
      rename_i hsp
      split at hrow
      case h_2 => cases hrow
      rename_i c0 e m hg
      obtain ⟨hle, hrow⟩ := cond_some hrow
      simp only [Option.some.injEq] at hrow
      obtain ⟨b, δ, S, x, hρ, hx, c1, fr, rfl, hS, hle2, hcs, hm⟩ := H.place haddr.1 hg (by simp)
      have ea := haddr.2 b δ S hρ
      rw [hsp] at ea
      refine ⟨b, δ, S, c0, c1, e, m, fr, hsp, hρ, hg, hx, ea, hS, hle2, (ble_iff _ _).1 hle, hrow, hcs, ?_⟩
      have hm1 : m ≠ 1 := by
        unfold storeRow at hst
        rw [hsp] at hst
        simp only [hg] at hst
        obtain ⟨hc, _⟩ := cond_some hst
        simp only [Bool.and_eq_true, Bool.not_eq_true', beq_false] at hc
        exact hc.1
      rcases hm with ⟨_, _, _, _, h5⟩ | ⟨h1, _⟩ | ⟨_, h1⟩
      · subst h5; intro k _; simp
      · exact absurd h1 hm1
      · rw [hS] at h1; exact h1
    obtain ⟨b, δ, Sz, c0, c1, e, m, fr, hsp, hρ, hg, hx, rfl, hS, hle2, hle, hcut, hcs, hfr⟩ := hplace
    have hblt : b < w.heap.size := (Array.getElem?_eq_some_iff.1 hx).1
    have hkL : (L.flatMap enc).length = (n + 1) * k := by rw [flat_len hk, hL]
    have hH : HoldsK enc k w b (δ + a.off) L.toArray := by
      intro j hj
      rw [size_flatK] at hj
      simp only [List.size_toArray] at hj
      rw [hL] at hj
      have hget : (L.flatMap enc)[j]? = some (flatK enc k L.toArray)[j]! := by
        rw [get_flatK _ _ _ _ (by simp [hL]; exact hj), flat_get hk L j (by rw [hL]; exact hj)]
        simp
      have hc0 : c0[a.off + j]? = some (flatK enc k L.toArray)[j]! := by
        rw [← hget, ← hcut, List.getElem?_take, if_pos hj, List.getElem?_drop]
      obtain ⟨u, hu, hvu⟩ := hcs _ _ hc0
      have hmem : ∃ x, (flatK enc k L.toArray)[j]! ∈ enc x := by
        have := List.mem_of_getElem? hget
        obtain ⟨x, _, hx⟩ := List.mem_flatMap.1 this
        exact ⟨x, hx⟩
      obtain ⟨x0, hx0⟩ := hmem
      have hue := plain_eq 20 (hpl x0 _ hx0).1 hvu
      rw [hue] at hu
      have hjlt : δ + (a.off + j) < c1.size := by omega
      refine ⟨?_, ?_⟩
      · simp only [World.cell?, hx, Option.isSome_none, Bool.false_eq_true, if_false, Nat.add_assoc, hu, id]
      · have := hfr (δ + (a.off + j)) hjlt
        simp only [World.frozen?, hx, Nat.add_assoc]
        obtain ⟨lo, hi⟩ := fr
        simp only at this ⊢
        rw [Bool.and_eq_false_iff]
        simp only [decide_eq_false_iff_not]
        omega
    have hcall := S.yes b (δ + a.off) c' L.toArray w hH hblt (by simp [hL]; exact hbig)
    simp only [List.size_toArray, hL] at hcall
    refine hcall.mono fun e' w' ⟨he, d', n', os, hp, hsd, hw⟩ => ?_
    have hsz : d'.size = n + 1 := by rw [hp.1]; simp [hL]
    have hperm : d'.toList.Perm L := by
      have := hp.2.2
      rw [Array.extract_eq_self_of_le (by omega), Array.extract_eq_self_of_le (by simp [hL])] at this
      simpa using this
    have hpw : d'.toList.Pairwise (fun x y => lt y x = false) := by
      rw [List.pairwise_iff_getElem]
      intro i j hi hj hij
      have := hsd i j (Nat.zero_le _) hij (by simp at hj; omega)
      rw [getElem!_pos _ j (by simpa using hj), getElem!_pos _ i (by simpa using hi)] at this
      simpa using this
    have hcs' := hall _ hperm hpw
    have hput : putRowK enc k (Sort.ahead w n') b (δ + a.off) d' = Sort.ahead (w.setCells b (δ + a.off) cs') n' := by
      unfold putRowK
      rw [putRow_ahead, putRow_cells (F := flatK enc k L.toArray) hH (by rw [size_flatK, size_flatK, hsz]; simp [hL]), flatK_list hk, ← hcs']
    have hcv : cs'.all cellV = true := by
      rw [hcs', List.all_eq_true]
      intro v hv
      obtain ⟨x, _, hx⟩ := List.mem_flatMap.1 hv
      exact (hpl x v hx).2
    have hrel : VsRel M cs' cs' := ⟨rfl, fun i v u h1 h2 => by
      rw [h1] at h2; cases h2
      have hm := List.mem_of_getElem? h1
      rw [hcs'] at hm
      obtain ⟨x, _, hx⟩ := List.mem_flatMap.1 hm
      exact plain_rel M 20 v (hpl x v hx).1⟩
    obtain ⟨w1, _, H1, K1, hw1⟩ := storeRow_sound (E := envOf P) H haddr hrel hcv hst
    simp only at hw1
    have hw2 : w' = grow (Sort.ahead w1 n') os := by rw [hw, sortWorldK, hput, hw1]
    subst hw2
    have hb : RowKit.Below w1.heap.size w1 (grow (Sort.ahead w1 n') os) :=
      ⟨rfl, rfl, rfl, by simp [grow, Sort.ahead], fun c hc => by simp only [grow, Sort.ahead]; rw [Array.getElem?_append_left hc]⟩
    exact ⟨_, M, he, .refl M, H1.below hnb hb, K1, .tuple rfl (fun i v w hi => by simp at hi)⟩

end Go.X

namespace Go.X

theorem ExtB.join {A C : List Nat} {h h1 h2 : Hp} (x : ExtB A h h1) (y : ExtB C h1 h2) (d : ∀ i, i ∈ C → i ∈ A ∨ h.n ≤ i) : ExtB A h h2 :=
  ⟨Nat.le_trans x.n y.n, fun i hi hA => (y.get i (Nat.lt_of_lt_of_le hi x.n) fun hc => (d i hc).elim hA fun h1 => by omega).trans (x.get i hi hA)⟩

/-- A slice of n elements: its cells, its block (none: nil); what lies behind them is not looked at. -/
def SlC (e : TypeId) (z : Nat) (h : Hp) (s : Value) (cs : List Value) (n : Nat) (bs : List Nat) : Prop :=
  (s = .slice none 0 0 ∧ cs = [] ∧ n = 0 ∧ bs = []) ∨ ∃ b m c rest, s = .slice (some ⟨b, 0, none⟩) n c ∧ h.get b = some (.cells (cs ++ rest) e m) ∧ (m = 0 ∨ m = z + 3) ∧ b < h.n ∧ bs = [b] ∧ cs.length = n * (z + 1) ∧ n ≤ c ∧ rest.length = (c - n) * (z + 1)

section
variable {e z : Nat} {h h' : Hp} {s : Value} {cs : List Value} {n : Nat} {bs ds : List Nat}

theorem SlN.toC (x : SlN e z h s cs n bs) : SlC e z h s cs n bs := by
  rcases x with x | ⟨b, m, h1, h2, h3, h4, h5, h6⟩
  · exact .inl x
  · exact .inr ⟨b, m, n, [], h1, by simpa using h2, h3, h4, h5, h6, Nat.le_refl _, by simp⟩
theorem SlC.keep (x : SlC e z h s cs n bs) (g : ExtB ds h h') (hd : ∀ i, i ∈ bs → i ∉ ds) : SlC e z h' s cs n bs := by
  rcases x with x | ⟨b, m, c, rest, h1, h2, h3, h4, rfl, h5⟩
  · exact .inl x
  · exact .inr ⟨b, m, c, rest, h1, by rw [g.get b h4 (hd b (by simp))]; exact h2, h3, Nat.lt_of_lt_of_le h4 g.n, rfl, h5⟩
theorem SlC.ext (x : SlC e z h s cs n bs) (g : Ext h h') : SlC e z h' s cs n bs := x.keep (g.b []) (by simp)
theorem SlC.lt (x : SlC e z h s cs n bs) : ∀ i, i ∈ bs → i < h.n := by
  rcases x with ⟨_, _, _, rfl⟩ | ⟨b, m, c, rest, h1, h2, h3, h4, rfl, _⟩ <;> simp
  exact h4
theorem SlC.val (x : SlC e z h s cs n bs) : ∃ a c, s = .slice a n c := by
  rcases x with ⟨rfl, _, rfl, _⟩ | ⟨b, m, c, rest, rfl, _⟩
  · exact ⟨none, 0, rfl⟩
  · exact ⟨_, _, rfl⟩
theorem SlC.len (x : SlC e z h s cs n bs) : cs.length = n * (z + 1) := by
  rcases x with ⟨_, rfl, rfl, _⟩ | ⟨_, _, _, _, _, _, _, _, _, h5, _⟩
  · simp
  · exact h5
theorem SlC.at (x : SlC e z h s cs n bs) (hn : 0 < n) :
    ∃ b m c rest, s = .slice (some ⟨b, 0, none⟩) n c ∧ h.get b = some (.cells (cs ++ rest) e m) ∧ (m = 0 ∨ m = z + 3) ∧ b < h.n ∧ bs = [b] ∧ cs.length = n * (z + 1) ∧ n ≤ c ∧ rest.length = (c - n) * (z + 1) := by
  rcases x with ⟨_, _, rfl, _⟩ | x
  · simp at hn
  · exact x
/-- Its first elements. -/
theorem SlC.first {b : Nat} {c : Nat} (x : SlC e z h (.slice (some ⟨b, 0, none⟩) n c) cs n bs) {k : Nat} (hk : k ≤ n) : SlC e z h (.slice (some ⟨b, 0, none⟩) k c) (cs.take (k * (z + 1))) k bs := by
  rcases x with ⟨h1, _⟩ | ⟨b', m, c', rest, h1, h2, h3, h4, rfl, h5, h6, h7⟩
  · cases h1
  · cases h1
    have hm : k * (z + 1) ≤ n * (z + 1) := Nat.mul_le_mul_right _ hk
    have hm2 : n * (z + 1) ≤ c * (z + 1) := Nat.mul_le_mul_right _ h6
    refine .inr ⟨b, m, c, cs.drop (k * (z + 1)) ++ rest, rfl, ?_, h3, h4, rfl, by simp; omega, by omega, ?_⟩
    · rw [← List.append_assoc, List.take_append_drop]; exact h2
    · rw [List.length_append, List.length_drop, h5, h7, Nat.sub_mul, Nat.sub_mul]; omega

/-- One element appended, that lies in a block of its own (as buildSlice lays it). -/
theorem appendC {E : Env} {t by' q m' : Nat} {xs : List Value} (x : ElN E t e z by') (hs : SlC e z h s cs n bs) (hq : h.get q = some (.cells xs e m')) (hx : xs.length = z + 1) (hc : xs.all cellV = true)
    (hn : (n + 1) * (by' + 1) ≤ 1099511627776) :
    ∃ v' h' bs', appendX E h t t s (.slice (some ⟨q, 0, none⟩) 1 1) = some (v', h') ∧ SlC e z h' v' (cs ++ xs) (n + 1) bs' ∧ ExtB bs h h' ∧ ∀ i, i ∈ bs' → i ∈ bs ∨ h.n ≤ i := by
  have hfirst : firstX h (z + 1) 1 (.slice (some ⟨q, 0, none⟩) 1 1) = some xs := by
    have e1 : Nat.ble (0 + 1 * (z + 1)) xs.length = true := (ble_iff _ _).2 (by omega)
    have e2 : Nat.ble 1 1 = true := rfl
    have e3 : Nat.beq 1 0 = false := rfl
    simp only [firstX, e2, e3, cond_true, cond_false, rowOf, hq, e1, List.drop_zero]
    rw [List.take_of_length_le (by omega)]
  have e3 : Nat.beq 1 0 = false := rfl
  rcases hs with ⟨rfl, rfl, rfl, rfl⟩ | ⟨b, m, c, rest, rfl, hb, hm, hlt, rfl, hl, hnc, hr⟩
  · refine ⟨_, _, [h.n], ?_, .inr ⟨h.n, z + 3, 1, [], rfl, by rw [List.append_nil]; exact Hp.get_alloc_self _ _, .inr rfl, by rw [Hp.n_alloc]; omega, rfl, by simp [hx], Nat.le_refl _, by simp⟩, (Ext.alloc h _).b _, by simp⟩
    simp only [appendX, x.und, lenOfX, x.size, x.bytes, hfirst, e3, cond_false]
    exact x.growX h 1 [] xs (by omega)
  · have hl' : (cs ++ xs).length = (n + 1) * (z + 1) := by rw [List.length_append, hl, hx, Nat.add_mul]; omega
    by_cases hlt2 : n + 1 ≤ c
    · have e1 : Nat.ble (n + 1) c = true := (ble_iff _ _).2 hlt2
      have hm2 : (n + 1) * (z + 1) ≤ c * (z + 1) := Nat.mul_le_mul_right _ hlt2
      rw [Nat.sub_mul] at hr
      rw [Nat.add_mul] at hm2
      have hst : storeRow h ((⟨b, 0, none⟩ : Addr).add (n * (z + 1))) xs = some (h.put b (.cells ((cs ++ xs) ++ rest.drop (z + 1)) e m)) := by
        have e4 : Nat.beq m 1 = false := (beq_false _ _).2 (by omega)
        have e5 : Nat.ble (0 + n * (z + 1) + xs.length) (cs ++ rest).length = true := (ble_iff _ _).2 (by rw [List.length_append]; omega)
        rw [addr_add]
        simp only [storeRow, hb, e4, e5, Bool.not_false, Bool.and_true, cond_true, Option.some.injEq]
        congr 2
        rw [Nat.zero_add, List.take_append_of_le_length (by omega), List.take_of_length_le (by omega), List.drop_append]
        congr 1
        rw [List.drop_eq_nil_of_le (by omega), List.nil_append]
        congr 1
        omega
      refine ⟨.slice (some ⟨b, 0, none⟩) (n + 1) c, _, [b], ?_, .inr ⟨b, m, c, rest.drop (z + 1), rfl, Hp.get_put_self _ _ _, hm, by rw [Hp.n_put]; exact hlt, rfl, hl', hlt2, ?_⟩, ExtB.put h b _, by simp⟩
      · simp only [appendX, x.und, lenOfX, x.size, x.bytes, hfirst, e3, cond_false, e1, cond_true, hst, hc]
      · rw [List.length_drop, hr, Nat.sub_mul, Nat.add_mul]; omega
    · have hcn : c = n := by omega
      subst hcn
      have hr0 : rest = [] := List.eq_nil_of_length_eq_zero (by rw [hr]; simp)
      subst hr0
      rw [List.append_nil] at hb
      obtain ⟨v', h', q1, q2, q3⟩ := appendN x (.inr ⟨b, m, rfl, hb, hm, hlt, rfl, hl⟩) hq hx hc hn
      exact ⟨v', h', [h.n], q1, q2.toC, q3, by simp⟩

/-- append to a new slice of no items: what slices.Clone does. -/
theorem cloneC {E : Env} {t by' : Nat} (x : ElN E t e z by') (hs : SlC e z h s cs n bs) (hcv : cs.all cellV = true) (hn : n * (by' + 1) ≤ 1099511627776) :
    ∃ v' h' bs', appendX E (h.alloc (.cells [] e 0)) t t (.slice (some ⟨h.n, 0, none⟩) 0 0) s = some (v', h') ∧ SlN e z h' v' cs n bs' ∧ Ext h h' ∧ ∀ i, i ∈ bs' → h.n ≤ i := by
  rcases hs with ⟨rfl, rfl, rfl, rfl⟩ | ⟨b, m, c, rest, rfl, hb, hm, hlt, rfl, hl, hnc, hr⟩
  · exact appendN_new x (.inl ⟨rfl, rfl, rfl, rfl⟩) (by simp) (by simp)
  have hx1 : Ext h (h.alloc (.cells [] e 0)) := Ext.alloc _ _
  have hg0 : (h.alloc (.cells [] e 0)).get h.n = some (.cells [] e 0) := Hp.get_alloc_self _ _
  have hrow : rowOf (h.alloc (.cells [] e 0)) ⟨h.n, 0, none⟩ (0 * (z + 1)) = some [] := by
    simp only [rowOf, hg0, Nat.zero_mul]
    rfl
  have hbl : Nat.ble 0 0 = true := rfl
  have hbq : Nat.beq 0 0 = true := rfl
  by_cases h0 : n = 0
  · subst h0
    have : cs = [] := by simpa using hl
    subst this
    refine ⟨.slice (some ⟨h.n, 0, none⟩) 0 0, _, [h.n], ?_, .inr ⟨h.n, 0, rfl, hg0, .inl rfl, by rw [Hp.n_alloc]; omega, rfl, by simp⟩, hx1, by simp⟩
    have ho : firstX (h.alloc (.cells [] e 0)) (z + 1) 0 (.slice (some ⟨b, 0, none⟩) 0 c) = some [] := by simp [firstX, hbl]
    simp only [appendX, x.und, lenOfX, x.size, x.bytes, ho, hbq, modeOf, hg0, hbl, cond_true]
  · have hb1 := (hx1.get b hlt).trans hb
    have e1 : Nat.ble (0 + n * (z + 1)) (cs ++ rest).length = true := (ble_iff _ _).2 (by rw [List.length_append]; omega)
    have e2 : Nat.ble n n = true := (ble_iff _ _).2 (Nat.le_refl _)
    have e3 : Nat.beq n 0 = false := (beq_false _ _).2 h0
    have hfirst : firstX (h.alloc (.cells [] e 0)) (z + 1) n (.slice (some ⟨b, 0, none⟩) n c) = some cs := by
      simp only [firstX, e2, e3, cond_true, cond_false, rowOf, hb1, e1, List.drop_zero]
      rw [List.take_append_of_le_length (by omega), List.take_of_length_le (by omega)]
    have e4 : Nat.ble (0 + n) 0 = false := by
      cases hc : Nat.ble (0 + n) 0 with
      | false => rfl
      | true => have := (ble_iff _ _).1 hc; omega
    refine ⟨_, _, [(h.alloc (.cells [] e 0)).n], ?_, .inr ⟨_, z + 3, rfl, Hp.get_alloc_self _ _, .inr rfl, by simp only [Hp.n_alloc]; omega, rfl, hl⟩, hx1.trans (Ext.alloc _ _), fun i hi => by rw [Hp.n_alloc] at hi; simp at hi; omega⟩
    simp only [appendX, x.und, lenOfX, x.size, x.bytes, hfirst, e3, cond_false, e4, hrow, hg0, hcv, cond_true]
    have := x.growX (h.alloc (.cells [] e 0)) n [] cs (by omega)
    simpa [Nat.beq_refl] using this
end

section
variable {E : Env} {fn : FuncId} {nt : Nat} {l : Kn} {h : Hp} {dr : Bool} {ops : Array Oper} {fin rest : List (Oper × List Oper)} {R : Kn → Hp → Prop} {lt : List Oper}
variable {d : Nat} {ty t ty2 : TypeId} {pos : String} {af : Array Edge} {gg : Option (Nat × Bool)} {x y : Operand} {v : Value}

/-- A struct is stored somewhere in a block. -/
theorem o_storeR {b o n : Nat} {cs : List Value} {vs : Array Value} {e : TypeId} {m : Nat} (g : Gd ops l gg) (hx : evl l x = some (.pointer (some ⟨b, o, none⟩))) (hy : evl l y = some (.agg vs)) (hc : vs.toList.all cellV = true) (ht : E.size t = some n) (hn : vs.size = n)
    (hg : h.get b = some (.cells cs e m)) (hm : m ≠ 1) (hv : o + n ≤ cs.length) (ha : ∀ q, q ∈ lt → Again E ops l (h.put b (.cells (cs.take o ++ vs.toList ++ cs.drop (o + n)) e m)) q)
    (q : WL E fn nt dr ops fin rest l (h.put b (.cells (cs.take o ++ vs.toList ++ cs.drop (o + n)) e m)) R) :
    WL E fn nt dr ops fin ((⟨none, .store t x y, ty, pos, af, gg⟩, lt) :: rest) l h R := by
  refine wl_none g rfl (fun _ ag => ?_) wn0 ha q
  have hl : vs.toList.length = n := by simpa using hn
  have e1 : Nat.ble (o + n) cs.length = true := (ble_iff _ _).2 hv
  have e2 : Nat.beq m 1 = false := (beq_false _ _).2 hm
  have e3 : Nat.beq vs.size n = true := (beq_iff _ _).2 hn
  simp only [writeX, ag.ev hx, ag.ev hy, storeX, ht, Value.cells, e3, hc, Bool.and_true, cond_true, storeRow, hg, hl, e1, e2, Bool.not_false]

theorem ag_int2 {k : IntKind} {a b : Int} {op : BinOp} (g : Gd ops l gg) (hx : evl l x = some (.int k a)) (hy : evl l y = some (.int k b)) (hs : isShift op = false) (hv : intBin op k a b = some v) (hl : lk l d = some v) (hw : sameV 20 v v = true) :
    Again E ops l h ⟨some d, .binOp op t x y ty2, ty, pos, af, gg⟩ :=
  .inr ⟨g, v, d, rfl, hl, hw, fun _ ag => by simp only [readX, ag.ev hx, ag.ev hy, binX, hs, cond_false, kindEq_refl, cond_true, hv]⟩
theorem ag_sub {a b : Int} (g : Gd ops l gg) (hx : evl l x = some (.int .i64 a)) (hy : evl l y = some (.int .i64 b)) (h1 : -9223372036854775808 ≤ a - b) (h2 : a - b < 9223372036854775808) (hl : lk l d = some (.int .i64 (a - b))) :
    Again E ops l h ⟨some d, .binOp .sub t x y ty2, ty, pos, af, gg⟩ :=
  ag_int2 g hx hy rfl (by simp only [intBin, someI_eq, wrapX_eq]; rw [wrap64 h1 h2]) hl (by simp [sameV, kindEq_refl])
theorem ag_quo {a b : Int} (g : Gd ops l gg) (hx : evl l x = some (.int .i64 a)) (hy : evl l y = some (.int .i64 b)) (h0 : 0 ≤ a) (h1 : a < 9223372036854775808) (h2 : 0 < b) (hl : lk l d = some (.int .i64 (a / b))) :
    Again E ops l h ⟨some d, .binOp .quo t x y ty2, ty, pos, af, gg⟩ :=
  ag_int2 g hx hy rfl (by
    have hb : ¬ b = 0 := by omega
    have hle : a / b ≤ a := Int.ediv_le_self b h0
    have hge : 0 ≤ a / b := Int.ediv_nonneg h0 (by omega)
    simp only [intBin, hb, decide_false, cond_false, someI_eq, wrapX_eq, Int.tdiv_eq_ediv_of_nonneg h0]
    rw [wrap64 (by omega) (by omega)]) hl (by simp [sameV, kindEq_refl])

/-- s[:k] -/
theorem o_sliceToN {bb o n c z by' e : Nat} {k : IntKind} {vs : List Value} {m : Nat} {j : Int} (el : ElN E t e z by') (g : Gd ops l gg) (hd : Nat.blt d nt = true) (hx : evl l x = some (.slice (some ⟨bb, o, none⟩) n c)) (hy : evl l y = some (.int k j))
    (hg : h.get bb = some (.cells vs e m)) (hm : m = 0 ∨ m = z + 3) (h1 : 0 ≤ j) (h2 : j ≤ c)
    (q : WL E fn nt dr ops fin rest ((d, .slice (some ⟨bb, o, none⟩) j.toNat c) :: l) h R) : WL E fn nt dr ops fin ((⟨some d, .slice t x none (some y) none, ty, pos, af, gg⟩, lt) :: rest) l h R :=
  wl_read g rfl (fun _ ag => by
    have hb : boundsOk 0 j.toNat c = true := boundsOk_iff.2 ⟨Nat.zero_le _, by omega⟩
    rcases hm with rfl | rfl
    · simp only [readX, ag.ev hx, Option.map_none, Option.map_some, ag.ev hy, sliceX, el.und, el.size, optNat, natOf_int h1, modeOf, hg, hb, cond_true, Nat.zero_mul, addr_add, Nat.add_zero, Nat.sub_zero, Bool.cond_self]
    · simp only [readX, ag.ev hx, Option.map_none, Option.map_some, ag.ev hy, sliceX, el.und, el.size, optNat, natOf_int h1, modeOf, hg, hb, Nat.beq_refl, Bool.and_self, cond_true, Nat.zero_mul, addr_add, Nat.add_zero, Nat.sub_zero]) (wn hd) q
end

end Go.X

namespace Go.X

/-- A slice of n elements that is read. -/
def SrcN (z : Nat) (h : Hp) (s : Value) (cs : List Value) (n : Nat) : Prop := lenOfX s = some n ∧ firstX h (z + 1) n s = some cs ∧ cs.length = n * (z + 1)

section
variable {e z : Nat} {h h' : Hp} {s w : Value} {cs xs : List Value} {n m : Nat} {bs ds : List Nat}

theorem src_of {b o c : Nat} {all : List Value} {m' : Nat} (hg : h.get b = some (.cells all e m')) (hl : o + n * (z + 1) ≤ all.length) : SrcN z h (.slice (some ⟨b, o, none⟩) n c) ((all.drop o).take (n * (z + 1))) n := by
  refine ⟨rfl, ?_, by simp; omega⟩
  have e1 : Nat.ble n n = true := (ble_iff _ _).2 (Nat.le_refl _)
  simp only [firstX, e1, cond_true]
  cases hn : Nat.beq n 0 with
  | true =>
    have := (beq_iff _ _).1 hn
    subst this
    simp
  | false =>
    have e2 : Nat.ble (o + n * (z + 1)) all.length = true := (ble_iff _ _).2 hl
    simp only [cond_false, rowOf, hg, e2, cond_true]
theorem SlC.src (x : SlC e z h s cs n bs) : SrcN z h s cs n := by
  rcases x with ⟨rfl, rfl, rfl, rfl⟩ | ⟨b, m, c, rest, rfl, hb, _, _, _, hl, _, _⟩
  · exact ⟨rfl, rfl, by simp⟩
  · have := src_of (z := z) (n := n) (c := c) (o := 0) hb (by rw [List.length_append]; omega)
    rw [List.drop_zero, List.take_append_of_le_length (by omega), List.take_of_length_le (by omega)] at this
    exact this

theorem appendS {E : Env} {t by' : Nat} (x : ElN E t e z by') (hs : SlN e z h s cs n bs) (hw : SrcN z h w xs m) (hc : xs.all cellV = true) (hn : (n + m) * (by' + 1) ≤ 1099511627776) :
    ∃ v' h' bs', appendX E h t t s w = some (v', h') ∧ SlN e z h' v' (cs ++ xs) (n + m) bs' ∧ ExtB bs h h' ∧ ∀ i, i ∈ bs' → i ∈ bs ∨ h.n ≤ i := by
  obtain ⟨hl, hf, hlen⟩ := hw
  by_cases h0 : m = 0
  · subst h0
    have e0 : xs = [] := List.eq_nil_of_length_eq_zero (by rw [hlen]; simp)
    subst e0
    have e3 : Nat.beq 0 0 = true := rfl
    rw [List.append_nil]
    rcases hs with ⟨rfl, rfl, rfl, rfl⟩ | ⟨b, m, rfl, hb, hm, hlt, rfl, hl2⟩
    · exact ⟨_, _, [], by simp only [appendX, x.und, hl, x.size, x.bytes, hf, e3, cond_true], .inl ⟨rfl, rfl, rfl, rfl⟩, .refl _ _, by simp⟩
    · refine ⟨.slice (some ⟨b, 0, none⟩) n n, h, [b], ?_, .inr ⟨b, m, rfl, hb, hm, hlt, rfl, hl2⟩, .refl _ _, by simp⟩
      have e4 : Nat.ble n n = true := (ble_iff _ _).2 (Nat.le_refl _)
      simp only [appendX, x.und, hl, x.size, x.bytes, hf, e3, cond_true, modeOf, hb, e4]
  · have e3 : Nat.beq m 0 = false := (beq_false _ _).2 h0
    rcases hs with ⟨rfl, rfl, rfl, rfl⟩ | ⟨b, m', rfl, hb, hm, hlt, rfl, hl2⟩
    · refine ⟨.slice (some ⟨h.n, 0, none⟩) m m, h.alloc (.cells ([] ++ xs) e (z + 3)), [h.n], ?_, .inr ⟨h.n, z + 3, by rw [Nat.zero_add], Hp.get_alloc_self _ _, .inr rfl, by rw [Hp.n_alloc]; omega, rfl, by rw [List.nil_append, hlen]; congr 1; omega⟩, (Ext.alloc h _).b _, by simp⟩
      simp only [appendX, x.und, hl, x.size, x.bytes, hf, e3, cond_false]
      exact x.growX h m [] xs (by rw [Nat.zero_add] at hn; exact hn)
    · have e1 : Nat.ble (n + m) n = false := by
        cases hc : Nat.ble (n + m) n with
        | false => rfl
        | true => have := (ble_iff _ _).1 hc; omega
      have e2 : Nat.ble (0 + n * (z + 1)) cs.length = true := (ble_iff _ _).2 (by omega)
      have hrow : rowOf h ⟨b, 0, none⟩ (n * (z + 1)) = some cs := by
        simp only [rowOf, hb, e2, cond_true, List.drop_zero]
        rw [List.take_of_length_le (by omega)]
      have hl' : (cs ++ xs).length = (n + m) * (z + 1) := by rw [List.length_append, hl2, hlen, Nat.add_mul]
      rcases hm with rfl | rfl
      · refine ⟨_, _, [h.n], ?_, .inr ⟨h.n, z + 3, rfl, Hp.get_alloc_self _ _, .inr rfl, by rw [Hp.n_alloc]; omega, rfl, hl'⟩, (Ext.alloc h _).b _, by simp⟩
        simp only [appendX, x.und, hl, x.size, x.bytes, hf, e3, cond_false, e1, hrow, hb, hc, cond_true]
        exact x.growX h (n + m) cs xs hn
      · refine ⟨.slice (some ⟨h.n, 0, none⟩) (n + m) (n + m), (h.put b .dead).alloc (.cells (cs ++ xs) e (z + 3)), [h.n], ?_, .inr ⟨h.n, z + 3, rfl, ?_, .inr rfl, by rw [Hp.n_alloc, Hp.n_put]; omega, rfl, hl'⟩, (ExtB.put h b .dead).trans ((Ext.alloc _ _).b _), by simp⟩
        · simp only [appendX, x.und, hl, x.size, x.bytes, hf, e3, cond_false, e1, hrow, hb, hc, cond_true]
          have := x.growX (h.put b .dead) (n + m) cs xs hn
          rw [Hp.n_put] at this
          simpa [Nat.beq_refl] using this
        · rw [Hp.get_alloc, Hp.n_put, if_pos rfl]
end

section
variable {E : Env} {fn : FuncId} {nt : Nat} {l : Kn} {h : Hp} {dr : Bool} {ops : Array Oper} {fin rest : List (Oper × List Oper)} {R : Kn → Hp → Prop} {lt : List Oper}
variable {d : Nat} {ty t : TypeId} {pos : String} {af : Array Edge} {gg : Option (Nat × Bool)} {x y : Operand} {v sv : Value}

/-- A load of a struct that is made again. -/
theorem ag_loadA {b o n : Nat} {cs : List Value} {e : TypeId} {m : Nat} (g : Gd ops l gg) (hx : evl l x = some (.pointer (some ⟨b, o, none⟩))) (hc : isA E t = true) (hn : E.size t = some n)
    (hg : h.get b = some (.cells cs e m)) (hv : o + n ≤ cs.length) (hl : lk l d = some (.agg ((cs.drop o).take n).toArray)) (hs : sameV 20 (.agg ((cs.drop o).take n).toArray) (.agg ((cs.drop o).take n).toArray) = true) :
    Again E ops l h ⟨some d, .load t x, ty, pos, af, gg⟩ :=
  .inr ⟨g, _, d, rfl, hl, hs, fun _ ag => by simp only [readX, ag.ev hx, loadX_agg hc hn hg hv]⟩

/-- s[k:] -/
theorem o_sliceF {lo : Int} {k : IntKind} (g : Gd ops l gg) (hd : Nat.blt d nt = true) (hx : evl l x = some sv) (hy : evl l y = some (.int k lo)) (hv : sliceX E h t sv (some (.int k lo)) none none = some v)
    (q : WL E fn nt dr ops fin rest ((d, v) :: l) h R) : WL E fn nt dr ops fin ((⟨some d, .slice t x (some y) none none, ty, pos, af, gg⟩, lt) :: rest) l h R :=
  wl_read g rfl (fun _ ag => by simp only [readX, ag.ev hx, Option.map_none, Option.map_some, ag.ev hy, hv]) (wn hd) q
theorem ag_sliceF {lo : Int} {k : IntKind} (g : Gd ops l gg) (hx : evl l x = some sv) (hy : evl l y = some (.int k lo)) (hv : sliceX E h t sv (some (.int k lo)) none none = some v) (hl : lk l d = some v) (hs : sameV 20 v v = true) :
    Again E ops l h ⟨some d, .slice t x (some y) none none, ty, pos, af, gg⟩ :=
  .inr ⟨g, v, d, rfl, hl, hs, fun _ ag => by simp only [readX, ag.ev hx, Option.map_none, Option.map_some, ag.ev hy, hv]⟩

theorem sliceF_own {e z by' b n m j : Nat} {vs : List Value} (el : ElN E t e z by') (hm : m = 0 ∨ m = z + 3) (hj : j ≤ n) (hvs : vs.length = n * (z + 1)) :
    ∃ a', ∀ h' : Hp, h'.get b = some (.cells vs e m) → sliceX E h' t (.slice (some ⟨b, 0, none⟩) n n) (some (.int .i64 (j : Nat))) none none = some (.slice (some a') (n - j) (n - j)) ∧ SrcN z h' (.slice (some a') (n - j) (n - j)) (vs.drop (j * (z + 1))) (n - j) := by
  have hb : boundsOk j n n = true := boundsOk_iff.2 ⟨by omega, by omega⟩
  have hmul : j * (z + 1) ≤ n * (z + 1) := Nat.mul_le_mul_right _ hj
  have h1 : natOf (.int .i64 (j : Nat)) = some j := by
    have := natOf_int (k := .i64) (j := (j : Int)) (by omega)
    simpa using this
  have hsrc : ∀ h' : Hp, h'.get b = some (.cells vs e m) → SrcN z h' (.slice (some ⟨b, j * (z + 1), none⟩) (n - j) (n - j)) (vs.drop (j * (z + 1))) (n - j) := fun h' hg => by
    have := src_of (z := z) (n := n - j) (c := n - j) (o := j * (z + 1)) hg (by rw [Nat.sub_mul]; omega)
    rw [List.take_of_length_le (by rw [List.length_drop, hvs, Nat.sub_mul]; exact Nat.le_refl _)] at this
    exact this
  rcases hm with rfl | rfl
  · by_cases e0 : n = j
    · subst e0
      refine ⟨⟨b, 0, none⟩, fun h' hg => ⟨?_, ?_⟩⟩
      · simp only [sliceX, el.und, el.size, optNat, h1, modeOf, hg, hb, cond_true, Nat.beq_refl, Nat.sub_self]
      · rw [Nat.sub_self, List.drop_eq_nil_of_le (by omega)]
        exact ⟨rfl, rfl, by simp⟩
    · have e2 : Nat.beq n j = false := (beq_false _ _).2 e0
      refine ⟨⟨b, j * (z + 1), none⟩, fun h' hg => ⟨?_, hsrc h' hg⟩⟩
      simp only [sliceX, el.und, el.size, optNat, h1, modeOf, hg, hb, cond_true, e2, cond_false, addr_add, Nat.zero_add]
  · refine ⟨⟨b, j * (z + 1), none⟩, fun h' hg => ⟨?_, hsrc h' hg⟩⟩
    simp only [sliceX, el.und, el.size, optNat, h1, modeOf, hg, hb, cond_true, Nat.beq_refl, Bool.and_self, addr_add, Nat.zero_add]
end

end Go.X
