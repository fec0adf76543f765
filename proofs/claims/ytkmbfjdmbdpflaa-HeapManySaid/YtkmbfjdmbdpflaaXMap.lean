/- The calculus: maps keyed by integers; results of several values; blocks that are values. Conditions: none. -/
import Derived.Test.YtkmbfjdmbdpflaaXWS
namespace Go.X

/-- A map's entries: keys, values, and when each was laid. -/
abbrev Ms := List (Int × Value × Nat)
def ent (x : Int × Value × Nat) : MapEntry := { key := .int .i64 x.1, val := x.2.1, born := x.2.2 }

def fi (k : Int) : Ms → Nat → Option (Nat × Value)
  | [], _ => none
  | (a, v, _) :: r, i => if a = k then some (i, v) else fi k r (i + 1)

def getI (M : Ms) (k : Int) : Option Value := (fi k M 0).map (·.2)

theorem keyEq_int {E : Env} {h : Hp} {kt : TypeId} (hk : E.und kt = some (.int .i64)) (a b : Int) : keyEqX E h kt (.int .i64 a) (.int .i64 b) = some (decide (a = b)) := by
  simp [keyEqX, hk, keyFits, kindEq, sameV]

theorem findX_int {E : Env} {h : Hp} {kt : TypeId} (hk : E.und kt = some (.int .i64)) (k : Int) : ∀ (M : Ms) (i : Nat), findX E h kt (.int .i64 k) (M.map ent) i = some (fi k M i)
  | [], _ => rfl
  | (a, v, n) :: r, i => by
    simp only [List.map_cons, findX, ent, keyEq_int hk, fi]
    by_cases e : a = k
    · subst e; simp
    · have : decide (k = a) = false := by simp; exact fun x => e x.symm
      simp only [this, if_neg e]
      exact findX_int hk k r (i + 1)

theorem fi_some {k : Int} : ∀ {M : Ms} {i j : Nat} {v : Value}, fi k M i = some (j, v) → ∃ p, j = i + p ∧ p < M.length ∧ ∃ n, M[p]? = some (k, v, n)
  | [], _, _, _, h => by simp [fi] at h
  | (a, u, n) :: r, i, j, v, h => by
    simp only [fi] at h
    by_cases e : a = k
    · rw [if_pos e] at h
      cases h
      exact ⟨0, rfl, by simp, n, by simp [e]⟩
    · rw [if_neg e] at h
      obtain ⟨p, h1, h2, m, h3⟩ := fi_some h
      exact ⟨p + 1, by omega, by simp; omega, m, by simpa using h3⟩

/-- A value laid under a key. -/
def putI (M : Ms) (k : Int) (v : Value) (cl : Nat) : Ms × Nat := match fi k M 0 with
  | some (i, _) => (M.modify i fun x => (k, v, x.2.2), cl)
  | none => (M ++ [(k, v, cl)], cl + 1)

theorem fi_modify {k k' : Int} {v : Value} : ∀ (M : Ms) (s p : Nat) (u : Value), fi k M s = some (s + p, u) →
    (fi k' (M.modify p fun x => (k, v, x.2.2)) s).map (·.2) = if k' = k then some v else (fi k' M s).map (·.2)
  | [], _, _, _, h => by simp [fi] at h
  | (a, w, n) :: r, s, p, u, h => by
    simp only [fi] at h
    by_cases e : a = k
    · rw [if_pos e] at h
      have hp : p = 0 := by simp at h; omega
      subst hp
      simp only [List.modify_zero_cons, fi]
      by_cases e' : k = k'
      · subst e'; simp
      · rw [if_neg e', if_neg (fun x => e' x.symm), if_neg (fun x => e' (e ▸ x))]
    · rw [if_neg e] at h
      cases p with
      | zero =>
        obtain ⟨q, h1, _⟩ := fi_some h
        omega
      | succ p =>
        simp only [List.modify_succ_cons, fi]
        by_cases e' : a = k'
        · rw [if_pos e', if_pos e', if_neg (fun x => e (e'.trans x))]
        · rw [if_neg e', if_neg e']
          exact fi_modify r (s + 1) p u (by rw [h]; congr 2; omega)

theorem fi_append {k k' : Int} {v : Value} {c : Nat} : ∀ (M : Ms) (s : Nat), fi k M s = none → (fi k' (M ++ [(k, v, c)]) s).map (·.2) = if k' = k then some v else (fi k' M s).map (·.2)
  | [], s, _ => by
    simp only [List.nil_append, fi]
    by_cases e : k = k'
    · subst e; simp
    · rw [if_neg e, if_neg (fun x => e x.symm)]
  | (a, w, n) :: r, s, h => by
    simp only [fi] at h
    by_cases e : a = k
    · rw [if_pos e] at h; cases h
    · rw [if_neg e] at h
      simp only [List.cons_append, fi]
      by_cases e' : a = k'
      · rw [if_pos e', if_pos e', if_neg (fun x => e (e'.trans x))]
      · rw [if_neg e', if_neg e']
        exact fi_append r (s + 1) h

theorem get_put (M : Ms) (k k' : Int) (v : Value) (cl : Nat) : getI (putI M k v cl).1 k' = if k' = k then some v else getI M k' := by
  unfold putI getI
  cases h : fi k M 0 with
  | none => exact fi_append M 0 h
  | some x =>
    obtain ⟨i, u⟩ := x
    exact fi_modify M 0 i u (by rw [h, Nat.zero_add])

section
variable {E : Env} {fn : FuncId} {nt : Nat} {l l' : Kn} {h h' : Hp} {dr : Bool} {ops : Array Oper} {fin rest : List (Oper × List Oper)} {R : Kn → Hp → Prop} {lt : List Oper}
variable {d : Nat} {ty : TypeId} {pos : String} {af : Array Edge} {gg : Option (Nat × Bool)} {x y z : Operand} {v u : Value} {t : TypeId}

/-- The map's type, its keys' (integers) and its values'. -/
structure MapT (E : Env) (t kt et : TypeId) : Prop where
  und : E.und t = some (.map kt et)
  key : E.und kt = some (.int .i64)

theorem keyOk_int {kt : TypeId} (hk : E.und kt = some (.int .i64)) (k : Int) : keyOkX E kt (.int .i64 k) = true := by simp [keyOkX, hk, keyFits, kindEq]

theorem lookup_some {kt et : TypeId} {M : Ms} {cl r : Nat} {k : Int} {zv : Value} (m : MapT E t kt et) (hg : h.get r = some (.map (M.map ent) cl)) (hz : E.zero et = some zv) (ok : Bool) :
    lookupX E h t (.map (some r)) (.int .i64 k) ok = some (match getI M k with | some v => cond ok (.tuple #[v, .bool true]) v | none => cond ok (.tuple #[zv, .bool false]) zv) := by
  simp only [lookupX, m.und, mapOf, hg, keyOk_int m.key, cond_true, findX_int m.key, getI]
  cases fi k M 0 with
  | none => simp [hz]
  | some x => rfl

theorem o_lookup {kt et : TypeId} {M : Ms} {cl r : Nat} {k : Int} {zv : Value} (m : MapT E t kt et) (g : Gd ops l gg) (hd : Nat.blt d nt = true) (hx : evl l x = some (.map (some r))) (hy : evl l y = some (.int .i64 k))
    (hg : h.get r = some (.map (M.map ent) cl)) (hz : E.zero et = some zv) (q : WL E fn nt dr ops fin rest ((d, (getI M k).getD zv) :: l) h R) :
    WL E fn nt dr ops fin ((⟨some d, .lookup t x y false, ty, pos, af, gg⟩, lt) :: rest) l h R :=
  wl_read g rfl (fun _ ag => by
    simp only [readX, ag.ev hx, ag.ev hy, lookup_some m hg hz]
    cases getI M k <;> rfl) (wn hd) q

theorem o_mapUpdate {kt et : TypeId} {M : Ms} {cl r : Nat} {k : Int} (m : MapT E t kt et) (g : Gd ops l gg) (hx : evl l x = some (.map (some r))) (hy : evl l y = some (.int .i64 k)) (hz : evl l z = some v)
    (hg : h.get r = some (.map (M.map ent) cl)) (ha : ∀ q, q ∈ lt → Again E ops l (h.put r (.map ((putI M k v cl).1.map ent) (putI M k v cl).2)) q)
    (q : WL E fn nt dr ops fin rest l (h.put r (.map ((putI M k v cl).1.map ent) (putI M k v cl).2)) R) :
    WL E fn nt dr ops fin ((⟨none, .mapUpdate t x y z, ty, pos, af, gg⟩, lt) :: rest) l h R := by
  refine wl_none g rfl (fun _ ag => ?_) wn0 ha q
  simp only [writeX, ag.ev hx, ag.ev hy, ag.ev hz, mapPutX, m.und, hg, keyOk_int m.key, cond_true, findX_int m.key, putI]
  cases hf : fi k M 0 with
  | none => simp [ent]
  | some x =>
    obtain ⟨i, w⟩ := x
    simp only [Option.some.injEq, Nx.skip.injEq]
    congr 2
    apply List.ext_getElem?
    intro j
    simp only [List.getElem?_modify, List.getElem?_map]
    cases M[j]? with
    | none => rfl
    | some y => by_cases e : i = j <;> simp [e, ent]

theorem o_makeMap (g : Gd ops l gg) (hd : Nat.blt d nt = true) (q : WL E fn nt dr ops fin rest ((d, .map (some h.n)) :: l) (h.alloc (.map (([] : Ms).map ent) 0)) R) :
    WL E fn nt dr ops fin ((⟨some d, .makeMap t none, ty, pos, af, gg⟩, lt) :: rest) l h R :=
  wl_alloc (f := fun i => .map (some i)) g rfl (fun _ _ => rfl) (wn hd) q

theorem o_eqm {a : Option Nat} {ty2 : TypeId} {kt et : TypeId} (g : Gd ops l gg) (hd : Nat.blt d nt = true) (hx : evl l x = some (.map a)) (hy : evl l y = some (.map none)) (hb : E.und t = some (.map kt et))
    (q : WL E fn nt dr ops fin rest ((d, .bool a.isNone) :: l) h R) : WL E fn nt dr ops fin ((⟨some d, .binOp .eql t x y ty2, ty, pos, af, gg⟩, lt) :: rest) l h R :=
  wl_read g rfl (fun _ ag => by
    cases a <;> simp only [readX, ag.ev hx, ag.ev hy, binX, equalX, hb, boolV_eq, Option.isNone]) (wn hd) q

theorem o_extract {vs : Array Value} {i : Nat} (g : Gd ops l gg) (hd : Nat.blt d nt = true) (hx : evl l x = some (.tuple vs)) (hv : vs[i]? = some v) (q : WL E fn nt dr ops fin rest ((d, v) :: l) h R) :
    WL E fn nt dr ops fin ((⟨some d, .extract x i, ty, pos, af, gg⟩, lt) :: rest) l h R :=
  wl_read g rfl (fun _ ag => by simp only [readX, ag.ev hx, hv]) (wn hd) q

/-- A struct, or an array, stored over the whole of its block. -/
theorem o_storeA {b n : Nat} {cs : List Value} {vs : Array Value} {e : TypeId} {m : Nat} (g : Gd ops l gg) (hx : evl l x = some (.pointer (some ⟨b, 0, none⟩))) (hy : evl l y = some (.agg vs)) (hc : vs.toList.all cellV = true) (ht : E.size t = some n) (hn : vs.size = n)
    (hg : h.get b = some (.cells cs e m)) (hm : m ≠ 1) (hv : cs.length = n) (ha : ∀ q, q ∈ lt → Again E ops l (h.put b (.cells vs.toList e m)) q)
    (q : WL E fn nt dr ops fin rest l (h.put b (.cells vs.toList e m)) R) :
    WL E fn nt dr ops fin ((⟨none, .store t x y, ty, pos, af, gg⟩, lt) :: rest) l h R := by
  refine wl_none g rfl (fun _ ag => ?_) wn0 ha q
  have e1 : Nat.ble vs.toList.length cs.length = true := (ble_iff _ _).2 (by simp; omega)
  have e2 : Nat.beq m 1 = false := (beq_false _ _).2 hm
  have e3 : Nat.beq vs.size n = true := (beq_iff _ _).2 hn
  have hd : cs.drop vs.toList.length = [] := by rw [List.drop_eq_nil_iff]; simp; omega
  simp only [writeX, ag.ev hx, ag.ev hy, storeX, ht, Value.cells, e3, hc, Bool.and_true, cond_true, storeRow, hg, Nat.zero_add, e1, e2, Bool.not_false, List.take_zero, List.nil_append, Nat.zero_add, hd, List.append_nil]

end

end Go.X
