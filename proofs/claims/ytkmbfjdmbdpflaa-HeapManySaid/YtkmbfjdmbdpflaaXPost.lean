/- The row's end of a call that reads its arguments and answers true; what slices of the arguments are. Conditions: none. -/
import Derived.Test.YtkmbfjdmbdpflaaXAll
import Derived.OpenVars
import Derived.Deep.Slices
namespace Go.X
open Go.ChangeShapes Go.WideShapes Go.ChangeAt Go.RowKit Go.Deep

section
variable {H : Type} {enc : TypeId × Value → H} {P : Program} {W W' : World}

/-- Each argument reads behind the call as it did. -/
theorem trodAll_below (hl : laidOutB P = true) (hb : Below W.heap.size W W') : ∀ {ts : List TypeId} {vs : List Value} {ds : List (DataW H)} {ps : List MemPlace}, ts.all (fun t => P.readableRec t && decide (t < P.types.size)) = true →
    (∀ x ∈ ps, x.block < W.heap.size) → DataW.TrodAll enc P W 0 (fun _ => true) true ts vs ds ps → DataW.TrodAll enc P W' 0 (fun b => decide (b < W.heap.size)) true ts vs ds ps
  | [], [], [], _, _, _, h => h
  | [], _ :: _, _, _, _, _, h => h.elim
  | [], [], _ :: _, _, _, _, h => h.elim
  | _ :: _, [], _, _, _, _, h => h.elim
  | _ :: _, _ :: _, [], _, _, _, h => h.elim
  | t :: ts, v :: vs, d :: ds, ps, hr, hlt, ⟨p, q, h1, h2, e⟩ => by
    subst e
    simp only [List.all_cons, Bool.and_eq_true, decide_eq_true_eq] at hr
    exact ⟨p, q, Below.trod hl hr.1.1 hr.1.2 h1 hb (fun x hx => hlt x (by simp [hx])), trodAll_below hl hb hr.2 (fun x hx => hlt x (by simp [hx])) h2, rfl⟩

theorem trodAll_len : ∀ {w : World} {base : Nat} {spare : Nat → Bool} {held : Bool} {ts : List TypeId} {vs : List Value} {ds : List (DataW H)} {ps : List MemPlace}, DataW.TrodAll enc P w base spare held ts vs ds ps → ds.length = ts.length
  | _, _, _, _, [], [], [], _, _ => rfl
  | _, _, _, _, [], _ :: _, _, _, h => h.elim
  | _, _, _, _, [], [], _ :: _, _, h => h.elim
  | _, _, _, _, _ :: _, [], _, _, h => h.elim
  | _, _, _, _, _ :: _, _ :: _, [], _, h => h.elim
  | _, _, _, _, t :: ts, v :: vs, d :: ds, ps, ⟨p, q, h1, h2, e⟩ => by simp [trodAll_len h2]

/-- The row's end. -/
theorem open_post {f : Func} {s : ChangeSpec} {fresh handsOn apart : Bool} {t : TypeId} {ds gs : List (DataW H)} {before : List MemPlace} {args : Array Value}
    (hl : laidOutB P = true) (hrd : f.params.toList.all (fun t => P.readableRec t && decide (t < P.types.size)) = true) (hv : s.vars = []) (hr : f.resultTypes = #[t]) (ht : P.underlying t = some .bool)
    (hs : ∀ ds : List (DataW H), ds.length = f.params.toList.length → (s.fn H ds).results = [.lit (.bool true)] ∧ (s.fn H ds).args = ds ∧ (s.fn H ds).vars = [])
    (hW : DataW.Whole enc P f.params.toList s.vars apart W args.toList ds gs before) (hb : Below W.heap.size W W') :
    s.post enc P f apart fresh handsOn false W args (.bool true) W' := by
  have hW' := hW
  obtain ⟨p, q, hA, hV, rfl, hfz, hnd⟩ := hW
  rw [hv] at hV
  obtain ⟨rfl, rfl⟩ := trodVars_none hV
  obtain ⟨h1, h2, h3⟩ := hs ds (trodAll_len hA)
  have hlt : ∀ x ∈ p, x.block < W.heap.size := fun x hx => hW'.lt x (by simp [hx])
  refine ⟨ds, [], _, [], p, [], hW', ?_, ?_, ?_, hb.frame _, fun h => by cases h⟩
  · simp only [List.append_nil, h1, hr]
    exact trodAll_mk1 (shut_bool ht true)
  · simp only [List.append_nil, h2]
    exact trodAll_below hl hb hrd hlt hA
  · simp only [List.append_nil, h3, hv]
    rfl

/-! Slices among the arguments -/

theorem okSlice {t e : TypeId} {r : Reach} {base : Nat} {v : Value} (ht : P.underlying t = some (.slice e)) (h : Value.okWide P W r base t v) :
    v = .slice none 0 0 ∨ ∃ a len cap, v = .slice (some a) len cap ∧ a.block < W.heap.size := by
  simp only [Value.okWide, ht, Cell.okWide] at h
  cases v <;> simp only [Cell.ok, ht] at h <;> try exact h.elim
  rename_i a len cap
  cases a with
  | none =>
    left
    cases len with
    | zero =>
      cases cap with
      | zero => rfl
      | succ n => exact h.elim
    | succ n => exact h.elim
  | some a =>
    right
    refine ⟨a, len, cap, rfl, ?_⟩
    obtain ⟨_, _, _, _, row, cells, hsh, _⟩ := h
    unfold World.shape? at hsh
    split at hsh
    · rename_i hx; exact (Array.getElem?_eq_some_iff.1 hx).1
    · cases hsh

/-- A slice of items of one cell. -/
theorem arg_slice {t e : TypeId} {r : Reach} {base : Nat} {v : Value} {d : DataW H} {ps : List MemPlace} (ht : P.underlying t = some (.slice e)) (hc : P.cellsOf e = 1) (hok : Value.okWide P W r base t v)
    (h : DataW.Trod enc P W 0 (fun _ => true) true t v d ps) (Q : Value → Prop) (hQ : ∀ (n : Nat) (u : Value) (x : DataW H × List MemPlace), DataW.trod enc P W 0 (fun _ => true) true n e [u] = some x → Q u)
    (hq : ∀ u, Q u → cellV u = true ∧ VRel (Mp.all W) u u) :
    ∃ a n c xs, v = .slice a n c ∧ VRel (Mp.all W) v v ∧ Src (Hp.all W) v xs ∧ (∀ u, u ∈ xs → Q u) := by
  obtain ⟨fuel, hf⟩ := h
  rcases okSlice ht hok with rfl | ⟨a, len, cap, rfl, hb⟩
  · exact ⟨none, 0, 0, [], rfl, .nils 0 0, ⟨rfl, rfl, rfl, fun a n c e => by cases e⟩, fun u hu => by cases hu⟩
  · rcases open_slice1 ht hc hf with ⟨h0, _⟩ | ⟨a', len', cap', m, n, V, D, Pl, e1, _, hle, _, hm, _, hx⟩
    · simp [Value.cells] at h0
    · simp only [Value.cells, List.cons.injEq, Value.slice.injEq, Option.some.injEq, and_true] at e1
      obtain ⟨rfl, rfl, rfl⟩ := e1
      simp only [if_true] at hm
      subst hm
      have hV : ∀ i, i < len → Q (V i) := fun i hi => hQ n (V i) _ (hx i (by omega)).2
      refine ⟨some a, len, m, (List.range len).map V, rfl, all_slice a len m hb, all_src (fun i hi => (hx i (by omega)).1) (fun i hi => (hq _ (hV i hi)).2) (fun i hi => (hq _ (hV i hi)).1) hb, fun u hu => ?_⟩
      obtain ⟨i, hi, rfl⟩ := List.mem_map.1 hu
      exact hV i (List.mem_range.1 hi)

theorem arg_ints {t e : TypeId} {r : Reach} {base : Nat} {v : Value} {d : DataW H} {ps : List MemPlace} (ht : P.underlying t = some (.slice e)) (he : P.underlying e = some (.int .i64)) (hc : P.cellsOf e = 1) (hok : Value.okWide P W r base t v)
    (h : DataW.Trod enc P W 0 (fun _ => true) true t v d ps) :
    ∃ a n c, ∃ xs : List Int, v = .slice a n c ∧ VRel (Mp.all W) v v ∧ Src (Hp.all W) v (xs.map fun x => .int .i64 x) ∧ ∀ x, x ∈ xs → -9223372036854775808 ≤ x ∧ x < 9223372036854775808 := by
  obtain ⟨a, n, c, xs, h1, h2, h3, h4⟩ := arg_slice ht hc hok h (fun u => ∃ x : Int, u = .int .i64 x ∧ -9223372036854775808 ≤ x ∧ x < 9223372036854775808) (fun m u x hx => by
    obtain ⟨n', h5, h6, hw⟩ := DataW.trod_int he hx
    have hw' : IntKind.i64.min ≤ n' ∧ n' ≤ IntKind.i64.max := by simpa [Lit.wf] using hw
    refine ⟨n', by simpa using h5, ?_, ?_⟩
    · have := hw'.1; simp [IntKind.min, IntKind.signed, IntKind.bits] at this; omega
    · have := hw'.2; simp [IntKind.max, IntKind.signed, IntKind.bits] at this; omega) (fun u ⟨x, e, _⟩ => by subst e; exact ⟨rfl, .int _ _⟩)
  have : ∃ ys : List Int, xs = ys.map (fun x => Value.int .i64 x) ∧ ∀ x, x ∈ ys → -9223372036854775808 ≤ x ∧ x < 9223372036854775808 := by
    clear h3 h2 h1
    induction xs with
    | nil => exact ⟨[], rfl, fun x hx => by cases hx⟩
    | cons u r ih =>
      obtain ⟨ys, e1, e2⟩ := ih fun u hu => h4 u (List.mem_cons_of_mem _ hu)
      obtain ⟨x, rfl, hx⟩ := h4 u (by simp)
      exact ⟨x :: ys, by rw [e1]; rfl, fun y hy => by
        rcases List.mem_cons.1 hy with rfl | hy
        · exact hx
        · exact e2 y hy⟩
  obtain ⟨ys, rfl, hy⟩ := this
  exact ⟨a, n, c, ys, h1, h2, h3, hy⟩

theorem arg_bools {t e : TypeId} {r : Reach} {base : Nat} {v : Value} {d : DataW H} {ps : List MemPlace} (ht : P.underlying t = some (.slice e)) (he : P.underlying e = some .bool) (hc : P.cellsOf e = 1) (hok : Value.okWide P W r base t v)
    (h : DataW.Trod enc P W 0 (fun _ => true) true t v d ps) :
    ∃ a n c, ∃ xs : List Bool, v = .slice a n c ∧ VRel (Mp.all W) v v ∧ Src (Hp.all W) v (xs.map fun x => .bool x) := by
  obtain ⟨a, n, c, xs, h1, h2, h3, h4⟩ := arg_slice ht hc hok h (fun u => ∃ x : Bool, u = .bool x) (fun m u x hx => by
    obtain ⟨b, h5, h6⟩ := DataW.trod_bool he hx
    exact ⟨b, by simpa using h5⟩) (fun u ⟨x, e⟩ => by subst e; exact ⟨rfl, .bool _⟩)
  have : ∃ ys : List Bool, xs = ys.map (fun x => Value.bool x) := by
    clear h3 h2 h1
    induction xs with
    | nil => exact ⟨[], rfl⟩
    | cons u r ih =>
      obtain ⟨ys, e1⟩ := ih fun u hu => h4 u (List.mem_cons_of_mem _ hu)
      obtain ⟨x, rfl⟩ := h4 u (by simp)
      exact ⟨x :: ys, by rw [e1]; rfl⟩
  obtain ⟨ys, rfl⟩ := this
  exact ⟨a, n, c, ys, h1, h2, h3⟩

theorem arg_int {t : TypeId} {r : Reach} {base : Nat} {v : Value} {d : DataW H} {ps : List MemPlace} (ht : P.underlying t = some (.int .i64)) (hok : Value.okWide P W r base t v)
    (h : DataW.Trod enc P W 0 (fun _ => true) true t v d ps) : ∃ n : Int, v = .int .i64 n ∧ -9223372036854775808 ≤ n ∧ n < 9223372036854775808 := by
  obtain ⟨n, rfl, _, _, hw⟩ := open_int ht hok h
  have hw' : IntKind.i64.min ≤ n ∧ n ≤ IntKind.i64.max := by simpa [Lit.wf] using hw
  refine ⟨n, rfl, ?_, ?_⟩
  · have := hw'.1; simp [IntKind.min, IntKind.signed, IntKind.bits] at this; omega
  · have := hw'.2; simp [IntKind.max, IntKind.signed, IntKind.bits] at this; omega

/-- A row of cells, as X has it. -/
theorem all_row {p : Addr} {n : Nat} {vs : List Value} (h : W.cells? 0 p n = some vs) (hn : 0 < n) (hv : ∀ v, v ∈ vs → VRel (Mp.all W) v v) :
    p.spot = none ∧ p.block < W.heap.size ∧ ∃ cs e, (Hp.all W).get p.block = some (.cells cs e 1) ∧ p.off + n ≤ cs.length ∧ (cs.drop p.off).take n = vs := by
  obtain ⟨_, hlen, hc⟩ := World.cells?_some h
  have hcell : ∀ i, i < n → W.cell? (p.add i) = some (vs[i]?.getD .nilFunc) := fun i hi => by
    have := hc i (by omega)
    rw [this]
    simp [List.getElem?_eq_getElem (show i < vs.length by omega)]
  have hmem : ∀ i, i < n → vs[i]?.getD .nilFunc ∈ vs := fun i hi => getD_mem (by omega)
  obtain ⟨hs, hb, cs, e, hg, _⟩ := all_cell (hcell 0 hn) (hv _ (hmem 0 hn))
  have ea : p.add 0 = p := by simp [Addr.add]
  rw [ea] at hs hb hg
  obtain ⟨b, o, sp⟩ := p
  simp only at hs hg hb
  subst hs
  have hat : ∀ i, i < n → cs[o + i]? = some (vs[i]?.getD .nilFunc) := fun i hi => by
    obtain ⟨_, _, cs', e', hg', h4⟩ := all_cell (hcell i hi) (hv _ (hmem i hi))
    rw [addr_add] at hg' h4
    simp only at hg' h4
    rw [hg] at hg'
    cases hg'
    exact h4
  have hfit : o + n ≤ cs.length := by
    have := (List.getElem?_eq_some_iff.1 (hat (n - 1) (by omega))).1
    omega
  refine ⟨rfl, hb, cs, e, hg, hfit, ?_⟩
  apply List.ext_getElem?
  intro i
  by_cases hi : i < n
  · rw [List.getElem?_take_of_lt hi, List.getElem?_drop, hat i hi, List.getElem?_eq_getElem (show i < vs.length by omega)]
    rfl
  · rw [List.getElem?_eq_none (by simp; omega), List.getElem?_eq_none (by omega)]

end

end Go.X
