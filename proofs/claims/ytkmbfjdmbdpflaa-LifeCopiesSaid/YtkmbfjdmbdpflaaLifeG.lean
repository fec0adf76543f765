/- Chapter 9: the arguments of its laws, as X has them. Conditions: none. -/
import Derived.Test.YtkmbfjdmbdpflaaLifeP
import Derived.Test.YtkmbfjdmbdpflaaXPost
namespace Go.Proofs.Ytkmbfjdmbdpflaa
open Go.ChangeShapes Go.WideShapes Go.ChangeAt Go.RowKit Go.Deep Go.X

set_option maxRecDepth 100000

def actFs : Array Field := #[{ name := "Kind", type := 3, offset := 0, embedded := false, tag := "", pkgPath := "", byteOffset := 0 }, { name := "At", type := 3, offset := 1, embedded := false, tag := "", pkgPath := "", byteOffset := 8 },
  { name := "Which", type := 3, offset := 2, embedded := false, tag := "", pkgPath := "", byteOffset := 16 }, { name := "Is", type := 4, offset := 3, embedded := false, tag := "", pkgPath := "", byteOffset := 24 }]
theorem act_struct : Try.prog.underlying 37 = some (.struct actFs) := by kernel_rfl
theorem life_int : Try.prog.underlying 3 = some (.int .i64) := by kernel_rfl
theorem life_bool : Try.prog.underlying 4 = some .bool := by kernel_rfl
theorem life_cell3 : Try.prog.cellsOf 3 = 1 := by kernel_rfl
theorem life_cell4 : Try.prog.cellsOf 4 = 1 := by kernel_rfl
theorem act_cells : Try.prog.cellsOf 37 = 4 := by kernel_rfl
theorem acts_slice : Try.prog.underlying 31 = some (.slice 37) := by kernel_rfl
theorem bools_slice : Try.prog.underlying 30 = some (.slice 4) := by kernel_rfl
theorem ints_slice : Try.prog.underlying 22 = some (.slice 3) := by kernel_rfl
theorem life_own : ownKnob Try.prog.godebug = none := by kernel_rfl
theorem life_laid : laidOutB Try.prog = true := by kernel_rfl

section
variable {H : Type} {enc : TypeId × Value → H} {W : World} {r : Reach} {base : Nat}

/-- An act that is read. -/
theorem act_cells_of {n : Nat} {cs : List Value} {x : DataW H × List MemPlace} (h : DataW.trod enc Try.prog W 0 (fun _ => true) true n 37 cs = some x) :
    ∃ kd ac wh is, cs = [Value.int .i64 kd, .int .i64 ac, .int .i64 wh, .bool is] := by
  obtain ⟨xs, m, _, _, hlen, hxs, hf⟩ := DataW.trod_struct act_struct h
  rw [act_cells] at hlen
  have hx : ∀ i, i < 4 → ∃ y, xs[i]? = some y := fun i hi => ⟨_, List.getElem?_eq_getElem (by rw [hxs]; exact hi)⟩
  obtain ⟨y0, e0⟩ := hx 0 (by omega)
  obtain ⟨y1, e1⟩ := hx 1 (by omega)
  obtain ⟨y2, e2⟩ := hx 2 (by omega)
  obtain ⟨y3, e3⟩ := hx 3 (by omega)
  have g0 : DataW.trod enc Try.prog W 0 (fun _ => true) true m 3 ((cs.drop 0).take (Try.prog.cellsOf 3)) = xs[0]? := hf 0 _ rfl
  have g1 : DataW.trod enc Try.prog W 0 (fun _ => true) true m 3 ((cs.drop 1).take (Try.prog.cellsOf 3)) = xs[1]? := hf 1 _ rfl
  have g2 : DataW.trod enc Try.prog W 0 (fun _ => true) true m 3 ((cs.drop 2).take (Try.prog.cellsOf 3)) = xs[2]? := hf 2 _ rfl
  have g3 : DataW.trod enc Try.prog W 0 (fun _ => true) true m 4 ((cs.drop 3).take (Try.prog.cellsOf 4)) = xs[3]? := hf 3 _ rfl
  simp only [life_cell3, life_cell4] at g0 g1 g2 g3
  rw [e0] at g0; rw [e1] at g1; rw [e2] at g2; rw [e3] at g3
  obtain ⟨k0, q0, _⟩ := DataW.trod_int life_int g0
  obtain ⟨k1, q1, _⟩ := DataW.trod_int life_int g1
  obtain ⟨k2, q2, _⟩ := DataW.trod_int life_int g2
  obtain ⟨k3, q3, _⟩ := DataW.trod_bool life_bool g3
  match cs, hlen with
  | [a, b, c, d], _ =>
    simp only [List.drop_zero, List.drop_succ_cons, List.take_succ_cons, List.take_zero, List.cons.injEq, and_true] at q0 q1 q2 q3
    exact ⟨k0, k1, k2, k3, by rw [q0, q1, q2, q3]⟩

theorem acts_at {v : Value} {d : DataW H} {ps : List MemPlace} (hok : Value.okWide Try.prog W r base 31 v) (h : DataW.Trod enc Try.prog W 0 (fun _ => true) true 31 v d ps) :
    ∃ a n c, v = .slice a n c ∧ VRel (Mp.all W) v v ∧ ActsAt (Hp.all W) a n := by
  obtain ⟨fuel, hf⟩ := h
  rcases okSlice acts_slice hok with rfl | ⟨a, len, cap, rfl, hb⟩
  · exact ⟨none, 0, 0, rfl, .nils 0 0, .inl rfl⟩
  · rcases open_slice acts_slice hf with ⟨h0, _⟩ | ⟨a', len', cap', m, n, D, Pl, e1, _, hle, _, hm, _, hx⟩
    · simp [Value.cells] at h0
    · simp only [Value.cells, List.cons.injEq, Value.slice.injEq, Option.some.injEq, and_true] at e1
      obtain ⟨rfl, rfl, rfl⟩ := e1
      simp only [if_true] at hm
      subst hm
      refine ⟨some a, len, m, rfl, all_slice a len m hb, ?_⟩
      by_cases hn : len = 0
      · exact .inl hn
      · have hrow : ∀ i, i < len → ∃ cs', (i = 0 → a.spot = none) ∧ W.cells? 0 (a.add (i * 4)) 4 = some cs' ∧ ∃ kd ac wh is, cs' = [Value.int .i64 kd, .int .i64 ac, .int .i64 wh, .bool is] := fun i hi => by
          obtain ⟨cs', h1, h2⟩ := hx i (by omega)
          rw [act_cells] at h1
          obtain ⟨kd, ac, wh, is, e⟩ := act_cells_of h2
          obtain ⟨hs, _⟩ := all_row h1 (by omega) (by
            subst e
            intro v hv
            simp only [List.mem_cons, List.not_mem_nil, or_false] at hv
            rcases hv with rfl | rfl | rfl | rfl <;> first | exact .int _ _ | exact .bool _)
          refine ⟨cs', fun hi0 => ?_, h1, kd, ac, wh, is, e⟩
          subst hi0
          simpa [Addr.add] using hs
        obtain ⟨_, hs0, _⟩ := hrow 0 (by omega)
        obtain ⟨b, o, sp⟩ := a
        have hs0 := hs0 rfl
        simp only at hs0
        subst hs0
        have key : ∀ i, i < len → ∃ cs e, (Hp.all W).get b = some (.cells cs e 1) ∧ o + i * 4 + 4 ≤ cs.length ∧ ∃ kd ac wh is, (cs.drop (o + i * 4)).take 4 = [Value.int .i64 kd, .int .i64 ac, .int .i64 wh, .bool is] := fun i hi => by
          obtain ⟨cs', _, h1, kd, ac, wh, is, e⟩ := hrow i hi
          obtain ⟨_, _, cs, t, h2, h3, h4⟩ := all_row h1 (by omega) (by
            subst e
            intro v hv
            simp only [List.mem_cons, List.not_mem_nil, or_false] at hv
            rcases hv with rfl | rfl | rfl | rfl <;> first | exact .int _ _ | exact .bool _)
          rw [addr_add] at h2 h3 h4
          exact ⟨cs, t, h2, h3, kd, ac, wh, is, h4.trans e⟩
        obtain ⟨cs, e, hg, _⟩ := key 0 (by omega)
        refine .inr ⟨b, o, cs, e, 1, rfl, hg, show b < max W.heap.size 256 by simp only at hb; omega, fun i hi => ?_⟩
        obtain ⟨cs2, e2, hg2, h3, h4⟩ := key i hi
        rw [hg] at hg2
        cases hg2
        exact ⟨h3, h4⟩

end

end Go.Proofs.Ytkmbfjdmbdpflaa
