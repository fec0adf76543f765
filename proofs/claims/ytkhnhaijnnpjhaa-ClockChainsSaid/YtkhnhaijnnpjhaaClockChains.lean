/- ClockChains: the call answers true, whatever the world and the tape; the arguments read as they read before. Conditions: none. -/
import Derived.Test.YtkhnhaijnnpjhaaLb
namespace Go.Proofs.Ytkhnhaijnnpjhaa
open Go.ChangeShapes Go.WideShapes Go.ChangeAt Go.RowKit Go.Deep Go.X

set_option maxRecDepth 100000

theorem acts_slice : Try.prog.underlying 38 = some (.slice 47) := by kernel_rfl
theorem act_cells : Try.prog.cellsOf 47 = 3 := by kernel_rfl
theorem c1_22 : Try.prog.cellsOf 22 = 1 := by kernel_rfl
noncomputable def actFs : Array Field := match Try.prog.underlying 47 with | some (.struct fs) => fs | _ => #[]
theorem act_struct : Try.prog.underlying 47 = some (.struct actFs) := by kernel_rfl

theorem act_rd {h : Hp} {cs : List Value} (x : Rd Try.prog h 47 cs) : ∃ (kd at' : Int) (a3 : Option Addr) (n3 c3 : Nat), cs = [iV kd, iV at', .slice a3 n3 c3] ∧ ActsK h a3 n3 := by
  have hl := (x.inv_struct act_struct).1
  rw [act_cells] at hl
  obtain ⟨n0, e0, _⟩ := x.fld_int act_struct 0 0 3 rfl ⟨rfl, rfl⟩ clk_int clk_c3
  obtain ⟨n1, e1, _⟩ := x.fld_int act_struct 1 1 3 rfl ⟨rfl, rfl⟩ clk_int clk_c3
  have h2 := x.fld act_struct 2 2 22 rfl ⟨rfl, rfl⟩
  rw [c1_22] at h2
  match cs, hl with
  | [a0, a1, a2], _ =>
    obtain ⟨a3, n3, c3, e2, hk⟩ := marks_in (v := a2) h2
    simp only [List.getElem?_cons_zero, List.getElem?_cons_succ, Option.some.injEq] at e0 e1
    exact ⟨n0, n1, a3, n3, c3, by rw [e0, e1, e2], hk⟩

theorem acts_at {H : Type} {enc : TypeId × Value → H} {W : World} {r : Reach} {base : Nat} {v : Value} {d : DataW H} {ps : List MemPlace} (hok : Value.okWide Try.prog W r base 38 v) (h : DataW.Trod enc Try.prog W 0 (fun _ => true) true 38 v d ps) :
    ∃ a n c, v = .slice a n c ∧ VRel (Mp.all W) v v ∧ ActsC (Hp.all W) a n := by
  obtain ⟨hv, _, _, _, _, x⟩ := arg_rd_slice acts_slice hok h
  obtain ⟨a, n, c, e, _, _, _, _, hrow⟩ := x.inv_slice acts_slice (by rw [act_cells]; omega)
  simp only [List.cons.injEq, and_true] at e
  subst e
  rcases hrow with rfl | ⟨b, o, xs, u, rfl, hb, hg, hl, hr⟩
  · exact ⟨a, 0, c, rfl, hv, .inl rfl⟩
  · rw [act_cells] at hl hr
    refine ⟨_, n, c, rfl, hv, .inr ⟨b, o, xs, u, 1, rfl, hg, hb, fun i hi => ?_⟩⟩
    obtain ⟨kd, at', a3, n3, c3, ha, hk⟩ := act_rd (hr i hi)
    have hlen := congrArg List.length ha
    simp only [List.length_take, List.length_drop, List.length_cons, List.length_nil] at hlen
    exact ⟨by omega, kd, at', a3, n3, c3, ha, hk⟩

theorem clockChains_lifted (os : Os) (started : os.Started) (H : Type) (enc : TypeId × Value → H) :
    ReturnsInHanded {} Try.checked os 5 .any (Rows.clockChainsSpec.pre6 enc Try.prog Try.f5 Rows.clockChainsRow.domain false) (Rows.clockChainsSpec.post enc Try.prog Try.f5 false true false false) := by
  refine returnsInHanded_of_change (C := Try.checked) clk_own started (by kernel_rfl) Try.func5
    (ChangeSpec.witness6 (enc := enc) (C := Try.checked) false ⟨#[], #[.slice none 0 0], []⟩ 8 (by kernel_rfl) (by kernel_rfl) (by kernel_rfl) (by kernel_rfl)) ?_
  intro W base args ds gs before hval0 hW hcnd _
  have hW' := hW
  obtain ⟨p, q, hA, hV, hp, hfz, hnd⟩ := hW'
  obtain ⟨v0, d0, rfl, rfl, h0⟩ := trodAll_one hA
  obtain ⟨a, n0, c0, rfl, r0, hs0⟩ := acts_at (hval0 0 38 v0 (by kernel_rfl) rfl) h0
  exact (open_below clkE clk_mixed (args := [.slice a n0 c0]) (VsRel.cons r0 (.nil _)) (c5 hs0)).mono fun e W' ⟨he, hb⟩ =>
    ⟨_, he, open_post clk_laid (by kernel_rfl) rfl rfl clk_bool (fun ds hds => by
      match ds, hds with
      | [_], _ => exact ⟨rfl, rfl, rfl⟩) hW hb⟩

theorem clockChains_holds : Rows.ClockChainsSaid :=
  OpenClaim.holds_of_wide 5 Try.f5 rfl rfl rfl rfl rfl rfl rfl ⟨rfl, rfl, rfl, rfl, rfl⟩ rfl rfl rfl rfl rfl (by kernel_rfl) Try.func5 (by kernel_rfl)
    (of_decide_eq_true (by kernel_rfl)) (by unfold Func.isWrapper; first | (rw [if_pos (by decide +kernel)]; kernel_rfl) | (rw [if_neg (by decide +kernel)]; exact ⟨rfl, rfl⟩))
    (fun os started H enc _ => clockChains_lifted os started H enc)


end Go.Proofs.Ytkhnhaijnnpjhaa
