/- BitsSteps: the call answers true, whatever the world and the tape, where the listed table lies as the program lays it; the arguments read as they read before; the card. Conditions: the table (math/bits.deBruijn64tab), tied to the program's text. -/
import Derived.Test.YtgcapnlfkomgpaaDoorLc
import Derived.Test.YtgcapnlfkomgpaaDoorLb
namespace Go.Proofs.YtgcapnlfkomgpaaDoor
open Go.ChangeShapes Go.WideShapes Go.ChangeAt Go.RowKit Go.Deep Go.X

set_option maxRecDepth 100000

theorem edges_slice : Tryd.prog.underlying 43 = some (.slice 76) := by kernel_rfl
theorem edge_cells : Tryd.prog.cellsOf 76 = 2 := by kernel_rfl
noncomputable def edgeFs : Array Field := match Tryd.prog.underlying 76 with | some (.struct fs) => fs | _ => #[]
theorem edge_struct : Tryd.prog.underlying 76 = some (.struct edgeFs) := by kernel_rfl

theorem edge_rd {h : Hp} {cs : List Value} (x : Rd Tryd.prog h 76 cs) : ∃ act : Int × Int, cs = [iV act.1, iV act.2] := by
  have hl := (x.inv_struct edge_struct).1
  rw [edge_cells] at hl
  obtain ⟨n0, e0, _⟩ := x.fld_int edge_struct 0 0 3 rfl ⟨rfl, rfl⟩ bits_int bits_c3
  obtain ⟨n1, e1, _⟩ := x.fld_int edge_struct 1 1 3 rfl ⟨rfl, rfl⟩ bits_int bits_c3
  match cs, hl with
  | [a0, a1], _ =>
    simp only [List.getElem?_cons_zero, List.getElem?_cons_succ, Option.some.injEq] at e0 e1
    exact ⟨(n0, n1), by rw [e0, e1]⟩

theorem edges_at {H : Type} {enc : TypeId × Value → H} {W : World} {r : Reach} {base : Nat} {v : Value} {d : DataW H} {ps : List MemPlace} (hok : Value.okWide Tryd.prog W r base 43 v) (h : DataW.Trod enc Tryd.prog W 0 (fun _ => true) true 43 v d ps) :
    ∃ a n c, v = .slice a n c ∧ VRel (Mp.all W) v v ∧ ActsB (Hp.all W) a n := by
  obtain ⟨hv, _, _, _, _, x⟩ := arg_rd_slice edges_slice hok h
  obtain ⟨a, n, c, e, _, _, _, _, hrow⟩ := x.inv_slice edges_slice (by rw [edge_cells]; omega)
  simp only [List.cons.injEq, and_true] at e
  subst e
  rcases hrow with rfl | ⟨b, o, xs, u, rfl, hb, hg, hl, hr⟩
  · exact ⟨a, 0, c, rfl, hv, .inl rfl⟩
  · rw [edge_cells] at hl hr
    refine ⟨_, n, c, rfl, hv, .inr ⟨b, o, xs, u, 1, rfl, hg, hb, fun i hi => ?_⟩⟩
    obtain ⟨act, ha⟩ := edge_rd (hr i hi)
    have hlen := congrArg List.length ha
    simp only [List.length_take, List.length_drop, List.length_cons, List.length_nil] at hlen
    exact ⟨by omega, act.1, act.2, ha⟩

theorem bitsSteps_lifted (os : Os) (started : os.Started) (H : Type) (enc : TypeId × Value → H) :
    ReturnsInHanded {} Tryd.checked os 5 .any (fun w args => (Rows.bitsStepsSpec.pre enc Tryd.prog Tryd.f5 [] false w args ∧ laidMetH Tryd.prog Rows.bitsStepsRow.laid w) ∧ sizedMet enc Tryd.prog Tryd.f5 (OpenSpec.ofChange Rows.bitsStepsSpec) false w args)
      (Rows.bitsStepsSpec.post enc Tryd.prog Tryd.f5 false true false false) := by
  refine returnsInHanded_of_change_and (C := Tryd.checked) (X := fun w _ => laidMetH Tryd.prog Rows.bitsStepsRow.laid w) (fun _ _ _ hh h => h.of_heap hh) bits_own started (by kernel_rfl) Tryd.func5
    (ChangeSpec.witness_shaped (enc := enc) (C := Tryd.checked) (os := os) (X := fun w _ => laidMetH Tryd.prog Rows.bitsStepsRow.laid w) false (World.doorLaid Tryd.prog 400 os) #[.int .i64 0, .slice none 0 0] 8 rfl (World.shaped_of_RefB (by kernel_rfl) (by kernel_rfl)) (by kernel_rfl) (by kernel_rfl) (by kernel_rfl) (bits_door os _)) ?_
  intro W base args ds gs before hval0 hW _ _ hL _
  have hW' := hW
  obtain ⟨p, q, hA, hV, hp, hfz, hnd⟩ := hW'
  obtain ⟨v0, v1, d0, d1, p0, p1, rfl, rfl, rfl, h0, h1⟩ := trodAll_two hA
  obtain ⟨k0, rfl, _⟩ := arg_int bits_int (hval0 0 3 v0 (by kernel_rfl) rfl) h0
  obtain ⟨a3, n3, c3, rfl, r3, hs3⟩ := edges_at (hval0 1 43 v1 (by kernel_rfl) rfl) h1
  exact (open_below bitsE bits_mixed (args := [.int .i64 k0, .slice a3 n3 c3]) (VsRel.cons (.int _ _) (VsRel.cons r3 (.nil _))) (c5 (tab_all hL) hs3)).mono fun e W' ⟨he, hb⟩ =>
    ⟨_, he, open_post bits_laid (by kernel_rfl) rfl rfl bits_bool (fun ds hds => by
      match ds, hds with
      | [_, _], _ => exact ⟨rfl, rfl, rfl⟩) hW hb⟩

theorem bitsSteps_row : Rows.BitsStepsSaid :=
  OpenClaim.holds_of_wide 5 Tryd.f5 rfl rfl rfl rfl rfl rfl rfl ⟨rfl, rfl, rfl, rfl, rfl⟩ rfl rfl rfl rfl rfl (by kernel_rfl) Tryd.func5 (by kernel_rfl)
    (of_decide_eq_true (by kernel_rfl)) (by unfold Func.isWrapper; first | (rw [if_pos (by decide +kernel)]; kernel_rfl) | (rw [if_neg (by decide +kernel)]; exact ⟨rfl, rfl⟩))
    (fun os started H enc _ => bitsSteps_lifted os started H enc)

theorem bitsSteps_holds : Rows.BitsStepsCardSaid :=
  Claim7.holds_tied_plain_at .later [] [.data] true (true, "221da8ee804bc23be961c51358b34d77db98146d7a49556ae6838f9c2d4cb449") false
    bitsSteps_row (fun _ h => by cases h) (by kernel_rfl) (fun _ h => by cases h) bitsSteps_row_tie rfl ⟨rfl, rfl⟩ (by kernel_rfl) rfl
    (fun f fn hf hfn => by
      obtain rfl : f = 5 := Option.some.inj ((show Tryd.prog.funcNamed "detent/detentlaw17.BitsSteps" = some 5 by kernel_rfl).symm.trans hf) |>.symm
      obtain rfl : fn = Tryd.f5 := (Option.some.inj (Tryd.func5.symm.trans hfn)).symm
      exact ⟨by kernel_rfl, fun j t ht => by
        have : Tryd.f5.params = #[3, 43] := by kernel_rfl
        rw [this] at ht
        match j, ht with
        | 0, ht => obtain rfl : t = 3 := (Option.some.inj ht).symm; exact (show Tryd.prog.wantsStandIn 3 = false by kernel_rfl)
        | 1, ht => obtain rfl : t = 43 := (Option.some.inj ht).symm; exact (show Tryd.prog.wantsStandIn 43 = false by kernel_rfl)
        | j + 2, ht => simp at ht⟩)
    (by kernel_rfl)


end Go.Proofs.YtgcapnlfkomgpaaDoor
