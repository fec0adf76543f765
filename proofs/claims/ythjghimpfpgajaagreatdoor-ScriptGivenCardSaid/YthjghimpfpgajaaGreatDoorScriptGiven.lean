/- ScriptGiven: the call answers true, whatever the world and the tape, where the listed tables lie as the program lays them; the arguments read as they read before; the card. Conditions: the tables, tied to the program's text. -/
import Derived.Test.YthjghimpfpgajaaGreatDoorLb
namespace Go.Proofs.YthjghimpfpgajaaGreatDoor
open Go.ChangeShapes Go.WideShapes Go.ChangeAt Go.RowKit Go.Deep Go.X Go.Giv

set_option maxRecDepth 100000

theorem giv_door (os : Os) (args : Array Value) : laidMetH Tryz.prog Rows.scriptGivenRow.laid (((World.doorLaid Tryz.prog 400 os).forCall (fun _ _ => 0) ⟨#[], args, []⟩).memory) :=
  laidMetH_of_parts3 (fuel := 8) (laidMet_of_run' 8 (by kernel_rfl) (by kernel_rfl)) (by kernel_rfl) (by kernel_rfl)

theorem scriptGiven_lifted (os : Os) (started : os.Started) (H : Type) (enc : TypeId × Value → H) :
    ReturnsInHanded {} Tryz.checked os 3 .any (fun w args => (Rows.scriptGivenSpec.pre enc Tryz.prog Tryz.f3 [] false w args ∧ laidMetH Tryz.prog Rows.scriptGivenRow.laid w) ∧ sizedMet enc Tryz.prog Tryz.f3 (OpenSpec.ofChange Rows.scriptGivenSpec) false w args)
      (Rows.scriptGivenSpec.post enc Tryz.prog Tryz.f3 false true false false) := by
  refine returnsInHanded_of_change_and (C := Tryz.checked) (X := fun w _ => laidMetH Tryz.prog Rows.scriptGivenRow.laid w) (fun _ _ _ hh h => h.of_heap hh) giv_own started (by kernel_rfl) Tryz.func3
    (ChangeSpec.witness_shaped (enc := enc) (C := Tryz.checked) (os := os) (X := fun w _ => laidMetH Tryz.prog Rows.scriptGivenRow.laid w) false (World.doorLaid Tryz.prog 400 os) #[.slice none 0 0, .slice none 0 0] 8 rfl (World.shaped_of_RefB (by kernel_rfl) (by kernel_rfl)) (by kernel_rfl) (by kernel_rfl) (by kernel_rfl) (giv_door os _)) ?_
  intro W base args ds gs before hval0 hW _ _ hL _
  have hW' := hW
  obtain ⟨p, q, hA, hV, hp, hfz, hnd⟩ := hW'
  obtain ⟨v0, v1, d0, d1, p0, p1, rfl, rfl, rfl, h0, h1⟩ := trodAll_two hA
  obtain ⟨r0, a0, n0, c0, rfl, hrd0⟩ := arg_rd_slice giv_row (hval0 0 22 v0 (by kernel_rfl) rfl) h0
  obtain ⟨l, hE, hi⟩ := ens_rd hrd0
  obtain ⟨r1, a1, n1, c1, rfl, hrd1⟩ := arg_rd_slice giv_nos (hval0 1 23 v1 (by kernel_rfl) rfl) h1
  obtain ⟨es, hN⟩ := nos_rd hrd1
  exact (open_below givE giv_mixed (args := [.slice a0 n0 c0, .slice a1 n1 c1]) (VsRel.cons r0 (VsRel.cons r1 (.nil _))) (c3 (pow_of (by kernel_rfl) hL) hE hN hi)).mono fun e W' ⟨he, hb⟩ =>
    ⟨_, he, open_post giv_laid (by kernel_rfl) rfl rfl giv_bool (fun ds hds => by
      match ds, hds with
      | [_, _], _ => exact ⟨rfl, rfl, rfl⟩) hW hb⟩

theorem scriptGiven_row : Rows.ScriptGivenSaid :=
  OpenClaim.holds_of_wide 3 Tryz.f3 rfl rfl rfl rfl rfl rfl rfl ⟨rfl, rfl, rfl, rfl, rfl⟩ rfl rfl rfl rfl rfl (by kernel_rfl) Tryz.func3 (by kernel_rfl)
    (of_decide_eq_true (by kernel_rfl)) (by unfold Func.isWrapper; first | (rw [if_pos (by decide +kernel)]; kernel_rfl) | (rw [if_neg (by decide +kernel)]; exact ⟨rfl, rfl⟩))
    (fun os started H enc _ => scriptGiven_lifted os started H enc)

theorem scriptGiven_holds : Rows.ScriptGivenCardSaid :=
  Claim7.holds_tied_plain_at .later [] [.data, .data, .data] true (true, "cfd169027e01d8c91897a07bd00291e3fe68456e043eae1b7e337d92db6dbce2") true
    scriptGiven_row (fun _ h => by cases h) (by kernel_rfl) (fun _ h => by cases h) scriptGiven_row_tie rfl ⟨rfl, rfl⟩ (by kernel_rfl) rfl
    (fun f fn hf hfn => by
      obtain rfl : f = 3 := Option.some.inj ((show Tryz.prog.funcNamed "detent/detentlaw12.ScriptGiven" = some 3 by kernel_rfl).symm.trans hf) |>.symm
      obtain rfl : fn = Tryz.f3 := (Option.some.inj (Tryz.func3.symm.trans hfn)).symm
      exact ⟨by kernel_rfl, fun j t ht => by
        have : Tryz.f3.params = #[22, 23] := by kernel_rfl
        rw [this] at ht
        match j, ht with
        | 0, ht => obtain rfl : t = 22 := (Option.some.inj ht).symm; exact (show Tryz.prog.wantsStandIn 22 = false by kernel_rfl)
        | 1, ht => obtain rfl : t = 23 := (Option.some.inj ht).symm; exact (show Tryz.prog.wantsStandIn 23 = false by kernel_rfl)
        | j + 2, ht => simp at ht⟩)
    (by kernel_rfl)

end Go.Proofs.YthjghimpfpgajaaGreatDoor
