/- ScriptReads: the call answers true, whatever the world and the tape, where the listed variables lie as the program lays them; the arguments read as they read before; the card. Conditions: the variables, tied to the program's text. -/
import Derived.Test.YtdgemlcdhobejaaGreatDoorLb
import Derived.Lay
namespace Go.Proofs.YtdgemlcdhobejaaGreatDoor
open Go.ChangeShapes Go.WideShapes Go.ChangeAt Go.RowKit Go.Deep Go.X Go.Scr

set_option maxRecDepth 100000

theorem scr_door (os : Os) (args : Array Value) : laidMetH Tryz.prog Rows.scriptReadsRow.laid (((World.laidAll Tryz.prog os Rows.scriptReadsRow.laid).forCall (fun _ _ => 0) ⟨#[], args, []⟩).memory) := by
  rw [MakeChecks.laidMetH_plain _ _ _ (by kernel_rfl)]
  exact laidMet_laidAll _ (by kernel_rfl) (by kernel_rfl)

theorem scriptReads_lifted (os : Os) (started : os.Started) (H : Type) (enc : TypeId × Value → H) :
    ReturnsInHanded {} Tryz.checked os 4 .any (fun w args => (Rows.scriptReadsSpec.pre enc Tryz.prog Tryz.f4 [] false w args ∧ laidMetH Tryz.prog Rows.scriptReadsRow.laid w) ∧ sizedMet enc Tryz.prog Tryz.f4 (OpenSpec.ofChange Rows.scriptReadsSpec) false w args)
      (Rows.scriptReadsSpec.post enc Tryz.prog Tryz.f4 false true false false) := by
  refine lifted_shaped (C := Tryz.checked) (X := fun w _ => laidMetH Tryz.prog Rows.scriptReadsRow.laid w) (fun _ _ _ hh h => h.of_heap hh) scp_own started (by kernel_rfl) Tryz.func4
    (ChangeSpec.witness_shaped (enc := enc) (C := Tryz.checked) (os := os) (X := fun w _ => laidMetH Tryz.prog Rows.scriptReadsRow.laid w) false (World.laidAll Tryz.prog os Rows.scriptReadsRow.laid) #[.string .empty] 8 (World.laidAll_os _ _ _) (World.shaped_of_ZipB (by kernel_rfl) (by kernel_rfl)) (by kernel_rfl) (by kernel_rfl) (by kernel_rfl) (scr_door os _)) ?_
  intro W base args ds gs before hval0 hW hL hsh
  have hW' := hW
  obtain ⟨p, q, hA, hV, hp, hfz, hnd⟩ := hW'
  obtain ⟨v0, d0, rfl, rfl, h0⟩ := trodAll_one hA
  obtain ⟨s, rfl⟩ := str_arg (hval0 0 9 v0 (by kernel_rfl) rfl)
  exact (open_below scpE scp_mixed (args := [.string s]) (VsRel.cons (.string s) (.nil _)) ((c4 (lib_of (by kernel_rfl) (by kernel_rfl) (by kernel_rfl) hL hsh)).mono fun _ _ x => x.1)).mono fun e W' ⟨he, hb⟩ =>
    ⟨_, he, open_post scp_laid (by kernel_rfl) rfl rfl scp_bool (fun ds hds => by
      match ds, hds with
      | [_], _ => exact ⟨rfl, rfl, rfl⟩) hW hb⟩

theorem scriptReads_row : Rows.ScriptReadsSaid :=
  OpenClaim.holds_of_wide 4 Tryz.f4 rfl rfl rfl rfl rfl rfl rfl ⟨rfl, rfl, rfl, rfl, rfl⟩ rfl rfl rfl rfl rfl (by kernel_rfl) Tryz.func4 (by kernel_rfl)
    (of_decide_eq_true (by kernel_rfl)) (by unfold Func.isWrapper; first | (rw [if_pos (by decide +kernel)]; kernel_rfl) | (rw [if_neg (by decide +kernel)]; exact ⟨rfl, rfl⟩))
    (fun os started H enc _ => scriptReads_lifted os started H enc)

theorem scriptReads_holds : Rows.ScriptReadsCardSaid :=
  Claim7.holds_tied_plain_at .later [] [.data, .data, .data, .data, .sentinel, .sentinel, .pinned] true (true, "17aa18455675cefd612b0f729897ac24d504280ebc9eb95c1ef5f96339304316") true
    scriptReads_row (fun _ h => by cases h) (by kernel_rfl) (fun _ h => by cases h) scriptReads_row_tie rfl ⟨rfl, rfl⟩ (by kernel_rfl) rfl
    (fun f fn hf hfn => by
      obtain rfl : f = 4 := Option.some.inj ((show Tryz.prog.funcNamed "detent/detentlaw12.ScriptReads" = some 4 by kernel_rfl).symm.trans hf) |>.symm
      obtain rfl : fn = Tryz.f4 := (Option.some.inj (Tryz.func4.symm.trans hfn)).symm
      exact ⟨by kernel_rfl, fun j t ht => by
        have : Tryz.f4.params = #[9] := by kernel_rfl
        rw [this] at ht
        match j, ht with
        | 0, ht => obtain rfl : t = 9 := (Option.some.inj ht).symm; exact (show Tryz.prog.wantsStandIn 9 = false by kernel_rfl)
        | j + 1, ht => simp at ht⟩)
    (by kernel_rfl)

end Go.Proofs.YtdgemlcdhobejaaGreatDoor
