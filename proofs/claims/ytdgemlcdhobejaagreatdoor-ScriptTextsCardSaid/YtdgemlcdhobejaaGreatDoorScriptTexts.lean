/- ScriptTexts: the call answers true, whatever the world and the tape, where the listed variables lie as the program lays them; the arguments read as they read before; the card. Conditions: the variables, tied to the program's text. -/
import Derived.Test.YtdgemlcdhobejaaGreatDoorLb
import Derived.Lay
namespace Go.Proofs.YtdgemlcdhobejaaGreatDoor
open Go.ChangeShapes Go.WideShapes Go.ChangeAt Go.RowKit Go.Deep Go.X Go.Scr

set_option maxRecDepth 100000

theorem sct_door (os : Os) (args : Array Value) : laidMetH Tryz.prog Rows.scriptTextsRow.laid (((World.laidAll Tryz.prog os Rows.scriptTextsRow.laid).forCall (fun _ _ => 0) ⟨#[], args, []⟩).memory) := by
  rw [MakeChecks.laidMetH_plain _ _ _ (by kernel_rfl)]
  exact laidMet_laidAll _ (by kernel_rfl) (by kernel_rfl)

theorem scriptTexts_lifted (os : Os) (started : os.Started) (H : Type) (enc : TypeId × Value → H) :
    ReturnsInHanded {} Tryz.checked os 3 .any (fun w args => (Rows.scriptTextsSpec.pre enc Tryz.prog Tryz.f3 [] false w args ∧ laidMetH Tryz.prog Rows.scriptTextsRow.laid w) ∧ sizedMet enc Tryz.prog Tryz.f3 (OpenSpec.ofChange Rows.scriptTextsSpec) false w args)
      (Rows.scriptTextsSpec.post enc Tryz.prog Tryz.f3 false true false false) := by
  refine lifted_shaped (C := Tryz.checked) (X := fun w _ => laidMetH Tryz.prog Rows.scriptTextsRow.laid w) (fun _ _ _ hh h => h.of_heap hh) scp_own started (by kernel_rfl) Tryz.func3
    (ChangeSpec.witness_shaped (enc := enc) (C := Tryz.checked) (os := os) (X := fun w _ => laidMetH Tryz.prog Rows.scriptTextsRow.laid w) false (World.laidAll Tryz.prog os Rows.scriptTextsRow.laid) #[.slice none 0 0] 8 (World.laidAll_os _ _ _) (World.shaped_of_ZipB (by kernel_rfl) (by kernel_rfl)) (by kernel_rfl) (by kernel_rfl) (by kernel_rfl) (sct_door os _)) ?_
  intro W base args ds gs before hval0 hW hL hsh
  have hW' := hW
  obtain ⟨p, q, hA, hV, hp, hfz, hnd⟩ := hW'
  obtain ⟨v0, d0, rfl, rfl, h0⟩ := trodAll_one hA
  obtain ⟨r0, a, n, c, rfl, hrd⟩ := arg_rd_slice scp_row (hval0 0 22 v0 (by kernel_rfl) rfl) h0
  obtain ⟨l, hE, hi⟩ := ens_rd hrd
  exact (open_below scpE scp_mixed (args := [.slice a n c]) (VsRel.cons r0 (.nil _)) ((c3 (lib_of (by kernel_rfl) (by kernel_rfl) (by kernel_rfl) hL hsh) hE hi).mono fun _ _ x => x.1)).mono fun e W' ⟨he, hb⟩ =>
    ⟨_, he, open_post scp_laid (by kernel_rfl) rfl rfl scp_bool (fun ds hds => by
      match ds, hds with
      | [_], _ => exact ⟨rfl, rfl, rfl⟩) hW hb⟩

theorem scriptTexts_row : Rows.ScriptTextsSaid :=
  OpenClaim.holds_of_wide 3 Tryz.f3 rfl rfl rfl rfl rfl rfl rfl ⟨rfl, rfl, rfl, rfl, rfl⟩ rfl rfl rfl rfl rfl (by kernel_rfl) Tryz.func3 (by kernel_rfl)
    (of_decide_eq_true (by kernel_rfl)) (by unfold Func.isWrapper; first | (rw [if_pos (by decide +kernel)]; kernel_rfl) | (rw [if_neg (by decide +kernel)]; exact ⟨rfl, rfl⟩))
    (fun os started H enc _ => scriptTexts_lifted os started H enc)

theorem scriptTexts_holds : Rows.ScriptTextsCardSaid :=
  Claim7.holds_tied_plain_at .later [] [.data, .data, .data, .data, .sentinel, .sentinel, .pinned] true (true, "17aa18455675cefd612b0f729897ac24d504280ebc9eb95c1ef5f96339304316") true
    scriptTexts_row (fun _ h => by cases h) (by kernel_rfl) (fun _ h => by cases h) scriptTexts_row_tie rfl ⟨rfl, rfl⟩ (by kernel_rfl) rfl
    (fun f fn hf hfn => by
      obtain rfl : f = 3 := Option.some.inj ((show Tryz.prog.funcNamed "detent/detentlaw12.ScriptTexts" = some 3 by kernel_rfl).symm.trans hf) |>.symm
      obtain rfl : fn = Tryz.f3 := (Option.some.inj (Tryz.func3.symm.trans hfn)).symm
      exact ⟨by kernel_rfl, fun j t ht => by
        have : Tryz.f3.params = #[22] := by kernel_rfl
        rw [this] at ht
        match j, ht with
        | 0, ht => obtain rfl : t = 22 := (Option.some.inj ht).symm; exact (show Tryz.prog.wantsStandIn 22 = false by kernel_rfl)
        | j + 1, ht => simp at ht⟩)
    (by kernel_rfl)

end Go.Proofs.YtdgemlcdhobejaaGreatDoor
