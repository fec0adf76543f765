/- ReportRefused: the call answers true, whatever the world and the tape, where the listed tables lie as the program lays them; the argument reads as it read before; the card. Conditions: the tables, tied to the program's text. -/
import Derived.Test.YtemdkcneolianaaGreatDoorLe
import Derived.Test.YtemdkcneolianaaGreatDoorLc
namespace Go.Proofs.YtemdkcneolianaaGreatDoor
open Go.ChangeShapes Go.WideShapes Go.ChangeAt Go.RowKit Go.Deep Go.X Go.May

set_option maxRecDepth 100000

theorem rep_door (os : Os) (args : Array Value) : laidMetH Tryz.prog Rows.reportRefusedRow.laid (((World.doorLaid Tryz.prog 400 os).forCall (fun _ _ => 0) ⟨#[], args, []⟩).memory) :=
  laidMetH_of_parts3 (fuel := 8) (laidMet_of_run' 8 (by kernel_rfl) (by kernel_rfl)) (by kernel_rfl) (by kernel_rfl)

theorem reportRefused_lifted (os : Os) (started : os.Started) (H : Type) (enc : TypeId × Value → H) :
    ReturnsInHanded {} Tryz.checked os 3 .any (fun w args => (Rows.reportRefusedSpec.pre enc Tryz.prog Tryz.f3 [] false w args ∧ laidMetH Tryz.prog Rows.reportRefusedRow.laid w) ∧ sizedMet enc Tryz.prog Tryz.f3 (OpenSpec.ofChange Rows.reportRefusedSpec) false w args)
      (Rows.reportRefusedSpec.post enc Tryz.prog Tryz.f3 false true false false) := by
  refine returnsInHanded_of_change_and (C := Tryz.checked) (X := fun w _ => laidMetH Tryz.prog Rows.reportRefusedRow.laid w) (fun _ _ _ hh h => h.of_heap hh) rep_own started (by kernel_rfl) Tryz.func3
    (ChangeSpec.witness_shaped (enc := enc) (C := Tryz.checked) (os := os) (X := fun w _ => laidMetH Tryz.prog Rows.reportRefusedRow.laid w) false (World.doorLaid Tryz.prog 400 os) #[.agg #[.slice none 0 0, .slice none 0 0, .slice none 0 0, .slice none 0 0, .slice none 0 0, .slice none 0 0, .int .i64 0, .slice none 0 0]] 8 rfl (World.shaped_of_RefB (by kernel_rfl) (by kernel_rfl)) (by kernel_rfl) (by kernel_rfl) (by kernel_rfl) (rep_door os _)) ?_
  intro W base args ds gs before hval0 hW _ hz hL _
  have hW' := hW
  obtain ⟨p, q, hA, hV, hp, hfz, hnd⟩ := hW'
  obtain ⟨v0, d0, rfl, rfl, h0⟩ := trodAll_one hA
  obtain ⟨P, lo, cl, gl, fu, co, ev, si, rfl, r0, x0⟩ := prog_arg (hval0 0 30 v0 (by kernel_rfl) rfl) h0 (fun n hn => by
    have := List.all_eq_true.1 hz n (DataW.weights_mem_each (j := 0) (t := 30) (d := d0) (by kernel_rfl) rfl n hn)
    exact of_decide_eq_true this)
  exact (open_below repE rep_mixed (args := [prgV P lo cl gl fu co ev si]) (VsRel.cons r0 (.nil _)) (c3 (blk_of (by kernel_rfl) hL) x0)).mono fun e W' ⟨he, hb⟩ =>
    ⟨_, he, open_post rep_laid (by kernel_rfl) rfl rfl rep_bool (fun ds hds => by
      match ds, hds with
      | [_], _ => exact ⟨rfl, rfl, rfl⟩) hW hb⟩

theorem reportRefused_row : Rows.ReportRefusedSaid :=
  OpenClaim.holds_of_wide 3 Tryz.f3 rfl rfl rfl rfl rfl rfl rfl ⟨rfl, rfl, rfl, rfl, rfl⟩ rfl rfl rfl rfl rfl (by kernel_rfl) Tryz.func3 cell_all
    (of_decide_eq_true (by kernel_rfl)) (by unfold Func.isWrapper; first | (rw [if_pos (by decide +kernel)]; kernel_rfl) | (rw [if_neg (by decide +kernel)]; exact ⟨rfl, rfl⟩))
    (fun os started H enc _ => reportRefused_lifted os started H enc)

theorem reportRefused_holds : Rows.ReportRefusedCardSaid :=
  Claim7.holds_tied_plain_at .later [] [.data, .data, .data, .listed, .data] true (true, "a4e1e5b132b36315ca66d102bb0980cbcc27208e6fe0b48a9fcf239e0f42b81a") false
    reportRefused_row (fun _ h => by cases h) cell_wf (fun _ h => by cases h) reportRefused_row_tie rfl ⟨rfl, rfl⟩ cell_main rfl
    (fun f fn hf hfn => by
      obtain rfl : f = 3 := Option.some.inj ((show Tryz.prog.funcNamed "detent/detentlaw24.ReportRefused" = some 3 by kernel_rfl).symm.trans hf) |>.symm
      obtain rfl : fn = Tryz.f3 := (Option.some.inj (Tryz.func3.symm.trans hfn)).symm
      exact ⟨cell_looks, fun j t ht => by
        have : Tryz.f3.params = #[30] := by kernel_rfl
        rw [this] at ht
        match j, ht with
        | 0, ht => obtain rfl : t = 30 := (Option.some.inj ht).symm; exact (show Tryz.prog.wantsStandIn 30 = false by kernel_rfl)
        | j + 1, ht => simp at ht⟩)
    cell_goes

end Go.Proofs.YtemdkcneolianaaGreatDoor
