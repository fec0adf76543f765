/- Chapter 24: what the row's cells say of the program. Conditions: none. -/
import Derived.Test.YtemdkcneolianaaGreatDoorRows
import Derived.JoinedOf
import Derived.SevenTiedAt
namespace Go.Proofs.YtemdkcneolianaaGreatDoor
set_option maxRecDepth 100000

theorem cell_place : (Rows.reportRefusedRow.inPlace == Tryz.prog.inPlace 3) = true := by kernel_rfl
theorem cell_unf : Tryz.prog.unfollowed 3 = true := by kernel_rfl
theorem cell_unf2 : (Rows.reportRefusedRow.unfollowed == Tryz.prog.unfollowed 3) = true := by rw [cell_unf]; rfl
theorem cell_rec : (Rows.reportRefusedRow.recurses == Tryz.prog.recurses 3) = true := by
  unfold Program.recurses
  rw [cell_unf]; rfl
theorem cell_named : (Rows.reportRefusedRow.named == Tryz.prog.varsNamed 3) = true := by kernel_rfl
theorem cell_all : joinedFacts Tryz.prog 3 Tryz.f3 Rows.reportRefusedSpec Rows.reportRefusedRow = true := by
  unfold joinedFacts
  rw [cell_place, cell_unf2, cell_rec, cell_named]
  kernel_rfl
theorem cell_wf : Rows.reportRefusedRow.wfByText (OpenSpec.ofChange Rows.reportRefusedSpec) = true := by kernel_rfl
theorem cell_main : Tryz.prog.mainIs = some (true, "a4e1e5b132b36315ca66d102bb0980cbcc27208e6fe0b48a9fcf239e0f42b81a".toList) := by kernel_rfl
theorem cell_looks : false = Tryz.prog.looks [] := by kernel_rfl
theorem cell_goes : false = Rows.reportRefusedRow.goesBy Tryz.prog := by kernel_rfl
end Go.Proofs.YtemdkcneolianaaGreatDoor
