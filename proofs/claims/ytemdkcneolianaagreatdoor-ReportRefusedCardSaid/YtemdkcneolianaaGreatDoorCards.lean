/-
  DERIVED. GIVEN WITH THE SEED: THE CARDS: each row of YtemdkcneolianaaGreatDoorRows.lean that lists a variable, with what it lists TIED to the program's text (the seventh form; the later family's looks); each row that meets fmt, with fmt's text TOLD by the authors' own Lean function (tested against real Go, not proved from fmt's source: count such statements apart). THE CARD IS WHAT COUNTS. Prove the row's statement (the work); the ties are given (YtemdkcneolianaaGreatDoorTie.lean); close each card by the builder's one call (the guide's Derived/Test/ToyasCard.lean, 'card_holds'). Laid BY PROGRAM, IN A SANDBOX (cutbox-door.mjs). By AI agents, Wed Nov 11 2026. No macro, syntax, notation, axiom, sorry.
-/
import Derived.Test.YtemdkcneolianaaGreatDoorRows
import GoSem.ClaimSeven
namespace Go.Proofs.YtemdkcneolianaaGreatDoor
namespace Rows

/-- THE TIED CARD OF 'detentlaw24.ReportRefused'. -/
def reportRefusedCard : Claim7 := { stood := { row := reportRefusedRow, standIns := [], harness := (true, "a4e1e5b132b36315ca66d102bb0980cbcc27208e6fe0b48a9fcf239e0f42b81a"), looks := false }, kinds := [], alts := [], laidByText := true, laidKinds := [.data, .data, .data, .listed, .data], laidTests := true, laidLooks := .later }
def ReportRefusedCardSaid : Prop := Claim7.holds Tryz.pinned (.plain (OpenSpec.ofChange reportRefusedSpec)) reportRefusedCard

/-- THE SECOND FORM's CARD OF 'detentlaw24.ReportRefused'. -/
def reportRefusedUptoCard : Claim7 := { stood := { row := reportRefusedUptoRow, standIns := [], harness := (true, "a4e1e5b132b36315ca66d102bb0980cbcc27208e6fe0b48a9fcf239e0f42b81a"), looks := false }, kinds := [], alts := [], laidByText := true, laidKinds := [.data, .data, .data, .listed, .data], laidTests := true, laidLooks := .later }
def ReportRefusedUptoCardSaid : Prop := Claim7.holds Tryz.pinned (.plain (OpenSpec.upto reportRefusedSpec)) reportRefusedUptoCard
end Rows
end Go.Proofs.YtemdkcneolianaaGreatDoor
