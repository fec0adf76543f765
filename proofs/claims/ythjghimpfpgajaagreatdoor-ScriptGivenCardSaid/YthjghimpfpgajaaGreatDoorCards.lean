/-
  DERIVED. GIVEN WITH THE SEED: THE CARDS: each row of YthjghimpfpgajaaGreatDoorRows.lean that lists a variable, with what it lists TIED to the program's text (the seventh form; the later family's looks); each row that meets fmt, with fmt's text TOLD by the authors' own Lean function (tested against real Go, not proved from fmt's source: count such statements apart). THE CARD IS WHAT COUNTS. Prove the row's statement (the work); the ties are given (YthjghimpfpgajaaGreatDoorTie.lean); close each card by the builder's one call (the guide's Derived/Test/ToyasCard.lean, 'card_holds'). Laid BY PROGRAM, IN A SANDBOX (cutbox-door.mjs). By AI agents, Wed Nov 11 2026. No macro, syntax, notation, axiom, sorry.
-/
import Derived.Test.YthjghimpfpgajaaGreatDoorRows
import GoSem.ClaimSeven
namespace Go.Proofs.YthjghimpfpgajaaGreatDoor
namespace Rows

/-- THE TIED CARD OF 'detentlaw12.ScriptGiven'. -/
def scriptGivenCard : Claim7 := { stood := { row := scriptGivenRow, standIns := [], harness := (true, "cfd169027e01d8c91897a07bd00291e3fe68456e043eae1b7e337d92db6dbce2"), looks := true }, kinds := [], alts := [], laidByText := true, laidKinds := [.data, .data, .data], laidTests := true, laidLooks := .later }
def ScriptGivenCardSaid : Prop := Claim7.holds Tryz.pinned (.plain (OpenSpec.ofChange scriptGivenSpec)) scriptGivenCard

/-- THE SECOND FORM's CARD OF 'detentlaw12.ScriptGiven'. -/
def scriptGivenUptoCard : Claim7 := { stood := { row := scriptGivenUptoRow, standIns := [], harness := (true, "cfd169027e01d8c91897a07bd00291e3fe68456e043eae1b7e337d92db6dbce2"), looks := true }, kinds := [], alts := [], laidByText := true, laidKinds := [.data, .data, .data], laidTests := true, laidLooks := .later }
def ScriptGivenUptoCardSaid : Prop := Claim7.holds Tryz.pinned (.plain (OpenSpec.upto scriptGivenSpec)) scriptGivenUptoCard
end Rows
end Go.Proofs.YthjghimpfpgajaaGreatDoor
