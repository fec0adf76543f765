/-
  DERIVED. GIVEN WITH THE SEED: THE CARDS: each row of YtmjnjpphemghiaaGreatDoorRows.lean that lists a variable, with what it lists TIED to the program's text (the seventh form; the later family's looks); each row that meets fmt, with fmt's text TOLD by the authors' own Lean function (tested against real Go, not proved from fmt's source: count such statements apart). THE CARD IS WHAT COUNTS. Prove the row's statement (the work); the ties are given (YtmjnjpphemghiaaGreatDoorTie.lean); close each card by the builder's one call (the guide's Derived/Test/ToyasCard.lean, 'card_holds'). Laid BY PROGRAM, IN A SANDBOX (cutbox-door.mjs). By AI agents, Wed Nov 11 2026. No macro, syntax, notation, axiom, sorry.
-/
import Derived.Test.YtmjnjpphemghiaaGreatDoorRows
import GoSem.ClaimSeven
namespace Go.Proofs.YtmjnjpphemghiaaGreatDoor
namespace Rows

/-- THE TIED CARD OF 'detentlaw20.NodesNil'. -/
def nodesNilCard : Claim7 := { stood := { row := nodesNilRow, standIns := [], harness := (true, "9beb5fa53961bb6d7dd68d9d7608756cdf47dc6862757a83a73debadb7bea648"), looks := false }, kinds := [], alts := [], laidByText := true, laidKinds := [.data], laidTests := true, laidLooks := .later }
def NodesNilCardSaid : Prop := Claim7.holds Tryz.pinned (.plain (OpenSpec.ofChange nodesNilSpec)) nodesNilCard

/-- THE SECOND FORM's CARD OF 'detentlaw20.NodesNil'. -/
def nodesNilUptoCard : Claim7 := { stood := { row := nodesNilUptoRow, standIns := [], harness := (true, "9beb5fa53961bb6d7dd68d9d7608756cdf47dc6862757a83a73debadb7bea648"), looks := false }, kinds := [], alts := [], laidByText := true, laidKinds := [.data], laidTests := true, laidLooks := .later }
def NodesNilUptoCardSaid : Prop := Claim7.holds Tryz.pinned (.plain (OpenSpec.upto nodesNilSpec)) nodesNilUptoCard
end Rows
end Go.Proofs.YtmjnjpphemghiaaGreatDoor
