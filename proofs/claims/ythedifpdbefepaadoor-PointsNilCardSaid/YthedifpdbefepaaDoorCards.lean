/-
  DERIVED. GIVEN WITH THE SEED: THE CARDS: each row of YthedifpdbefepaaDoorRows.lean that lists a variable, with what it lists TIED to the program's text (the seventh form; the later family's looks); each row that meets fmt, with fmt's text TOLD by the authors' own Lean function (tested against real Go, not proved from fmt's source: count such statements apart). THE CARD IS WHAT COUNTS. Prove the row's statement (the work); the ties are given (YthedifpdbefepaaDoorTie.lean); close each card by the builder's one call (the guide's Derived/Test/ToyasCard.lean, 'card_holds'). Laid BY PROGRAM, IN A SANDBOX (cutbox-door.mjs). By AI agents, Wed Nov 11 2026. No macro, syntax, notation, axiom, sorry.
-/
import Derived.Test.YthedifpdbefepaaDoorRows
import GoSem.ClaimSeven
namespace Go.Proofs.YthedifpdbefepaaDoor
namespace Rows

/-- THE TIED CARD OF 'detentlaw18.PointsNil'. -/
def pointsNilCard : Claim7 := { stood := { row := pointsNilRow, standIns := [], harness := (true, "c29987c5d13c9882a39b5d52328b5f36434219484318ceb223ac13bb7f688ce8"), looks := false }, kinds := [], alts := [], laidByText := true, laidKinds := [.data], laidTests := true, laidLooks := .later }
def PointsNilCardSaid : Prop := Claim7.holds Tryd.pinned (.plain (OpenSpec.ofChange pointsNilSpec)) pointsNilCard

/-- THE SECOND FORM's CARD OF 'detentlaw18.PointsNil'. -/
def pointsNilUptoCard : Claim7 := { stood := { row := pointsNilUptoRow, standIns := [], harness := (true, "c29987c5d13c9882a39b5d52328b5f36434219484318ceb223ac13bb7f688ce8"), looks := false }, kinds := [], alts := [], laidByText := true, laidKinds := [.data], laidTests := true, laidLooks := .later }
def PointsNilUptoCardSaid : Prop := Claim7.holds Tryd.pinned (.plain (OpenSpec.upto pointsNilSpec)) pointsNilUptoCard
end Rows
end Go.Proofs.YthedifpdbefepaaDoor
