/-
  DERIVED. GIVEN WITH THE SEED: THE CARDS: each row of YtkbmagikdfpcaaaGreatDoorRows.lean that lists a variable, with what it lists TIED to the program's text (the seventh form; the later family's looks); each row that meets fmt, with fmt's text TOLD by the authors' own Lean function (tested against real Go, not proved from fmt's source: count such statements apart). THE CARD IS WHAT COUNTS. Prove the row's statement (the work); the ties are given (YtkbmagikdfpcaaaGreatDoorTie.lean); close each card by the builder's one call (the guide's Derived/Test/ToyasCard.lean, 'card_holds'). Laid BY PROGRAM, IN A SANDBOX (cutbox-door.mjs). By AI agents, Wed Nov 11 2026. No macro, syntax, notation, axiom, sorry.
-/
import Derived.Test.YtkbmagikdfpcaaaGreatDoorRows
import GoSem.ClaimSeven
namespace Go.Proofs.YtkbmagikdfpcaaaGreatDoor
namespace Rows

/-- THE TIED CARD OF 'detentlaw21.OrderRules'. -/
def orderRulesCard : Claim7 := { stood := { row := orderRulesRow, standIns := [], harness := (true, "42f7341e572767e2744880fd5f54443461ea37802d3f9236150764100e5745c5"), looks := false }, kinds := [], alts := [], laidByText := true, laidKinds := [.data], laidTests := true, laidLooks := .later }
def OrderRulesCardSaid : Prop := Claim7.holds Tryz.pinned (.plain (OpenSpec.ofChange orderRulesSpec)) orderRulesCard

/-- THE TIED CARD OF 'detentlaw21.OrderNil'. -/
def orderNilCard : Claim7 := { stood := { row := orderNilRow, standIns := [], harness := (true, "42f7341e572767e2744880fd5f54443461ea37802d3f9236150764100e5745c5"), looks := false }, kinds := [], alts := [], laidByText := true, laidKinds := [.data], laidTests := true, laidLooks := .later }
def OrderNilCardSaid : Prop := Claim7.holds Tryz.pinned (.plain (OpenSpec.ofChange orderNilSpec)) orderNilCard

/-- THE SECOND FORM's CARD OF 'detentlaw21.OrderRules'. -/
def orderRulesUptoCard : Claim7 := { stood := { row := orderRulesUptoRow, standIns := [], harness := (true, "42f7341e572767e2744880fd5f54443461ea37802d3f9236150764100e5745c5"), looks := false }, kinds := [], alts := [], laidByText := true, laidKinds := [.data], laidTests := true, laidLooks := .later }
def OrderRulesUptoCardSaid : Prop := Claim7.holds Tryz.pinned (.plain (OpenSpec.upto orderRulesSpec)) orderRulesUptoCard

/-- THE SECOND FORM's CARD OF 'detentlaw21.OrderNil'. -/
def orderNilUptoCard : Claim7 := { stood := { row := orderNilUptoRow, standIns := [], harness := (true, "42f7341e572767e2744880fd5f54443461ea37802d3f9236150764100e5745c5"), looks := false }, kinds := [], alts := [], laidByText := true, laidKinds := [.data], laidTests := true, laidLooks := .later }
def OrderNilUptoCardSaid : Prop := Claim7.holds Tryz.pinned (.plain (OpenSpec.upto orderNilSpec)) orderNilUptoCard
end Rows
end Go.Proofs.YtkbmagikdfpcaaaGreatDoor
