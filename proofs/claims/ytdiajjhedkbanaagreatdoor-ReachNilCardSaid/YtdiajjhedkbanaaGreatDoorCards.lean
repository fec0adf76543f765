/-
  DERIVED. GIVEN WITH THE SEED: THE CARDS: each row of YtdiajjhedkbanaaGreatDoorRows.lean that lists a variable, with what it lists TIED to the program's text (the seventh form; the later family's looks); each row that meets fmt, with fmt's text TOLD by the authors' own Lean function (tested against real Go, not proved from fmt's source: count such statements apart). THE CARD IS WHAT COUNTS. Prove the row's statement (the work); the ties are given (YtdiajjhedkbanaaGreatDoorTie.lean); close each card by the builder's one call (the guide's Derived/Test/ToyasCard.lean, 'card_holds'). Laid BY PROGRAM, IN A SANDBOX (cutbox-door.mjs). By AI agents, Wed Nov 11 2026. No macro, syntax, notation, axiom, sorry.
-/
import Derived.Test.YtdiajjhedkbanaaGreatDoorRows
import GoSem.ClaimSeven
namespace Go.Proofs.YtdiajjhedkbanaaGreatDoor
namespace Rows

/-- THE TIED CARD OF 'detentlaw19.ReachNil'. -/
def reachNilCard : Claim7 := { stood := { row := reachNilRow, standIns := [], harness := (true, "16a9da4f8480521c004c14224a4854263d2ebda924c4b752d52fe0ef81791edb"), looks := true }, kinds := [], alts := [], laidByText := true, laidKinds := [.data], laidTests := true, laidLooks := .later }
def ReachNilCardSaid : Prop := Claim7.holds Tryz.pinned (.plain (OpenSpec.ofChange reachNilSpec)) reachNilCard

/-- THE TIED CARD OF 'detentlaw20.NodesNil'. -/
def nodesNilCard : Claim7 := { stood := { row := nodesNilRow, standIns := [], harness := (true, "16a9da4f8480521c004c14224a4854263d2ebda924c4b752d52fe0ef81791edb"), looks := true }, kinds := [], alts := [], laidByText := true, laidKinds := [.data], laidTests := true, laidLooks := .later }
def NodesNilCardSaid : Prop := Claim7.holds Tryz.pinned (.plain (OpenSpec.ofChange nodesNilSpec)) nodesNilCard

/-- THE TIED CARD OF 'detentlaw21.OrderNil'. -/
def orderNilCard : Claim7 := { stood := { row := orderNilRow, standIns := [], harness := (true, "16a9da4f8480521c004c14224a4854263d2ebda924c4b752d52fe0ef81791edb"), looks := true }, kinds := [], alts := [], laidByText := true, laidKinds := [.data], laidTests := true, laidLooks := .later }
def OrderNilCardSaid : Prop := Claim7.holds Tryz.pinned (.plain (OpenSpec.ofChange orderNilSpec)) orderNilCard

/-- THE TIED CARD OF 'detentlaw12.ScriptNil'. -/
def scriptNilCard : Claim7 := { stood := { row := scriptNilRow, standIns := [], harness := (true, "16a9da4f8480521c004c14224a4854263d2ebda924c4b752d52fe0ef81791edb"), looks := true }, kinds := [], alts := [], laidByText := true, laidKinds := [.data, .data, .data], laidTests := true, laidLooks := .later }
def ScriptNilCardSaid : Prop := Claim7.holds Tryz.pinned (.plain (OpenSpec.ofChange scriptNilSpec)) scriptNilCard

/-- THE SECOND FORM's CARD OF 'detentlaw19.ReachNil'. -/
def reachNilUptoCard : Claim7 := { stood := { row := reachNilUptoRow, standIns := [], harness := (true, "16a9da4f8480521c004c14224a4854263d2ebda924c4b752d52fe0ef81791edb"), looks := true }, kinds := [], alts := [], laidByText := true, laidKinds := [.data], laidTests := true, laidLooks := .later }
def ReachNilUptoCardSaid : Prop := Claim7.holds Tryz.pinned (.plain (OpenSpec.upto reachNilSpec)) reachNilUptoCard

/-- THE SECOND FORM's CARD OF 'detentlaw20.NodesNil'. -/
def nodesNilUptoCard : Claim7 := { stood := { row := nodesNilUptoRow, standIns := [], harness := (true, "16a9da4f8480521c004c14224a4854263d2ebda924c4b752d52fe0ef81791edb"), looks := true }, kinds := [], alts := [], laidByText := true, laidKinds := [.data], laidTests := true, laidLooks := .later }
def NodesNilUptoCardSaid : Prop := Claim7.holds Tryz.pinned (.plain (OpenSpec.upto nodesNilSpec)) nodesNilUptoCard

/-- THE SECOND FORM's CARD OF 'detentlaw21.OrderNil'. -/
def orderNilUptoCard : Claim7 := { stood := { row := orderNilUptoRow, standIns := [], harness := (true, "16a9da4f8480521c004c14224a4854263d2ebda924c4b752d52fe0ef81791edb"), looks := true }, kinds := [], alts := [], laidByText := true, laidKinds := [.data], laidTests := true, laidLooks := .later }
def OrderNilUptoCardSaid : Prop := Claim7.holds Tryz.pinned (.plain (OpenSpec.upto orderNilSpec)) orderNilUptoCard

/-- THE SECOND FORM's CARD OF 'detentlaw12.ScriptNil'. -/
def scriptNilUptoCard : Claim7 := { stood := { row := scriptNilUptoRow, standIns := [], harness := (true, "16a9da4f8480521c004c14224a4854263d2ebda924c4b752d52fe0ef81791edb"), looks := true }, kinds := [], alts := [], laidByText := true, laidKinds := [.data, .data, .data], laidTests := true, laidLooks := .later }
def ScriptNilUptoCardSaid : Prop := Claim7.holds Tryz.pinned (.plain (OpenSpec.upto scriptNilSpec)) scriptNilUptoCard
end Rows
end Go.Proofs.YtdiajjhedkbanaaGreatDoor
