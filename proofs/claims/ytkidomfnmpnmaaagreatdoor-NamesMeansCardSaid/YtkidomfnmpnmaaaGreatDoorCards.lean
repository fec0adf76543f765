/-
  DERIVED. GIVEN WITH THE SEED: THE CARDS: each row of YtkidomfnmpnmaaaGreatDoorRows.lean that lists a variable, with what it lists TIED to the program's text (the seventh form; the later family's looks); each row that meets fmt, with fmt's text TOLD by the authors' own Lean function (tested against real Go, not proved from fmt's source: count such statements apart). THE CARD IS WHAT COUNTS. Prove the row's statement (the work); the ties are given (YtkidomfnmpnmaaaGreatDoorTie.lean); close each card by the builder's one call (the guide's Derived/Test/ToyasCard.lean, 'card_holds'). Laid BY PROGRAM, IN A SANDBOX (cutbox-door.mjs). By AI agents, Wed Nov 11 2026. No macro, syntax, notation, axiom, sorry.
-/
import Derived.Test.YtkidomfnmpnmaaaGreatDoorRows
import GoSem.ClaimSeven
namespace Go.Proofs.YtkidomfnmpnmaaaGreatDoor
namespace Rows

/-- THE TIED CARD OF 'detentlaw04.NamesMeans'. -/
def namesMeansCard : Claim7 := { stood := { row := namesMeansRow, standIns := [], harness := (true, "9b972fe92e0a29cbcdad73029964671587d0abceb38ca064ca0a2666ae0d1f1f"), looks := false }, kinds := [], alts := [], laidByText := true, laidKinds := [.data, .data, .data, .listed, .data], laidTests := true, laidLooks := .later }
def NamesMeansCardSaid : Prop := Claim7.holds Tryz.pinned (.plain (OpenSpec.ofChange namesMeansSpec)) namesMeansCard

/-- THE TIED CARD OF 'detentlaw04.NamesOthers'. -/
def namesOthersCard : Claim7 := { stood := { row := namesOthersRow, standIns := [], harness := (true, "9b972fe92e0a29cbcdad73029964671587d0abceb38ca064ca0a2666ae0d1f1f"), looks := false }, kinds := [], alts := [], laidByText := true, laidKinds := [.data, .data, .data, .listed, .data], laidTests := true, laidLooks := .later }
def NamesOthersCardSaid : Prop := Claim7.holds Tryz.pinned (.plain (OpenSpec.ofChange namesOthersSpec)) namesOthersCard

/-- THE SECOND FORM's CARD OF 'detentlaw04.NamesMeans'. -/
def namesMeansUptoCard : Claim7 := { stood := { row := namesMeansUptoRow, standIns := [], harness := (true, "9b972fe92e0a29cbcdad73029964671587d0abceb38ca064ca0a2666ae0d1f1f"), looks := false }, kinds := [], alts := [], laidByText := true, laidKinds := [.data, .data, .data, .listed, .data], laidTests := true, laidLooks := .later }
def NamesMeansUptoCardSaid : Prop := Claim7.holds Tryz.pinned (.plain (OpenSpec.upto namesMeansSpec)) namesMeansUptoCard

/-- THE SECOND FORM's CARD OF 'detentlaw04.NamesOthers'. -/
def namesOthersUptoCard : Claim7 := { stood := { row := namesOthersUptoRow, standIns := [], harness := (true, "9b972fe92e0a29cbcdad73029964671587d0abceb38ca064ca0a2666ae0d1f1f"), looks := false }, kinds := [], alts := [], laidByText := true, laidKinds := [.data, .data, .data, .listed, .data], laidTests := true, laidLooks := .later }
def NamesOthersUptoCardSaid : Prop := Claim7.holds Tryz.pinned (.plain (OpenSpec.upto namesOthersSpec)) namesOthersUptoCard
end Rows
end Go.Proofs.YtkidomfnmpnmaaaGreatDoor
