/-
  DERIVED. GIVEN WITH THE SEED: THE CARDS: each row of YtgcapnlfkomgpaaDoorRows.lean that lists a variable, with what it lists TIED to the program's text (the seventh form; the later family's looks); each row that meets fmt, with fmt's text TOLD by the authors' own Lean function (tested against real Go, not proved from fmt's source: count such statements apart). THE CARD IS WHAT COUNTS. Prove the row's statement (the work); the ties are given (YtgcapnlfkomgpaaDoorTie.lean); close each card by the builder's one call (the guide's Derived/Test/ToyasCard.lean, 'card_holds'). Laid BY PROGRAM, IN A SANDBOX (cutbox-door.mjs). By AI agents, Wed Nov 11 2026. No macro, syntax, notation, axiom, sorry.
-/
import Derived.Test.YtgcapnlfkomgpaaDoorRows
import GoSem.ClaimSeven
namespace Go.Proofs.YtgcapnlfkomgpaaDoor
namespace Rows

/-- THE TIED CARD OF 'detentlaw17.BitsCopies'. -/
def bitsCopiesCard : Claim7 := { stood := { row := bitsCopiesRow, standIns := [], harness := (true, "221da8ee804bc23be961c51358b34d77db98146d7a49556ae6838f9c2d4cb449"), looks := false }, kinds := [], alts := [], laidByText := true, laidKinds := [.data], laidTests := true, laidLooks := .later }
def BitsCopiesCardSaid : Prop := Claim7.holds Tryd.pinned (.plain (OpenSpec.ofChange bitsCopiesSpec)) bitsCopiesCard

/-- THE TIED CARD OF 'detentlaw17.BitsCloses'. -/
def bitsClosesCard : Claim7 := { stood := { row := bitsClosesRow, standIns := [], harness := (true, "221da8ee804bc23be961c51358b34d77db98146d7a49556ae6838f9c2d4cb449"), looks := false }, kinds := [], alts := [], laidByText := true, laidKinds := [.data], laidTests := true, laidLooks := .later }
def BitsClosesCardSaid : Prop := Claim7.holds Tryd.pinned (.plain (OpenSpec.ofChange bitsClosesSpec)) bitsClosesCard

/-- THE TIED CARD OF 'detentlaw17.BitsSteps'. -/
def bitsStepsCard : Claim7 := { stood := { row := bitsStepsRow, standIns := [], harness := (true, "221da8ee804bc23be961c51358b34d77db98146d7a49556ae6838f9c2d4cb449"), looks := false }, kinds := [], alts := [], laidByText := true, laidKinds := [.data], laidTests := true, laidLooks := .later }
def BitsStepsCardSaid : Prop := Claim7.holds Tryd.pinned (.plain (OpenSpec.ofChange bitsStepsSpec)) bitsStepsCard

/-- THE TIED CARD OF 'detentlaw17.BitsPlays'. -/
def bitsPlaysCard : Claim7 := { stood := { row := bitsPlaysRow, standIns := [], harness := (true, "221da8ee804bc23be961c51358b34d77db98146d7a49556ae6838f9c2d4cb449"), looks := false }, kinds := [], alts := [], laidByText := true, laidKinds := [.data], laidTests := true, laidLooks := .later }
def BitsPlaysCardSaid : Prop := Claim7.holds Tryd.pinned (.plain (OpenSpec.ofChange bitsPlaysSpec)) bitsPlaysCard

/-- THE SECOND FORM's CARD OF 'detentlaw17.BitsCopies'. -/
def bitsCopiesUptoCard : Claim7 := { stood := { row := bitsCopiesUptoRow, standIns := [], harness := (true, "221da8ee804bc23be961c51358b34d77db98146d7a49556ae6838f9c2d4cb449"), looks := false }, kinds := [], alts := [], laidByText := true, laidKinds := [.data], laidTests := true, laidLooks := .later }
def BitsCopiesUptoCardSaid : Prop := Claim7.holds Tryd.pinned (.plain (OpenSpec.upto bitsCopiesSpec)) bitsCopiesUptoCard

/-- THE SECOND FORM's CARD OF 'detentlaw17.BitsCloses'. -/
def bitsClosesUptoCard : Claim7 := { stood := { row := bitsClosesUptoRow, standIns := [], harness := (true, "221da8ee804bc23be961c51358b34d77db98146d7a49556ae6838f9c2d4cb449"), looks := false }, kinds := [], alts := [], laidByText := true, laidKinds := [.data], laidTests := true, laidLooks := .later }
def BitsClosesUptoCardSaid : Prop := Claim7.holds Tryd.pinned (.plain (OpenSpec.upto bitsClosesSpec)) bitsClosesUptoCard

/-- THE SECOND FORM's CARD OF 'detentlaw17.BitsSteps'. -/
def bitsStepsUptoCard : Claim7 := { stood := { row := bitsStepsUptoRow, standIns := [], harness := (true, "221da8ee804bc23be961c51358b34d77db98146d7a49556ae6838f9c2d4cb449"), looks := false }, kinds := [], alts := [], laidByText := true, laidKinds := [.data], laidTests := true, laidLooks := .later }
def BitsStepsUptoCardSaid : Prop := Claim7.holds Tryd.pinned (.plain (OpenSpec.upto bitsStepsSpec)) bitsStepsUptoCard

/-- THE SECOND FORM's CARD OF 'detentlaw17.BitsPlays'. -/
def bitsPlaysUptoCard : Claim7 := { stood := { row := bitsPlaysUptoRow, standIns := [], harness := (true, "221da8ee804bc23be961c51358b34d77db98146d7a49556ae6838f9c2d4cb449"), looks := false }, kinds := [], alts := [], laidByText := true, laidKinds := [.data], laidTests := true, laidLooks := .later }
def BitsPlaysUptoCardSaid : Prop := Claim7.holds Tryd.pinned (.plain (OpenSpec.upto bitsPlaysSpec)) bitsPlaysUptoCard
end Rows
end Go.Proofs.YtgcapnlfkomgpaaDoor
