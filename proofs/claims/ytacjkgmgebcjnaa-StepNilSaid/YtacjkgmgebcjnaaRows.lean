/-
  No cell of these rows narrows 'for every input' (looked for: loops, veiled, ifaces, maps, wideKeys, modest, calm, conditions, laid).
  DERIVED. THE GIVEN ROWS OF THIS SEAT. 4 by the template 'for every input the law returns true; each argument reads behind the call as it read before'; 0 by the template 'total and deterministic' (their statements: YtacjkgmgebcjnaaTotals.lean).
  GIVEN WITH THE SEED: the statements are not yours to turn. If you find one false, say at which input.
  Laid BY PROGRAM, IN A SANDBOX (cutbox-rows.mjs): the forced cells as the released guide's own fill.sh prints them over the translation c902e1338136043b… (all of the seat's roots in one cut). By AI agents, Wed Nov 11 2026. No macro, syntax, notation, axiom, sorry.
-/
import Derived.Test.YtacjkgmgebcjnaaChecked
import GoSem.Claim
import GoSem.ClaimJoined
import GoSem.ClaimMapViews
import Derived.JoinedTies
import Derived.KernelRfl
namespace Go.Proofs.Ytacjkgmgebcjnaa
/- THE CELL 'sum', in the pinned program and in every row, IS THE sha256 OF THE DUMP (.gsa) THAT YtacjkgmgebcjnaaProg.lean LOADS. Nothing in Lean hashes anything: it is a label: what it is worth is what the hold of that sum in a sandbox is worth. -/
noncomputable def Try.pinned : Pinned := { name := "ytacjkgmgebcjnaa", sum := "c902e1338136043b6e794cab095541d9718f8290dc07e9ae7ee77b1f14b8b999", checked := Try.checked }
namespace Rows
def none {H : Type} : Left H := { results := [], args := [] }

/-- 'detentlaw10.StepNil': WHATEVER THE INPUT: true; the input reads as it did. -/
def stepNilSpec : ChangeSpec := { name := "stepNil", fn := fun _ => fun
  | [] => { results := [.lit (.bool true)], args := [] }
  | _ => none }
def stepNilRow : OpenClaim := { program := "ytacjkgmgebcjnaa", sum := "c902e1338136043b6e794cab095541d9718f8290dc07e9ae7ee77b1f14b8b999", func := "detent/detentlaw10.StepNil", spec := "stepNil", unfollowed := true, recurses := true, plainKeys := false, apart := false }
def StepNilSaid : Prop := stepNilRow.holds Try.pinned (OpenSpec.ofChange stepNilSpec)

/-- ITS FALSE NEIGHBOUR: 'it returns false'. Refute it at one input. -/
def stepNilWrong : ChangeSpec := { name := "stepNil", fn := fun _ => fun
  | [] => { results := [.lit (.bool false)], args := [] }
  | _ => none }
def StepNilWrongFalsely : Prop := stepNilRow.holds Try.pinned (OpenSpec.ofChange stepNilWrong)

/-- 'detentlaw15.ClockNil': WHATEVER THE INPUT: true; the input reads as it did. -/
def clockNilSpec : ChangeSpec := { name := "clockNil", fn := fun _ => fun
  | [] => { results := [.lit (.bool true)], args := [] }
  | _ => none }
def clockNilRow : OpenClaim := { program := "ytacjkgmgebcjnaa", sum := "c902e1338136043b6e794cab095541d9718f8290dc07e9ae7ee77b1f14b8b999", func := "detent/detentlaw15.ClockNil", spec := "clockNil", inPlace := ["maps.clone"], unfollowed := true, recurses := true, plainKeys := false, apart := false }
def ClockNilSaid : Prop := clockNilRow.holds Try.pinned (OpenSpec.ofChange clockNilSpec)

/-- ITS FALSE NEIGHBOUR: 'it returns false'. Refute it at one input. -/
def clockNilWrong : ChangeSpec := { name := "clockNil", fn := fun _ => fun
  | [] => { results := [.lit (.bool false)], args := [] }
  | _ => none }
def ClockNilWrongFalsely : Prop := clockNilRow.holds Try.pinned (OpenSpec.ofChange clockNilWrong)

/-- 'detentlaw07.QueueNil': WHATEVER THE INPUT: true; the input reads as it did. -/
def queueNilSpec : ChangeSpec := { name := "queueNil", fn := fun _ => fun
  | [] => { results := [.lit (.bool true)], args := [] }
  | _ => none }
def queueNilRow : OpenClaim := { program := "ytacjkgmgebcjnaa", sum := "c902e1338136043b6e794cab095541d9718f8290dc07e9ae7ee77b1f14b8b999", func := "detent/detentlaw07.QueueNil", spec := "queueNil", unfollowed := true, recurses := true, plainKeys := false, apart := false }
def QueueNilSaid : Prop := queueNilRow.holds Try.pinned (OpenSpec.ofChange queueNilSpec)

/-- ITS FALSE NEIGHBOUR: 'it returns false'. Refute it at one input. -/
def queueNilWrong : ChangeSpec := { name := "queueNil", fn := fun _ => fun
  | [] => { results := [.lit (.bool false)], args := [] }
  | _ => none }
def QueueNilWrongFalsely : Prop := queueNilRow.holds Try.pinned (OpenSpec.ofChange queueNilWrong)

/-- 'detentlaw16.OnlineNil': WHATEVER THE INPUT: true; the input reads as it did. -/
def onlineNilSpec : ChangeSpec := { name := "onlineNil", fn := fun _ => fun
  | [] => { results := [.lit (.bool true)], args := [] }
  | _ => none }
def onlineNilRow : OpenClaim := { program := "ytacjkgmgebcjnaa", sum := "c902e1338136043b6e794cab095541d9718f8290dc07e9ae7ee77b1f14b8b999", func := "detent/detentlaw16.OnlineNil", spec := "onlineNil", inPlace := ["maps.clone"], unfollowed := true, recurses := true, plainKeys := false, apart := false }
def OnlineNilSaid : Prop := onlineNilRow.holds Try.pinned (OpenSpec.ofChange onlineNilSpec)

/-- ITS FALSE NEIGHBOUR: 'it returns false'. Refute it at one input. -/
def onlineNilWrong : ChangeSpec := { name := "onlineNil", fn := fun _ => fun
  | [] => { results := [.lit (.bool false)], args := [] }
  | _ => none }
def OnlineNilWrongFalsely : Prop := onlineNilRow.holds Try.pinned (OpenSpec.ofChange onlineNilWrong)

/- THE SECOND FORM. 'bulk': how many values and letters a reading holds, each counted each time it is reached (what is shared counts as often as it is met; a slice's spare places count too). A statement '..UptoSaid' is the law's where the arguments, and the package variables that the reading takes, are together of bulk at most 1048576: NARROWER than '..Said'. Prove '..Said' where nothing that the law and all that it calls make is longer than what came in: it says more and counts as full. Else prove '..UptoSaid'. A law counts once. -/
mutual
def uptoBulk {H : Type} : DataW H → Nat
  | .lit (.string bytes) => bytes.length + 1
  | .lit _ => 1
  | .nil => 1
  | .ptr d => uptoBulk d + 1
  | .slice elems spare => uptoBulkAll elems + uptoBulkAll spare + 1
  | .agg parts => uptoBulkAll parts + 1
  | .iface _ d => uptoBulk d + 1
  | .map entries => uptoBulkEntries entries + 1
  | .held _ => 1
def uptoBulkAll {H : Type} : List (DataW H) → Nat
  | [] => 0
  | d :: r => uptoBulk d + uptoBulkAll r
def uptoBulkEntries {H : Type} : List (Lit × DataW H) → Nat
  | [] => 0
  | x :: r => uptoBulkEntry x + uptoBulkEntries r
def uptoBulkEntry {H : Type} : Lit × DataW H → Nat
  | (.string bytes, d) => bytes.length + uptoBulk d + 1
  | (_, d) => uptoBulk d + 1
 end
def uptoSmall : (H : Type) → List (DataW H) → Bool := fun _ ds => decide (uptoBulkAll ds ≤ 1048576)
def OpenSpec.upto (s : _root_.Go.ChangeSpec) : _root_.Go.OpenSpec := { _root_.Go.OpenSpec.ofChange s with cond := some uptoSmall }

/-- 'detentlaw10.StepNil', WHERE WHAT IT READS IS OF BULK AT MOST 1048576: true; the input reads as it did. -/
def stepNilUptoRow : OpenClaim := { program := "ytacjkgmgebcjnaa", sum := "c902e1338136043b6e794cab095541d9718f8290dc07e9ae7ee77b1f14b8b999", func := "detent/detentlaw10.StepNil", spec := "stepNil", unfollowed := true, recurses := true, plainKeys := false, apart := false, narrowed := true }
def StepNilUptoSaid : Prop := stepNilUptoRow.holds Try.pinned (OpenSpec.upto stepNilSpec)

/-- 'detentlaw15.ClockNil', WHERE WHAT IT READS IS OF BULK AT MOST 1048576: true; the input reads as it did. -/
def clockNilUptoRow : OpenClaim := { program := "ytacjkgmgebcjnaa", sum := "c902e1338136043b6e794cab095541d9718f8290dc07e9ae7ee77b1f14b8b999", func := "detent/detentlaw15.ClockNil", spec := "clockNil", inPlace := ["maps.clone"], unfollowed := true, recurses := true, plainKeys := false, apart := false, narrowed := true }
def ClockNilUptoSaid : Prop := clockNilUptoRow.holds Try.pinned (OpenSpec.upto clockNilSpec)

/-- 'detentlaw07.QueueNil', WHERE WHAT IT READS IS OF BULK AT MOST 1048576: true; the input reads as it did. -/
def queueNilUptoRow : OpenClaim := { program := "ytacjkgmgebcjnaa", sum := "c902e1338136043b6e794cab095541d9718f8290dc07e9ae7ee77b1f14b8b999", func := "detent/detentlaw07.QueueNil", spec := "queueNil", unfollowed := true, recurses := true, plainKeys := false, apart := false, narrowed := true }
def QueueNilUptoSaid : Prop := queueNilUptoRow.holds Try.pinned (OpenSpec.upto queueNilSpec)

/-- 'detentlaw16.OnlineNil', WHERE WHAT IT READS IS OF BULK AT MOST 1048576: true; the input reads as it did. -/
def onlineNilUptoRow : OpenClaim := { program := "ytacjkgmgebcjnaa", sum := "c902e1338136043b6e794cab095541d9718f8290dc07e9ae7ee77b1f14b8b999", func := "detent/detentlaw16.OnlineNil", spec := "onlineNil", inPlace := ["maps.clone"], unfollowed := true, recurses := true, plainKeys := false, apart := false, narrowed := true }
def OnlineNilUptoSaid : Prop := onlineNilUptoRow.holds Try.pinned (OpenSpec.upto onlineNilSpec)

end Rows
end Go.Proofs.Ytacjkgmgebcjnaa
