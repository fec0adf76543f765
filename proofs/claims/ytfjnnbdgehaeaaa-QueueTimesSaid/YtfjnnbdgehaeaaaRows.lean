/-
  No cell of these rows narrows 'for every input' (looked for: loops, veiled, ifaces, maps, wideKeys, modest, calm, conditions, laid).
  DERIVED. THE GIVEN ROWS OF THIS SEAT. 5 by the template 'for every input the law returns true; each argument reads behind the call as it read before'; 0 by the template 'total and deterministic' (their statements: YtfjnnbdgehaeaaaTotals.lean).
  GIVEN WITH THE SEED: the statements are not yours to turn. If you find one false, say at which input.
  Laid BY PROGRAM, IN A SANDBOX (cutbox-rows.mjs): the forced cells as the released guide's own fill.sh prints them over the translation ffb3e9911eb23983… (all of the seat's roots in one cut). By AI agents, Wed Nov 11 2026. No macro, syntax, notation, axiom, sorry.
-/
import Derived.Test.YtfjnnbdgehaeaaaChecked
import GoSem.Claim
import GoSem.ClaimJoined
import GoSem.ClaimMapViews
import Derived.JoinedTies
import Derived.KernelRfl
namespace Go.Proofs.Ytfjnnbdgehaeaaa
/- THE CELL 'sum', in the pinned program and in every row, IS THE sha256 OF THE DUMP (.gsa) THAT YtfjnnbdgehaeaaaProg.lean LOADS. Nothing in Lean hashes anything: it is a label: what it is worth is what the hold of that sum in a sandbox is worth. -/
noncomputable def Try.pinned : Pinned := { name := "ytfjnnbdgehaeaaa", sum := "ffb3e9911eb23983015553979536adc410cabfd80a70d5917d43298c7a82cd3b", checked := Try.checked }
namespace Rows
def none {H : Type} : Left H := { results := [], args := [] }

/-- 'detentlaw07.QueueEmpties': WHATEVER THE INPUT: true; the input reads as it did. -/
def queueEmptiesSpec : ChangeSpec := { name := "queueEmpties", fn := fun _ => fun
  | [d1, d2] => { results := [.lit (.bool true)], args := [d1, d2] }
  | _ => none }
def queueEmptiesRow : OpenClaim := { program := "ytfjnnbdgehaeaaa", sum := "ffb3e9911eb23983015553979536adc410cabfd80a70d5917d43298c7a82cd3b", func := "detent/detentlaw07.QueueEmpties", spec := "queueEmpties", unfollowed := true, recurses := true, apart := false }
def QueueEmptiesSaid : Prop := queueEmptiesRow.holds Try.pinned (OpenSpec.ofChange queueEmptiesSpec)

/-- ITS FALSE NEIGHBOUR: 'it returns false'. Refute it at one input. -/
def queueEmptiesWrong : ChangeSpec := { name := "queueEmpties", fn := fun _ => fun
  | [d1, d2] => { results := [.lit (.bool false)], args := [d1, d2] }
  | _ => none }
def QueueEmptiesWrongFalsely : Prop := queueEmptiesRow.holds Try.pinned (OpenSpec.ofChange queueEmptiesWrong)

/-- 'detentlaw07.QueueTimes': WHATEVER THE INPUT: true; the input reads as it did. -/
def queueTimesSpec : ChangeSpec := { name := "queueTimes", fn := fun _ => fun
  | [d1, d2] => { results := [.lit (.bool true)], args := [d1, d2] }
  | _ => none }
def queueTimesRow : OpenClaim := { program := "ytfjnnbdgehaeaaa", sum := "ffb3e9911eb23983015553979536adc410cabfd80a70d5917d43298c7a82cd3b", func := "detent/detentlaw07.QueueTimes", spec := "queueTimes", unfollowed := true, recurses := true, apart := false }
def QueueTimesSaid : Prop := queueTimesRow.holds Try.pinned (OpenSpec.ofChange queueTimesSpec)

/-- ITS FALSE NEIGHBOUR: 'it returns false'. Refute it at one input. -/
def queueTimesWrong : ChangeSpec := { name := "queueTimes", fn := fun _ => fun
  | [d1, d2] => { results := [.lit (.bool false)], args := [d1, d2] }
  | _ => none }
def QueueTimesWrongFalsely : Prop := queueTimesRow.holds Try.pinned (OpenSpec.ofChange queueTimesWrong)

/-- 'detentlaw07.QueuePlays': WHATEVER THE INPUT: true; the input reads as it did. -/
def queuePlaysSpec : ChangeSpec := { name := "queuePlays", fn := fun _ => fun
  | [d] => { results := [.lit (.bool true)], args := [d] }
  | _ => none }
def queuePlaysRow : OpenClaim := { program := "ytfjnnbdgehaeaaa", sum := "ffb3e9911eb23983015553979536adc410cabfd80a70d5917d43298c7a82cd3b", func := "detent/detentlaw07.QueuePlays", spec := "queuePlays", unfollowed := true, recurses := true, apart := false }
def QueuePlaysSaid : Prop := queuePlaysRow.holds Try.pinned (OpenSpec.ofChange queuePlaysSpec)

/-- ITS FALSE NEIGHBOUR: 'it returns false'. Refute it at one input. -/
def queuePlaysWrong : ChangeSpec := { name := "queuePlays", fn := fun _ => fun
  | [d] => { results := [.lit (.bool false)], args := [d] }
  | _ => none }
def QueuePlaysWrongFalsely : Prop := queuePlaysRow.holds Try.pinned (OpenSpec.ofChange queuePlaysWrong)

/-- 'detentlaw07.QueueCopies': WHATEVER THE INPUT: true; the input reads as it did. -/
def queueCopiesSpec : ChangeSpec := { name := "queueCopies", fn := fun _ => fun
  | [d1, d2, d3] => { results := [.lit (.bool true)], args := [d1, d2, d3] }
  | _ => none }
def queueCopiesRow : OpenClaim := { program := "ytfjnnbdgehaeaaa", sum := "ffb3e9911eb23983015553979536adc410cabfd80a70d5917d43298c7a82cd3b", func := "detent/detentlaw07.QueueCopies", spec := "queueCopies", unfollowed := true, recurses := true, apart := false }
def QueueCopiesSaid : Prop := queueCopiesRow.holds Try.pinned (OpenSpec.ofChange queueCopiesSpec)

/-- ITS FALSE NEIGHBOUR: 'it returns false'. Refute it at one input. -/
def queueCopiesWrong : ChangeSpec := { name := "queueCopies", fn := fun _ => fun
  | [d1, d2, d3] => { results := [.lit (.bool false)], args := [d1, d2, d3] }
  | _ => none }
def QueueCopiesWrongFalsely : Prop := queueCopiesRow.holds Try.pinned (OpenSpec.ofChange queueCopiesWrong)

/-- 'detentlaw07.QueueNil': WHATEVER THE INPUT: true; the input reads as it did. -/
def queueNilSpec : ChangeSpec := { name := "queueNil", fn := fun _ => fun
  | [] => { results := [.lit (.bool true)], args := [] }
  | _ => none }
def queueNilRow : OpenClaim := { program := "ytfjnnbdgehaeaaa", sum := "ffb3e9911eb23983015553979536adc410cabfd80a70d5917d43298c7a82cd3b", func := "detent/detentlaw07.QueueNil", spec := "queueNil", unfollowed := true, recurses := true, apart := false }
def QueueNilSaid : Prop := queueNilRow.holds Try.pinned (OpenSpec.ofChange queueNilSpec)

/-- ITS FALSE NEIGHBOUR: 'it returns false'. Refute it at one input. -/
def queueNilWrong : ChangeSpec := { name := "queueNil", fn := fun _ => fun
  | [] => { results := [.lit (.bool false)], args := [] }
  | _ => none }
def QueueNilWrongFalsely : Prop := queueNilRow.holds Try.pinned (OpenSpec.ofChange queueNilWrong)

/- THE SECOND FORM. 'bulk': how many values and letters a reading holds, each counted each time it is reached (what is shared counts as often as it is met; a slice's spare places count too). A statement '..UptoSaid' is the law's where the arguments, and the package variables that the reading takes, are together of bulk at most 1048576: NARROWER than '..Said'. Prove '..Said' where nothing that the law and all that it calls make is longer than what came in: it says more and counts as full. Else prove '..UptoSaid'. A law counts once. -/
mutual
def uptoBulk {H : Type} : DataW H → Nat
  | .lit (.string bytes) => bytes.length + 1
  | .lit _ => 1
  | .nil => 1
  | .ptr d => uptoBulk d + 1
  | .slice elems spare => uptoBulkAll elems + uptoBulkAll spare + 1
  | .agg parts => uptoBulkAll parts + 1
  | .iface _ d => uptoBulk d + 1
  | .map entries => uptoBulkEntries entries + 1
  | .held _ => 1
def uptoBulkAll {H : Type} : List (DataW H) → Nat
  | [] => 0
  | d :: r => uptoBulk d + uptoBulkAll r
def uptoBulkEntries {H : Type} : List (Lit × DataW H) → Nat
  | [] => 0
  | x :: r => uptoBulkEntry x + uptoBulkEntries r
def uptoBulkEntry {H : Type} : Lit × DataW H → Nat
  | (.string bytes, d) => bytes.length + uptoBulk d + 1
  | (_, d) => uptoBulk d + 1
 end
def uptoSmall : (H : Type) → List (DataW H) → Bool := fun _ ds => decide (uptoBulkAll ds ≤ 1048576)
def OpenSpec.upto (s : _root_.Go.ChangeSpec) : _root_.Go.OpenSpec := { _root_.Go.OpenSpec.ofChange s with cond := some uptoSmall }

/-- 'detentlaw07.QueueEmpties', WHERE WHAT IT READS IS OF BULK AT MOST 1048576: true; the input reads as it did. -/
def queueEmptiesUptoRow : OpenClaim := { program := "ytfjnnbdgehaeaaa", sum := "ffb3e9911eb23983015553979536adc410cabfd80a70d5917d43298c7a82cd3b", func := "detent/detentlaw07.QueueEmpties", spec := "queueEmpties", unfollowed := true, recurses := true, apart := false, narrowed := true }
def QueueEmptiesUptoSaid : Prop := queueEmptiesUptoRow.holds Try.pinned (OpenSpec.upto queueEmptiesSpec)

/-- 'detentlaw07.QueueTimes', WHERE WHAT IT READS IS OF BULK AT MOST 1048576: true; the input reads as it did. -/
def queueTimesUptoRow : OpenClaim := { program := "ytfjnnbdgehaeaaa", sum := "ffb3e9911eb23983015553979536adc410cabfd80a70d5917d43298c7a82cd3b", func := "detent/detentlaw07.QueueTimes", spec := "queueTimes", unfollowed := true, recurses := true, apart := false, narrowed := true }
def QueueTimesUptoSaid : Prop := queueTimesUptoRow.holds Try.pinned (OpenSpec.upto queueTimesSpec)

/-- 'detentlaw07.QueuePlays', WHERE WHAT IT READS IS OF BULK AT MOST 1048576: true; the input reads as it did. -/
def queuePlaysUptoRow : OpenClaim := { program := "ytfjnnbdgehaeaaa", sum := "ffb3e9911eb23983015553979536adc410cabfd80a70d5917d43298c7a82cd3b", func := "detent/detentlaw07.QueuePlays", spec := "queuePlays", unfollowed := true, recurses := true, apart := false, narrowed := true }
def QueuePlaysUptoSaid : Prop := queuePlaysUptoRow.holds Try.pinned (OpenSpec.upto queuePlaysSpec)

/-- 'detentlaw07.QueueCopies', WHERE WHAT IT READS IS OF BULK AT MOST 1048576: true; the input reads as it did. -/
def queueCopiesUptoRow : OpenClaim := { program := "ytfjnnbdgehaeaaa", sum := "ffb3e9911eb23983015553979536adc410cabfd80a70d5917d43298c7a82cd3b", func := "detent/detentlaw07.QueueCopies", spec := "queueCopies", unfollowed := true, recurses := true, apart := false, narrowed := true }
def QueueCopiesUptoSaid : Prop := queueCopiesUptoRow.holds Try.pinned (OpenSpec.upto queueCopiesSpec)

/-- 'detentlaw07.QueueNil', WHERE WHAT IT READS IS OF BULK AT MOST 1048576: true; the input reads as it did. -/
def queueNilUptoRow : OpenClaim := { program := "ytfjnnbdgehaeaaa", sum := "ffb3e9911eb23983015553979536adc410cabfd80a70d5917d43298c7a82cd3b", func := "detent/detentlaw07.QueueNil", spec := "queueNil", unfollowed := true, recurses := true, apart := false, narrowed := true }
def QueueNilUptoSaid : Prop := queueNilUptoRow.holds Try.pinned (OpenSpec.upto queueNilSpec)

end Rows
end Go.Proofs.Ytfjnnbdgehaeaaa
