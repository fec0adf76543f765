/-
  No cell of these rows narrows 'for every input' (looked for: loops, veiled, ifaces, maps, wideKeys, modest, calm, conditions, laid).
  DERIVED. THE GIVEN ROWS OF THIS SEAT. 8 by the template 'for every input the law returns true; each argument reads behind the call as it read before'; 0 by the template 'total and deterministic' (their statements: YtkmbfjdmbdpflaaTotals.lean).
  GIVEN WITH THE SEED: the statements are not yours to turn. If you find one false, say at which input.
  Laid BY PROGRAM, IN A SANDBOX (cutbox-rows.mjs): the forced cells as the released guide's own fill.sh prints them over the translation 48a4e1deb28792e6… (all of the seat's roots in one cut). By AI agents, Wed Nov 11 2026. No macro, syntax, notation, axiom, sorry.
-/
import Derived.Test.YtkmbfjdmbdpflaaChecked
import GoSem.Claim
import GoSem.ClaimJoined
import GoSem.ClaimMapViews
import Derived.JoinedTies
import Derived.KernelRfl
namespace Go.Proofs.Ytkmbfjdmbdpflaa
/- THE CELL 'sum', in the pinned program and in every row, IS THE sha256 OF THE DUMP (.gsa) THAT YtkmbfjdmbdpflaaProg.lean LOADS. Nothing in Lean hashes anything: it is a label: what it is worth is what the hold of that sum in a sandbox is worth. -/
noncomputable def Try.pinned : Pinned := { name := "ytkmbfjdmbdpflaa", sum := "48a4e1deb28792e6637b49532d512e9340b61b89ddfc74a8f10f918cbe789b56", checked := Try.checked }
namespace Rows
def none {H : Type} : Left H := { results := [], args := [] }

/-- 'detentlaw09.LifeTurns': WHATEVER THE INPUT: true; the input reads as it did. -/
def lifeTurnsSpec : ChangeSpec := { name := "lifeTurns", fn := fun _ => fun
  | [d] => { results := [.lit (.bool true)], args := [d] }
  | _ => none }
def lifeTurnsRow : OpenClaim := { program := "ytkmbfjdmbdpflaa", sum := "48a4e1deb28792e6637b49532d512e9340b61b89ddfc74a8f10f918cbe789b56", func := "detent/detentlaw09.LifeTurns", spec := "lifeTurns", apart := false }
def LifeTurnsSaid : Prop := lifeTurnsRow.holds Try.pinned (OpenSpec.ofChange lifeTurnsSpec)

/-- ITS FALSE NEIGHBOUR: 'it returns false'. Refute it at one input. -/
def lifeTurnsWrong : ChangeSpec := { name := "lifeTurns", fn := fun _ => fun
  | [d] => { results := [.lit (.bool false)], args := [d] }
  | _ => none }
def LifeTurnsWrongFalsely : Prop := lifeTurnsRow.holds Try.pinned (OpenSpec.ofChange lifeTurnsWrong)

/-- 'detentlaw09.LifePlays': WHATEVER THE INPUT: true; the input reads as it did. -/
def lifePlaysSpec : ChangeSpec := { name := "lifePlays", fn := fun _ => fun
  | [d1, d2, d3] => { results := [.lit (.bool true)], args := [d1, d2, d3] }
  | _ => none }
def lifePlaysRow : OpenClaim := { program := "ytkmbfjdmbdpflaa", sum := "48a4e1deb28792e6637b49532d512e9340b61b89ddfc74a8f10f918cbe789b56", func := "detent/detentlaw09.LifePlays", spec := "lifePlays", apart := false }
def LifePlaysSaid : Prop := lifePlaysRow.holds Try.pinned (OpenSpec.ofChange lifePlaysSpec)

/-- ITS FALSE NEIGHBOUR: 'it returns false'. Refute it at one input. -/
def lifePlaysWrong : ChangeSpec := { name := "lifePlays", fn := fun _ => fun
  | [d1, d2, d3] => { results := [.lit (.bool false)], args := [d1, d2, d3] }
  | _ => none }
def LifePlaysWrongFalsely : Prop := lifePlaysRow.holds Try.pinned (OpenSpec.ofChange lifePlaysWrong)

/-- 'detentlaw08.HeapMany': WHATEVER THE INPUT: true; the input reads as it did. -/
def heapManySpec : ChangeSpec := { name := "heapMany", fn := fun _ => fun
  | [d1, d2] => { results := [.lit (.bool true)], args := [d1, d2] }
  | _ => none }
def heapManyRow : OpenClaim := { program := "ytkmbfjdmbdpflaa", sum := "48a4e1deb28792e6637b49532d512e9340b61b89ddfc74a8f10f918cbe789b56", func := "detent/detentlaw08.HeapMany", spec := "heapMany", apart := false }
def HeapManySaid : Prop := heapManyRow.holds Try.pinned (OpenSpec.ofChange heapManySpec)

/-- ITS FALSE NEIGHBOUR: 'it returns false'. Refute it at one input. -/
def heapManyWrong : ChangeSpec := { name := "heapMany", fn := fun _ => fun
  | [d1, d2] => { results := [.lit (.bool false)], args := [d1, d2] }
  | _ => none }
def HeapManyWrongFalsely : Prop := heapManyRow.holds Try.pinned (OpenSpec.ofChange heapManyWrong)

/-- 'detentlaw09.LifeCopies': WHATEVER THE INPUT: true; the input reads as it did. -/
def lifeCopiesSpec : ChangeSpec := { name := "lifeCopies", fn := fun _ => fun
  | [d1, d2, d3, d4] => { results := [.lit (.bool true)], args := [d1, d2, d3, d4] }
  | _ => none }
def lifeCopiesRow : OpenClaim := { program := "ytkmbfjdmbdpflaa", sum := "48a4e1deb28792e6637b49532d512e9340b61b89ddfc74a8f10f918cbe789b56", func := "detent/detentlaw09.LifeCopies", spec := "lifeCopies", apart := false }
def LifeCopiesSaid : Prop := lifeCopiesRow.holds Try.pinned (OpenSpec.ofChange lifeCopiesSpec)

/-- ITS FALSE NEIGHBOUR: 'it returns false'. Refute it at one input. -/
def lifeCopiesWrong : ChangeSpec := { name := "lifeCopies", fn := fun _ => fun
  | [d1, d2, d3, d4] => { results := [.lit (.bool false)], args := [d1, d2, d3, d4] }
  | _ => none }
def LifeCopiesWrongFalsely : Prop := lifeCopiesRow.holds Try.pinned (OpenSpec.ofChange lifeCopiesWrong)

/-- 'detentlaw09.LifeNil': WHATEVER THE INPUT: true; the input reads as it did. -/
def lifeNilSpec : ChangeSpec := { name := "lifeNil", fn := fun _ => fun
  | [] => { results := [.lit (.bool true)], args := [] }
  | _ => none }
def lifeNilRow : OpenClaim := { program := "ytkmbfjdmbdpflaa", sum := "48a4e1deb28792e6637b49532d512e9340b61b89ddfc74a8f10f918cbe789b56", func := "detent/detentlaw09.LifeNil", spec := "lifeNil", apart := false }
def LifeNilSaid : Prop := lifeNilRow.holds Try.pinned (OpenSpec.ofChange lifeNilSpec)

/-- ITS FALSE NEIGHBOUR: 'it returns false'. Refute it at one input. -/
def lifeNilWrong : ChangeSpec := { name := "lifeNil", fn := fun _ => fun
  | [] => { results := [.lit (.bool false)], args := [] }
  | _ => none }
def LifeNilWrongFalsely : Prop := lifeNilRow.holds Try.pinned (OpenSpec.ofChange lifeNilWrong)

/-- 'detentlaw08.HeapPlays': WHATEVER THE INPUT: true; the input reads as it did. -/
def heapPlaysSpec : ChangeSpec := { name := "heapPlays", fn := fun _ => fun
  | [d1, d2] => { results := [.lit (.bool true)], args := [d1, d2] }
  | _ => none }
def heapPlaysRow : OpenClaim := { program := "ytkmbfjdmbdpflaa", sum := "48a4e1deb28792e6637b49532d512e9340b61b89ddfc74a8f10f918cbe789b56", func := "detent/detentlaw08.HeapPlays", spec := "heapPlays", inPlace := ["maps.clone"], unfollowed := true, recurses := true, apart := false }
def HeapPlaysSaid : Prop := heapPlaysRow.holds Try.pinned (OpenSpec.ofChange heapPlaysSpec)

/-- ITS FALSE NEIGHBOUR: 'it returns false'. Refute it at one input. -/
def heapPlaysWrong : ChangeSpec := { name := "heapPlays", fn := fun _ => fun
  | [d1, d2] => { results := [.lit (.bool false)], args := [d1, d2] }
  | _ => none }
def HeapPlaysWrongFalsely : Prop := heapPlaysRow.holds Try.pinned (OpenSpec.ofChange heapPlaysWrong)

/-- 'detentlaw08.HeapCopies': WHATEVER THE INPUT: true; the input reads as it did. -/
def heapCopiesSpec : ChangeSpec := { name := "heapCopies", fn := fun _ => fun
  | [d1, d2, d3] => { results := [.lit (.bool true)], args := [d1, d2, d3] }
  | _ => none }
def heapCopiesRow : OpenClaim := { program := "ytkmbfjdmbdpflaa", sum := "48a4e1deb28792e6637b49532d512e9340b61b89ddfc74a8f10f918cbe789b56", func := "detent/detentlaw08.HeapCopies", spec := "heapCopies", inPlace := ["maps.clone"], unfollowed := true, recurses := true, apart := false }
def HeapCopiesSaid : Prop := heapCopiesRow.holds Try.pinned (OpenSpec.ofChange heapCopiesSpec)

/-- ITS FALSE NEIGHBOUR: 'it returns false'. Refute it at one input. -/
def heapCopiesWrong : ChangeSpec := { name := "heapCopies", fn := fun _ => fun
  | [d1, d2, d3] => { results := [.lit (.bool false)], args := [d1, d2, d3] }
  | _ => none }
def HeapCopiesWrongFalsely : Prop := heapCopiesRow.holds Try.pinned (OpenSpec.ofChange heapCopiesWrong)

/-- 'detentlaw08.HeapNil': WHATEVER THE INPUT: true; the input reads as it did. -/
def heapNilSpec : ChangeSpec := { name := "heapNil", fn := fun _ => fun
  | [] => { results := [.lit (.bool true)], args := [] }
  | _ => none }
def heapNilRow : OpenClaim := { program := "ytkmbfjdmbdpflaa", sum := "48a4e1deb28792e6637b49532d512e9340b61b89ddfc74a8f10f918cbe789b56", func := "detent/detentlaw08.HeapNil", spec := "heapNil", inPlace := ["maps.clone"], unfollowed := true, recurses := true, apart := false }
def HeapNilSaid : Prop := heapNilRow.holds Try.pinned (OpenSpec.ofChange heapNilSpec)

/-- ITS FALSE NEIGHBOUR: 'it returns false'. Refute it at one input. -/
def heapNilWrong : ChangeSpec := { name := "heapNil", fn := fun _ => fun
  | [] => { results := [.lit (.bool false)], args := [] }
  | _ => none }
def HeapNilWrongFalsely : Prop := heapNilRow.holds Try.pinned (OpenSpec.ofChange heapNilWrong)

/- THE SECOND FORM. 'bulk': how many values and letters a reading holds, each counted each time it is reached (what is shared counts as often as it is met; a slice's spare places count too). A statement '..UptoSaid' is the law's where the arguments, and the package variables that the reading takes, are together of bulk at most 1048576: NARROWER than '..Said'. Prove '..Said' where nothing that the law and all that it calls make is longer than what came in: it says more and counts as full. Else prove '..UptoSaid'. A law counts once. -/
mutual
def uptoBulk {H : Type} : DataW H → Nat
  | .lit (.string bytes) => bytes.length + 1
  | .lit _ => 1
  | .nil => 1
  | .ptr d => uptoBulk d + 1
  | .slice elems spare => uptoBulkAll elems + uptoBulkAll spare + 1
  | .agg parts => uptoBulkAll parts + 1
  | .iface _ d => uptoBulk d + 1
  | .map entries => uptoBulkEntries entries + 1
  | .held _ => 1
def uptoBulkAll {H : Type} : List (DataW H) → Nat
  | [] => 0
  | d :: r => uptoBulk d + uptoBulkAll r
def uptoBulkEntries {H : Type} : List (Lit × DataW H) → Nat
  | [] => 0
  | x :: r => uptoBulkEntry x + uptoBulkEntries r
def uptoBulkEntry {H : Type} : Lit × DataW H → Nat
  | (.string bytes, d) => bytes.length + uptoBulk d + 1
  | (_, d) => uptoBulk d + 1
 end
def uptoSmall : (H : Type) → List (DataW H) → Bool := fun _ ds => decide (uptoBulkAll ds ≤ 1048576)
def OpenSpec.upto (s : _root_.Go.ChangeSpec) : _root_.Go.OpenSpec := { _root_.Go.OpenSpec.ofChange s with cond := some uptoSmall }

/-- 'detentlaw09.LifeTurns', WHERE WHAT IT READS IS OF BULK AT MOST 1048576: true; the input reads as it did. -/
def lifeTurnsUptoRow : OpenClaim := { program := "ytkmbfjdmbdpflaa", sum := "48a4e1deb28792e6637b49532d512e9340b61b89ddfc74a8f10f918cbe789b56", func := "detent/detentlaw09.LifeTurns", spec := "lifeTurns", apart := false, narrowed := true }
def LifeTurnsUptoSaid : Prop := lifeTurnsUptoRow.holds Try.pinned (OpenSpec.upto lifeTurnsSpec)

/-- 'detentlaw09.LifePlays', WHERE WHAT IT READS IS OF BULK AT MOST 1048576: true; the input reads as it did. -/
def lifePlaysUptoRow : OpenClaim := { program := "ytkmbfjdmbdpflaa", sum := "48a4e1deb28792e6637b49532d512e9340b61b89ddfc74a8f10f918cbe789b56", func := "detent/detentlaw09.LifePlays", spec := "lifePlays", apart := false, narrowed := true }
def LifePlaysUptoSaid : Prop := lifePlaysUptoRow.holds Try.pinned (OpenSpec.upto lifePlaysSpec)

/-- 'detentlaw08.HeapMany', WHERE WHAT IT READS IS OF BULK AT MOST 1048576: true; the input reads as it did. -/
def heapManyUptoRow : OpenClaim := { program := "ytkmbfjdmbdpflaa", sum := "48a4e1deb28792e6637b49532d512e9340b61b89ddfc74a8f10f918cbe789b56", func := "detent/detentlaw08.HeapMany", spec := "heapMany", apart := false, narrowed := true }
def HeapManyUptoSaid : Prop := heapManyUptoRow.holds Try.pinned (OpenSpec.upto heapManySpec)

/-- 'detentlaw09.LifeCopies', WHERE WHAT IT READS IS OF BULK AT MOST 1048576: true; the input reads as it did. -/
def lifeCopiesUptoRow : OpenClaim := { program := "ytkmbfjdmbdpflaa", sum := "48a4e1deb28792e6637b49532d512e9340b61b89ddfc74a8f10f918cbe789b56", func := "detent/detentlaw09.LifeCopies", spec := "lifeCopies", apart := false, narrowed := true }
def LifeCopiesUptoSaid : Prop := lifeCopiesUptoRow.holds Try.pinned (OpenSpec.upto lifeCopiesSpec)

/-- 'detentlaw09.LifeNil', WHERE WHAT IT READS IS OF BULK AT MOST 1048576: true; the input reads as it did. -/
def lifeNilUptoRow : OpenClaim := { program := "ytkmbfjdmbdpflaa", sum := "48a4e1deb28792e6637b49532d512e9340b61b89ddfc74a8f10f918cbe789b56", func := "detent/detentlaw09.LifeNil", spec := "lifeNil", apart := false, narrowed := true }
def LifeNilUptoSaid : Prop := lifeNilUptoRow.holds Try.pinned (OpenSpec.upto lifeNilSpec)

/-- 'detentlaw08.HeapPlays', WHERE WHAT IT READS IS OF BULK AT MOST 1048576: true; the input reads as it did. -/
def heapPlaysUptoRow : OpenClaim := { program := "ytkmbfjdmbdpflaa", sum := "48a4e1deb28792e6637b49532d512e9340b61b89ddfc74a8f10f918cbe789b56", func := "detent/detentlaw08.HeapPlays", spec := "heapPlays", inPlace := ["maps.clone"], unfollowed := true, recurses := true, apart := false, narrowed := true }
def HeapPlaysUptoSaid : Prop := heapPlaysUptoRow.holds Try.pinned (OpenSpec.upto heapPlaysSpec)

/-- 'detentlaw08.HeapCopies', WHERE WHAT IT READS IS OF BULK AT MOST 1048576: true; the input reads as it did. -/
def heapCopiesUptoRow : OpenClaim := { program := "ytkmbfjdmbdpflaa", sum := "48a4e1deb28792e6637b49532d512e9340b61b89ddfc74a8f10f918cbe789b56", func := "detent/detentlaw08.HeapCopies", spec := "heapCopies", inPlace := ["maps.clone"], unfollowed := true, recurses := true, apart := false, narrowed := true }
def HeapCopiesUptoSaid : Prop := heapCopiesUptoRow.holds Try.pinned (OpenSpec.upto heapCopiesSpec)

/-- 'detentlaw08.HeapNil', WHERE WHAT IT READS IS OF BULK AT MOST 1048576: true; the input reads as it did. -/
def heapNilUptoRow : OpenClaim := { program := "ytkmbfjdmbdpflaa", sum := "48a4e1deb28792e6637b49532d512e9340b61b89ddfc74a8f10f918cbe789b56", func := "detent/detentlaw08.HeapNil", spec := "heapNil", inPlace := ["maps.clone"], unfollowed := true, recurses := true, apart := false, narrowed := true }
def HeapNilUptoSaid : Prop := heapNilUptoRow.holds Try.pinned (OpenSpec.upto heapNilSpec)

end Rows
end Go.Proofs.Ytkmbfjdmbdpflaa
