/-
  No cell of these rows narrows 'for every input' (looked for: loops, veiled, ifaces, maps, wideKeys, modest, calm, conditions, laid).
  DERIVED. THE GIVEN ROWS OF THIS SEAT. 3 by the template 'for every input the law returns true; each argument reads behind the call as it read before'; 0 by the template 'total and deterministic' (their statements: YteinandjhpnceaaTotals.lean).
  GIVEN WITH THE SEED: the statements are not yours to turn. If you find one false, say at which input.
  Laid BY PROGRAM, IN A SANDBOX (cutbox-rows.mjs): the forced cells as the released guide's own fill.sh prints them over the translation e3b8b7ce79cc3a75… (all of the seat's roots in one cut). By AI agents, Wed Nov 11 2026. No macro, syntax, notation, axiom, sorry.
-/
import Derived.Test.YteinandjhpnceaaChecked
import GoSem.Claim
import GoSem.ClaimJoined
import GoSem.ClaimMapViews
import Derived.JoinedTies
import Derived.KernelRfl
namespace Go.Proofs.Yteinandjhpnceaa
/- THE CELL 'sum', in the pinned program and in every row, IS THE sha256 OF THE DUMP (.gsa) THAT YteinandjhpnceaaProg.lean LOADS. Nothing in Lean hashes anything: it is a label: what it is worth is what the hold of that sum in a sandbox is worth. -/
noncomputable def Try.pinned : Pinned := { name := "yteinandjhpnceaa", sum := "e3b8b7ce79cc3a75100f02abc65c3b865654f46e510e3a6e599610cf1918f480", checked := Try.checked }
namespace Rows
def none {H : Type} : Left H := { results := [], args := [] }

/-- 'detentlaw14.ModelMany': WHATEVER THE INPUT: true; the input reads as it did. -/
def modelManySpec : ChangeSpec := { name := "modelMany", fn := fun _ => fun
  | [d] => { results := [.lit (.bool true)], args := [d] }
  | _ => none }
def modelManyRow : OpenClaim := { program := "yteinandjhpnceaa", sum := "e3b8b7ce79cc3a75100f02abc65c3b865654f46e510e3a6e599610cf1918f480", func := "detent/detentlaw14.ModelMany", spec := "modelMany", unfollowed := true, recurses := true, plainKeys := false, apart := false }
def ModelManySaid : Prop := modelManyRow.holds Try.pinned (OpenSpec.ofChange modelManySpec)

/-- ITS FALSE NEIGHBOUR: 'it returns false'. Refute it at one input. -/
def modelManyWrong : ChangeSpec := { name := "modelMany", fn := fun _ => fun
  | [d] => { results := [.lit (.bool false)], args := [d] }
  | _ => none }
def ModelManyWrongFalsely : Prop := modelManyRow.holds Try.pinned (OpenSpec.ofChange modelManyWrong)

/-- 'detentlaw14.ModelOrders': WHATEVER THE INPUT: true; the input reads as it did. -/
def modelOrdersSpec : ChangeSpec := { name := "modelOrders", fn := fun _ => fun
  | [d1, d2] => { results := [.lit (.bool true)], args := [d1, d2] }
  | _ => none }
def modelOrdersRow : OpenClaim := { program := "yteinandjhpnceaa", sum := "e3b8b7ce79cc3a75100f02abc65c3b865654f46e510e3a6e599610cf1918f480", func := "detent/detentlaw14.ModelOrders", spec := "modelOrders", unfollowed := true, recurses := true, plainKeys := false, apart := false }
def ModelOrdersSaid : Prop := modelOrdersRow.holds Try.pinned (OpenSpec.ofChange modelOrdersSpec)

/-- ITS FALSE NEIGHBOUR: 'it returns false'. Refute it at one input. -/
def modelOrdersWrong : ChangeSpec := { name := "modelOrders", fn := fun _ => fun
  | [d1, d2] => { results := [.lit (.bool false)], args := [d1, d2] }
  | _ => none }
def ModelOrdersWrongFalsely : Prop := modelOrdersRow.holds Try.pinned (OpenSpec.ofChange modelOrdersWrong)

/-- 'detentlaw14.ModelTasks': WHATEVER THE INPUT: true; the input reads as it did. -/
def modelTasksSpec : ChangeSpec := { name := "modelTasks", fn := fun _ => fun
  | [d1, d2] => { results := [.lit (.bool true)], args := [d1, d2] }
  | _ => none }
def modelTasksRow : OpenClaim := { program := "yteinandjhpnceaa", sum := "e3b8b7ce79cc3a75100f02abc65c3b865654f46e510e3a6e599610cf1918f480", func := "detent/detentlaw14.ModelTasks", spec := "modelTasks", unfollowed := true, recurses := true, plainKeys := false, apart := false }
def ModelTasksSaid : Prop := modelTasksRow.holds Try.pinned (OpenSpec.ofChange modelTasksSpec)

/-- ITS FALSE NEIGHBOUR: 'it returns false'. Refute it at one input. -/
def modelTasksWrong : ChangeSpec := { name := "modelTasks", fn := fun _ => fun
  | [d1, d2] => { results := [.lit (.bool false)], args := [d1, d2] }
  | _ => none }
def ModelTasksWrongFalsely : Prop := modelTasksRow.holds Try.pinned (OpenSpec.ofChange modelTasksWrong)

/- THE SECOND FORM. 'bulk': how many values and letters a reading holds, each counted each time it is reached (what is shared counts as often as it is met; a slice's spare places count too). A statement '..UptoSaid' is the law's where the arguments, and the package variables that the reading takes, are together of bulk at most 1048576: NARROWER than '..Said'. Prove '..Said' where nothing that the law and all that it calls make is longer than what came in: it says more and counts as full. Else prove '..UptoSaid'. A law counts once. -/
mutual
def uptoBulk {H : Type} : DataW H → Nat
  | .lit (.string bytes) => bytes.length + 1
  | .lit _ => 1
  | .nil => 1
  | .ptr d => uptoBulk d + 1
  | .slice elems spare => uptoBulkAll elems + uptoBulkAll spare + 1
  | .agg parts => uptoBulkAll parts + 1
  | .iface _ d => uptoBulk d + 1
  | .map entries => uptoBulkEntries entries + 1
  | .held _ => 1
def uptoBulkAll {H : Type} : List (DataW H) → Nat
  | [] => 0
  | d :: r => uptoBulk d + uptoBulkAll r
def uptoBulkEntries {H : Type} : List (Lit × DataW H) → Nat
  | [] => 0
  | x :: r => uptoBulkEntry x + uptoBulkEntries r
def uptoBulkEntry {H : Type} : Lit × DataW H → Nat
  | (.string bytes, d) => bytes.length + uptoBulk d + 1
  | (_, d) => uptoBulk d + 1
 end
def uptoSmall : (H : Type) → List (DataW H) → Bool := fun _ ds => decide (uptoBulkAll ds ≤ 1048576)
def OpenSpec.upto (s : _root_.Go.ChangeSpec) : _root_.Go.OpenSpec := { _root_.Go.OpenSpec.ofChange s with cond := some uptoSmall }

/-- 'detentlaw14.ModelMany', WHERE WHAT IT READS IS OF BULK AT MOST 1048576: true; the input reads as it did. -/
def modelManyUptoRow : OpenClaim := { program := "yteinandjhpnceaa", sum := "e3b8b7ce79cc3a75100f02abc65c3b865654f46e510e3a6e599610cf1918f480", func := "detent/detentlaw14.ModelMany", spec := "modelMany", unfollowed := true, recurses := true, plainKeys := false, apart := false, narrowed := true }
def ModelManyUptoSaid : Prop := modelManyUptoRow.holds Try.pinned (OpenSpec.upto modelManySpec)

/-- 'detentlaw14.ModelOrders', WHERE WHAT IT READS IS OF BULK AT MOST 1048576: true; the input reads as it did. -/
def modelOrdersUptoRow : OpenClaim := { program := "yteinandjhpnceaa", sum := "e3b8b7ce79cc3a75100f02abc65c3b865654f46e510e3a6e599610cf1918f480", func := "detent/detentlaw14.ModelOrders", spec := "modelOrders", unfollowed := true, recurses := true, plainKeys := false, apart := false, narrowed := true }
def ModelOrdersUptoSaid : Prop := modelOrdersUptoRow.holds Try.pinned (OpenSpec.upto modelOrdersSpec)

/-- 'detentlaw14.ModelTasks', WHERE WHAT IT READS IS OF BULK AT MOST 1048576: true; the input reads as it did. -/
def modelTasksUptoRow : OpenClaim := { program := "yteinandjhpnceaa", sum := "e3b8b7ce79cc3a75100f02abc65c3b865654f46e510e3a6e599610cf1918f480", func := "detent/detentlaw14.ModelTasks", spec := "modelTasks", unfollowed := true, recurses := true, plainKeys := false, apart := false, narrowed := true }
def ModelTasksUptoSaid : Prop := modelTasksUptoRow.holds Try.pinned (OpenSpec.upto modelTasksSpec)

end Rows
end Go.Proofs.Yteinandjhpnceaa
