/- The closed law of chapter 28 and what X finds, whatever comes next of its ranges over maps; its channels are one goroutine's. Conditions: none. -/
import Derived.Test.YtegpndcapbddaaaGreatRows
import Derived.Test.YtegpndcapbddaaaGreatXc
namespace Go.Proofs.YtegpndcapbddaaaGreat
open Go.X

noncomputable def choiceEnv : Env := envClone Tryz.prog 87 Tryz.f87 Tryz.func87 (by kernel_rfl) (by kernel_rfl) (by kernel_rfl) (by kernel_rfl)
theorem choice_run : eachFrom choiceEnv 3 4000 64 Hp.empty = true := by kernel_rfl

end Go.Proofs.YtegpndcapbddaaaGreat
