/- Chapter 9: the machine over the chapter's program, with what is known of functions without parameters. Conditions: none. -/
import Derived.Test.YtkmbfjdmbdpflaaRows
import Derived.Test.YtkmbfjdmbdpflaaXWS
namespace Go.Proofs.Ytkmbfjdmbdpflaa
open Go.X Go.RowKit

theorem life_mixed : Try.prog.follows .mixedOrders = true := by kernel_rfl
noncomputable def lifeE0 : Env := envOf Try.prog
theorem life_known : truthX lifeE0 11 20000 = true := by kernel_rfl
def leadsV : Value := .agg #[.bool false, .bool true, .bool false, .bool false, .bool false, .bool false, .bool false, .bool true, .bool false, .bool true, .bool false, .bool false, .bool false, .bool true, .bool false, .bool false, .bool false, .bool true, .bool false, .bool true, .bool false, .bool false, .bool false, .bool false, .bool false]
def afterV : Value := .agg #[.int .i64 1, .int .i64 2, .int .i64 3, .int .i64 4]
theorem life_leads : valueX lifeE0 47 2000 = some leadsV := by kernel_rfl
theorem life_after : valueX lifeE0 48 100 = some afterV := by kernel_rfl
noncomputable def lifeE1 : Env := envKnown lifeE0 11 (truth_below lifeE0 life_mixed life_known)
noncomputable def lifeE2 : Env := envValue lifeE1 47 leadsV rfl (value_below lifeE0 life_mixed life_leads rfl)
noncomputable def lifeE : Env := envValue lifeE2 48 afterV rfl (value_below lifeE0 life_mixed life_after rfl)


end Go.Proofs.Ytkmbfjdmbdpflaa
