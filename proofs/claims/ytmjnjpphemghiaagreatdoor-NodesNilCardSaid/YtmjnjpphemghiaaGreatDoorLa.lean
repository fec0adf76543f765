/- The closed law of chapter 20 and what X finds. Conditions: none. -/
import Derived.Test.YtmjnjpphemghiaaGreatDoorRows
import Derived.Test.YtmjnjpphemghiaaGreatDoorXc
namespace Go.Proofs.YtmjnjpphemghiaaGreatDoor
open Go.X

def deB : List Int := [0, 1, 56, 2, 57, 49, 28, 3, 61, 58, 42, 50, 38, 29, 17, 4, 62, 47, 59, 36, 45, 43, 51, 22, 53, 39, 33, 30, 24, 18, 12, 5, 63, 55, 48, 27, 60, 41, 37, 16, 46, 35, 44, 21, 52, 32, 23, 11, 54, 26, 40, 15, 34, 20, 31, 10, 25, 14, 19, 9, 13, 8, 7, 6]
noncomputable def nodesEnv : Env := envOf Tryz.prog
theorem nodes_fast (e : Nat) : truthQ nodesEnv 3 12000 (tabHp 0 (deB.map fun z => Value.int .u8 z) e) = true := by kernel_rfl
theorem nodes_run (e : Nat) : ∃ m, truthFrom nodesEnv 3 m (tabHp 0 (deB.map fun z => Value.int .u8 z) e) = true := truthQ_from (nodes_fast e)

end Go.Proofs.YtmjnjpphemghiaaGreatDoor
