/- The closed law of chapter 21 and what X finds. Conditions: none. -/
import Derived.Test.YtkbmagikdfpcaaaGreatDoorRows
import Derived.Test.YtkbmagikdfpcaaaGreatDoorXc
namespace Go.Proofs.YtkbmagikdfpcaaaGreatDoor
open Go.X

def deB : List Int := [0, 1, 56, 2, 57, 49, 28, 3, 61, 58, 42, 50, 38, 29, 17, 4, 62, 47, 59, 36, 45, 43, 51, 22, 53, 39, 33, 30, 24, 18, 12, 5, 63, 55, 48, 27, 60, 41, 37, 16, 46, 35, 44, 21, 52, 32, 23, 11, 54, 26, 40, 15, 34, 20, 31, 10, 25, 14, 19, 9, 13, 8, 7, 6]
noncomputable def orderEnv : Env := envQ Tryz.prog
theorem order_fast (e : Nat) : truthQ orderEnv 4 24000 (tabHp 0 (deB.map fun z => Value.int .u8 z) e) = true := by kernel_rfl
theorem order_run (e : Nat) : ∃ m, truthFrom orderEnv 4 m (tabHp 0 (deB.map fun z => Value.int .u8 z) e) = true := truthQ_from (order_fast e)

end Go.Proofs.YtkbmagikdfpcaaaGreatDoor
