/- The closed law of chapter 18 and what X finds, whatever comes next of its range over a map. Conditions: none. -/
import Derived.Test.YthedifpdbefepaaDoorRows
import Derived.Test.YthedifpdbefepaaDoorXc
namespace Go.Proofs.YthedifpdbefepaaDoor
open Go.X

def deB : List Int := [0, 1, 56, 2, 57, 49, 28, 3, 61, 58, 42, 50, 38, 29, 17, 4, 62, 47, 59, 36, 45, 43, 51, 22, 53, 39, 33, 30, 24, 18, 12, 5, 63, 55, 48, 27, 60, 41, 37, 16, 46, 35, 44, 21, 52, 32, 23, 11, 54, 26, 40, 15, 34, 20, 31, 10, 25, 14, 19, 9, 13, 8, 7, 6]
noncomputable def pointsEnv : Env := envOf Tryd.prog
theorem points_run (e : Nat) : allFrom pointsEnv 3 4000 16 (tabHp 0 (deB.map fun z => Value.int .u8 z) e) = true := by kernel_rfl

end Go.Proofs.YthedifpdbefepaaDoor
