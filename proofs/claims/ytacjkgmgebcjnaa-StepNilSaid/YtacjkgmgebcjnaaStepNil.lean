/- StepNil: the call answers true, whatever the world and the tape; no old memory changes. Conditions: none. -/
import Derived.Test.YtacjkgmgebcjnaaRows
import Derived.Test.YtacjkgmgebcjnaaXNil
namespace Go.Proofs.Ytacjkgmgebcjnaa
open Go.ChangeShapes Go.WideShapes Go.ChangeAt Go.RowKit Go.X

theorem stepNil_own : ownKnob Try.prog.godebug = none := by kernel_rfl
theorem stepNil_mixed : Try.prog.follows .mixedOrders = true := by kernel_rfl
theorem stepNil_bool : Try.prog.underlying 4 = some .bool := by kernel_rfl
theorem stepNil_params : Try.f3.params = #[] := by kernel_rfl
theorem stepNil_result : Try.f3.resultTypes = #[4] := by kernel_rfl
noncomputable def stepNilEnv : Env := (envOf Try.prog)
theorem stepNil_run : truthX stepNilEnv 3 10300 = true := by kernel_rfl

theorem stepNil_lifted (os : Os) (started : os.Started) (H : Type) (enc : TypeId × Value → H) :
    ReturnsInHanded {} Try.checked os 3 .any (Rows.stepNilSpec.pre6 enc Try.prog Try.f3 Rows.stepNilRow.domain false) (Rows.stepNilSpec.post enc Try.prog Try.f3 false true false false) := by
  refine returnsInHanded_of_change (C := Try.checked) stepNil_own started (by kernel_rfl) Try.func3
    (ChangeSpec.witness6 (enc := enc) (C := Try.checked) false ⟨#[], #[], []⟩ 8 (by kernel_rfl) (by kernel_rfl) (by kernel_rfl) (by kernel_rfl)) ?_
  intro W base args ds gs before hval0 hW hcnd _
  have hargs : args = #[] := by
    obtain ⟨p, q, hA, _, _, _, _⟩ := hW
    rw [stepNil_params] at hA
    exact (trodAll_none hA).1
  subst hargs
  exact (truth_below stepNilEnv stepNil_mixed stepNil_run W).mono fun e W' ⟨he, hb⟩ =>
    ⟨_, he, nil_post stepNil_params rfl stepNil_result stepNil_bool ⟨rfl, rfl, rfl⟩ hW hb⟩

theorem stepNil_holds : Rows.StepNilSaid :=
  OpenClaim.holds_of_wide 3 Try.f3 rfl rfl rfl rfl rfl rfl rfl ⟨rfl, rfl, rfl, rfl, rfl⟩ rfl rfl rfl rfl rfl (by kernel_rfl) Try.func3 (by kernel_rfl)
    (of_decide_eq_true (by kernel_rfl)) (by unfold Func.isWrapper; first | (rw [if_pos (by decide +kernel)]; kernel_rfl) | (rw [if_neg (by decide +kernel)]; exact ⟨rfl, rfl⟩))
    (fun os started H enc _ => stepNil_lifted os started H enc)

end Go.Proofs.Ytacjkgmgebcjnaa
