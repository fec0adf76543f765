/- QueueNil: the call answers true, whatever the world and the tape; no old memory changes. Conditions: none. -/
import Derived.Test.YtacjkgmgebcjnaaRows
import Derived.Test.YtacjkgmgebcjnaaXNil
namespace Go.Proofs.Ytacjkgmgebcjnaa
open Go.ChangeShapes Go.WideShapes Go.ChangeAt Go.RowKit Go.X

theorem queueNil_own : ownKnob Try.prog.godebug = none := by kernel_rfl
theorem queueNil_mixed : Try.prog.follows .mixedOrders = true := by kernel_rfl
theorem queueNil_bool : Try.prog.underlying 4 = some .bool := by kernel_rfl
theorem queueNil_params : Try.f5.params = #[] := by kernel_rfl
theorem queueNil_result : Try.f5.resultTypes = #[4] := by kernel_rfl
noncomputable def queueNilEnv : Env := (envOf Try.prog)
theorem queueNil_run : truthX queueNilEnv 5 6400 = true := by kernel_rfl

theorem queueNil_lifted (os : Os) (started : os.Started) (H : Type) (enc : TypeId × Value → H) :
    ReturnsInHanded {} Try.checked os 5 .any (Rows.queueNilSpec.pre6 enc Try.prog Try.f5 Rows.queueNilRow.domain false) (Rows.queueNilSpec.post enc Try.prog Try.f5 false true false false) := by
  refine returnsInHanded_of_change (C := Try.checked) queueNil_own started (by kernel_rfl) Try.func5
    (ChangeSpec.witness6 (enc := enc) (C := Try.checked) false ⟨#[], #[], []⟩ 8 (by kernel_rfl) (by kernel_rfl) (by kernel_rfl) (by kernel_rfl)) ?_
  intro W base args ds gs before hval0 hW hcnd _
  have hargs : args = #[] := by
    obtain ⟨p, q, hA, _, _, _, _⟩ := hW
    rw [queueNil_params] at hA
    exact (trodAll_none hA).1
  subst hargs
  exact (truth_below queueNilEnv queueNil_mixed queueNil_run W).mono fun e W' ⟨he, hb⟩ =>
    ⟨_, he, nil_post queueNil_params rfl queueNil_result queueNil_bool ⟨rfl, rfl, rfl⟩ hW hb⟩

theorem queueNil_holds : Rows.QueueNilSaid :=
  OpenClaim.holds_of_wide 5 Try.f5 rfl rfl rfl rfl rfl rfl rfl ⟨rfl, rfl, rfl, rfl, rfl⟩ rfl rfl rfl rfl rfl (by kernel_rfl) Try.func5 (by kernel_rfl)
    (of_decide_eq_true (by kernel_rfl)) (by unfold Func.isWrapper; first | (rw [if_pos (by decide +kernel)]; kernel_rfl) | (rw [if_neg (by decide +kernel)]; exact ⟨rfl, rfl⟩))
    (fun os started H enc _ => queueNil_lifted os started H enc)

end Go.Proofs.Ytacjkgmgebcjnaa
