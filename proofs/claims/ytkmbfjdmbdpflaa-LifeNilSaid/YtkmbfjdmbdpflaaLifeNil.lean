/- LifeNil: the call answers true, whatever the world and the tape; no old memory changes. Conditions: none. -/
import Derived.Test.YtkmbfjdmbdpflaaRows
import Derived.Test.YtkmbfjdmbdpflaaXNil
namespace Go.Proofs.Ytkmbfjdmbdpflaa
open Go.ChangeShapes Go.WideShapes Go.ChangeAt Go.RowKit Go.X

theorem lifeNil_own : ownKnob Try.prog.godebug = none := by kernel_rfl
theorem lifeNil_mixed : Try.prog.follows .mixedOrders = true := by kernel_rfl
theorem lifeNil_bool : Try.prog.underlying 4 = some .bool := by kernel_rfl
theorem lifeNil_params : Try.f7.params = #[] := by kernel_rfl
theorem lifeNil_result : Try.f7.resultTypes = #[4] := by kernel_rfl
theorem lifeNil_run : truthX (envOf Try.prog) 7 7600 = true := by kernel_rfl

theorem lifeNil_lifted (os : Os) (started : os.Started) (H : Type) (enc : TypeId × Value → H) :
    ReturnsInHanded {} Try.checked os 7 .any (Rows.lifeNilSpec.pre6 enc Try.prog Try.f7 Rows.lifeNilRow.domain false) (Rows.lifeNilSpec.post enc Try.prog Try.f7 false true false false) := by
  refine returnsInHanded_of_change (C := Try.checked) lifeNil_own started (by kernel_rfl) Try.func7
    (ChangeSpec.witness6 (enc := enc) (C := Try.checked) false ⟨#[], #[], []⟩ 8 (by kernel_rfl) (by kernel_rfl) (by kernel_rfl) (by kernel_rfl)) ?_
  intro W base args ds gs before hval0 hW hcnd _
  have hargs : args = #[] := by
    obtain ⟨p, q, hA, _, _, _, _⟩ := hW
    rw [lifeNil_params] at hA
    exact (trodAll_none hA).1
  subst hargs
  exact (truth_below Try.prog lifeNil_mixed lifeNil_run W).mono fun e W' ⟨he, hb⟩ =>
    ⟨_, he, nil_post lifeNil_params rfl lifeNil_result lifeNil_bool ⟨rfl, rfl, rfl⟩ hW hb⟩

theorem lifeNil_holds : Rows.LifeNilSaid :=
  OpenClaim.holds_of_wide 7 Try.f7 rfl rfl rfl rfl rfl rfl rfl ⟨rfl, rfl, rfl, rfl, rfl⟩ rfl rfl rfl rfl rfl (by kernel_rfl) Try.func7 (by kernel_rfl)
    (of_decide_eq_true (by kernel_rfl)) (by unfold Func.isWrapper; first | (rw [if_pos (by decide +kernel)]; kernel_rfl) | (rw [if_neg (by decide +kernel)]; exact ⟨rfl, rfl⟩))
    (fun os started H enc _ => lifeNil_lifted os started H enc)

end Go.Proofs.Ytkmbfjdmbdpflaa
