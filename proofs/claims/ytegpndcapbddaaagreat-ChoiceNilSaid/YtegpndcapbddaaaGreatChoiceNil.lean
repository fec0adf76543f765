/- ChoiceNil: the call answers true, whatever the world and the tape; no old memory changes. Conditions: none. -/
import Derived.Test.YtegpndcapbddaaaGreatRows
import Derived.Test.YtegpndcapbddaaaGreatLa
namespace Go.Proofs.YtegpndcapbddaaaGreat
open Go.ChangeShapes Go.WideShapes Go.ChangeAt Go.RowKit Go.X

theorem choiceNil_own : ownKnob Tryz.prog.godebug = none := by kernel_rfl
theorem choiceNil_mixed : Tryz.prog.follows .mixedOrders = true := by kernel_rfl
theorem choiceNil_bool : Tryz.prog.underlying 4 = some .bool := by kernel_rfl
theorem choiceNil_params : Tryz.f3.params = #[] := by kernel_rfl
theorem choiceNil_result : Tryz.f3.resultTypes = #[4] := by kernel_rfl

theorem choiceNil_lifted (os : Os) (started : os.Started) (H : Type) (enc : TypeId × Value → H) :
    ReturnsInHanded {} Tryz.checked os 3 .any (Rows.choiceNilSpec.pre6 enc Tryz.prog Tryz.f3 Rows.choiceNilRow.domain false) (Rows.choiceNilSpec.post enc Tryz.prog Tryz.f3 false true false false) := by
  refine returnsInHanded_of_change (C := Tryz.checked) choiceNil_own started (by kernel_rfl) Tryz.func3
    (ChangeSpec.witness6 (enc := enc) (C := Tryz.checked) false ⟨#[], #[], []⟩ 8 (by kernel_rfl) (by kernel_rfl) (by kernel_rfl) (by kernel_rfl)) ?_
  intro W base args ds gs before hval0 hW hcnd _
  have hargs : args = #[] := by
    obtain ⟨p, q, hA, _, _, _, _⟩ := hW
    rw [choiceNil_params] at hA
    exact (trodAll_none hA).1
  subst hargs
  exact (each_below choiceEnv choiceNil_mixed choice_run W).mono fun e W' ⟨he, hb⟩ =>
    ⟨_, he, nil_post choiceNil_params rfl choiceNil_result choiceNil_bool ⟨rfl, rfl, rfl⟩ hW hb⟩

theorem choiceNil_holds : Rows.ChoiceNilSaid :=
  OpenClaim.holds_of_wide 3 Tryz.f3 rfl rfl rfl rfl rfl rfl rfl ⟨rfl, rfl, rfl, rfl, rfl⟩ rfl rfl rfl rfl rfl (by kernel_rfl) Tryz.func3 (by kernel_rfl)
    (of_decide_eq_true (by kernel_rfl)) (by unfold Func.isWrapper; first | (rw [if_pos (by decide +kernel)]; kernel_rfl) | (rw [if_neg (by decide +kernel)]; exact ⟨rfl, rfl⟩))
    (fun os started H enc _ => choiceNil_lifted os started H enc)


end Go.Proofs.YtegpndcapbddaaaGreat
