/- ClockNil: the call answers true, whatever the world and the tape; no old memory changes. Conditions: none. -/
import Derived.Test.YtkhnhaijnnpjhaaLa
namespace Go.Proofs.Ytkhnhaijnnpjhaa
open Go.ChangeShapes Go.WideShapes Go.ChangeAt Go.RowKit Go.X

theorem clockNil_own : ownKnob Try.prog.godebug = none := by kernel_rfl
theorem clockNil_bool : Try.prog.underlying 4 = some .bool := by kernel_rfl
theorem clockNil_params : Try.f6.params = #[] := by kernel_rfl
theorem clockNil_result : Try.f6.resultTypes = #[4] := by kernel_rfl
theorem clockNil_run : truthX clkE 6 60000 = true := by kernel_rfl

theorem clockNil_lifted (os : Os) (started : os.Started) (H : Type) (enc : TypeId × Value → H) :
    ReturnsInHanded {} Try.checked os 6 .any (Rows.clockNilSpec.pre6 enc Try.prog Try.f6 Rows.clockNilRow.domain false) (Rows.clockNilSpec.post enc Try.prog Try.f6 false true false false) := by
  refine returnsInHanded_of_change (C := Try.checked) clockNil_own started (by kernel_rfl) Try.func6
    (ChangeSpec.witness6 (enc := enc) (C := Try.checked) false ⟨#[], #[], []⟩ 8 (by kernel_rfl) (by kernel_rfl) (by kernel_rfl) (by kernel_rfl)) ?_
  intro W base args ds gs before hval0 hW hcnd _
  have hargs : args = #[] := by
    obtain ⟨p, q, hA, _, _, _, _⟩ := hW
    rw [clockNil_params] at hA
    exact (trodAll_none hA).1
  subst hargs
  exact (truth_below clkE clk_mixed clockNil_run W).mono fun e W' ⟨he, hb⟩ =>
    ⟨_, he, nil_post clockNil_params rfl clockNil_result clockNil_bool ⟨rfl, rfl, rfl⟩ hW hb⟩

theorem clockNil_holds : Rows.ClockNilSaid :=
  OpenClaim.holds_of_wide 6 Try.f6 rfl rfl rfl rfl rfl rfl rfl ⟨rfl, rfl, rfl, rfl, rfl⟩ rfl rfl rfl rfl rfl (by kernel_rfl) Try.func6 (by kernel_rfl)
    (of_decide_eq_true (by kernel_rfl)) (by unfold Func.isWrapper; first | (rw [if_pos (by decide +kernel)]; kernel_rfl) | (rw [if_neg (by decide +kernel)]; exact ⟨rfl, rfl⟩))
    (fun os started H enc _ => clockNil_lifted os started H enc)


end Go.Proofs.Ytkhnhaijnnpjhaa
