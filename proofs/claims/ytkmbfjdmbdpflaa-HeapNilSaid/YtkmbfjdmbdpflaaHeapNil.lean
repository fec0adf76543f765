/- HeapNil: the call answers true, whatever the world and the tape; no old memory changes. Conditions: none. -/
import Derived.Test.YtkmbfjdmbdpflaaRows
import Derived.Test.YtkmbfjdmbdpflaaXNil
namespace Go.Proofs.Ytkmbfjdmbdpflaa
open Go.ChangeShapes Go.WideShapes Go.ChangeAt Go.RowKit Go.X

theorem heapNil_own : ownKnob Try.prog.godebug = none := by kernel_rfl
theorem heapNil_mixed : Try.prog.follows .mixedOrders = true := by kernel_rfl
theorem heapNil_bool : Try.prog.underlying 4 = some .bool := by kernel_rfl
theorem heapNil_params : Try.f10.params = #[] := by kernel_rfl
theorem heapNil_result : Try.f10.resultTypes = #[4] := by kernel_rfl
theorem heapNil_run : truthX (envOf Try.prog) 10 2100 = true := by kernel_rfl

theorem heapNil_lifted (os : Os) (started : os.Started) (H : Type) (enc : TypeId × Value → H) :
    ReturnsInHanded {} Try.checked os 10 .any (Rows.heapNilSpec.pre6 enc Try.prog Try.f10 Rows.heapNilRow.domain false) (Rows.heapNilSpec.post enc Try.prog Try.f10 false true false false) := by
  refine returnsInHanded_of_change (C := Try.checked) heapNil_own started (by kernel_rfl) Try.func10
    (ChangeSpec.witness6 (enc := enc) (C := Try.checked) false ⟨#[], #[], []⟩ 8 (by kernel_rfl) (by kernel_rfl) (by kernel_rfl) (by kernel_rfl)) ?_
  intro W base args ds gs before hval0 hW hcnd _
  have hargs : args = #[] := by
    obtain ⟨p, q, hA, _, _, _, _⟩ := hW
    rw [heapNil_params] at hA
    exact (trodAll_none hA).1
  subst hargs
  exact (truth_below Try.prog heapNil_mixed heapNil_run W).mono fun e W' ⟨he, hb⟩ =>
    ⟨_, he, nil_post heapNil_params rfl heapNil_result heapNil_bool ⟨rfl, rfl, rfl⟩ hW hb⟩

theorem heapNil_holds : Rows.HeapNilSaid :=
  OpenClaim.holds_of_wide 10 Try.f10 rfl rfl rfl rfl rfl rfl rfl ⟨rfl, rfl, rfl, rfl, rfl⟩ rfl rfl rfl rfl rfl (by kernel_rfl) Try.func10 (by kernel_rfl)
    (of_decide_eq_true (by kernel_rfl)) (by unfold Func.isWrapper; first | (rw [if_pos (by decide +kernel)]; kernel_rfl) | (rw [if_neg (by decide +kernel)]; exact ⟨rfl, rfl⟩))
    (fun os started H enc _ => heapNil_lifted os started H enc)

end Go.Proofs.Ytkmbfjdmbdpflaa
