/- ModelMany: the call answers true, whatever the world and the tape; the argument reads as it read before. Conditions: none. -/
import Derived.Test.YteinandjhpnceaaLa
import Derived.Test.YteinandjhpnceaaXc
namespace Go.Proofs.Yteinandjhpnceaa
open Go.ChangeShapes Go.WideShapes Go.ChangeAt Go.RowKit Go.Deep Go.X

set_option maxRecDepth 100000

theorem mod_int : Try.prog.underlying 3 = some (.int .i64) := by kernel_rfl
theorem mod_bool : Try.prog.underlying 4 = some .bool := by kernel_rfl
theorem mod_own : ownKnob Try.prog.godebug = none := by kernel_rfl
theorem mod_laid : laidOutB Try.prog = true := by kernel_rfl

theorem modelMany_lifted (os : Os) (started : os.Started) (H : Type) (enc : TypeId × Value → H) :
    ReturnsInHanded {} Try.checked os 3 .any (Rows.modelManySpec.pre6 enc Try.prog Try.f3 Rows.modelManyRow.domain false) (Rows.modelManySpec.post enc Try.prog Try.f3 false true false false) := by
  refine returnsInHanded_of_change (C := Try.checked) mod_own started (by kernel_rfl) Try.func3
    (ChangeSpec.witness6 (enc := enc) (C := Try.checked) false ⟨#[], #[.int .i64 0], []⟩ 8 (by kernel_rfl) (by kernel_rfl) (by kernel_rfl) (by kernel_rfl)) ?_
  intro W base args ds gs before hval0 hW hcnd _
  have hW' := hW
  obtain ⟨p, q, hA, hV, hp, hfz, hnd⟩ := hW'
  obtain ⟨v0, d0, rfl, rfl, h0⟩ := trodAll_one hA
  obtain ⟨k0, rfl, _⟩ := arg_int mod_int (hval0 0 3 v0 (by kernel_rfl) rfl) h0
  exact (open_below modE mod_mixed (args := [.int .i64 k0]) (VsRel.cons (.int _ _) (.nil _)) c3).mono fun e W' ⟨he, hb⟩ =>
    ⟨_, he, open_post mod_laid (by kernel_rfl) rfl rfl mod_bool (fun ds hds => by
      match ds, hds with
      | [_], _ => exact ⟨rfl, rfl, rfl⟩) hW hb⟩

theorem modelMany_holds : Rows.ModelManySaid :=
  OpenClaim.holds_of_wide 3 Try.f3 rfl rfl rfl rfl rfl rfl rfl ⟨rfl, rfl, rfl, rfl, rfl⟩ rfl rfl rfl rfl rfl (by kernel_rfl) Try.func3 (by kernel_rfl)
    (of_decide_eq_true (by kernel_rfl)) (by unfold Func.isWrapper; first | (rw [if_pos (by decide +kernel)]; kernel_rfl) | (rw [if_neg (by decide +kernel)]; exact ⟨rfl, rfl⟩))
    (fun os started H enc _ => modelMany_lifted os started H enc)


end Go.Proofs.Yteinandjhpnceaa
