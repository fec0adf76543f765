/- QueueTimes: the call answers true, whatever the world and the tape; the arguments read as they read before. Conditions: none. -/
import Derived.Test.YtfjnnbdgehaeaaaLb
import Derived.Test.YtfjnnbdgehaeaaaLc
namespace Go.Proofs.Ytfjnnbdgehaeaaa
open Go.ChangeShapes Go.WideShapes Go.ChangeAt Go.RowKit Go.Deep Go.X

set_option maxRecDepth 100000

theorem queueTimes_lifted (os : Os) (started : os.Started) (H : Type) (enc : TypeId × Value → H) :
    ReturnsInHanded {} Try.checked os 4 .any (Rows.queueTimesSpec.pre6 enc Try.prog Try.f4 Rows.queueTimesRow.domain false) (Rows.queueTimesSpec.post enc Try.prog Try.f4 false true false false) := by
  refine returnsInHanded_of_change (C := Try.checked) que_own started (by kernel_rfl) Try.func4
    (ChangeSpec.witness6 (enc := enc) (C := Try.checked) false ⟨#[], #[.slice none 0 0, .slice none 0 0], []⟩ 8 (by kernel_rfl) (by kernel_rfl) (by kernel_rfl) (by kernel_rfl)) ?_
  intro W base args ds gs before hval0 hW hcnd _
  have hW' := hW
  obtain ⟨p, q, hA, hV, hp, hfz, hnd⟩ := hW'
  obtain ⟨v0, v1, d0, d1, p0, p1, rfl, rfl, rfl, h0, h1⟩ := trodAll_two hA
  obtain ⟨a, n, c, rfl, r0, hs⟩ := items_at (hval0 0 22 v0 (by kernel_rfl) rfl) h0
  obtain ⟨a', n', c', T, rfl, r1, hs1⟩ := ints_at times_slice que_int2 que_c2 (hval0 1 38 v1 (by kernel_rfl) rfl) h1
  exact (open_below queE que_mixed (args := [.slice a n c, .slice a' n' c']) (VsRel.cons r0 (VsRel.cons r1 (.nil _))) (c4 hs hs1)).mono fun e W' ⟨he, hb⟩ =>
    ⟨_, he, open_post que_laid (by kernel_rfl) rfl rfl que_bool (fun ds hds => by
      match ds, hds with
      | [_, _], _ => exact ⟨rfl, rfl, rfl⟩) hW hb⟩
theorem queueTimes_holds : Rows.QueueTimesSaid :=
  OpenClaim.holds_of_wide 4 Try.f4 rfl rfl rfl rfl rfl rfl rfl ⟨rfl, rfl, rfl, rfl, rfl⟩ rfl rfl rfl rfl rfl (by kernel_rfl) Try.func4 (by kernel_rfl)
    (of_decide_eq_true (by kernel_rfl)) (by unfold Func.isWrapper; first | (rw [if_pos (by decide +kernel)]; kernel_rfl) | (rw [if_neg (by decide +kernel)]; exact ⟨rfl, rfl⟩))
    (fun os started H enc _ => queueTimes_lifted os started H enc)


end Go.Proofs.Ytfjnnbdgehaeaaa
