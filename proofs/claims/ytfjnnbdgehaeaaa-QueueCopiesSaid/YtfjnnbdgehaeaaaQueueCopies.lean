/- QueueCopies: the call answers true, whatever the world and the tape; the arguments read as they read before. Conditions: none. -/
import Derived.Test.YtfjnnbdgehaeaaaLc
namespace Go.Proofs.Ytfjnnbdgehaeaaa
open Go.ChangeShapes Go.WideShapes Go.ChangeAt Go.RowKit Go.Deep Go.X

set_option maxRecDepth 100000

theorem queueCopies_lifted (os : Os) (started : os.Started) (H : Type) (enc : TypeId × Value → H) :
    ReturnsInHanded {} Try.checked os 6 .any (Rows.queueCopiesSpec.pre6 enc Try.prog Try.f6 Rows.queueCopiesRow.domain false) (Rows.queueCopiesSpec.post enc Try.prog Try.f6 false true false false) := by
  refine returnsInHanded_of_change (C := Try.checked) que_own started (by kernel_rfl) Try.func6
    (ChangeSpec.witness6 (enc := enc) (C := Try.checked) false ⟨#[], #[.slice none 0 0, .slice none 0 0, .slice none 0 0], []⟩ 8 (by kernel_rfl) (by kernel_rfl) (by kernel_rfl) (by kernel_rfl)) ?_
  intro W base args ds gs before hval0 hW hcnd _
  have hW' := hW
  obtain ⟨p, q, hA, hV, hp, hfz, hnd⟩ := hW'
  obtain ⟨v0, v1, v2, d0, d1, d2, p0, p1, p2, rfl, rfl, rfl, h0, h1, h2⟩ := trodAll_three hA
  obtain ⟨a, n0, c0, rfl, r0, hs0⟩ := acts_at (hval0 0 42 v0 (by kernel_rfl) rfl) h0
  obtain ⟨a', n1, c1, rfl, r1, hs1⟩ := acts_at (hval0 1 42 v1 (by kernel_rfl) rfl) h1
  obtain ⟨a2, n2, c2, rfl, r2, hs2⟩ := acts_at (hval0 2 42 v2 (by kernel_rfl) rfl) h2
  exact (open_below queE que_mixed (args := [.slice a n0 c0, .slice a' n1 c1, .slice a2 n2 c2]) (VsRel.cons r0 (VsRel.cons r1 (VsRel.cons r2 (.nil _)))) (c6 hs0 hs1 hs2)).mono fun e W' ⟨he, hb⟩ =>
    ⟨_, he, open_post que_laid (by kernel_rfl) rfl rfl que_bool (fun ds hds => by
      match ds, hds with
      | [_, _, _], _ => exact ⟨rfl, rfl, rfl⟩) hW hb⟩

theorem queueCopies_holds : Rows.QueueCopiesSaid :=
  OpenClaim.holds_of_wide 6 Try.f6 rfl rfl rfl rfl rfl rfl rfl ⟨rfl, rfl, rfl, rfl, rfl⟩ rfl rfl rfl rfl rfl (by kernel_rfl) Try.func6 (by kernel_rfl)
    (of_decide_eq_true (by kernel_rfl)) (by unfold Func.isWrapper; first | (rw [if_pos (by decide +kernel)]; kernel_rfl) | (rw [if_neg (by decide +kernel)]; exact ⟨rfl, rfl⟩))
    (fun os started H enc _ => queueCopies_lifted os started H enc)


end Go.Proofs.Ytfjnnbdgehaeaaa
