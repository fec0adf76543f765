/- HeapCopies: the call answers true, whatever the world and the tape; the arguments read as they read before. Conditions: none. -/
import Derived.Test.YtkmbfjdmbdpflaaLb
namespace Go.Proofs.Ytkmbfjdmbdpflaa
open Go.ChangeShapes Go.WideShapes Go.ChangeAt Go.RowKit Go.Deep Go.X

set_option maxRecDepth 100000

theorem heapCopies_lifted (os : Os) (started : os.Started) (H : Type) (enc : TypeId × Value → H) :
    ReturnsInHanded {} Try.checked os 9 .any (Rows.heapCopiesSpec.pre6 enc Try.prog Try.f9 Rows.heapCopiesRow.domain false) (Rows.heapCopiesSpec.post enc Try.prog Try.f9 false true false false) := by
  refine returnsInHanded_of_change (C := Try.checked) heap_own started (by kernel_rfl) Try.func9
    (ChangeSpec.witness6 (enc := enc) (C := Try.checked) false ⟨#[], #[.slice none 0 0, .slice none 0 0, .slice none 0 0], []⟩ 8 (by kernel_rfl) (by kernel_rfl) (by kernel_rfl) (by kernel_rfl)) ?_
  intro W base args ds gs before hval0 hW hcnd _
  have hW' := hW
  obtain ⟨p, q, hA, hV, hp, hfz, hnd⟩ := hW'
  obtain ⟨v0, v1, v2, d0, d1, d2, p0, p1, p2, rfl, rfl, rfl, h0, h1, h2⟩ := trodAll_three hA
  obtain ⟨a, c, acts, rfl, r0, hs⟩ := acts10_at (hval0 0 61 v0 (by kernel_rfl) rfl) h0
  obtain ⟨a2, c2, acts2, rfl, r2, hs2⟩ := acts10_at (hval0 1 61 v1 (by kernel_rfl) rfl) h1
  obtain ⟨a3, c3, acts3, rfl, r3, hs3⟩ := acts10_at (hval0 2 61 v2 (by kernel_rfl) rfl) h2
  exact (open_below heapE heap_mixed (args := [.slice a acts.length c, .slice a2 acts2.length c2, .slice a3 acts3.length c3]) (VsRel.cons r0 (VsRel.cons r2 (VsRel.cons r3 (.nil _)))) (c9 hs hs2 hs3)).mono fun e W' ⟨he, hb⟩ =>
    ⟨_, he, open_post heap_laid (by kernel_rfl) rfl rfl heap_bool (fun ds hds => by
      match ds, hds with
      | [_, _, _], _ => exact ⟨rfl, rfl, rfl⟩) hW hb⟩

theorem heapCopies_holds : Rows.HeapCopiesSaid :=
  OpenClaim.holds_of_wide 9 Try.f9 rfl rfl rfl rfl rfl rfl rfl ⟨rfl, rfl, rfl, rfl, rfl⟩ rfl rfl rfl rfl rfl (by kernel_rfl) Try.func9 (by kernel_rfl)
    (of_decide_eq_true (by kernel_rfl)) (by unfold Func.isWrapper; first | (rw [if_pos (by decide +kernel)]; kernel_rfl) | (rw [if_neg (by decide +kernel)]; exact ⟨rfl, rfl⟩))
    (fun os started H enc _ => heapCopies_lifted os started H enc)


end Go.Proofs.Ytkmbfjdmbdpflaa
