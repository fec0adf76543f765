/- HeapPlays: the call answers true, whatever the world and the tape; the arguments read as they read before. Conditions: none. -/
import Derived.Test.YtkmbfjdmbdpflaaLb
namespace Go.Proofs.Ytkmbfjdmbdpflaa
open Go.ChangeShapes Go.WideShapes Go.ChangeAt Go.RowKit Go.Deep Go.X

set_option maxRecDepth 100000

theorem heapPlays_lifted (os : Os) (started : os.Started) (H : Type) (enc : TypeId × Value → H) :
    ReturnsInHanded {} Try.checked os 8 .any (Rows.heapPlaysSpec.pre6 enc Try.prog Try.f8 Rows.heapPlaysRow.domain false) (Rows.heapPlaysSpec.post enc Try.prog Try.f8 false true false false) := by
  refine returnsInHanded_of_change (C := Try.checked) heap_own started (by kernel_rfl) Try.func8
    (ChangeSpec.witness6 (enc := enc) (C := Try.checked) false ⟨#[], #[.slice none 0 0, .int .i64 0], []⟩ 8 (by kernel_rfl) (by kernel_rfl) (by kernel_rfl) (by kernel_rfl)) ?_
  intro W base args ds gs before hval0 hW hcnd _
  have hW' := hW
  obtain ⟨p, q, hA, hV, hp, hfz, hnd⟩ := hW'
  obtain ⟨v0, v1, d0, d1, p0, p1, rfl, rfl, rfl, h0, h1⟩ := trodAll_two hA
  obtain ⟨a, c, acts, rfl, r0, hs⟩ := acts10_at (hval0 0 61 v0 (by kernel_rfl) rfl) h0
  obtain ⟨k1, rfl, _⟩ := arg_int heap_int (hval0 1 3 v1 (by kernel_rfl) rfl) h1
  exact (open_below heapE heap_mixed (args := [.slice a acts.length c, .int .i64 k1]) (VsRel.cons r0 (VsRel.cons (.int _ _) (.nil _))) (c8 hs)).mono fun e W' ⟨he, hb⟩ =>
    ⟨_, he, open_post heap_laid (by kernel_rfl) rfl rfl heap_bool (fun ds hds => by
      match ds, hds with
      | [_, _], _ => exact ⟨rfl, rfl, rfl⟩) hW hb⟩

theorem heapPlays_holds : Rows.HeapPlaysSaid :=
  OpenClaim.holds_of_wide 8 Try.f8 rfl rfl rfl rfl rfl rfl rfl ⟨rfl, rfl, rfl, rfl, rfl⟩ rfl rfl rfl rfl rfl (by kernel_rfl) Try.func8 (by kernel_rfl)
    (of_decide_eq_true (by kernel_rfl)) (by unfold Func.isWrapper; first | (rw [if_pos (by decide +kernel)]; kernel_rfl) | (rw [if_neg (by decide +kernel)]; exact ⟨rfl, rfl⟩))
    (fun os started H enc _ => heapPlays_lifted os started H enc)


end Go.Proofs.Ytkmbfjdmbdpflaa
