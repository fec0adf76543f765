/- LifeCopies: the call answers true, whatever the world and the tape; the arguments read as they read before. Conditions: none. -/
import Derived.Test.YtkmbfjdmbdpflaaLifeM
import Derived.Test.YtkmbfjdmbdpflaaLifeG
namespace Go.Proofs.Ytkmbfjdmbdpflaa
open Go.ChangeShapes Go.WideShapes Go.ChangeAt Go.RowKit Go.Deep Go.X

set_option maxRecDepth 100000

theorem lifeCopies_lifted (os : Os) (started : os.Started) (H : Type) (enc : TypeId × Value → H) :
    ReturnsInHanded {} Try.checked os 6 .any (Rows.lifeCopiesSpec.pre6 enc Try.prog Try.f6 Rows.lifeCopiesRow.domain false) (Rows.lifeCopiesSpec.post enc Try.prog Try.f6 false true false false) := by
  refine returnsInHanded_of_change (C := Try.checked) life_own started (by kernel_rfl) Try.func6
    (ChangeSpec.witness6 (enc := enc) (C := Try.checked) false ⟨#[], #[.int .i64 0, .slice none 0 0, .slice none 0 0, .slice none 0 0], []⟩ 8 (by kernel_rfl) (by kernel_rfl) (by kernel_rfl) (by kernel_rfl)) ?_
  intro W base args ds gs before hval0 hW hcnd _
  have hW' := hW
  obtain ⟨p, q, hA, hV, hp, hfz, hnd⟩ := hW'
  obtain ⟨v0, v1, v2, v3, d0, d1, d2, d3, p0, p1, p2, p3, rfl, rfl, rfl, h0, h1, h2, h3⟩ := trodAll_four hA
  obtain ⟨k0, rfl, _⟩ := arg_int life_int (hval0 0 3 v0 (by kernel_rfl) rfl) h0
  obtain ⟨a, n, c, on, rfl, r1, s1⟩ := arg_bools bools_slice life_bool life_cell4 (hval0 1 30 v1 (by kernel_rfl) rfl) h1
  obtain ⟨a2, n2, c2, rfl, r2, s2⟩ := acts_at (hval0 2 31 v2 (by kernel_rfl) rfl) h2
  obtain ⟨a3, n3, c3, rfl, r3, s3⟩ := acts_at (hval0 3 31 v3 (by kernel_rfl) rfl) h3
  exact (open_below lifeE life_mixed (args := [.int .i64 k0, .slice a n c, .slice a2 n2 c2, .slice a3 n3 c3]) (VsRel.cons (.int _ _) (VsRel.cons r1 (VsRel.cons r2 (VsRel.cons r3 (.nil _))))) (c6 s1 s2 s3)).mono fun e W' ⟨he, hb⟩ =>
    ⟨_, he, open_post life_laid (by kernel_rfl) rfl rfl life_bool (fun ds hds => by
      match ds, hds with
      | [_, _, _, _], _ => exact ⟨rfl, rfl, rfl⟩) hW hb⟩

theorem lifeCopies_holds : Rows.LifeCopiesSaid :=
  OpenClaim.holds_of_wide 6 Try.f6 rfl rfl rfl rfl rfl rfl rfl ⟨rfl, rfl, rfl, rfl, rfl⟩ rfl rfl rfl rfl rfl (by kernel_rfl) Try.func6 (by kernel_rfl)
    (of_decide_eq_true (by kernel_rfl)) (by unfold Func.isWrapper; first | (rw [if_pos (by decide +kernel)]; kernel_rfl) | (rw [if_neg (by decide +kernel)]; exact ⟨rfl, rfl⟩))
    (fun os started H enc _ => lifeCopies_lifted os started H enc)
#print axioms lifeCopies_holds

end Go.Proofs.Ytkmbfjdmbdpflaa
