/- LifeTurns: the call answers true, whatever the world and the tape; the arguments read as they read before. Conditions: none. -/
import Derived.Test.YtkmbfjdmbdpflaaLifeT
import Derived.Test.YtkmbfjdmbdpflaaLifeG
namespace Go.Proofs.Ytkmbfjdmbdpflaa
open Go.ChangeShapes Go.WideShapes Go.ChangeAt Go.RowKit Go.Deep Go.X

set_option maxRecDepth 100000

theorem lifeTurns_lifted (os : Os) (started : os.Started) (H : Type) (enc : TypeId × Value → H) :
    ReturnsInHanded {} Try.checked os 3 .any (Rows.lifeTurnsSpec.pre6 enc Try.prog Try.f3 Rows.lifeTurnsRow.domain false) (Rows.lifeTurnsSpec.post enc Try.prog Try.f3 false true false false) := by
  refine returnsInHanded_of_change (C := Try.checked) life_own started (by kernel_rfl) Try.func3
    (ChangeSpec.witness6 (enc := enc) (C := Try.checked) false ⟨#[], #[.slice none 0 0], []⟩ 8 (by kernel_rfl) (by kernel_rfl) (by kernel_rfl) (by kernel_rfl)) ?_
  intro W base args ds gs before hval0 hW hcnd _
  have hW' := hW
  obtain ⟨p, q, hA, hV, hp, hfz, hnd⟩ := hW'
  obtain ⟨v0, d0, rfl, rfl, h0⟩ := trodAll_one hA
  obtain ⟨a, n, c, xs, rfl, r0, s0, _⟩ := arg_ints ints_slice life_int life_cell3 (hval0 0 22 v0 (by kernel_rfl) rfl) h0
  exact (open_below lifeE life_mixed (args := [.slice a n c]) (VsRel.cons r0 (.nil _)) (c3 s0)).mono fun e W' ⟨he, hb⟩ =>
    ⟨_, he, open_post life_laid (by kernel_rfl) rfl rfl life_bool (fun ds hds => by
      match ds, hds with
      | [_], _ => exact ⟨rfl, rfl, rfl⟩) hW hb⟩

theorem lifeTurns_holds : Rows.LifeTurnsSaid :=
  OpenClaim.holds_of_wide 3 Try.f3 rfl rfl rfl rfl rfl rfl rfl ⟨rfl, rfl, rfl, rfl, rfl⟩ rfl rfl rfl rfl rfl (by kernel_rfl) Try.func3 (by kernel_rfl)
    (of_decide_eq_true (by kernel_rfl)) (by unfold Func.isWrapper; first | (rw [if_pos (by decide +kernel)]; kernel_rfl) | (rw [if_neg (by decide +kernel)]; exact ⟨rfl, rfl⟩))
    (fun os started H enc _ => lifeTurns_lifted os started H enc)
#print axioms lifeTurns_holds

end Go.Proofs.Ytkmbfjdmbdpflaa
