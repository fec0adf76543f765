/- PointsNil: the call answers true, whatever the world and the tape, where the listed table lies as the program lays it; no old memory changes; the card. Conditions: the table (math/bits.deBruijn64tab), tied to the program's text. -/
import Derived.Test.YthedifpdbefepaaDoorLa
import Derived.Test.YthedifpdbefepaaDoorTie
import Derived.Test.YthedifpdbefepaaDoorCards
import Derived.SevenTiedAt
import Derived.LaidMore
import Derived.LaidHandle
import Derived.ProofKit
namespace Go.Proofs.YthedifpdbefepaaDoor
open Go.ChangeShapes Go.WideShapes Go.ChangeAt Go.RowKit Go.X

set_option maxRecDepth 100000

theorem nil_own : ownKnob Tryd.prog.godebug = none := by kernel_rfl
theorem nil_mixed : Tryd.prog.follows .mixedOrders = true := by kernel_rfl
theorem nil_bool : Tryd.prog.underlying 4 = some .bool := by kernel_rfl
theorem nil_named : Tryd.prog.globalNamed "math/bits.deBruijn64tab" = some 0 := by kernel_rfl
theorem nil_type : (Tryd.prog.globals[0]?).map (·.type) = some 139 := by kernel_rfl
theorem nil_arr : Tryd.prog.underlying 139 = some (.array 64 5) := by kernel_rfl
theorem nil_u8 : Tryd.prog.underlying 5 = some (.int .u8) := by kernel_rfl
theorem nil_cell : Tryd.prog.cellsOf 5 = 1 := by kernel_rfl
theorem nil_cells : Tryd.prog.cellsOf 139 = 64 := by kernel_rfl

theorem pointsNil_params : Tryd.f3.params = #[] := by kernel_rfl
theorem pointsNil_result : Tryd.f3.resultTypes = #[4] := by kernel_rfl

theorem points_door (os : Os) (args : Array Value) : laidMetH Tryd.prog Rows.pointsNilRow.laid (((World.doorLaid Tryd.prog 400 os).forCall (fun _ _ => 0) ⟨#[], args, []⟩).memory) :=
  laidMetH_of_parts3 (fuel := 8) (laidMet_of_run' 8 (by kernel_rfl) (by kernel_rfl)) (by kernel_rfl) (by kernel_rfl)

theorem pointsNil_lifted (os : Os) (started : os.Started) (H : Type) (enc : TypeId × Value → H) :
    ReturnsInHanded {} Tryd.checked os 3 .any (fun w args => (Rows.pointsNilSpec.pre enc Tryd.prog Tryd.f3 [] false w args ∧ laidMetH Tryd.prog Rows.pointsNilRow.laid w) ∧ sizedMet enc Tryd.prog Tryd.f3 (OpenSpec.ofChange Rows.pointsNilSpec) false w args)
      (Rows.pointsNilSpec.post enc Tryd.prog Tryd.f3 false true false false) := by
  refine returnsInHanded_of_change_and (C := Tryd.checked) (X := fun w _ => laidMetH Tryd.prog Rows.pointsNilRow.laid w) (fun _ _ _ hh h => h.of_heap hh) nil_own started (by kernel_rfl) Tryd.func3
    (ChangeSpec.witness_shaped (enc := enc) (C := Tryd.checked) (os := os) (X := fun w _ => laidMetH Tryd.prog Rows.pointsNilRow.laid w) false (World.doorLaid Tryd.prog 400 os) #[] 8 rfl (World.shaped_of_RefB (by kernel_rfl) (by kernel_rfl)) (by kernel_rfl) (by kernel_rfl) (by kernel_rfl) (points_door os _)) ?_
  intro W base args ds gs before hval0 hW _ _ hL _
  have hargs : args = #[] := by
    obtain ⟨p, q, hA, _, _, _, _⟩ := hW
    rw [pointsNil_params] at hA
    exact (trodAll_none hA).1
  subst hargs
  have hT : Lib.TabIs Tryd.prog W "math/bits.deBruijn64tab" .u8 deB := Lib.tabIs_of_head nil_named nil_type nil_arr nil_u8 nil_cell nil_cells (rest := []) (laidMetH_iff.1 hL).1
  obtain ⟨e, fr, hg⟩ := tab_block nil_named hT
  exact (tab_all_below pointsEnv nil_mixed hg (fun v hv => by
    simp only [List.mem_map] at hv
    obtain ⟨z, _, rfl⟩ := hv
    rfl) (by decide) (by simpa using points_run e)).mono fun e W' ⟨he, hb⟩ =>
    ⟨_, he, nil_post pointsNil_params rfl pointsNil_result nil_bool ⟨rfl, rfl, rfl⟩ hW hb⟩

theorem pointsNil_row : Rows.PointsNilSaid :=
  OpenClaim.holds_of_wide 3 Tryd.f3 rfl rfl rfl rfl rfl rfl rfl ⟨rfl, rfl, rfl, rfl, rfl⟩ rfl rfl rfl rfl rfl (by kernel_rfl) Tryd.func3 (by kernel_rfl)
    (of_decide_eq_true (by kernel_rfl)) (by unfold Func.isWrapper; first | (rw [if_pos (by decide +kernel)]; kernel_rfl) | (rw [if_neg (by decide +kernel)]; exact ⟨rfl, rfl⟩))
    (fun os started H enc _ => pointsNil_lifted os started H enc)

theorem pointsNil_holds : Rows.PointsNilCardSaid :=
  Claim7.holds_tied_plain_at .later [] [.data] true (true, "c29987c5d13c9882a39b5d52328b5f36434219484318ceb223ac13bb7f688ce8") false
    pointsNil_row (fun _ h => by cases h) (by kernel_rfl) (fun _ h => by cases h) pointsNil_row_tie rfl ⟨rfl, rfl⟩ (by kernel_rfl) rfl
    (fun f fn hf hfn => by
      obtain rfl : f = 3 := Option.some.inj ((show Tryd.prog.funcNamed "detent/detentlaw18.PointsNil" = some 3 by kernel_rfl).symm.trans hf) |>.symm
      obtain rfl : fn = Tryd.f3 := (Option.some.inj (Tryd.func3.symm.trans hfn)).symm
      exact ⟨by kernel_rfl, fun j t ht => by
        rw [pointsNil_params] at ht
        simp at ht⟩)
    (by kernel_rfl)


end Go.Proofs.YthedifpdbefepaaDoor
