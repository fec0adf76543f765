/- NodesNil: the call answers true, whatever the world and the tape, where the listed table lies as the program lays it; no old memory changes; the card. Conditions: the table (math/bits.deBruijn64tab), tied to the program's text. -/
import Derived.Test.YtmjnjpphemghiaaGreatDoorLa
import Derived.Test.YtmjnjpphemghiaaGreatDoorTie
import Derived.Test.YtmjnjpphemghiaaGreatDoorCards
import Derived.SevenTiedAt
import Derived.LaidMore
import Derived.LaidHandle
import Derived.ProofKit
namespace Go.Proofs.YtmjnjpphemghiaaGreatDoor
open Go.ChangeShapes Go.WideShapes Go.ChangeAt Go.RowKit Go.X

set_option maxRecDepth 100000

theorem nil_own : ownKnob Tryz.prog.godebug = none := by kernel_rfl
theorem nil_mixed : Tryz.prog.follows .mixedOrders = true := by kernel_rfl
theorem nil_bool : Tryz.prog.underlying 4 = some .bool := by kernel_rfl
theorem nil_named : Tryz.prog.globalNamed "math/bits.deBruijn64tab" = some 0 := by kernel_rfl
theorem nil_type : (Tryz.prog.globals[0]?).map (·.type) = some 187 := by kernel_rfl
theorem nil_arr : Tryz.prog.underlying 187 = some (.array 64 5) := by kernel_rfl
theorem nil_u8 : Tryz.prog.underlying 5 = some (.int .u8) := by kernel_rfl
theorem nil_cell : Tryz.prog.cellsOf 5 = 1 := by kernel_rfl
theorem nil_cells : Tryz.prog.cellsOf 187 = 64 := by kernel_rfl

theorem nodesNil_params : Tryz.f3.params = #[] := by kernel_rfl
theorem nodesNil_result : Tryz.f3.resultTypes = #[4] := by kernel_rfl

theorem nodes_door (os : Os) (args : Array Value) : laidMetH Tryz.prog Rows.nodesNilRow.laid (((World.doorLaid Tryz.prog 400 os).forCall (fun _ _ => 0) ⟨#[], args, []⟩).memory) :=
  laidMetH_of_parts3 (fuel := 8) (laidMet_of_run' 8 (by kernel_rfl) (by kernel_rfl)) (by kernel_rfl) (by kernel_rfl)

theorem nodesNil_lifted (os : Os) (started : os.Started) (H : Type) (enc : TypeId × Value → H) :
    ReturnsInHanded {} Tryz.checked os 3 .any (fun w args => (Rows.nodesNilSpec.pre enc Tryz.prog Tryz.f3 [] false w args ∧ laidMetH Tryz.prog Rows.nodesNilRow.laid w) ∧ sizedMet enc Tryz.prog Tryz.f3 (OpenSpec.ofChange Rows.nodesNilSpec) false w args)
      (Rows.nodesNilSpec.post enc Tryz.prog Tryz.f3 false true false false) := by
  refine returnsInHanded_of_change_and (C := Tryz.checked) (X := fun w _ => laidMetH Tryz.prog Rows.nodesNilRow.laid w) (fun _ _ _ hh h => h.of_heap hh) nil_own started (by kernel_rfl) Tryz.func3
    (ChangeSpec.witness_shaped (enc := enc) (C := Tryz.checked) (os := os) (X := fun w _ => laidMetH Tryz.prog Rows.nodesNilRow.laid w) false (World.doorLaid Tryz.prog 400 os) #[] 8 rfl (World.shaped_of_RefB (by kernel_rfl) (by kernel_rfl)) (by kernel_rfl) (by kernel_rfl) (by kernel_rfl) (nodes_door os _)) ?_
  intro W base args ds gs before hval0 hW _ _ hL _
  have hargs : args = #[] := by
    obtain ⟨p, q, hA, _, _, _, _⟩ := hW
    rw [nodesNil_params] at hA
    exact (trodAll_none hA).1
  subst hargs
  have hT : Lib.TabIs Tryz.prog W "math/bits.deBruijn64tab" .u8 deB := Lib.tabIs_of_head nil_named nil_type nil_arr nil_u8 nil_cell nil_cells (rest := []) (laidMetH_iff.1 hL).1
  obtain ⟨e, fr, hg⟩ := tab_block nil_named hT
  obtain ⟨m, hm⟩ := nodes_run e
  exact (tab_below (n := m) nodesEnv nil_mixed hg (fun v hv => by
    simp only [List.mem_map] at hv
    obtain ⟨z, _, rfl⟩ := hv
    rfl) (by decide) (by simpa using hm)).mono fun e W' ⟨he, hb⟩ =>
    ⟨_, he, nil_post nodesNil_params rfl nodesNil_result nil_bool ⟨rfl, rfl, rfl⟩ hW hb⟩

theorem nodesNil_row : Rows.NodesNilSaid :=
  OpenClaim.holds_of_wide 3 Tryz.f3 rfl rfl rfl rfl rfl rfl rfl ⟨rfl, rfl, rfl, rfl, rfl⟩ rfl rfl rfl rfl rfl (by kernel_rfl) Tryz.func3 (by kernel_rfl)
    (of_decide_eq_true (by kernel_rfl)) (by unfold Func.isWrapper; first | (rw [if_pos (by decide +kernel)]; kernel_rfl) | (rw [if_neg (by decide +kernel)]; exact ⟨rfl, rfl⟩))
    (fun os started H enc _ => nodesNil_lifted os started H enc)

theorem nodesNil_holds : Rows.NodesNilCardSaid :=
  Claim7.holds_tied_plain_at .later [] [.data] true (true, "9beb5fa53961bb6d7dd68d9d7608756cdf47dc6862757a83a73debadb7bea648") false
    nodesNil_row (fun _ h => by cases h) (by kernel_rfl) (fun _ h => by cases h) nodesNil_row_tie rfl ⟨rfl, rfl⟩ (by kernel_rfl) rfl
    (fun f fn hf hfn => by
      obtain rfl : f = 3 := Option.some.inj ((show Tryz.prog.funcNamed "detent/detentlaw20.NodesNil" = some 3 by kernel_rfl).symm.trans hf) |>.symm
      obtain rfl : fn = Tryz.f3 := (Option.some.inj (Tryz.func3.symm.trans hfn)).symm
      exact ⟨by kernel_rfl, fun j t ht => by
        rw [nodesNil_params] at ht
        simp at ht⟩)
    (by kernel_rfl)


end Go.Proofs.YtmjnjpphemghiaaGreatDoor
