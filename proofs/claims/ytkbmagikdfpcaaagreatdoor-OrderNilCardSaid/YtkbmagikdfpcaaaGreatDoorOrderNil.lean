/- OrderNil: the call answers true, whatever the world and the tape, where the listed table lies as the program lays it; no old memory changes; the card. Conditions: the table (math/bits.deBruijn64tab), tied to the program's text. -/
import Derived.Test.YtkbmagikdfpcaaaGreatDoorLa
import Derived.Test.YtkbmagikdfpcaaaGreatDoorTie
import Derived.Test.YtkbmagikdfpcaaaGreatDoorCards
import Derived.SevenTiedAt
import Derived.LaidMore
import Derived.LaidHandle
import Derived.ProofKit
namespace Go.Proofs.YtkbmagikdfpcaaaGreatDoor
open Go.ChangeShapes Go.WideShapes Go.ChangeAt Go.RowKit Go.X

set_option maxRecDepth 100000

theorem nil_own : ownKnob Tryz.prog.godebug = none := by kernel_rfl
theorem nil_mixed : Tryz.prog.follows .mixedOrders = true := by kernel_rfl
theorem nil_bool : Tryz.prog.underlying 4 = some .bool := by kernel_rfl
theorem nil_named : Tryz.prog.globalNamed "math/bits.deBruijn64tab" = some 0 := by kernel_rfl
theorem nil_type : (Tryz.prog.globals[0]?).map (·.type) = some 244 := by kernel_rfl
theorem nil_arr : Tryz.prog.underlying 244 = some (.array 64 5) := by kernel_rfl
theorem nil_u8 : Tryz.prog.underlying 5 = some (.int .u8) := by kernel_rfl
theorem nil_cell : Tryz.prog.cellsOf 5 = 1 := by kernel_rfl
theorem nil_cells : Tryz.prog.cellsOf 244 = 64 := by kernel_rfl

theorem orderNil_params : Tryz.f4.params = #[] := by kernel_rfl
theorem orderNil_result : Tryz.f4.resultTypes = #[4] := by kernel_rfl

theorem order_door (os : Os) (args : Array Value) : laidMetH Tryz.prog Rows.orderNilRow.laid (((World.doorLaid Tryz.prog 400 os).forCall (fun _ _ => 0) ⟨#[], args, []⟩).memory) :=
  laidMetH_of_parts3 (fuel := 8) (laidMet_of_run' 8 (by kernel_rfl) (by kernel_rfl)) (by kernel_rfl) (by kernel_rfl)

theorem orderNil_lifted (os : Os) (started : os.Started) (H : Type) (enc : TypeId × Value → H) :
    ReturnsInHanded {} Tryz.checked os 4 .any (fun w args => (Rows.orderNilSpec.pre enc Tryz.prog Tryz.f4 [] false w args ∧ laidMetH Tryz.prog Rows.orderNilRow.laid w) ∧ sizedMet enc Tryz.prog Tryz.f4 (OpenSpec.ofChange Rows.orderNilSpec) false w args)
      (Rows.orderNilSpec.post enc Tryz.prog Tryz.f4 false true false false) := by
  refine returnsInHanded_of_change_and (C := Tryz.checked) (X := fun w _ => laidMetH Tryz.prog Rows.orderNilRow.laid w) (fun _ _ _ hh h => h.of_heap hh) nil_own started (by kernel_rfl) Tryz.func4
    (ChangeSpec.witness_shaped (enc := enc) (C := Tryz.checked) (os := os) (X := fun w _ => laidMetH Tryz.prog Rows.orderNilRow.laid w) false (World.doorLaid Tryz.prog 400 os) #[] 8 rfl (World.shaped_of_RefB (by kernel_rfl) (by kernel_rfl)) (by kernel_rfl) (by kernel_rfl) (by kernel_rfl) (order_door os _)) ?_
  intro W base args ds gs before hval0 hW _ _ hL _
  have hargs : args = #[] := by
    obtain ⟨p, q, hA, _, _, _, _⟩ := hW
    rw [orderNil_params] at hA
    exact (trodAll_none hA).1
  subst hargs
  have hT : Lib.TabIs Tryz.prog W "math/bits.deBruijn64tab" .u8 deB := Lib.tabIs_of_head nil_named nil_type nil_arr nil_u8 nil_cell nil_cells (rest := []) (laidMetH_iff.1 hL).1
  obtain ⟨e, fr, hg⟩ := tab_block nil_named hT
  obtain ⟨m, hm⟩ := order_run e
  exact (tab_below (n := m) orderEnv nil_mixed hg (fun v hv => by
    simp only [List.mem_map] at hv
    obtain ⟨z, _, rfl⟩ := hv
    rfl) (by decide) (by simpa using hm)).mono fun e W' ⟨he, hb⟩ =>
    ⟨_, he, nil_post orderNil_params rfl orderNil_result nil_bool ⟨rfl, rfl, rfl⟩ hW hb⟩

theorem orderNil_row : Rows.OrderNilSaid :=
  OpenClaim.holds_of_wide 4 Tryz.f4 rfl rfl rfl rfl rfl rfl rfl ⟨rfl, rfl, rfl, rfl, rfl⟩ rfl rfl rfl rfl rfl (by kernel_rfl) Tryz.func4 (by kernel_rfl)
    (of_decide_eq_true (by kernel_rfl)) (by unfold Func.isWrapper; first | (rw [if_pos (by decide +kernel)]; kernel_rfl) | (rw [if_neg (by decide +kernel)]; exact ⟨rfl, rfl⟩))
    (fun os started H enc _ => orderNil_lifted os started H enc)

theorem orderNil_holds : Rows.OrderNilCardSaid :=
  Claim7.holds_tied_plain_at .later [] [.data] true (true, "42f7341e572767e2744880fd5f54443461ea37802d3f9236150764100e5745c5") false
    orderNil_row (fun _ h => by cases h) (by kernel_rfl) (fun _ h => by cases h) orderNil_row_tie rfl ⟨rfl, rfl⟩ (by kernel_rfl) rfl
    (fun f fn hf hfn => by
      obtain rfl : f = 4 := Option.some.inj ((show Tryz.prog.funcNamed "detent/detentlaw21.OrderNil" = some 4 by kernel_rfl).symm.trans hf) |>.symm
      obtain rfl : fn = Tryz.f4 := (Option.some.inj (Tryz.func4.symm.trans hfn)).symm
      exact ⟨by kernel_rfl, fun j t ht => by
        rw [orderNil_params] at ht
        simp at ht⟩)
    (by kernel_rfl)


end Go.Proofs.YtkbmagikdfpcaaaGreatDoor
