/- ScriptNil: the call answers true, whatever the world and the tape, where the listed tables lie as the program lays them; no old memory changes; the card. Conditions: the tables, tied to the program's text. -/
import Derived.Test.YtjpfoccnddnlbaaGreatDoorLa
import Derived.Test.YtjpfoccnddnlbaaGreatDoorTie
import Derived.Test.YtjpfoccnddnlbaaGreatDoorCards
import Derived.SevenTiedAt
import Derived.LaidMore
import Derived.LaidHandle
import Derived.ProofKit
namespace Go.Proofs.YtjpfoccnddnlbaaGreatDoor
open Go.ChangeShapes Go.WideShapes Go.ChangeAt Go.RowKit Go.X

set_option maxRecDepth 100000

theorem nil_own : ownKnob Tryz.prog.godebug = none := by kernel_rfl
theorem nil_mixed : Tryz.prog.follows .mixedOrders = true := by kernel_rfl
theorem nil_bool : Tryz.prog.underlying 4 = some .bool := by kernel_rfl
theorem nil_named : Tryz.prog.globalNamed "internal/strconv.uint64pow10" = some 0 := by kernel_rfl
theorem nil_type : (Tryz.prog.globals[0]?).map (·.type) = some 241 := by kernel_rfl
theorem nil_arr : Tryz.prog.underlying 241 = some (.array 20 204) := by kernel_rfl
theorem nil_u8 : Tryz.prog.underlying 204 = some (.int .u64) := by kernel_rfl
theorem nil_cell : Tryz.prog.cellsOf 204 = 1 := by kernel_rfl
theorem nil_cells : Tryz.prog.cellsOf 241 = 20 := by kernel_rfl

theorem scriptNil_params : Tryz.f3.params = #[] := by kernel_rfl
theorem scriptNil_result : Tryz.f3.resultTypes = #[4] := by kernel_rfl

theorem script_door (os : Os) (args : Array Value) : laidMetH Tryz.prog Rows.scriptNilRow.laid (((World.doorLaid Tryz.prog 400 os).forCall (fun _ _ => 0) ⟨#[], args, []⟩).memory) :=
  laidMetH_of_parts3 (fuel := 8) (laidMet_of_run' 8 (by kernel_rfl) (by kernel_rfl)) (by kernel_rfl) (by kernel_rfl)

theorem pow_listed : ((Rows.scriptNilRow.laid.filter fun x => x.2.handleName?.isNone).filter fun x => x.1 == "internal/strconv.uint64pow10") = [("internal/strconv.uint64pow10", Lib.tabData .u64 pows)] := by kernel_rfl

theorem scriptNil_lifted (os : Os) (started : os.Started) (H : Type) (enc : TypeId × Value → H) :
    ReturnsInHanded {} Tryz.checked os 3 .any (fun w args => (Rows.scriptNilSpec.pre enc Tryz.prog Tryz.f3 [] false w args ∧ laidMetH Tryz.prog Rows.scriptNilRow.laid w) ∧ sizedMet enc Tryz.prog Tryz.f3 (OpenSpec.ofChange Rows.scriptNilSpec) false w args)
      (Rows.scriptNilSpec.post enc Tryz.prog Tryz.f3 false true false false) := by
  refine returnsInHanded_of_change_and (C := Tryz.checked) (X := fun w _ => laidMetH Tryz.prog Rows.scriptNilRow.laid w) (fun _ _ _ hh h => h.of_heap hh) nil_own started (by kernel_rfl) Tryz.func3
    (ChangeSpec.witness_shaped (enc := enc) (C := Tryz.checked) (os := os) (X := fun w _ => laidMetH Tryz.prog Rows.scriptNilRow.laid w) false (World.doorLaid Tryz.prog 400 os) #[] 8 rfl (World.shaped_of_RefB (by kernel_rfl) (by kernel_rfl)) (by kernel_rfl) (by kernel_rfl) (by kernel_rfl) (script_door os _)) ?_
  intro W base args ds gs before hval0 hW _ _ hL _
  have hargs : args = #[] := by
    obtain ⟨p, q, hA, _, _, _, _⟩ := hW
    rw [scriptNil_params] at hA
    exact (trodAll_none hA).1
  subst hargs
  have h1 := (laidMetH_iff.1 hL).1.filter fun x => x.1 == "internal/strconv.uint64pow10"
  rw [pow_listed] at h1
  have hT : Lib.TabIs Tryz.prog W "internal/strconv.uint64pow10" .u64 pows := Lib.tabIs_of_head nil_named nil_type nil_arr nil_u8 nil_cell nil_cells (rest := []) h1
  obtain ⟨e, fr, hg⟩ := tab_block nil_named hT
  obtain ⟨m, hm⟩ := script_run e
  exact (tab_below (n := m) scrE nil_mixed hg (fun v hv => by
    simp only [List.mem_map] at hv
    obtain ⟨z, _, rfl⟩ := hv
    rfl) (by decide) (by simpa using hm)).mono fun e W' ⟨he, hb⟩ =>
    ⟨_, he, nil_post scriptNil_params rfl scriptNil_result nil_bool ⟨rfl, rfl, rfl⟩ hW hb⟩

theorem scriptNil_row : Rows.ScriptNilSaid :=
  OpenClaim.holds_of_wide 3 Tryz.f3 rfl rfl rfl rfl rfl rfl rfl ⟨rfl, rfl, rfl, rfl, rfl⟩ rfl rfl rfl rfl rfl (by kernel_rfl) Tryz.func3 (by kernel_rfl)
    (of_decide_eq_true (by kernel_rfl)) (by unfold Func.isWrapper; first | (rw [if_pos (by decide +kernel)]; kernel_rfl) | (rw [if_neg (by decide +kernel)]; exact ⟨rfl, rfl⟩))
    (fun os started H enc _ => scriptNil_lifted os started H enc)

theorem scriptNil_holds : Rows.ScriptNilCardSaid :=
  Claim7.holds_tied_plain_at .later [] [.data, .data, .data] true (true, "0055bdb8ed4e70caf8c0730827556ecd1e9af8ff02c82acdf06831f6dc716b98") true
    scriptNil_row (fun _ h => by cases h) (by kernel_rfl) (fun _ h => by cases h) scriptNil_row_tie rfl ⟨rfl, rfl⟩ (by kernel_rfl) rfl
    (fun f fn hf hfn => by
      obtain rfl : f = 3 := Option.some.inj ((show Tryz.prog.funcNamed "detent/detentlaw12.ScriptNil" = some 3 by kernel_rfl).symm.trans hf) |>.symm
      obtain rfl : fn = Tryz.f3 := (Option.some.inj (Tryz.func3.symm.trans hfn)).symm
      exact ⟨by kernel_rfl, fun j t ht => by
        rw [scriptNil_params] at ht
        simp at ht⟩)
    (by kernel_rfl)


end Go.Proofs.YtjpfoccnddnlbaaGreatDoor
