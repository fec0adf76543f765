/- TreeBinds: the call answers true, whatever the world and the tape, where the listed tables lie as the program lays them; the argument reads as it read before; the card. Conditions: the tables, tied to the program's text. -/
import Derived.Test.YtoejddhaiogonaaDoorLa
namespace Go.Proofs.YtoejddhaiogonaaDoor
open Go.ChangeShapes Go.WideShapes Go.ChangeAt Go.RowKit Go.Deep Go.X

set_option maxRecDepth 100000

theorem tre_door (os : Os) (args : Array Value) : laidMetH Tryd.prog Rows.treeBindsRow.laid (((World.doorLaid Tryd.prog 400 os).forCall (fun _ _ => 0) ⟨#[], args, []⟩).memory) :=
  laidMetH_of_parts3 (fuel := 8) (laidMet_of_run' 8 (by kernel_rfl) (by kernel_rfl)) (by kernel_rfl) (by kernel_rfl)

theorem treeBinds_lifted (os : Os) (started : os.Started) (H : Type) (enc : TypeId × Value → H) :
    ReturnsInHanded {} Tryd.checked os 4 .any (fun w args => (Rows.treeBindsSpec.pre enc Tryd.prog Tryd.f4 [] false w args ∧ laidMetH Tryd.prog Rows.treeBindsRow.laid w) ∧ sizedMet enc Tryd.prog Tryd.f4 (OpenSpec.ofChange Rows.treeBindsSpec) false w args)
      (Rows.treeBindsSpec.post enc Tryd.prog Tryd.f4 false true false false) := by
  refine returnsInHanded_of_change_and (C := Tryd.checked) (X := fun w _ => laidMetH Tryd.prog Rows.treeBindsRow.laid w) (fun _ _ _ hh h => h.of_heap hh) tre_own started (by kernel_rfl) Tryd.func4
    (ChangeSpec.witness_shaped (enc := enc) (C := Tryd.checked) (os := os) (X := fun w _ => laidMetH Tryd.prog Rows.treeBindsRow.laid w) false (World.doorLaid Tryd.prog 400 os) #[.agg #[.int .i64 0, .string .empty, .int .i64 0, .int .i64 0, .int .i64 0, .slice none 0 0]] 8 rfl (World.shaped_of_RefB (by kernel_rfl) (by kernel_rfl)) (by kernel_rfl) (by kernel_rfl) (by kernel_rfl) (tre_door os _)) ?_
  intro W base args ds gs before hval0 hW _ _ hL _
  have hW' := hW
  obtain ⟨p, q, hA, hV, hp, hfz, hnd⟩ := hW'
  obtain ⟨v0, d0, rfl, rfl, h0⟩ := trodAll_one hA
  obtain ⟨K, s, N, L, Co, ks, rfl, hks, hsk⟩ := twig_arg (hval0 0 30 v0 (by kernel_rfl) rfl)
  have hv : VRel (Mp.all W) (twV K s N L Co ks) (twV K s N L Co ks) := .agg' (.cons (.int _ _) (.cons (.string _) (.cons (.int _ _) (.cons (.int _ _) (.cons (.int _ _) (.cons hks (.nil _)))))))
  exact (open_below treE tre_mixed (args := [twV K s N L Co ks]) (VsRel.cons hv (.nil _)) (c4 (by have := topB_256 W; show 1 < topB W; omega) hsk (blank_all hL))).mono fun e W' ⟨he, hb⟩ =>
    ⟨_, he, open_post tre_laid (by kernel_rfl) rfl rfl tre_bool (fun ds hds => by
      match ds, hds with
      | [_], _ => exact ⟨rfl, rfl, rfl⟩) hW hb⟩

theorem treeBinds_row : Rows.TreeBindsSaid :=
  OpenClaim.holds_of_wide 4 Tryd.f4 rfl rfl rfl rfl rfl rfl rfl ⟨rfl, rfl, rfl, rfl, rfl⟩ rfl rfl rfl rfl rfl (by kernel_rfl) Tryd.func4 (by kernel_rfl)
    (of_decide_eq_true (by kernel_rfl)) (by unfold Func.isWrapper; first | (rw [if_pos (by decide +kernel)]; kernel_rfl) | (rw [if_neg (by decide +kernel)]; exact ⟨rfl, rfl⟩))
    (fun os started H enc _ => treeBinds_lifted os started H enc)

theorem treeBinds_holds : Rows.TreeBindsCardSaid :=
  Claim7.holds_tied_plain_at .later [] [.data, .data, .data, .listed, .data] true (true, "a1e9623bcc9d1d436b2a86d9138537099909dde41d7ddaa3802f926ece695f42") false
    treeBinds_row (fun _ h => by cases h) (by kernel_rfl) (fun _ h => by cases h) treeBinds_row_tie rfl ⟨rfl, rfl⟩ (by kernel_rfl) rfl
    (fun f fn hf hfn => by
      obtain rfl : f = 4 := Option.some.inj ((show Tryd.prog.funcNamed "detent/detentlaw02.TreeBinds" = some 4 by kernel_rfl).symm.trans hf) |>.symm
      obtain rfl : fn = Tryd.f4 := (Option.some.inj (Tryd.func4.symm.trans hfn)).symm
      exact ⟨by kernel_rfl, fun j t ht => by
        have : Tryd.f4.params = #[30] := by kernel_rfl
        rw [this] at ht
        match j, ht with
        | 0, ht => obtain rfl : t = 30 := (Option.some.inj ht).symm; exact (show Tryd.prog.wantsStandIn 30 = false by kernel_rfl)
        | j + 1, ht => simp at ht⟩)
    (by kernel_rfl)


end Go.Proofs.YtoejddhaiogonaaDoor
