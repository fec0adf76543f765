/- NamesOthers: the call answers true, whatever the world and the tape, where the listed tables lie as the program lays them; the arguments read as they read before; the card. Conditions: the tables, tied to the program's text. -/
import Derived.Test.YtkidomfnmpnmaaaGreatDoorLe
namespace Go.Proofs.YtkidomfnmpnmaaaGreatDoor
open Go.ChangeShapes Go.WideShapes Go.ChangeAt Go.RowKit Go.Deep Go.X
set_option maxRecDepth 100000
theorem Qcb (os : Os) (args : Array Value) : laidMetH Tryz.prog Rows.namesOthersRow.laid (((World.doorLaid Tryz.prog 400 os).forCall (fun _ _ => 0) ⟨#[], args, []⟩).memory) :=
  laidMetH_of_parts3 (fuel := 8) (laidMet_of_run' 8 (by kernel_rfl) (by kernel_rfl)) (by kernel_rfl) (by kernel_rfl)
theorem Q0k (os : Os) (started : os.Started) (H : Type) (enc : TypeId × Value → H) :
    ReturnsInHanded {} Tryz.checked os 4 .any (fun w args => (Rows.namesOthersSpec.pre enc Tryz.prog Tryz.f4 [] false w args ∧ laidMetH Tryz.prog Rows.namesOthersRow.laid w) ∧ sizedMet enc Tryz.prog Tryz.f4 (OpenSpec.ofChange Rows.namesOthersSpec) false w args)
      (Rows.namesOthersSpec.post enc Tryz.prog Tryz.f4 false true false false) := by
  refine returnsInHanded_of_change_and (C := Tryz.checked) (X := fun w _ => laidMetH Tryz.prog Rows.namesOthersRow.laid w) (fun _ _ _ hh h => h.of_heap hh) QdD started (by kernel_rfl) Tryz.func4
    (ChangeSpec.witness_shaped (enc := enc) (C := Tryz.checked) (os := os) (X := fun w _ => laidMetH Tryz.prog Rows.namesOthersRow.laid w) false (World.doorLaid Tryz.prog 400 os) #[.agg #[.slice none 0 0]] 8 rfl (World.shaped_of_RefB (by kernel_rfl) (by kernel_rfl)) (by kernel_rfl) (by kernel_rfl) (by kernel_rfl) (Qcb os _)) ?_
  intro W base args ds gs before hval0 hW _ _ hL _; have hW' := hW; obtain ⟨p, q, hA, hV, hp, hfz, hnd⟩ := hW'; obtain ⟨v0, d0, rfl, rfl, h0⟩ := trodAll_one hA; obtain ⟨sa, A, rfl, r0, x0, k0⟩ := Q95 (hval0 0 24 v0 (by kernel_rfl) rfl) h0
  exact (Q8l nmE Kt (args := [.agg #[sa]]) (VsRel.cons (.agg' (.cons r0 (.nil _))) (.nil _)) (n4 (blk_of (by kernel_rfl) hL) (pow_of (by kernel_rfl) hL) x0 (fun t ht => (k0 t ht).2) (fun t ht => (k0 t ht).1.2))).mono fun e W' ⟨he, hb⟩ =>
    ⟨_, he, Q9M Qby (by kernel_rfl) rfl rfl QbD (fun ds hds => by
      match ds, hds with
      | [_], _ => exact ⟨rfl, rfl, rfl⟩) hW hb⟩
theorem Q2k : Rows.NamesOthersSaid :=
  OpenClaim.holds_of_wide 4 Tryz.f4 rfl rfl rfl rfl rfl rfl rfl ⟨rfl, rfl, rfl, rfl, rfl⟩ rfl rfl rfl rfl rfl (by kernel_rfl) Tryz.func4 (by kernel_rfl)
    (of_decide_eq_true (by kernel_rfl)) (by unfold Func.isWrapper; first | (rw [if_pos (by decide +kernel)]; kernel_rfl) | (rw [if_neg (by decide +kernel)]; exact ⟨rfl, rfl⟩))
    (fun os started H enc _ => Q0k os started H enc)
theorem namesOthers_holds : Rows.NamesOthersCardSaid :=
  Claim7.holds_tied_plain_at .later [] [.data, .data, .data, .listed, .data] true (true, "9b972fe92e0a29cbcdad73029964671587d0abceb38ca064ca0a2666ae0d1f1f") false
    Q2k (fun _ h => by cases h) (by kernel_rfl) (fun _ h => by cases h) namesOthers_row_tie rfl ⟨rfl, rfl⟩ (by kernel_rfl) rfl
    (fun f fn hf hfn => by
      obtain rfl : f = 4 := Option.some.inj ((show Tryz.prog.funcNamed "detent/detentlaw04.NamesOthers" = some 4 by kernel_rfl).symm.trans hf) |>.symm; obtain rfl : fn = Tryz.f4 := (Option.some.inj (Tryz.func4.symm.trans hfn)).symm
      exact ⟨by kernel_rfl, fun j t ht => by
        have : Tryz.f4.params = #[24] := by kernel_rfl
        rw [this] at ht
        match j, ht with
        | 0, ht => obtain rfl : t = 24 := (Option.some.inj ht).symm; exact (show Tryz.prog.wantsStandIn 24 = false by kernel_rfl)
        | j + 1, ht => simp at ht⟩)
    (by kernel_rfl)
end Go.Proofs.YtkidomfnmpnmaaaGreatDoor
