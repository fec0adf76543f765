/- NamesMeans: the call answers true, whatever the world and the tape, where the listed tables lie as the program lays them; the arguments read as they read before; the card. Conditions: the tables, tied to the program's text. -/
import Derived.Test.YtkidomfnmpnmaaaGreatDoorLe
namespace Go.Proofs.YtkidomfnmpnmaaaGreatDoor
open Go.ChangeShapes Go.WideShapes Go.ChangeAt Go.RowKit Go.Deep Go.X
set_option maxRecDepth 100000
theorem Qbl (os : Os) (args : Array Value) : laidMetH Tryz.prog Rows.namesMeansRow.laid (((World.doorLaid Tryz.prog 400 os).forCall (fun _ _ => 0) ⟨#[], args, []⟩).memory) :=
  laidMetH_of_parts3 (fuel := 8) (laidMet_of_run' 8 (by kernel_rfl) (by kernel_rfl)) (by kernel_rfl) (by kernel_rfl)
theorem Q0G (os : Os) (started : os.Started) (H : Type) (enc : TypeId × Value → H) :
    ReturnsInHanded {} Tryz.checked os 3 .any (fun w args => (Rows.namesMeansSpec.pre enc Tryz.prog Tryz.f3 [] false w args ∧ laidMetH Tryz.prog Rows.namesMeansRow.laid w) ∧ sizedMet enc Tryz.prog Tryz.f3 (OpenSpec.ofChange Rows.namesMeansSpec) false w args)
      (Rows.namesMeansSpec.post enc Tryz.prog Tryz.f3 false true false false) := by
  refine returnsInHanded_of_change_and (C := Tryz.checked) (X := fun w _ => laidMetH Tryz.prog Rows.namesMeansRow.laid w) (fun _ _ _ hh h => h.of_heap hh) QcH started (by kernel_rfl) Tryz.func3
    (ChangeSpec.witness_shaped (enc := enc) (C := Tryz.checked) (os := os) (X := fun w _ => laidMetH Tryz.prog Rows.namesMeansRow.laid w) false (World.doorLaid Tryz.prog 400 os) #[.agg #[.slice none 0 0]] 8 rfl (World.shaped_of_RefB (by kernel_rfl) (by kernel_rfl)) (by kernel_rfl) (by kernel_rfl) (by kernel_rfl) (Qbl os _)) ?_
  intro W base args ds gs before hval0 hW _ _ hL _; have hW' := hW; obtain ⟨p, q, hA, hV, hp, hfz, hnd⟩ := hW'; obtain ⟨v0, d0, rfl, rfl, h0⟩ := trodAll_one hA; obtain ⟨sa, A, rfl, r0, x0, k0⟩ := Q8x (hval0 0 24 v0 (by kernel_rfl) rfl) h0
  exact (Q7S nmE Kk (args := [.agg #[sa]]) (VsRel.cons (.agg' (.cons r0 (.nil _))) (.nil _)) (n3 (blk_of (by kernel_rfl) hL) (pow_of (by kernel_rfl) hL) x0 (fun t ht => (k0 t ht).2) (fun t ht => (k0 t ht).1.2) (fun t ht => (k0 t ht).1.1))).mono fun e W' ⟨he, hb⟩ =>
    ⟨_, he, Q9d QaL (by kernel_rfl) rfl rfl QaQ (fun ds hds => by
      match ds, hds with
      | [_], _ => exact ⟨rfl, rfl, rfl⟩) hW hb⟩
theorem Q2v : Rows.NamesMeansSaid :=
  OpenClaim.holds_of_wide 3 Tryz.f3 rfl rfl rfl rfl rfl rfl rfl ⟨rfl, rfl, rfl, rfl, rfl⟩ rfl rfl rfl rfl rfl (by kernel_rfl) Tryz.func3 (by kernel_rfl)
    (of_decide_eq_true (by kernel_rfl)) (by unfold Func.isWrapper; first | (rw [if_pos (by decide +kernel)]; kernel_rfl) | (rw [if_neg (by decide +kernel)]; exact ⟨rfl, rfl⟩))
    (fun os started H enc _ => Q0G os started H enc)
theorem namesMeans_holds : Rows.NamesMeansCardSaid :=
  Claim7.holds_tied_plain_at .later [] [.data, .data, .data, .listed, .data] true (true, "9b972fe92e0a29cbcdad73029964671587d0abceb38ca064ca0a2666ae0d1f1f") false
    Q2v (fun _ h => by cases h) (by kernel_rfl) (fun _ h => by cases h) namesMeans_row_tie rfl ⟨rfl, rfl⟩ (by kernel_rfl) rfl
    (fun f fn hf hfn => by
      obtain rfl : f = 3 := Option.some.inj ((show Tryz.prog.funcNamed "detent/detentlaw04.NamesMeans" = some 3 by kernel_rfl).symm.trans hf) |>.symm; obtain rfl : fn = Tryz.f3 := (Option.some.inj (Tryz.func3.symm.trans hfn)).symm
      exact ⟨by kernel_rfl, fun j t ht => by
        have : Tryz.f3.params = #[24] := by kernel_rfl
        rw [this] at ht
        match j, ht with
        | 0, ht => obtain rfl : t = 24 := (Option.some.inj ht).symm; exact (show Tryz.prog.wantsStandIn 24 = false by kernel_rfl)
        | j + 1, ht => simp at ht⟩)
    (by kernel_rfl)
end Go.Proofs.YtkidomfnmpnmaaaGreatDoor
