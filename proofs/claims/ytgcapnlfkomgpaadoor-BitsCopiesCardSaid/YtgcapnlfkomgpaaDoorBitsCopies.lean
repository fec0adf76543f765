/- BitsCopies: the call answers true, whatever the world and the tape, where the listed table lies as the program lays it; the arguments read as they read before; the card. Conditions: the table (math/bits.deBruijn64tab), tied to the program's text. -/
import Derived.Test.YtgcapnlfkomgpaaDoorLb
namespace Go.Proofs.YtgcapnlfkomgpaaDoor
open Go.ChangeShapes Go.WideShapes Go.ChangeAt Go.RowKit Go.Deep Go.X

set_option maxRecDepth 100000

theorem bitsCopies_lifted (os : Os) (started : os.Started) (H : Type) (enc : TypeId × Value → H) :
    ReturnsInHanded {} Tryd.checked os 3 .any (fun w args => (Rows.bitsCopiesSpec.pre enc Tryd.prog Tryd.f3 [] false w args ∧ laidMetH Tryd.prog Rows.bitsCopiesRow.laid w) ∧ sizedMet enc Tryd.prog Tryd.f3 (OpenSpec.ofChange Rows.bitsCopiesSpec) false w args)
      (Rows.bitsCopiesSpec.post enc Tryd.prog Tryd.f3 false true false false) := by
  refine returnsInHanded_of_change_and (C := Tryd.checked) (X := fun w _ => laidMetH Tryd.prog Rows.bitsCopiesRow.laid w) (fun _ _ _ hh h => h.of_heap hh) bits_own started (by kernel_rfl) Tryd.func3
    (ChangeSpec.witness_shaped (enc := enc) (C := Tryd.checked) (os := os) (X := fun w _ => laidMetH Tryd.prog Rows.bitsCopiesRow.laid w) false (World.doorLaid Tryd.prog 400 os) #[.int .i64 0, .slice none 0 0, .int .i64 0, .int .i64 0] 8 rfl (World.shaped_of_RefB (by kernel_rfl) (by kernel_rfl)) (by kernel_rfl) (by kernel_rfl) (by kernel_rfl) (bits_door os _)) ?_
  intro W base args ds gs before hval0 hW _ _ hL _
  have hW' := hW
  obtain ⟨p, q, hA, hV, hp, hfz, hnd⟩ := hW'
  obtain ⟨v0, v1, v2, v3, d0, d1, d2, d3, p0, p1, p2, p3, rfl, rfl, rfl, h0, h1, h2, h3⟩ := trodAll_four hA
  obtain ⟨k0, rfl, _⟩ := arg_int bits_int (hval0 0 3 v0 (by kernel_rfl) rfl) h0
  obtain ⟨a, c, xs, rfl, r2, hs⟩ := ints_arg (hval0 1 22 v1 (by kernel_rfl) rfl) h1
  obtain ⟨k2, rfl, _⟩ := arg_int bits_int (hval0 2 3 v2 (by kernel_rfl) rfl) h2
  obtain ⟨k3, rfl, _⟩ := arg_int bits_int (hval0 3 3 v3 (by kernel_rfl) rfl) h3
  exact (open_below bitsE bits_mixed (args := [.int .i64 k0, .slice a xs.length c, .int .i64 k2, .int .i64 k3]) (VsRel.cons (.int _ _) (VsRel.cons r2 (VsRel.cons (.int _ _) (VsRel.cons (.int _ _) (.nil _))))) (c3 (tab_all hL) hs)).mono fun e W' ⟨he, hb⟩ =>
    ⟨_, he, open_post bits_laid (by kernel_rfl) rfl rfl bits_bool (fun ds hds => by
      match ds, hds with
      | [_, _, _, _], _ => exact ⟨rfl, rfl, rfl⟩) hW hb⟩

theorem bitsCopies_row : Rows.BitsCopiesSaid :=
  OpenClaim.holds_of_wide 3 Tryd.f3 rfl rfl rfl rfl rfl rfl rfl ⟨rfl, rfl, rfl, rfl, rfl⟩ rfl rfl rfl rfl rfl (by kernel_rfl) Tryd.func3 (by kernel_rfl)
    (of_decide_eq_true (by kernel_rfl)) (by unfold Func.isWrapper; first | (rw [if_pos (by decide +kernel)]; kernel_rfl) | (rw [if_neg (by decide +kernel)]; exact ⟨rfl, rfl⟩))
    (fun os started H enc _ => bitsCopies_lifted os started H enc)

theorem bitsCopies_holds : Rows.BitsCopiesCardSaid :=
  Claim7.holds_tied_plain_at .later [] [.data] true (true, "221da8ee804bc23be961c51358b34d77db98146d7a49556ae6838f9c2d4cb449") false
    bitsCopies_row (fun _ h => by cases h) (by kernel_rfl) (fun _ h => by cases h) bitsCopies_row_tie rfl ⟨rfl, rfl⟩ (by kernel_rfl) rfl
    (fun f fn hf hfn => by
      obtain rfl : f = 3 := Option.some.inj ((show Tryd.prog.funcNamed "detent/detentlaw17.BitsCopies" = some 3 by kernel_rfl).symm.trans hf) |>.symm
      obtain rfl : fn = Tryd.f3 := (Option.some.inj (Tryd.func3.symm.trans hfn)).symm
      exact ⟨by kernel_rfl, fun j t ht => by
        have : Tryd.f3.params = #[3, 22, 3, 3] := by kernel_rfl
        rw [this] at ht
        match j, ht with
        | 0, ht => obtain rfl : t = 3 := (Option.some.inj ht).symm; exact (show Tryd.prog.wantsStandIn 3 = false by kernel_rfl)
        | 1, ht => obtain rfl : t = 22 := (Option.some.inj ht).symm; exact (show Tryd.prog.wantsStandIn 22 = false by kernel_rfl)
        | 2, ht => obtain rfl : t = 3 := (Option.some.inj ht).symm; exact (show Tryd.prog.wantsStandIn 3 = false by kernel_rfl)
        | 3, ht => obtain rfl : t = 3 := (Option.some.inj ht).symm; exact (show Tryd.prog.wantsStandIn 3 = false by kernel_rfl)
        | j + 4, ht => simp at ht⟩)
    (by kernel_rfl)


end Go.Proofs.YtgcapnlfkomgpaaDoor
