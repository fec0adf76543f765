/- strings.Cut, strings.Split, strconv.Atoi, strconv.ParseInt, strconv.Itoa as calls that are not gone through. Conditions: the library's contracts, laid at the program; the library's variables lie there. X: strings added, compared, once more. Conditions: none. X: a listed error of the library's (a pointer to a struct of one string in an interface) lies there. Conditions: none. -/
import Derived.Test.YtdgemlcdhobejaaGreatDoorXd
import Derived.Test.YtdgemlcdhobejaaGreatDoorXb
import Derived.Shelf.Strings.Split
import Derived.Shelf.Strings.Cut
import Derived.Shelf.Strconv.AtoiAll
import Derived.Shelf.Strconv.ParseIntPublic10
import Derived.Test.YtdgemlcdhobejaaGreatDoorXc
namespace Go.X
open Go.Shelf Go.RowKit Go.Sort

/-- A whole number lies there. -/
noncomputable def intThere (g : Nat) (h : Hp) : Bool := match h.get g with
  | some (.cells (.int .i64 _ :: _) _ _) => true
  | _ => false
/-- An interface's value lies there. -/
noncomputable def ifaceThere (g : Nat) (h : Hp) : Bool := match h.get g with
  | some (.cells (.iface _ _ :: _) _ _) => true
  | some (.cells (.nilIface :: _) _ _) => true
  | _ => false
section
variable {W : World} {B : Nat → Prop} {M : Mp} {h : Hp} {w : World} {g : Nat}
theorem cell_world (H : HRel W B M h w) (h255 : g ≤ 255) {v : Value} {l : List Value} {e : TypeId} {m : Nat} (hg : h.get g = some (.cells (v :: l) e m)) : ∃ u, w.cell? ⟨g, 0, none⟩ = some u ∧ VRel M v u := by
  obtain ⟨hK, hpos⟩ := H.glob g h255
  obtain ⟨b, δ, S, x, hρ, hx, c', fr, rfl, hS, hle, hcs, hm'⟩ := H.place hK hg (by simp)
  obtain ⟨rfl, rfl⟩ := hpos b δ S hρ
  obtain ⟨u, hu, hvu⟩ := hcs 0 _ rfl
  exact ⟨u, by simpa [World.cell?, hx] using hu, hvu⟩
theorem int_world (H : HRel W B M h w) (h255 : g ≤ 255) (ht : intThere g h = true) : ∃ m, w.cell? ⟨g, 0, none⟩ = some (.int .i64 m) := by
  unfold intThere at ht
  split at ht
  · rename_i k l e m hg
    obtain ⟨u, h1, h2⟩ := cell_world H h255 hg
    cases h2
    exact ⟨_, h1⟩
  cases ht
theorem iface_world (H : HRel W B M h w) (h255 : g ≤ 255) (ht : ifaceThere g h = true) : ∃ ev, w.cell? ⟨g, 0, none⟩ = some ev ∧ (ev = .nilIface ∨ ∃ te pe, ev = .iface te pe) := by
  unfold ifaceThere at ht
  split at ht
  · rename_i t p l e m hg
    obtain ⟨u, h1, h2⟩ := cell_world H h255 hg
    cases h2
    exact ⟨_, h1, .inr ⟨_, _, rfl⟩⟩
  · rename_i l e m hg
    obtain ⟨u, h1, h2⟩ := cell_world H h255 hg
    cases h2
    exact ⟨_, h1, .inl rfl⟩
  cases ht
theorem one_arg {v : Value} {args' : Array Value} (hv : VsRel M [v] args'.toList) : ∃ u, args' = #[u] ∧ VRel M v u := by
  generalize hl : args'.toList = l at hv
  obtain ⟨h1, h2⟩ := hv
  match l, h1 with
  | [a], _ => exact ⟨a, Array.toList_inj.1 hl, h2 0 _ _ rfl rfl⟩
theorem two_args {v v2 : Value} {args' : Array Value} (hv : VsRel M [v, v2] args'.toList) : ∃ u u2, args' = #[u, u2] ∧ VRel M v u ∧ VRel M v2 u2 := by
  generalize hl : args'.toList = l at hv
  obtain ⟨h1, h2⟩ := hv
  match l, h1 with
  | [a, b], _ => exact ⟨a, b, Array.toList_inj.1 hl, h2 0 _ _ rfl rfl, h2 1 _ _ rfl rfl⟩
theorem three_args {v v2 v3 : Value} {args' : Array Value} (hv : VsRel M [v, v2, v3] args'.toList) : ∃ u u2 u3, args' = #[u, u2, u3] ∧ VRel M v u ∧ VRel M v2 u2 ∧ VRel M v3 u3 := by
  generalize hl : args'.toList = l at hv
  obtain ⟨h1, h2⟩ := hv
  match l, h1 with
  | [a, b, c], _ => exact ⟨a, b, c, Array.toList_inj.1 hl, h2 0 _ _ rfl rfl, h2 1 _ _ rfl rfl, h2 2 _ _ rfl rfl⟩
theorem num_rel {n : Int} {u : Value} (hu : Cell1 u) : VRel M (.tuple #[.int .i64 n, .chan (some 0)]) (.tuple #[.int .i64 n, u]) :=
  .tuple' (.cons (.int _ _) (.cons (.junk hu) (.nil M)))
end

variable {P : Program} {ρ : Ren}
noncomputable def cutX (g : Nat) (args : List Value) (h : Hp) : Option (Value × Hp) := match args with
  | [.string s, .string sep] => cond (intThere g h && decide (s.size < 4294967281)) (some (.tuple #[.string ⟨(Lib.cut s.data.toList sep.data.toList).1.toArray⟩, .string ⟨(Lib.cut s.data.toList sep.data.toList).2.1.toArray⟩, .bool (Lib.cut s.data.toList sep.data.toList).2.2], h)) none
  | _ => none
theorem cut_law (L : Go.Proofs.Lays.n145 P ρ) (h255 : ρ.g 1 ≤ 255) : SmLaw P (ρ.f 145) (cutX (ρ.g 1)) := by
  intro W B M h w args args' v h' hnb H hv hF
  unfold cutX at hF
  split at hF
  case h_2 => cases hF
  rename_i s sep
  obtain ⟨hc, hF⟩ := cond_some hF
  cases hF
  simp only [Bool.and_eq_true, decide_eq_true_eq] at hc
  obtain ⟨u, u2, rfl, e1, e2⟩ := two_args hv
  cases e1; cases e2
  obtain ⟨m, hm⟩ := int_world H h255 hc.1
  refine (Go.Proofs.Any.strings_Cut L s sep m w hc.2 hm).mono fun e' w' ⟨he, n, hw⟩ => ?_
  subst hw
  exact ⟨_, M, he, .refl M, H.below hnb (below_drewN (Below.refl _ w) n), .refl _ _ _, .tuple' (.cons (.string _) (.cons (.string _) (.cons (.bool _) (.nil M))))⟩

noncomputable def splitX (g e : Nat) (args : List Value) (h : Hp) : Option (Value × Hp) := match args with
  | [.string s, .string sep] => cond (intThere g h && decide (s.size < 4294967281) && decide (1 ≤ sep.size)) (some (.slice (some ⟨h.n, 0, none⟩) (Lib.countB s sep + 1) (Lib.countB s sep + 1), h.alloc (.cells ((Lib.splitB sep 0 (Lib.countB s sep) s).map Value.string) e 0))) none
  | _ => none
theorem split_law (L : Go.Proofs.Lays.n146 P ρ) (hi9 : (P.info? (ρ.t 9)).map (fun i => (i.zero, i.size, i.bytes)) = some (some (.string ByteArray.empty), 1, 16)) (h255 : ρ.g 1 ≤ 255) : SmLaw P (ρ.f 146) (splitX (ρ.g 1) (ρ.t 9)) := by
  intro W B M h w args args' v h' hnb H hv hF
  unfold splitX at hF
  split at hF
  case h_2 => cases hF
  rename_i s sep
  obtain ⟨hc, hF⟩ := cond_some hF
  cases hF
  simp only [Bool.and_eq_true, decide_eq_true_eq] at hc
  obtain ⟨⟨hc0, hc1⟩, hc2⟩ := hc
  obtain ⟨u, u2, rfl, e1, e2⟩ := two_args hv
  cases e1; cases e2
  obtain ⟨m, hm⟩ := int_world H h255 hc0
  refine (Go.Proofs.Any.strings_Split L hi9 s sep m w hc1 hm hc2).mono fun e' w' ⟨he, hw⟩ => ?_
  subst hw
  have hnk : ¬ M.K h.n := fun hk => by have := H.kn _ hk; omega
  have hlen := Lib.splitB_all sep hc2 0 (Lib.countB s sep) s rfl
  have hpush := (H.allocX (.cells ((Lib.splitB sep 0 (Lib.countB s sep) s).map Value.string) (ρ.t 9) 0)).push (i := h.n) (o := .cells ((Lib.splitB sep 0 (Lib.countB s sep) s).map Value.string) (ρ.t 9) 0)
    (x := .cells ((Lib.splitB sep 0 (Lib.countB s sep) s).map Value.string).toArray (ρ.t 9)) (S := ((Lib.splitB sep 0 (Lib.countB s sep) s).map Value.string).length) (m := 0) hnk (by rw [Hp.n_alloc]; omega) (by rw [Hp.get_alloc, if_pos rfl])
    ⟨_, (0, 0), rfl, by simp, by simp, fun j v hj => ⟨v, by rw [Nat.zero_add, List.getElem?_toArray]; exact hj, by
      rw [List.getElem?_map] at hj
      cases hq : (Lib.splitB sep 0 (Lib.countB s sep) s)[j]? with
      | none => rw [hq] at hj; cases hj
      | some q => rw [hq] at hj; cases hj; exact .string _⟩, .inl ⟨rfl, by simp [Mp.add], rfl, by simp, rfl⟩⟩
  refine ⟨_, _, he, Mp.add_ev M h.n w.heap.size 0 _ 0 hnk, hpush, keep_alloc fun i hi hk => by
    rcases hk with rfl | hk
    · omega
    exact hk, .sl ⟨.inl rfl, fun b δ S' hb => ?_⟩⟩
  simp only [Mp.add, if_true, Option.some.injEq, Prod.mk.injEq] at hb
  obtain ⟨rfl, rfl, rfl⟩ := hb
  exact .inl ⟨by simp [Mp.add], rfl, rfl⟩

/-- The number that strconv.Atoi and strconv.ParseInt (base 10, 64 bits) answer. -/
def numEnd (r : Lib.NumEnd Int) (sat : Int) : Int := match r with
  | .ok v => v
  | .syntax => 0
  | .range => sat

noncomputable def atoiX (g1 g2 : Nat) (args : List Value) (h : Hp) : Option (Value × Hp) := match args with
  | [.string s] => cond (ifaceThere g1 h && ifaceThere g2 h && decide (s.size ≤ 281474976710656)) (some (.tuple #[.int .i64 (numEnd (Lib.atoiAll s.data.toList) (Lib.atoiSat s.data.toList)), .chan (some 0)], h)) none
  | _ => none
theorem atoi_law (L : Go.Proofs.LaysC.n172 P ρ) (h1 : ρ.g 15 ≤ 255) (h2 : ρ.g 16 ≤ 255) : SmLaw P (ρ.f 172) (atoiX (ρ.g 15) (ρ.g 16)) := by
  intro W B M h w args args' v h' hnb H hv hF
  unfold atoiX at hF
  split at hF
  case h_2 => cases hF
  rename_i s
  obtain ⟨hc, hF⟩ := cond_some hF
  cases hF
  simp only [Bool.and_eq_true, decide_eq_true_eq] at hc
  obtain ⟨u, rfl, e1⟩ := one_arg hv
  cases e1
  obtain ⟨ev1, hv1, hev1⟩ := iface_world H h1 hc.1.1
  obtain ⟨ev2, hv2, hev2⟩ := iface_world H h2 hc.1.2
  have hs := hc.2
  cases hr : Lib.atoiAll s.data.toList with
  | ok v =>
    refine (Go.Proofs.Any.strconv_Atoi_ok L s (by omega) v hr w).mono fun e' w' ⟨he, hw⟩ => ?_
    have hb : Below w.heap.size w w' := by
      rcases hw with rfl | ⟨t, rfl⟩
      · exact Below.refl _ _
      exact Lib.bytesWorld_below _ _ _
    exact ⟨_, M, he, .refl M, H.below hnb hb, .refl _ _ _, num_rel trivial⟩
  | «syntax» =>
    refine (Go.Proofs.Any.strconv_Atoi_syntax L s hs hr ev1 w hv1 hev1).mono fun e' w' ⟨N, he, _, _, hb⟩ => ?_
    exact ⟨_, M, he, .refl M, H.below hnb hb, .refl _ _ _, num_rel trivial⟩
  | range =>
    refine (Go.Proofs.Any.strconv_Atoi_range L s hs hr ev2 w hv2 hev2).mono fun e' w' ⟨N, he, _, _, hb⟩ => ?_
    exact ⟨_, M, he, .refl M, H.below hnb hb, .refl _ _ _, num_rel trivial⟩

noncomputable def parseX (g1 g2 : Nat) (args : List Value) (h : Hp) : Option (Value × Hp) := match args with
  | [.string s, .int .i64 b, .int .i64 z] => cond (ifaceThere g1 h && ifaceThere g2 h && decide (s.size ≤ 281474976710656) && decide (b = 10) && decide (z = 64)) (some (.tuple #[.int .i64 (numEnd (Lib.parseIntB 64 s.data.toList) (Lib.intSat 64 s.data.toList)), .chan (some 0)], h)) none
  | _ => none
theorem parse_law (L : Go.Proofs.LaysC.n174 P ρ) (h1 : ρ.g 15 ≤ 255) (h2 : ρ.g 16 ≤ 255) : SmLaw P (ρ.f 174) (parseX (ρ.g 15) (ρ.g 16)) := by
  intro W B M h w args args' v h' hnb H hv hF
  unfold parseX at hF
  split at hF
  case h_2 => cases hF
  rename_i s b z
  obtain ⟨hc, hF⟩ := cond_some hF
  cases hF
  simp only [Bool.and_eq_true, decide_eq_true_eq] at hc
  obtain ⟨⟨⟨⟨c1, c2⟩, hs⟩, rfl⟩, rfl⟩ := hc
  obtain ⟨u, u2, u3, rfl, e1, e2, e3⟩ := three_args hv
  cases e1; cases e2; cases e3
  obtain ⟨ev1, hv1, hev1⟩ := iface_world H h1 c1
  obtain ⟨ev2, hv2, hev2⟩ := iface_world H h2 c2
  cases hr : Lib.parseIntB 64 s.data.toList with
  | ok v =>
    refine (Go.Proofs.Any.strconv_ParseInt_10_at64_ok L s (by omega) v hr w).mono fun e' w' ⟨he, hw⟩ => ?_
    have hb : Below w.heap.size w w' := by
      rcases hw with rfl | ⟨t, rfl⟩
      · exact Below.refl _ _
      exact Lib.bytesWorld_below _ _ _
    exact ⟨_, M, he, .refl M, H.below hnb hb, .refl _ _ _, num_rel trivial⟩
  | «syntax» =>
    refine (Go.Proofs.Any.strconv_ParseInt_10_at64_syntax L s hs hr ev1 w hv1 hev1).mono fun e' w' ⟨N, he, _, _, hb⟩ => ?_
    exact ⟨_, M, he, .refl M, H.below hnb hb, .refl _ _ _, num_rel trivial⟩
  | range =>
    refine (Go.Proofs.Any.strconv_ParseInt_10_at64_range L s hs hr ev2 w hv2 hev2).mono fun e' w' ⟨N, he, _, _, hb⟩ => ?_
    exact ⟨_, M, he, .refl M, H.below hnb hb, .refl _ _ _, num_rel trivial⟩

noncomputable def itoaX (g : Nat) (args : List Value) (h : Hp) : Option (Value × Hp) := match args with
  | [.int .i64 n] => cond (tabThere g (Lib.pow10Tab.map (Value.int .u64)) h && decide (-9223372036854775808 ≤ n) && decide (n ≤ 9223372036854775807)) (some (.string ⟨(Lib.itoa n).toArray⟩, h)) none
  | _ => none
theorem itoa_law (L : Go.Proofs.LaysM.n171 P ρ) {g : Nat} (hn : P.globalNamed "internal/strconv.uint64pow10" = some g) (h255 : g ≤ 255) : SmLaw P (ρ.f 171) (itoaX g) := by
  intro W B M h w args args' v h' hnb H hv hF
  unfold itoaX at hF
  split at hF
  case h_2 => cases hF
  rename_i n
  obtain ⟨hc, hF⟩ := cond_some hF
  cases hF
  simp only [Bool.and_eq_true, decide_eq_true_eq] at hc
  obtain ⟨⟨ht, h0⟩, h1⟩ := hc
  obtain ⟨u, rfl, e1⟩ := one_arg hv
  cases e1
  obtain ⟨e, fr, hg⟩ := tab_world H h255 ht
  have hT : Lib.TabIs P w "internal/strconv.uint64pow10" .u64 Lib.pow10Tab := by
    unfold Lib.TabIs World.var?
    rw [hn]
    simp only [Option.bind_some, hg]
  refine (Go.Proofs.Any.strconv_Itoa L n h0 h1 w hT).mono fun e' w' ⟨he, k, os, hw⟩ => ?_
  subst hw
  exact ⟨_, M, he, .refl M, H.below hnb (below_grow (below_drewN (Below.refl _ w) k) (Nat.le_refl _) os), .refl _ _ _, .string _⟩
end Go.X

namespace Go.X
theorem same_str {s : ByteArray} : sameV 20 (.string s) (.string s) = true := by simp [sameV]
section
variable {E : Env} {l : Kn} {h : Hp} {ops : Array Oper} {d : Nat} {ty t ty2 : TypeId} {pos : String} {af : Array Edge} {gg : Option (Nat × Bool)} {x y : Operand}
theorem ag_addS {s u : ByteArray} (g : Gd ops l gg) (hx : evl l x = some (.string s)) (hy : evl l y = some (.string u)) (hs : s.size + u.size < 9223372036854775808) (hl : lk l d = some (.string (s ++ u))) : Again E ops l h ⟨some d, .binOp .add t x y ty2, ty, pos, af, gg⟩ :=
  .inr ⟨g, _, d, rfl, hl, same_str, fun _ ag => by
    have : ¬ (((s.size + u.size : Nat) : Int) > IntKind.i64.max) := by
      have e : IntKind.i64.max = 9223372036854775807 := by decide
      rw [e]; omega
    simp only [readX, ag.ev hx, ag.ev hy, binX, strBin, this, decide_false, cond_false]⟩
theorem ag_eqS {s u : ByteArray} (g : Gd ops l gg) (hx : evl l x = some (.string s)) (hy : evl l y = some (.string u)) (hl : lk l d = some (.bool (eqS s u))) : Again E ops l h ⟨some d, .binOp .eql t x y ty2, ty, pos, af, gg⟩ :=
  .inr ⟨g, _, d, rfl, hl, by simp [sameV], fun _ ag => by simp only [readX, ag.ev hx, ag.ev hy, binX, strBin, boolV_eq]⟩
end
section
variable {E : Env} {fn : FuncId} {nt : Nat} {l : Kn} {h : Hp} {dr : Bool} {ops : Array Oper} {fin rest : List (Oper × List Oper)} {R : Kn → Hp → Prop} {lt : List Oper} {d : Nat} {ty s t : TypeId} {pos : String} {af : Array Edge} {gg : Option (Nat × Bool)} {x : Operand}
/-- A row of bytes, as a string. -/
theorem o_convBS {b n c : Nat} {e e' : TypeId} {cs : List Value} {m : Nat} {bs : List UInt8} (g : Gd ops l gg) (hd : Nat.blt d nt = true) (hx : evl l x = some (.slice (some ⟨b, 0, none⟩) n c)) (hs : E.und s = some (.slice e)) (he : E.und e = some (.int .u8)) (ht : E.und t = some .string)
    (hg : h.get b = some (.cells cs e' m)) (hb : (Nat.ble (0 + n) cs.length = true ∧ bytesIn ((cs.drop 0).take n) [] = some bs)) (q : WL E fn nt dr ops fin rest ((d, .string ⟨bs.toArray⟩) :: l) h R) :
    WL E fn nt dr ops fin ((⟨some d, .convert s t x, ty, pos, af, gg⟩, lt) :: rest) l h R :=
  wl_read g (by simp only [cls, ht]) (fun _ ag => by
    simp only [readX, ag.ev hx, convertX, hs, ht, he, rowOf, hg, hb.1, cond_true, hb.2]) (wn hd) q
end
section
variable {E : Env} {fn : FuncId} {nt : Nat} {l : Kn} {h : Hp} {dr : Bool} {ops : Array Oper} {fin rest : List (Oper × List Oper)} {R : Kn → Hp → Prop} {lt : List Oper} {d : Nat} {ty t ty2 : TypeId} {pos : String} {af : Array Edge} {gg : Option (Nat × Bool)} {x y : Operand} {k : IntKind} {a b : Int}
theorem o_negI (g : Gd ops l gg) (hd : Nat.blt d nt = true) (hx : evl l x = some (.int .i64 a)) (h1 : -9223372036854775808 < a) (h2 : a < 9223372036854775808) (q : WL E fn nt dr ops fin rest ((d, .int .i64 (-a)) :: l) h R) :
    WL E fn nt dr ops fin ((⟨some d, .unOp .neg t x, ty, pos, af, gg⟩, lt) :: rest) l h R :=
  wl_read g rfl (fun _ ag => by
    have : IntKind.i64.wrap (0 - a) = -a := by rw [wrap64 (by omega) (by omega)]; omega
    simp only [readX, ag.ev hx, unX, wrapX_eq, someI_eq, this]) (wn hd) q
/-- What may wrap round. -/
theorem o_negW (g : Gd ops l gg) (hd : Nat.blt d nt = true) (hx : evl l x = some (.int k a)) (q : WL E fn nt dr ops fin rest ((d, .int k (k.wrap (0 - a))) :: l) h R) :
    WL E fn nt dr ops fin ((⟨some d, .unOp .neg t x, ty, pos, af, gg⟩, lt) :: rest) l h R :=
  wl_read g rfl (fun _ ag => by
    simp only [readX, ag.ev hx, unX, wrapX_eq, someI_eq]) (wn hd) q
theorem o_mulW (g : Gd ops l gg) (hd : Nat.blt d nt = true) (hx : evl l x = some (.int k a)) (hy : evl l y = some (.int k b)) (q : WL E fn nt dr ops fin rest ((d, .int k (k.wrap (a * b))) :: l) h R) :
    WL E fn nt dr ops fin ((⟨some d, .binOp .mul t x y ty2, ty, pos, af, gg⟩, lt) :: rest) l h R := o_int2 g hd hx hy rfl (by simp only [intBin, someI_eq, wrapX_eq]) q
theorem o_subW (g : Gd ops l gg) (hd : Nat.blt d nt = true) (hx : evl l x = some (.int k a)) (hy : evl l y = some (.int k b)) (q : WL E fn nt dr ops fin rest ((d, .int k (k.wrap (a - b))) :: l) h R) :
    WL E fn nt dr ops fin ((⟨some d, .binOp .sub t x y ty2, ty, pos, af, gg⟩, lt) :: rest) l h R := o_int2 g hd hx hy rfl (by simp only [intBin, someI_eq, wrapX_eq]) q
theorem o_sumW (g : Gd ops l gg) (hd : Nat.blt d nt = true) (hx : evl l x = some (.int k a)) (hy : evl l y = some (.int k b)) (q : WL E fn nt dr ops fin rest ((d, .int k (k.wrap (a + b))) :: l) h R) :
    WL E fn nt dr ops fin ((⟨some d, .binOp .add t x y ty2, ty, pos, af, gg⟩, lt) :: rest) l h R := o_int2 g hd hx hy rfl (by simp only [intBin, someI_eq, wrapX_eq]) q
end
section
variable {E : Env} {fn : FuncId} {nt : Nat} {l : Kn} {h : Hp} {dr : Bool} {ops : Array Oper} {fin rest : List (Oper × List Oper)} {R : Kn → Hp → Prop} {lt : List Oper} {d : Nat} {ty t ty2 : TypeId} {pos : String} {af : Array Edge} {gg : Option (Nat × Bool)} {x y z : Operand} {k k' : IntKind}
/-- A piece of a string. -/
theorem o_sliceS {s : ByteArray} {i j : Nat} (g : Gd ops l gg) (hd : Nat.blt d nt = true) (hx : evl l x = some (.string s)) (hy : evl l y = some (.int k (i : Int))) (hz : evl l z = some (.int k' (j : Int))) (ht : isStr E t = true) (hij : i ≤ j) (hj : j ≤ s.size)
    (q : WL E fn nt dr ops fin rest ((d, .string (s.extract i j)) :: l) h R) : WL E fn nt dr ops fin ((⟨some d, .slice t x (some y) (some z) none, ty, pos, af, gg⟩, lt) :: rest) l h R :=
  wl_read g rfl (fun _ ag => by
    have hb : boundsOk i j s.size = true := boundsOk_iff.2 ⟨hij, hj⟩
    have e1 : natOf (.int k (i : Int)) = some i := natOf_int (Int.natCast_nonneg i)
    have e2 : natOf (.int k' (j : Int)) = some j := natOf_int (Int.natCast_nonneg j)
    simp only [readX, ag.ev hx, Option.map_none, Option.map_some, ag.ev hy, ag.ev hz, sliceX, isStr_und ht, optNat, e1, e2, hb, cond_true]) (wn hd) q
theorem extract_tl (s : ByteArray) (i j : Nat) : (s.extract i j).toList = (s.toList.take j).drop i := by
  rw [ByteArray.toList_eq, ByteArray.toList_eq, ByteArray.data_extract, Array.toList_extract, List.extract_eq_take_drop, List.drop_take]
end
end Go.X

namespace Go.X
open Go.RowKit Go.Deep Go.ChangeShapes Go.WideShapes Go.ChangeAt

section
variable {H : Type} {enc : TypeId × Value → H} {P : Program} {w : World} {base : Nat} {sp : Nat → Bool} {held : Bool} {fuel : Nat} {t : TypeId} {cs : List Value} {p : List MemPlace}

theorem trod_lit0 {l : Lit} (h : DataW.trod enc P w base sp held fuel t [] = some (.lit l, p)) : False := by
  cases fuel with
  | zero => simp [DataW.trod] at h
  | succ n =>
    unfold DataW.trod at h
    split at h <;> simp_all
theorem trod_is_ptr {d : DataW H} (h : DataW.trod enc P w base sp held fuel t cs = some (.ptr d, p)) : ∃ e, P.underlying t = some (.pointer e) := by
  cases hd : P.underlying t with
  | none =>
    cases fuel with
    | zero => simp [DataW.trod] at h
    | succ n =>
      unfold DataW.trod at h
      rw [hd] at h
      cases h
  | some D =>
    cases D with
    | pointer e => exact ⟨e, rfl⟩
    | bool => obtain ⟨_, _, e⟩ := DataW.trod_bool hd h; cases e
    | int k => obtain ⟨_, _, e, _⟩ := DataW.trod_int hd h; cases e
    | string => obtain ⟨_, _, e, _⟩ := DataW.trod_string hd h; cases e
    | struct fs => obtain ⟨_, _, _, e, _⟩ := DataW.trod_struct hd h; cases e
    | array n e => obtain ⟨_, _, _, e, _⟩ := DataW.trod_array hd h; cases e
    | slice e =>
      rcases DataW.trod_slice hd h with ⟨_, e⟩ | ⟨_, _, _, _, _, _, _, _, e, _⟩ <;> cases e
    | map k e =>
      cases fuel with
      | zero => simp [DataW.trod] at h
      | succ n =>
        unfold DataW.trod at h
        rw [hd] at h
        split at h <;> try (first | (cases h; done) | (simp_all; done))
        simp only at h
        split at h
        · split at h
          · simp only [Option.bind_eq_some_iff] at h
            obtain ⟨_, _, h⟩ := h
            split at h <;> simp at h
          cases h
        cases h
    | interface ms =>
      cases fuel with
      | zero => simp [DataW.trod] at h
      | succ n =>
        unfold DataW.trod at h
        rw [hd] at h
        split at h <;> try (first | (cases h; done) | (simp_all; done))
        split at h
        · cases h
        · simp only [Option.map_eq_some_iff, Prod.mk.injEq] at h
          obtain ⟨_, _, h, _⟩ := h
          cases h
        cases h
    | _ =>
      cases fuel with
      | zero => simp [DataW.trod] at h
      | succ n =>
        unfold DataW.trod at h
        rw [hd] at h
        split at h <;> simp_all
theorem trod_agg0 {l : Lit} (h : DataW.trod enc P w base sp held fuel t [] = some (.agg [.lit l], p)) : False := by
  cases hd : P.underlying t with
  | none =>
    cases fuel with
    | zero => simp [DataW.trod] at h
    | succ n =>
      unfold DataW.trod at h
      rw [hd] at h
      cases h
  | some D =>
    cases D with
    | struct fs =>
      obtain ⟨xs, n, _, e, _, hxs, hf⟩ := DataW.trod_struct hd h
      simp only [Prod.mk.injEq, DataW.agg.injEq] at e
      obtain ⟨⟨y1, y2⟩, rfl, hy⟩ := List.map_eq_singleton_iff.1 e.1.symm
      simp only at hy
      subst hy
      have hlt : 0 < fs.size := by rw [← hxs]; exact Nat.one_pos
      have h1 := hf 0 fs[0] (Array.getElem?_eq_getElem hlt)
      simp only [List.drop_nil, List.take_nil, List.getElem?_cons_zero] at h1
      exact trod_lit0 h1
    | array n e =>
      obtain ⟨xs, m, _, e, _, hxs, hf⟩ := DataW.trod_array hd h
      simp only [Prod.mk.injEq, DataW.agg.injEq] at e
      obtain ⟨⟨y1, y2⟩, rfl, hy⟩ := List.map_eq_singleton_iff.1 e.1.symm
      simp only at hy
      subst hy
      have h1 := hf 0 (by rw [← hxs]; exact Nat.one_pos)
      simp only [List.drop_nil, List.take_nil, List.getElem?_cons_zero] at h1
      exact trod_lit0 h1
    | bool => obtain ⟨_, _, e⟩ := DataW.trod_bool hd h; cases e
    | int k => obtain ⟨_, _, e, _⟩ := DataW.trod_int hd h; cases e
    | string => obtain ⟨_, _, e, _⟩ := DataW.trod_string hd h; cases e
    | pointer e => rcases DataW.trod_pointer hd h with ⟨_, e⟩ | ⟨_, _, _, _, _, _, e, _⟩ <;> cases e
    | slice e =>
      rcases DataW.trod_slice hd h with ⟨_, e⟩ | ⟨_, _, _, _, _, _, _, _, e, _⟩ <;> cases e
    | map k e =>
      cases fuel with
      | zero => simp [DataW.trod] at h
      | succ n =>
        unfold DataW.trod at h
        rw [hd] at h
        split at h <;> try (first | (cases h; done) | (simp_all; done))
    | interface ms =>
      cases fuel with
      | zero => simp [DataW.trod] at h
      | succ n =>
        unfold DataW.trod at h
        rw [hd] at h
        split at h <;> try (first | (cases h; done) | (simp_all; done))
    | _ =>
      cases fuel with
      | zero => simp [DataW.trod] at h
      | succ n =>
        unfold DataW.trod at h
        rw [hd] at h
        split at h <;> simp_all
end

theorem ptr_self {W : World} {a : Addr} (h : a.block < topB W) : VRel (Mp.all W) (.pointer (some a)) (.pointer (some a)) := by
  refine .ptr ⟨h, fun b δ S hb => ?_⟩
  simp only [Mp.all] at hb
  split at hb
  · cases hb; simp
  cases hb
theorem cells_block {W : World} {a : Addr} {n : Nat} {cs : List Value} (h : W.cells? 0 a n = some cs) (h0 : 0 < n) : a.block < topB W := by
  obtain ⟨_, hlen, hce⟩ := World.cells?_some h
  have h0 := hce 0 h0
  rw [List.getElem?_eq_getElem (by omega)] at h0
  unfold World.cell? at h0
  have e0 : (a.add 0).block = a.block := rfl
  rw [e0] at h0
  have hsz := topB_size W
  rcases Nat.lt_or_ge a.block W.heap.size with x | x
  · omega
  rw [Array.getElem?_eq_none x] at h0; cases h0
/-- An error that is listed lies there. -/
theorem err_there {P : Program} {W : World} {name nm : String} {g : Nat} {t : TypeId} {ms : Array (String × TypeId)} {l : Lit} {rest : List (String × DataW Unit)} (hg : P.globalNamed name = some g) (hty : (P.globals[g]?).map (·.type) = some t) (hi : P.underlying t = some (.interface ms))
    (h : laidMet P ((name, .iface nm (.ptr (.agg [.lit l]))) :: rest) W) : ifaceThere g (Hp.all W) = true := by
  obtain ⟨ps, ⟨g', t', cs, fuel, p, q, hg', ht', hvar, hd, _, _⟩, _⟩ := h
  obtain rfl := Option.some.inj (hg.symm.trans hg')
  obtain rfl := Option.some.inj (hty.symm.trans ht')
  have hblk : ∃ e fr, W.heap[g]? = some (.cells cs e fr) := by
    unfold World.var? at hvar
    rw [hg] at hvar
    simp only [Option.bind_some] at hvar
    cases hh : W.heap[g]? with
    | none => rw [hh] at hvar; cases hvar
    | some o =>
      rw [hh] at hvar
      cases o with
      | cells c e fr => simp only [Option.some.injEq] at hvar; exact ⟨e, fr, by rw [hvar]⟩
      | _ => cases hvar
  obtain ⟨e, fr, hb⟩ := hblk
  have key : ∃ u v, cs.toList = [.iface u v] ∧ VRel (Mp.all W) v v := by
    cases fuel with
    | zero => simp [DataW.trod] at hd
    | succ n =>
      unfold DataW.trod at hd
      rw [hi] at hd
      split at hd <;> try (first | cases hd | simp_all; done)
      rename_i u v hul hcs
      refine ⟨u, v, hcs, ?_⟩
      cases hn : P.typeName? 3 u with
      | none => rw [hn] at hd; cases hd
      | some nm' =>
        rw [hn] at hd
        simp only [Option.map_eq_some_iff, Prod.mk.injEq, DataW.iface.injEq] at hd
        obtain ⟨⟨x1, x2⟩, hx, ⟨_, hx1⟩, _⟩ := hd
        simp only at hx1
        subst hx1
        obtain ⟨e', hu⟩ := trod_is_ptr hx
        rcases DataW.trod_pointer hu hx with ⟨_, hc⟩ | ⟨a, cs', y, m, _, hcv, hc, hcl, hy⟩
        · cases hc
        simp only [Prod.mk.injEq, DataW.ptr.injEq] at hc
        have hpos : 0 < P.cellsOf e' := by
          rcases Nat.eq_zero_or_pos (P.cellsOf e') with h0 | h0
          · exfalso
            obtain ⟨_, hlen, _⟩ := World.cells?_some hcl
            rw [h0] at hlen
            obtain rfl := List.eq_nil_of_length_eq_zero hlen
            obtain ⟨y1, y2⟩ := y
            simp only at hc
            rw [← hc.1] at hy
            exact trod_agg0 hy
          exact h0
        have hself := ptr_self (cells_block hcl hpos)
        by_cases hagg : ∃ c, v = .agg c
        · obtain ⟨c, rfl⟩ := hagg
          have hcv' : c.toList = [.pointer (some a)] := hcv
          exact .agg' (by rw [hcv']; exact .cons hself (.nil _))
        have hv : v.cells.toList = [v] := by
          cases v with
          | agg c => exact absurd ⟨c, rfl⟩ hagg
          | _ => rfl
        rw [hv] at hcv
        obtain rfl : v = .pointer (some a) := by simpa using hcv
        exact hself
  obtain ⟨u, v, hcs, hself⟩ := key
  have hget : (Hp.all W).get g = some (.cells [.iface u v] e 1) := by
    rw [Hp.all_get, allObj, hb]
    simp only [hcs, List.map_cons, List.map_nil]
    rw [selfX_eq (.iface hself)]
  unfold ifaceThere
  rw [hget]
/-- A whole number that the world's shape tells of. -/
theorem int_there {W : World} {g : Nat} {m : Int} (h : W.cell? ⟨g, 0, none⟩ = some (.int .i64 m)) : intThere g (Hp.all W) = true := by
  unfold World.cell? at h
  split at h
  · rename_i c e fr hx
    split at h
    · cases h
    have hg : (Hp.all W).get g = some (.cells (c.toList.map (selfX (Mp.all W))) e 1) := by rw [Hp.all_get, allObj, hx]
    have h1 : c.toList[0]? = some (.int .i64 m) := by rw [Array.getElem?_toList]; exact h
    unfold intThere
    rw [hg]
    cases hc : c.toList with
    | nil => rw [hc] at h1; cases h1
    | cons a r =>
      rw [hc] at h1
      simp only [List.getElem?_cons_zero, Option.some.injEq] at h1
      subst h1
      rw [List.map_cons, selfX_eq (.int .i64 m)]
  cases h
end Go.X
