/- Chapter 15: the library's contracts (maps.Keys, slices.Sorted, slices.Sort at int), laid at this program by the kit's tool. Conditions: none. Chapter 15: the machine over the chapter's program; slices.Sorted over maps.Keys as a call that is not gone through; clocks as they lie in memory. Conditions: none. Chapter 15, the program's clocks: New, Set, At, Has, Clone, Copy. Conditions: none. Chapter 15, the program's clocks: All and what it yields, Join, Covers, Same. Conditions: none. Chapter 15, the program's clocks: Join, Covers, Same. Conditions: none. Chapter 15, the document's clocks: At, Has, Set, Join, Covers, Same. Conditions: none. Chapter 15, the law's clocks, same. Conditions: none. Chapter 15, the program's chains. Conditions: none. Chapter 15, the program's chains: End, Tick, Begin, Copy, Same. Conditions: none. Chapter 15, the document's chains: End, Tick, Begin. Conditions: none. Chapter 15, the document's chains: Begin, Copy. Conditions: none. Chapter 15, chains: the document's SameChains, the law's alike. Conditions: none. -/
import Derived.Shelf.SlIterI.Nil
import Derived.Shelf.SortM.Plain
import Derived.Shelf.SortM.SortNone
import Derived.Ground.GgzProg
import Derived.Ground.SlgmProg
import Derived.Test.YtkhnhaijnnpjhaaProg
import Derived.Test.YtkhnhaijnnpjhaaRows
import Derived.Test.YtkhnhaijnnpjhaaXc
namespace Go.Proofs
open Go.Shelf
def Try.keysA_ren : Go.Shelf.Ren := ⟨fun | 7 => 47 | 10 => 51 | n => n, fun | 23 => 57 | 26 => 3 | 3 => 3 | 28 => 81 | 0 => 0 | 27 => 80 | 33 => 66 | 4 => 4 | n => n, fun | n => n⟩
theorem Try.keysA : Go.Proofs.SlLaysZI.n7 Try.prog Try.keysA_ren := {
  mixed := by kernel_rfl
  f7 := ⟨Try.f47.name, by decide, Try.func47.trans (congrArg some (by kernel_rfl))⟩
  f10 := ⟨Try.f51.name, by decide, Try.func51.trans (congrArg some (by kernel_rfl))⟩
  t0 := Try.underlying0
  a0 := Try.isAgg0
  z0 := Try.sizeOf0
  v0 := Try.zeroValue0
  t4 := Try.underlying4
  a4 := Try.isAgg4
  z4 := Try.sizeOf4
  v4 := Try.zeroValue4
  t23 := Try.underlying57
  a23 := Try.isAgg57
  z23 := Try.sizeOf57
  v23 := Try.zeroValue57
  t26 := Try.underlying3
  a26 := Try.isAgg3
  z26 := Try.sizeOf3
  v26 := Try.zeroValue3
  t27 := Try.underlying80
  a27 := Try.isAgg80
  z27 := Try.sizeOf80
  v27 := Try.zeroValue80
  t28 := Try.underlying81
  a28 := Try.isAgg81
  z28 := Try.sizeOf81
  v28 := Try.zeroValue81
  t33 := Try.underlying66
  a33 := Try.isAgg66
  z33 := Try.sizeOf66
  v33 := Try.zeroValue66 }
def Try.sortedA_ren : Go.Shelf.Ren := ⟨fun | 6 => 46 | 8 => 49 | 9 => 50 | 11 => 52 | 13 => 54 | 12 => 53 | 23 => 64 | 24 => 65 | 14 => 55 | 15 => 56 | 16 => 57 | 17 => 58 | 18 => 59 | 19 => 60 | 20 => 61 | 21 => 62 | 22 => 63 | 25 => 66 | 26 => 67 | 27 => 68 | 28 => 69 | 29 => 70 | 30 => 71 | 31 => 72 | n => n, fun | 26 => 3 | 28 => 81 | 24 => 42 | 0 => 0 | 3 => 3 | 37 => 88 | 48 => 98 | 50 => 100 | 4 => 4 | 40 => 91 | 39 => 90 | 45 => 95 | 5 => 5 | 9 => 9 | 51 => 101 | 55 => 105 | 57 => 107 | 58 => 108 | 33 => 66 | n => n, fun | n => n⟩
theorem Try.sortedA : Go.Proofs.SlLaysZI.n6 Try.prog Try.sortedA_ren := {
  mixed := by kernel_rfl
  f6 := ⟨Try.f46.name, by decide, Try.func46.trans (congrArg some (by kernel_rfl))⟩
  f8 := ⟨Try.f49.name, by decide, Try.func49.trans (congrArg some (by kernel_rfl))⟩
  f11 := ⟨Try.f52.name, by decide, Try.func52.trans (congrArg some (by kernel_rfl))⟩
  t0 := Try.underlying0
  a0 := Try.isAgg0
  z0 := Try.sizeOf0
  v0 := Try.zeroValue0
  t24 := Try.underlying42
  a24 := Try.isAgg42
  z24 := Try.sizeOf42
  v24 := Try.zeroValue42
  t26 := Try.underlying3
  a26 := Try.isAgg3
  z26 := Try.sizeOf3
  v26 := Try.zeroValue3
  t28 := Try.underlying81
  a28 := Try.isAgg81
  z28 := Try.sizeOf81
  v28 := Try.zeroValue81
  i26 := by kernel_rfl }
def Try.sortA_ren : Go.Shelf.Ren := ⟨fun | 5 => 50 | 8 => 54 | 7 => 53 | 19 => 64 | 20 => 65 | 10 => 55 | 11 => 56 | 12 => 57 | 13 => 58 | 14 => 59 | 15 => 60 | 16 => 61 | 17 => 62 | 18 => 63 | 30 => 66 | 31 => 67 | 32 => 68 | 33 => 69 | 34 => 70 | 35 => 71 | 40 => 72 | n => n, fun | 23 => 42 | 25 => 3 | 3 => 3 | 32 => 88 | 22 => 42 | 0 => 0 | 44 => 98 | 46 => 100 | 4 => 4 | 36 => 91 | 35 => 90 | 41 => 95 | 5 => 5 | 9 => 9 | 53 => 101 | 57 => 105 | 63 => 107 | 64 => 108 | n => n, fun | n => n⟩
theorem Try.sortA : Go.Proofs.SlLaysM.n5 Try.prog Try.sortA_ren := {
  mixed := by kernel_rfl
  f5 := ⟨Try.f50.name, by decide, Try.func50.trans (congrArg some (by kernel_rfl))⟩
  f7 := ⟨Try.f53.name, by decide, Try.func53.trans (congrArg some (by kernel_rfl))⟩
  f8 := Try.func54.trans (congrArg some (by kernel_rfl))
  f10 := ⟨Try.f55.name, by decide, Try.func55.trans (congrArg some (by kernel_rfl))⟩
  f11 := ⟨Try.f56.name, by decide, Try.func56.trans (congrArg some (by kernel_rfl))⟩
  f12 := ⟨Try.f57.name, by decide, Try.func57.trans (congrArg some (by kernel_rfl))⟩
  f13 := ⟨Try.f58.name, by decide, Try.func58.trans (congrArg some (by kernel_rfl))⟩
  f14 := ⟨Try.f59.name, by decide, Try.func59.trans (congrArg some (by kernel_rfl))⟩
  f15 := ⟨Try.f60.name, by decide, Try.func60.trans (congrArg some (by kernel_rfl))⟩
  f16 := ⟨Try.f61.name, by decide, Try.func61.trans (congrArg some (by kernel_rfl))⟩
  f17 := ⟨Try.f62.name, by decide, Try.func62.trans (congrArg some (by kernel_rfl))⟩
  f18 := ⟨Try.f63.name, by decide, Try.func63.trans (congrArg some (by kernel_rfl))⟩
  f19 := Try.func64.trans (congrArg some (by kernel_rfl))
  f20 := Try.func65.trans (congrArg some (by kernel_rfl))
  f30 := ⟨Try.f66.name, by decide, Try.func66.trans (congrArg some (by kernel_rfl))⟩
  f31 := Try.func67.trans (congrArg some (by kernel_rfl))
  f32 := Try.func68.trans (congrArg some (by kernel_rfl))
  f33 := ⟨Try.f69.name, by decide, Try.func69.trans (congrArg some (by kernel_rfl))⟩
  f34 := ⟨Try.f70.name, by decide, Try.func70.trans (congrArg some (by kernel_rfl))⟩
  f35 := ⟨Try.f71.name, by decide, Try.func71.trans (congrArg some (by kernel_rfl))⟩
  f40 := ⟨Try.f72.name, by decide, Try.func72.trans (congrArg some (by kernel_rfl))⟩
  t0 := Try.underlying0
  a0 := Try.isAgg0
  z0 := Try.sizeOf0
  v0 := Try.zeroValue0
  t3 := Try.underlying3
  a3 := Try.isAgg3
  z3 := Try.sizeOf3
  v3 := Try.zeroValue3
  t4 := Try.underlying4
  a4 := Try.isAgg4
  z4 := Try.sizeOf4
  v4 := Try.zeroValue4
  t5 := Try.underlying5
  a5 := Try.isAgg5
  z5 := Try.sizeOf5
  v5 := Try.zeroValue5
  t9 := Try.underlying9
  a9 := Try.isAgg9
  z9 := Try.sizeOf9
  v9 := Try.zeroValue9
  t22 := Try.underlying42
  a22 := Try.isAgg42
  z22 := Try.sizeOf42
  v22 := Try.zeroValue42
  t23 := Try.underlying42
  a23 := Try.isAgg42
  z23 := Try.sizeOf42
  v23 := Try.zeroValue42
  t25 := Try.underlying3
  a25 := Try.isAgg3
  z25 := Try.sizeOf3
  v25 := Try.zeroValue3
  t32 := Try.underlying88
  a32 := Try.isAgg88
  z32 := Try.sizeOf88
  v32 := Try.zeroValue88
  t35 := Try.underlying90
  a35 := Try.isAgg90
  z35 := Try.sizeOf90
  v35 := Try.zeroValue90
  t36 := Try.underlying91
  a36 := Try.isAgg91
  z36 := Try.sizeOf91
  v36 := Try.zeroValue91
  t41 := Try.underlying95
  a41 := Try.isAgg95
  z41 := Try.sizeOf95
  v41 := Try.zeroValue95
  t44 := Try.underlying98
  a44 := Try.isAgg98
  z44 := Try.sizeOf98
  v44 := Try.zeroValue98
  t46 := Try.underlying100
  a46 := Try.isAgg100
  z46 := Try.sizeOf100
  v46 := Try.zeroValue100
  t53 := Try.underlying101
  a53 := Try.isAgg101
  z53 := Try.sizeOf101
  v53 := Try.zeroValue101
  t57 := Try.underlying105
  a57 := Try.isAgg105
  z57 := Try.sizeOf105
  v57 := Try.zeroValue105
  t63 := Try.underlying107
  a63 := Try.isAgg107
  z63 := Try.sizeOf107
  v63 := Try.zeroValue107
  t64 := Try.underlying108
  a64 := Try.isAgg108
  z64 := Try.sizeOf108
  v64 := Try.zeroValue108 }
end Go.Proofs

namespace Go.Proofs.Ytkhnhaijnnpjhaa
open Go.X Go.RowKit Go.Maps Go.Sort Go.Shelf

theorem clk_mixed : Try.prog.follows .mixedOrders = true := by kernel_rfl

/-- slices.Sort's two contracts. -/
theorem sortsA (m : Nat) : AnyZI.SortsIn Try.prog Try.sortedA_ren Fence.wide m :=
  ⟨fun blk off cap ss W hH hblk hsz => callsIn_wide.2 (AnyM.slices_Sort_int Try.sortA blk off cap ss W hH hblk hsz),
   fun p cap W => callsIn_wide.2 (AnyM.slices_Sort_int_none Try.sortA p cap W)⟩

theorem clk_keys : SortKeys Try.prog 46 51 3 where
  ty := Try.underlying3
  yes := fun Bm b nn D0 R w hB hc hown hmax hbytes => by
    refine (callsIn_wide (n := 6)).1 ?_
    have hseq : SeqGives Fence.wide 3 Try.prog 51 #[.pointer (some ⟨Bm, 0, none⟩)] encZ (fun ss => ss.Perm (intKeys D0)) (Maps.size D0) w :=
      AnyZI.keys_gives (ρ := Try.keysA_ren) { Try.keysA with } Fence.wide _ trivial rfl (by omega) Bm b nn D0 _ hB hc hown
    have cS := AnyZI.sorted_in Try.sortedA Fence.wide 6 trivial trivial trivial trivial rfl (by omega) (sortsA _) (enters_of Try.func50 (by kernel_rfl) rfl) 51 #[.pointer (some ⟨Bm, 0, none⟩)] trivial (enters_of Try.func51 (by kernel_rfl) rfl) _ _ hmax hbytes _ hseq
    change CallsIn _ _ Try.prog 46 _ _ _ at cS
    exact cS
  no := fun Bm w hB hc => by
    refine (callsIn_wide (n := 6)).1 ?_
    have hseq : SeqGives Fence.wide 3 Try.prog 51 #[.pointer (some ⟨Bm, 0, none⟩)] encZ (fun ss : List Int => ss = []) 0 w :=
      AnyZI.keys_gives_nil (ρ := Try.keysA_ren) { Try.keysA with } Fence.wide _ trivial rfl Bm _ hB hc
    have cS := AnyZI.sorted_in Try.sortedA Fence.wide 6 trivial trivial trivial trivial rfl (by omega) (sortsA _) (enters_of Try.func50 (by kernel_rfl) rfl) 51 #[.pointer (some ⟨Bm, 0, none⟩)] trivial (enters_of Try.func51 (by kernel_rfl) rfl) _ 0 (Nat.zero_le _) (by omega) _ hseq
    change CallsIn _ _ Try.prog 46 _ _ _ at cS
    exact cS.mono fun e w' ⟨v, ss, he, hs, _, hn, hb⟩ => ⟨by rw [he, hn.2 hs], hb⟩

noncomputable def clkE0 : Env := envClone Try.prog 48 Try.f48 Try.func48 (by kernel_rfl) (by kernel_rfl) (by kernel_rfl) (by kernel_rfl)
noncomputable def clkE1 : Env := envSm clkE0 46 (sortedX 51 3) (sortedX_law clk_keys)
theorem clk_known : truthX clkE1 8 20000 = true := by kernel_rfl
noncomputable def clkE : Env := envKnown clkE1 8 (truth_below clkE1 clk_mixed clk_known)

end Go.Proofs.Ytkhnhaijnnpjhaa

namespace Go.Proofs.Ytkhnhaijnnpjhaa
open Go.X

abbrev iV (k : Int) : Value := .int .i64 k
abbrev isV (l : List Int) : List Value := l.map fun n => .int .i64 n
abbrev ptrV (i : Nat) : Value := .pointer (some ⟨i, 0, none⟩)

theorem mt : MapT clkE 57 3 3 := ⟨by kernel_rfl, by kernel_rfl⟩

/-- What a clock has of chains 0 to 200. -/
structure Rng (A : Int → Int) : Prop where
  lo : ∀ k, 0 ≤ A k
  hi : ∀ k, A k ≤ 9223372036854775807
  at' : ∀ k, A k ≠ 0 → 0 ≤ k ∧ k ≤ 200

/-- A map that says so. -/
structure MsFor (M : Ms) (cl : Nat) (A : Int → Int) : Prop where
  ok : MsOk M cl
  get : ∀ k, getI M k = if A k = 0 then none else some (iV (A k))
  rng : Rng A

theorem MsFor.getD {M : Ms} {cl : Nat} {A : Int → Int} (x : MsFor M cl A) (k : Int) : (getI M k).getD (iV 0) = iV (A k) := by
  rw [x.get]; split
  · rename_i e; rw [e]; rfl
  · rfl

/-- The chains of which it has marks. -/
def ksA (A : Int → Int) : List Int := ((List.range 201).map fun (n : Nat) => (n : Int)).filter fun k => decide (A k ≠ 0)
theorem ksA_up (A : Int → Int) : (ksA A).Pairwise (· < ·) := by
  refine List.Pairwise.filter _ ?_
  rw [List.pairwise_map]
  exact List.pairwise_lt_range.imp fun h => by omega
theorem ksA_mem {A : Int → Int} (r : Rng A) {k : Int} : k ∈ ksA A ↔ A k ≠ 0 := by
  unfold ksA
  rw [List.mem_filter]
  simp only [List.mem_map, List.mem_range, decide_eq_true_eq]
  refine ⟨fun h => h.2, fun h => ⟨⟨k.toNat, ?_⟩, h⟩⟩
  have := r.at' k h
  omega
theorem ksA_len (A : Int → Int) : (ksA A).length ≤ 201 := by
  have := List.length_filter_le (fun k => decide (A k ≠ 0)) ((List.range 201).map fun (n : Nat) => (n : Int))
  simpa [ksA] using this
theorem MsFor.perm {M : Ms} {cl : Nat} {A : Int → Int} (x : MsFor M cl A) : (M.map (·.1)).Perm (ksA A) := by
  refine (List.perm_ext_iff_of_nodup x.ok.keys ((ksA_up A).imp fun h => by omega)).2 fun k => ?_
  rw [ksA_mem x.rng]
  have h := getI_none (k := k) (M := M)
  rw [x.get] at h
  by_cases e : A k = 0
  · rw [if_pos e] at h
    simp only [true_iff] at h
    exact ⟨fun q => absurd q h, fun q => absurd e q⟩
  · rw [if_neg e] at h
    simp only [reduceCtorEq, false_iff, Classical.not_not] at h
    exact ⟨fun _ => e, fun _ => h⟩
theorem MsFor.sorted {M : Ms} {cl : Nat} {A : Int → Int} (x : MsFor M cl A) : sortI (M.map (·.1)) = ksA A :=
  sorted_eq ((sortI_perm _).trans x.perm) (sortI_up _) ((ksA_up A).imp fun h => by omega)
theorem MsFor.len {M : Ms} {cl : Nat} {A : Int → Int} (x : MsFor M cl A) : M.length ≤ 201 := by
  have := x.perm.length_eq
  have h := ksA_len A
  simp only [List.length_map] at this
  omega
theorem MsFor.wf {M : Ms} {cl : Nat} {A : Int → Int} (x : MsFor M cl A) : ∀ y, y ∈ M → (Lit.int .i64 y.1).wf = true := fun y hy => by
  have := (ksA_mem x.rng).1 (x.perm.mem_iff.1 (List.mem_map.2 ⟨y, hy, rfl⟩))
  have := x.rng.at' _ this
  simp only [Lit.wf, IntKind.min, IntKind.max, IntKind.bits, IntKind.signed, Bool.and_eq_true, decide_eq_true_eq]
  simp
  omega

def setA (A : Int → Int) (k n : Int) : Int → Int := if k < 0 ∨ n < 0 then A else fun i => if i = k then n else A i
theorem Rng.set {A : Int → Int} (r : Rng A) {k n : Int} (hk : k ≤ 200) (hn : n ≤ 9223372036854775807) : Rng (setA A k n) := by
  unfold setA
  split
  · exact r
  · refine ⟨fun i => ?_, fun i => ?_, fun i => ?_⟩ <;> split
    · omega
    · exact r.lo i
    · omega
    · exact r.hi i
    · intro _; omega
    · exact r.at' i
theorem Rng.zero : Rng fun _ => 0 := ⟨fun _ => Int.le_refl _, fun _ => by omega, fun _ h => absurd rfl h⟩

/-- A clock of the program's. -/
structure ClkR (h : Hp) (b r : Nat) (M : Ms) (cl : Nat) (A : Int → Int) : Prop where
  top : h.get b = some (.cells [.map (some r)] 59 0)
  mp : h.get r = some (.map (M.map ent) cl)
  ms : MsFor M cl A
  ne : b ≠ r
  lb : b < h.n
  lr : r < h.n
def ClkAt (h : Hp) (b : Nat) (A : Int → Int) (own : List Nat) : Prop := ∃ r M cl, ClkR h b r M cl A ∧ own = [b, r]

section
variable {h h' : Hp} {b r cl : Nat} {M : Ms} {A : Int → Int} {own cs : List Nat} {k n : Int}

theorem ClkR.keep (x : ClkR h b r M cl A) (g : ExtB cs h h') (hd : ∀ i, i ∈ [b, r] → i ∉ cs) : ClkR h' b r M cl A :=
  ⟨by rw [g.get b x.lb (hd b (by simp))]; exact x.top, by rw [g.get r x.lr (hd r (by simp))]; exact x.mp, x.ms, x.ne, Nat.lt_of_lt_of_le x.lb g.n, Nat.lt_of_lt_of_le x.lr g.n⟩
theorem ClkAt.keep (x : ClkAt h b A own) (g : ExtB cs h h') (hd : ∀ i, i ∈ own → i ∉ cs) : ClkAt h' b A own := by
  obtain ⟨r, M, cl, x, rfl⟩ := x; exact ⟨r, M, cl, x.keep g hd, rfl⟩
theorem ClkAt.ext (x : ClkAt h b A own) (g : Ext h h') : ClkAt h' b A own := x.keep (g.b []) (by simp)
theorem ClkAt.lt (x : ClkAt h b A own) : ∀ i, i ∈ own → i < h.n := by
  obtain ⟨r, M, cl, x, rfl⟩ := x
  intro i hi
  simp only [List.mem_cons, List.not_mem_nil, or_false] at hi
  rcases hi with rfl | rfl
  · exact x.lb
  · exact x.lr
theorem ClkAt.rng (x : ClkAt h b A own) : Rng A := by obtain ⟨r, M, cl, x, rfl⟩ := x; exact x.ms.rng

theorem ClkAt.co {h0 h1 h2 : Hp} (x : ClkAt h1 b A own) (c : Co h0 h1 h2) (hl : ∀ i, i ∈ own → i < h0.n) : ClkAt h2 b A own := by
  obtain ⟨r, M, cl, x, rfl⟩ := x
  exact ⟨r, M, cl, ⟨by rw [c.2 b (.inl (hl b (by simp)))]; exact x.top, by rw [c.2 r (.inl (hl r (by simp)))]; exact x.mp, x.ms, x.ne, by rw [c.1]; exact x.lb, by rw [c.1]; exact x.lr⟩, rfl⟩

/-- New -/
theorem c31 : C clkE 31 [] h fun v h' => ∃ b own, v = ptrV b ∧ ClkAt h' b (fun _ => 0) own ∧ (∀ i, i ∈ own → h.n ≤ i) ∧ Ext h h' := by
  refine c_enter (fu := Try.f31) (by kernel_rfl) rfl ?_
  refine w_seq ?_
  refine w_region (by kernel_rfl) ?_
  refine o_assign gn rfl rfl ?_
  refine wl_end ?_
  refine w_seq ?_
  refine w_region (by kernel_rfl) ?_
  refine o_makeMap gn rfl ?_
  refine o_build (zv := .agg #[.map none]) (pl := [(0, 1)]) [(0, _)] gn rfl (by kernel_rfl) (by kernel_rfl) rfl rfl ?_
  refine o_box gn rfl rfl ?_
  refine o_assign gn rfl rfl ?_
  refine wl_end ?_
  refine w_ret ?_
  refine ⟨.inl rfl, _, rfl, ?_⟩
  have e1 : ((h.alloc (.map (([] : Ms).map ent) 0)).alloc (.cells [.map (some h.n)] 59 0)).get h.n = some (.map (([] : Ms).map ent) 0) := by
    rw [Hp.get_alloc, if_neg (by rw [Hp.n_alloc]; omega)]; exact Hp.get_alloc_self _ _
  exact ⟨(h.alloc (.map (([] : Ms).map ent) 0)).n, _, rfl, ⟨h.n, [], 0, ⟨Hp.get_alloc_self _ _, e1, ⟨.nil _, fun k => rfl, .zero⟩, by simp only [Hp.n_alloc]; omega, by simp only [Hp.n_alloc]; omega, by simp only [Hp.n_alloc]; omega⟩, rfl⟩, fun i hi => by simp [Hp.n_alloc] at hi; omega, (Ext.alloc _ _).trans (Ext.alloc _ _)⟩

/-- At -/
theorem c33 (x : ClkAt h b A own) : CP clkE 33 [ptrV b, iV k] h (iV (A k)) := by
  obtain ⟨r, M, cl, x, rfl⟩ := x
  have ht := x.top
  have hm := x.mp
  refine c_enter (fu := Try.f33) (by kernel_rfl) rfl ?_
  refine w_seq ?_
  refine w_region (by kernel_rfl) ?_
  refine o_assign gn rfl rfl ?_
  refine wl_end ?_
  refine w_seq ?_
  refine w_seq ?_
  refine w_region (by kernel_rfl) ?_
  refine o_move gn rfl rfl ?_
  refine o_eqp gn rfl rfl rfl (by kernel_rfl) ?_
  refine wl_end ?_
  refine w_cond rfl (fun hb => ?_) fun hb => ?_
  · skip
    refine w_seq ?_
    refine w_region (by kernel_rfl) ?_
    refine o_assign gn rfl rfl ?_
    refine wl_end ?_
    refine w_ret ?_
    refine ⟨.inl rfl, _, rfl, ?_⟩
    simp at hb
  · skip
    refine w_skip ?_
    refine w_seq ?_
    refine w_region (by kernel_rfl) ?_
    refine o_move gn rfl rfl ?_
    refine o_nilCheck gn rfl rfl ?_
    refine o_fieldAddr (off := 0) gn rfl rfl (by kernel_rfl) ?_
    refine o_load gn rfl rfl (by kernel_rfl) (by assumption) rfl ?_
    refine o_move gn rfl rfl ?_
    refine o_lookup (zv := .int .i64 0) mt gn rfl rfl rfl (by assumption) (by kernel_rfl) ?_
    refine o_assign gn rfl rfl ?_
    refine wl_end ?_
    refine w_ret ?_
    refine ⟨.inl rfl, _, rfl, ?_⟩
    exact ⟨by rw [x.ms.getD]; rfl, rfl⟩

/-- Has -/
theorem c34 (x : ClkAt h b A own) : CP clkE 34 [ptrV b, iV k, iV n] h (.bool (decide (n < 1) || decide (A k ≥ n))) := by
  refine c_enter (fu := Try.f34) (by kernel_rfl) rfl ?_
  refine w_seq ?_
  refine w_region (by kernel_rfl) ?_
  refine o_assign gn rfl rfl ?_
  refine wl_end ?_
  refine w_seq ?_
  refine w_region (by kernel_rfl) ?_
  refine o_move gn rfl rfl ?_
  refine o_lss gn rfl rfl rfl ?_
  refine o_move gn rfl rfl ?_
  refine o_or (n := 5) rfl rfl rfl gn rfl (fun hb => by
      refine o_move (gy rfl rfl rfl hb) rfl rfl ?_
      refine o_move (gy rfl rfl rfl hb) rfl rfl ?_
      refine o_call [_, _] (gy rfl rfl rfl hb) rfl rfl (by kernel_rfl) rfl (c_pure (c33 x) ⟨ag0, ?_⟩)
      refine o_move (gy rfl rfl rfl hb) rfl rfl ?_
      refine o_geq (gy rfl rfl rfl hb) rfl rfl rfl ?_
      exact wl_end ⟨rfl, rfl, 5, rfl, rfl⟩) ?_
  refine o_assign gn rfl rfl ?_
  refine wl_end ?_
  refine w_ret ?_
  refine ⟨.inl rfl, _, rfl, ?_⟩
  exact ⟨rfl, rfl⟩

/-- Set -/
theorem c30 (x : ClkAt h b A own) (hk : k ≤ 200) (hn : n ≤ 9223372036854775807) : C clkE 30 [ptrV b, iV k, iV n] h fun _ h' => ClkAt h' b (setA A k n) own ∧ ExtB own h h' := by
  obtain ⟨r, M, cl, x, rfl⟩ := x
  have ht := x.top
  have hm := x.mp
  have hlb := x.lb
  have hlr := x.lr
  have hne := x.ne
  refine c_enter (fu := Try.f30) (by kernel_rfl) rfl ?_
  refine w_seq ?_
  refine w_seq ?_
  refine w_region (by kernel_rfl) ?_
  refine o_move gn rfl rfl ?_
  refine o_eqp gn rfl rfl rfl (by kernel_rfl) ?_
  refine o_move gn rfl rfl ?_
  refine o_or (n := 2) rfl rfl rfl gn rfl (fun hb => by
      refine o_move (gy rfl rfl rfl hb) rfl rfl ?_
      refine o_lss (gy rfl rfl rfl hb) rfl rfl rfl ?_
      exact wl_end ⟨rfl, rfl, 2, rfl, rfl⟩) ?_
  refine o_move gn rfl rfl ?_
  refine o_or (n := 2) rfl rfl rfl gn rfl (fun hb => by
      refine o_move (gy rfl rfl rfl hb) rfl rfl ?_
      refine o_lss (gy rfl rfl rfl hb) rfl rfl rfl ?_
      exact wl_end ⟨rfl, rfl, 2, rfl, rfl⟩) ?_
  refine wl_end ?_
  refine w_cond rfl (fun hb => ?_) fun hb => ?_
  · skip
    refine w_ret ?_
    refine ⟨.inl rfl, _, rfl, ?_⟩
    have e : k < 0 ∨ n < 0 := by simpa [or_assoc] using hb
    exact ⟨⟨r, M, cl, by rw [setA, if_pos e]; exact x, rfl⟩, .refl _ _⟩
  · skip
    have hk0 : 0 ≤ k ∧ 0 ≤ n := by simp at hb; omega
    have hset : setA A k n = fun i => if i = k then n else A i := if_neg (by omega)
    have hrng := x.ms.rng.set hk hn
    rw [hset] at hrng ⊢
    refine w_skip ?_
    refine w_seq ?_
    refine w_seq ?_
    refine w_region (by kernel_rfl) ?_
    refine o_move gn rfl rfl ?_
    refine o_nilCheck gn rfl rfl ?_
    refine o_fieldAddr (off := 0) gn rfl rfl (by kernel_rfl) ?_
    refine o_load gn rfl rfl (by kernel_rfl) (by assumption) rfl ?_
    refine o_eqm (kt := 3) (et := 3) gn rfl rfl rfl (by kernel_rfl) ?_
    refine wl_end ?_
    refine w_cond rfl (fun hb => ?_) fun hb => ?_
    · skip
      simp at hb
    · skip
      refine w_skip ?_
      refine w_seq ?_
      refine w_region (by kernel_rfl) ?_
      refine o_move gn rfl rfl ?_
      refine o_nilCheck gn rfl rfl ?_
      refine o_fieldAddr (off := 0) gn rfl rfl (by kernel_rfl) ?_
      refine o_load gn rfl rfl (by kernel_rfl) (by assumption) rfl ?_
      refine o_move gn rfl rfl ?_
      refine o_move gn rfl rfl ?_
      refine o_mapUpdate mt gn rfl rfl rfl (by assumption) ag0 ?_
      refine wl_at (fun h1 => h1.get b = some (.cells [.map (some r)] 59 0) ∧ h1.get r = some (.map ((putI M k (iV n) cl).1.map ent) (putI M k (iV n) cl).2) ∧ ExtB [b, r] h h1) ⟨by rw [Hp.get_put, if_neg (fun e => hne e.symm)]; exact ht, Hp.get_put_self _ _ _, (ExtB.put _ _ _).mono (by simp)⟩ fun h1 ⟨t1, m1, g1⟩ => ?_
      have hok := x.ms.ok.put k (iV n)
      have hgp := fun i => get_put M k i (iV n) cl
      have hin : k ∈ (putI M k (iV n) cl).1.map (·.1) := Classical.byContradiction fun hq => by have := getI_none.2 hq; rw [hgp, if_pos rfl] at this; cases this
      generalize putI M k (iV n) cl = P at *
      obtain ⟨M1, cl1⟩ := P
      simp only at m1 hok hgp hin
      have g1n := g1.n
      refine wl_end ?_
      refine w_seq ?_
      refine w_region (by kernel_rfl) ?_
      refine o_move gn rfl rfl ?_
      refine o_eqi gn rfl rfl rfl ?_
      refine wl_end ?_
      refine w_cond rfl (fun hb => ?_) fun hb => ?_
      · skip
        refine w_region (by kernel_rfl) ?_
        refine o_move gn rfl rfl ?_
        refine o_nilCheck gn rfl rfl ?_
        refine o_fieldAddr (off := 0) gn rfl rfl (by kernel_rfl) ?_
        refine o_load gn rfl rfl (by kernel_rfl) (by assumption) rfl ?_
        refine o_move gn rfl rfl ?_
        refine o_delete mt gn rfl rfl (by assumption) hin ag0 ?_
        refine wl_end ?_
        refine ⟨.inr rfl, _, rfl, ?_⟩
        have hn0 : n = 0 := by simpa using hb
        subst hn0
        exact ⟨⟨r, _, _, ⟨by rw [Hp.get_put, if_neg (fun e => hne e.symm)]; exact t1, Hp.get_put_self _ _ _, ⟨hok.del k, fun i => by
          rw [get_del hok, hgp, x.ms.get]
          by_cases e : i = k <;> simp [e], hrng⟩, hne, by rw [Hp.n_put]; omega, by rw [Hp.n_put]; omega⟩, rfl⟩, g1.trans ((ExtB.put _ _ _).mono (by simp))⟩
      · skip
        refine w_skip ?_
        refine ⟨.inr rfl, _, rfl, ?_⟩
        have hn0 : n ≠ 0 := by simpa using hb
        exact ⟨⟨r, _, _, ⟨t1, m1, ⟨hok, fun i => by
          rw [hgp, x.ms.get]
          by_cases e : i = k <;> simp [e, hn0], hrng⟩, hne, by omega, by omega⟩, rfl⟩, g1⟩

/-- maps.Clone -/
theorem c41 {es : List MapEntry} (hg : h.get r = some (.map es cl)) : C clkE 41 [.map (some r)] h fun v h' => v = .map (some h.n) ∧ h'.get h.n = some (.map es cl) ∧ Ext h h' ∧ h'.n = h.n + 1 := by
  refine c_enter (fu := Try.f41) (by kernel_rfl) rfl ?_
  refine w_seq ?_
  refine w_region (by kernel_rfl) ?_
  refine o_assign gn rfl rfl ?_
  refine wl_end ?_
  refine w_seq ?_
  refine w_seq ?_
  refine w_region (by kernel_rfl) ?_
  refine o_move gn rfl rfl ?_
  refine o_eqm (kt := 3) (et := 3) gn rfl rfl rfl (by kernel_rfl) ?_
  refine wl_end ?_
  refine w_cond rfl (fun hb => ?_) fun hb => ?_
  · skip
    refine w_seq ?_
    refine w_region (by kernel_rfl) ?_
    refine o_assign gn rfl rfl ?_
    refine wl_end ?_
    refine w_ret ?_
    refine ⟨.inl rfl, _, rfl, ?_⟩
    cases hb
  · skip
    refine w_skip ?_
    refine w_seq ?_
    refine w_region (by kernel_rfl) ?_
    refine o_move gn rfl rfl ?_
    refine o_iface (kt := 3) (et := 3) gn rfl rfl (by kernel_rfl) ?_
    refine o_clone gn rfl rfl rfl hg ag0 ?_
    skip
    skip
    refine o_assert (kt := 3) (et := 3) gn rfl rfl (by kernel_rfl) ?_
    refine o_assign gn rfl rfl ?_
    refine wl_end ?_
    refine w_ret ?_
    refine ⟨.inl rfl, _, rfl, ?_⟩
    exact ⟨rfl, Hp.get_alloc_self _ _, Ext.alloc _ _, Hp.n_alloc _ _⟩

/-- Copy -/
theorem c15 (x : ClkAt h b A own) : C clkE 15 [ptrV b] h fun v h' => ∃ b' own', v = ptrV b' ∧ ClkAt h' b' A own' ∧ (∀ i, i ∈ own' → h.n ≤ i) ∧ Ext h h' := by
  obtain ⟨r, M, cl, x, rfl⟩ := x
  have ht := x.top
  refine c_enter (fu := Try.f15) (by kernel_rfl) rfl ?_
  refine w_seq ?_
  refine w_region (by kernel_rfl) ?_
  refine o_assign gn rfl rfl ?_
  refine wl_end ?_
  refine w_seq ?_
  refine w_seq ?_
  refine w_region (by kernel_rfl) ?_
  refine o_move gn rfl rfl ?_
  refine o_eqp gn rfl rfl rfl (by kernel_rfl) ?_
  refine wl_end ?_
  refine w_cond rfl (fun hb => ?_) fun hb => ?_
  · skip
    refine w_seq ?_
    refine w_region (by kernel_rfl) ?_
    refine o_assign gn rfl rfl ?_
    refine wl_end ?_
    refine w_ret ?_
    refine ⟨.inl rfl, _, rfl, ?_⟩
    simp at hb
  · skip
    refine w_skip ?_
    refine w_seq ?_
    refine w_region (by kernel_rfl) ?_
    refine o_move gn rfl rfl ?_
    refine o_nilCheck gn rfl rfl ?_
    refine o_fieldAddr (off := 0) gn rfl rfl (by kernel_rfl) ?_
    refine o_load gn rfl rfl (by kernel_rfl) (by assumption) rfl ?_
    refine o_call [_] gn rfl rfl (by kernel_rfl) rfl (C.mono (c41 x.mp) ?_)
    rintro v1 h1 ⟨rfl, g1, x1, n1⟩
    refine ⟨ag0, ?_⟩
    refine o_build (zv := .agg #[.map none]) (pl := [(0, 1)]) [(0, _)] gn rfl (by kernel_rfl) (by kernel_rfl) rfl rfl ?_
    refine o_box gn rfl rfl ?_
    refine o_assign gn rfl rfl ?_
    refine wl_end ?_
    refine w_ret ?_
    refine ⟨.inl rfl, _, rfl, ?_⟩
    refine ⟨h1.n, _, rfl, ⟨h.n, M, cl, ⟨Hp.get_alloc_self _ _, by rw [Hp.get_alloc, if_neg (by omega)]; exact g1, x.ms, by omega, by rw [Hp.n_alloc]; omega, by rw [Hp.n_alloc]; omega⟩, rfl⟩, fun i hi => ?_, x1.trans (Ext.alloc _ _)⟩
    simp at hi; omega

end

end Go.Proofs.Ytkhnhaijnnpjhaa


namespace Go.Proofs.Ytkhnhaijnnpjhaa
open Go.X

/-- A closure of All's: a cell that holds a map. -/
structure AllAt (h : Hp) (c r : Nat) (A : Int → Int) : Prop where
  ex : ∃ M cl, h.get c = some (.cells [.map (some r)] 57 0) ∧ h.get r = some (.map (M.map ent) cl) ∧ MsFor M cl A
  lc : c < h.n
  lr : r < h.n

section
variable {h h' : Hp} {b bo c r cl : Nat} {M : Ms} {A O : Int → Int} {own oo cs : List Nat} {k n : Int}

theorem AllAt.keep (x : AllAt h c r A) (g : ExtB cs h h') (h1 : c ∉ cs) (h2 : r ∉ cs) : AllAt h' c r A := by
  obtain ⟨⟨M, cl, p, q, m⟩, s, t⟩ := x
  exact ⟨⟨M, cl, by rw [g.get c s h1]; exact p, by rw [g.get r t h2]; exact q, m⟩, Nat.lt_of_lt_of_le s g.n, Nat.lt_of_lt_of_le t g.n⟩
theorem AllAt.ext (x : AllAt h c r A) (g : Ext h h') : AllAt h' c r A := x.keep (g.b []) (by simp) (by simp)

/-- All -/
theorem c32 (x : ClkAt h b A own) : C clkE 32 [ptrV b] h fun v h' => ∃ c r, v = .func (.func 45) #[] #[ptrV c] ∧ AllAt h' c r A ∧ (h.n ≤ c ∧ h.n ≤ r) ∧ Ext h h' := by
  obtain ⟨r, M, cl, x, rfl⟩ := x
  have ht := x.top
  have hm := x.mp
  have hlb := x.lb
  have hlr := x.lr
  refine c_enter (fu := Try.f32) (by kernel_rfl) rfl ?_
  refine w_seq ?_
  refine w_region (by kernel_rfl) ?_
  refine o_assign gn rfl rfl ?_
  refine wl_end ?_
  refine w_seq ?_
  refine w_region (by kernel_rfl) ?_
  refine o_alloc (zv := .map none) gn rfl (by kernel_rfl) ?_
  refine wl_at (fun h1 => h1.get h.n = some (.cells [.map none] 57 0) ∧ Ext h h1 ∧ h1.n = h.n + 1) ⟨Hp.get_alloc_self _ _, Ext.alloc _ _, Hp.n_alloc _ _⟩ fun h1 ⟨g1, x1, n1⟩ => ?_
  have ht1 := (x1.get b hlb).trans ht
  have hm1 := (x1.get r hlr).trans hm
  refine wl_end ?_
  refine w_seq ?_
  refine w_seq ?_
  refine w_region (by kernel_rfl) ?_
  refine o_move gn rfl rfl ?_
  refine o_nep gn rfl rfl rfl (by kernel_rfl) ?_
  refine wl_end ?_
  refine w_cond rfl (fun hb => ?_) fun hb => ?_
  · skip
    refine w_region (by kernel_rfl) ?_
    refine o_move gn rfl rfl ?_
    refine o_nilCheck gn rfl rfl ?_
    refine o_fieldAddr (off := 0) gn rfl rfl (by kernel_rfl) ?_
    refine o_load gn rfl rfl (by kernel_rfl) ht1 rfl ?_
    refine o_call [_] gn rfl rfl (by kernel_rfl) rfl (C.mono (c41 hm1) ?_)
    rintro v2 h2 ⟨rfl, g2, x2, n2⟩
    have g3 := (x2.get h.n (by omega)).trans g1
    refine ⟨ag0, ?_⟩
    refine o_store gn rfl rfl rfl (by kernel_rfl) g3 (by decide) (by simp) ag0 ?_
    refine wl_end ?_
    refine w_seq ?_
    refine w_region (by kernel_rfl) ?_
    refine o_makeFunc1 gn rfl rfl ?_
    refine o_assign gn rfl rfl ?_
    refine wl_end ?_
    refine w_ret ?_
    refine ⟨.inl rfl, _, rfl, ?_⟩
    exact ⟨h.n, h1.n, rfl, ⟨⟨M, cl, Hp.get_put_self _ _ _, by rw [Hp.get_put, if_neg (by omega)]; exact g2, x.ms⟩, by rw [Hp.n_put]; omega, by rw [Hp.n_put]; omega⟩, by omega, (x1.trans x2).of (ExtB.put _ _ _) (by simp)⟩
  · skip
    cases hb

/-- maps.Keys -/
theorem c47 : C clkE 47 [.map (some r)] h fun v h' => v = .func (.func 51) #[] #[ptrV h.n] ∧ (∃ t, h'.get h.n = some (.cells [.map (some r)] t 0)) ∧ Ext h h' ∧ h'.n = h.n + 1 := by
  refine c_enter (fu := Try.f47) (by kernel_rfl) rfl ?_
  refine w_seq ?_
  refine w_region (by kernel_rfl) ?_
  refine o_box gn rfl rfl ?_
  refine o_assign gn rfl rfl ?_
  refine wl_end ?_
  refine w_seq ?_
  refine w_region (by kernel_rfl) ?_
  refine o_makeFunc1 gn rfl rfl ?_
  refine o_assign gn rfl rfl ?_
  refine wl_end ?_
  refine w_ret ?_
  refine ⟨.inl rfl, _, rfl, ?_⟩
  exact ⟨rfl, ⟨_, Hp.get_alloc_self _ _⟩, Ext.alloc _ _, Hp.n_alloc _ _⟩

theorem clk_sm : clkE.sm 46 = some (sortedX 51 3) := by kernel_rfl

/-- What All yields -/
theorem c45 {x : Nat} (ha : AllAt h c r A) (P : Nat → Hp → Prop) (R : Hp → Prop) (start : ∀ h1, Ext h h1 → P 0 h1)
    (round : ∀ k (hk : k < (ksA A).length) h1, P k h1 → AllAt h1 c r A → Y clkE x [iV (ksA A)[k], iV (A (ksA A)[k])] h1 fun v h2 => (∃ cs, ExtB cs h1 h2 ∧ ∀ i, i ∈ cs → i ≠ c ∧ i ≠ r ∧ i < h.n) ∧ ((v = .bool true ∧ P (k + 1) h2) ∨ (v = .bool false ∧ R h2))) :
    C clkE 45 [.func (.yield x) #[] #[], ptrV c] h fun _ h' => P (ksA A).length h' ∨ R h' := by
  have ha0 := ha
  obtain ⟨⟨M, cl, hc, hr, ms⟩, hlc, hlr⟩ := ha
  have hkl := ksA_len A
  refine c_enter (fu := Try.f45) (by kernel_rfl) rfl ?_
  refine w_seq ?_
  refine w_region (by kernel_rfl) ?_
  refine o_load gn rfl rfl (by kernel_rfl) hc rfl ?_
  refine o_call [_] gn rfl rfl (by kernel_rfl) rfl (C.mono (c47) ?_)
  rintro v1 h1 ⟨rfl, ⟨t1, g1⟩, x1, n1⟩
  have hr1 := (x1.get r hlr).trans hr
  obtain ⟨v2, h2, bs, e2, s2, x2, f2, k2⟩ := sortedX_ent (g := 51) (elem := 3) ms.ok (by have := ms.len; omega) ms.wf g1 hr1
  rw [ms.sorted] at s2
  obtain ⟨a, rfl⟩ := s2.val
  refine ⟨ag0, ?_⟩
  refine o_sm [_] gn rfl rfl (by kernel_rfl) (by kernel_rfl) clk_sm rfl e2 k2 ag0 ?_
  refine o_len gn rfl rfl (by kernel_rfl) ?_
  refine o_move gn rfl rfl ?_
  refine wl_end ?_
  have x02 := x1.trans x2
  have x02n := x02.n
  have x1n := x1.n
  refine w_block ?_
  refine w_weak [(0, .func (.yield x) #[] #[]), (1, ptrV c), (7, .slice a (isV (ksA A)).length (isV (ksA A)).length), (8, iV ((isV (ksA A)).length : Nat)), (9, iV (0 : Nat))] (by repeat (first | exact trivial | refine ⟨rfl, ?_⟩)) ?_
  refine w_loop (fun k l hh => ∃ (i : Nat), i ≤ (ksA A).length ∧ k = (ksA A).length - i ∧ P i hh ∧ AllAt hh c r A ∧ Sl 3 hh (.slice a (isV (ksA A)).length (isV (ksA A)).length) (isV (ksA A)) bs ∧ l = [(0, .func (.yield x) #[] #[]), (1, ptrV c), (7, .slice a (isV (ksA A)).length (isV (ksA A)).length), (8, iV ((isV (ksA A)).length : Nat)), (9, iV (i : Nat))]) (n := (ksA A).length) ?_ fun k l hh hI => ?_
  · exact ⟨0, by omega, by omega, start _ x02, ha0.ext x02, s2, rfl⟩
  · obtain ⟨i, hi, rfl, hP, hA, hS, rfl⟩ := hI
    refine w_seq ?_
    refine w_region (by kernel_rfl) ?_
    refine o_lss gn rfl rfl rfl ?_
    refine wl_end ?_
    refine w_seq ?_
    refine w_cond rfl (fun hb => ?_) fun hb => ?_
    · skip
      have hlt : i < (ksA A).length := by simpa using hb
      obtain ⟨bw, m, ea, hg, hm, hbw, hB⟩ := hS.at (by simp; omega)
      simp only [Value.slice.injEq, and_true] at ea
      subst ea
      obtain ⟨⟨M', cl', hc', hr', ms'⟩, _, _⟩ := hA
      refine w_skip ?_
      refine w_seq ?_
      refine w_block ?_
      refine w_seq ?_
      refine w_region (by kernel_rfl) ?_
      refine o_indexAddr (zz := 1) gn rfl rfl rfl (by kernel_rfl) (by omega) (by simp; omega) ?_
      refine o_load gn rfl rfl (by kernel_rfl) hg (by rw [List.getElem?_map, List.getElem?_eq_getElem (show 0 + (i : Int).toNat * 1 < (ksA A).length by omega)]; rfl) ?_
      refine o_assign gn rfl rfl ?_
      refine wl_end ?_
      refine w_seq ?_
      refine w_region (by kernel_rfl) ?_
      refine o_move gn rfl rfl ?_
      refine o_move gn rfl rfl ?_
      refine o_load gn rfl rfl (by kernel_rfl) hc' rfl ?_
      refine o_move gn rfl rfl ?_
      refine o_lookup (zv := .int .i64 0) mt gn rfl rfl rfl (by assumption) (by kernel_rfl) ?_
      have hY := round i hlt _ hP ⟨⟨M', cl', hc', hr', ms'⟩, by assumption, by assumption⟩
      have ei : (ksA A)[0 + (i : Int).toNat * 1]'(by omega) = (ksA A)[i] := getElem_congr_idx (by omega)
      rw [ei, ms'.getD]
      refine o_yield [_, _] gn rfl rfl rfl (Y.mono hY ?_)
      rintro v2 h3 ⟨⟨cs, gx, hcs⟩, hv2⟩
      have hA2 : AllAt h3 c r A := (AllAt.mk ⟨M', cl', hc', hr', ms'⟩ (by assumption) (by assumption)).keep gx (fun hj => (hcs c hj).1 rfl) (fun hj => (hcs r hj).2.1 rfl)
      have hS2 := hS.keep gx fun i hi hj => by have := (hcs i hj).2.2; have := f2 i hi; omega
      obtain ⟨t, rfl, hv4⟩ : ∃ t, v2 = .bool t ∧ ((t = true ∧ P (i + 1) h3) ∨ (t = false ∧ R h3)) := by
        rcases hv2 with ⟨rfl, hh⟩ | ⟨rfl, hh⟩
        · exact ⟨true, rfl, .inl ⟨rfl, hh⟩⟩
        · exact ⟨false, rfl, .inr ⟨rfl, hh⟩⟩
      refine ⟨ag0, ?_⟩
      refine o_not gn rfl rfl ?_
      refine wl_end ?_
      refine w_cond rfl (fun hb => ?_) fun hb => ?_
      · skip
        refine w_ret ?_
        refine ⟨.inl rfl, _, rfl, ?_⟩
        rcases hv4 with ⟨rfl, _⟩ | ⟨_, hv4⟩
        · cases hb
        · exact .inr hv4
      · skip
        rcases hv4 with ⟨_, hv3⟩ | ⟨rfl, _⟩
        case inr => cases hb
        refine w_skip ?_
        refine w_region (by kernel_rfl) ?_
        refine o_add gn rfl rfl rfl (by omega) (by omega) ?_
        refine o_move gn rfl rfl ?_
        refine wl_end ?_
        exact ⟨(ksA A).length - (i + 1), by omega, [(0, _), (1, _), (7, _), (8, _), (9, iV ((i + 1 : Nat) : Int))], (by repeat (first | exact trivial | refine ⟨rfl, ?_⟩)), i + 1, by omega, rfl, hv3, hA2, hS2, rfl⟩
    · skip
      refine w_exit ?_
      refine thn_exit ?_
      refine rnd_exit ?_
      refine blk_eq ?_
      refine ⟨.inr rfl, _, rfl, ?_⟩
      have hge : i = (ksA A).length := by simp at hb; omega
      subst hge
      exact .inl hP

end

end Go.Proofs.Ytkhnhaijnnpjhaa


namespace Go.Proofs.Ytkhnhaijnnpjhaa
open Go.X

def maxA (A O : Int → Int) : Int → Int := fun k => max (A k) (O k)
/-- Joined with the first k chains of another one. -/
def joinK (A O : Int → Int) (k : Nat) : Int → Int := fun i => if i ∈ (ksA O).take k then max (A i) (O i) else A i
theorem joinK_zero (A O : Int → Int) : joinK A O 0 = A := by funext i; simp [joinK]
theorem joinK_end {A O : Int → Int} (ra : Rng A) (ro : Rng O) : joinK A O (ksA O).length = maxA A O := by
  funext i
  rw [joinK, List.take_length]
  by_cases h : O i = 0
  · rw [if_neg (fun q => (ksA_mem ro).1 q h), maxA, h]
    have := ra.lo i
    omega
  · rw [if_pos ((ksA_mem ro).2 h)]; rfl
theorem joinK_at {A O : Int → Int} {k : Nat} (hk : k < (ksA O).length) : joinK A O k (ksA O)[k] = A (ksA O)[k] := by
  rw [joinK, if_neg]
  intro hm
  obtain ⟨j, hj, e⟩ := List.mem_iff_getElem.1 hm
  rw [List.getElem_take] at e
  rw [List.length_take] at hj
  have := (List.pairwise_iff_getElem.1 (ksA_up O)) j k (by omega) hk (by omega)
  omega
theorem joinK_step {A O : Int → Int} (ro : Rng O) {k : Nat} (hk : k < (ksA O).length) : setA (joinK A O k) (ksA O)[k] (max (O (ksA O)[k]) (joinK A O k (ksA O)[k])) = joinK A O (k + 1) := by
  have h0 := ro.at' _ ((ksA_mem ro).1 (List.getElem_mem hk))
  have h1 := ro.lo (ksA O)[k]
  rw [joinK_at hk, setA, if_neg (by omega)]
  have e2 : (ksA O).take (k + 1) = (ksA O).take k ++ [(ksA O)[k]] := by rw [List.take_add_one, List.getElem?_eq_getElem hk]; rfl
  funext i
  simp only [joinK, e2, List.mem_append, List.mem_singleton]
  by_cases e : i = (ksA O)[k]
  · simp [e, Int.max_comm]
  · simp [e]
theorem joinK_rng {A O : Int → Int} (ra : Rng A) (ro : Rng O) (k : Nat) : Rng (joinK A O k) := by
  refine ⟨fun i => ?_, fun i => ?_, fun i => ?_⟩ <;> unfold joinK <;> split
  · have := ra.lo i; omega
  · exact ra.lo i
  · have := ra.hi i; have := ro.hi i; omega
  · exact ra.hi i
  · intro h
    by_cases e : A i = 0
    · exact ro.at' i (by have := ro.lo i; omega)
    · exact ra.at' i e
  · exact ra.at' i
noncomputable def covD (A O : Int → Int) : Bool := @decide (∀ k, O k ≤ A k) (Classical.propDecidable _)
theorem covD_iff {A O : Int → Int} : covD A O = true ↔ ∀ k, O k ≤ A k := by simp only [covD, decide_eq_true_eq]
noncomputable def eqD (A O : Int → Int) : Bool := @decide (A = O) (Classical.propDecidable _)
theorem eqD_iff {A O : Int → Int} : eqD A O = true ↔ A = O := by simp only [eqD, decide_eq_true_eq]
theorem cov_of {A O : Int → Int} (ra : Rng A) (ro : Rng O) (h : ∀ j (hj : j < (ksA O).length), O (ksA O)[j] ≤ A (ksA O)[j]) : ∀ k, O k ≤ A k := fun k => by
  by_cases e : O k = 0
  · have := ra.lo k; omega
  · obtain ⟨j, hj, e⟩ := List.mem_iff_getElem.1 ((ksA_mem ro).2 e)
    have := h j hj
    rw [e] at this
    exact this

section
variable {h h' : Hp} {b bo c r cl : Nat} {M : Ms} {A O : Int → Int} {own oo cs : List Nat} {k n : Int}

/-- Join -/
theorem c16 (x : ClkAt h b A own) (o : ClkAt h bo O oo) : C clkE 16 [ptrV b, ptrV bo] h fun _ h' => ClkAt h' b (maxA A O) own ∧ ExtB own h h' := by
  have ra := x.rng
  have ro := o.rng
  have hxl := x.lt
  refine c_enterR (fu := Try.f16) (by kernel_rfl) rfl ?_
  refine w_seq ?_
  refine w_region (by kernel_rfl) ?_
  refine o_box gn rfl rfl ?_
  refine wl_at (fun h1 => h1.get h.n = some (.cells [ptrV b] 23 0) ∧ Ext h h1 ∧ h1.n = h.n + 1) ⟨Hp.get_alloc_self _ _, Ext.alloc _ _, Hp.n_alloc _ _⟩ fun h1 ⟨g1, x1, n1⟩ => ?_
  refine wl_end ?_
  refine w_seq ?_
  refine w_region (by kernel_rfl) ?_
  refine o_move gn rfl rfl ?_
  refine o_call [_] gn rfl rfl (by kernel_rfl) rfl (C.mono (c32 (o.ext x1)) ?_)
  rintro v2 h2 ⟨c, r, rfl, ha2, fa2, x2⟩
  have x2n := x2.n
  have lc := ha2.lc
  have lr := ha2.lr
  refine ⟨ag0, ?_⟩
  refine wl_end ?_
  refine w_block ?_
  refine w_weak [(2, ptrV h.n), (7, .func (.func 45) #[] #[ptrV c])] (by repeat (first | exact trivial | refine ⟨rfl, ?_⟩)) ?_
  refine w_rangeA rfl rfl (by kernel_rfl) (by kernel_rfl) (by kernel_rfl) (by kernel_rfl) fun rc hR h0 hx0 hn0 hrc => ?_
  have k1 := ((x2.trans hx0).get h.n (by omega)).trans g1
  have x10 := x1.trans (x2.trans hx0)
  have x10n := x10.n
  have hcn : ∀ i, i ∈ (h2.n + 1) :: own → i ≠ c ∧ i ≠ r ∧ i < h0.n := fun i hi => by
    rcases List.mem_cons.1 hi with rfl | hi
    · omega
    · have := hxl i hi; omega
  have hround : ∀ k (hk : k < (ksA O).length) (m1 : Hp), (m1.get (h2.n + 1) = some (rc .ready none) ∧ ClkAt m1 b (joinK A O k) own ∧ ExtB ((h2.n + 1) :: own) h0 m1) → AllAt m1 c r O → Y clkE (h2.n + 1) [iV (ksA O)[k], iV (O (ksA O)[k])] m1 fun v m2 => (∃ cs, ExtB cs m1 m2 ∧ ∀ i, i ∈ cs → i ≠ c ∧ i ≠ r ∧ i < h0.n) ∧
    ((v = .bool true ∧ (m2.get (h2.n + 1) = some (rc .ready none) ∧ ClkAt m2 b (joinK A O (k + 1)) own ∧ ExtB ((h2.n + 1) :: own) h0 m2)) ∨ (v = .bool false ∧ False)) := fun k hk m1 ⟨p1, p2, p3⟩ hA => by
      refine hR.round p1 rfl ?_
      refine w_seq ?_
      refine w_region (by kernel_rfl) ?_
      refine o_assign gn rfl rfl ?_
      refine wl_end ?_
      refine w_region (by kernel_rfl) ?_
      refine o_assign gn rfl rfl ?_
      refine wl_end ?_
      refine ⟨_, p1, ?_⟩
      refine w_at (fun m3 => m3.get (h2.n + 1) = some (rc .busy none) ∧ ExtB [h2.n + 1] m1 m3 ∧ m3.n = m1.n) ⟨Hp.get_put_self _ _ _, ExtB.put _ _ _, Hp.n_put _ _ _⟩ fun m3 ⟨q1, q3, q4⟩ => ?_
      have p3n := p3.n
      have hnx : ∀ i, i ∈ own → i ≠ h2.n + 1 := fun i hi => by have := hxl i hi; omega
      have c3 := p2.keep q3 (fun i hi hj => by simp at hj; exact hnx i hi hj)
      have h3 := p3.trans (q3.mono (by simp))
      have q5 := (h3.get h.n (by omega) (fun hj => by
        rcases List.mem_cons.1 hj with hj | hj
        · omega
        · have := hxl _ hj; omega)).trans k1
      refine w_block ?_
      refine w_draw [(0, []), (1, []), (2, []), (3, []), (4, []), (5, [0]), (6, []), (7, [])] (by kernel_rfl) (by kernel_rfl) (by kernel_rfl) (by kernel_rfl) ?_
      refine o_load gn rfl rfl (by kernel_rfl) q5 rfl ?_
      refine o_move gn rfl rfl ?_
      refine o_move gn rfl rfl ?_
      refine o_load gn rfl rfl (by kernel_rfl) q5 rfl ?_
      refine o_move gn rfl rfl ?_
      refine o_call [_, _] gn rfl rfl (by kernel_rfl) rfl (c_pure (c33 c3) ⟨(ag1 (ag_load gn rfl (by kernel_rfl) q5 rfl rfl same_ptr) ag0), ?_⟩)
      refine o_max gn rfl rfl rfl ?_
      refine o_call [_, _, _] gn rfl rfl (by kernel_rfl) rfl (C.mono (c30 c3 (ro.at' _ ((ksA_mem ro).1 (List.getElem_mem hk))).2 (by have := ro.hi (ksA O)[k]; have := (joinK_rng ra ro k).hi (ksA O)[k]; omega)) ?_)
      rintro v4 m4 ⟨c4, g4⟩
      rw [joinK_step ro hk] at c4
      have q6 := (g4.get (h2.n + 1) (by omega) (fun hj => hnx _ hj rfl)).trans q1
      refine ⟨ag0, ?_⟩
      refine wl_end ?_
      exact ⟨_, _, q6, ⟨⟨(h2.n + 1) :: own, ((q3.mono (by simp)).trans (g4.mono (fun i hi _ => by simp [hi]))).trans ((ExtB.put _ _ _).mono (by simp)), hcn⟩, .inl ⟨rfl, Hp.get_put_self _ _ _, c4.keep (ExtB.put _ _ _) (fun i hi hj => by simp at hj; exact hnx i hi hj), (h3.trans (g4.mono (fun i hi _ => by simp [hi]))).trans ((ExtB.put _ _ _).mono (by simp))⟩⟩⟩
  refine C.mono (c45 (ha2.ext hx0) (fun k m1 => m1.get (h2.n + 1) = some (rc .ready none) ∧ ClkAt m1 b (joinK A O k) own ∧ ExtB ((h2.n + 1) :: own) h0 m1) (fun _ => False) (fun m1 hm => ⟨(hm.get _ (by omega)).trans hrc, by rw [joinK_zero]; exact x.ext (x10.trans hm), hm.b _⟩) hround) ?_
  rintro v h' (⟨p1, p2, p3⟩ | hf)
  case inr => exact hf.elim
  rw [joinK_end ra ro] at p2
  refine ⟨_, _, p1, (by simp), fun m9 hx2 hn2 => ?_⟩
  refine aft_blk (.inl rfl) ?_
  refine ⟨.inr rfl, _, rfl, fun h2 hco => ?_⟩
  have c9 := p2.keep hx2 (fun i hi hj => by simp at hj; have := hxl i hi; omega)
  have g9 : ExtB own h m9 := ⟨by have := p3.n; have := hx2.n; omega, fun i hi hn => (hx2.get i (by have := p3.n; omega) (by simp; omega)).trans ((p3.get i (by omega) (fun hj => by
    rcases List.mem_cons.1 hj with hj | hj
    · omega
    · exact hn hj)).trans (x10.get i hi))⟩
  exact ⟨c9.co hco hxl, hco.extB g9⟩

/-- Covers -/
theorem c11 (x : ClkAt h b A own) (o : ClkAt h bo O oo) : C clkE 11 [ptrV b, ptrV bo] h fun v h' => v = .bool (covD A O) ∧ Ext h h' := by
  have ra := x.rng
  have ro := o.rng
  have hxl := x.lt
  refine c_enterR (fu := Try.f11) (by kernel_rfl) rfl ?_
  refine w_seq ?_
  refine w_region (by kernel_rfl) ?_
  refine o_box gn rfl rfl ?_
  refine o_alloc (zv := .bool false) gn rfl (by kernel_rfl) ?_
  rw [Hp.n_alloc]
  refine wl_at (fun h1 => h1.get h.n = some (.cells [ptrV b] 23 0) ∧ h1.get (h.n + 1) = some (.cells [.bool false] 4 0) ∧ Ext h h1 ∧ h1.n = h.n + 2) ⟨?_, ?_, (Ext.alloc _ _).trans (Ext.alloc _ _), by simp only [Hp.n_alloc]⟩ fun h1 ⟨g1, g2, x1, n1⟩ => ?_
  · rw [Hp.get_alloc, if_neg (by rw [Hp.n_alloc]; omega)]; exact Hp.get_alloc_self _ _
  · rw [Hp.get_alloc, if_pos (Hp.n_alloc _ _)]; rfl
  refine wl_end ?_
  refine w_seq ?_
  refine w_seq ?_
  refine w_region (by kernel_rfl) ?_
  refine o_move gn rfl rfl ?_
  refine o_call [_] gn rfl rfl (by kernel_rfl) rfl (C.mono (c32 (o.ext x1)) ?_)
  rintro v2 h2 ⟨c, r, rfl, ha2, fa2, x2⟩
  have x2n := x2.n
  have lc := ha2.lc
  have lr := ha2.lr
  refine ⟨ag0, ?_⟩
  refine wl_end ?_
  refine w_block ?_
  refine w_weak [(2, ptrV h.n), (4, ptrV (h.n + 1)), (8, .func (.func 45) #[] #[ptrV c])] (by repeat (first | exact trivial | refine ⟨rfl, ?_⟩)) ?_
  refine w_rangeA rfl rfl (by kernel_rfl) (by kernel_rfl) (by kernel_rfl) (by kernel_rfl) fun rc hR h0 hx0 hn0 hrc => ?_
  have k1 := ((x2.trans hx0).get h.n (by omega)).trans g1
  have k2 := ((x2.trans hx0).get (h.n + 1) (by omega)).trans g2
  have x10 := x1.trans (x2.trans hx0)
  have hcn : ∀ i, i ∈ [h.n + 1, h2.n + 1] → i ≠ c ∧ i ≠ r ∧ i < h0.n := fun i hi => by
    simp at hi
    omega
  have hround : ∀ k (hk : k < (ksA O).length) (m1 : Hp), (m1.get (h2.n + 1) = some (rc .ready none) ∧ m1.get (h.n + 1) = some (.cells [.bool false] 4 0) ∧ ExtB [h.n + 1, h2.n + 1] h0 m1 ∧ ∀ j (hj : j < (ksA O).length), j < k → O (ksA O)[j] ≤ A (ksA O)[j]) → AllAt m1 c r O → Y clkE (h2.n + 1) [iV (ksA O)[k], iV (O (ksA O)[k])] m1 fun v m2 => (∃ cs, ExtB cs m1 m2 ∧ ∀ i, i ∈ cs → i ≠ c ∧ i ≠ r ∧ i < h0.n) ∧
    ((v = .bool true ∧ (m2.get (h2.n + 1) = some (rc .ready none) ∧ m2.get (h.n + 1) = some (.cells [.bool false] 4 0) ∧ ExtB [h.n + 1, h2.n + 1] h0 m2 ∧ ∀ j (hj : j < (ksA O).length), j < k + 1 → O (ksA O)[j] ≤ A (ksA O)[j])) ∨ (v = .bool false ∧ (m2.get (h2.n + 1) = some (rc .done (some .ret)) ∧ m2.get (h.n + 1) = some (.cells [.bool false] 4 0) ∧ ExtB [h.n + 1, h2.n + 1] h0 m2 ∧ covD A O = false))) := fun k hk m1 ⟨p1, p2, p3, p4⟩ hA => by
      refine hR.round p1 rfl ?_
      refine w_seq ?_
      refine w_region (by kernel_rfl) ?_
      refine o_assign gn rfl rfl ?_
      refine wl_end ?_
      refine w_region (by kernel_rfl) ?_
      refine o_assign gn rfl rfl ?_
      refine wl_end ?_
      refine ⟨_, p1, ?_⟩
      refine w_at (fun m3 => m3.get (h2.n + 1) = some (rc .busy none) ∧ m3.get (h.n + 1) = some (.cells [.bool false] 4 0) ∧ ExtB [h2.n + 1] m1 m3 ∧ m3.n = m1.n) ⟨Hp.get_put_self _ _ _, by rw [Hp.get_put, if_neg (by omega)]; exact p2, ExtB.put _ _ _, Hp.n_put _ _ _⟩ fun m3 ⟨q1, q2, q3, q4⟩ => ?_
      have p3n := p3.n
      have h3 := p3.trans (q3.mono (by simp))
      have q5 := (h3.get h.n (by omega) (by simp; omega)).trans k1
      have xo := (x10.b [h.n + 1, h2.n + 1]).trans h3
      have c3 := x.keep xo fun i hi hj => by have := hxl i hi; simp at hj; omega
      refine w_block ?_
      refine w_seq ?_
      refine w_region (by kernel_rfl) ?_
      refine o_load gn rfl rfl (by kernel_rfl) q5 rfl ?_
      refine o_move gn rfl rfl ?_
      refine o_move gn rfl rfl ?_
      refine o_call [_, _, _] gn rfl rfl (by kernel_rfl) rfl (c_pure (c34 c3) ⟨ag0, ?_⟩)
      refine o_not gn rfl rfl ?_
      refine wl_end ?_
      refine w_cond rfl (fun hb => ?_) fun hb => ?_
      · skip
        refine w_seq ?_
        refine w_region (by kernel_rfl) ?_
        refine o_store gn rfl rfl rfl (by kernel_rfl) q2 (by decide) (by decide) ag0 ?_
        refine wl_end ?_
        refine w_ret ?_
        exact ⟨_, _, (by rw [Hp.get_put, if_neg (by omega)]; exact q1), ⟨⟨[h.n + 1, h2.n + 1], (q3.mono (by simp)).trans (((ExtB.put _ _ _).mono (by simp)).trans ((ExtB.put _ _ _).mono (by simp))), hcn⟩, .inr ⟨rfl, Hp.get_put_self _ _ _, by rw [Hp.get_put, if_neg (by omega)]; exact Hp.get_put_self _ _ _, h3.trans (((ExtB.put _ _ _).mono (by simp)).trans ((ExtB.put _ _ _).mono (by simp))), by
          cases hq : covD A O with
          | false => rfl
          | true =>
            have := covD_iff.1 hq (ksA O)[k]
            simp at hb
            omega⟩⟩⟩
      · skip
        refine w_skip ?_
        exact ⟨_, _, q1, ⟨⟨[h.n + 1, h2.n + 1], (q3.mono (by simp)).trans ((ExtB.put _ _ _).mono (by simp)), hcn⟩, .inl ⟨rfl, Hp.get_put_self _ _ _, by rw [Hp.get_put, if_neg (by omega)]; exact q2, h3.trans ((ExtB.put _ _ _).mono (by simp)), fun j hj hjk => by
          by_cases e : j = k
          · subst e
            have := ro.lo (ksA O)[j]
            have := ra.lo (ksA O)[j]
            simp at hb
            omega
          · exact p4 j hj (by omega)⟩⟩⟩
  refine C.mono (c45 (ha2.ext hx0) (fun k m1 => m1.get (h2.n + 1) = some (rc .ready none) ∧ m1.get (h.n + 1) = some (.cells [.bool false] 4 0) ∧ ExtB [h.n + 1, h2.n + 1] h0 m1 ∧ ∀ j (hj : j < (ksA O).length), j < k → O (ksA O)[j] ≤ A (ksA O)[j]) (fun m2 => m2.get (h2.n + 1) = some (rc .done (some .ret)) ∧ m2.get (h.n + 1) = some (.cells [.bool false] 4 0) ∧ ExtB [h.n + 1, h2.n + 1] h0 m2 ∧ covD A O = false) (fun m1 hm => ⟨(hm.get _ (by omega)).trans hrc, (hm.get _ (by omega)).trans k2, hm.b _, fun j hj hjk => by omega⟩) hround) ?_
  rintro v h' (⟨p1, p2, p3, p4⟩ | ⟨p1, p2, p3, p4⟩)
  case inr =>
    refine ⟨_, _, p1, by simp, fun m9 hx2 hn2 => ?_⟩
    have p3n := p3.n
    refine ⟨.inl rfl, _, (resH_cell rfl (by kernel_rfl) ((hx2.get _ (by omega) (by simp; omega)).trans p2) rfl rfl), fun m10 hco => ?_⟩
    exact ⟨by rw [p4]; rfl, hco.ext ((x10.of p3 (by simp; omega)).of hx2 (by simp; omega))⟩
  refine ⟨_, _, p1, (by simp), fun m9 hx2 hn2 => ?_⟩
  refine aft_blk (.inl rfl) ?_
  have p3n := p3.n
  have p5 := (hx2.get _ (by omega) (by simp; omega)).trans p2
  refine w_seq ?_
  refine w_region (by kernel_rfl) ?_
  refine o_store gn rfl rfl rfl (by kernel_rfl) p5 (by decide) (by decide) ag0 ?_
  refine wl_end ?_
  refine w_ret ?_
  refine ⟨.inl rfl, _, (resH_cell rfl (by kernel_rfl) (Hp.get_put_self _ _ _) rfl rfl), fun h2 hco => ?_⟩
  exact ⟨by rw [covD_iff.2 (cov_of ra ro fun j hj => p4 j hj hj)]; rfl, hco.ext (((x10.of p3 (by simp; omega)).of hx2 (by simp; omega)).of (ExtB.put _ _ _) (by simp))⟩

/-- Same -/
theorem c13 (x : ClkAt h b A own) (o : ClkAt h bo O oo) : C clkE 13 [ptrV b, ptrV bo] h fun v h' => v = .bool (eqD A O) ∧ Ext h h' := by
  refine c_enter (fu := Try.f13) (by kernel_rfl) rfl ?_
  refine w_seq ?_
  refine w_region (by kernel_rfl) ?_
  refine o_assign gn rfl rfl ?_
  refine wl_end ?_
  refine w_seq ?_
  refine w_region (by kernel_rfl) ?_
  refine o_move gn rfl rfl ?_
  refine o_move gn rfl rfl ?_
  refine o_call [_, _] gn rfl rfl (by kernel_rfl) rfl (C.mono (c11 x o) ?_)
  rintro v1 h1 ⟨rfl, x1⟩
  refine ⟨ag0, ?_⟩
  refine o_move gn rfl rfl ?_
  refine wl_split (dc := 8) rfl (fun hb8 => ?_) fun hb8 => ?_
  · skip
    refine o_move (gy rfl rfl rfl hb8) rfl rfl ?_
    refine o_move (gy rfl rfl rfl hb8) rfl rfl ?_
    refine o_call [_, _] (gy rfl rfl rfl hb8) rfl rfl (by kernel_rfl) rfl (C.mono (c11 (o.ext x1) (x.ext x1)) ?_)
    rintro v2 h2 ⟨rfl, x2⟩
    refine ⟨ag0, ?_⟩
    refine o_pickt gn rfl rfl hb8 rfl ?_
    refine o_assign gn rfl rfl ?_
    refine wl_end ?_
    refine w_ret ?_
    refine ⟨.inl rfl, _, rfl, ?_⟩
    refine ⟨?_, x1.trans x2⟩
    have : covD O A = eqD A O := by
      rw [Bool.eq_iff_iff, covD_iff, eqD_iff]
      have h8 := covD_iff.1 (by simpa using hb8)
      exact ⟨fun q => funext fun i => Int.le_antisymm (q i) (h8 i), fun q i => by rw [q]; omega⟩
    rw [this]; rfl
  · skip
    refine wl_skips (n := 3) (dc := 8) (w := true) rfl hb8 rfl ?_
    refine o_pickf gn rfl rfl hb8 rfl ?_
    refine o_assign gn rfl rfl ?_
    refine wl_end ?_
    refine w_ret ?_
    refine ⟨.inl rfl, _, rfl, ?_⟩
    refine ⟨?_, x1⟩
    have : eqD A O = false := by
      cases hq : eqD A O with
      | false => rfl
      | true =>
        have e := eqD_iff.1 hq
        have : covD A O = true := covD_iff.2 fun i => by rw [e]; omega
        rw [this] at hb8
        simp at hb8
    rw [this]; rfl

end

end Go.Proofs.Ytkhnhaijnnpjhaa


namespace Go.Proofs.Ytkhnhaijnnpjhaa
open Go.X

theorem el3 : El clkE 42 3 7 := ⟨by kernel_rfl, by kernel_rfl, by kernel_rfl, .int .i64 0, by kernel_rfl, rfl⟩
theorem all_is (l : List Int) : (isV l).all cellV = true := by simp [List.all_map, List.all_eq_true, cellV]

def nAt (N : List Int) (k : Int) : Int := if 0 ≤ k then (N[k.toNat]?).getD 0 else 0
theorem nAt_get {N : List Int} {i : Nat} (h : i < N.length) : nAt N (i : Nat) = N[i] := by
  rw [nAt, if_pos (by omega), Int.toNat_natCast, List.getElem?_eq_getElem h]; rfl
theorem nAt_out {N : List Int} {k : Int} (h : k < 0 ∨ N.length ≤ k) : nAt N k = 0 := by
  unfold nAt
  split
  · rw [List.getElem?_eq_none (by omega)]; rfl
  · rfl
theorem is_at {N : List Int} {o : Nat} (i : Nat) (h : i < N.length) (e : o = i) : (isV N)[o]? = some (iV (nAt N (i : Nat))) := by
  subst e; rw [nAt_get h, List.getElem?_map, List.getElem?_eq_getElem h]; rfl

def growN (N : List Int) (k : Nat) : List Int := N ++ List.replicate (k + 1 - N.length) 0
def setN (N : List Int) (k n : Int) : List Int := if k < 0 ∨ n < 0 then N else (growN N k.toNat).set k.toNat n
theorem grow_len (N : List Int) (k : Nat) : (growN N k).length = max N.length (k + 1) := by simp [growN]; omega
theorem grow_at (N : List Int) (k : Nat) (i : Int) : nAt (growN N k) i = nAt N i := by
  unfold nAt
  split
  · rw [growN, List.getElem?_append]
    split
    · rfl
    · rename_i h
      have hn : N[i.toNat]? = none := List.getElem?_eq_none (by omega)
      rw [hn, List.getElem?_replicate]
      split <;> rfl
  · rfl
theorem setN_at (N : List Int) (k n : Int) : nAt (setN N k n) = setA (nAt N) k n := by
  unfold setN setA
  split
  · rfl
  · rename_i h
    funext i
    have hk : k.toNat < (growN N k.toNat).length := by rw [grow_len]; omega
    by_cases e : i = k
    · subst e
      rw [if_pos rfl, nAt, if_pos (by omega), List.getElem?_set_self hk]; rfl
    · rw [if_neg e, ← grow_at N k.toNat i]
      unfold nAt
      split
      · rw [List.getElem?_set_ne (by omega)]
      · rfl
theorem setN_len {N : List Int} {k n : Int} (h : N.length ≤ 201) (hk : k ≤ 200) : (setN N k n).length ≤ 201 := by
  unfold setN; split
  · exact h
  · rw [List.length_set, grow_len]; omega

/-- A clock of the document's. -/
structure DocR (h : Hp) (b : Nat) (N : List Int) (s : Value) (B : List Nat) : Prop where
  top : h.get b = some (.cells [s] 71 0)
  row : Sl 3 h s (isV N) B
  lt : b < h.n
  nb : b ∉ B
def DocAt (h : Hp) (b : Nat) (N : List Int) (own : List Nat) : Prop := ∃ s B, DocR h b N s B ∧ own = b :: B

section
variable {h h' : Hp} {b bo : Nat} {N O : List Int} {s : Value} {B own oo cs : List Nat} {k n : Int}

theorem DocR.keep (x : DocR h b N s B) (g : ExtB cs h h') (hd : ∀ i, i ∈ b :: B → i ∉ cs) : DocR h' b N s B :=
  ⟨by rw [g.get b x.lt (hd b (by simp))]; exact x.top, x.row.keep g fun i hi => hd i (by simp [hi]), Nat.lt_of_lt_of_le x.lt g.n, x.nb⟩
theorem DocAt.keep (x : DocAt h b N own) (g : ExtB cs h h') (hd : ∀ i, i ∈ own → i ∉ cs) : DocAt h' b N own := by
  obtain ⟨s, B, x, rfl⟩ := x; exact ⟨s, B, x.keep g hd, rfl⟩
theorem DocAt.ext (x : DocAt h b N own) (g : Ext h h') : DocAt h' b N own := x.keep (g.b []) (by simp)
theorem DocAt.lt (x : DocAt h b N own) : ∀ i, i ∈ own → i < h.n := by
  obtain ⟨s, B, x, rfl⟩ := x
  intro i hi
  rcases List.mem_cons.1 hi with rfl | hi
  · exact x.lt
  · exact x.row.lt i hi

/-- At -/
theorem c39 (x : DocAt h b N own) : CP clkE 39 [ptrV b, iV k] h (iV (nAt N k)) := by
  obtain ⟨s, B, x, rfl⟩ := x
  have ht := x.top
  obtain ⟨a, rfl⟩ := x.row.val
  refine c_enter (fu := Try.f39) (by kernel_rfl) rfl ?_
  refine w_seq ?_
  refine w_region (by kernel_rfl) ?_
  refine o_assign gn rfl rfl ?_
  refine wl_end ?_
  refine w_seq ?_
  refine w_seq ?_
  refine w_region (by kernel_rfl) ?_
  refine o_move gn rfl rfl ?_
  refine o_lss gn rfl rfl rfl ?_
  refine o_move gn rfl rfl ?_
  refine o_or (n := 7) rfl rfl rfl gn rfl (fun hb => by
      refine o_move (gy rfl rfl rfl hb) rfl rfl ?_
      refine o_move (gy rfl rfl rfl hb) rfl rfl ?_
      refine o_nilCheck (gy rfl rfl rfl hb) rfl rfl ?_
      refine o_fieldAddr (off := 0) (gy rfl rfl rfl hb) rfl rfl (by kernel_rfl) ?_
      refine o_load (gy rfl rfl rfl hb) rfl rfl (by kernel_rfl) (by assumption) rfl ?_
      refine o_len (gy rfl rfl rfl hb) rfl rfl (by kernel_rfl) ?_
      refine o_geq (gy rfl rfl rfl hb) rfl rfl rfl ?_
      exact wl_end ⟨rfl, rfl, 7, rfl, rfl⟩) ?_
  refine wl_end ?_
  refine w_cond rfl (fun hb => ?_) fun hb => ?_
  · skip
    refine w_seq ?_
    refine w_region (by kernel_rfl) ?_
    refine o_assign gn rfl rfl ?_
    refine wl_end ?_
    refine w_ret ?_
    refine ⟨.inl rfl, _, rfl, ?_⟩
    have hr : k < 0 ∨ N.length ≤ k := by simpa using hb
    exact ⟨by rw [nAt_out hr]; rfl, rfl⟩
  · skip
    have hr : 0 ≤ k ∧ k < N.length := by simp at hb; omega
    obtain ⟨bb, m, ea, hg, hm, hblt, _⟩ := x.row.at (by simp; omega)
    simp only [Value.slice.injEq, and_true] at ea
    subst ea
    have hln : (isV N).length = N.length := by simp
    refine w_skip ?_
    refine w_seq ?_
    refine w_region (by kernel_rfl) ?_
    refine o_move gn rfl rfl ?_
    refine o_nilCheck gn rfl rfl ?_
    refine o_fieldAddr (off := 0) gn rfl rfl (by kernel_rfl) ?_
    refine o_load gn rfl rfl (by kernel_rfl) (by assumption) rfl ?_
    refine o_move gn rfl rfl ?_
    refine o_indexAddr (zz := 1) gn rfl rfl rfl (by kernel_rfl) (by omega) (by omega) ?_
    refine o_load gn rfl rfl (by kernel_rfl) hg (is_at k.toNat (by omega) (by omega)) ?_
    refine o_assign gn rfl rfl ?_
    refine wl_end ?_
    refine w_ret ?_
    refine ⟨.inl rfl, _, rfl, ?_⟩
    exact ⟨by rw [Int.toNat_of_nonneg hr.1]; rfl, rfl⟩

/-- Has -/
theorem c40 (x : DocAt h b N own) : CP clkE 40 [ptrV b, iV k, iV n] h (.bool (decide (n < 1) || decide (nAt N k ≥ n))) := by
  refine c_enter (fu := Try.f40) (by kernel_rfl) rfl ?_
  refine w_seq ?_
  refine w_region (by kernel_rfl) ?_
  refine o_assign gn rfl rfl ?_
  refine wl_end ?_
  refine w_seq ?_
  refine w_region (by kernel_rfl) ?_
  refine o_move gn rfl rfl ?_
  refine o_lss gn rfl rfl rfl ?_
  refine o_move gn rfl rfl ?_
  refine o_or (n := 5) rfl rfl rfl gn rfl (fun hb => by
      refine o_move (gy rfl rfl rfl hb) rfl rfl ?_
      refine o_move (gy rfl rfl rfl hb) rfl rfl ?_
      refine o_call [_, _] (gy rfl rfl rfl hb) rfl rfl (by kernel_rfl) rfl (c_pure (c39 x) ⟨ag0, ?_⟩)
      refine o_move (gy rfl rfl rfl hb) rfl rfl ?_
      refine o_geq (gy rfl rfl rfl hb) rfl rfl rfl ?_
      exact wl_end ⟨rfl, rfl, 5, rfl, rfl⟩) ?_
  refine o_assign gn rfl rfl ?_
  refine wl_end ?_
  refine w_ret ?_
  refine ⟨.inl rfl, _, rfl, ?_⟩
  exact ⟨rfl, rfl⟩

theorem push_is {l : List Int} {x : Int} (hs : Sl 3 h s (isV l) B) (hn : l.length ≤ 100000) :
    ∃ a h' B', appendX clkE (h.alloc (.cells [iV x] 3 0)) 42 42 s (.slice (some ⟨h.n, 0, none⟩) 1 1) = some (.slice a (isV (l ++ [x])).length (isV (l ++ [x])).length, h') ∧ Sl 3 h' (.slice a (isV (l ++ [x])).length (isV (l ++ [x])).length) (isV (l ++ [x])) B' ∧ ExtB B h h' ∧ (∀ i, i ∈ B' → i ∈ B ∨ h.n ≤ i) := by
  have x5 : Ext h (h.alloc (.cells [iV x] 3 0)) := Ext.alloc _ _
  obtain ⟨v', h6, B6, a1, a2, a3, a4⟩ := append_own el3 (hs.ext x5) ((Sl.new (h := h) (e := 3) (vs := [iV x]) (m := 0) (.inl rfl)).src rfl) (by simp; omega)
  have e : isV l ++ [iV x] = isV (l ++ [x]) := by simp
  rw [e] at a2
  obtain ⟨a, rfl⟩ := a2.val
  exact ⟨a, h6, B6, a1, a2, (x5.b B).trans a3, fun i hi => by
    rcases a4 i hi with h1 | h1
    · exact .inl h1
    · rw [Hp.n_alloc] at h1; exact .inr (by omega)⟩

theorem _root_.Go.X.ExtB.join {h h1 h2 : Hp} {A bs : List Nat} (g : ExtB A h h1) (k : ExtB bs h1 h2) (d : ∀ i, i ∈ bs → i ∈ A ∨ h.n ≤ i) : ExtB A h h2 :=
  ⟨Nat.le_trans g.n k.n, fun i hi hn => (k.get i (Nat.lt_of_lt_of_le hi g.n) fun hb => by
    rcases d i hb with h3 | h3
    · exact hn h3
    · omega).trans (g.get i hi hn)⟩

/-- Set -/
theorem c38 {ch : Int} (x : DocAt h b N own) (hk : ch ≤ 200) (hl : N.length ≤ 201) : C clkE 38 [ptrV b, iV ch, iV n] h fun _ h' => ∃ own', DocAt h' b (setN N ch n) own' ∧ ExtB own h h' ∧ ∀ i, i ∈ own' → i ∈ own ∨ h.n ≤ i := by
  have x0 := x
  obtain ⟨s, B, x, rfl⟩ := x
  refine c_enter (fu := Try.f38) (by kernel_rfl) rfl ?_
  refine w_seq ?_
  refine w_seq ?_
  refine w_region (by kernel_rfl) ?_
  refine o_move gn rfl rfl ?_
  refine o_lss gn rfl rfl rfl ?_
  refine o_move gn rfl rfl ?_
  refine o_or (n := 2) rfl rfl rfl gn rfl (fun hb => by
      refine o_move (gy rfl rfl rfl hb) rfl rfl ?_
      refine o_lss (gy rfl rfl rfl hb) rfl rfl rfl ?_
      exact wl_end ⟨rfl, rfl, 2, rfl, rfl⟩) ?_
  refine wl_end ?_
  refine w_cond rfl (fun hb => ?_) fun hb => ?_
  · skip
    refine w_ret ?_
    refine ⟨.inl rfl, _, rfl, ?_⟩
    have e : ch < 0 ∨ n < 0 := by simpa using hb
    exact ⟨_, by rw [setN, if_pos e]; exact x0, .refl _ _, fun i hi => .inl hi⟩
  · skip
    have hk0 : 0 ≤ ch ∧ 0 ≤ n := by simp at hb; omega
    rw [setN, if_neg (by omega)]
    refine w_skip ?_
    refine w_seq ?_
    refine w_block ?_
    refine w_weak [(0, ptrV b), (1, iV ch), (2, iV n)] (by repeat (first | exact trivial | refine ⟨rfl, ?_⟩)) ?_
    refine w_loop (fun k l hh => ∃ (j : Nat) (s' : Value) (B' : List Nat), DocR hh b (N ++ List.replicate j 0) s' B' ∧ j ≤ ch.toNat + 1 - N.length ∧ k = ch.toNat + 1 - N.length - j ∧ ExtB (b :: B) h hh ∧ (∀ i, i ∈ B' → i ∈ b :: B ∨ h.n ≤ i) ∧ l = [(0, ptrV b), (1, iV ch), (2, iV n)]) (n := (ch.toNat + 1 - N.length)) ?_ fun k l hh hI => ?_
    · exact ⟨0, s, B, by simpa using x, by omega, by omega, .refl _ _, fun i hi => .inl (by simp [hi]), rfl⟩
    · obtain ⟨j, s', B', xd, hj, rfl, hx, hB, rfl⟩ := hI
      have ht := xd.top
      obtain ⟨a, rfl⟩ := xd.row.val
      have hxn := hx.n
      have hlen : (isV (N ++ List.replicate j 0)).length = N.length + j := by simp
      refine w_seq ?_
      refine w_seq ?_
      refine w_region (by kernel_rfl) ?_
      refine o_move gn rfl rfl ?_
      refine o_nilCheck gn rfl rfl ?_
      refine o_fieldAddr (off := 0) gn rfl rfl (by kernel_rfl) ?_
      refine o_load gn rfl rfl (by kernel_rfl) (by assumption) rfl ?_
      refine o_len gn rfl rfl (by kernel_rfl) ?_
      refine o_move gn rfl rfl ?_
      refine o_leq gn rfl rfl rfl ?_
      refine wl_end ?_
      refine w_cond rfl (fun hb => ?_) fun hb => ?_
      · skip
        refine w_skip ?_
        refine w_block ?_
        refine w_region (by kernel_rfl) ?_
        refine o_move gn rfl rfl ?_
        refine o_move gn rfl rfl ?_
        refine o_nilCheck gn rfl rfl ?_
        refine o_fieldAddr (off := 0) gn rfl rfl (by kernel_rfl) ?_
        refine o_load gn rfl rfl (by kernel_rfl) (by assumption) rfl ?_
        refine o_buildSlice (e := 3) (z := 0) (zv := .int .i64 0) [(0, _)] gn rfl (by kernel_rfl) (by kernel_rfl) (by kernel_rfl) (by kernel_rfl) rfl rfl ?_
        have hlt : N.length + j ≤ ch := by rw [hlen] at hb; simpa using hb
        obtain ⟨a8, h8, B8, b1, b2, b3, b4⟩ := push_is (x := 0) xd.row (by simp; omega)
        have g8 := (b3.get b xd.lt xd.nb).trans ht
        refine o_append gn rfl rfl rfl b1 ag0 ?_
        refine o_nilCheck gn rfl rfl ?_
        refine o_fieldAddr (off := 0) gn rfl rfl (by kernel_rfl) ?_
        refine o_store gn rfl rfl rfl (by kernel_rfl) g8 (by decide) (by simp) ag0 ?_
        refine wl_end ?_
        have b3n := b3.n
        have hb8 : b ∉ B8 := fun hj => by
          rcases b4 b hj with h9 | h9
          · exact xd.nb h9
          · have := xd.lt; omega
        have er : N ++ List.replicate j 0 ++ [0] = N ++ List.replicate (j + 1) 0 := by rw [List.append_assoc, List.replicate_succ']
        rw [er] at b2 ⊢
        exact ⟨ch.toNat + 1 - N.length - (j + 1), by omega, _, (by repeat (first | exact trivial | refine ⟨rfl, ?_⟩)), j + 1, _, B8, ⟨Hp.get_put_self _ _ _, b2.keep (ExtB.put _ _ _) (fun i hi hj => by simp at hj; subst hj; exact hb8 hi), by rw [Hp.n_put]; have := xd.lt; omega, hb8⟩, by omega, rfl, (hx.join b3 hB).join (ExtB.put _ _ _) (fun i hi => by simp at hi; simp [hi]), fun i hi => by
          rcases b4 i hi with h9 | h9
          · exact hB i h9
          · exact .inr (by omega), rfl⟩
      · skip
        refine w_exit ?_
        refine thn_exit ?_
        refine rnd_exit ?_
        refine blk_eq ?_
        have hge : ch < N.length + j := by rw [hlen] at hb; simpa using hb
        have egr : N ++ List.replicate j 0 = growN N ch.toNat := by
          unfold growN
          by_cases e : N.length ≤ ch.toNat
          · rw [show j = ch.toNat + 1 - N.length by omega]
          · rw [show j = 0 by omega, show ch.toNat + 1 - N.length = 0 by omega]
        rw [egr] at xd hlen ht ⊢
        generalize growN N ch.toNat = G at *
        have hGl : G.length = N.length + j := by simpa using hlen
        obtain ⟨bb, m, ea, hg, hm, hblt, hBB⟩ := xd.row.at (by simp; omega)
        simp only [Value.slice.injEq, and_true] at ea
        subst ea
        refine w_region (by kernel_rfl) ?_
        refine o_move gn rfl rfl ?_
        refine o_nilCheck gn rfl rfl ?_
        refine o_fieldAddr (off := 0) gn rfl rfl (by kernel_rfl) ?_
        refine o_load gn rfl rfl (by kernel_rfl) (by assumption) rfl ?_
        refine o_move gn rfl rfl ?_
        refine o_move gn rfl rfl ?_
        refine o_indexAddr (zz := 1) gn rfl rfl rfl (by kernel_rfl) (by omega) (by omega) ?_
        refine o_store gn rfl rfl rfl (by kernel_rfl) hg (by omega) (by simp; omega) ag0 ?_
        refine wl_end ?_
        refine ⟨.inr rfl, _, rfl, ?_⟩
        have hbb : bb ≠ b := fun e => xd.nb (by rw [hBB, e]; simp)
        have hset : (isV G).set (0 + ch.toNat * 1) (iV n) = isV (G.set ch.toNat n) := by simp [List.map_set]
        rw [hset]
        refine ⟨b :: B', ⟨_, B', ⟨by rw [Hp.get_put, if_neg hbb]; exact ht, by rw [hBB]; exact Sl.put (by simp) hm (by omega), by rw [Hp.n_put]; exact xd.lt, xd.nb⟩, rfl⟩, hx.join (ExtB.put _ _ _) (fun i hi => ?_), fun i hi => ?_⟩
        · simp at hi; subst hi; exact hB _ (by rw [hBB]; simp)
        · rcases List.mem_cons.1 hi with rfl | hi
          · exact .inl (by simp)
          · exact hB i hi

theorem DocAt.top (x : DocAt h b N own) : ∃ a, h.get b = some (.cells [.slice a (isV N).length (isV N).length] 71 0) ∧ (0 < N.length → ∃ bb m, a = some ⟨bb, 0, none⟩ ∧ h.get bb = some (.cells (isV N) 3 m)) := by
  obtain ⟨s, B, x, rfl⟩ := x
  obtain ⟨a, rfl⟩ := x.row.val
  refine ⟨a, x.top, fun hn => ?_⟩
  obtain ⟨bb, m, ea, hg, _, _, _⟩ := x.row.at (by simp; omega)
  simp only [Value.slice.injEq, and_true] at ea
  exact ⟨bb, m, ea, hg⟩

/-- Join -/
theorem c17 (x : DocAt h b N own) (o : DocAt h bo O oo) (hd : ∀ i, i ∈ own → i ∉ oo) (hl : N.length ≤ 201) (hlo : O.length ≤ 201) (hN : ∀ z, 0 ≤ nAt N z) (hO : ∀ z, 0 ≤ nAt O z) :
    C clkE 17 [ptrV b, ptrV bo] h fun _ h' => ∃ N' own', DocAt h' b N' own' ∧ nAt N' = maxA (nAt N) (nAt O) ∧ N'.length ≤ 201 ∧ ExtB own h h' ∧ ∀ i, i ∈ own' → i ∈ own ∨ h.n ≤ i := by
  have hlo2 : (isV O).length = O.length := by simp
  have hoo := o.lt
  refine c_enter (fu := Try.f17) (by kernel_rfl) rfl ?_
  refine w_seq ?_
  refine w_region (by kernel_rfl) ?_
  refine o_assign gn rfl rfl ?_
  refine wl_end ?_
  refine w_block ?_
  refine w_weak [(0, ptrV b), (1, ptrV bo), (4, iV (0 : Nat))] (by repeat (first | exact trivial | refine ⟨rfl, ?_⟩)) ?_
  refine w_loop (fun k l hh => ∃ (i : Nat) (N' : List Int) (own' : List Nat), i ≤ O.length ∧ k = O.length - i ∧ DocAt hh b N' own' ∧ DocAt hh bo O oo ∧ (∀ z, nAt N' z = if 0 ≤ z ∧ z < i then max (nAt N z) (nAt O z) else nAt N z) ∧ N'.length ≤ 201 ∧ ExtB own h hh ∧ (∀ z, z ∈ own' → z ∈ own ∨ h.n ≤ z) ∧ l = [(0, ptrV b), (1, ptrV bo), (4, iV (i : Nat))]) (n := O.length) ?_ fun k l hh hI => ?_
  · exact ⟨0, N, own, by omega, by omega, x, o, fun z => by rw [if_neg (by omega)], hl, .refl _ _, fun z hz => .inl hz, rfl⟩
  · obtain ⟨i, N', own', hi, rfl, xd, od, hat, hl', hx, hown, rfl⟩ := hI
    obtain ⟨a, ht, hel⟩ := od.top
    refine w_seq ?_
    refine w_seq ?_
    refine w_region (by kernel_rfl) ?_
    refine o_move gn rfl rfl ?_
    refine o_move gn rfl rfl ?_
    refine o_nilCheck gn rfl rfl ?_
    refine o_fieldAddr (off := 0) gn rfl rfl (by kernel_rfl) ?_
    refine o_load gn rfl rfl (by kernel_rfl) (by assumption) rfl ?_
    refine o_len gn rfl rfl (by kernel_rfl) ?_
    refine o_lss gn rfl rfl rfl ?_
    refine wl_end ?_
    refine w_cond rfl (fun hb => ?_) fun hb => ?_
    · skip
      have hlt : i < O.length := by rw [hlo2] at hb; simpa using hb
      obtain ⟨bb, m, rfl, hg⟩ := hel (by omega)
      have hxn := hx.n
      refine w_skip ?_
      refine w_seq ?_
      refine w_block ?_
      refine w_draw [(0, []), (1, []), (2, []), (3, []), (4, []), (5, []), (6, []), (7, []), (8, []), (9, []), (10, []), (11, [5, 8]), (12, []), (13, [])] (by kernel_rfl) (by kernel_rfl) (by kernel_rfl) (by kernel_rfl) ?_
      refine o_move gn rfl rfl ?_
      refine o_move gn rfl rfl ?_
      refine o_move gn rfl rfl ?_
      refine o_nilCheck gn rfl rfl ?_
      refine o_fieldAddr (off := 0) gn rfl rfl (by kernel_rfl) ?_
      refine o_load gn rfl rfl (by kernel_rfl) (by assumption) rfl ?_
      refine o_move gn rfl rfl ?_
      refine o_indexAddr (zz := 1) gn rfl rfl rfl (by kernel_rfl) (by omega) (by omega) ?_
      refine o_load gn rfl rfl (by kernel_rfl) hg (is_at i hlt (by omega)) ?_
      refine o_move gn rfl rfl ?_
      refine o_move gn rfl rfl ?_
      refine o_call [_, _] gn rfl rfl (by kernel_rfl) rfl (c_pure (c39 xd) ⟨(ag1 (ag_load gn rfl (by kernel_rfl) (by assumption) rfl rfl same_slice) (ag1 (ag_load gn rfl (by kernel_rfl) hg (is_at i hlt (by omega)) rfl same_int) ag0)), ?_⟩)
      refine o_max gn rfl rfl rfl ?_
      refine o_call [_, _, _] gn rfl rfl (by kernel_rfl) rfl (C.mono (c38 (ch := (i : Int)) xd (by omega) hl') ?_)
      rintro v1 h1 ⟨own1, x1, g1, f1⟩
      refine ⟨ag0, ?_⟩
      refine wl_end ?_
      refine w_region (by kernel_rfl) ?_
      refine o_move gn rfl rfl ?_
      refine o_add gn rfl rfl rfl (by omega) (by omega) ?_
      refine o_assign gn rfl rfl ?_
      refine wl_end ?_
      have hdo : ∀ z, z ∈ oo → z ∉ own' := fun z hz hw => by
        rcases hown z hw with h9 | h9
        · exact hd z h9 hz
        · have := hoo z hz; omega
      exact ⟨O.length - (i + 1), by omega, [(0, _), (1, _), (4, iV ((i + 1 : Nat) : Int))], (by repeat (first | exact trivial | refine ⟨rfl, ?_⟩)), i + 1, _, own1, by omega, rfl, x1, od.keep g1 hdo, fun z => by
        have h0 := hO (i : Nat)
        rw [setN_at, setA, if_neg (by omega)]
        by_cases e : z = (i : Int)
        · subst e
          rw [if_pos rfl, if_pos (by omega), hat, if_neg (by omega), Int.max_comm]
        · rw [if_neg e, hat]
          by_cases e2 : 0 ≤ z ∧ z < i
          · rw [if_pos e2, if_pos (by omega)]
          · rw [if_neg e2, if_neg (by omega)], setN_len hl' (by omega), hx.join g1 hown, fun z hz => by
        rcases f1 z hz with h9 | h9
        · exact hown z h9
        · exact .inr (by omega), rfl⟩
    · skip
      refine w_exit ?_
      refine thn_exit ?_
      refine rnd_exit ?_
      refine blk_eq ?_
      refine ⟨.inr rfl, _, rfl, ?_⟩
      have hge : i = O.length := by rw [hlo2] at hb; simp at hb; omega
      subst hge
      refine ⟨N', own', xd, ?_, hl', hx, hown⟩
      funext z
      rw [hat, maxA]
      have h0 := hN z
      split
      · rfl
      · rename_i hz
        rw [nAt_out (N := O) (k := z) (by omega)]
        omega

/-- Covers -/
theorem c12 (x : DocAt h b N own) (o : DocAt h bo O oo) (hlo : O.length ≤ 201) (hN : ∀ z, 0 ≤ nAt N z) : CP clkE 12 [ptrV b, ptrV bo] h (.bool (covD (nAt N) (nAt O))) := by
  have hlo2 : (isV O).length = O.length := by simp
  obtain ⟨a, ht, hel⟩ := o.top
  refine c_enter (fu := Try.f12) (by kernel_rfl) rfl ?_
  refine w_seq ?_
  refine w_region (by kernel_rfl) ?_
  refine o_assign gn rfl rfl ?_
  refine wl_end ?_
  refine w_seq ?_
  refine w_seq ?_
  refine w_region (by kernel_rfl) ?_
  refine o_assign gn rfl rfl ?_
  refine wl_end ?_
  refine w_block ?_
  refine w_weak [(0, ptrV b), (1, ptrV bo), (5, iV (0 : Nat))] (by repeat (first | exact trivial | refine ⟨rfl, ?_⟩)) ?_
  refine w_loop (fun k l hh => ∃ (i : Nat), i ≤ O.length ∧ k = O.length - i ∧ (∀ j : Nat, j < i → nAt O j ≤ nAt N j) ∧ l = [(0, ptrV b), (1, ptrV bo), (5, iV (i : Nat))] ∧ hh = h) (n := O.length) ?_ fun k l hh hI => ?_
  · exact ⟨0, by omega, by omega, fun j hj => by omega, rfl, rfl⟩
  · obtain ⟨i, hi, rfl, hat, rfl, rfl⟩ := hI
    refine w_seq ?_
    refine w_seq ?_
    refine w_region (by kernel_rfl) ?_
    refine o_move gn rfl rfl ?_
    refine o_move gn rfl rfl ?_
    refine o_nilCheck gn rfl rfl ?_
    refine o_fieldAddr (off := 0) gn rfl rfl (by kernel_rfl) ?_
    refine o_load gn rfl rfl (by kernel_rfl) (by assumption) rfl ?_
    refine o_len gn rfl rfl (by kernel_rfl) ?_
    refine o_lss gn rfl rfl rfl ?_
    refine wl_end ?_
    refine w_cond rfl (fun hb => ?_) fun hb => ?_
    · skip
      have hlt : i < O.length := by rw [hlo2] at hb; simpa using hb
      obtain ⟨bb, m, rfl, hg⟩ := hel (by omega)
      refine w_skip ?_
      refine w_seq ?_
      refine w_block ?_
      refine w_seq ?_
      refine w_region (by kernel_rfl) ?_
      refine o_move gn rfl rfl ?_
      refine o_move gn rfl rfl ?_
      refine o_move gn rfl rfl ?_
      refine o_nilCheck gn rfl rfl ?_
      refine o_fieldAddr (off := 0) gn rfl rfl (by kernel_rfl) ?_
      refine o_load gn rfl rfl (by kernel_rfl) (by assumption) rfl ?_
      refine o_move gn rfl rfl ?_
      refine o_indexAddr (zz := 1) gn rfl rfl rfl (by kernel_rfl) (by omega) (by omega) ?_
      refine o_load gn rfl rfl (by kernel_rfl) hg (is_at i hlt (by omega)) ?_
      refine o_call [_, _, _] gn rfl rfl (by kernel_rfl) rfl (c_pure (c40 x) ⟨ag0, ?_⟩)
      refine o_not gn rfl rfl ?_
      refine wl_end ?_
      refine w_cond rfl (fun hb => ?_) fun hb => ?_
      · skip
        refine w_seq ?_
        refine w_region (by kernel_rfl) ?_
        refine o_assign gn rfl rfl ?_
        refine wl_end ?_
        refine w_ret ?_
        refine ⟨.inl rfl, _, rfl, ?_⟩
        have : covD (nAt N) (nAt O) = false := by
          cases hq : covD (nAt N) (nAt O) with
          | false => rfl
          | true =>
            have := covD_iff.1 hq i
            simp at hb
            omega
        exact ⟨by rw [this]; rfl, rfl⟩
      · skip
        refine w_skip ?_
        refine w_region (by kernel_rfl) ?_
        refine o_move gn rfl rfl ?_
        refine o_add gn rfl rfl rfl (by omega) (by omega) ?_
        refine o_assign gn rfl rfl ?_
        refine wl_end ?_
        exact ⟨O.length - (i + 1), by omega, [(0, _), (1, _), (5, iV ((i + 1 : Nat) : Int))], (by repeat (first | exact trivial | refine ⟨rfl, ?_⟩)), i + 1, by omega, rfl, fun j hj => by
          by_cases e : j = i
          · subst e
            have := hN j
            simp at hb
            omega
          · exact hat j (by omega), rfl, rfl⟩
    · skip
      refine w_exit ?_
      refine thn_exit ?_
      refine rnd_exit ?_
      refine blk_eq ?_
      refine w_seq ?_
      refine w_region (by kernel_rfl) ?_
      refine o_assign gn rfl rfl ?_
      refine wl_end ?_
      refine w_ret ?_
      refine ⟨.inl rfl, _, rfl, ?_⟩
      have hge : i = O.length := by rw [hlo2] at hb; simp at hb; omega
      have : covD (nAt N) (nAt O) = true := covD_iff.2 fun z => by
        by_cases e : z < 0 ∨ O.length ≤ z
        · rw [nAt_out e]; exact hN z
        · have := hat z.toNat (by omega)
          rwa [Int.toNat_of_nonneg (by omega)] at this
      exact ⟨by rw [this]; rfl, rfl⟩

/-- Same -/
theorem c14 (x : DocAt h b N own) (o : DocAt h bo O oo) (hl : N.length ≤ 201) (hlo : O.length ≤ 201) (hN : ∀ z, 0 ≤ nAt N z) (hO : ∀ z, 0 ≤ nAt O z) : CP clkE 14 [ptrV b, ptrV bo] h (.bool (eqD (nAt N) (nAt O))) := by
  refine c_enter (fu := Try.f14) (by kernel_rfl) rfl ?_
  refine w_seq ?_
  refine w_region (by kernel_rfl) ?_
  refine o_assign gn rfl rfl ?_
  refine wl_end ?_
  refine w_seq ?_
  refine w_region (by kernel_rfl) ?_
  refine o_move gn rfl rfl ?_
  refine o_move gn rfl rfl ?_
  refine o_call [_, _] gn rfl rfl (by kernel_rfl) rfl (c_pure (c12 x o hlo hN) ⟨ag0, ?_⟩)
  refine o_move gn rfl rfl ?_
  refine o_and (n := 3) rfl rfl rfl gn rfl (fun hb => by
      refine o_move (gy rfl rfl rfl hb) rfl rfl ?_
      refine o_move (gy rfl rfl rfl hb) rfl rfl ?_
      refine o_call [_, _] (gy rfl rfl rfl hb) rfl rfl (by kernel_rfl) rfl (c_pure (c12 o x hl hO) ⟨ag0, ?_⟩)
      exact wl_end ⟨rfl, rfl, 3, rfl, rfl⟩) ?_
  refine o_assign gn rfl rfl ?_
  refine wl_end ?_
  refine w_ret ?_
  refine ⟨.inl rfl, _, rfl, ?_⟩
  refine ⟨?_, rfl⟩
  have : (covD (nAt N) (nAt O) && covD (nAt O) (nAt N)) = eqD (nAt N) (nAt O) := by
    rw [Bool.eq_iff_iff, Bool.and_eq_true, covD_iff, covD_iff, eqD_iff]
    exact ⟨fun ⟨p, q⟩ => funext fun i => Int.le_antisymm (q i) (p i), fun e => by rw [e]; exact ⟨fun _ => Int.le_refl _, fun _ => Int.le_refl _⟩⟩
  rw [← this]; rfl
end

end Go.Proofs.Ytkhnhaijnnpjhaa


namespace Go.Proofs.Ytkhnhaijnnpjhaa
open Go.X

def ActsK (h : Hp) (a : Option Addr) (n : Nat) : Prop :=
  n = 0 ∨ ∃ bb oo cs e m, a = some ⟨bb, oo, none⟩ ∧ h.get bb = some (.cells cs e m) ∧ bb < h.n ∧
    ∀ i, i < n → oo + i * 2 + 2 ≤ cs.length ∧ ∃ kd ii : Int, (cs.drop (oo + i * 2)).take 2 = [iV kd, iV ii] ∧ ii ≤ 9223372036854775807
theorem ActsK.ext {h h' : Hp} {a : Option Addr} {n : Nat} (x : ActsK h a n) (g : Ext h h') : ActsK h' a n := by
  rcases x with x | ⟨bb, oo, cs, e, m, e1, hg, hb, r⟩
  · exact .inl x
  · exact .inr ⟨bb, oo, cs, e, m, e1, (g.get bb hb).trans hg, Nat.lt_of_lt_of_le hb g.n, r⟩
theorem two_at {cs : List Value} {o : Nat} {a c : Value} (e : (cs.drop o).take 2 = [a, c]) : cs[o]? = some a ∧ cs[o + 1]? = some c := by
  have h0 : ((cs.drop o).take 2)[0]? = some a := by rw [e]; rfl
  have h1 : ((cs.drop o).take 2)[1]? = some c := by rw [e]; rfl
  rw [List.getElem?_take_of_lt (by omega), List.getElem?_drop] at h0 h1
  exact ⟨h0, h1⟩

/-- A clock of the program's and one of the document's, of the same marks, apart, not old. -/
structure TwoK (n0 : Nat) (h : Hp) (b d : Nat) (N : List Int) (own od : List Nat) : Prop where
  x : ClkAt h b (nAt N) own
  r : DocAt h d N od
  ap : ∀ i, i ∈ own → i ∉ od
  on : ∀ i, i ∈ own → n0 ≤ i
  dn : ∀ i, i ∈ od → n0 ≤ i
  len : N.length ≤ 201
theorem TwoK.keep {n0 : Nat} {h h' : Hp} {b d : Nat} {N : List Int} {own od cs : List Nat} (t : TwoK n0 h b d N own od) (g : ExtB cs h h') (h1 : ∀ i, i ∈ own → i ∉ cs) (h2 : ∀ i, i ∈ od → i ∉ cs) : TwoK n0 h' b d N own od :=
  ⟨t.x.keep g h1, t.r.keep g h2, t.ap, t.on, t.dn, t.len⟩
theorem TwoK.ext {n0 : Nat} {h h' : Hp} {b d : Nat} {N : List Int} {own od : List Nat} (t : TwoK n0 h b d N own od) (g : Ext h h') : TwoK n0 h' b d N own od := t.keep (g.b []) (by simp) (by simp)
theorem TwoK.pos {n0 : Nat} {h : Hp} {b d : Nat} {N : List Int} {own od : List Nat} (t : TwoK n0 h b d N own od) : ∀ z, 0 ≤ nAt N z := t.x.rng.lo

/-- clocks -/
theorem c7 {h : Hp} {a3 : Option Addr} {n3 c3 : Nat} (hA : ActsK h a3 n3) :
    C clkE 7 [.slice a3 n3 c3] h fun v h' => Ext h h' ∧ ∃ p s ok, v = .tuple #[p, s, .bool ok] ∧ (ok = true → ∃ b d N own od, p = ptrV b ∧ s = ptrV d ∧ TwoK h.n h' b d N own od) := by
  refine c_enter (fu := Try.f7) (by kernel_rfl) rfl ?_
  refine w_seq ?_
  refine w_region (by kernel_rfl) ?_
  refine o_assign gn rfl rfl ?_
  refine o_assign gn rfl rfl ?_
  refine o_assign gn rfl rfl ?_
  refine wl_end ?_
  refine w_seq ?_
  refine w_region (by kernel_rfl) ?_
  refine o_call [] gn rfl rfl (by kernel_rfl) rfl (C.mono (c31) ?_)
  rintro v1 h1 ⟨b, own, rfl, xa, fa, x1⟩
  refine ⟨ag0, ?_⟩
  refine o_build (zv := .agg #[.slice none 0 0]) (pl := [(0, 1)]) [] gn rfl (by kernel_rfl) (by kernel_rfl) rfl rfl ?_
  refine o_box gn rfl rfl ?_
  refine wl_at (fun h2 => h2.get h1.n = some (.cells [.slice none 0 0] 71 0) ∧ Ext h1 h2 ∧ h2.n = h1.n + 1) ⟨Hp.get_alloc_self _ _, Ext.alloc _ _, Hp.n_alloc _ _⟩ fun h2 ⟨g2, x2, n2⟩ => ?_
  have hx1 := x1.n
  have e0 : (fun _ => 0 : Int → Int) = nAt [] := by funext z; simp [nAt]
  rw [e0] at xa
  have t0 : TwoK h.n h2 b h1.n [] own [h1.n] := ⟨xa.ext x2, ⟨_, [], ⟨g2, .inl ⟨rfl, rfl, rfl⟩, by omega, by simp⟩, rfl⟩, fun i hi hj => by have := xa.lt i hi; simp at hj; omega, fa, fun i hi => by simp at hi; omega, by simp⟩
  refine o_assign gn rfl rfl ?_
  refine o_assign gn rfl rfl ?_
  refine wl_end ?_
  refine w_seq ?_
  refine w_seq ?_
  refine w_region (by kernel_rfl) ?_
  refine o_move gn rfl rfl ?_
  refine o_len gn rfl rfl (by kernel_rfl) ?_
  refine o_gtr gn rfl rfl rfl ?_
  refine wl_end ?_
  refine w_cond rfl (fun hb => ?_) fun hb => ?_
  · skip
    refine w_seq ?_
    refine w_region (by kernel_rfl) ?_
    refine o_assign gn rfl rfl ?_
    refine o_assign gn rfl rfl ?_
    refine o_assign gn rfl rfl ?_
    refine wl_end ?_
    refine w_ret ?_
    refine ⟨.inl rfl, _, rfl, ?_⟩
    exact ⟨x1.trans x2, _, _, _, rfl, fun e => by cases e⟩
  · skip
    have hsm : n3 ≤ 40 := by simp at hb; omega
    refine w_skip ?_
    refine w_seq ?_
    refine w_seq ?_
    refine w_region (by kernel_rfl) ?_
    refine o_assign gn rfl rfl ?_
    refine wl_end ?_
    refine w_block ?_
    refine w_weak [(0, .slice a3 n3 c3), (5, ptrV b), (6, ptrV h1.n), (7, iV 0)] (by repeat (first | exact trivial | refine ⟨rfl, ?_⟩)) ?_
    refine w_loop (fun k l hh => ∃ (i : Int) (N : List Int) (od : List Nat), 0 ≤ i ∧ i ≤ n3 ∧ k = (n3 - i).toNat ∧ TwoK h.n hh b h1.n N own od ∧ Ext h hh ∧ l = [(0, .slice a3 n3 c3), (5, ptrV b), (6, ptrV h1.n), (7, iV i)]) (n := (n3 - (0 : Int)).toNat) ?_ fun k l hh hI => ?_
    · exact ⟨0, [], [h1.n], by omega, by omega, rfl, t0, x1.trans x2, rfl⟩
    · obtain ⟨i, N, od, hi0, hi1, rfl, ht, hx, rfl⟩ := hI
      refine w_seq ?_
      refine w_seq ?_
      refine w_region (by kernel_rfl) ?_
      refine o_move gn rfl rfl ?_
      refine o_move gn rfl rfl ?_
      refine o_len gn rfl rfl (by kernel_rfl) ?_
      refine o_lss gn rfl rfl rfl ?_
      refine wl_end ?_
      refine w_cond rfl (fun hb => ?_) fun hb => ?_
      · skip
        have hlt : i < n3 := by simpa using hb
        rcases hA with h0 | ⟨bb, oo, cs, e, mm, rfl, hg, hbb, hall⟩
        · omega
        obtain ⟨hfit, kd, ii, hrow, hii⟩ := hall i.toNat (by omega)
        obtain ⟨r0, r1⟩ := two_at hrow
        have hg2 := (hx.get bb hbb).trans hg
        refine w_skip ?_
        refine w_seq ?_
        refine w_block ?_
        refine w_seq ?_
        refine w_seq ?_
        refine w_region (by kernel_rfl) ?_
        refine o_move gn rfl rfl ?_
        refine o_move gn rfl rfl ?_
        refine o_indexAddr (zz := 2) gn rfl rfl rfl (by kernel_rfl) (by omega) (by omega) ?_
        refine o_fieldAddr (off := 0) gn rfl rfl (by kernel_rfl) ?_
        refine o_load gn rfl rfl (by kernel_rfl) hg2 r0 ?_
        refine o_gtr gn rfl rfl rfl ?_
        refine wl_end ?_
        refine w_cond rfl (fun hb => ?_) fun hb => ?_
        · skip
          refine w_seq ?_
          refine w_region (by kernel_rfl) ?_
          refine o_assign gn rfl rfl ?_
          refine o_assign gn rfl rfl ?_
          refine o_assign gn rfl rfl ?_
          refine wl_end ?_
          refine w_ret ?_
          refine ⟨.inl rfl, _, rfl, ?_⟩
          exact ⟨hx, _, _, _, rfl, fun e => by cases e⟩
        · skip
          have hkd : kd ≤ 200 := by simpa using hb
          refine w_skip ?_
          refine w_seq ?_
          refine w_draw [(0, []), (1, []), (2, []), (3, []), (4, []), (5, []), (6, []), (7, []), (8, []), (9, []), (10, []), (11, [])] (by kernel_rfl) (by kernel_rfl) (by kernel_rfl) (by kernel_rfl) ?_
          refine o_move gn rfl rfl ?_
          refine o_move gn rfl rfl ?_
          refine o_move gn rfl rfl ?_
          refine o_indexAddr (zz := 2) gn rfl rfl rfl (by kernel_rfl) (by omega) (by omega) ?_
          refine o_fieldAddr (off := 0) gn rfl rfl (by kernel_rfl) ?_
          refine o_load gn rfl rfl (by kernel_rfl) hg2 r0 ?_
          refine o_move gn rfl rfl ?_
          refine o_move gn rfl rfl ?_
          refine o_indexAddr (zz := 2) gn rfl rfl rfl (by kernel_rfl) (by omega) (by omega) ?_
          refine o_fieldAddr (off := 1) gn rfl rfl (by kernel_rfl) ?_
          refine o_load gn rfl rfl (by kernel_rfl) hg2 r1 ?_
          refine o_call [_, _, _] gn rfl rfl (by kernel_rfl) rfl (C.mono (c30 ht.x hkd hii) ?_)
          rintro v5 h5 ⟨xa5, g5⟩
          have hg5 := (g5.get bb (Nat.lt_of_lt_of_le hbb hx.n) (fun hm => by have := ht.on _ hm; omega)).trans hg2
          refine ⟨ag0, ?_⟩
          refine wl_end ?_
          refine w_draw [(0, []), (1, []), (2, []), (3, []), (4, []), (5, []), (6, []), (7, []), (8, []), (9, []), (10, []), (11, [])] (by kernel_rfl) (by kernel_rfl) (by kernel_rfl) (by kernel_rfl) ?_
          refine o_move gn rfl rfl ?_
          refine o_move gn rfl rfl ?_
          refine o_move gn rfl rfl ?_
          refine o_indexAddr (zz := 2) gn rfl rfl rfl (by kernel_rfl) (by omega) (by omega) ?_
          refine o_fieldAddr (off := 0) gn rfl rfl (by kernel_rfl) ?_
          refine o_load gn rfl rfl (by kernel_rfl) hg5 r0 ?_
          refine o_move gn rfl rfl ?_
          refine o_move gn rfl rfl ?_
          refine o_indexAddr (zz := 2) gn rfl rfl rfl (by kernel_rfl) (by omega) (by omega) ?_
          refine o_fieldAddr (off := 1) gn rfl rfl (by kernel_rfl) ?_
          refine o_load gn rfl rfl (by kernel_rfl) hg5 r1 ?_
          refine o_call [_, _, _] gn rfl rfl (by kernel_rfl) rfl (C.mono (c38 (ht.r.keep g5 fun z hz hj => ht.ap z hj hz) hkd ht.len) ?_)
          rintro v6 h6 ⟨od6, ra6, g6, f6⟩
          have g5n := g5.n
          refine ⟨ag0, ?_⟩
          refine wl_end ?_
          refine w_region (by kernel_rfl) ?_
          refine o_move gn rfl rfl ?_
          refine o_add gn rfl rfl rfl (by omega) (by omega) ?_
          refine o_assign gn rfl rfl ?_
          refine wl_end ?_
          exact ⟨(n3 - (i + 1)).toNat, by omega, _, (by repeat (first | exact trivial | refine ⟨rfl, ?_⟩)), i + 1, setN N kd ii, od6, by omega, by omega, rfl, ⟨by rw [setN_at]; exact xa5.keep g6 ht.ap, ra6, fun z hz hj => by
            rcases f6 z hj with h9 | h9
            · exact ht.ap z hz h9
            · have := xa5.lt z hz; omega, ht.on, fun z hz => by
            rcases f6 z hz with h9 | h9
            · exact ht.dn z h9
            · have := hx.n; omega, setN_len ht.len hkd⟩, (hx.of g5 ht.on).of g6 ht.dn, rfl⟩
      · skip
        refine w_exit ?_
        refine thn_exit ?_
        refine rnd_exit ?_
        refine blk_eq ?_
        refine w_seq ?_
        refine w_region (by kernel_rfl) ?_
        refine o_move gn rfl rfl ?_
        refine o_move gn rfl rfl ?_
        refine o_assign gn rfl rfl ?_
        refine o_assign gn rfl rfl ?_
        refine o_assign gn rfl rfl ?_
        refine wl_end ?_
        refine w_ret ?_
        refine ⟨.inl rfl, _, rfl, ?_⟩
        exact ⟨hx, _, _, _, rfl, fun _ => ⟨b, h1.n, N, own, od, rfl, rfl, ht⟩⟩

/-- same -/
theorem c9 {h : Hp} {b d : Nat} {N : List Int} {own od : List Nat} {ch n : Int} (x : ClkAt h b (nAt N) own) (r : DocAt h d N od) (hl : N.length ≤ 201) : CP clkE 9 [ptrV b, ptrV d, iV ch, iV n] h (.bool true) := by
  obtain ⟨a, ht, _⟩ := r.top
  have hlo2 : (isV N).length = N.length := by simp
  refine c_enter (fu := Try.f9) (by kernel_rfl) rfl ?_
  refine w_seq ?_
  refine w_region (by kernel_rfl) ?_
  refine o_assign gn rfl rfl ?_
  refine wl_end ?_
  refine w_seq ?_
  refine w_seq ?_
  refine w_region (by kernel_rfl) ?_
  refine o_assign gn rfl rfl ?_
  refine wl_end ?_
  refine w_block ?_
  refine w_weak [(0, ptrV b), (1, ptrV d), (2, iV ch), (3, iV n), (9, iV (-1))] (by repeat (first | exact trivial | refine ⟨rfl, ?_⟩)) ?_
  refine w_loop (fun k l hh => ∃ (i : Int), -1 ≤ i ∧ i ≤ N.length + 1 ∧ k = (N.length + 1 - i).toNat ∧ l = [(0, ptrV b), (1, ptrV d), (2, iV ch), (3, iV n), (9, iV i)] ∧ hh = h) (n := (N.length + 2)) ?_ fun k l hh hI => ?_
  · exact ⟨-1, by omega, by omega, by omega, rfl, rfl⟩
  · obtain ⟨i, hi0, hi1, rfl, rfl, rfl⟩ := hI
    refine w_seq ?_
    refine w_seq ?_
    refine w_region (by kernel_rfl) ?_
    refine o_move gn rfl rfl ?_
    refine o_move gn rfl rfl ?_
    refine o_nilCheck gn rfl rfl ?_
    refine o_fieldAddr (off := 0) gn rfl rfl (by kernel_rfl) ?_
    refine o_load gn rfl rfl (by kernel_rfl) (by assumption) rfl ?_
    refine o_len gn rfl rfl (by kernel_rfl) ?_
    refine o_leq gn rfl rfl rfl ?_
    refine wl_end ?_
    refine w_cond rfl (fun hb => ?_) fun hb => ?_
    · skip
      have hlt : i ≤ N.length := by rw [hlo2] at hb; simpa using hb
      refine w_skip ?_
      refine w_seq ?_
      refine w_block ?_
      refine w_seq ?_
      refine w_region (by kernel_rfl) ?_
      refine o_move gn rfl rfl ?_
      refine o_move gn rfl rfl ?_
      refine o_call [_, _] gn rfl rfl (by kernel_rfl) rfl (c_pure (c33 x) ⟨ag0, ?_⟩)
      refine o_move gn rfl rfl ?_
      refine o_move gn rfl rfl ?_
      refine o_call [_, _] gn rfl rfl (by kernel_rfl) rfl (c_pure (c39 r) ⟨ag0, ?_⟩)
      refine o_nei gn rfl rfl rfl ?_
      refine wl_end ?_
      refine w_cond rfl (fun hb => ?_) fun hb => ?_
      · skip
        refine w_seq ?_
        refine w_region (by kernel_rfl) ?_
        refine o_assign gn rfl rfl ?_
        refine wl_end ?_
        refine w_ret ?_
        refine ⟨.inl rfl, _, rfl, ?_⟩
        simp at hb
      · skip
        refine w_skip ?_
        refine w_region (by kernel_rfl) ?_
        refine o_move gn rfl rfl ?_
        refine o_add gn rfl rfl rfl (by omega) (by omega) ?_
        refine o_assign gn rfl rfl ?_
        refine wl_end ?_
        exact ⟨((N.length + 1 - (i + 1)).toNat), by omega, _, (by repeat (first | exact trivial | refine ⟨rfl, ?_⟩)), ⟨i + 1, by omega, by omega, rfl, rfl, rfl⟩⟩
    · skip
      refine w_exit ?_
      refine thn_exit ?_
      refine rnd_exit ?_
      refine blk_eq ?_
      refine w_seq ?_
      refine w_region (by kernel_rfl) ?_
      refine o_move gn rfl rfl ?_
      refine o_move gn rfl rfl ?_
      refine o_call [_, _] gn rfl rfl (by kernel_rfl) rfl (c_pure (c33 x) ⟨ag0, ?_⟩)
      refine o_move gn rfl rfl ?_
      refine o_move gn rfl rfl ?_
      refine o_call [_, _] gn rfl rfl (by kernel_rfl) rfl (c_pure (c39 r) ⟨ag0, ?_⟩)
      refine o_eqi gn rfl rfl rfl ?_
      refine o_move gn rfl rfl ?_
      refine o_and (n := 9) rfl rfl rfl gn rfl (fun hb => by
          refine o_move (gy rfl rfl rfl hb) rfl rfl ?_
          refine o_move (gy rfl rfl rfl hb) rfl rfl ?_
          refine o_move (gy rfl rfl rfl hb) rfl rfl ?_
          refine o_call [_, _, _] (gy rfl rfl rfl hb) rfl rfl (by kernel_rfl) rfl (c_pure (c34 x) ⟨ag0, ?_⟩)
          refine o_move (gy rfl rfl rfl hb) rfl rfl ?_
          refine o_move (gy rfl rfl rfl hb) rfl rfl ?_
          refine o_move (gy rfl rfl rfl hb) rfl rfl ?_
          refine o_call [_, _, _] (gy rfl rfl rfl hb) rfl rfl (by kernel_rfl) rfl (c_pure (c40 r) ⟨ag0, ?_⟩)
          refine o_eqb (gy rfl rfl rfl hb) rfl rfl rfl (by kernel_rfl) ?_
          exact wl_end ⟨rfl, rfl, 9, rfl, rfl⟩) ?_
      refine o_assign gn rfl rfl ?_
      refine wl_end ?_
      refine w_ret ?_
      refine ⟨.inl rfl, _, rfl, ?_⟩
      exact ⟨by simp [oneOf], rfl⟩

end Go.Proofs.Ytkhnhaijnnpjhaa


namespace Go.Proofs.Ytkhnhaijnnpjhaa
open Go.X

/-- Chains: their marks, and whether they are open. -/
abbrev Cs := List (Int × Bool)
def chC (L : Cs) : List Value := L.flatMap fun x => [iV x.1, .bool x.2]
theorem chC_len : ∀ L : Cs, (chC L).length = L.length * 2
  | [] => rfl
  | x :: r => by
    have e : chC (x :: r) = [iV x.1, .bool x.2] ++ chC r := rfl
    rw [e, List.length_append, chC_len r, List.length_cons]; simp; omega
theorem chC_all (L : Cs) : (chC L).all cellV = true := by
  simp [chC, List.all_eq_true, cellV]
theorem chC_append (L K : Cs) : chC (L ++ K) = chC L ++ chC K := by simp [chC]
theorem chC_at : ∀ (L : Cs) (i : Nat) (h : i < L.length), (chC L)[i * 2]? = some (iV L[i].1) ∧ (chC L)[i * 2 + 1]? = some (.bool L[i].2)
  | x :: r, 0, _ => ⟨rfl, rfl⟩
  | x :: r, i + 1, h => by
    have e : chC (x :: r) = iV x.1 :: .bool x.2 :: chC r := rfl
    have := chC_at r i (by simpa using h)
    rw [e, show (i + 1) * 2 = i * 2 + 1 + 1 by omega, show i * 2 + 1 + 1 + 1 = (i * 2 + 1) + 1 + 1 by omega]
    simpa using this
theorem chC_take : ∀ (L : Cs) (i : Nat) (h : i < L.length), ((chC L).drop (i * 2)).take 2 = [iV L[i].1, .bool L[i].2]
  | x :: r, 0, _ => rfl
  | x :: r, i + 1, h => by
    have e : chC (x :: r) = iV x.1 :: .bool x.2 :: chC r := rfl
    rw [e, show (i + 1) * 2 = i * 2 + 1 + 1 by omega]
    exact chC_take r i (by simpa using h)
theorem chC_set0 : ∀ (L : Cs) (i : Nat) (h : i < L.length) (n : Int), (chC L).set (i * 2) (iV n) = chC (L.set i (n, L[i].2))
  | x :: r, 0, _, _ => rfl
  | x :: r, i + 1, h, n => by
    have e : chC (x :: r) = iV x.1 :: .bool x.2 :: chC r := rfl
    rw [e, show (i + 1) * 2 = i * 2 + 1 + 1 by omega, List.set_cons_succ, List.set_cons_succ, chC_set0 r i (by simpa using h) n]
    rfl
theorem chC_set1 : ∀ (L : Cs) (i : Nat) (h : i < L.length) (o : Bool), (chC L).set (i * 2 + 1) (.bool o) = chC (L.set i (L[i].1, o))
  | x :: r, 0, _, _ => rfl
  | x :: r, i + 1, h, n => by
    have e : chC (x :: r) = iV x.1 :: .bool x.2 :: chC r := rfl
    rw [e, show (i + 1) * 2 + 1 = (i * 2 + 1) + 1 + 1 by omega, List.set_cons_succ, List.set_cons_succ, chC_set1 r i (by simpa using h) n]
    rfl

theorem el76 : ElN clkE 67 76 1 15 := ⟨by kernel_rfl, by kernel_rfl, by kernel_rfl, .agg #[.int .i64 0, .bool false], by kernel_rfl, rfl⟩

def thB (L : Cs) (i : Int) : Bool := decide (0 ≤ i) && decide (i < L.length)
def mkL (L : Cs) (i : Int) : Int := if 0 ≤ i then ((L[i.toNat]?).getD (0, false)).1 else 0
def opL (L : Cs) (i : Int) : Bool := if 0 ≤ i then ((L[i.toNat]?).getD (0, false)).2 else false
theorem mkL_get {L : Cs} {i : Nat} (h : i < L.length) : mkL L (i : Nat) = L[i].1 := by
  rw [mkL, if_pos (by omega), Int.toNat_natCast, List.getElem?_eq_getElem h]; rfl
theorem opL_get {L : Cs} {i : Nat} (h : i < L.length) : opL L (i : Nat) = L[i].2 := by
  rw [opL, if_pos (by omega), Int.toNat_natCast, List.getElem?_eq_getElem h]; rfl
theorem thB_no {L : Cs} {i : Int} (h : thB L i = false) : mkL L i = 0 ∧ opL L i = false := by
  have : i < 0 ∨ (L.length : Int) ≤ i := by simp [thB] at h; omega
  unfold mkL opL
  split
  · rw [List.getElem?_eq_none (by omega)]; exact ⟨rfl, rfl⟩
  · exact ⟨rfl, rfl⟩
theorem thB_yes {L : Cs} {i : Int} (h : thB L i = true) : 0 ≤ i ∧ i.toNat < L.length := by
  simp [thB] at h; omega
def setM (L : Cs) (i : Int) (n : Int) : Cs := L.set i.toNat (n, opL L i)
def setO (L : Cs) (i : Int) (o : Bool) : Cs := L.set i.toNat (mkL L i, o)

structure ChR (h : Hp) (b : Nat) (L : Cs) (s : Value) (B : List Nat) : Prop where
  top : h.get b = some (.cells [s] 69 0)
  row : SlN 76 1 h s (chC L) L.length B
  lt : b < h.n
  nb : b ∉ B
def ChAt (h : Hp) (b : Nat) (L : Cs) (own : List Nat) : Prop := ∃ s B, ChR h b L s B ∧ own = b :: B

section
variable {h h' : Hp} {b bo bk : Nat} {L K : Cs} {s : Value} {B own oo ok cs : List Nat} {A : Int → Int} {i : Int}

theorem ChR.keep (x : ChR h b L s B) (g : ExtB cs h h') (hd : ∀ i, i ∈ b :: B → i ∉ cs) : ChR h' b L s B :=
  ⟨by rw [g.get b x.lt (hd b (by simp))]; exact x.top, x.row.keep g fun i hi => hd i (by simp [hi]), Nat.lt_of_lt_of_le x.lt g.n, x.nb⟩
theorem ChAt.keep (x : ChAt h b L own) (g : ExtB cs h h') (hd : ∀ i, i ∈ own → i ∉ cs) : ChAt h' b L own := by
  obtain ⟨s, B, x, rfl⟩ := x; exact ⟨s, B, x.keep g hd, rfl⟩
theorem ChAt.ext (x : ChAt h b L own) (g : Ext h h') : ChAt h' b L own := x.keep (g.b []) (by simp)
theorem ChAt.lt (x : ChAt h b L own) : ∀ i, i ∈ own → i < h.n := by
  obtain ⟨s, B, x, rfl⟩ := x
  intro i hi
  rcases List.mem_cons.1 hi with rfl | hi
  · exact x.lt
  · exact x.row.lt i hi
theorem ChAt.top (x : ChAt h b L own) : ∃ a, h.get b = some (.cells [.slice a L.length L.length] 69 0) ∧ (0 < L.length → ∃ bb m, a = some ⟨bb, 0, none⟩ ∧ h.get bb = some (.cells (chC L) 76 m) ∧ m ≠ 1 ∧ bb ∈ own ∧ bb ≠ b ∧ bb < h.n) := by
  obtain ⟨s, B, x, rfl⟩ := x
  obtain ⟨a, rfl⟩ := x.row.val
  refine ⟨a, x.top, fun hn => ?_⟩
  obtain ⟨bb, m, ea, hg, hm, hlt, hB, _⟩ := x.row.at hn
  simp only [Value.slice.injEq, and_true] at ea
  exact ⟨bb, m, ea, hg, by omega, by simp [hB], fun e => x.nb (by rw [hB, e]; simp), hlt⟩
/-- The same chains' block written. -/
theorem ChAt.put (x : ChAt h b L own) {bb m : Nat} (hm : ∃ a, h.get b = some (.cells [.slice a L.length L.length] 69 0) ∧ a = some ⟨bb, 0, none⟩) (hg : h.get bb = some (.cells (chC L) 76 m)) (hn : 0 < L.length) (hl : K.length = L.length) :
    ChAt (h.put bb (.cells (chC K) 76 m)) b K own := by
  obtain ⟨s, B, x, rfl⟩ := x
  obtain ⟨a, ht, rfl⟩ := hm
  have ht2 := x.top
  rw [ht] at ht2
  simp only [Option.some.injEq, AObj.cells.injEq, List.cons.injEq, and_true] at ht2
  obtain ⟨bb2, m2, ea, hg2, hm2, hlt, hB, _⟩ := x.row.at hn
  have e2 : bb2 = bb := by
    rw [← ht2] at ea
    simp only [Value.slice.injEq, Option.some.injEq, Addr.mk.injEq, and_true] at ea
    exact ea.symm
  subst e2
  have em : m2 = m := by rw [hg2] at hg; cases hg; rfl
  subst em
  have hbb : bb2 ≠ b := fun e => x.nb (by rw [hB, e]; simp)
  exact ⟨_, B, ⟨by rw [Hp.get_put, if_neg hbb]; exact ht, by rw [hB]; exact .inr ⟨bb2, m2, by rw [hl], Hp.get_put_self _ _ _, hm2, by rw [Hp.n_put]; exact hlt, rfl, chC_len K⟩, by rw [Hp.n_put]; exact x.lt, x.nb⟩, rfl⟩

/-- NewChains -/
theorem c18 : C clkE 18 [] h fun v h' => v = ptrV h.n ∧ ChAt h' h.n [] [h.n] ∧ Ext h h' ∧ h'.n = h.n + 1 := by
  refine c_enter (fu := Try.f18) (by kernel_rfl) rfl ?_
  refine w_seq ?_
  refine w_region (by kernel_rfl) ?_
  refine o_assign gn rfl rfl ?_
  refine wl_end ?_
  refine w_seq ?_
  refine w_region (by kernel_rfl) ?_
  refine o_build (zv := .agg #[.slice none 0 0]) (pl := [(0, 1)]) [] gn rfl (by kernel_rfl) (by kernel_rfl) rfl rfl ?_
  refine o_box gn rfl rfl ?_
  refine o_assign gn rfl rfl ?_
  refine wl_end ?_
  refine w_ret ?_
  refine ⟨.inl rfl, _, rfl, ?_⟩
  exact ⟨rfl, ⟨_, [], ⟨Hp.get_alloc_self _ _, .inl ⟨rfl, rfl, rfl, rfl⟩, by rw [Hp.n_alloc]; omega, by simp⟩, rfl⟩, Ext.alloc _ _, Hp.n_alloc _ _⟩

/-- there -/
theorem c42 (x : ChAt h b L own) : CP clkE 42 [ptrV b, iV i] h (.bool (thB L i)) := by
  obtain ⟨a, ht, _⟩ := x.top
  refine c_enter (fu := Try.f42) (by kernel_rfl) rfl ?_
  refine w_seq ?_
  refine w_region (by kernel_rfl) ?_
  refine o_assign gn rfl rfl ?_
  refine wl_end ?_
  refine w_seq ?_
  refine w_region (by kernel_rfl) ?_
  refine o_move gn rfl rfl ?_
  refine o_nep gn rfl rfl rfl (by kernel_rfl) ?_
  refine o_move gn rfl rfl ?_
  refine o_and (n := 2) rfl rfl rfl gn rfl (fun hb => by
      refine o_move (gy rfl rfl rfl hb) rfl rfl ?_
      refine o_geq (gy rfl rfl rfl hb) rfl rfl rfl ?_
      exact wl_end ⟨rfl, rfl, 2, rfl, rfl⟩) ?_
  refine o_move gn rfl rfl ?_
  refine o_and (n := 7) rfl rfl rfl gn rfl (fun hb => by
      refine o_move (gy rfl rfl rfl hb) rfl rfl ?_
      refine o_move (gy rfl rfl rfl hb) rfl rfl ?_
      refine o_nilCheck (gy rfl rfl rfl hb) rfl rfl ?_
      refine o_fieldAddr (off := 0) (gy rfl rfl rfl hb) rfl rfl (by kernel_rfl) ?_
      refine o_load (gy rfl rfl rfl hb) rfl rfl (by kernel_rfl) (by assumption) rfl ?_
      refine o_len (gy rfl rfl rfl hb) rfl rfl (by kernel_rfl) ?_
      refine o_lss (gy rfl rfl rfl hb) rfl rfl rfl ?_
      exact wl_end ⟨rfl, rfl, 7, rfl, rfl⟩) ?_
  refine o_assign gn rfl rfl ?_
  refine wl_end ?_
  refine w_ret ?_
  refine ⟨.inl rfl, _, rfl, ?_⟩
  exact ⟨by simp [oneOf, thB], rfl⟩

/-- Len -/
theorem c35 (x : ChAt h b L own) : CP clkE 35 [ptrV b] h (iV L.length) := by
  obtain ⟨a, ht, _⟩ := x.top
  refine c_enter (fu := Try.f35) (by kernel_rfl) rfl ?_
  refine w_seq ?_
  refine w_region (by kernel_rfl) ?_
  refine o_assign gn rfl rfl ?_
  refine wl_end ?_
  refine w_seq ?_
  refine w_seq ?_
  refine w_region (by kernel_rfl) ?_
  refine o_move gn rfl rfl ?_
  refine o_eqp gn rfl rfl rfl (by kernel_rfl) ?_
  refine wl_end ?_
  refine w_cond rfl (fun hb => ?_) fun hb => ?_
  · skip
    refine w_seq ?_
    refine w_region (by kernel_rfl) ?_
    refine o_assign gn rfl rfl ?_
    refine wl_end ?_
    refine w_ret ?_
    refine ⟨.inl rfl, _, rfl, ?_⟩
    simp at hb
  · skip
    refine w_skip ?_
    refine w_seq ?_
    refine w_region (by kernel_rfl) ?_
    refine o_move gn rfl rfl ?_
    refine o_nilCheck gn rfl rfl ?_
    refine o_fieldAddr (off := 0) gn rfl rfl (by kernel_rfl) ?_
    refine o_load gn rfl rfl (by kernel_rfl) (by assumption) rfl ?_
    refine o_len gn rfl rfl (by kernel_rfl) ?_
    refine o_assign gn rfl rfl ?_
    refine wl_end ?_
    refine w_ret ?_
    refine ⟨.inl rfl, _, rfl, ?_⟩
    exact ⟨rfl, rfl⟩

/-- Count -/
theorem c36 (x : ChAt h b L own) (hl : L.length ≤ 100000) : CP clkE 36 [ptrV b, iV i] h (iV (mkL L i)) := by
  obtain ⟨a, ht, hel⟩ := x.top
  refine c_enter (fu := Try.f36) (by kernel_rfl) rfl ?_
  refine w_seq ?_
  refine w_region (by kernel_rfl) ?_
  refine o_assign gn rfl rfl ?_
  refine wl_end ?_
  refine w_seq ?_
  refine w_seq ?_
  refine w_region (by kernel_rfl) ?_
  refine o_move gn rfl rfl ?_
  refine o_move gn rfl rfl ?_
  refine o_call [_, _] gn rfl rfl (by kernel_rfl) rfl (c_pure (c42 x) ⟨ag0, ?_⟩)
  refine o_not gn rfl rfl ?_
  refine wl_end ?_
  refine w_cond rfl (fun hb => ?_) fun hb => ?_
  · skip
    refine w_seq ?_
    refine w_region (by kernel_rfl) ?_
    refine o_assign gn rfl rfl ?_
    refine wl_end ?_
    refine w_ret ?_
    refine ⟨.inl rfl, _, rfl, ?_⟩
    have hno := thB_no (L := L) (i := i) (by simpa using hb)
    exact ⟨by rw [hno.1]; rfl, rfl⟩
  · skip
    obtain ⟨hi0, hi1⟩ := thB_yes (L := L) (i := i) (by simpa using hb)
    obtain ⟨bb, m, rfl, hg, hm, _⟩ := hel (by omega)
    clear hel
    have hca := (chC_at L i.toNat hi1).1
    refine w_skip ?_
    refine w_seq ?_
    refine w_region (by kernel_rfl) ?_
    refine o_move gn rfl rfl ?_
    refine o_nilCheck gn rfl rfl ?_
    refine o_fieldAddr (off := 0) gn rfl rfl (by kernel_rfl) ?_
    refine o_load gn rfl rfl (by kernel_rfl) (by assumption) rfl ?_
    refine o_move gn rfl rfl ?_
    refine o_indexAddr (zz := 2) gn rfl rfl rfl (by kernel_rfl) (by omega) (by omega) ?_
    refine o_fieldAddr (off := 0) gn rfl rfl (by kernel_rfl) ?_
    refine o_load gn rfl rfl (by kernel_rfl) hg (by simpa using hca) ?_
    refine o_assign gn rfl rfl ?_
    refine wl_end ?_
    refine w_ret ?_
    refine ⟨.inl rfl, _, rfl, ?_⟩
    have : mkL L i = L[i.toNat].1 := by have := mkL_get hi1; rwa [Int.toNat_of_nonneg hi0] at this
    exact ⟨by rw [this]; rfl, rfl⟩

/-- Open -/
theorem c37 (x : ChAt h b L own) (hl : L.length ≤ 100000) : CP clkE 37 [ptrV b, iV i] h (.bool (opL L i)) := by
  obtain ⟨a, ht, hel⟩ := x.top
  refine c_enter (fu := Try.f37) (by kernel_rfl) rfl ?_
  refine w_seq ?_
  refine w_region (by kernel_rfl) ?_
  refine o_assign gn rfl rfl ?_
  refine wl_end ?_
  refine w_seq ?_
  refine w_region (by kernel_rfl) ?_
  refine o_move gn rfl rfl ?_
  refine o_move gn rfl rfl ?_
  refine o_call [_, _] gn rfl rfl (by kernel_rfl) rfl (c_pure (c42 x) ⟨ag0, ?_⟩)
  refine o_move gn rfl rfl ?_
  cases hth : thB L i with
  | false =>
    refine o_and (n := 8) (B := false) rfl rfl rfl gn rfl (fun hb => by cases hb) ?_
    refine o_assign gn rfl rfl ?_
    refine wl_end ?_
    refine w_ret ?_
    refine ⟨.inl rfl, _, rfl, ?_⟩
    exact ⟨by rw [(thB_no hth).2]; rfl, rfl⟩
  | true =>
  obtain ⟨hi0, hi1⟩ := thB_yes hth
  obtain ⟨bb, m, rfl, hg, hm, _⟩ := hel (by omega)
  clear hel
  have hca := (chC_at L i.toNat hi1).2
  refine o_and (n := 8) rfl rfl rfl gn rfl (fun hb => by
      refine o_move (gy rfl rfl rfl hb) rfl rfl ?_
      refine o_nilCheck (gy rfl rfl rfl hb) rfl rfl ?_
      refine o_fieldAddr (off := 0) (gy rfl rfl rfl hb) rfl rfl (by kernel_rfl) ?_
      refine o_load (gy rfl rfl rfl hb) rfl rfl (by kernel_rfl) (by assumption) rfl ?_
      refine o_move (gy rfl rfl rfl hb) rfl rfl ?_
      refine o_indexAddr (zz := 2) (gy rfl rfl rfl hb) rfl rfl rfl (by kernel_rfl) (by omega) (by omega) ?_
      refine o_fieldAddr (off := 1) (gy rfl rfl rfl hb) rfl rfl (by kernel_rfl) ?_
      refine o_load (gy rfl rfl rfl hb) rfl rfl (by kernel_rfl) hg (by simpa using hca) ?_
      exact wl_end ⟨rfl, rfl, 8, rfl, rfl⟩) ?_
  refine o_assign gn rfl rfl ?_
  refine wl_end ?_
  refine w_ret ?_
  refine ⟨.inl rfl, _, rfl, ?_⟩
  have : opL L i = L[i.toNat].2 := by have := opL_get hi1; rwa [Int.toNat_of_nonneg hi0] at this
  exact ⟨by rw [this]; rfl, rfl⟩
end

end Go.Proofs.Ytkhnhaijnnpjhaa


namespace Go.Proofs.Ytkhnhaijnnpjhaa
open Go.X

def canB (L : Cs) (A : Int → Int) (j : Nat) : Bool := !(opL L (j : Int)) && (decide (mkL L (j : Int) < 1) || decide (A (j : Int) ≥ mkL L (j : Int)))
structure BeginAt (L : Cs) (A : Int → Int) (at' : Nat) (L' : Cs) : Prop where
  le : at' ≤ L.length
  no : ∀ j, j < at' → canB L A j = false
  yes : (at' < L.length ∧ canB L A at' = true ∧ L' = setO L (at' : Int) true) ∨ (at' = L.length ∧ L' = L ++ [(0, true)])
theorem BeginAt.eq {L L1 L2 : Cs} {A : Int → Int} {a b : Nat} (x : BeginAt L A a L1) (y : BeginAt L A b L2) : a = b ∧ L1 = L2 := by
  have e : a = b := by
    rcases Nat.lt_trichotomy a b with h | h | h
    · rcases x.yes with ⟨_, h1, _⟩ | ⟨h1, _⟩
      · rw [y.no a h] at h1; cases h1
      · have := y.le; omega
    · exact h
    · rcases y.yes with ⟨_, h1, _⟩ | ⟨h1, _⟩
      · rw [x.no b h] at h1; cases h1
      · have := x.le; omega
  subst e
  refine ⟨rfl, ?_⟩
  rcases x.yes with ⟨h1, _, e1⟩ | ⟨h1, e1⟩ <;> rcases y.yes with ⟨h2, _, e2⟩ | ⟨h2, e2⟩
  · rw [e1, e2]
  · omega
  · omega
  · rw [e1, e2]
theorem setO_len (L : Cs) (i : Int) (o : Bool) : (setO L i o).length = L.length := by simp [setO]
theorem setM_len (L : Cs) (i n : Int) : (setM L i n).length = L.length := by simp [setM]
theorem mk_nat {L : Cs} {i : Int} (h : thB L i = true) : mkL L i = (L[i.toNat]'(thB_yes h).2).1 := by
  obtain ⟨h0, h1⟩ := thB_yes h
  have := mkL_get h1
  rwa [Int.toNat_of_nonneg h0] at this
theorem op_nat {L : Cs} {i : Int} (h : thB L i = true) : opL L i = (L[i.toNat]'(thB_yes h).2).2 := by
  obtain ⟨h0, h1⟩ := thB_yes h
  have := opL_get h1
  rwa [Int.toNat_of_nonneg h0] at this

section
variable {h h' : Hp} {b bo bk : Nat} {L K : Cs} {s s2 : Value} {B B2 own oo ok cs : List Nat} {A : Int → Int} {i : Int}

def endL (L : Cs) (i : Int) : Cs := if thB L i then setO L i false else L
def tickL (L : Cs) (i : Int) : Cs := if thB L i then setM L i (mkL L i + 1) else L
def tickV (L : Cs) (i : Int) : Int := if thB L i then mkL L i + 1 else 0

/-- End -/
theorem c22 (x : ChAt h b L own) (hl : L.length ≤ 100000) : C clkE 22 [ptrV b, iV i] h fun _ h' => ChAt h' b (endL L i) own ∧ ExtB own h h' := by
  obtain ⟨a, ht, hel⟩ := x.top
  refine c_enter (fu := Try.f22) (by kernel_rfl) rfl ?_
  refine w_seq ?_
  refine w_region (by kernel_rfl) ?_
  refine o_move gn rfl rfl ?_
  refine o_move gn rfl rfl ?_
  refine o_call [_, _] gn rfl rfl (by kernel_rfl) rfl (c_pure (c42 x) ⟨ag0, ?_⟩)
  refine wl_end ?_
  refine w_cond rfl (fun hb => ?_) fun hb => ?_
  · skip
    have hth : thB L i = true := hb
    obtain ⟨hi0, hi1⟩ := thB_yes hth
    obtain ⟨bb, m, rfl, hg, hm, ho, _, _⟩ := hel (by omega)
    clear hel
    refine w_region (by kernel_rfl) ?_
    refine o_move gn rfl rfl ?_
    refine o_nilCheck gn rfl rfl ?_
    refine o_fieldAddr (off := 0) gn rfl rfl (by kernel_rfl) ?_
    refine o_load gn rfl rfl (by kernel_rfl) (by assumption) rfl ?_
    refine o_move gn rfl rfl ?_
    refine o_indexAddr (zz := 2) gn rfl rfl rfl (by kernel_rfl) (by omega) (by omega) ?_
    refine o_fieldAddr (off := 1) gn rfl rfl (by kernel_rfl) ?_
    refine o_store gn rfl rfl rfl (by kernel_rfl) hg hm (by simp [chC_len]; omega) ag0 ?_
    refine wl_end ?_
    refine ⟨.inr rfl, _, rfl, ?_⟩
    have e : (chC L).set (0 + i.toNat * 2 + 1) (.bool false) = chC (endL L i) := by
      rw [endL, if_pos hth, setO, mk_nat hth, Nat.zero_add, chC_set1 L i.toNat hi1]
    rw [e]
    exact ⟨x.put ⟨_, ht, rfl⟩ hg (by omega) (by rw [endL, if_pos hth, setO_len]), (ExtB.put _ _ _).mono (by simp [ho])⟩
  · skip
    refine w_skip ?_
    refine ⟨.inr rfl, _, rfl, ?_⟩
    have hth : ¬ thB L i = true := by rw [hb]; simp
    exact ⟨by rw [endL, if_neg hth]; exact x, .refl _ _⟩

/-- Tick -/
theorem c24 (x : ChAt h b L own) (hl : L.length ≤ 100000) (hm0 : ∀ j, 0 ≤ mkL L j ∧ mkL L j ≤ 100000) : C clkE 24 [ptrV b, iV i] h fun v h' => v = iV (tickV L i) ∧ ChAt h' b (tickL L i) own ∧ ExtB own h h' := by
  obtain ⟨a, ht, hel⟩ := x.top
  have hmi := hm0 i
  refine c_enter (fu := Try.f24) (by kernel_rfl) rfl ?_
  refine w_seq ?_
  refine w_region (by kernel_rfl) ?_
  refine o_assign gn rfl rfl ?_
  refine wl_end ?_
  refine w_seq ?_
  refine w_seq ?_
  refine w_region (by kernel_rfl) ?_
  refine o_move gn rfl rfl ?_
  refine o_move gn rfl rfl ?_
  refine o_call [_, _] gn rfl rfl (by kernel_rfl) rfl (c_pure (c42 x) ⟨ag0, ?_⟩)
  refine o_not gn rfl rfl ?_
  refine wl_end ?_
  refine w_cond rfl (fun hb => ?_) fun hb => ?_
  · skip
    refine w_seq ?_
    refine w_region (by kernel_rfl) ?_
    refine o_assign gn rfl rfl ?_
    refine wl_end ?_
    refine w_ret ?_
    refine ⟨.inl rfl, _, rfl, ?_⟩
    have hth : ¬ thB L i = true := by simpa using hb
    exact ⟨by rw [tickV, if_neg hth]; rfl, by rw [tickL, if_neg hth]; exact x, .refl _ _⟩
  · skip
    have hth : thB L i = true := by simpa using hb
    obtain ⟨hi0, hi1⟩ := thB_yes hth
    obtain ⟨bb, m, rfl, hg, hm, ho, hbb, _⟩ := hel (by omega)
    clear hel
    have hca := (chC_at L i.toNat hi1).1
    rw [← mk_nat hth] at hca
    refine w_skip ?_
    refine w_seq ?_
    refine w_region (by kernel_rfl) ?_
    refine o_move gn rfl rfl ?_
    refine o_nilCheck gn rfl rfl ?_
    refine o_fieldAddr (off := 0) gn rfl rfl (by kernel_rfl) ?_
    refine o_load gn rfl rfl (by kernel_rfl) (by assumption) rfl ?_
    refine o_move gn rfl rfl ?_
    refine o_indexAddr (zz := 2) gn rfl rfl rfl (by kernel_rfl) (by omega) (by omega) ?_
    refine o_fieldAddr (off := 0) gn rfl rfl (by kernel_rfl) ?_
    refine o_load gn rfl rfl (by kernel_rfl) hg (by simpa using hca) ?_
    refine o_add gn rfl rfl rfl (by omega) (by omega) ?_
    refine o_indexAddr (zz := 2) gn rfl rfl rfl (by kernel_rfl) (by omega) (by omega) ?_
    refine o_fieldAddr (off := 0) gn rfl rfl (by kernel_rfl) ?_
    refine o_store gn rfl rfl rfl (by kernel_rfl) hg hm (by simp [chC_len]; omega) ag0 ?_
    refine wl_end ?_
    have e : (chC L).set (0 + i.toNat * 2 + 0) (iV (mkL L i + 1)) = chC (tickL L i) := by
      rw [tickL, if_pos hth, setM, op_nat hth, Nat.zero_add, Nat.add_zero, chC_set0 L i.toNat hi1]
    rw [e]
    have hl2 : (tickL L i).length = L.length := by rw [tickL, if_pos hth, setM_len]
    have y := x.put ⟨_, ht, rfl⟩ hg (by omega) hl2
    have hmt : (h.put bb (.cells (chC (tickL L i)) 76 m)).get b = some (.cells [.slice (some ⟨bb, 0, none⟩) L.length L.length] 69 0) := by rw [Hp.get_put, if_neg hbb]; exact ht
    have hcb := (chC_at (tickL L i) i.toNat (by omega)).1
    have ev : ((tickL L i)[i.toNat]'(by omega)).1 = mkL L i + 1 := by simp [tickL, hth, setM]
    rw [ev] at hcb
    refine w_seq ?_
    refine w_region (by kernel_rfl) ?_
    refine o_move gn rfl rfl ?_
    refine o_nilCheck gn rfl rfl ?_
    refine o_fieldAddr (off := 0) gn rfl rfl (by kernel_rfl) ?_
    refine o_load gn rfl rfl (by kernel_rfl) hmt rfl ?_
    refine o_move gn rfl rfl ?_
    refine o_indexAddr (zz := 2) gn rfl rfl rfl (by kernel_rfl) (by omega) (by omega) ?_
    refine o_fieldAddr (off := 0) gn rfl rfl (by kernel_rfl) ?_
    refine o_load gn rfl rfl (by kernel_rfl) (Hp.get_put_self _ _ _) (by simpa using hcb) ?_
    refine o_assign gn rfl rfl ?_
    refine wl_end ?_
    refine w_ret ?_
    refine ⟨.inl rfl, _, rfl, ?_⟩
    exact ⟨by rw [tickV, if_pos hth]; rfl, y, (ExtB.put _ _ _).mono (by simp [ho])⟩

/-- Begin -/
theorem c21 (x : ChAt h b L own) (k : ClkAt h bk A ok) (hl : L.length ≤ 100000) : C clkE 21 [ptrV b, ptrV bk] h fun v h' => ∃ at' L' own', v = iV (at' : Nat) ∧ BeginAt L A at' L' ∧ ChAt h' b L' own' ∧ ExtB own h h' ∧ ∀ z, z ∈ own' → z ∈ own ∨ h.n ≤ z := by
  have x0 := x
  obtain ⟨a, ht, hel⟩ := x.top
  refine c_enter (fu := Try.f21) (by kernel_rfl) rfl ?_
  refine w_seq ?_
  refine w_region (by kernel_rfl) ?_
  refine o_assign gn rfl rfl ?_
  refine wl_end ?_
  refine w_seq ?_
  refine w_seq ?_
  refine w_region (by kernel_rfl) ?_
  refine o_move gn rfl rfl ?_
  refine o_eqp gn rfl rfl rfl (by kernel_rfl) ?_
  refine wl_end ?_
  refine w_cond rfl (fun hb => ?_) fun hb => ?_
  · skip
    refine w_seq ?_
    refine w_region (by kernel_rfl) ?_
    refine o_assign gn rfl rfl ?_
    refine wl_end ?_
    refine w_ret ?_
    refine ⟨.inl rfl, _, rfl, ?_⟩
    simp at hb
  · skip
    refine w_skip ?_
    refine w_seq ?_
    refine w_seq ?_
    refine w_region (by kernel_rfl) ?_
    refine o_move gn rfl rfl ?_
    refine o_nilCheck gn rfl rfl ?_
    refine o_fieldAddr (off := 0) gn rfl rfl (by kernel_rfl) ?_
    refine o_load gn rfl rfl (by kernel_rfl) (by assumption) rfl ?_
    refine o_len gn rfl rfl (by kernel_rfl) ?_
    refine o_move gn rfl rfl ?_
    refine wl_end ?_
    refine w_block ?_
    refine w_weak [(0, ptrV b), (1, ptrV bk), (12, iV L.length), (13, iV (0 : Nat))] (by repeat (first | exact trivial | refine ⟨rfl, ?_⟩)) ?_
    refine w_loop (fun k l hh => ∃ i : Nat, i ≤ L.length ∧ k = L.length - i ∧ (∀ j, j < i → canB L A j = false) ∧ l = [(0, ptrV b), (1, ptrV bk), (12, iV L.length), (13, iV (i : Nat))] ∧ hh = h) (n := L.length) ?_ fun k l hh hI => ?_
    · exact ⟨0, by omega, by omega, fun j hj => by omega, rfl, rfl⟩
    · obtain ⟨i, hi, rfl, hno, rfl, rfl⟩ := hI
      refine w_seq ?_
      refine w_region (by kernel_rfl) ?_
      refine o_lss gn rfl rfl rfl ?_
      refine wl_end ?_
      refine w_seq ?_
      refine w_cond rfl (fun hb => ?_) fun hb => ?_
      · skip
        have hlt : i < L.length := by simpa using hb
        obtain ⟨bb, m, rfl, hg, hm, ho, hbb, _⟩ := hel (by omega)
        clear hel
        obtain ⟨hca, hcb⟩ := chC_at L i hlt
        rw [← mkL_get hlt] at hca
        rw [← opL_get hlt] at hcb
        refine w_skip ?_
        refine w_seq ?_
        refine w_block ?_
        refine w_seq ?_
        refine w_region (by kernel_rfl) ?_
        refine o_move gn rfl rfl ?_
        refine o_assign gn rfl rfl ?_
        refine wl_end ?_
        refine w_seq ?_
        refine w_region (by kernel_rfl) ?_
        refine o_move gn rfl rfl ?_
        refine o_nilCheck gn rfl rfl ?_
        refine o_fieldAddr (off := 0) gn rfl rfl (by kernel_rfl) ?_
        refine o_load gn rfl rfl (by kernel_rfl) (by assumption) rfl ?_
        refine o_move gn rfl rfl ?_
        refine o_indexAddr (zz := 2) gn rfl rfl rfl (by kernel_rfl) (by omega) (by omega) ?_
        refine o_fieldAddr (off := 1) gn rfl rfl (by kernel_rfl) ?_
        refine o_load gn rfl rfl (by kernel_rfl) hg (by simpa using hcb) ?_
        refine o_not gn rfl rfl ?_
        refine o_move gn rfl rfl ?_
        refine o_and (n := 11) rfl rfl rfl gn rfl (fun hb => by
            refine o_move (gy rfl rfl rfl hb) rfl rfl ?_
            refine o_move (gy rfl rfl rfl hb) rfl rfl ?_
            refine o_move (gy rfl rfl rfl hb) rfl rfl ?_
            refine o_nilCheck (gy rfl rfl rfl hb) rfl rfl ?_
            refine o_fieldAddr (off := 0) (gy rfl rfl rfl hb) rfl rfl (by kernel_rfl) ?_
            refine o_load (gy rfl rfl rfl hb) rfl rfl (by kernel_rfl) (by assumption) rfl ?_
            refine o_move (gy rfl rfl rfl hb) rfl rfl ?_
            refine o_indexAddr (zz := 2) (gy rfl rfl rfl hb) rfl rfl rfl (by kernel_rfl) (by omega) (by omega) ?_
            refine o_fieldAddr (off := 0) (gy rfl rfl rfl hb) rfl rfl (by kernel_rfl) ?_
            refine o_load (gy rfl rfl rfl hb) rfl rfl (by kernel_rfl) hg (by simpa using hca) ?_
            refine o_call [_, _, _] (gy rfl rfl rfl hb) rfl rfl (by kernel_rfl) rfl (c_pure (c34 k) ⟨ag0, ?_⟩)
            exact wl_end ⟨rfl, rfl, 11, rfl, rfl⟩) ?_
        refine wl_end ?_
        refine w_cond rfl (fun hb => ?_) fun hb => ?_
        · skip
          refine w_seq ?_
          refine w_region (by kernel_rfl) ?_
          refine o_move gn rfl rfl ?_
          refine o_nilCheck gn rfl rfl ?_
          refine o_fieldAddr (off := 0) gn rfl rfl (by kernel_rfl) ?_
          refine o_load gn rfl rfl (by kernel_rfl) (by assumption) rfl ?_
          refine o_move gn rfl rfl ?_
          refine o_indexAddr (zz := 2) gn rfl rfl rfl (by kernel_rfl) (by omega) (by omega) ?_
          refine o_fieldAddr (off := 1) gn rfl rfl (by kernel_rfl) ?_
          refine o_store gn rfl rfl rfl (by kernel_rfl) hg hm (by simp [chC_len]; omega) ag0 ?_
          refine wl_end ?_
          refine w_seq ?_
          refine w_region (by kernel_rfl) ?_
          refine o_move gn rfl rfl ?_
          refine o_assign gn rfl rfl ?_
          refine wl_end ?_
          refine w_ret ?_
          refine ⟨.inl rfl, _, rfl, ?_⟩
          have hcan : canB L A i = true := hb
          have e : (chC L).set (0 + (i : Int).toNat * 2 + 1) (.bool true) = chC (setO L (i : Int) true) := by
            rw [setO, mkL_get hlt, Nat.zero_add, Int.toNat_natCast, chC_set1 L i hlt]
          rw [e]
          exact ⟨i, _, own, rfl, ⟨by omega, hno, .inl ⟨hlt, hcan, rfl⟩⟩, x0.put ⟨_, ht, rfl⟩ hg (by omega) (setO_len _ _ _), (ExtB.put _ _ _).mono (by simp [ho]), fun z hz => .inl hz⟩
        · skip
          refine w_skip ?_
          refine w_region (by kernel_rfl) ?_
          refine o_add gn rfl rfl rfl (by omega) (by omega) ?_
          refine o_move gn rfl rfl ?_
          refine wl_end ?_
          have hcan : canB L A i = false := hb
          exact ⟨L.length - (i + 1), by omega, [(0, _), (1, _), (12, _), (13, iV ((i + 1 : Nat) : Int))], (by repeat (first | exact trivial | refine ⟨rfl, ?_⟩)), i + 1, by omega, rfl, fun j hj => by
            by_cases e : j = i
            · subst e; exact hcan
            · exact hno j (by omega), rfl, rfl⟩
      · skip
        refine w_exit ?_
        refine thn_exit ?_
        refine rnd_exit ?_
        refine blk_eq ?_
        refine w_seq ?_
        refine w_region (by kernel_rfl) ?_
        refine o_move gn rfl rfl ?_
        refine o_move gn rfl rfl ?_
        refine o_nilCheck gn rfl rfl ?_
        refine o_fieldAddr (off := 0) gn rfl rfl (by kernel_rfl) ?_
        refine o_load gn rfl rfl (by kernel_rfl) (by assumption) rfl ?_
        refine o_build (zv := .agg #[.int .i64 0, .bool false]) (pl := [(0, 1), (1, 1)]) [(1, _)] gn rfl (by kernel_rfl) (by kernel_rfl) rfl rfl ?_
        refine o_buildSlice (e := 76) (z := 1) (zv := .agg #[.int .i64 0, .bool false]) [(0, _)] gn rfl (by kernel_rfl) (by kernel_rfl) (by kernel_rfl) (by kernel_rfl) rfl rfl ?_
        have hge : i = L.length := by simp at hb; omega
        subst hge
        clear hel
        obtain ⟨s, B, xr, rfl⟩ := x
        have htr := xr.top
        have hs : s = .slice a L.length L.length := by rw [ht] at htr; cases htr; rfl
        subst hs
        have xa : Ext hh (hh.alloc (.cells [iV 0, .bool true] 76 0)) := Ext.alloc _ _
        obtain ⟨v8, h8, a1, a2, a3⟩ := appendN el76 (xr.row.ext xa) (Hp.get_alloc_self _ _) rfl rfl (by omega)
        obtain ⟨a8, rfl⟩ := a2.val
        have g8 := (a3.get b (by rw [Hp.n_alloc]; have := xr.lt; omega) xr.nb).trans ((xa.get b xr.lt).trans ht)
        refine o_append gn rfl rfl rfl a1 ag0 ?_
        refine o_nilCheck gn rfl rfl ?_
        refine o_fieldAddr (off := 0) gn rfl rfl (by kernel_rfl) ?_
        refine o_store gn rfl rfl rfl (by kernel_rfl) g8 (by decide) (by simp) ag0 ?_
        refine wl_end ?_
        refine w_seq ?_
        refine w_region (by kernel_rfl) ?_
        refine o_move gn rfl rfl ?_
        refine o_nilCheck gn rfl rfl ?_
        refine o_fieldAddr (off := 0) gn rfl rfl (by kernel_rfl) ?_
        refine o_load gn rfl rfl (by kernel_rfl) (Hp.get_put_self _ _ _) rfl ?_
        refine o_len gn rfl rfl (by kernel_rfl) ?_
        refine o_sub gn rfl rfl rfl (by omega) (by omega) ?_
        refine o_assign gn rfl rfl ?_
        refine wl_end ?_
        refine w_ret ?_
        refine ⟨.inl rfl, _, rfl, ?_⟩
        have a3n := a3.n
        have hbl := xr.lt
        rw [Hp.n_alloc] at a3n
        have e2 : chC L ++ [iV 0, .bool true] = chC (L ++ [(0, true)]) := (chC_append L [(0, true)]).symm
        have e3 : (L ++ [(0, true)]).length = L.length + 1 := by rw [List.length_append]; rfl
        have a4 := a2.keep (ExtB.put h8 b (.cells [.slice a8 (L.length + 1) (L.length + 1)] 69 0)) (fun z hz hj => by simp [Hp.n_alloc] at hz hj; omega)
        rw [e2] at a4
        refine ⟨L.length, L ++ [(0, true)], _, ?_, ⟨by omega, hno, .inr ⟨rfl, rfl⟩⟩, ⟨_, [(hh.alloc (.cells [iV 0, .bool true] 76 0)).n], ⟨Hp.get_put_self _ _ _, ?_, by rw [Hp.n_put]; omega, by simp [Hp.n_alloc]; omega⟩, rfl⟩, ?_, fun z hz => ?_⟩
        · have : ((L.length + 1 : Nat) : Int) - 1 = (L.length : Nat) := by omega
          exact congrArg iV this
        · rw [e3]; exact a4
        · exact (((xa.b (b :: B)).trans (a3.mono (fun z hz _ => by simp [hz]))).trans ((ExtB.put _ _ _).mono (by simp)))
        · simp [Hp.n_alloc] at hz
          rcases hz with rfl | rfl
          · exact .inl (by simp)
          · exact .inr (by omega)

/-- slices.Clone -/
theorem c43 {n : Nat} {vs : List Value} (x : SlN 76 1 h s vs n B) (hcv : vs.all cellV = true) (hl : n ≤ 100000) : C clkE 43 [s] h fun v h' => ∃ B', SlN 76 1 h' v vs n B' ∧ Ext h h' ∧ ∀ i, i ∈ B' → h.n ≤ i := by
  obtain ⟨v', h', bs', h1, h2, h3, h4⟩ := appendN_new el76 x hcv (by omega)
  have x0 := x
  obtain ⟨a, rfl⟩ := x.val
  refine c_enter (fu := Try.f43) (by kernel_rfl) rfl ?_
  refine w_seq ?_
  refine w_region (by kernel_rfl) ?_
  refine o_assign gn rfl rfl ?_
  refine wl_end ?_
  refine w_seq ?_
  refine w_seq ?_
  refine w_region (by kernel_rfl) ?_
  refine o_move gn rfl rfl ?_
  refine o_eqs gn rfl rfl rfl (by kernel_rfl) ?_
  refine wl_end ?_
  refine w_cond rfl (fun hb => ?_) fun hb => ?_
  · skip
    refine w_seq ?_
    refine w_region (by kernel_rfl) ?_
    refine o_assign gn rfl rfl ?_
    refine wl_end ?_
    refine w_ret ?_
    refine ⟨.inl rfl, _, rfl, ?_⟩
    simp only [Option.isNone_iff_eq_none] at hb
    subst hb
    rcases x0 with ⟨e1, rfl, rfl, _⟩ | ⟨_, _, e1, _⟩
    · exact ⟨[], .inl ⟨rfl, rfl, rfl, rfl⟩, .refl _, by simp⟩
    · cases e1
  · skip
    refine w_skip ?_
    refine w_seq ?_
    refine w_region (by kernel_rfl) ?_
    refine o_buildSlice (e := 76) (z := 1) (zv := .agg #[.int .i64 0, .bool false]) [] gn rfl (by kernel_rfl) (by kernel_rfl) (by kernel_rfl) (by kernel_rfl) rfl rfl ?_
    refine o_move gn rfl rfl ?_
    refine o_append gn rfl rfl rfl h1 ag0 ?_
    refine o_assign gn rfl rfl ?_
    refine wl_end ?_
    refine w_ret ?_
    refine ⟨.inl rfl, _, rfl, ?_⟩
    exact ⟨bs', h2, h3, h4⟩

/-- Copy -/
theorem c26 (x : ChAt h b L own) (hl : L.length ≤ 100000) : C clkE 26 [ptrV b] h fun v h' => ∃ b' own', v = ptrV b' ∧ ChAt h' b' L own' ∧ (∀ i, i ∈ own' → h.n ≤ i) ∧ Ext h h' := by
  obtain ⟨s, B, x, rfl⟩ := x
  have ht := x.top
  refine c_enter (fu := Try.f26) (by kernel_rfl) rfl ?_
  refine w_seq ?_
  refine w_region (by kernel_rfl) ?_
  refine o_assign gn rfl rfl ?_
  refine wl_end ?_
  refine w_seq ?_
  refine w_seq ?_
  refine w_region (by kernel_rfl) ?_
  refine o_move gn rfl rfl ?_
  refine o_eqp gn rfl rfl rfl (by kernel_rfl) ?_
  refine wl_end ?_
  refine w_cond rfl (fun hb => ?_) fun hb => ?_
  · skip
    refine w_seq ?_
    refine w_region (by kernel_rfl) ?_
    refine o_assign gn rfl rfl ?_
    refine wl_end ?_
    refine w_ret ?_
    refine ⟨.inl rfl, _, rfl, ?_⟩
    simp at hb
  · skip
    refine w_skip ?_
    refine w_seq ?_
    refine w_region (by kernel_rfl) ?_
    refine o_move gn rfl rfl ?_
    refine o_nilCheck gn rfl rfl ?_
    refine o_fieldAddr (off := 0) gn rfl rfl (by kernel_rfl) ?_
    refine o_load gn rfl rfl (by kernel_rfl) (by assumption) rfl ?_
    refine o_call [_] gn rfl rfl (by kernel_rfl) rfl (C.mono (c43 x.row (chC_all L) hl) ?_)
    rintro v1 h1 ⟨B1, r1, x1, f1⟩
    obtain ⟨a1, rfl⟩ := r1.val
    refine ⟨ag0, ?_⟩
    refine o_build (zv := .agg #[.slice none 0 0]) (pl := [(0, 1)]) [(0, _)] gn rfl (by kernel_rfl) (by kernel_rfl) rfl rfl ?_
    refine o_box gn rfl rfl ?_
    refine o_assign gn rfl rfl ?_
    refine wl_end ?_
    refine w_ret ?_
    refine ⟨.inl rfl, _, rfl, ?_⟩
    have hr1 := r1.lt
    have x1n := x1.n
    exact ⟨h1.n, _, rfl, ⟨_, B1, ⟨Hp.get_alloc_self _ _, r1.ext (Ext.alloc _ _), by rw [Hp.n_alloc]; omega, fun hj => by have := hr1 _ hj; omega⟩, rfl⟩, fun i hi => by
      rcases List.mem_cons.1 hi with rfl | hi
      · exact x1n
      · exact f1 i hi, x1.trans (Ext.alloc _ _)⟩

end

noncomputable def fs76 : Array Field := match clkE.und 76 with | some (.struct fs) => fs | _ => #[]
theorem und76 : clkE.und 76 = some (.struct fs76) := by kernel_rfl
theorem len76 : fs76.toList.length = 2 := by kernel_rfl
theorem row76 : fs76.toList = [fs76.toList[0]'(by rw [len76]; omega), fs76.toList[1]'(by rw [len76]; omega)] := by kernel_rfl
theorem neq76 {hh : Hp} {x y : Operand} (a c : Int) (o p : Bool) : binX clkE hh .neq 76 x y (.agg #[iV a, .bool o]) (.agg #[iV c, .bool p]) = some (.bool (!((a == c) && ((o == p) && true)))) := by
  refine binA_neq und76 (by kernel_rfl) ?_
  rw [row76]
  exact structEq_cons (u := iV a) (w := iV c) (by kernel_rfl) (by kernel_rfl) (by kernel_rfl) (by kernel_rfl) (structEq_cons (u := .bool o) (w := .bool p) (by kernel_rfl) (by kernel_rfl) (by kernel_rfl) (by kernel_rfl) rfl)

section
variable {h h' : Hp} {b bo : Nat} {L K : Cs} {s s2 : Value} {B B2 own oo : List Nat}

/-- slices.Equal -/
theorem c44 (x : SlN 76 1 h s (chC L) L.length B) (y : SlN 76 1 h s2 (chC K) K.length B2) (hl : L.length ≤ 100000) : CP clkE 44 [s, s2] h (.bool (decide (L = K))) := by
  obtain ⟨a, rfl⟩ := x.val
  obtain ⟨a2, rfl⟩ := y.val
  refine c_enter (fu := Try.f44) (by kernel_rfl) rfl ?_
  refine w_seq ?_
  refine w_region (by kernel_rfl) ?_
  refine o_assign gn rfl rfl ?_
  refine wl_end ?_
  refine w_seq ?_
  refine w_seq ?_
  refine w_region (by kernel_rfl) ?_
  refine o_move gn rfl rfl ?_
  refine o_len gn rfl rfl (by kernel_rfl) ?_
  refine o_move gn rfl rfl ?_
  refine o_len gn rfl rfl (by kernel_rfl) ?_
  refine o_nei gn rfl rfl rfl ?_
  refine wl_end ?_
  refine w_cond rfl (fun hb => ?_) fun hb => ?_
  · skip
    refine w_seq ?_
    refine w_region (by kernel_rfl) ?_
    refine o_assign gn rfl rfl ?_
    refine wl_end ?_
    refine w_ret ?_
    refine ⟨.inl rfl, _, rfl, ?_⟩
    have : L ≠ K := fun e => by subst e; simp at hb
    exact ⟨by simp [oneOf, this], rfl⟩
  · skip
    have hlen : L.length = K.length := by simp at hb; omega
    refine w_skip ?_
    refine w_seq ?_
    refine w_seq ?_
    refine w_region (by kernel_rfl) ?_
    refine o_move gn rfl rfl ?_
    refine o_len gn rfl rfl (by kernel_rfl) ?_
    refine o_move gn rfl rfl ?_
    refine wl_end ?_
    refine w_block ?_
    refine w_weak [(0, .slice a L.length L.length), (1, .slice a2 K.length K.length), (12, iV L.length), (13, iV (0 : Nat))] (by repeat (first | exact trivial | refine ⟨rfl, ?_⟩)) ?_
    refine w_loop (fun k l hh => ∃ i : Nat, i ≤ L.length ∧ k = L.length - i ∧ (∀ j (hj : j < L.length) (hk : j < K.length), j < i → L[j] = K[j]) ∧ l = [(0, .slice a L.length L.length), (1, .slice a2 K.length K.length), (12, iV L.length), (13, iV (i : Nat))] ∧ hh = h) (n := L.length) ?_ fun k l hh hI => ?_
    · exact ⟨0, by omega, by omega, fun j _ _ hj => by omega, rfl, rfl⟩
    · obtain ⟨i, hi, rfl, hall, rfl, rfl⟩ := hI
      refine w_seq ?_
      refine w_region (by kernel_rfl) ?_
      refine o_lss gn rfl rfl rfl ?_
      refine wl_end ?_
      refine w_seq ?_
      refine w_cond rfl (fun hb => ?_) fun hb => ?_
      · skip
        have hlt : i < L.length := by simpa using hb
        have hlk : i < K.length := by omega
        obtain ⟨b1, m1, ea, hg1, _, _, _, _⟩ := x.at (by omega)
        simp only [Value.slice.injEq, and_true] at ea
        subst ea
        obtain ⟨b2, m2, ea2, hg2, _, _, _, _⟩ := y.at (by omega)
        simp only [Value.slice.injEq, and_true] at ea2
        subst ea2
        have t1 := chC_take L i hlt
        have t2 := chC_take K i hlk
        have e0 : 0 + (i : Int).toNat * 2 = i * 2 := by omega
        refine w_skip ?_
        refine w_seq ?_
        refine w_block ?_
        refine w_seq ?_
        refine w_region (by kernel_rfl) ?_
        refine o_move gn rfl rfl ?_
        refine o_assign gn rfl rfl ?_
        refine wl_end ?_
        refine w_seq ?_
        refine w_draw [(0, []), (1, []), (2, []), (3, []), (4, []), (5, []), (6, []), (7, []), (8, [])] (by kernel_rfl) (by kernel_rfl) (by kernel_rfl) (by kernel_rfl) ?_
        refine o_move gn rfl rfl ?_
        refine o_move gn rfl rfl ?_
        refine o_indexAddr (zz := 2) gn rfl rfl rfl (by kernel_rfl) (by omega) (by omega) ?_
        refine o_loadA (n := 2) gn rfl rfl (by kernel_rfl) (by kernel_rfl) hg1 (by rw [chC_len]; omega) ?_
        refine o_move gn rfl rfl ?_
        refine o_move gn rfl rfl ?_
        refine o_indexAddr (zz := 2) gn rfl rfl rfl (by kernel_rfl) (by omega) (by omega) ?_
        refine o_loadA (n := 2) gn rfl rfl (by kernel_rfl) (by kernel_rfl) hg2 (by rw [chC_len]; omega) ?_
        rw [e0, t1, t2]
        refine o_bin gn rfl rfl rfl (neq76 _ _ _ _) ?_
        refine wl_end ?_
        refine w_cond rfl (fun hb => ?_) fun hb => ?_
        · skip
          refine w_seq ?_
          refine w_region (by kernel_rfl) ?_
          refine o_assign gn rfl rfl ?_
          refine wl_end ?_
          refine w_ret ?_
          refine ⟨.inl rfl, _, rfl, ?_⟩
          have : L ≠ K := fun e => by subst e; simp at hb
          exact ⟨by simp [oneOf, this], rfl⟩
        · skip
          refine w_skip ?_
          refine w_region (by kernel_rfl) ?_
          refine o_add gn rfl rfl rfl (by omega) (by omega) ?_
          refine o_move gn rfl rfl ?_
          refine wl_end ?_
          have heq : L[i] = K[i] := by
            simp at hb
            exact Prod.ext hb.1 hb.2
          exact ⟨L.length - (i + 1), by omega, [(0, _), (1, _), (12, _), (13, iV ((i + 1 : Nat) : Int))], (by repeat (first | exact trivial | refine ⟨rfl, ?_⟩)), i + 1, by omega, rfl, fun j hj hk hji => by
            by_cases e : j = i
            · subst e; exact heq
            · exact hall j hj hk (by omega), rfl, rfl⟩
      · skip
        refine w_exit ?_
        refine thn_exit ?_
        refine rnd_exit ?_
        refine blk_eq ?_
        refine w_seq ?_
        refine w_region (by kernel_rfl) ?_
        refine o_assign gn rfl rfl ?_
        refine wl_end ?_
        refine w_ret ?_
        refine ⟨.inl rfl, _, rfl, ?_⟩
        have hge : i = L.length := by simp at hb; omega
        have : L = K := List.ext_getElem hlen fun j h1 h2 => hall j h1 h2 (by omega)
        exact ⟨by simp [oneOf, this], rfl⟩

/-- Same -/
theorem c27 (x : ChAt h b L own) (y : ChAt h bo K oo) (hl : L.length ≤ 100000) : CP clkE 27 [ptrV b, ptrV bo] h (.bool (decide (L = K))) := by
  obtain ⟨s, B, x, rfl⟩ := x
  obtain ⟨s2, B2, y, rfl⟩ := y
  have ht := x.top
  have ht2 := y.top
  refine c_enter (fu := Try.f27) (by kernel_rfl) rfl ?_
  refine w_seq ?_
  refine w_region (by kernel_rfl) ?_
  refine o_assign gn rfl rfl ?_
  refine wl_end ?_
  refine w_seq ?_
  refine w_seq ?_
  refine w_region (by kernel_rfl) ?_
  refine o_move gn rfl rfl ?_
  refine o_eqp gn rfl rfl rfl (by kernel_rfl) ?_
  refine o_move gn rfl rfl ?_
  refine o_or (n := 2) rfl rfl rfl gn rfl (fun hb => by
      refine o_move (gy rfl rfl rfl hb) rfl rfl ?_
      refine o_eqp (gy rfl rfl rfl hb) rfl rfl rfl (by kernel_rfl) ?_
      exact wl_end ⟨rfl, rfl, 2, rfl, rfl⟩) ?_
  refine wl_end ?_
  refine w_cond rfl (fun hb => ?_) fun hb => ?_
  · skip
    refine w_seq ?_
    refine w_region (by kernel_rfl) ?_
    refine o_move gn rfl rfl ?_
    refine o_eqp gn rfl rfl rfl (by kernel_rfl) ?_
    refine o_move gn rfl rfl ?_
    refine o_and (n := 2) rfl rfl rfl gn rfl (fun hb => by
        refine o_move (gy rfl rfl rfl hb) rfl rfl ?_
        refine o_eqp (gy rfl rfl rfl hb) rfl rfl rfl (by kernel_rfl) ?_
        exact wl_end ⟨rfl, rfl, 2, rfl, rfl⟩) ?_
    refine o_assign gn rfl rfl ?_
    refine wl_end ?_
    refine w_ret ?_
    refine ⟨.inl rfl, _, rfl, ?_⟩
    simp at hb
  · skip
    refine w_skip ?_
    refine w_seq ?_
    refine w_draw [(0, []), (1, []), (2, []), (3, []), (4, []), (5, []), (6, []), (7, []), (8, []), (9, [])] (by kernel_rfl) (by kernel_rfl) (by kernel_rfl) (by kernel_rfl) ?_
    refine o_move gn rfl rfl ?_
    refine o_nilCheck gn rfl rfl ?_
    refine o_fieldAddr (off := 0) gn rfl rfl (by kernel_rfl) ?_
    refine o_load gn rfl rfl (by kernel_rfl) ht rfl ?_
    refine o_move gn rfl rfl ?_
    refine o_nilCheck gn rfl rfl ?_
    refine o_fieldAddr (off := 0) gn rfl rfl (by kernel_rfl) ?_
    refine o_load gn rfl rfl (by kernel_rfl) ht2 rfl ?_
    refine o_call [_, _] gn rfl rfl (by kernel_rfl) rfl (c_pure (c44 x.row y.row hl) ⟨ag0, ?_⟩)
    refine o_assign gn rfl rfl ?_
    refine wl_end ?_
    refine w_ret ?_
    refine ⟨.inl rfl, _, rfl, ?_⟩
    exact ⟨rfl, rfl⟩
end

end Go.Proofs.Ytkhnhaijnnpjhaa


namespace Go.Proofs.Ytkhnhaijnnpjhaa
open Go.X

abbrev bsV (l : List Bool) : List Value := l.map fun b => .bool b
theorem el4 : El clkE 43 4 0 := ⟨by kernel_rfl, by kernel_rfl, by kernel_rfl, .bool false, by kernel_rfl, rfl⟩
def nsL (L : Cs) : List Value := isV (L.map (·.1))
def osL (L : Cs) : List Value := bsV (L.map (·.2))
theorem nsL_len (L : Cs) : (nsL L).length = L.length := by simp [nsL]
theorem osL_len (L : Cs) : (osL L).length = L.length := by simp [osL]
theorem nsL_at {L : Cs} {i o : Nat} (h : i < L.length) (e : o = i) : (nsL L)[o]? = some (iV (mkL L (i : Nat))) := by
  subst e; rw [mkL_get h, nsL, List.getElem?_map, List.getElem?_map, List.getElem?_eq_getElem h]; rfl
theorem osL_at {L : Cs} {i o : Nat} (h : i < L.length) (e : o = i) : (osL L)[o]? = some (.bool (opL L (i : Nat))) := by
  subst e; rw [opL_get h, osL, List.getElem?_map, List.getElem?_map, List.getElem?_eq_getElem h]; rfl
theorem map_set_same {α β : Type} (f : α → β) (l : List α) (i : Nat) (x : α) (h : ∀ y, l[i]? = some y → f x = f y) : (l.set i x).map f = l.map f := by
  apply List.ext_getElem?
  intro j
  rw [List.getElem?_map, List.getElem?_map, List.getElem?_set]
  by_cases e : i = j
  · subst e
    by_cases hl : i < l.length
    · rw [if_pos rfl, if_pos hl, List.getElem?_eq_getElem hl]
      simp [h _ (List.getElem?_eq_getElem hl)]
    · rw [if_pos rfl, if_neg hl, List.getElem?_eq_none (by omega)]
  · rw [if_neg e]
theorem setO_ns {L : Cs} {i : Int} (h : thB L i = true) (o : Bool) : nsL (setO L i o) = nsL L := by
  unfold nsL setO
  rw [map_set_same _ _ _ _ fun y hy => by
    rw [List.getElem?_eq_getElem (thB_yes h).2] at hy
    cases hy
    exact mk_nat h]
theorem setM_os {L : Cs} {i : Int} (h : thB L i = true) (n : Int) : osL (setM L i n) = osL L := by
  unfold osL setM
  rw [map_set_same _ _ _ _ fun y hy => by
    rw [List.getElem?_eq_getElem (thB_yes h).2] at hy
    cases hy
    exact op_nat h]
theorem setO_os (L : Cs) (i : Int) (o : Bool) : osL (setO L i o) = (osL L).set i.toNat (.bool o) := by simp [osL, setO, List.map_set]
theorem setM_ns (L : Cs) (i n : Int) : nsL (setM L i n) = (nsL L).set i.toNat (iV n) := by simp [nsL, setM, List.map_set]
theorem th_nat {L : Cs} {i : Nat} (h : i < L.length) : thB L (i : Nat) = true := by simp [thB, h]

/-- Chains of the document's. -/
structure DcR (h : Hp) (b : Nat) (L : Cs) (sN sO : Value) (B1 B2 : List Nat) : Prop where
  top : h.get b = some (.cells [sN, sO] 45 0)
  rn : Sl 3 h sN (nsL L) B1
  ro : Sl 4 h sO (osL L) B2
  lt : b < h.n
  n1 : b ∉ B1
  n2 : b ∉ B2
  d : ∀ i, i ∈ B1 → i ∉ B2
def DcAt (h : Hp) (b : Nat) (L : Cs) (own : List Nat) : Prop := ∃ sN sO B1 B2, DcR h b L sN sO B1 B2 ∧ own = b :: (B1 ++ B2)

section
variable {h h' : Hp} {b bo bk : Nat} {L K : Cs} {sN sO : Value} {B B1 B2 own oo ok cs : List Nat} {N : List Int} {i : Int}

theorem DcR.keep (x : DcR h b L sN sO B1 B2) (g : ExtB cs h h') (hd : ∀ i, i ∈ b :: (B1 ++ B2) → i ∉ cs) : DcR h' b L sN sO B1 B2 :=
  ⟨by rw [g.get b x.lt (hd b (by simp))]; exact x.top, x.rn.keep g fun i hi => hd i (by simp [hi]), x.ro.keep g fun i hi => hd i (by simp [hi]), Nat.lt_of_lt_of_le x.lt g.n, x.n1, x.n2, x.d⟩
theorem DcAt.keep (x : DcAt h b L own) (g : ExtB cs h h') (hd : ∀ i, i ∈ own → i ∉ cs) : DcAt h' b L own := by
  obtain ⟨sN, sO, B1, B2, x, rfl⟩ := x; exact ⟨sN, sO, B1, B2, x.keep g hd, rfl⟩
theorem DcAt.ext (x : DcAt h b L own) (g : Ext h h') : DcAt h' b L own := x.keep (g.b []) (by simp)
theorem DcAt.lt (x : DcAt h b L own) : ∀ i, i ∈ own → i < h.n := by
  obtain ⟨sN, sO, B1, B2, x, rfl⟩ := x
  intro i hi
  rcases List.mem_cons.1 hi with rfl | hi
  · exact x.lt
  · rcases List.mem_append.1 hi with hi | hi
    · exact x.rn.lt i hi
    · exact x.ro.lt i hi
theorem DcR.val (x : DcR h b L sN sO B1 B2) : ∃ aN aO, sN = .slice aN L.length L.length ∧ sO = .slice aO L.length L.length := by
  obtain ⟨aN, e1⟩ := x.rn.val
  obtain ⟨aO, e2⟩ := x.ro.val
  rw [nsL_len] at e1
  rw [osL_len] at e2
  exact ⟨aN, aO, e1, e2⟩
theorem DcR.atN {aN : Option Addr} {n c : Nat} (x : DcR h b L (.slice aN n c) sO B1 B2) (hn : 0 < L.length) : ∃ bb m, aN = some ⟨bb, 0, none⟩ ∧ h.get bb = some (.cells (nsL L) 3 m) ∧ (m = 0 ∨ m = 3) ∧ B1 = [bb] ∧ bb < h.n := by
  obtain ⟨bb, m, e, hg, hm, hl, hB⟩ := x.rn.at (by rw [nsL_len]; exact hn)
  cases e
  exact ⟨bb, m, rfl, hg, hm, hB, hl⟩
theorem DcR.atO {aO : Option Addr} {n c : Nat} (x : DcR h b L sN (.slice aO n c) B1 B2) (hn : 0 < L.length) : ∃ bb m, aO = some ⟨bb, 0, none⟩ ∧ h.get bb = some (.cells (osL L) 4 m) ∧ (m = 0 ∨ m = 3) ∧ B2 = [bb] ∧ bb < h.n := by
  obtain ⟨bb, m, e, hg, hm, hl, hB⟩ := x.ro.at (by rw [osL_len]; exact hn)
  cases e
  exact ⟨bb, m, rfl, hg, hm, hB, hl⟩
theorem DcR.putO {bb m : Nat} (x : DcR h b L sN (.slice (some ⟨bb, 0, none⟩) L.length L.length) B1 B2) (hB : B2 = [bb]) (hm : m = 0 ∨ m = 3) (hlt : bb < h.n) (hk : K.length = L.length) (hn : nsL K = nsL L) :
    DcR (h.put bb (.cells (osL K) 4 m)) b K sN (.slice (some ⟨bb, 0, none⟩) L.length L.length) B1 B2 := by
  subst hB
  have h1 : bb ≠ b := fun e => x.n2 (by simp [e])
  refine ⟨by rw [Hp.get_put, if_neg h1]; exact x.top, ?_, ?_, by rw [Hp.n_put]; exact x.lt, x.n1, x.n2, x.d⟩
  · rw [hn]; exact x.rn.keep (ExtB.put _ _ _) (fun i hi hj => x.d i hi hj)
  · exact Sl.put (by rw [osL_len, hk]) hm hlt
theorem DcR.putN {bb m : Nat} (x : DcR h b L (.slice (some ⟨bb, 0, none⟩) L.length L.length) sO B1 B2) (hB : B1 = [bb]) (hm : m = 0 ∨ m = 3) (hlt : bb < h.n) (hk : K.length = L.length) (hn : osL K = osL L) :
    DcR (h.put bb (.cells (nsL K) 3 m)) b K (.slice (some ⟨bb, 0, none⟩) L.length L.length) sO B1 B2 := by
  subst hB
  have h1 : bb ≠ b := fun e => x.n1 (by simp [e])
  refine ⟨by rw [Hp.get_put, if_neg h1]; exact x.top, ?_, ?_, by rw [Hp.n_put]; exact x.lt, x.n1, x.n2, x.d⟩
  · exact Sl.put (by rw [nsL_len, hk]) hm hlt
  · rw [hn]; exact x.ro.keep (ExtB.put _ _ _) (fun i hi hj => x.d i (by simpa using hj) hi)

/-- End -/
theorem c23 (x : DcAt h b L own) (hl : L.length ≤ 100000) : C clkE 23 [ptrV b, iV i] h fun _ h' => DcAt h' b (endL L i) own ∧ ExtB own h h' := by
  have x0 := x
  obtain ⟨sN, sO, B1, B2, x, rfl⟩ := x
  obtain ⟨aN, aO, rfl, rfl⟩ := x.val
  have ht := x.top
  refine c_enter (fu := Try.f23) (by kernel_rfl) rfl ?_
  refine w_seq ?_
  refine w_region (by kernel_rfl) ?_
  refine o_move gn rfl rfl ?_
  refine o_geq gn rfl rfl rfl ?_
  refine o_move gn rfl rfl ?_
  refine o_and (n := 7) rfl rfl rfl gn rfl (fun hb => by
      refine o_move (gy rfl rfl rfl hb) rfl rfl ?_
      refine o_move (gy rfl rfl rfl hb) rfl rfl ?_
      refine o_nilCheck (gy rfl rfl rfl hb) rfl rfl ?_
      refine o_fieldAddr (off := 0) (gy rfl rfl rfl hb) rfl rfl (by kernel_rfl) ?_
      refine o_load (gy rfl rfl rfl hb) rfl rfl (by kernel_rfl) (by assumption) rfl ?_
      refine o_len (gy rfl rfl rfl hb) rfl rfl (by kernel_rfl) ?_
      refine o_lss (gy rfl rfl rfl hb) rfl rfl rfl ?_
      exact wl_end ⟨rfl, rfl, 7, rfl, rfl⟩) ?_
  refine wl_end ?_
  refine w_cond rfl (fun hb => ?_) fun hb => ?_
  · skip
    have hth : thB L i = true := hb
    obtain ⟨hi0, hi1⟩ := thB_yes hth
    obtain ⟨bb, m, rfl, hg, hm, hB, hbl⟩ := x.atO (by omega)
    refine w_region (by kernel_rfl) ?_
    refine o_move gn rfl rfl ?_
    refine o_nilCheck gn rfl rfl ?_
    refine o_fieldAddr (off := 1) gn rfl rfl (by kernel_rfl) ?_
    refine o_load gn rfl rfl (by kernel_rfl) (by assumption) rfl ?_
    refine o_move gn rfl rfl ?_
    refine o_indexAddr (zz := 1) gn rfl rfl rfl (by kernel_rfl) (by omega) (by omega) ?_
    refine o_store gn rfl rfl rfl (by kernel_rfl) hg (by omega) (by rw [osL_len]; omega) ag0 ?_
    refine wl_end ?_
    refine ⟨.inr rfl, _, rfl, ?_⟩
    have e : (osL L).set (0 + i.toNat * 1) (.bool false) = osL (endL L i) := by
      rw [endL, if_pos hth, setO_os]; congr 1; omega
    rw [e]
    exact ⟨⟨_, _, B1, B2, x.putO hB hm hbl (by rw [endL, if_pos hth, setO_len]) (by rw [endL, if_pos hth, setO_ns hth]), rfl⟩, (ExtB.put _ _ _).mono (by simp [hB])⟩
  · skip
    refine w_skip ?_
    refine ⟨.inr rfl, _, rfl, ?_⟩
    have hth : ¬ thB L i = true := by rw [show thB L i = false from hb]; simp
    exact ⟨by rw [endL, if_neg hth]; exact x0, .refl _ _⟩

/-- Tick -/
theorem c25 (x : DcAt h b L own) (hl : L.length ≤ 100000) (hm0 : ∀ j, 0 ≤ mkL L j ∧ mkL L j ≤ 100000) : C clkE 25 [ptrV b, iV i] h fun v h' => v = iV (tickV L i) ∧ DcAt h' b (tickL L i) own ∧ ExtB own h h' := by
  have x0 := x
  have hmi := hm0 i
  obtain ⟨sN, sO, B1, B2, x, rfl⟩ := x
  obtain ⟨aN, aO, rfl, rfl⟩ := x.val
  have ht := x.top
  refine c_enter (fu := Try.f25) (by kernel_rfl) rfl ?_
  refine w_seq ?_
  refine w_region (by kernel_rfl) ?_
  refine o_assign gn rfl rfl ?_
  refine wl_end ?_
  refine w_seq ?_
  refine w_seq ?_
  refine w_region (by kernel_rfl) ?_
  refine o_move gn rfl rfl ?_
  refine o_lss gn rfl rfl rfl ?_
  refine o_move gn rfl rfl ?_
  refine o_or (n := 7) rfl rfl rfl gn rfl (fun hb => by
      refine o_move (gy rfl rfl rfl hb) rfl rfl ?_
      refine o_move (gy rfl rfl rfl hb) rfl rfl ?_
      refine o_nilCheck (gy rfl rfl rfl hb) rfl rfl ?_
      refine o_fieldAddr (off := 0) (gy rfl rfl rfl hb) rfl rfl (by kernel_rfl) ?_
      refine o_load (gy rfl rfl rfl hb) rfl rfl (by kernel_rfl) (by assumption) rfl ?_
      refine o_len (gy rfl rfl rfl hb) rfl rfl (by kernel_rfl) ?_
      refine o_geq (gy rfl rfl rfl hb) rfl rfl rfl ?_
      exact wl_end ⟨rfl, rfl, 7, rfl, rfl⟩) ?_
  refine wl_end ?_
  refine w_cond rfl (fun hb => ?_) fun hb => ?_
  · skip
    refine w_seq ?_
    refine w_region (by kernel_rfl) ?_
    refine o_assign gn rfl rfl ?_
    refine wl_end ?_
    refine w_ret ?_
    refine ⟨.inl rfl, _, rfl, ?_⟩
    have hth : ¬ thB L i = true := fun q => by obtain ⟨p1, p2⟩ := thB_yes q; simp at hb; omega
    exact ⟨by rw [tickV, if_neg hth]; rfl, by rw [tickL, if_neg hth]; exact x0, .refl _ _⟩
  · skip
    have hth : thB L i = true := by simp [thB]; simp at hb; omega
    obtain ⟨hi0, hi1⟩ := thB_yes hth
    obtain ⟨bb, m, rfl, hg, hm, hB, hbl⟩ := x.atN (by omega)
    have hca := nsL_at hi1 rfl
    rw [Int.toNat_of_nonneg hi0] at hca
    refine w_skip ?_
    refine w_seq ?_
    refine w_region (by kernel_rfl) ?_
    refine o_move gn rfl rfl ?_
    refine o_nilCheck gn rfl rfl ?_
    refine o_fieldAddr (off := 0) gn rfl rfl (by kernel_rfl) ?_
    refine o_load gn rfl rfl (by kernel_rfl) (by assumption) rfl ?_
    refine o_move gn rfl rfl ?_
    refine o_indexAddr (zz := 1) gn rfl rfl rfl (by kernel_rfl) (by omega) (by omega) ?_
    refine o_load gn rfl rfl (by kernel_rfl) hg (by simpa using hca) ?_
    refine o_add gn rfl rfl rfl (by omega) (by omega) ?_
    refine o_indexAddr (zz := 1) gn rfl rfl rfl (by kernel_rfl) (by omega) (by omega) ?_
    refine o_store gn rfl rfl rfl (by kernel_rfl) hg (by omega) (by rw [nsL_len]; omega) ag0 ?_
    refine wl_end ?_
    have e : (nsL L).set (0 + i.toNat * 1) (iV (mkL L i + 1)) = nsL (tickL L i) := by
      rw [tickL, if_pos hth, setM_ns]; congr 1; omega
    rw [e]
    have hl2 : (tickL L i).length = L.length := by rw [tickL, if_pos hth, setM_len]
    have y := x.putN (K := tickL L i) hB hm hbl hl2 (by rw [tickL, if_pos hth, setM_os hth])
    have hmt := y.top
    have hcb := nsL_at (L := tickL L i) (i := i.toNat) (by omega) rfl
    rw [Int.toNat_of_nonneg hi0] at hcb
    have ev : mkL (tickL L i) i = mkL L i + 1 := by
      have := mkL_get (L := tickL L i) (i := i.toNat) (by omega)
      rw [Int.toNat_of_nonneg hi0] at this
      rw [this]
      simp [tickL, hth, setM]
    rw [ev] at hcb
    refine w_seq ?_
    refine w_region (by kernel_rfl) ?_
    refine o_move gn rfl rfl ?_
    refine o_nilCheck gn rfl rfl ?_
    refine o_fieldAddr (off := 0) gn rfl rfl (by kernel_rfl) ?_
    refine o_load gn rfl rfl (by kernel_rfl) hmt rfl ?_
    refine o_move gn rfl rfl ?_
    refine o_indexAddr (zz := 1) gn rfl rfl rfl (by kernel_rfl) (by omega) (by omega) ?_
    refine o_load gn rfl rfl (by kernel_rfl) (Hp.get_put_self _ _ _) (by simpa using hcb) ?_
    refine o_assign gn rfl rfl ?_
    refine wl_end ?_
    refine w_ret ?_
    refine ⟨.inl rfl, _, rfl, ?_⟩
    exact ⟨by rw [tickV, if_pos hth]; rfl, ⟨_, _, B1, B2, y, rfl⟩, (ExtB.put _ _ _).mono (by simp [hB])⟩
end

end Go.Proofs.Ytkhnhaijnnpjhaa


namespace Go.Proofs.Ytkhnhaijnnpjhaa
open Go.X

section
variable {h h' : Hp} {b bo bk : Nat} {L K : Cs} {s sN sO : Value} {B B1 B2 own oo ok cs : List Nat} {N : List Int} {i : Int}

theorem push_bs {l : List Bool} {x : Bool} (hs : Sl 4 h s (bsV l) B) (hn : l.length ≤ 100000) :
    ∃ a h' B', appendX clkE (h.alloc (.cells [.bool x] 4 0)) 43 43 s (.slice (some ⟨h.n, 0, none⟩) 1 1) = some (.slice a (bsV (l ++ [x])).length (bsV (l ++ [x])).length, h') ∧ Sl 4 h' (.slice a (bsV (l ++ [x])).length (bsV (l ++ [x])).length) (bsV (l ++ [x])) B' ∧ ExtB B h h' ∧ (∀ i, i ∈ B' → i ∈ B ∨ h.n ≤ i) := by
  have x5 : Ext h (h.alloc (.cells [.bool x] 4 0)) := Ext.alloc _ _
  obtain ⟨v', h6, B6, a1, a2, a3, a4⟩ := append_own el4 (hs.ext x5) ((Sl.new (h := h) (e := 4) (vs := [.bool x]) (m := 0) (.inl rfl)).src rfl) (by simp; omega)
  have e : bsV l ++ [.bool x] = bsV (l ++ [x]) := by simp
  rw [e] at a2
  obtain ⟨a, rfl⟩ := a2.val
  exact ⟨a, h6, B6, a1, a2, (x5.b B).trans a3, fun i hi => by
    rcases a4 i hi with h1 | h1
    · exact .inl h1
    · rw [Hp.n_alloc] at h1; exact .inr (by omega)⟩

/-- Begin -/
theorem c20 (x : DcAt h b L own) (k : DocAt h bk N ok) (hl : L.length ≤ 100000) : C clkE 20 [ptrV b, ptrV bk] h fun v h' => ∃ at' L' own', v = iV (at' : Nat) ∧ BeginAt L (nAt N) at' L' ∧ DcAt h' b L' own' ∧ ExtB own h h' ∧ ∀ z, z ∈ own' → z ∈ own ∨ h.n ≤ z := by
  have x0 := x
  obtain ⟨sN, sO, B1, B2, x, rfl⟩ := x
  obtain ⟨aN, aO, rfl, rfl⟩ := x.val
  have ht := x.top
  refine c_enter (fu := Try.f20) (by kernel_rfl) rfl ?_
  refine w_seq ?_
  refine w_region (by kernel_rfl) ?_
  refine o_assign gn rfl rfl ?_
  refine wl_end ?_
  refine w_seq ?_
  refine w_region (by kernel_rfl) ?_
  refine o_assign gn rfl rfl ?_
  refine wl_end ?_
  refine w_seq ?_
  refine w_block ?_
  refine w_weak [(0, ptrV b), (1, ptrV bk), (5, iV (0 : Nat))] (by repeat (first | exact trivial | refine ⟨rfl, ?_⟩)) ?_
  refine w_loop (fun k l hh => ∃ i : Nat, i ≤ L.length ∧ k = L.length - i ∧ (∀ j, j < i → canB L (nAt N) j = false) ∧ l = [(0, ptrV b), (1, ptrV bk), (5, iV (i : Nat))] ∧ hh = h) (n := L.length) ?_ fun k l hh hI => ?_
  · exact ⟨0, by omega, by omega, fun j hj => by omega, rfl, rfl⟩
  · obtain ⟨i, hi, rfl, hno, rfl, rfl⟩ := hI
    refine w_seq ?_
    refine w_seq ?_
    refine w_region (by kernel_rfl) ?_
    refine o_move gn rfl rfl ?_
    refine o_move gn rfl rfl ?_
    refine o_nilCheck gn rfl rfl ?_
    refine o_fieldAddr (off := 0) gn rfl rfl (by kernel_rfl) ?_
    refine o_load gn rfl rfl (by kernel_rfl) (by assumption) rfl ?_
    refine o_len gn rfl rfl (by kernel_rfl) ?_
    refine o_lss gn rfl rfl rfl ?_
    refine o_move gn rfl rfl ?_
    refine o_and (n := 20) rfl rfl rfl gn rfl (fun hb => by
        refine o_move (gy rfl rfl rfl hb) rfl rfl ?_
        refine o_nilCheck (gy rfl rfl rfl hb) rfl rfl ?_
        refine o_fieldAddr (off := 1) (gy rfl rfl rfl hb) rfl rfl (by kernel_rfl) ?_
        have hlt : i < L.length := by simpa using hb
        obtain ⟨b1, m1, ea1, hg1, hm1, hB1, hbl1⟩ := x.atN (by omega)
        obtain ⟨b2, m2, ea2, hg2, hm2, hB2, hbl2⟩ := x.atO (by omega)
        refine o_load (gy rfl rfl rfl hb) rfl rfl (by kernel_rfl) (by assumption) rfl ?_
        refine o_move (gy rfl rfl rfl hb) rfl rfl ?_
        refine o_indexAddr (zz := 1) (gy rfl rfl rfl hb) rfl (congrArg (fun q => some (Value.slice q L.length L.length)) ea2) rfl (by kernel_rfl) (by omega) (by omega) ?_
        refine o_load (gy rfl rfl rfl hb) rfl rfl (by kernel_rfl) hg2 (osL_at hlt (by omega)) ?_
        refine o_move (gy rfl rfl rfl hb) rfl rfl ?_
        refine o_or (n := 11) rfl rfl rfl (gy rfl rfl rfl hb) rfl (fun hb => by
            refine o_move (gy rfl rfl rfl hb) rfl rfl ?_
            refine o_move (gy rfl rfl rfl hb) rfl rfl ?_
            refine o_move (gy rfl rfl rfl hb) rfl rfl ?_
            refine o_nilCheck (gy rfl rfl rfl hb) rfl rfl ?_
            refine o_fieldAddr (off := 0) (gy rfl rfl rfl hb) rfl rfl (by kernel_rfl) ?_
            refine o_load (gy rfl rfl rfl hb) rfl rfl (by kernel_rfl) (by assumption) rfl ?_
            refine o_move (gy rfl rfl rfl hb) rfl rfl ?_
            refine o_indexAddr (zz := 1) (gy rfl rfl rfl hb) rfl (congrArg (fun q => some (Value.slice q L.length L.length)) ea1) rfl (by kernel_rfl) (by omega) (by omega) ?_
            refine o_load (gy rfl rfl rfl hb) rfl rfl (by kernel_rfl) hg1 (nsL_at hlt (by omega)) ?_
            refine o_call [_, _, _] (gy rfl rfl rfl hb) rfl rfl (by kernel_rfl) rfl (c_pure (c40 k) ⟨ag0, ?_⟩)
            refine o_not (gy rfl rfl rfl hb) rfl rfl ?_
            exact wl_end ⟨rfl, rfl, 11, rfl, rfl⟩) ?_
        exact wl_end ⟨rfl, rfl, 9, rfl, rfl⟩) ?_
    refine wl_end ?_
    refine w_cond rfl (fun hb => ?_) fun hb => ?_
    · skip
      refine w_skip ?_
      refine w_block ?_
      refine w_region (by kernel_rfl) ?_
      refine o_move gn rfl rfl ?_
      refine o_add gn rfl rfl rfl (by omega) (by omega) ?_
      refine o_assign gn rfl rfl ?_
      refine wl_end ?_
      have hlt : i < L.length := by simp at hb; exact hb.1
      have hcan : canB L (nAt N) i = false := by
        have h2 := hb
        simp only [Bool.and_eq_true] at h2
        have h3 := h2.2
        revert h3
        unfold canB
        cases opL L (i : Int) <;> cases (decide (mkL L (i : Int) < 1) || decide (nAt N (i : Int) ≥ mkL L (i : Int))) <;> simp
      exact ⟨L.length - (i + 1), by omega, [(0, _), (1, _), (5, iV ((i + 1 : Nat) : Int))], (by repeat (first | exact trivial | refine ⟨rfl, ?_⟩)), i + 1, by omega, rfl, fun j hj => by
        by_cases e : j = i
        · subst e; exact hcan
        · exact hno j (by omega), rfl, rfl⟩
    · skip
      refine w_exit ?_
      refine thn_exit ?_
      refine rnd_exit ?_
      refine blk_eq ?_
      have hyes : i < L.length → canB L (nAt N) i = true := fun hlt => by
        revert hb
        have : decide ((i : Int) < (L.length : Nat)) = true := by simp [hlt]
        rw [this]
        unfold canB
        cases opL L (i : Int) <;> cases (decide (mkL L (i : Int) < 1) || decide (nAt N (i : Int) ≥ mkL L (i : Int))) <;> simp
      refine w_seq ?_
      refine w_seq ?_
      refine w_region (by kernel_rfl) ?_
      refine o_move gn rfl rfl ?_
      refine o_move gn rfl rfl ?_
      refine o_nilCheck gn rfl rfl ?_
      refine o_fieldAddr (off := 0) gn rfl rfl (by kernel_rfl) ?_
      refine o_load gn rfl rfl (by kernel_rfl) (by assumption) rfl ?_
      refine o_len gn rfl rfl (by kernel_rfl) ?_
      refine o_eqi gn rfl rfl rfl ?_
      refine wl_end ?_
      refine w_cond rfl (fun hb => ?_) fun hb => ?_
      · skip
        refine w_seq ?_
        refine w_region (by kernel_rfl) ?_
        refine o_move gn rfl rfl ?_
        refine o_move gn rfl rfl ?_
        refine o_nilCheck gn rfl rfl ?_
        refine o_fieldAddr (off := 0) gn rfl rfl (by kernel_rfl) ?_
        refine o_load gn rfl rfl (by kernel_rfl) (by assumption) rfl ?_
        refine o_buildSlice (e := 3) (z := 0) (zv := .int .i64 0) [(0, _)] gn rfl (by kernel_rfl) (by kernel_rfl) (by kernel_rfl) (by kernel_rfl) rfl rfl ?_
        have hge : i = L.length := by have := of_decide_eq_true hb; omega
        subst hge
        have hbl := x.lt
        obtain ⟨a8, h8, B8, p1, p2, p3, p4⟩ := push_is (l := L.map (·.1)) (x := 0) x.rn (by simp; omega)
        have g8 := (p3.get b x.lt x.n1).trans ht
        have p3n := p3.n
        refine o_append gn rfl rfl rfl p1 ag0 ?_
        refine o_nilCheck gn rfl rfl ?_
        refine o_fieldAddr (off := 0) gn rfl rfl (by kernel_rfl) ?_
        refine o_store gn rfl rfl rfl (by kernel_rfl) g8 (by decide) (by simp) ag0 ?_
        refine wl_end ?_
        refine w_region (by kernel_rfl) ?_
        refine o_move gn rfl rfl ?_
        refine o_move gn rfl rfl ?_
        refine o_nilCheck gn rfl rfl ?_
        refine o_fieldAddr (off := 1) gn rfl rfl (by kernel_rfl) ?_
        refine o_load gn rfl rfl (by kernel_rfl) (Hp.get_put_self _ _ _) rfl ?_
        refine o_buildSlice (e := 4) (z := 0) (zv := .bool false) [(0, _)] gn rfl (by kernel_rfl) (by kernel_rfl) (by kernel_rfl) (by kernel_rfl) rfl rfl ?_
        have rA := (x.ro.keep p3 (fun j hj hw => x.d j hw hj)).keep (ExtB.put h8 b (.cells ([Value.slice aN L.length L.length, .slice aO L.length L.length].set 0 (.slice a8 (isV (L.map (·.1) ++ [0])).length (isV (L.map (·.1) ++ [0])).length)) 45 0)) (fun j hj hw => x.n2 (by simp at hw; exact hw ▸ hj))
        obtain ⟨a9, h9, B9, q1, q2, q3, q4⟩ := push_bs (l := L.map (·.2)) (x := false) rA (by simp; omega)
        have g9 := (q3.get b (by rw [Hp.n_put]; omega) x.n2).trans (Hp.get_put_self _ _ _)
        have q3n := q3.n
        rw [Hp.n_put] at q3n
        refine o_append gn rfl rfl rfl q1 ag0 ?_
        refine o_nilCheck gn rfl rfl ?_
        refine o_fieldAddr (off := 1) gn rfl rfl (by kernel_rfl) ?_
        refine o_store gn rfl rfl rfl (by kernel_rfl) g9 (by decide) (by simp) ag0 ?_
        refine wl_end ?_
        have p2l := p2.lt
        have x1l := x.rn.lt
        have x2l := x.ro.lt
        obtain ⟨bb, m, e9, hg, hm, hbbl, hB9⟩ := q2.at (by simp)
        simp only [Value.slice.injEq, and_true] at e9
        subst e9
        have hb9 : bb ∈ B2 ∨ h8.n ≤ bb := by have := q4 bb (by simp [hB9]); rwa [Hp.n_put] at this
        have hbb : b ≠ bb := fun e => by
          rcases hb9 with h1 | h1
          · exact x.n2 (e ▸ h1)
          · omega
        have hb8 : b ∉ B8 := fun hj => by
          rcases p4 b hj with h1 | h1
          · exact x.n1 h1
          · omega
        have hbb8 : ∀ j, j ∈ B8 → j ≠ bb := fun j hj e => by
          subst e
          have l1 := p2l j hj
          rcases hb9 with h1 | h1
          · rcases p4 j hj with h2 | h2
            · exact x.d j h2 h1
            · have := x2l j h1; omega
          · omega
        have s8 := ((p2.keep (ExtB.put h8 b (.cells ([Value.slice aN L.length L.length, .slice aO L.length L.length].set 0 (.slice a8 (isV (L.map (·.1) ++ [0])).length (isV (L.map (·.1) ++ [0])).length)) 45 0)) (fun j hj hw => hb8 (by simp at hw; exact hw ▸ hj))).keep q3 (fun j hj hw => by
          have l1 := p2l j hj
          rcases p4 j hj with h2 | h2
          · exact x.d j h2 hw
          · have := x2l j hw; omega))
        have hX : ExtB (b :: (B1 ++ B2)) hh h9 := ((p3.mono (fun j hj _ => by simp [hj])).trans ((ExtB.put _ _ _).mono (by simp))).trans (q3.mono (fun j hj _ => by simp [hj]))
        refine w_at (fun m1 => m1.get b = some (.cells [.slice a8 (isV (L.map (·.1) ++ [0])).length (isV (L.map (·.1) ++ [0])).length, .slice (some ⟨bb, 0, none⟩) (bsV (L.map (·.2) ++ [false])).length (bsV (L.map (·.2) ++ [false])).length] 45 0) ∧ Sl 3 m1 (.slice a8 (isV (L.map (·.1) ++ [0])).length (isV (L.map (·.1) ++ [0])).length) (isV (L.map (·.1) ++ [0])) B8 ∧ m1.get bb = some (.cells (bsV (L.map (·.2) ++ [false])) 4 m) ∧ ExtB (b :: (B1 ++ B2)) hh m1 ∧ m1.n = h9.n) ⟨Hp.get_put_self _ _ _, s8.keep (ExtB.put _ _ _) (fun j hj hw => hb8 (by simp at hw; exact hw ▸ hj)), by rw [Hp.get_put, if_neg hbb]; exact hg, hX.trans ((ExtB.put _ _ _).mono (by simp)), Hp.n_put _ _ _⟩ fun m1 ⟨u1, u2, u3, u4, u5⟩ => ?_
        have hlen9 : (bsV (L.map (·.2) ++ [false])).length = L.length + 1 := by simp
        refine w_seq ?_
        refine w_region (by kernel_rfl) ?_
        refine o_move gn rfl rfl ?_
        refine o_nilCheck gn rfl rfl ?_
        refine o_fieldAddr (off := 1) gn rfl rfl (by kernel_rfl) ?_
        refine o_load gn rfl rfl (by kernel_rfl) u1 rfl ?_
        refine o_move gn rfl rfl ?_
        refine o_indexAddr (zz := 1) gn rfl rfl rfl (by kernel_rfl) (by omega) (by omega) ?_
        refine o_store gn rfl rfl rfl (by kernel_rfl) u3 (by omega) (by simp) ag0 ?_
        refine wl_end ?_
        refine w_seq ?_
        refine w_region (by kernel_rfl) ?_
        refine o_move gn rfl rfl ?_
        refine o_assign gn rfl rfl ?_
        refine wl_end ?_
        refine w_ret ?_
        refine ⟨.inl rfl, _, rfl, ?_⟩
        have e1 : isV (L.map (·.1) ++ [0]) = nsL (L ++ [(0, true)]) := by simp [nsL]
        have e2 : (bsV (L.map (·.2) ++ [false])).set (0 + ((L.length : Nat) : Int).toNat * 1) (.bool true) = osL (L ++ [(0, true)]) := by
          rw [Int.toNat_natCast, Nat.zero_add, Nat.mul_one]
          simp [osL]
        have e3 : (osL (L ++ [(0, true)])).length = (bsV (L.map (·.2) ++ [false])).length := by simp [osL]
        rw [e2]
        rw [e1] at u1 u2
        refine ⟨L.length, L ++ [(0, true)], _, rfl, ⟨by omega, hno, .inr ⟨rfl, rfl⟩⟩, ⟨_, _, B8, [bb], ⟨by rw [Hp.get_put, if_neg (fun e => hbb e.symm)]; exact u1, u2.keep (ExtB.put _ _ _) (fun j hj hw => by simp at hw; exact hbb8 j hj hw), Sl.put e3.symm hm (by omega), by rw [Hp.n_put]; omega, hb8, by simp; exact hbb, fun j hj hw => by simp at hw; exact hbb8 j hj hw⟩, rfl⟩, ?_, fun z hz => ?_⟩
        · exact ExtB.join u4 (ExtB.put _ _ _) (fun j hj => by
            simp at hj
            subst hj
            rcases hb9 with h1 | h1
            · exact .inl (by simp [h1])
            · exact .inr (by omega))
        · simp only [List.mem_cons, List.mem_append, List.not_mem_nil, or_false] at hz ⊢
          rcases hz with h1 | h1 | h1
          · exact .inl (.inl h1)
          · rcases p4 z h1 with h2 | h2
            · exact .inl (.inr (.inl h2))
            · exact .inr h2
          · subst h1
            rcases hb9 with h2 | h2
            · exact .inl (.inr (.inr h2))
            · exact .inr (by omega)
      · skip
        have hlt : i < L.length := by have := of_decide_eq_false hb; omega
        obtain ⟨bb, m, rfl, hg, hm, hB, hbl⟩ := x.atO (by omega)
        refine w_skip ?_
        refine w_seq ?_
        refine w_region (by kernel_rfl) ?_
        refine o_move gn rfl rfl ?_
        refine o_nilCheck gn rfl rfl ?_
        refine o_fieldAddr (off := 1) gn rfl rfl (by kernel_rfl) ?_
        refine o_load gn rfl rfl (by kernel_rfl) (by assumption) rfl ?_
        refine o_move gn rfl rfl ?_
        refine o_indexAddr (zz := 1) gn rfl rfl rfl (by kernel_rfl) (by omega) (by omega) ?_
        refine o_store gn rfl rfl rfl (by kernel_rfl) hg (by omega) (by rw [osL_len]; omega) ag0 ?_
        refine wl_end ?_
        refine w_seq ?_
        refine w_region (by kernel_rfl) ?_
        refine o_move gn rfl rfl ?_
        refine o_assign gn rfl rfl ?_
        refine wl_end ?_
        refine w_ret ?_
        refine ⟨.inl rfl, _, rfl, ?_⟩
        have e : (osL L).set (0 + (i : Int).toNat * 1) (.bool true) = osL (setO L (i : Int) true) := by
          rw [setO_os]; congr 1; omega
        rw [e]
        exact ⟨i, _, _, rfl, ⟨by omega, hno, .inl ⟨hlt, hyes hlt, rfl⟩⟩, ⟨_, _, B1, B2, x.putO hB hm hbl (setO_len _ _ _) (setO_ns (th_nat hlt) _), rfl⟩, (ExtB.put _ _ _).mono (by simp [hB]), fun z hz => .inl hz⟩

theorem c19 (x : DcAt h b L own) (hl : L.length ≤ 100000) : C clkE 19 [ptrV b] h fun v h' => ∃ b' own', v = ptrV b' ∧ DcAt h' b' L own' ∧ (∀ i, i ∈ own' → h.n ≤ i) ∧ Ext h h' := by
  obtain ⟨sN, sO, B1, B2, x, rfl⟩ := x
  obtain ⟨aN, aO, rfl, rfl⟩ := x.val
  have ht := x.top
  have hall1 : (nsL L).all cellV = true := all_is _
  have hall2 : (osL L).all cellV = true := by simp [osL, List.all_map, List.all_eq_true, cellV]
  refine c_enter (fu := Try.f19) (by kernel_rfl) rfl ?_
  refine w_seq ?_
  refine w_region (by kernel_rfl) ?_
  refine o_assign gn rfl rfl ?_
  refine wl_end ?_
  refine w_seq ?_
  refine w_draw [(0, []), (1, []), (2, []), (3, []), (5, []), (6, []), (7, []), (8, []), (4, [8]), (9, []), (10, []), (11, []), (12, [])] (by kernel_rfl) (by kernel_rfl) (by kernel_rfl) (by kernel_rfl) ?_
  refine o_move gn rfl rfl ?_
  refine o_nilCheck gn rfl rfl ?_
  refine o_fieldAddr (off := 0) gn rfl rfl (by kernel_rfl) ?_
  refine o_load gn rfl rfl (by kernel_rfl) (by assumption) rfl ?_
  refine o_move gn rfl rfl ?_
  refine o_nilCheck gn rfl rfl ?_
  refine o_fieldAddr (off := 1) gn rfl rfl (by kernel_rfl) ?_
  refine o_load gn rfl rfl (by kernel_rfl) (by assumption) rfl ?_
  obtain ⟨v1, h1, C1, p1, p2, p3, p4⟩ := append_nil el3 (x.rn.src hall1) (by rw [nsL_len]; omega)
  obtain ⟨a1, rfl⟩ := p2.val
  have ht1 := (p3.get b x.lt).trans ht
  refine o_append gn rfl rfl rfl p1 (ag1 (ag_load gn rfl (by kernel_rfl) (by assumption) rfl rfl same_slice) ag0) ?_
  obtain ⟨v2, h2, C2, q1, q2, q3, q4⟩ := append_nil el4 ((x.ro.ext p3).src hall2) (by rw [osL_len]; omega)
  obtain ⟨a2, rfl⟩ := q2.val
  refine o_append gn rfl rfl rfl q1 ag0 ?_
  refine o_build (zv := .agg #[.slice none 0 0, .slice none 0 0]) (pl := [(0, 1), (1, 1)]) [(0, _), (1, _)] gn rfl (by kernel_rfl) (by kernel_rfl) rfl rfl ?_
  refine o_box gn rfl rfl ?_
  refine o_assign gn rfl rfl ?_
  refine wl_end ?_
  refine w_ret ?_
  refine ⟨.inl rfl, _, rfl, ?_⟩
  have p2l := p2.lt
  have q2l := q2.lt
  have p3n := p3.n
  have q3n := q3.n
  refine ⟨h2.n, _, rfl, ⟨_, _, C1, C2, ⟨Hp.get_alloc_self _ _, (p2.ext q3).ext (Ext.alloc _ _), q2.ext (Ext.alloc _ _), by rw [Hp.n_alloc]; omega, fun hj => by have := p2l _ hj; omega, fun hj => by have := q2l _ hj; omega, fun i hi hj => by have := p2l i hi; have := q4 i hj; omega⟩, rfl⟩, fun i hi => ?_, (p3.trans q3).trans (Ext.alloc _ _)⟩
  simp only [List.mem_cons, List.mem_append] at hi
  rcases hi with rfl | hi | hi
  · omega
  · exact p4 i hi
  · have := q4 i hi; omega
end

end Go.Proofs.Ytkhnhaijnnpjhaa


namespace Go.Proofs.Ytkhnhaijnnpjhaa
open Go.X

section
variable {h h' : Hp} {b bo bd : Nat} {L K : Cs} {own oo : List Nat}

/-- SameChains -/
theorem c28 (x : DcAt h b L own) (y : DcAt h bo K oo) (hl : L.length ≤ 100000) : CP clkE 28 [ptrV b, ptrV bo] h (.bool (decide (L = K))) := by
  obtain ⟨sN, sO, B1, B2, x, rfl⟩ := x
  obtain ⟨aN, aO, rfl, rfl⟩ := x.val
  obtain ⟨tN, tO, D1, D2, y, rfl⟩ := y
  obtain ⟨cN, cO, rfl, rfl⟩ := y.val
  have ht := x.top
  have ht2 := y.top
  refine c_enter (fu := Try.f28) (by kernel_rfl) rfl ?_
  refine w_seq ?_
  refine w_region (by kernel_rfl) ?_
  refine o_assign gn rfl rfl ?_
  refine wl_end ?_
  refine w_seq ?_
  refine w_seq ?_
  refine w_draw [(0, []), (1, []), (2, []), (3, []), (4, []), (5, []), (6, []), (7, []), (8, []), (9, []), (10, [])] (by kernel_rfl) (by kernel_rfl) (by kernel_rfl) (by kernel_rfl) ?_
  refine o_move gn rfl rfl ?_
  refine o_nilCheck gn rfl rfl ?_
  refine o_fieldAddr (off := 0) gn rfl rfl (by kernel_rfl) ?_
  refine o_load gn rfl rfl (by kernel_rfl) ht rfl ?_
  refine o_len gn rfl rfl (by kernel_rfl) ?_
  refine o_move gn rfl rfl ?_
  refine o_nilCheck gn rfl rfl ?_
  refine o_fieldAddr (off := 0) gn rfl rfl (by kernel_rfl) ?_
  refine o_load gn rfl rfl (by kernel_rfl) ht2 rfl ?_
  refine o_len gn rfl rfl (by kernel_rfl) ?_
  refine o_nei gn rfl rfl rfl ?_
  refine wl_end ?_
  refine w_cond rfl (fun hb => ?_) fun hb => ?_
  · skip
    refine w_seq ?_
    refine w_region (by kernel_rfl) ?_
    refine o_assign gn rfl rfl ?_
    refine wl_end ?_
    refine w_ret ?_
    refine ⟨.inl rfl, _, rfl, ?_⟩
    have : L ≠ K := fun e => by subst e; simp at hb
    exact ⟨by simp [oneOf, this], rfl⟩
  · skip
    have hlen : L.length = K.length := by simp at hb; omega
    refine w_skip ?_
    refine w_seq ?_
    refine w_seq ?_
    refine w_region (by kernel_rfl) ?_
    refine o_assign gn rfl rfl ?_
    refine wl_end ?_
    refine w_block ?_
    refine w_weak [(0, ptrV b), (1, ptrV bo), (5, iV (0 : Nat))] (by repeat (first | exact trivial | refine ⟨rfl, ?_⟩)) ?_
    refine w_loop (fun k l hh => ∃ i : Nat, i ≤ L.length ∧ k = L.length - i ∧ (∀ j (hj : j < L.length) (hk : j < K.length), j < i → L[j] = K[j]) ∧ l = [(0, ptrV b), (1, ptrV bo), (5, iV (i : Nat))] ∧ hh = h) (n := L.length) ?_ fun k l hh hI => ?_
    · exact ⟨0, by omega, by omega, fun j _ _ hj => by omega, rfl, rfl⟩
    · obtain ⟨i, hi, rfl, hall, rfl, rfl⟩ := hI
      refine w_seq ?_
      refine w_seq ?_
      refine w_region (by kernel_rfl) ?_
      refine o_move gn rfl rfl ?_
      refine o_move gn rfl rfl ?_
      refine o_nilCheck gn rfl rfl ?_
      refine o_fieldAddr (off := 0) gn rfl rfl (by kernel_rfl) ?_
      refine o_load gn rfl rfl (by kernel_rfl) ht rfl ?_
      refine o_len gn rfl rfl (by kernel_rfl) ?_
      refine o_lss gn rfl rfl rfl ?_
      refine wl_end ?_
      refine w_cond rfl (fun hb => ?_) fun hb => ?_
      · skip
        have hlt : i < L.length := by simpa using hb
        have hlk : i < K.length := by omega
        obtain ⟨b1, m1, rfl, hg1, _⟩ := x.atN (by omega)
        obtain ⟨b2, m2, rfl, hg2, _⟩ := x.atO (by omega)
        obtain ⟨b3, m3, rfl, hg3, _⟩ := y.atN (by omega)
        obtain ⟨b4, m4, rfl, hg4, _⟩ := y.atO (by omega)
        refine w_skip ?_
        refine w_seq ?_
        refine w_block ?_
        refine w_seq ?_
        refine w_draw [(0, []), (1, []), (2, []), (3, []), (4, []), (5, []), (6, []), (7, []), (8, []), (9, []), (10, []), (11, []), (12, []), (13, []), (14, []), (15, []), (16, []), (17, []), (18, []), (19, []), (20, []), (21, []), (22, []), (23, []), (24, []), (25, []), (26, []), (27, []), (28, []), (29, []), (30, []), (31, [])] (by kernel_rfl) (by kernel_rfl) (by kernel_rfl) (by kernel_rfl) ?_
        refine o_move gn rfl rfl ?_
        refine o_nilCheck gn rfl rfl ?_
        refine o_fieldAddr (off := 0) gn rfl rfl (by kernel_rfl) ?_
        refine o_load gn rfl rfl (by kernel_rfl) ht rfl ?_
        refine o_move gn rfl rfl ?_
        refine o_indexAddr (zz := 1) gn rfl rfl rfl (by kernel_rfl) (by omega) (by omega) ?_
        refine o_load gn rfl rfl (by kernel_rfl) hg1 (nsL_at hlt (by omega)) ?_
        refine o_move gn rfl rfl ?_
        refine o_nilCheck gn rfl rfl ?_
        refine o_fieldAddr (off := 0) gn rfl rfl (by kernel_rfl) ?_
        refine o_load gn rfl rfl (by kernel_rfl) ht2 rfl ?_
        refine o_move gn rfl rfl ?_
        refine o_indexAddr (zz := 1) gn rfl rfl rfl (by kernel_rfl) (by omega) (by omega) ?_
        refine o_load gn rfl rfl (by kernel_rfl) hg3 (nsL_at hlk (by omega)) ?_
        refine o_nei gn rfl rfl rfl ?_
        refine o_move gn rfl rfl ?_
        refine o_or (n := 15) rfl rfl rfl gn rfl (fun hb => by
            refine o_move (gy rfl rfl rfl hb) rfl rfl ?_
            refine o_nilCheck (gy rfl rfl rfl hb) rfl rfl ?_
            refine o_fieldAddr (off := 1) (gy rfl rfl rfl hb) rfl rfl (by kernel_rfl) ?_
            refine o_load (gy rfl rfl rfl hb) rfl rfl (by kernel_rfl) ht rfl ?_
            refine o_move (gy rfl rfl rfl hb) rfl rfl ?_
            refine o_indexAddr (zz := 1) (gy rfl rfl rfl hb) rfl rfl rfl (by kernel_rfl) (by omega) (by omega) ?_
            refine o_load (gy rfl rfl rfl hb) rfl rfl (by kernel_rfl) hg2 (osL_at hlt (by omega)) ?_
            refine o_move (gy rfl rfl rfl hb) rfl rfl ?_
            refine o_nilCheck (gy rfl rfl rfl hb) rfl rfl ?_
            refine o_fieldAddr (off := 1) (gy rfl rfl rfl hb) rfl rfl (by kernel_rfl) ?_
            refine o_load (gy rfl rfl rfl hb) rfl rfl (by kernel_rfl) ht2 rfl ?_
            refine o_move (gy rfl rfl rfl hb) rfl rfl ?_
            refine o_indexAddr (zz := 1) (gy rfl rfl rfl hb) rfl rfl rfl (by kernel_rfl) (by omega) (by omega) ?_
            refine o_load (gy rfl rfl rfl hb) rfl rfl (by kernel_rfl) hg4 (osL_at hlk (by omega)) ?_
            refine o_neb (gy rfl rfl rfl hb) rfl rfl rfl (by kernel_rfl) ?_
            exact wl_end ⟨rfl, rfl, 15, rfl, rfl⟩) ?_
        refine wl_end ?_
        refine w_cond rfl (fun hb => ?_) fun hb => ?_
        · skip
          refine w_seq ?_
          refine w_region (by kernel_rfl) ?_
          refine o_assign gn rfl rfl ?_
          refine wl_end ?_
          refine w_ret ?_
          refine ⟨.inl rfl, _, rfl, ?_⟩
          have : L ≠ K := fun e => by subst e; simp at hb
          exact ⟨by simp [oneOf, this], rfl⟩
        · skip
          refine w_skip ?_
          refine w_region (by kernel_rfl) ?_
          refine o_move gn rfl rfl ?_
          refine o_add gn rfl rfl rfl (by omega) (by omega) ?_
          refine o_assign gn rfl rfl ?_
          refine wl_end ?_
          have heq : L[i] = K[i] := by
            rw [mkL_get hlt, mkL_get hlk, opL_get hlt, opL_get hlk] at hb
            simp at hb
            exact Prod.ext hb.1 hb.2
          exact ⟨L.length - (i + 1), by omega, [(0, _), (1, _), (5, iV ((i + 1 : Nat) : Int))], (by repeat (first | exact trivial | refine ⟨rfl, ?_⟩)), i + 1, by omega, rfl, fun j hj hk hji => by
            by_cases e : j = i
            · subst e; exact heq
            · exact hall j hj hk (by omega), rfl, rfl⟩
      · skip
        refine w_exit ?_
        refine thn_exit ?_
        refine rnd_exit ?_
        refine blk_eq ?_
        refine w_seq ?_
        refine w_region (by kernel_rfl) ?_
        refine o_assign gn rfl rfl ?_
        refine wl_end ?_
        refine w_ret ?_
        refine ⟨.inl rfl, _, rfl, ?_⟩
        have hge : i = L.length := by simp at hb; omega
        have : L = K := List.ext_getElem hlen fun j h1 h2 => hall j h1 h2 (by omega)
        exact ⟨by simp [oneOf, this], rfl⟩

/-- alike -/
theorem c29 (x : ChAt h b L own) (y : DcAt h bd L oo) (hl : L.length ≤ 100000) : CP clkE 29 [ptrV b, ptrV bd] h (.bool true) := by
  obtain ⟨tN, tO, D1, D2, y, rfl⟩ := y
  obtain ⟨cN, cO, rfl, rfl⟩ := y.val
  have ht := y.top
  refine c_enter (fu := Try.f29) (by kernel_rfl) rfl ?_
  refine w_seq ?_
  refine w_region (by kernel_rfl) ?_
  refine o_assign gn rfl rfl ?_
  refine wl_end ?_
  refine w_seq ?_
  refine w_seq ?_
  refine w_draw [(0, []), (2, []), (3, []), (4, []), (5, []), (6, []), (1, [5, 6]), (7, [])] (by kernel_rfl) (by kernel_rfl) (by kernel_rfl) (by kernel_rfl) ?_
  refine o_move gn rfl rfl ?_
  refine o_move gn rfl rfl ?_
  refine o_nilCheck gn rfl rfl ?_
  refine o_fieldAddr (off := 0) gn rfl rfl (by kernel_rfl) ?_
  refine o_load gn rfl rfl (by kernel_rfl) (by assumption) rfl ?_
  refine o_len gn rfl rfl (by kernel_rfl) ?_
  refine o_call [_] gn rfl rfl (by kernel_rfl) rfl (c_pure (c35 x) ⟨(ag1 (ag_load gn rfl (by kernel_rfl) (by assumption) rfl rfl same_slice) (ag1 (ag_len gn rfl (by kernel_rfl) rfl) ag0)), ?_⟩)
  refine o_nei gn rfl rfl rfl ?_
  refine wl_end ?_
  refine w_cond rfl (fun hb => ?_) fun hb => ?_
  · skip
    refine w_seq ?_
    refine w_region (by kernel_rfl) ?_
    refine o_assign gn rfl rfl ?_
    refine wl_end ?_
    refine w_ret ?_
    refine ⟨.inl rfl, _, rfl, ?_⟩
    simp at hb
  · skip
    refine w_skip ?_
    refine w_seq ?_
    refine w_seq ?_
    refine w_region (by kernel_rfl) ?_
    refine o_assign gn rfl rfl ?_
    refine wl_end ?_
    refine w_block ?_
    refine w_weak [(0, ptrV b), (1, ptrV bd), (5, iV (-1))] (by repeat (first | exact trivial | refine ⟨rfl, ?_⟩)) ?_
    refine w_loop (fun k l hh => ∃ i : Int, -1 ≤ i ∧ i ≤ L.length + 1 ∧ k = (L.length + 1 - i).toNat ∧ l = [(0, ptrV b), (1, ptrV bd), (5, iV i)] ∧ hh = h) (n := (L.length + 2)) ?_ fun k l hh hI => ?_
    · exact ⟨-1, by omega, by omega, by omega, rfl, rfl⟩
    · obtain ⟨i, hi0, hi1, rfl, rfl, rfl⟩ := hI
      refine w_seq ?_
      refine w_seq ?_
      refine w_region (by kernel_rfl) ?_
      refine o_move gn rfl rfl ?_
      refine o_move gn rfl rfl ?_
      refine o_nilCheck gn rfl rfl ?_
      refine o_fieldAddr (off := 0) gn rfl rfl (by kernel_rfl) ?_
      refine o_load gn rfl rfl (by kernel_rfl) (by assumption) rfl ?_
      refine o_len gn rfl rfl (by kernel_rfl) ?_
      refine o_leq gn rfl rfl rfl ?_
      refine wl_end ?_
      refine w_cond rfl (fun hb => ?_) fun hb => ?_
      · skip
        have hle : i ≤ L.length := by simpa using hb
        refine w_skip ?_
        refine w_seq ?_
        refine w_block ?_
        refine w_seq ?_
        refine w_region (by kernel_rfl) ?_
        refine o_assign gn rfl rfl ?_
        refine o_assign gn rfl rfl ?_
        refine wl_end ?_
        refine w_seq ?_
        refine w_seq ?_
        refine w_region (by kernel_rfl) ?_
        refine o_move gn rfl rfl ?_
        refine o_geq gn rfl rfl rfl ?_
        refine o_move gn rfl rfl ?_
        refine o_and (n := 7) rfl rfl rfl gn rfl (fun hb => by
            refine o_move (gy rfl rfl rfl hb) rfl rfl ?_
            refine o_move (gy rfl rfl rfl hb) rfl rfl ?_
            refine o_nilCheck (gy rfl rfl rfl hb) rfl rfl ?_
            refine o_fieldAddr (off := 0) (gy rfl rfl rfl hb) rfl rfl (by kernel_rfl) ?_
            refine o_load (gy rfl rfl rfl hb) rfl rfl (by kernel_rfl) (by assumption) rfl ?_
            refine o_len (gy rfl rfl rfl hb) rfl rfl (by kernel_rfl) ?_
            refine o_lss (gy rfl rfl rfl hb) rfl rfl rfl ?_
            exact wl_end ⟨rfl, rfl, 7, rfl, rfl⟩) ?_
        refine wl_end ?_
        refine w_cond rfl (fun hb => ?_) fun hb => ?_
        · skip
          have hin : 0 ≤ i ∧ i < L.length := by simpa using hb
          obtain ⟨b1, m1, rfl, hg1, _⟩ := y.atN (by omega)
          obtain ⟨b2, m2, rfl, hg2, _⟩ := y.atO (by omega)
          have e1 := nsL_at (L := L) (i := i.toNat) (by omega) rfl
          have e2 := osL_at (L := L) (i := i.toNat) (by omega) rfl
          rw [Int.toNat_of_nonneg hin.1] at e1 e2
          refine w_draw [(0, []), (1, []), (2, []), (3, []), (4, []), (5, []), (6, []), (7, []), (8, []), (9, []), (10, []), (11, []), (12, []), (13, []), (14, []), (15, [])] (by kernel_rfl) (by kernel_rfl) (by kernel_rfl) (by kernel_rfl) ?_
          refine o_move gn rfl rfl ?_
          refine o_nilCheck gn rfl rfl ?_
          refine o_fieldAddr (off := 0) gn rfl rfl (by kernel_rfl) ?_
          refine o_load gn rfl rfl (by kernel_rfl) (by assumption) rfl ?_
          refine o_move gn rfl rfl ?_
          refine o_indexAddr (zz := 1) gn rfl rfl rfl (by kernel_rfl) (by omega) (by omega) ?_
          refine o_load gn rfl rfl (by kernel_rfl) hg1 (by simpa using e1) ?_
          refine o_move gn rfl rfl ?_
          refine o_nilCheck gn rfl rfl ?_
          refine o_fieldAddr (off := 1) gn rfl rfl (by kernel_rfl) ?_
          refine o_load gn rfl rfl (by kernel_rfl) (by assumption) rfl ?_
          refine o_move gn rfl rfl ?_
          refine o_indexAddr (zz := 1) gn rfl rfl rfl (by kernel_rfl) (by omega) (by omega) ?_
          refine o_load gn rfl rfl (by kernel_rfl) hg2 (by simpa using e2) ?_
          refine o_assign gn rfl rfl ?_
          refine o_assign gn rfl rfl ?_
          refine wl_end ?_
          refine w_seq ?_
          refine w_region (by kernel_rfl) ?_
          refine o_move gn rfl rfl ?_
          refine o_move gn rfl rfl ?_
          refine o_call [_, _] gn rfl rfl (by kernel_rfl) rfl (c_pure (c36 x hl) ⟨ag0, ?_⟩)
          refine o_move gn rfl rfl ?_
          refine o_nei gn rfl rfl rfl ?_
          refine o_move gn rfl rfl ?_
          refine o_or (n := 5) rfl rfl rfl gn rfl (fun hb => by
              refine o_move (gy rfl rfl rfl hb) rfl rfl ?_
              refine o_move (gy rfl rfl rfl hb) rfl rfl ?_
              refine o_call [_, _] (gy rfl rfl rfl hb) rfl rfl (by kernel_rfl) rfl (c_pure (c37 x hl) ⟨ag0, ?_⟩)
              refine o_move (gy rfl rfl rfl hb) rfl rfl ?_
              refine o_neb (gy rfl rfl rfl hb) rfl rfl rfl (by kernel_rfl) ?_
              exact wl_end ⟨rfl, rfl, 5, rfl, rfl⟩) ?_
          refine wl_end ?_
          refine w_cond rfl (fun hb => ?_) fun hb => ?_
          · skip
            refine w_seq ?_
            refine w_region (by kernel_rfl) ?_
            refine o_assign gn rfl rfl ?_
            refine wl_end ?_
            refine w_ret ?_
            refine ⟨.inl rfl, _, rfl, ?_⟩
            simp at hb
          · skip
            refine w_skip ?_
            refine w_region (by kernel_rfl) ?_
            refine o_move gn rfl rfl ?_
            refine o_add gn rfl rfl rfl (by omega) (by omega) ?_
            refine o_assign gn rfl rfl ?_
            refine wl_end ?_
            exact ⟨(L.length + 1 - (i + 1)).toNat, by omega, [(0, _), (1, _), (5, iV (i + 1))], (by repeat (first | exact trivial | refine ⟨rfl, ?_⟩)), i + 1, by omega, by omega, rfl, rfl, rfl⟩
        · skip
          have hno := thB_no (L := L) (i := i) hb
          refine w_skip ?_
          refine w_seq ?_
          refine w_region (by kernel_rfl) ?_
          refine o_move gn rfl rfl ?_
          refine o_move gn rfl rfl ?_
          refine o_call [_, _] gn rfl rfl (by kernel_rfl) rfl (c_pure (c36 x hl) ⟨ag0, ?_⟩)
          refine o_move gn rfl rfl ?_
          refine o_nei gn rfl rfl rfl ?_
          refine o_move gn rfl rfl ?_
          refine o_or (n := 5) rfl rfl rfl gn rfl (fun hb => by
              refine o_move (gy rfl rfl rfl hb) rfl rfl ?_
              refine o_move (gy rfl rfl rfl hb) rfl rfl ?_
              refine o_call [_, _] (gy rfl rfl rfl hb) rfl rfl (by kernel_rfl) rfl (c_pure (c37 x hl) ⟨ag0, ?_⟩)
              refine o_move (gy rfl rfl rfl hb) rfl rfl ?_
              refine o_neb (gy rfl rfl rfl hb) rfl rfl rfl (by kernel_rfl) ?_
              exact wl_end ⟨rfl, rfl, 5, rfl, rfl⟩) ?_
          refine wl_end ?_
          refine w_cond rfl (fun hb => ?_) fun hb => ?_
          · skip
            refine w_seq ?_
            refine w_region (by kernel_rfl) ?_
            refine o_assign gn rfl rfl ?_
            refine wl_end ?_
            refine w_ret ?_
            refine ⟨.inl rfl, _, rfl, ?_⟩
            rw [hno.1, hno.2] at hb; simp at hb
          · skip
            refine w_skip ?_
            refine w_region (by kernel_rfl) ?_
            refine o_move gn rfl rfl ?_
            refine o_add gn rfl rfl rfl (by omega) (by omega) ?_
            refine o_assign gn rfl rfl ?_
            refine wl_end ?_
            exact ⟨(L.length + 1 - (i + 1)).toNat, by omega, [(0, _), (1, _), (5, iV (i + 1))], (by repeat (first | exact trivial | refine ⟨rfl, ?_⟩)), i + 1, by omega, by omega, rfl, rfl, rfl⟩
      · skip
        refine w_exit ?_
        refine thn_exit ?_
        refine rnd_exit ?_
        refine blk_eq ?_
        refine w_seq ?_
        refine w_region (by kernel_rfl) ?_
        refine o_assign gn rfl rfl ?_
        refine wl_end ?_
        refine w_ret ?_
        refine ⟨.inl rfl, _, rfl, ?_⟩
        exact ⟨rfl, rfl⟩
end

end Go.Proofs.Ytkhnhaijnnpjhaa

