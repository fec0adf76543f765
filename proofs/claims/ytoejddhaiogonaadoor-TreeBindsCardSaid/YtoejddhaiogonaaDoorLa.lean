/- Chapter 2: strings.Builder's String, laid at this program by the kit's tool. Conditions: none. Chapter 2: a strings.Builder's copyCheck, gone through at this program. Conditions: none. Chapter 2: the machine over the chapter's program; a strings.Builder's copyCheck and String as calls that are not gone through; known answers true where the table lies. Conditions: the table (strings.asciiSpace). Chapter 2: how tightly twigs bind. Conditions: none. Chapter 2: the law on how tightly twigs bind. Conditions: none. Chapter 2: the arguments of its laws and the table of blanks, as X has them. Conditions: none. -/
import Derived.Shelf.Strings.Builder1
import Derived.Ground.NamesProg
import Derived.Test.YtoejddhaiogonaaDoorProg
import Derived.Test.YtoejddhaiogonaaDoorXd
import Derived.Test.YtoejddhaiogonaaDoorRows
import Derived.Test.YtoejddhaiogonaaDoorXc
import Derived.Test.YtoejddhaiogonaaDoorTie
import Derived.Test.YtoejddhaiogonaaDoorCards
import Derived.SevenTiedAt
import Derived.LaidMore
import Derived.LaidHandle
import Derived.ProofKit
namespace Go.Proofs
open Go.Shelf
def Tryd.lays169_ren : Go.Shelf.Ren := ⟨fun | 169 => 28 | n => n, fun | 70 => 47 | 9 => 9 | 0 => 0 | 72 => 50 | 37 => 48 | 127 => 73 | 3 => 3 | 5 => 5 | n => n, fun | n => n⟩
theorem Tryd.lays169 : Go.Proofs.Lays.n169 Tryd.prog Tryd.lays169_ren := {
  mixed := by kernel_rfl
  f169 := Tryd.func28.trans (congrArg some (by kernel_rfl))
  t0 := Tryd.underlying0
  a0 := Tryd.isAgg0
  z0 := Tryd.sizeOf0
  v0 := Tryd.zeroValue0
  t3 := Tryd.underlying3
  a3 := Tryd.isAgg3
  z3 := Tryd.sizeOf3
  v3 := Tryd.zeroValue3
  t9 := Tryd.underlying9
  a9 := Tryd.isAgg9
  z9 := Tryd.sizeOf9
  v9 := Tryd.zeroValue9
  t37 := Tryd.underlying48
  a37 := Tryd.isAgg48
  z37 := Tryd.sizeOf48
  v37 := Tryd.zeroValue48
  t70 := Tryd.underlying47
  a70 := Tryd.isAgg47
  z70 := Tryd.sizeOf47
  v70 := Tryd.zeroValue47
  t72 := Tryd.underlying50
  a72 := Tryd.isAgg50
  z72 := Tryd.sizeOf50
  v72 := Tryd.zeroValue50
  t127 := Tryd.underlying73
  a127 := Tryd.isAgg73
  z127 := Tryd.sizeOf73
  v127 := Tryd.zeroValue73 }
end Go.Proofs

namespace Go.Proofs.YtoejddhaiogonaaDoor
open Go.X Go.RowKit

theorem tre_size : (Tryd.prog.info? 50).map (·.size) = some 2 := by kernel_rfl

set_option maxHeartbeats 1000000 in
set_option maxRecDepth 100000 in
theorem tre_copy : CopyAt Tryd.prog 87 50 where
  used := fun b off w h0 => by
    obtain ⟨j, hj, _⟩ := Option.map_eq_some_iff.1 tre_size
    have mixed : Tryd.prog.follows .mixedOrders = true := by kernel_rfl
    have t72 := Tryd.underlying50; have a72 := Tryd.isAgg50; have z72 := Tryd.sizeOf50; have v72 := Tryd.zeroValue50; have u72 := run_underlying Tryd.underlying50
    have t70 := Tryd.underlying47; have a70 := Tryd.isAgg47; have z70 := Tryd.sizeOf47; have v70 := Tryd.zeroValue47; have u70 := run_underlying Tryd.underlying47
    have t4 := Tryd.underlying4; have a4 := Tryd.isAgg4; have z4 := Tryd.sizeOf4; have v4 := Tryd.zeroValue4; have u4 := run_underlying Tryd.underlying4
    have t164 := Tryd.underlying103; have a164 := Tryd.isAgg103; have z164 := Tryd.sizeOf103; have v164 := Tryd.zeroValue103; have u164 := run_underlying Tryd.underlying103
    go_enter Tryd.func87, Tryd.ntmps87
    go_wp2
    rw [Lib.run_neq_ptr_same w _ t70 hj]
    go_wp2
    go_end0
    exact ⟨rfl, rfl⟩
  fresh := fun b off e cells w h0 hsh hoff hlies hfz => by
    obtain ⟨j, hj, hjs⟩ := Option.map_eq_some_iff.1 tre_size
    have mixed : Tryd.prog.follows .mixedOrders = true := by kernel_rfl
    have t72 := Tryd.underlying50; have a72 := Tryd.isAgg50; have z72 := Tryd.sizeOf50; have v72 := Tryd.zeroValue50; have u72 := run_underlying Tryd.underlying50
    have t70 := Tryd.underlying47; have a70 := Tryd.isAgg47; have z70 := Tryd.sizeOf47; have v70 := Tryd.zeroValue47; have u70 := run_underlying Tryd.underlying47
    have t4 := Tryd.underlying4; have a4 := Tryd.isAgg4; have z4 := Tryd.sizeOf4; have v4 := Tryd.zeroValue4; have u4 := run_underlying Tryd.underlying4
    have t164 := Tryd.underlying103; have a164 := Tryd.isAgg103; have z164 := Tryd.sizeOf103; have v164 := Tryd.zeroValue103; have u164 := run_underlying Tryd.underlying103
    go_enter Tryd.func87, Tryd.ntmps87
    go_wp2
    rw [Lib.run_to_unsafe w ⟨b, off, none⟩ t70 t164 hj (by rw [hjs]; decide) hsh hoff]
    simp only [Result.andThen]
    rw [Oper.upon_value]
    go_wp2
    rw [run_callFunc_extern Tryd.func91 (by kernel_rfl) (by kernel_rfl) (by kernel_rfl) (e := Extern.AbiNoEscape.same) (by kernel_rfl)]
    rw [Lib.run_noEscape]
    simp only [Result.andThen]
    rw [Oper.upon_value]
    go_wp2
    rw [Lib.run_from_unsafe w ⟨b, off, none⟩ t164 t70 hj hsh hlies]
    simp only [Result.andThen]
    rw [Oper.upon_value]
    go_wp2
    go_end0
    exact ⟨rfl, rfl⟩

end Go.Proofs.YtoejddhaiogonaaDoor

namespace Go.Proofs.YtoejddhaiogonaaDoor
open Go.X Go.RowKit Go.Shelf

theorem tre_mixed : Tryd.prog.follows .mixedOrders = true := by kernel_rfl
theorem tre_Extra : Builder.Extra Tryd.prog Tryd.lays169_ren where
  sizeBuilder := by kernel_rfl
  liesBuilder := by kernel_rfl
  t5 := Tryd.underlying5
  a5 := Tryd.isAgg5
  z5 := Tryd.sizeOf5
  v5 := Tryd.zeroValue5
  infoByte := by kernel_rfl
  cellsByte := by kernel_rfl
  sizeByte := by kernel_rfl
  neB5 := by decide
theorem tre_lies : ∀ e n off, (e, n, off) ∈ [(52, 4, 1)] → liesAt Tryd.prog Tryd.prog.depth e (n / Tryd.prog.cellsOf e) off 50 1 = true := by
  intro e n off h
  simp only [List.mem_singleton, Prod.mk.injEq] at h
  obtain ⟨rfl, rfl, rfl⟩ := h
  kernel_rfl
noncomputable def treE1 : Env := envSm (envQ Tryd.prog) 87 (checkX [(52, 4, 1)]) (check_law tre_copy tre_lies)
noncomputable def treE2 : Env := envSm treE1 28 (stringX 5) (string_law Tryd.lays169 tre_Extra)
/-- strings.asciiSpace -/
def spaces : List Value := (List.range 256).map fun i => .int .u8 (cond (Nat.beq i 32 || (Nat.ble 9 i && Nat.ble i 13)) 1 0)
theorem tre_fast (e : Nat) : truthQ treE2 9 4000 (tabHp 1 spaces e) = true := by kernel_rfl
theorem tre_plain : ∀ v, v ∈ spaces → plainV 4 v = true := by
  intro v hv
  obtain ⟨i, _, rfl⟩ := List.mem_map.1 hv
  rfl
theorem tre_known : SmLaw Tryd.prog 9 (knownX 1 spaces) := known_law treE2 tre_mixed (by decide) tre_plain fun e => truthQ_from (tre_fast e)
noncomputable def treE : Env := envSm (envOf Tryd.prog) 9 (knownX 1 spaces) tre_known

abbrev iV (k : Int) : Value := .int .i64 k
abbrev ptrV (i : Nat) : Value := .pointer (some ⟨i, 0, none⟩)
abbrev twC (K : Int) (s : ByteArray) (N L C : Int) (ks : Value) : List Value := [iV K, .string s, iV N, iV L, iV C, ks]
abbrev twV (K : Int) (s : ByteArray) (N L C : Int) (ks : Value) : Value := .agg #[iV K, .string s, iV N, iV L, iV C, ks]

end Go.Proofs.YtoejddhaiogonaaDoor

namespace Go.Proofs.YtoejddhaiogonaaDoor
open Go.X

def strL (l : List UInt8) : ByteArray := ⟨l.toArray⟩
def opS (s : ByteArray) : Bool := eqS s (strL [43]) || eqS s (strL [45]) || eqS s (strL [42]) || eqS s (strL [60]) || eqS s (strL [61, 61])
def termK (K : Int) : Bool := decide (26 ≤ K) && decide (K ≤ 36)
def bindsK (K : Int) (s : ByteArray) : Int :=
  if K = 32 then (if s.toList = [60] ∨ s.toList = [61, 61] then 1 else if s.toList = [43] ∨ s.toList = [45] then 2 else 3)
  else if K = 34 ∨ K = 35 then 4 else if termK K = true then 5 else 0

section
variable {h : Hp} {K N L Co : Int} {s : ByteArray} {ks : Value}

/-- Op -/
theorem c15 : CP treE 15 [.string s] h (.bool (opS s)) := by
  refine c_enter (fu := Tryd.f15) (by kernel_rfl) rfl ?_
  refine w_seq ?_
  refine w_region (by kernel_rfl) ?_
  refine o_assign gn rfl rfl ?_
  refine wl_end ?_
  refine w_seq ?_
  refine w_region (by kernel_rfl) ?_
  refine o_move gn rfl rfl ?_
  refine o_eqS gn rfl rfl rfl ?_
  refine o_move gn rfl rfl ?_
  refine o_or (n := 2) rfl rfl rfl gn rfl (fun hb => by
      refine o_move (gy rfl rfl rfl hb) rfl rfl ?_
      refine o_eqS (gy rfl rfl rfl hb) rfl rfl rfl ?_
      exact wl_end ⟨rfl, rfl, 2, rfl, rfl⟩) ?_
  refine o_move gn rfl rfl ?_
  refine o_or (n := 2) rfl rfl rfl gn rfl (fun hb => by
      refine o_move (gy rfl rfl rfl hb) rfl rfl ?_
      refine o_eqS (gy rfl rfl rfl hb) rfl rfl rfl ?_
      exact wl_end ⟨rfl, rfl, 2, rfl, rfl⟩) ?_
  refine o_move gn rfl rfl ?_
  refine o_or (n := 2) rfl rfl rfl gn rfl (fun hb => by
      refine o_move (gy rfl rfl rfl hb) rfl rfl ?_
      refine o_eqS (gy rfl rfl rfl hb) rfl rfl rfl ?_
      exact wl_end ⟨rfl, rfl, 2, rfl, rfl⟩) ?_
  refine o_move gn rfl rfl ?_
  refine o_or (n := 2) rfl rfl rfl gn rfl (fun hb => by
      refine o_move (gy rfl rfl rfl hb) rfl rfl ?_
      refine o_eqS (gy rfl rfl rfl hb) rfl rfl rfl ?_
      exact wl_end ⟨rfl, rfl, 2, rfl, rfl⟩) ?_
  refine o_assign gn rfl rfl ?_
  refine wl_end ?_
  refine w_ret ?_
  refine ⟨.inl rfl, _, rfl, ?_⟩
  exact ⟨rfl, rfl⟩

/-- Term, the program's -/
theorem c16 : CP treE 16 [iV K] h (.bool (termK K)) := by
  refine c_enter (fu := Tryd.f16) (by kernel_rfl) rfl ?_
  refine w_seq ?_
  refine w_region (by kernel_rfl) ?_
  refine o_assign gn rfl rfl ?_
  refine wl_end ?_
  refine w_seq ?_
  refine w_region (by kernel_rfl) ?_
  refine o_move gn rfl rfl ?_
  refine o_geq gn rfl rfl rfl ?_
  refine o_move gn rfl rfl ?_
  refine o_and (n := 2) rfl rfl rfl gn rfl (fun hb => by
      refine o_move (gy rfl rfl rfl hb) rfl rfl ?_
      refine o_leq (gy rfl rfl rfl hb) rfl rfl rfl ?_
      exact wl_end ⟨rfl, rfl, 2, rfl, rfl⟩) ?_
  refine o_assign gn rfl rfl ?_
  refine wl_end ?_
  refine w_ret ?_
  refine ⟨.inl rfl, _, rfl, ?_⟩
  exact ⟨rfl, rfl⟩

/-- Term, the document's -/
theorem c17 : CP treE 17 [iV K] h (.bool (termK K)) := by
  refine c_enter (fu := Tryd.f17) (by kernel_rfl) rfl ?_
  refine w_seq ?_
  refine w_region (by kernel_rfl) ?_
  refine o_assign gn rfl rfl ?_
  refine wl_end ?_
  refine w_seq ?_
  refine w_region (by kernel_rfl) ?_
  refine o_move gn rfl rfl ?_
  refine o_geq gn rfl rfl rfl ?_
  refine o_move gn rfl rfl ?_
  refine o_and (n := 2) rfl rfl rfl gn rfl (fun hb => by
      refine o_move (gy rfl rfl rfl hb) rfl rfl ?_
      refine o_leq (gy rfl rfl rfl hb) rfl rfl rfl ?_
      exact wl_end ⟨rfl, rfl, 2, rfl, rfl⟩) ?_
  refine o_assign gn rfl rfl ?_
  refine wl_end ?_
  refine w_ret ?_
  refine ⟨.inl rfl, _, rfl, ?_⟩
  exact ⟨rfl, rfl⟩

/-- Binds, the program's -/
theorem c18 : C treE 18 [twV K s N L Co ks] h fun v h' => v = iV (bindsK K s) ∧ Ext h h' := by
  refine c_enter (fu := Tryd.f18) (by kernel_rfl) rfl ?_
  refine w_seq ?_
  refine w_region (by kernel_rfl) ?_
  refine o_box gn rfl rfl ?_
  refine wl_at (fun h2 => h2.get h.n = some (.cells (twC K s N L Co ks) 30 0) ∧ Ext h h2) ⟨Hp.get_alloc_self _ _, Ext.alloc _ _⟩ fun h2 ⟨g1, x2⟩ => ?_
  refine o_assign gn rfl rfl ?_
  refine wl_end ?_
  refine w_seq ?_
  refine w_block ?_
  refine w_seq ?_
  refine w_region (by kernel_rfl) ?_
  refine o_fieldAddr (off := 0) gn rfl rfl (by kernel_rfl) ?_
  refine o_load gn rfl rfl (by kernel_rfl) (by assumption) rfl ?_
  refine o_eqi gn rfl rfl rfl ?_
  refine o_move gn rfl rfl ?_
  refine o_and (n := 8) rfl rfl rfl gn rfl (fun hb => by
      refine o_fieldAddr (off := 1) (gy rfl rfl rfl hb) rfl rfl (by kernel_rfl) ?_
      refine o_load (gy rfl rfl rfl hb) rfl rfl (by kernel_rfl) (by assumption) rfl ?_
      refine o_eqS (gy rfl rfl rfl hb) rfl rfl rfl ?_
      refine o_move (gy rfl rfl rfl hb) rfl rfl ?_
      refine o_or (n := 3) rfl rfl rfl (gy rfl rfl rfl hb) rfl (fun hb => by
          refine o_fieldAddr (off := 1) (gy rfl rfl rfl hb) rfl rfl (by kernel_rfl) ?_
          refine o_load (gy rfl rfl rfl hb) rfl rfl (by kernel_rfl) (by assumption) rfl ?_
          refine o_eqS (gy rfl rfl rfl hb) rfl rfl rfl ?_
          exact wl_end ⟨rfl, rfl, 3, rfl, rfl⟩) ?_
      exact wl_end ⟨rfl, rfl, 5, rfl, rfl⟩) ?_
  refine o_assign gn rfl rfl ?_
  refine wl_end ?_
  refine w_cond rfl (fun hb => ?_) fun hb => ?_
  · skip
    refine w_seq ?_
    refine w_region (by kernel_rfl) ?_
    refine o_assign gn rfl rfl ?_
    refine wl_end ?_
    refine w_ret ?_
    refine ⟨.inl rfl, _, rfl, ?_⟩
    exact ⟨congrArg iV (by unfold bindsK; (repeat' split) <;> simp_all), x2⟩
  · skip
    refine w_seq ?_
    refine w_region (by kernel_rfl) ?_
    refine o_fieldAddr (off := 0) gn rfl rfl (by kernel_rfl) ?_
    refine o_load gn rfl rfl (by kernel_rfl) (by assumption) rfl ?_
    refine o_eqi gn rfl rfl rfl ?_
    refine o_move gn rfl rfl ?_
    refine o_and (n := 8) rfl rfl rfl gn rfl (fun hb => by
        refine o_fieldAddr (off := 1) (gy rfl rfl rfl hb) rfl rfl (by kernel_rfl) ?_
        refine o_load (gy rfl rfl rfl hb) rfl rfl (by kernel_rfl) (by assumption) rfl ?_
        refine o_eqS (gy rfl rfl rfl hb) rfl rfl rfl ?_
        refine o_move (gy rfl rfl rfl hb) rfl rfl ?_
        refine o_or (n := 3) rfl rfl rfl (gy rfl rfl rfl hb) rfl (fun hb => by
            refine o_fieldAddr (off := 1) (gy rfl rfl rfl hb) rfl rfl (by kernel_rfl) ?_
            refine o_load (gy rfl rfl rfl hb) rfl rfl (by kernel_rfl) (by assumption) rfl ?_
            refine o_eqS (gy rfl rfl rfl hb) rfl rfl rfl ?_
            exact wl_end ⟨rfl, rfl, 3, rfl, rfl⟩) ?_
        exact wl_end ⟨rfl, rfl, 5, rfl, rfl⟩) ?_
    refine o_assign gn rfl rfl ?_
    refine wl_end ?_
    refine w_cond rfl (fun hb => ?_) fun hb => ?_
    · skip
      refine w_seq ?_
      refine w_region (by kernel_rfl) ?_
      refine o_assign gn rfl rfl ?_
      refine wl_end ?_
      refine w_ret ?_
      refine ⟨.inl rfl, _, rfl, ?_⟩
      exact ⟨congrArg iV (by unfold bindsK; (repeat' split) <;> simp_all), x2⟩
    · skip
      refine w_seq ?_
      refine w_region (by kernel_rfl) ?_
      refine o_fieldAddr (off := 0) gn rfl rfl (by kernel_rfl) ?_
      refine o_load gn rfl rfl (by kernel_rfl) (by assumption) rfl ?_
      refine o_eqi gn rfl rfl rfl ?_
      refine o_assign gn rfl rfl ?_
      refine wl_end ?_
      refine w_cond rfl (fun hb => ?_) fun hb => ?_
      · skip
        refine w_seq ?_
        refine w_region (by kernel_rfl) ?_
        refine o_assign gn rfl rfl ?_
        refine wl_end ?_
        refine w_ret ?_
        refine ⟨.inl rfl, _, rfl, ?_⟩
        exact ⟨congrArg iV (by unfold bindsK; (repeat' split) <;> simp_all), x2⟩
      · skip
        refine w_seq ?_
        refine w_region (by kernel_rfl) ?_
        refine o_fieldAddr (off := 0) gn rfl rfl (by kernel_rfl) ?_
        refine o_load gn rfl rfl (by kernel_rfl) (by assumption) rfl ?_
        refine o_eqi gn rfl rfl rfl ?_
        refine o_move gn rfl rfl ?_
        refine o_or (n := 3) rfl rfl rfl gn rfl (fun hb => by
            refine o_fieldAddr (off := 0) (gy rfl rfl rfl hb) rfl rfl (by kernel_rfl) ?_
            refine o_load (gy rfl rfl rfl hb) rfl rfl (by kernel_rfl) (by assumption) rfl ?_
            refine o_eqi (gy rfl rfl rfl hb) rfl rfl rfl ?_
            exact wl_end ⟨rfl, rfl, 3, rfl, rfl⟩) ?_
        refine o_assign gn rfl rfl ?_
        refine wl_end ?_
        refine w_cond rfl (fun hb => ?_) fun hb => ?_
        · skip
          refine w_seq ?_
          refine w_region (by kernel_rfl) ?_
          refine o_assign gn rfl rfl ?_
          refine wl_end ?_
          refine w_ret ?_
          refine ⟨.inl rfl, _, rfl, ?_⟩
          exact ⟨congrArg iV (by unfold bindsK; (repeat' split) <;> simp_all), x2⟩
        · skip
          refine w_seq ?_
          refine w_region (by kernel_rfl) ?_
          refine o_fieldAddr (off := 0) gn rfl rfl (by kernel_rfl) ?_
          refine o_load gn rfl rfl (by kernel_rfl) (by assumption) rfl ?_
          refine o_call [_] gn rfl rfl (by kernel_rfl) rfl (c_pure (c16) ⟨ag0, ?_⟩)
          refine o_assign gn rfl rfl ?_
          refine wl_end ?_
          refine w_cond rfl (fun hb => ?_) fun hb => ?_
          · skip
            refine w_seq ?_
            refine w_region (by kernel_rfl) ?_
            refine o_assign gn rfl rfl ?_
            refine wl_end ?_
            refine w_ret ?_
            refine ⟨.inl rfl, _, rfl, ?_⟩
            exact ⟨congrArg iV (by unfold bindsK; (repeat' split) <;> simp_all [termK] <;> omega), x2⟩
          · skip
            refine w_skip ?_
            refine w_seq ?_
            refine w_region (by kernel_rfl) ?_
            refine o_assign gn rfl rfl ?_
            refine wl_end ?_
            refine w_ret ?_
            refine ⟨.inl rfl, _, rfl, ?_⟩
            have ht : termK K = false := hb
            exact ⟨congrArg iV (by
              unfold bindsK
              rw [if_neg (fun e => by subst e; cases ht), if_neg (fun e => by rcases e with e | e <;> subst e <;> cases ht), if_neg (by rw [ht]; simp)]), x2⟩

/-- Binds, the document's -/
theorem c19 : C treE 19 [twV K s N L Co ks] h fun v h' => v = iV (bindsK K s) ∧ Ext h h' := by
  refine c_enter (fu := Tryd.f19) (by kernel_rfl) rfl ?_
  refine w_seq ?_
  refine w_region (by kernel_rfl) ?_
  refine o_box gn rfl rfl ?_
  refine wl_at (fun h2 => h2.get h.n = some (.cells (twC K s N L Co ks) 30 0) ∧ Ext h h2) ⟨Hp.get_alloc_self _ _, Ext.alloc _ _⟩ fun h2 ⟨g1, x2⟩ => ?_
  refine o_assign gn rfl rfl ?_
  refine wl_end ?_
  refine w_seq ?_
  refine w_seq ?_
  refine w_region (by kernel_rfl) ?_
  refine o_fieldAddr (off := 0) gn rfl rfl (by kernel_rfl) ?_
  refine o_load gn rfl rfl (by kernel_rfl) (by assumption) rfl ?_
  refine o_call [_] gn rfl rfl (by kernel_rfl) rfl (c_pure (c17) ⟨ag0, ?_⟩)
  refine o_not gn rfl rfl ?_
  refine wl_end ?_
  refine w_cond rfl (fun hb => ?_) fun hb => ?_
  · skip
    refine w_seq ?_
    refine w_region (by kernel_rfl) ?_
    refine o_assign gn rfl rfl ?_
    refine wl_end ?_
    refine w_ret ?_
    refine ⟨.inl rfl, _, rfl, ?_⟩
    exact ⟨congrArg iV (by unfold bindsK; (repeat' split) <;> simp_all [termK] <;> omega), x2⟩
  · skip
    refine w_skip ?_
    refine w_seq ?_
    refine w_seq ?_
    refine w_region (by kernel_rfl) ?_
    refine o_fieldAddr (off := 0) gn rfl rfl (by kernel_rfl) ?_
    refine o_load gn rfl rfl (by kernel_rfl) (by assumption) rfl ?_
    refine wl_end ?_
    refine w_block ?_
    refine w_seq ?_
    refine w_region (by kernel_rfl) ?_
    refine o_eqi gn rfl rfl rfl ?_
    refine o_assign gn rfl rfl ?_
    refine wl_end ?_
    refine w_cond rfl (fun hb => ?_) fun hb => ?_
    · skip
      refine w_seq ?_
      refine w_seq ?_
      refine w_region (by kernel_rfl) ?_
      refine o_fieldAddr (off := 1) gn rfl rfl (by kernel_rfl) ?_
      refine o_load gn rfl rfl (by kernel_rfl) (by assumption) rfl ?_
      refine wl_end ?_
      refine w_block ?_
      refine w_seq ?_
      refine w_seq ?_
      refine w_region (by kernel_rfl) ?_
      refine o_eqS gn rfl rfl rfl ?_
      refine o_assign gn rfl rfl ?_
      refine wl_end ?_
      refine w_cond rfl (fun hb => ?_) fun hb => ?_
      · skip
        refine w_skip ?_
        refine w_cond rfl (fun hb => ?_) fun hb => ?_
        · skip
          refine w_seq ?_
          refine w_region (by kernel_rfl) ?_
          refine o_assign gn rfl rfl ?_
          refine wl_end ?_
          refine w_ret ?_
          refine ⟨.inl rfl, _, rfl, ?_⟩
          exact ⟨congrArg iV (by unfold bindsK; (repeat' split) <;> simp_all [termK] <;> omega), x2⟩
        · skip
          refine w_seq ?_
          refine w_seq ?_
          refine w_region (by kernel_rfl) ?_
          refine o_eqS gn rfl rfl rfl ?_
          refine o_assign gn rfl rfl ?_
          refine wl_end ?_
          refine w_cond rfl (fun hb => ?_) fun hb => ?_
          · skip
            refine w_skip ?_
            refine w_cond rfl (fun hb => ?_) fun hb => ?_
            · skip
              refine w_seq ?_
              refine w_region (by kernel_rfl) ?_
              refine o_assign gn rfl rfl ?_
              refine wl_end ?_
              refine w_ret ?_
              refine ⟨.inl rfl, _, rfl, ?_⟩
              exact ⟨congrArg iV (by unfold bindsK; (repeat' split) <;> simp_all [termK] <;> omega), x2⟩
            · skip
              refine w_skip ?_
              refine w_seq ?_
              refine w_region (by kernel_rfl) ?_
              refine o_assign gn rfl rfl ?_
              refine wl_end ?_
              refine w_ret ?_
              refine ⟨.inl rfl, _, rfl, ?_⟩
              exact ⟨congrArg iV (by unfold bindsK; (repeat' split) <;> simp_all [termK] <;> omega), x2⟩
          · skip
            refine w_region (by kernel_rfl) ?_
            refine o_eqS gn rfl rfl rfl ?_
            refine o_assign gn rfl rfl ?_
            refine wl_end ?_
            refine w_cond rfl (fun hb => ?_) fun hb => ?_
            · skip
              refine w_seq ?_
              refine w_region (by kernel_rfl) ?_
              refine o_assign gn rfl rfl ?_
              refine wl_end ?_
              refine w_ret ?_
              refine ⟨.inl rfl, _, rfl, ?_⟩
              exact ⟨congrArg iV (by unfold bindsK; (repeat' split) <;> simp_all [termK] <;> omega), x2⟩
            · skip
              refine w_skip ?_
              refine w_seq ?_
              refine w_region (by kernel_rfl) ?_
              refine o_assign gn rfl rfl ?_
              refine wl_end ?_
              refine w_ret ?_
              refine ⟨.inl rfl, _, rfl, ?_⟩
              exact ⟨congrArg iV (by unfold bindsK; (repeat' split) <;> simp_all [termK] <;> omega), x2⟩
      · skip
        refine w_region (by kernel_rfl) ?_
        refine o_eqS gn rfl rfl rfl ?_
        refine o_assign gn rfl rfl ?_
        refine wl_end ?_
        refine w_cond rfl (fun hb => ?_) fun hb => ?_
        · skip
          refine w_seq ?_
          refine w_region (by kernel_rfl) ?_
          refine o_assign gn rfl rfl ?_
          refine wl_end ?_
          refine w_ret ?_
          refine ⟨.inl rfl, _, rfl, ?_⟩
          exact ⟨congrArg iV (by unfold bindsK; (repeat' split) <;> simp_all [termK] <;> omega), x2⟩
        · skip
          refine w_seq ?_
          refine w_seq ?_
          refine w_region (by kernel_rfl) ?_
          refine o_eqS gn rfl rfl rfl ?_
          refine o_assign gn rfl rfl ?_
          refine wl_end ?_
          refine w_cond rfl (fun hb => ?_) fun hb => ?_
          · skip
            refine w_skip ?_
            refine w_cond rfl (fun hb => ?_) fun hb => ?_
            · skip
              refine w_seq ?_
              refine w_region (by kernel_rfl) ?_
              refine o_assign gn rfl rfl ?_
              refine wl_end ?_
              refine w_ret ?_
              refine ⟨.inl rfl, _, rfl, ?_⟩
              exact ⟨congrArg iV (by unfold bindsK; (repeat' split) <;> simp_all [termK] <;> omega), x2⟩
            · skip
              refine w_skip ?_
              refine w_seq ?_
              refine w_region (by kernel_rfl) ?_
              refine o_assign gn rfl rfl ?_
              refine wl_end ?_
              refine w_ret ?_
              refine ⟨.inl rfl, _, rfl, ?_⟩
              exact ⟨congrArg iV (by unfold bindsK; (repeat' split) <;> simp_all [termK] <;> omega), x2⟩
          · skip
            refine w_region (by kernel_rfl) ?_
            refine o_eqS gn rfl rfl rfl ?_
            refine o_assign gn rfl rfl ?_
            refine wl_end ?_
            refine w_cond rfl (fun hb => ?_) fun hb => ?_
            · skip
              refine w_seq ?_
              refine w_region (by kernel_rfl) ?_
              refine o_assign gn rfl rfl ?_
              refine wl_end ?_
              refine w_ret ?_
              refine ⟨.inl rfl, _, rfl, ?_⟩
              exact ⟨congrArg iV (by unfold bindsK; (repeat' split) <;> simp_all [termK] <;> omega), x2⟩
            · skip
              refine w_skip ?_
              refine w_seq ?_
              refine w_region (by kernel_rfl) ?_
              refine o_assign gn rfl rfl ?_
              refine wl_end ?_
              refine w_ret ?_
              refine ⟨.inl rfl, _, rfl, ?_⟩
              exact ⟨congrArg iV (by unfold bindsK; (repeat' split) <;> simp_all [termK] <;> omega), x2⟩
    · skip
      refine w_seq ?_
      refine w_seq ?_
      refine w_region (by kernel_rfl) ?_
      refine o_eqi gn rfl rfl rfl ?_
      refine o_assign gn rfl rfl ?_
      refine wl_end ?_
      refine w_cond rfl (fun hb => ?_) fun hb => ?_
      · skip
        refine w_skip ?_
        refine w_cond rfl (fun hb => ?_) fun hb => ?_
        · skip
          refine w_seq ?_
          refine w_region (by kernel_rfl) ?_
          refine o_assign gn rfl rfl ?_
          refine wl_end ?_
          refine w_ret ?_
          refine ⟨.inl rfl, _, rfl, ?_⟩
          exact ⟨congrArg iV (by unfold bindsK; (repeat' split) <;> simp_all [termK] <;> omega), x2⟩
        · skip
          refine w_skip ?_
          refine w_seq ?_
          refine w_region (by kernel_rfl) ?_
          refine o_assign gn rfl rfl ?_
          refine wl_end ?_
          refine w_ret ?_
          refine ⟨.inl rfl, _, rfl, ?_⟩
          exact ⟨congrArg iV (by unfold bindsK; (repeat' split) <;> simp_all [termK] <;> omega), x2⟩
      · skip
        refine w_region (by kernel_rfl) ?_
        refine o_eqi gn rfl rfl rfl ?_
        refine o_assign gn rfl rfl ?_
        refine wl_end ?_
        refine w_cond rfl (fun hb => ?_) fun hb => ?_
        · skip
          refine w_seq ?_
          refine w_region (by kernel_rfl) ?_
          refine o_assign gn rfl rfl ?_
          refine wl_end ?_
          refine w_ret ?_
          refine ⟨.inl rfl, _, rfl, ?_⟩
          exact ⟨congrArg iV (by unfold bindsK; (repeat' split) <;> simp_all [termK] <;> omega), x2⟩
        · skip
          refine w_skip ?_
          refine w_seq ?_
          refine w_region (by kernel_rfl) ?_
          refine o_assign gn rfl rfl ?_
          refine wl_end ?_
          refine w_ret ?_
          refine ⟨.inl rfl, _, rfl, ?_⟩
          exact ⟨congrArg iV (by unfold bindsK; (repeat' split) <;> simp_all [termK] <;> omega), x2⟩

end
end Go.Proofs.YtoejddhaiogonaaDoor


namespace Go.Proofs.YtoejddhaiogonaaDoor
open Go.X

theorem knows {h : Hp} (ht : tabThere 1 spaces h = true) : knownX 1 spaces [] h = some (.bool true, h) := by
  simp only [knownX, ht, cond_true]
theorem tre_sm : treE.sm 9 = some (knownX 1 spaces) := rfl
theorem tab_get {h h' : Hp} (ht : tabThere 1 spaces h = true) (e : h'.get 1 = h.get 1) : tabThere 1 spaces h' = true := by
  unfold tabThere at *
  rw [e]; exact ht

section
variable {h : Hp} {K N L Co : Int} {s : ByteArray} {ks : Value}

theorem same_tw (hk : sameV 19 ks ks = true) : sameV 20 (twV K s N L Co ks) (twV K s N L Co ks) = true := by
  simp [sameV, sameV.sameL, kindEq, hk]

/-- TreeBinds -/
theorem c4 (hn : 1 < h.n) (hk : sameV 19 ks ks = true) (ht : tabThere 1 spaces h = true) : C treE 4 [twV K s N L Co ks] h fun v _ => v = .bool true := by
  refine c_enter (fu := Tryd.f4) (by kernel_rfl) rfl ?_
  refine w_seq ?_
  refine w_region (by kernel_rfl) ?_
  refine o_box gn rfl rfl ?_
  refine wl_at (fun h2 => h2.get h.n = some (.cells (twC K s N L Co ks) 30 0) ∧ Ext h h2 ∧ tabThere 1 spaces h2 = true ∧ h2.n = h.n + 1) ⟨Hp.get_alloc_self _ _, Ext.alloc _ _, tab_get ht ((Ext.alloc h _).2 1 hn), Hp.n_alloc _ _⟩ fun h2 ⟨g1, x2, t2, n2⟩ => ?_
  refine o_assign gn rfl rfl ?_
  refine wl_end ?_
  refine w_seq ?_
  refine w_seq ?_
  refine w_region (by kernel_rfl) ?_
  refine o_fieldAddr (off := 1) gn rfl rfl (by kernel_rfl) ?_
  refine o_load gn rfl rfl (by kernel_rfl) (by assumption) rfl ?_
  refine o_lenstr gn rfl rfl (by kernel_rfl) ?_
  refine o_gtr gn rfl rfl rfl ?_
  refine wl_end ?_
  refine w_cond rfl (fun hb => ?_) fun hb => ?_
  · skip
    refine w_seq ?_
    refine w_region (by kernel_rfl) ?_
    refine o_sm [] gn rfl rfl (by kernel_rfl) (by kernel_rfl) tre_sm rfl (knows t2) (.refl _) ag0 ?_
    refine o_assign gn rfl rfl ?_
    refine wl_end ?_
    refine w_ret ?_
    refine ⟨.inl rfl, _, rfl, ?_⟩
    exact rfl
  · skip
    refine w_skip ?_
    refine w_seq ?_
    refine w_seq ?_
    refine w_region (by kernel_rfl) ?_
    refine o_fieldAddr (off := 0) gn rfl rfl (by kernel_rfl) ?_
    refine o_load gn rfl rfl (by kernel_rfl) (by assumption) rfl ?_
    refine o_eqi gn rfl rfl rfl ?_
    refine o_move gn rfl rfl ?_
    refine o_and (n := 4) rfl rfl rfl gn rfl (fun hb => by
        refine o_fieldAddr (off := 1) (gy rfl rfl rfl hb) rfl rfl (by kernel_rfl) ?_
        refine o_load (gy rfl rfl rfl hb) rfl rfl (by kernel_rfl) (by assumption) rfl ?_
        refine o_call [_] (gy rfl rfl rfl hb) rfl rfl (by kernel_rfl) rfl (c_pure (c15) ⟨ag0, ?_⟩)
        refine o_not (gy rfl rfl rfl hb) rfl rfl ?_
        exact wl_end ⟨rfl, rfl, 4, rfl, rfl⟩) ?_
    refine wl_end ?_
    refine w_cond rfl (fun hb => ?_) fun hb => ?_
    · skip
      refine w_seq ?_
      refine w_region (by kernel_rfl) ?_
      refine o_fieldAddr (off := 0) gn rfl rfl (by kernel_rfl) ?_
      refine o_load gn rfl rfl (by kernel_rfl) (by assumption) rfl ?_
      refine o_call [_] gn rfl rfl (by kernel_rfl) rfl (c_pure (c16) ⟨ag0, ?_⟩)
      refine o_move gn rfl rfl ?_
      refine wl_split (dc := 20) rfl (fun hb20 => ?_) fun hb20 => ?_
      · skip
        refine o_sm [] (gy rfl rfl rfl hb20) rfl rfl (by kernel_rfl) (by kernel_rfl) tre_sm rfl (knows t2) (.refl _) ag0 ?_
        refine o_pickt gn rfl rfl hb20 rfl ?_
        refine o_assign gn rfl rfl ?_
        refine wl_end ?_
        refine w_ret ?_
        refine ⟨.inl rfl, _, rfl, ?_⟩
        exact rfl
      · skip
        have e : K = 32 := by simp at hb; exact hb.1
        subst e
        exact absurd hb20 (by decide)
    · skip
      refine w_skip ?_
      refine w_seq ?_
      refine w_draw [(0, []), (1, []), (3, []), (4, []), (2, [4]), (5, []), (6, []), (7, []), (8, []), (10, []), (9, [10]), (11, []), (12, []), (13, []), (14, []), (15, []), (16, []), (17, [])] (by kernel_rfl) (by kernel_rfl) (by kernel_rfl) (by kernel_rfl) ?_
      refine o_fieldAddr (off := 0) gn rfl rfl (by kernel_rfl) ?_
      refine o_load gn rfl rfl (by kernel_rfl) (by assumption) rfl ?_
      refine o_fieldAddr (off := 0) gn rfl rfl (by kernel_rfl) ?_
      refine o_load gn rfl rfl (by kernel_rfl) (by assumption) rfl ?_
      refine o_call [_] gn rfl rfl (by kernel_rfl) rfl (c_pure (c16) ⟨(ag1 (ag_load gn rfl (by kernel_rfl) (by assumption) rfl rfl same_int) ag0), ?_⟩)
      refine o_call [_] gn rfl rfl (by kernel_rfl) rfl (c_pure (c17) ⟨ag0, ?_⟩)
      refine o_eqb gn rfl rfl rfl (by kernel_rfl) ?_
      refine o_move gn rfl rfl ?_
      refine wl_split (dc := 30) rfl (fun hb30 => ?_) fun hb30 => ?_
      · skip
        refine o_loadA (n := 6) (gy rfl rfl rfl hb30) rfl rfl (by kernel_rfl) (by kernel_rfl) g1 (by simp) ?_
        refine o_loadA (n := 6) (gy rfl rfl rfl hb30) rfl rfl (by kernel_rfl) (by kernel_rfl) g1 (by simp) ?_
        refine o_call [_] (gy rfl rfl rfl hb30) rfl rfl (by kernel_rfl) rfl (C.mono (c18 (K := K) (s := s)) ?_)
        rintro v h3 ⟨rfl, x3⟩
        have g3 := (x3.get h.n (by omega)).trans g1
        refine ⟨(ag1 (ag_loadA (o := 0) (n := 6) (gy rfl rfl rfl hb30) rfl (by kernel_rfl) (by kernel_rfl) g3 (by simp) rfl (same_tw hk)) ag0), ?_⟩
        refine o_call [_] (gy rfl rfl rfl hb30) rfl rfl (by kernel_rfl) rfl (C.mono (c19) ?_)
        rintro v h4 ⟨rfl, x4⟩
        have t4 := tab_get t2 ((x4.2 1 (by have := x3.n; omega)).trans (x3.2 1 (by omega)))
        refine ⟨ag0, ?_⟩
        refine o_eqi (gy rfl rfl rfl hb30) rfl rfl rfl ?_
        refine o_pickt gn rfl rfl hb30 rfl ?_
        refine o_move gn rfl rfl ?_
        refine wl_split (dc := 37) rfl (fun hb37 => ?_) fun hb37 => ?_
        · skip
          refine o_sm [] (gy rfl rfl rfl hb37) rfl rfl (by kernel_rfl) (by kernel_rfl) tre_sm rfl (knows t4) (.refl _) ag0 ?_
          refine o_pickt gn rfl rfl hb37 rfl ?_
          refine o_assign gn rfl rfl ?_
          refine wl_end ?_
          refine w_ret ?_
          refine ⟨.inl rfl, _, rfl, ?_⟩
          exact rfl
        · skip
          simp at hb37
      · skip
        simp at hb30

end
end Go.Proofs.YtoejddhaiogonaaDoor


namespace Go.Proofs.YtoejddhaiogonaaDoor
open Go.ChangeShapes Go.WideShapes Go.ChangeAt Go.RowKit Go.Deep Go.X

set_option maxRecDepth 100000

theorem tre_bool : Tryd.prog.underlying 4 = some .bool := by kernel_rfl
theorem tre_own : ownKnob Tryd.prog.godebug = none := by kernel_rfl
theorem tre_laid : laidOutB Tryd.prog = true := by kernel_rfl
theorem tre_int : Tryd.prog.underlying 3 = some (.int .i64) := by kernel_rfl
theorem tre_i64 : Tryd.prog.underlying 2 = some (.int .i64) := by kernel_rfl
theorem tre_kind : Tryd.prog.underlying 27 = some (.int .i64) := by kernel_rfl
theorem tre_str : Tryd.prog.underlying 9 = some .string := by kernel_rfl
theorem tre_ints : Tryd.prog.underlying 28 = some (.slice 3) := by kernel_rfl
theorem tre_cts : Tryd.prog.cellTypes Tryd.prog.depth 30 = some [27, 9, 2, 3, 3, 28] := by kernel_rfl
theorem tre_c30 : Tryd.prog.cellsOf 30 = 6 := by kernel_rfl
theorem tre_named : Tryd.prog.globalNamed "strings.asciiSpace" = some 1 := by kernel_rfl
theorem tre_type : (Tryd.prog.globals[1]?).map (·.type) = some 121 := by kernel_rfl
theorem tre_arr : Tryd.prog.underlying 121 = some (.array 256 5) := by kernel_rfl
theorem tre_u8 : Tryd.prog.underlying 5 = some (.int .u8) := by kernel_rfl
theorem tre_cell : Tryd.prog.cellsOf 5 = 1 := by kernel_rfl
theorem tre_cells : Tryd.prog.cellsOf 121 = 256 := by kernel_rfl

/-- strings.asciiSpace, as numbers -/
def spaceI : List Int := (List.range 256).map fun i => cond (Nat.beq i 32 || (Nat.ble 9 i && Nat.ble i 13)) 1 0
theorem spaceI_eq : spaceI.map (Value.int .u8) = spaces := by unfold spaceI spaces; rw [List.map_map]; apply List.map_congr_left; intro i _; simp only [Function.comp]
theorem blank_listed : ((Rows.treeBindsRow.laid.filter fun x => x.2.handleName?.isNone).filter fun x => x.1 == "strings.asciiSpace") = [("strings.asciiSpace", Lib.tabData .u8 spaceI)] := by kernel_rfl

theorem blank_all {W : World} (h : laidMetH Tryd.prog Rows.treeBindsRow.laid W) : tabThere 1 spaces (Hp.all W) = true := by
  have h1 := (laidMetH_iff.1 h).1.filter fun x => x.1 == "strings.asciiSpace"
  rw [blank_listed] at h1
  have hT : Lib.TabIs Tryd.prog W "strings.asciiSpace" .u8 spaceI := Lib.tabIs_of_head tre_named tre_type tre_arr tre_u8 tre_cell tre_cells (rest := []) h1
  obtain ⟨e, fr, hg⟩ := tab_block tre_named hT
  have hget : (Hp.all W).get 1 = some (.cells spaces e 1) := by
    rw [Hp.all_get, allObj, hg]
    simp only [Option.some.injEq, AObj.cells.injEq, and_true]
    rw [← spaceI_eq, List.map_map]
    refine List.map_congr_left fun n _ => ?_
    exact selfX_eq (.int _ _)
  have hs : tabThere 1 spaces (Hp.empty.put 1 (.cells spaces 0 1)) = true := by kernel_rfl
  unfold tabThere at *
  rw [hget]
  rw [Hp.get_put, if_pos rfl] at hs
  exact hs

section
variable {W : World} {r : Reach} {base : Nat} {v : Value}
theorem ok_int {t : TypeId} (ht : Tryd.prog.underlying t = some (.int .i64)) (h : Cell.okWide Tryd.prog W r base t v) : ∃ n, v = .int .i64 n := by
  simp only [Cell.okWide, ht] at h
  cases v <;> simp only [Cell.ok, ht] at h <;> try exact h.elim
  obtain ⟨rfl, _⟩ := h
  exact ⟨_, rfl⟩
theorem ok_str {t : TypeId} (ht : Tryd.prog.underlying t = some .string) (h : Cell.okWide Tryd.prog W r base t v) : ∃ s, v = .string s := by
  simp only [Cell.okWide, ht] at h
  cases v <;> simp only [Cell.ok, ht] at h <;> try exact h.elim
  exact ⟨_, rfl⟩

/-- A twig that is an argument. -/
theorem twig_arg (h : Value.okWide Tryd.prog W r base 30 v) : ∃ K s N L Co ks, v = twV K s N L Co ks ∧ VRel (Mp.all W) ks ks ∧ sameV 19 ks ks = true := by
  have hu : ∃ fs, Tryd.prog.underlying 30 = some (.struct fs) := ⟨_, Tryd.underlying30⟩
  obtain ⟨fs, hu⟩ := hu
  simp only [Value.okWide, hu] at h
  obtain ⟨cs, rfl, hsz, ts, hts, _, hc⟩ := h
  rw [tre_cts, Option.some.injEq] at hts
  subst hts
  rw [tre_c30] at hsz
  obtain ⟨cs⟩ := cs
  match cs, hsz with
  | [a, b, c, d, e, f], _ =>
    obtain ⟨_, e0, h0⟩ := hc 0 a rfl
    obtain ⟨_, e1, h1⟩ := hc 1 b rfl
    obtain ⟨_, e2, h2⟩ := hc 2 c rfl
    obtain ⟨_, e3, h3⟩ := hc 3 d rfl
    obtain ⟨_, e4, h4⟩ := hc 4 e rfl
    obtain ⟨_, e5, h5⟩ := hc 5 f rfl
    simp at e0 e1 e2 e3 e4 e5
    subst e0; subst e1; subst e2; subst e3; subst e4; subst e5
    obtain ⟨K, rfl⟩ := ok_int tre_kind h0
    obtain ⟨s, rfl⟩ := ok_str tre_str h1
    obtain ⟨N, rfl⟩ := ok_int tre_i64 h2
    obtain ⟨L, rfl⟩ := ok_int tre_int h3
    obtain ⟨Co, rfl⟩ := ok_int tre_int h4
    have h6 : Value.okWide Tryd.prog W r base 28 f := by simp only [Value.okWide, tre_ints]; exact h5
    rcases okSlice tre_ints h6 with rfl | ⟨a, len, cap, rfl, hb⟩
    · exact ⟨K, s, N, L, Co, _, rfl, .nils 0 0, by rfl⟩
    · exact ⟨K, s, N, L, Co, _, rfl, all_slice (w := W) a len cap hb, by simp [sameV]⟩
end

end Go.Proofs.YtoejddhaiogonaaDoor
