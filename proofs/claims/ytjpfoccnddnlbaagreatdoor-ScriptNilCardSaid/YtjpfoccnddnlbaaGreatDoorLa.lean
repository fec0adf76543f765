/- Chapter 12: strings.Builder's String, laid at this program by the kit's tool. Conditions: none. Chapter 12: a strings.Builder's copyCheck, gone through at this program. Conditions: none. The closed law of chapter 12 and what X finds; a strings.Builder's copyCheck and String are calls that are not gone through. Conditions: none. -/
import Derived.Shelf.Strings.Builder1
import Derived.Ground.NamesProg
import Derived.Test.YtjpfoccnddnlbaaGreatDoorProg
import Derived.Test.YtjpfoccnddnlbaaGreatDoorXd
import Derived.Test.YtjpfoccnddnlbaaGreatDoorRows
import Derived.Test.YtjpfoccnddnlbaaGreatDoorXc
namespace Go.Proofs
open Go.Shelf
def Tryz.lays169_ren : Go.Shelf.Ren := ⟨fun | 169 => 13 | n => n, fun | 70 => 50 | 9 => 9 | 0 => 0 | 72 => 53 | 37 => 51 | 127 => 100 | 3 => 3 | 5 => 5 | n => n, fun | n => n⟩
theorem Tryz.lays169 : Go.Proofs.Lays.n169 Tryz.prog Tryz.lays169_ren := {
  mixed := by kernel_rfl
  f169 := Tryz.func13.trans (congrArg some (by kernel_rfl))
  t0 := Tryz.underlying0
  a0 := Tryz.isAgg0
  z0 := Tryz.sizeOf0
  v0 := Tryz.zeroValue0
  t3 := Tryz.underlying3
  a3 := Tryz.isAgg3
  z3 := Tryz.sizeOf3
  v3 := Tryz.zeroValue3
  t9 := Tryz.underlying9
  a9 := Tryz.isAgg9
  z9 := Tryz.sizeOf9
  v9 := Tryz.zeroValue9
  t37 := Tryz.underlying51
  a37 := Tryz.isAgg51
  z37 := Tryz.sizeOf51
  v37 := Tryz.zeroValue51
  t70 := Tryz.underlying50
  a70 := Tryz.isAgg50
  z70 := Tryz.sizeOf50
  v70 := Tryz.zeroValue50
  t72 := Tryz.underlying53
  a72 := Tryz.isAgg53
  z72 := Tryz.sizeOf53
  v72 := Tryz.zeroValue53
  t127 := Tryz.underlying100
  a127 := Tryz.isAgg100
  z127 := Tryz.sizeOf100
  v127 := Tryz.zeroValue100 }
end Go.Proofs

namespace Go.Proofs.YtjpfoccnddnlbaaGreatDoor
open Go.X Go.RowKit

theorem scr_size : (Tryz.prog.info? 53).map (·.size) = some 2 := by kernel_rfl

set_option maxHeartbeats 1000000 in
set_option maxRecDepth 100000 in
theorem scr_copy : CopyAt Tryz.prog 27 53 where
  used := fun b off w h0 => by
    obtain ⟨j, hj, _⟩ := Option.map_eq_some_iff.1 scr_size
    have mixed : Tryz.prog.follows .mixedOrders = true := by kernel_rfl
    have t72 := Tryz.underlying53; have a72 := Tryz.isAgg53; have z72 := Tryz.sizeOf53; have v72 := Tryz.zeroValue53; have u72 := run_underlying Tryz.underlying53
    have t70 := Tryz.underlying50; have a70 := Tryz.isAgg50; have z70 := Tryz.sizeOf50; have v70 := Tryz.zeroValue50; have u70 := run_underlying Tryz.underlying50
    have t4 := Tryz.underlying4; have a4 := Tryz.isAgg4; have z4 := Tryz.sizeOf4; have v4 := Tryz.zeroValue4; have u4 := run_underlying Tryz.underlying4
    have t164 := Tryz.underlying134; have a164 := Tryz.isAgg134; have z164 := Tryz.sizeOf134; have v164 := Tryz.zeroValue134; have u164 := run_underlying Tryz.underlying134
    go_enter Tryz.func27, Tryz.ntmps27
    go_wp2
    rw [Lib.run_neq_ptr_same w _ t70 hj]
    go_wp2
    go_end0
    exact ⟨rfl, rfl⟩
  fresh := fun b off e cells w h0 hsh hoff hlies hfz => by
    obtain ⟨j, hj, hjs⟩ := Option.map_eq_some_iff.1 scr_size
    have mixed : Tryz.prog.follows .mixedOrders = true := by kernel_rfl
    have t72 := Tryz.underlying53; have a72 := Tryz.isAgg53; have z72 := Tryz.sizeOf53; have v72 := Tryz.zeroValue53; have u72 := run_underlying Tryz.underlying53
    have t70 := Tryz.underlying50; have a70 := Tryz.isAgg50; have z70 := Tryz.sizeOf50; have v70 := Tryz.zeroValue50; have u70 := run_underlying Tryz.underlying50
    have t4 := Tryz.underlying4; have a4 := Tryz.isAgg4; have z4 := Tryz.sizeOf4; have v4 := Tryz.zeroValue4; have u4 := run_underlying Tryz.underlying4
    have t164 := Tryz.underlying134; have a164 := Tryz.isAgg134; have z164 := Tryz.sizeOf134; have v164 := Tryz.zeroValue134; have u164 := run_underlying Tryz.underlying134
    go_enter Tryz.func27, Tryz.ntmps27
    go_wp2
    rw [Lib.run_to_unsafe w ⟨b, off, none⟩ t70 t164 hj (by rw [hjs]; decide) hsh hoff]
    simp only [Result.andThen]
    rw [Oper.upon_value]
    go_wp2
    rw [run_callFunc_extern Tryz.func48 (by kernel_rfl) (by kernel_rfl) (by kernel_rfl) (e := Extern.AbiNoEscape.same) (by kernel_rfl)]
    rw [Lib.run_noEscape]
    simp only [Result.andThen]
    rw [Oper.upon_value]
    go_wp2
    rw [Lib.run_from_unsafe w ⟨b, off, none⟩ t164 t70 hj hsh hlies]
    simp only [Result.andThen]
    rw [Oper.upon_value]
    go_wp2
    go_end0
    exact ⟨rfl, rfl⟩

end Go.Proofs.YtjpfoccnddnlbaaGreatDoor

namespace Go.Proofs.YtjpfoccnddnlbaaGreatDoor
open Go.X Go.RowKit Go.Shelf

theorem scr_Extra : Builder.Extra Tryz.prog Tryz.lays169_ren where
  sizeBuilder := by kernel_rfl
  liesBuilder := by kernel_rfl
  t5 := Tryz.underlying5
  a5 := Tryz.isAgg5
  z5 := Tryz.sizeOf5
  v5 := Tryz.zeroValue5
  infoByte := by kernel_rfl
  cellsByte := by kernel_rfl
  sizeByte := by kernel_rfl
  neB5 := by decide
theorem scr_lies : ∀ e n off, (e, n, off) ∈ [(53, 2, 0)] → liesAt Tryz.prog Tryz.prog.depth e (n / Tryz.prog.cellsOf e) off 53 1 = true := by
  intro e n off h
  simp only [List.mem_singleton, Prod.mk.injEq] at h
  obtain ⟨rfl, rfl, rfl⟩ := h
  kernel_rfl
noncomputable def scrE1 : Env := envSm (envQ Tryz.prog) 27 (checkX [(53, 2, 0)]) (check_law scr_copy scr_lies)
noncomputable def scrE : Env := envSm scrE1 13 (stringX 5) (string_law Tryz.lays169 scr_Extra)
def pows : List Int := (List.range 20).map fun k => ((10 ^ k : Nat) : Int)
theorem script_fast (e : Nat) : truthQ scrE 3 1000 (tabHp 0 (pows.map fun z => Value.int .u64 z) e) = true := by kernel_rfl
theorem script_run (e : Nat) : ∃ m, truthFrom scrE 3 m (tabHp 0 (pows.map fun z => Value.int .u64 z) e) = true := truthQ_from (script_fast e)

end Go.Proofs.YtjpfoccnddnlbaaGreatDoor
