/- Chapter 24: the machine over the chapter's program; the words of operations are made once; the chapter's row answers true where the table of blanks lies. Conditions: the table. -/
import Derived.Test.YtemdkcneolianaaGreatDoorRows
import Derived.Test.YtemdkcneolianaaGreatDoorXd
import Derived.Test.YtemdkcneolianaaGreatDoorXc
import Derived.Test.YtemdkcneolianaaGreatDoorLa
namespace Go.Proofs.YtemdkcneolianaaGreatDoor
open Go.X Go.RowKit Go.May

theorem rep_mixed : Tryz.prog.follows .mixedOrders = true := by kernel_rfl
/-- strings.asciiSpace -/
def spaces : List Value := (List.range 256).map fun i => .int .u8 (cond (Nat.beq i 32 || (Nat.ble 9 i && Nat.ble i 13)) 1 0)
theorem rep_plain : ∀ v, v ∈ spaces → plainV 4 v = true := by
  intro v hv
  obtain ⟨i, _, rfl⟩ := List.mem_map.1 hv
  rfl
def wordsV : Value := .map (some 256)
def wordsO : List AObj := [.map [⟨.int .i64 (9), .agg #[.string ⟨#[108, 111, 97, 100]⟩], 0⟩, ⟨.int .i64 (10), .agg #[.string ⟨#[115, 116, 111, 114, 101]⟩], 1⟩, ⟨.int .i64 (11), .agg #[.string ⟨#[99, 101, 108, 108]⟩], 2⟩, ⟨.int .i64 (12), .agg #[.string ⟨#[103, 101, 116]⟩], 3⟩, ⟨.int .i64 (13), .agg #[.string ⟨#[112, 117, 116]⟩], 4⟩, ⟨.int .i64 (14), .agg #[.string ⟨#[110, 101, 119]⟩], 5⟩, ⟨.int .i64 (15), .agg #[.string ⟨#[102, 105, 101, 108, 100]⟩], 6⟩, ⟨.int .i64 (16), .agg #[.string ⟨#[115, 101, 116, 102, 105, 101, 108, 100]⟩], 7⟩, ⟨.int .i64 (17), .agg #[.string ⟨#[97, 114, 114, 97, 121]⟩], 8⟩, ⟨.int .i64 (18), .agg #[.string ⟨#[101, 108, 101, 109]⟩], 9⟩, ⟨.int .i64 (19), .agg #[.string ⟨#[115, 101, 116, 101, 108, 101, 109]⟩], 10⟩, ⟨.int .i64 (20), .agg #[.string ⟨#[108, 101, 110]⟩], 11⟩, ⟨.int .i64 (21), .agg #[.string ⟨#[99, 108, 111, 115, 117, 114, 101]⟩], 12⟩, ⟨.int .i64 (22), .agg #[.string ⟨#[99, 97, 108, 108]⟩], 13⟩, ⟨.int .i64 (23), .agg #[.string ⟨#[112, 111, 115, 116]⟩], 14⟩, ⟨.int .i64 (24), .agg #[.string ⟨#[102, 114, 111, 110, 116]⟩], 15⟩, ⟨.int .i64 (25), .agg #[.string ⟨#[99, 97, 110, 99, 101, 108]⟩], 16⟩, ⟨.int .i64 (26), .agg #[.string ⟨#[101, 110, 97, 98, 108, 101]⟩], 17⟩, ⟨.int .i64 (27), .agg #[.string ⟨#[100, 105, 115, 97, 98, 108, 101]⟩], 18⟩, ⟨.int .i64 (28), .agg #[.string ⟨#[115, 112, 97, 119, 110]⟩], 19⟩, ⟨.int .i64 (29), .agg #[.string ⟨#[106, 111, 105, 110]⟩], 20⟩, ⟨.int .i64 (30), .agg #[.string ⟨#[108, 111, 103]⟩], 21⟩] 22,
  .dead]

theorem words_run (e : Nat) : freshQ (envQ Tryz.prog) 63 200 (tabHp 0 spaces e) wordsV wordsO = true := by kernel_rfl
theorem words_law : SmLaw Tryz.prog 63 (freshT 0 spaces wordsV wordsO) := freshT_law (envQ Tryz.prog) rep_mixed (by decide) rep_plain fun e => freshQ_X (words_run e)
noncomputable def repE1 : Env := envSm (envQ Tryz.prog) 63 (freshT 0 spaces wordsV wordsO) words_law
theorem rep_fast (e : Nat) : truthQ repE1 6 6000 (tabHp 0 spaces e) = true := by kernel_rfl
theorem rep_known : SmLaw Tryz.prog 6 (knownX 0 spaces) := known_law repE1 rep_mixed (by decide) rep_plain fun e => truthQ_from (rep_fast e)
noncomputable def repE : Env := envSm (envOf Tryz.prog) 6 (knownX 0 spaces) rep_known
end Go.Proofs.YtemdkcneolianaaGreatDoor
