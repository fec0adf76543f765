/- Chapter 2: strings.Builder's String, laid at this program by the kit's tool. Conditions: none. Chapter 2: strconv.FormatInt at base 10, laid at this program by the kit's tool. Conditions: none. Chapter 2: a strings.Builder's copyCheck, gone through at this program. Conditions: none. Chapter 2: the machine over the chapter's program; a strings.Builder's copyCheck and String as calls that are not gone through; known answers true where the table lies. Conditions: the table (strings.asciiSpace). Chapter 2: the machine over the chapter's program, where the words and the forms of twigs are laid anew by one call. Conditions: the table (strings.asciiSpace). Chapter 2: what twigs are; how tightly they bind; letters, digits, words, names. Conditions: the table of blanks, for words. Chapter 2: words and names. Conditions: the table of blanks, for words. Chapter 2: names, of the program and of the document. Conditions: the table of blanks. Chapter 2: what kinds, and texts, are among some. Conditions: the table of blanks, for names. Chapter 2: how tightly kids must bind; how much more nest they have. Conditions: none. Chapter 2: what each kind of twigs has: the program's map of forms, as it lies there. Conditions: the table of blanks, for names. Chapter 2: has a twig what its kind has? Conditions: the table of blanks, for names. -/
import Derived.Shelf.Strings.Builder1
import Derived.Ground.NamesProg
import Derived.Test.YtoejddhaiogonaaDoorProg
import Derived.Shelf.Strconv.Itoa4
import Derived.Test.YtoejddhaiogonaaDoorXd
import Derived.Test.YtoejddhaiogonaaDoorRows
import Derived.Test.YtoejddhaiogonaaDoorXc
namespace Go.Proofs
open Go.Shelf
def Tryd.lays169_ren : Go.Shelf.Ren := ⟨fun | 169 => 28 | n => n, fun | 70 => 47 | 9 => 9 | 0 => 0 | 72 => 50 | 37 => 48 | 127 => 73 | 3 => 3 | 5 => 5 | n => n, fun | n => n⟩
theorem Tryd.lays169 : Go.Proofs.Lays.n169 Tryd.prog Tryd.lays169_ren := {
  mixed := by kernel_rfl
  f169 := Tryd.func28.trans (congrArg some (by kernel_rfl))
  t0 := Tryd.underlying0
  a0 := Tryd.isAgg0
  z0 := Tryd.sizeOf0
  v0 := Tryd.zeroValue0
  t3 := Tryd.underlying3
  a3 := Tryd.isAgg3
  z3 := Tryd.sizeOf3
  v3 := Tryd.zeroValue3
  t9 := Tryd.underlying9
  a9 := Tryd.isAgg9
  z9 := Tryd.sizeOf9
  v9 := Tryd.zeroValue9
  t37 := Tryd.underlying48
  a37 := Tryd.isAgg48
  z37 := Tryd.sizeOf48
  v37 := Tryd.zeroValue48
  t70 := Tryd.underlying47
  a70 := Tryd.isAgg47
  z70 := Tryd.sizeOf47
  v70 := Tryd.zeroValue47
  t72 := Tryd.underlying50
  a72 := Tryd.isAgg50
  z72 := Tryd.sizeOf50
  v72 := Tryd.zeroValue50
  t127 := Tryd.underlying73
  a127 := Tryd.isAgg73
  z127 := Tryd.sizeOf73
  v127 := Tryd.zeroValue73 }
end Go.Proofs

namespace Go.Proofs
open Go.Shelf
def Tryd.lays173_ren : Go.Shelf.Ren := ⟨fun | 173 => 71 | 246 => 88 | 283 => 92 | 284 => 93 | 285 => 94 | 286 => 95 | 129 => 98 | 317 => 97 | 318 => 99 | 319 => 100 | 320 => 101 | 337 => 104 | 338 => 105 | n => n, fun | 2 => 2 | 3 => 3 | 9 => 9 | 4 => 4 | 171 => 106 | 0 => 0 | 53 => 107 | 37 => 48 | 5 => 5 | 173 => 110 | 212 => 115 | 51 => 116 | 20 => 20 | 213 => 117 | 46 => 119 | 232 => 130 | 233 => 131 | n => n, fun | 17 => 0 | 18 => 3 | 19 => 4 | n => n⟩
theorem Tryd.lays173 : Go.Proofs.LaysM.n173 Tryd.prog Tryd.lays173_ren := {
  mixed := by kernel_rfl
  f129 := Tryd.func98.trans (congrArg some (by kernel_rfl))
  f173 := Tryd.func71.trans (congrArg some (by kernel_rfl))
  f246 := Tryd.func88.trans (congrArg some (by kernel_rfl))
  f283 := Tryd.func92.trans (congrArg some (by kernel_rfl))
  f284 := Tryd.func93.trans (congrArg some (by kernel_rfl))
  f285 := Tryd.func94.trans (congrArg some (by kernel_rfl))
  f286 := Tryd.func95.trans (congrArg some (by kernel_rfl))
  f317 := Tryd.func97.trans (congrArg some (by kernel_rfl))
  f318 := Tryd.func99.trans (congrArg some (by kernel_rfl))
  f319 := Tryd.func100.trans (congrArg some (by kernel_rfl))
  f320 := Tryd.func101.trans (congrArg some (by kernel_rfl))
  f337 := Tryd.func104.trans (congrArg some (by kernel_rfl))
  f338 := Tryd.func105.trans (congrArg some (by kernel_rfl))
  t0 := Tryd.underlying0
  a0 := Tryd.isAgg0
  z0 := Tryd.sizeOf0
  v0 := Tryd.zeroValue0
  t2 := Tryd.underlying2
  a2 := Tryd.isAgg2
  z2 := Tryd.sizeOf2
  v2 := Tryd.zeroValue2
  t3 := Tryd.underlying3
  a3 := Tryd.isAgg3
  z3 := Tryd.sizeOf3
  v3 := Tryd.zeroValue3
  t4 := Tryd.underlying4
  a4 := Tryd.isAgg4
  z4 := Tryd.sizeOf4
  v4 := Tryd.zeroValue4
  t5 := Tryd.underlying5
  a5 := Tryd.isAgg5
  z5 := Tryd.sizeOf5
  v5 := Tryd.zeroValue5
  t9 := Tryd.underlying9
  a9 := Tryd.isAgg9
  z9 := Tryd.sizeOf9
  v9 := Tryd.zeroValue9
  t20 := Tryd.underlying20
  a20 := Tryd.isAgg20
  z20 := Tryd.sizeOf20
  v20 := Tryd.zeroValue20
  t37 := Tryd.underlying48
  a37 := Tryd.isAgg48
  z37 := Tryd.sizeOf48
  v37 := Tryd.zeroValue48
  t46 := Tryd.underlying119
  a46 := Tryd.isAgg119
  z46 := Tryd.sizeOf119
  v46 := Tryd.zeroValue119
  t51 := Tryd.underlying116
  a51 := Tryd.isAgg116
  z51 := Tryd.sizeOf116
  v51 := Tryd.zeroValue116
  t53 := Tryd.underlying107
  a53 := Tryd.isAgg107
  z53 := Tryd.sizeOf107
  v53 := Tryd.zeroValue107
  t171 := Tryd.underlying106
  a171 := Tryd.isAgg106
  z171 := Tryd.sizeOf106
  v171 := Tryd.zeroValue106
  t173 := Tryd.underlying110
  a173 := Tryd.isAgg110
  z173 := Tryd.sizeOf110
  v173 := Tryd.zeroValue110
  t212 := Tryd.underlying115
  a212 := Tryd.isAgg115
  z212 := Tryd.sizeOf115
  v212 := Tryd.zeroValue115
  t213 := Tryd.underlying117
  a213 := Tryd.isAgg117
  z213 := Tryd.sizeOf117
  t232 := Tryd.underlying130
  a232 := Tryd.isAgg130
  z232 := Tryd.sizeOf130
  v232 := Tryd.zeroValue130
  t233 := Tryd.underlying131
  a233 := Tryd.isAgg131
  z233 := Tryd.sizeOf131
  v233 := Tryd.zeroValue131
  g17 := by kernel_rfl
  g18 := by kernel_rfl
  g19 := by kernel_rfl
  i0 := by kernel_rfl
  i2 := by kernel_rfl
  i3 := by kernel_rfl
  i4 := by kernel_rfl
  i5 := by kernel_rfl
  i9 := by kernel_rfl
  i20 := by kernel_rfl
  i37 := by kernel_rfl
  i46 := by kernel_rfl
  i51 := by kernel_rfl
  i53 := by kernel_rfl
  i171 := by kernel_rfl
  i173 := by kernel_rfl
  i212 := by kernel_rfl
  i232 := by kernel_rfl
  i233 := by kernel_rfl
  m17 := by kernel_rfl
  m18 := by kernel_rfl
  m19 := by kernel_rfl }
end Go.Proofs

namespace Go.Proofs.YtoejddhaiogonaaDoor
open Go.X Go.RowKit

theorem tre_size : (Tryd.prog.info? 50).map (·.size) = some 2 := by kernel_rfl

set_option maxHeartbeats 1000000 in
set_option maxRecDepth 100000 in
theorem tre_copy : CopyAt Tryd.prog 87 50 where
  used := fun b off w h0 => by
    obtain ⟨j, hj, _⟩ := Option.map_eq_some_iff.1 tre_size
    have mixed : Tryd.prog.follows .mixedOrders = true := by kernel_rfl
    have t72 := Tryd.underlying50; have a72 := Tryd.isAgg50; have z72 := Tryd.sizeOf50; have v72 := Tryd.zeroValue50; have u72 := run_underlying Tryd.underlying50
    have t70 := Tryd.underlying47; have a70 := Tryd.isAgg47; have z70 := Tryd.sizeOf47; have v70 := Tryd.zeroValue47; have u70 := run_underlying Tryd.underlying47
    have t4 := Tryd.underlying4; have a4 := Tryd.isAgg4; have z4 := Tryd.sizeOf4; have v4 := Tryd.zeroValue4; have u4 := run_underlying Tryd.underlying4
    have t164 := Tryd.underlying103; have a164 := Tryd.isAgg103; have z164 := Tryd.sizeOf103; have v164 := Tryd.zeroValue103; have u164 := run_underlying Tryd.underlying103
    go_enter Tryd.func87, Tryd.ntmps87
    go_wp2
    rw [Lib.run_neq_ptr_same w _ t70 hj]
    go_wp2
    go_end0
    exact ⟨rfl, rfl⟩
  fresh := fun b off e cells w h0 hsh hoff hlies hfz => by
    obtain ⟨j, hj, hjs⟩ := Option.map_eq_some_iff.1 tre_size
    have mixed : Tryd.prog.follows .mixedOrders = true := by kernel_rfl
    have t72 := Tryd.underlying50; have a72 := Tryd.isAgg50; have z72 := Tryd.sizeOf50; have v72 := Tryd.zeroValue50; have u72 := run_underlying Tryd.underlying50
    have t70 := Tryd.underlying47; have a70 := Tryd.isAgg47; have z70 := Tryd.sizeOf47; have v70 := Tryd.zeroValue47; have u70 := run_underlying Tryd.underlying47
    have t4 := Tryd.underlying4; have a4 := Tryd.isAgg4; have z4 := Tryd.sizeOf4; have v4 := Tryd.zeroValue4; have u4 := run_underlying Tryd.underlying4
    have t164 := Tryd.underlying103; have a164 := Tryd.isAgg103; have z164 := Tryd.sizeOf103; have v164 := Tryd.zeroValue103; have u164 := run_underlying Tryd.underlying103
    go_enter Tryd.func87, Tryd.ntmps87
    go_wp2
    rw [Lib.run_to_unsafe w ⟨b, off, none⟩ t70 t164 hj (by rw [hjs]; decide) hsh hoff]
    simp only [Result.andThen]
    rw [Oper.upon_value]
    go_wp2
    rw [run_callFunc_extern Tryd.func91 (by kernel_rfl) (by kernel_rfl) (by kernel_rfl) (e := Extern.AbiNoEscape.same) (by kernel_rfl)]
    rw [Lib.run_noEscape]
    simp only [Result.andThen]
    rw [Oper.upon_value]
    go_wp2
    rw [Lib.run_from_unsafe w ⟨b, off, none⟩ t164 t70 hj hsh hlies]
    simp only [Result.andThen]
    rw [Oper.upon_value]
    go_wp2
    go_end0
    exact ⟨rfl, rfl⟩

end Go.Proofs.YtoejddhaiogonaaDoor

namespace Go.Proofs.YtoejddhaiogonaaDoor
open Go.X Go.RowKit Go.Shelf

theorem tre_mixed : Tryd.prog.follows .mixedOrders = true := by kernel_rfl
theorem tre_Extra : Builder.Extra Tryd.prog Tryd.lays169_ren where
  sizeBuilder := by kernel_rfl
  liesBuilder := by kernel_rfl
  t5 := Tryd.underlying5
  a5 := Tryd.isAgg5
  z5 := Tryd.sizeOf5
  v5 := Tryd.zeroValue5
  infoByte := by kernel_rfl
  cellsByte := by kernel_rfl
  sizeByte := by kernel_rfl
  neB5 := by decide
theorem tre_lies : ∀ e n off, (e, n, off) ∈ [(52, 4, 1)] → liesAt Tryd.prog Tryd.prog.depth e (n / Tryd.prog.cellsOf e) off 50 1 = true := by
  intro e n off h
  simp only [List.mem_singleton, Prod.mk.injEq] at h
  obtain ⟨rfl, rfl, rfl⟩ := h
  kernel_rfl
noncomputable def treE1 : Env := envSm (envQ Tryd.prog) 87 (checkX [(52, 4, 1)]) (check_law tre_copy tre_lies)
noncomputable def treE2 : Env := envSm treE1 28 (stringX 5) (string_law Tryd.lays169 tre_Extra)
/-- strings.asciiSpace -/
def spaces : List Value := (List.range 256).map fun i => .int .u8 (cond (Nat.beq i 32 || (Nat.ble 9 i && Nat.ble i 13)) 1 0)
theorem tre_fast (e : Nat) : truthQ treE2 9 4000 (tabHp 1 spaces e) = true := by kernel_rfl
theorem tre_plain : ∀ v, v ∈ spaces → plainV 4 v = true := by
  intro v hv
  obtain ⟨i, _, rfl⟩ := List.mem_map.1 hv
  rfl
theorem tre_known : SmLaw Tryd.prog 9 (knownX 1 spaces) := known_law treE2 tre_mixed (by decide) tre_plain fun e => truthQ_from (tre_fast e)
noncomputable def treE : Env := envSm (envOf Tryd.prog) 9 (knownX 1 spaces) tre_known

abbrev iV (k : Int) : Value := .int .i64 k
abbrev ptrV (i : Nat) : Value := .pointer (some ⟨i, 0, none⟩)
abbrev twC (K : Int) (s : ByteArray) (N L C : Int) (ks : Value) : List Value := [iV K, .string s, iV N, iV L, iV C, ks]
abbrev twV (K : Int) (s : ByteArray) (N L C : Int) (ks : Value) : Value := .agg #[iV K, .string s, iV N, iV L, iV C, ks]

end Go.Proofs.YtoejddhaiogonaaDoor

namespace Go.Proofs.YtoejddhaiogonaaDoor
open Go.X

/- f89 detent/token.words: 18271 steps, 2 blocks, 40 great ones -/
def wordsV : Value := .map (some 256)
def wordsO : List AObj := [.map [⟨.string ⟨#[97, 102, 116, 101, 114]⟩, .agg #[.bool true], 0⟩, ⟨.string ⟨#[97, 114, 114]⟩, .agg #[.bool true], 1⟩, ⟨.string ⟨#[99, 97, 108, 108]⟩, .agg #[.bool true], 2⟩, ⟨.string ⟨#[99, 97, 110, 99, 101, 108]⟩, .agg #[.bool true], 3⟩, ⟨.string ⟨#[99, 108, 97, 115, 115]⟩, .agg #[.bool true], 4⟩, ⟨.string ⟨#[99, 111, 109, 112]⟩, .agg #[.bool true], 5⟩, ⟨.string ⟨#[99, 114, 101, 97, 116, 101]⟩, .agg #[.bool true], 6⟩, ⟨.string ⟨#[100, 101, 115, 116, 114, 111, 121]⟩, .agg #[.bool true], 7⟩, ⟨.string ⟨#[100, 105, 115, 97, 98, 108, 101]⟩, .agg #[.bool true], 8⟩, ⟨.string ⟨#[101, 108, 115, 101]⟩, .agg #[.bool true], 9⟩, ⟨.string ⟨#[101, 110, 97, 98, 108, 101]⟩, .agg #[.bool true], 10⟩, ⟨.string ⟨#[101, 118, 101, 110, 116]⟩, .agg #[.bool true], 11⟩, ⟨.string ⟨#[102, 110]⟩, .agg #[.bool true], 12⟩, ⟨.string ⟨#[102, 114, 111, 110, 116]⟩, .agg #[.bool true], 13⟩, ⟨.string ⟨#[104, 97, 110, 100]⟩, .agg #[.bool true], 14⟩, ⟨.string ⟨#[105, 102]⟩, .agg #[.bool true], 15⟩, ⟨.string ⟨#[105, 110, 116]⟩, .agg #[.bool true], 16⟩, ⟨.string ⟨#[105, 116]⟩, .agg #[.bool true], 17⟩, ⟨.string ⟨#[106, 111, 105, 110]⟩, .agg #[.bool true], 18⟩, ⟨.string ⟨#[108, 101, 110]⟩, .agg #[.bool true], 19⟩, ⟨.string ⟨#[108, 111, 103]⟩, .agg #[.bool true], 20⟩, ⟨.string ⟨#[108, 111, 111, 112, 101, 114]⟩, .agg #[.bool true], 21⟩, ⟨.string ⟨#[109, 97, 105, 110]⟩, .agg #[.bool true], 22⟩, ⟨.string ⟨#[110, 101, 119]⟩, .agg #[.bool true], 23⟩, ⟨.string ⟨#[110, 117, 108, 108]⟩, .agg #[.bool true], 24⟩, ⟨.string ⟨#[111, 102, 102]⟩, .agg #[.bool true], 25⟩, ⟨.string ⟨#[111, 110]⟩, .agg #[.bool true], 26⟩, ⟨.string ⟨#[112, 111, 115, 116]⟩, .agg #[.bool true], 27⟩, ⟨.string ⟨#[114, 101, 116, 117, 114, 110]⟩, .agg #[.bool true], 28⟩, ⟨.string ⟨#[115, 112, 97, 119, 110]⟩, .agg #[.bool true], 29⟩, ⟨.string ⟨#[115, 116, 97, 114, 116]⟩, .agg #[.bool true], 30⟩, ⟨.string ⟨#[115, 116, 111, 112]⟩, .agg #[.bool true], 31⟩, ⟨.string ⟨#[116, 111]⟩, .agg #[.bool true], 32⟩, ⟨.string ⟨#[116, 111, 107]⟩, .agg #[.bool true], 33⟩, ⟨.string ⟨#[118, 97, 114]⟩, .agg #[.bool true], 34⟩, ⟨.string ⟨#[119, 104, 105, 108, 101]⟩, .agg #[.bool true], 35⟩] 36,
  .dead]
/- f25 detent/tree.forms: 605 steps, 31 blocks, 106 great ones -/
def formsV : Value := .map (some 264)
def formsO : List AObj := [.cells [.int .i64 (12)] 27 0,
  .cells [.slice (some ⟨256, 0, none⟩) 1 1] 58 0,
  .cells [.int .i64 (29)] 27 0,
  .cells [.slice (some ⟨258, 0, none⟩) 1 1] 58 0,
  .cells [.int .i64 (5)] 27 0,
  .cells [.slice (some ⟨260, 0, none⟩) 1 1] 58 0,
  .cells [.func (.func 16) #[] #[]] 35 0,
  .dead,
  .map [⟨.int .i64 (1), .agg #[.nilFunc, .int .i64 (0), .int .i64 (0), .slice none 0 0, .nilFunc, .func (.func 37) #[] #[]], 0⟩, ⟨.int .i64 (2), .agg #[.func (.func 38) #[] #[], .int .i64 (0), .int .i64 (0), .slice none 0 0, .nilFunc, .nilFunc], 1⟩, ⟨.int .i64 (3), .agg #[.func (.func 38) #[] #[], .int .i64 (0), .int .i64 (0), .slice none 0 0, .nilFunc, .func (.func 60) #[] #[.pointer (some ⟨266, 0, none⟩)]], 2⟩, ⟨.int .i64 (4), .agg #[.func (.func 38) #[] #[], .int .i64 (0), .int .i64 (0), .slice (some ⟨267, 0, none⟩) 1 1, .nilFunc, .nilFunc], 3⟩, ⟨.int .i64 (5), .agg #[.func (.func 39) #[] #[], .int .i64 (0), .int .i64 (0), .slice none 0 0, .nilFunc, .nilFunc], 4⟩, ⟨.int .i64 (6), .agg #[.func (.func 38) #[] #[], .int .i64 (0), .int .i64 (0), .slice (some ⟨268, 0, none⟩) 1 1, .nilFunc, .nilFunc], 5⟩, ⟨.int .i64 (7), .agg #[.func (.func 38) #[] #[], .int .i64 (0), .int .i64 (0), .slice (some ⟨269, 0, none⟩) 1 1, .nilFunc, .nilFunc], 6⟩, ⟨.int .i64 (8), .agg #[.func (.func 38) #[] #[], .int .i64 (0), .int .i64 (0), .slice (some ⟨270, 0, none⟩) 1 1, .nilFunc, .func (.func 60) #[] #[.pointer (some ⟨272, 0, none⟩)]], 7⟩, ⟨.int .i64 (9), .agg #[.nilFunc, .int .i64 (0), .int .i64 (3), .slice (some ⟨273, 0, none⟩) 1 1, .nilFunc, .nilFunc], 8⟩, ⟨.int .i64 (10), .agg #[.func (.func 38) #[] #[], .int .i64 (0), .int .i64 (1), .slice (some ⟨274, 0, none⟩) 2 2, .nilFunc, .nilFunc], 9⟩, ⟨.int .i64 (11), .agg #[.nilFunc, .int .i64 (0), .int .i64 (0), .slice (some ⟨275, 0, none⟩) 1 1, .nilFunc, .nilFunc], 10⟩, ⟨.int .i64 (12), .agg #[.nilFunc, .int .i64 (0), .int .i64 (0), .slice none 0 0, .nilFunc, .func (.func 40) #[] #[]], 11⟩, ⟨.int .i64 (13), .agg #[.func (.func 38) #[] #[], .int .i64 (0), .int .i64 (0), .slice (some ⟨276, 0, none⟩) 2 2, .nilFunc, .nilFunc], 12⟩, ⟨.int .i64 (14), .agg #[.nilFunc, .int .i64 (0), .int .i64 (0), .slice (some ⟨277, 0, none⟩) 2 2, .nilFunc, .nilFunc], 13⟩, ⟨.int .i64 (19), .agg #[.func (.func 38) #[] #[], .int .i64 (-1), .int .i64 (2147483647), .slice (some ⟨278, 0, none⟩) 1 1, .func (.func 41) #[] #[], .nilFunc], 14⟩, ⟨.int .i64 (20), .agg #[.nilFunc, .int .i64 (0), .int .i64 (0), .slice (some ⟨279, 0, none⟩) 1 1, .func (.func 41) #[] #[], .nilFunc], 15⟩, ⟨.int .i64 (21), .agg #[.func (.func 38) #[] #[], .int .i64 (0), .int .i64 (0), .slice none 0 0, .nilFunc, .nilFunc], 16⟩, ⟨.int .i64 (22), .agg #[.func (.func 38) #[] #[], .int .i64 (0), .int .i64 (0), .slice none 0 0, .nilFunc, .nilFunc], 17⟩, ⟨.int .i64 (23), .agg #[.nilFunc, .int .i64 (0), .int .i64 (0), .slice (some ⟨280, 0, none⟩) 3 3, .nilFunc, .nilFunc], 18⟩, ⟨.int .i64 (24), .agg #[.nilFunc, .int .i64 (0), .int .i64 (0), .slice (some ⟨281, 0, none⟩) 2 2, .nilFunc, .nilFunc], 19⟩, ⟨.int .i64 (25), .agg #[.nilFunc, .int .i64 (0), .int .i64 (0), .slice none 0 0, .nilFunc, .nilFunc], 20⟩, ⟨.int .i64 (26), .agg #[.nilFunc, .int .i64 (0), .int .i64 (2147483647), .slice none 0 0, .nilFunc, .nilFunc], 21⟩, ⟨.int .i64 (27), .agg #[.nilFunc, .int .i64 (0), .int .i64 (0), .slice none 0 0, .nilFunc, .nilFunc], 22⟩, ⟨.int .i64 (28), .agg #[.nilFunc, .int .i64 (0), .int .i64 (0), .slice none 0 0, .nilFunc, .nilFunc], 23⟩, ⟨.int .i64 (29), .agg #[.func (.func 38) #[] #[], .int .i64 (0), .int .i64 (0), .slice none 0 0, .nilFunc, .nilFunc], 24⟩, ⟨.int .i64 (30), .agg #[.func (.func 38) #[] #[], .int .i64 (0), .int .i64 (0), .slice (some ⟨282, 0, none⟩) 1 1, .nilFunc, .nilFunc], 25⟩, ⟨.int .i64 (31), .agg #[.nilFunc, .int .i64 (0), .int .i64 (0), .slice (some ⟨283, 0, none⟩) 2 2, .nilFunc, .nilFunc], 26⟩, ⟨.int .i64 (32), .agg #[.func (.func 42) #[] #[], .int .i64 (0), .int .i64 (0), .slice (some ⟨284, 0, none⟩) 2 2, .nilFunc, .nilFunc], 27⟩, ⟨.int .i64 (33), .agg #[.func (.func 38) #[] #[], .int .i64 (0), .int .i64 (0), .slice none 0 0, .nilFunc, .nilFunc], 28⟩, ⟨.int .i64 (36), .agg #[.nilFunc, .int .i64 (0), .int .i64 (0), .slice (some ⟨285, 0, none⟩) 1 1, .nilFunc, .nilFunc], 29⟩, ⟨.int .i64 (15), .agg #[.nilFunc, .int .i64 (0), .int .i64 (0), .slice (some ⟨262, 0, none⟩) 1 1, .nilFunc, .nilFunc], 30⟩, ⟨.int .i64 (16), .agg #[.nilFunc, .int .i64 (0), .int .i64 (0), .slice (some ⟨262, 0, none⟩) 1 1, .nilFunc, .nilFunc], 31⟩, ⟨.int .i64 (17), .agg #[.nilFunc, .int .i64 (0), .int .i64 (0), .slice (some ⟨262, 0, none⟩) 1 1, .nilFunc, .nilFunc], 32⟩, ⟨.int .i64 (18), .agg #[.nilFunc, .int .i64 (0), .int .i64 (0), .slice (some ⟨262, 0, none⟩) 1 1, .nilFunc, .nilFunc], 33⟩, ⟨.int .i64 (34), .agg #[.nilFunc, .int .i64 (0), .int .i64 (0), .slice (some ⟨262, 0, none⟩) 1 1, .nilFunc, .nilFunc], 34⟩, ⟨.int .i64 (35), .agg #[.nilFunc, .int .i64 (0), .int .i64 (0), .slice (some ⟨262, 0, none⟩) 1 1, .nilFunc, .nilFunc], 35⟩] 36,
  .cells [.int .i64 (4)] 27 0,
  .cells [.slice (some ⟨265, 0, none⟩) 1 1] 58 0,
  .cells [.func (.func 60) #[] #[.pointer (some ⟨261, 0, none⟩)]] 35 0,
  .cells [.func (.func 60) #[] #[.pointer (some ⟨261, 0, none⟩)]] 35 0,
  .cells [.func (.func 60) #[] #[.pointer (some ⟨257, 0, none⟩)]] 35 0,
  .cells [.func (.func 60) #[] #[.pointer (some ⟨259, 0, none⟩)]] 35 0,
  .cells [.int .i64 (9)] 27 0,
  .cells [.slice (some ⟨271, 0, none⟩) 1 1] 58 0,
  .cells [.func (.func 60) #[] #[.pointer (some ⟨257, 0, none⟩)]] 35 0,
  .cells [.func (.func 60) #[] #[.pointer (some ⟨259, 0, none⟩)], .func (.func 60) #[] #[.pointer (some ⟨257, 0, none⟩)]] 35 0,
  .cells [.func (.func 60) #[] #[.pointer (some ⟨257, 0, none⟩)]] 35 0,
  .cells [.func (.func 60) #[] #[.pointer (some ⟨261, 0, none⟩)], .func (.func 16) #[] #[]] 35 0,
  .cells [.func (.func 41) #[] #[], .func (.func 16) #[] #[]] 35 0,
  .cells [.func (.func 16) #[] #[]] 35 0,
  .cells [.func (.func 16) #[] #[]] 35 0,
  .cells [.func (.func 16) #[] #[], .func (.func 60) #[] #[.pointer (some ⟨257, 0, none⟩)], .func (.func 60) #[] #[.pointer (some ⟨257, 0, none⟩)]] 35 0,
  .cells [.func (.func 16) #[] #[], .func (.func 60) #[] #[.pointer (some ⟨257, 0, none⟩)]] 35 0,
  .cells [.func (.func 16) #[] #[]] 35 0,
  .cells [.func (.func 16) #[] #[], .func (.func 16) #[] #[]] 35 0,
  .cells [.func (.func 16) #[] #[], .func (.func 16) #[] #[]] 35 0,
  .cells [.func (.func 60) #[] #[.pointer (some ⟨257, 0, none⟩)]] 35 0,
  .dead]

/- f90 detent/detentref01.Words: 10 steps, 1 blocks, 1 great ones -/
def wordsRV : Value := .slice (some ⟨256, 0, none⟩) 36 36
def wordsRO : List AObj := [.cells [.string ⟨#[97, 102, 116, 101, 114]⟩, .string ⟨#[97, 114, 114]⟩, .string ⟨#[99, 97, 108, 108]⟩, .string ⟨#[99, 97, 110, 99, 101, 108]⟩, .string ⟨#[99, 108, 97, 115, 115]⟩, .string ⟨#[99, 111, 109, 112]⟩, .string ⟨#[99, 114, 101, 97, 116, 101]⟩, .string ⟨#[100, 101, 115, 116, 114, 111, 121]⟩, .string ⟨#[100, 105, 115, 97, 98, 108, 101]⟩, .string ⟨#[101, 108, 115, 101]⟩, .string ⟨#[101, 110, 97, 98, 108, 101]⟩, .string ⟨#[101, 118, 101, 110, 116]⟩, .string ⟨#[102, 110]⟩, .string ⟨#[102, 114, 111, 110, 116]⟩, .string ⟨#[104, 97, 110, 100]⟩, .string ⟨#[105, 102]⟩, .string ⟨#[105, 110, 116]⟩, .string ⟨#[105, 116]⟩, .string ⟨#[106, 111, 105, 110]⟩, .string ⟨#[108, 101, 110]⟩, .string ⟨#[108, 111, 103]⟩, .string ⟨#[108, 111, 111, 112, 101, 114]⟩, .string ⟨#[109, 97, 105, 110]⟩, .string ⟨#[110, 101, 119]⟩, .string ⟨#[110, 117, 108, 108]⟩, .string ⟨#[111, 102, 102]⟩, .string ⟨#[111, 110]⟩, .string ⟨#[112, 111, 115, 116]⟩, .string ⟨#[114, 101, 116, 117, 114, 110]⟩, .string ⟨#[115, 112, 97, 119, 110]⟩, .string ⟨#[115, 116, 97, 114, 116]⟩, .string ⟨#[115, 116, 111, 112]⟩, .string ⟨#[116, 111]⟩, .string ⟨#[116, 111, 107]⟩, .string ⟨#[118, 97, 114]⟩, .string ⟨#[119, 104, 105, 108, 101]⟩] 9 0]

theorem words_run (e : Nat) : freshQ (envQ Tryd.prog) 89 200 (tabHp 1 spaces e) wordsV wordsO = true := by kernel_rfl
theorem words_law : SmLaw Tryd.prog 89 (freshT 1 spaces wordsV wordsO) := freshT_law (envQ Tryd.prog) tre_mixed (by decide) tre_plain fun e => freshQ_X (words_run e)
theorem forms_run : freshQ (envQ Tryd.prog) 25 400 Hp.empty formsV formsO = true := by kernel_rfl
theorem forms_law : SmLaw Tryd.prog 25 (freshX formsV formsO) := fresh_law (envQ Tryd.prog) tre_mixed (freshQ_X forms_run)
theorem wordsR_run : freshQ (envQ Tryd.prog) 90 100 Hp.empty wordsRV wordsRO = true := by kernel_rfl
theorem wordsR_law : SmLaw Tryd.prog 90 (freshX wordsRV wordsRO) := fresh_law (envQ Tryd.prog) tre_mixed (freshQ_X wordsR_run)
noncomputable def treE3 : Env := envSm (envSm (envSm treE 87 (checkX [(52, 4, 1)]) (check_law tre_copy tre_lies)) 28 (stringX 5) (string_law Tryd.lays169 tre_Extra)) 71 (fmtX 0) (fmt_law Tryd.lays173 (by kernel_rfl) (by decide))
noncomputable def trE : Env := envSm (envSm (envSm treE3 89 (freshT 1 spaces wordsV wordsO) words_law) 25 (freshX formsV formsO) forms_law) 90 (freshX wordsRV wordsRO) wordsR_law
theorem sm89 : trE.sm 89 = some (freshT 1 spaces wordsV wordsO) := rfl
theorem sm25 : trE.sm 25 = some (freshX formsV formsO) := rfl
theorem sm90 : trE.sm 90 = some (freshX wordsRV wordsRO) := rfl
theorem sm87 : trE.sm 87 = some (checkX [(52, 4, 1)]) := rfl
theorem sm28 : trE.sm 28 = some (stringX 5) := rfl
theorem sm71 : trE.sm 71 = some (fmtX 0) := rfl
theorem sm9 : trE.sm 9 = some (knownX 1 spaces) := rfl

end Go.Proofs.YtoejddhaiogonaaDoor

namespace Go.Proofs.YtoejddhaiogonaaDoor
open Go.X

def strL (l : List UInt8) : ByteArray := ⟨l.toArray⟩
def opS (s : ByteArray) : Bool := eqS s (strL [43]) || eqS s (strL [45]) || eqS s (strL [42]) || eqS s (strL [60]) || eqS s (strL [61, 61])
def termK (K : Int) : Bool := decide (26 ≤ K) && decide (K ≤ 36)
def bindsK (K : Int) (s : ByteArray) : Int :=
  if K = 32 then (if s.toList = [60] ∨ s.toList = [61, 61] then 1 else if s.toList = [43] ∨ s.toList = [45] then 2 else 3)
  else if K = 34 ∨ K = 35 then 4 else if termK K = true then 5 else 0

/-- A string's byte. -/
def bAt (s : ByteArray) (j : Nat) : UInt8 := s.toList.getD j 0
theorem bAt_get {s : ByteArray} {j : Nat} (h : j < s.toList.length) : s[(j : Int).toNat]? = some (bAt s j) := by
  rw [Int.toNat_natCast, bytes_get, bAt, List.getD_eq_getElem?_getD, List.getElem?_eq_getElem h]; rfl
theorem bAt_mem {s : ByteArray} {j : Nat} (h : j < s.toList.length) : s.toList[j] = bAt s j := by
  rw [bAt, List.getD_eq_getElem?_getD, List.getElem?_eq_getElem h]; rfl
def digitN (n : Int) : Bool := decide (48 ≤ n) && decide (n ≤ 57)
def letterN (n : Int) : Bool := (decide (97 ≤ n) && decide (n ≤ 122)) || (decide (65 ≤ n) && decide (n ≤ 90)) || decide (n = 95)
abbrev digitB (b : UInt8) : Bool := digitN (b.toNat : Nat)
abbrev letterB (b : UInt8) : Bool := letterN (b.toNat : Nat)
theorem letter_or : ∀ n : Nat, n < 256 → (decide ((n : Int) = 95) || (decide (97 ≤ IntKind.u8.wrap ((BitVec.ofInt 8 (n : Int) ||| BitVec.ofInt 8 32).toNat : Nat)) && decide (IntKind.u8.wrap ((BitVec.ofInt 8 (n : Int) ||| BitVec.ofInt 8 32).toNat : Nat) ≤ 122))) = letterN n := by decide +kernel
/-- The words, as the map has them. -/
def wordsM : MsK ByteArray := match wordsO with
  | .map es _ :: _ => es.map fun e => ((match e.key with | .string s => s | _ => .empty), e.val, e.born)
  | _ => []
def wordsL : List ByteArray := match wordsRO with
  | .cells cs _ _ :: _ => cs.map fun v => match v with | .string s => s | _ => .empty
  | _ => []
def wordS (s : ByteArray) : Bool := wordsL.any fun w => eqS w s
def nameS (s : ByteArray) : Bool := !s.toList.isEmpty && decide (s.toList.length ≤ 32) && !digitB (bAt s 0) && s.toList.all (fun b => letterB b || digitB b) && !wordS s
theorem nameS_iff {s : ByteArray} : nameS s = true ↔ s.toList ≠ [] ∧ s.toList.length ≤ 32 ∧ digitB (bAt s 0) = false ∧ (∀ j, j < s.toList.length → (letterB (bAt s j) || digitB (bAt s j)) = true) ∧ wordS s = false := by
  simp only [nameS, Bool.and_eq_true, Bool.not_eq_true', decide_eq_true_eq, List.all_eq_true]
  constructor
  · rintro ⟨⟨⟨⟨h1, h2⟩, h3⟩, h4⟩, h5⟩
    exact ⟨(by intro e; rw [e] at h1; cases h1), h2, h3, fun j hj => by rw [← bAt_mem hj]; exact h4 _ (List.getElem_mem hj), h5⟩
  rintro ⟨h1, h2, h3, h4, h5⟩
  refine ⟨⟨⟨⟨?_, h2⟩, h3⟩, fun b hb => ?_⟩, h5⟩
  · cases e : s.toList with
    | nil => exact absurd e h1
    | cons a l => rfl
  obtain ⟨j, hj, rfl⟩ := List.mem_iff_getElem.1 hb
  rw [bAt_mem hj]; exact h4 j hj

section
variable {h : Hp} {K N L Co : Int} {s : ByteArray} {ks : Value} {b : UInt8}

/-- Op -/
theorem c15 : CP trE 15 [.string s] h (.bool (opS s)) := by
  refine c_enter (fu := Tryd.f15) (by kernel_rfl) rfl ?_
  refine w_seq ?_
  refine w_region (by kernel_rfl) ?_
  refine o_assign gn rfl rfl ?_
  refine wl_end ?_
  refine w_seq ?_
  refine w_region (by kernel_rfl) ?_
  refine o_move gn rfl rfl ?_
  refine o_eqS gn rfl rfl rfl ?_
  refine o_move gn rfl rfl ?_
  refine o_or (n := 2) rfl rfl rfl gn rfl (fun hb => by
      refine o_move (gy rfl rfl rfl hb) rfl rfl ?_
      refine o_eqS (gy rfl rfl rfl hb) rfl rfl rfl ?_
      exact wl_end ⟨rfl, rfl, 2, rfl, rfl⟩) ?_
  refine o_move gn rfl rfl ?_
  refine o_or (n := 2) rfl rfl rfl gn rfl (fun hb => by
      refine o_move (gy rfl rfl rfl hb) rfl rfl ?_
      refine o_eqS (gy rfl rfl rfl hb) rfl rfl rfl ?_
      exact wl_end ⟨rfl, rfl, 2, rfl, rfl⟩) ?_
  refine o_move gn rfl rfl ?_
  refine o_or (n := 2) rfl rfl rfl gn rfl (fun hb => by
      refine o_move (gy rfl rfl rfl hb) rfl rfl ?_
      refine o_eqS (gy rfl rfl rfl hb) rfl rfl rfl ?_
      exact wl_end ⟨rfl, rfl, 2, rfl, rfl⟩) ?_
  refine o_move gn rfl rfl ?_
  refine o_or (n := 2) rfl rfl rfl gn rfl (fun hb => by
      refine o_move (gy rfl rfl rfl hb) rfl rfl ?_
      refine o_eqS (gy rfl rfl rfl hb) rfl rfl rfl ?_
      exact wl_end ⟨rfl, rfl, 2, rfl, rfl⟩) ?_
  refine o_assign gn rfl rfl ?_
  refine wl_end ?_
  refine w_ret ?_
  refine ⟨.inl rfl, _, rfl, ?_⟩
  exact ⟨rfl, rfl⟩

/-- Term, the program's -/
theorem c16 : CP trE 16 [iV K] h (.bool (termK K)) := by
  refine c_enter (fu := Tryd.f16) (by kernel_rfl) rfl ?_
  refine w_seq ?_
  refine w_region (by kernel_rfl) ?_
  refine o_assign gn rfl rfl ?_
  refine wl_end ?_
  refine w_seq ?_
  refine w_region (by kernel_rfl) ?_
  refine o_move gn rfl rfl ?_
  refine o_geq gn rfl rfl rfl ?_
  refine o_move gn rfl rfl ?_
  refine o_and (n := 2) rfl rfl rfl gn rfl (fun hb => by
      refine o_move (gy rfl rfl rfl hb) rfl rfl ?_
      refine o_leq (gy rfl rfl rfl hb) rfl rfl rfl ?_
      exact wl_end ⟨rfl, rfl, 2, rfl, rfl⟩) ?_
  refine o_assign gn rfl rfl ?_
  refine wl_end ?_
  refine w_ret ?_
  refine ⟨.inl rfl, _, rfl, ?_⟩
  exact ⟨rfl, rfl⟩

/-- Term, the document's -/
theorem c17 : CP trE 17 [iV K] h (.bool (termK K)) := by
  refine c_enter (fu := Tryd.f17) (by kernel_rfl) rfl ?_
  refine w_seq ?_
  refine w_region (by kernel_rfl) ?_
  refine o_assign gn rfl rfl ?_
  refine wl_end ?_
  refine w_seq ?_
  refine w_region (by kernel_rfl) ?_
  refine o_move gn rfl rfl ?_
  refine o_geq gn rfl rfl rfl ?_
  refine o_move gn rfl rfl ?_
  refine o_and (n := 2) rfl rfl rfl gn rfl (fun hb => by
      refine o_move (gy rfl rfl rfl hb) rfl rfl ?_
      refine o_leq (gy rfl rfl rfl hb) rfl rfl rfl ?_
      exact wl_end ⟨rfl, rfl, 2, rfl, rfl⟩) ?_
  refine o_assign gn rfl rfl ?_
  refine wl_end ?_
  refine w_ret ?_
  refine ⟨.inl rfl, _, rfl, ?_⟩
  exact ⟨rfl, rfl⟩

/-- Binds, the program's -/
theorem c18 : C trE 18 [twV K s N L Co ks] h fun v h' => v = iV (bindsK K s) ∧ Ext h h' := by
  refine c_enter (fu := Tryd.f18) (by kernel_rfl) rfl ?_
  refine w_seq ?_
  refine w_region (by kernel_rfl) ?_
  refine o_box gn rfl rfl ?_
  refine wl_at (fun h2 => h2.get h.n = some (.cells (twC K s N L Co ks) 30 0) ∧ Ext h h2) ⟨Hp.get_alloc_self _ _, Ext.alloc _ _⟩ fun h2 ⟨g1, x2⟩ => ?_
  refine o_assign gn rfl rfl ?_
  refine wl_end ?_
  refine w_seq ?_
  refine w_block ?_
  refine w_seq ?_
  refine w_region (by kernel_rfl) ?_
  refine o_fieldAddr (off := 0) gn rfl rfl (by kernel_rfl) ?_
  refine o_load gn rfl rfl (by kernel_rfl) (by assumption) rfl ?_
  refine o_eqi gn rfl rfl rfl ?_
  refine o_move gn rfl rfl ?_
  refine o_and (n := 8) rfl rfl rfl gn rfl (fun hb => by
      refine o_fieldAddr (off := 1) (gy rfl rfl rfl hb) rfl rfl (by kernel_rfl) ?_
      refine o_load (gy rfl rfl rfl hb) rfl rfl (by kernel_rfl) (by assumption) rfl ?_
      refine o_eqS (gy rfl rfl rfl hb) rfl rfl rfl ?_
      refine o_move (gy rfl rfl rfl hb) rfl rfl ?_
      refine o_or (n := 3) rfl rfl rfl (gy rfl rfl rfl hb) rfl (fun hb => by
          refine o_fieldAddr (off := 1) (gy rfl rfl rfl hb) rfl rfl (by kernel_rfl) ?_
          refine o_load (gy rfl rfl rfl hb) rfl rfl (by kernel_rfl) (by assumption) rfl ?_
          refine o_eqS (gy rfl rfl rfl hb) rfl rfl rfl ?_
          exact wl_end ⟨rfl, rfl, 3, rfl, rfl⟩) ?_
      exact wl_end ⟨rfl, rfl, 5, rfl, rfl⟩) ?_
  refine o_assign gn rfl rfl ?_
  refine wl_end ?_
  refine w_cond rfl (fun hb => ?_) fun hb => ?_
  · skip
    refine w_seq ?_
    refine w_region (by kernel_rfl) ?_
    refine o_assign gn rfl rfl ?_
    refine wl_end ?_
    refine w_ret ?_
    refine ⟨.inl rfl, _, rfl, ?_⟩
    exact ⟨congrArg iV (by unfold bindsK; (repeat' split) <;> simp_all), x2⟩
  refine w_seq ?_
  refine w_region (by kernel_rfl) ?_
  refine o_fieldAddr (off := 0) gn rfl rfl (by kernel_rfl) ?_
  refine o_load gn rfl rfl (by kernel_rfl) (by assumption) rfl ?_
  refine o_eqi gn rfl rfl rfl ?_
  refine o_move gn rfl rfl ?_
  refine o_and (n := 8) rfl rfl rfl gn rfl (fun hb => by
      refine o_fieldAddr (off := 1) (gy rfl rfl rfl hb) rfl rfl (by kernel_rfl) ?_
      refine o_load (gy rfl rfl rfl hb) rfl rfl (by kernel_rfl) (by assumption) rfl ?_
      refine o_eqS (gy rfl rfl rfl hb) rfl rfl rfl ?_
      refine o_move (gy rfl rfl rfl hb) rfl rfl ?_
      refine o_or (n := 3) rfl rfl rfl (gy rfl rfl rfl hb) rfl (fun hb => by
          refine o_fieldAddr (off := 1) (gy rfl rfl rfl hb) rfl rfl (by kernel_rfl) ?_
          refine o_load (gy rfl rfl rfl hb) rfl rfl (by kernel_rfl) (by assumption) rfl ?_
          refine o_eqS (gy rfl rfl rfl hb) rfl rfl rfl ?_
          exact wl_end ⟨rfl, rfl, 3, rfl, rfl⟩) ?_
      exact wl_end ⟨rfl, rfl, 5, rfl, rfl⟩) ?_
  refine o_assign gn rfl rfl ?_
  refine wl_end ?_
  refine w_cond rfl (fun hb => ?_) fun hb => ?_
  · skip
    refine w_seq ?_
    refine w_region (by kernel_rfl) ?_
    refine o_assign gn rfl rfl ?_
    refine wl_end ?_
    refine w_ret ?_
    refine ⟨.inl rfl, _, rfl, ?_⟩
    exact ⟨congrArg iV (by unfold bindsK; (repeat' split) <;> simp_all), x2⟩
  refine w_seq ?_
  refine w_region (by kernel_rfl) ?_
  refine o_fieldAddr (off := 0) gn rfl rfl (by kernel_rfl) ?_
  refine o_load gn rfl rfl (by kernel_rfl) (by assumption) rfl ?_
  refine o_eqi gn rfl rfl rfl ?_
  refine o_assign gn rfl rfl ?_
  refine wl_end ?_
  refine w_cond rfl (fun hb => ?_) fun hb => ?_
  · skip
    refine w_seq ?_
    refine w_region (by kernel_rfl) ?_
    refine o_assign gn rfl rfl ?_
    refine wl_end ?_
    refine w_ret ?_
    refine ⟨.inl rfl, _, rfl, ?_⟩
    exact ⟨congrArg iV (by unfold bindsK; (repeat' split) <;> simp_all), x2⟩
  refine w_seq ?_
  refine w_region (by kernel_rfl) ?_
  refine o_fieldAddr (off := 0) gn rfl rfl (by kernel_rfl) ?_
  refine o_load gn rfl rfl (by kernel_rfl) (by assumption) rfl ?_
  refine o_eqi gn rfl rfl rfl ?_
  refine o_move gn rfl rfl ?_
  refine o_or (n := 3) rfl rfl rfl gn rfl (fun hb => by
      refine o_fieldAddr (off := 0) (gy rfl rfl rfl hb) rfl rfl (by kernel_rfl) ?_
      refine o_load (gy rfl rfl rfl hb) rfl rfl (by kernel_rfl) (by assumption) rfl ?_
      refine o_eqi (gy rfl rfl rfl hb) rfl rfl rfl ?_
      exact wl_end ⟨rfl, rfl, 3, rfl, rfl⟩) ?_
  refine o_assign gn rfl rfl ?_
  refine wl_end ?_
  refine w_cond rfl (fun hb => ?_) fun hb => ?_
  · skip
    refine w_seq ?_
    refine w_region (by kernel_rfl) ?_
    refine o_assign gn rfl rfl ?_
    refine wl_end ?_
    refine w_ret ?_
    refine ⟨.inl rfl, _, rfl, ?_⟩
    exact ⟨congrArg iV (by unfold bindsK; (repeat' split) <;> simp_all), x2⟩
  refine w_seq ?_
  refine w_region (by kernel_rfl) ?_
  refine o_fieldAddr (off := 0) gn rfl rfl (by kernel_rfl) ?_
  refine o_load gn rfl rfl (by kernel_rfl) (by assumption) rfl ?_
  refine o_call [_] gn rfl rfl (by kernel_rfl) rfl (c_pure (c16) ⟨ag0, ?_⟩)
  refine o_assign gn rfl rfl ?_
  refine wl_end ?_
  refine w_cond rfl (fun hb => ?_) fun hb => ?_
  · skip
    refine w_seq ?_
    refine w_region (by kernel_rfl) ?_
    refine o_assign gn rfl rfl ?_
    refine wl_end ?_
    refine w_ret ?_
    refine ⟨.inl rfl, _, rfl, ?_⟩
    exact ⟨congrArg iV (by unfold bindsK; (repeat' split) <;> simp_all [termK] <;> omega), x2⟩
  refine w_skip ?_
  refine w_seq ?_
  refine w_region (by kernel_rfl) ?_
  refine o_assign gn rfl rfl ?_
  refine wl_end ?_
  refine w_ret ?_
  refine ⟨.inl rfl, _, rfl, ?_⟩
  have ht : termK K = false := hb
  exact ⟨congrArg iV (by
    unfold bindsK
    rw [if_neg (fun e => by subst e; cases ht), if_neg (fun e => by rcases e with e | e <;> subst e <;> cases ht), if_neg (by rw [ht]; simp)]), x2⟩

/-- Binds, the document's -/
theorem c19 : C trE 19 [twV K s N L Co ks] h fun v h' => v = iV (bindsK K s) ∧ Ext h h' := by
  refine c_enter (fu := Tryd.f19) (by kernel_rfl) rfl ?_
  refine w_seq ?_
  refine w_region (by kernel_rfl) ?_
  refine o_box gn rfl rfl ?_
  refine wl_at (fun h2 => h2.get h.n = some (.cells (twC K s N L Co ks) 30 0) ∧ Ext h h2) ⟨Hp.get_alloc_self _ _, Ext.alloc _ _⟩ fun h2 ⟨g1, x2⟩ => ?_
  refine o_assign gn rfl rfl ?_
  refine wl_end ?_
  refine w_seq ?_
  refine w_seq ?_
  refine w_region (by kernel_rfl) ?_
  refine o_fieldAddr (off := 0) gn rfl rfl (by kernel_rfl) ?_
  refine o_load gn rfl rfl (by kernel_rfl) (by assumption) rfl ?_
  refine o_call [_] gn rfl rfl (by kernel_rfl) rfl (c_pure (c17) ⟨ag0, ?_⟩)
  refine o_not gn rfl rfl ?_
  refine wl_end ?_
  refine w_cond rfl (fun hb => ?_) fun hb => ?_
  · skip
    refine w_seq ?_
    refine w_region (by kernel_rfl) ?_
    refine o_assign gn rfl rfl ?_
    refine wl_end ?_
    refine w_ret ?_
    refine ⟨.inl rfl, _, rfl, ?_⟩
    exact ⟨congrArg iV (by unfold bindsK; (repeat' split) <;> simp_all [termK] <;> omega), x2⟩
  refine w_skip ?_
  refine w_seq ?_
  refine w_seq ?_
  refine w_region (by kernel_rfl) ?_
  refine o_fieldAddr (off := 0) gn rfl rfl (by kernel_rfl) ?_
  refine o_load gn rfl rfl (by kernel_rfl) (by assumption) rfl ?_
  refine wl_end ?_
  refine w_block ?_
  refine w_seq ?_
  refine w_region (by kernel_rfl) ?_
  refine o_eqi gn rfl rfl rfl ?_
  refine o_assign gn rfl rfl ?_
  refine wl_end ?_
  refine w_cond rfl (fun hb => ?_) fun hb => ?_
  · skip
    refine w_seq ?_
    refine w_seq ?_
    refine w_region (by kernel_rfl) ?_
    refine o_fieldAddr (off := 1) gn rfl rfl (by kernel_rfl) ?_
    refine o_load gn rfl rfl (by kernel_rfl) (by assumption) rfl ?_
    refine wl_end ?_
    refine w_block ?_
    refine w_seq ?_
    refine w_seq ?_
    refine w_region (by kernel_rfl) ?_
    refine o_eqS gn rfl rfl rfl ?_
    refine o_assign gn rfl rfl ?_
    refine wl_end ?_
    refine w_cond rfl (fun hb => ?_) fun hb => ?_
    · skip
      refine w_skip ?_
      refine w_cond rfl (fun hb => ?_) fun hb => ?_
      · skip
        refine w_seq ?_
        refine w_region (by kernel_rfl) ?_
        refine o_assign gn rfl rfl ?_
        refine wl_end ?_
        refine w_ret ?_
        refine ⟨.inl rfl, _, rfl, ?_⟩
        exact ⟨congrArg iV (by unfold bindsK; (repeat' split) <;> simp_all [termK] <;> omega), x2⟩
      refine w_seq ?_
      refine w_seq ?_
      refine w_region (by kernel_rfl) ?_
      refine o_eqS gn rfl rfl rfl ?_
      refine o_assign gn rfl rfl ?_
      refine wl_end ?_
      refine w_cond rfl (fun hb => ?_) fun hb => ?_
      · skip
        refine w_skip ?_
        refine w_cond rfl (fun hb => ?_) fun hb => ?_
        · skip
          refine w_seq ?_
          refine w_region (by kernel_rfl) ?_
          refine o_assign gn rfl rfl ?_
          refine wl_end ?_
          refine w_ret ?_
          refine ⟨.inl rfl, _, rfl, ?_⟩
          exact ⟨congrArg iV (by unfold bindsK; (repeat' split) <;> simp_all [termK] <;> omega), x2⟩
        refine w_skip ?_
        refine w_seq ?_
        refine w_region (by kernel_rfl) ?_
        refine o_assign gn rfl rfl ?_
        refine wl_end ?_
        refine w_ret ?_
        refine ⟨.inl rfl, _, rfl, ?_⟩
        exact ⟨congrArg iV (by unfold bindsK; (repeat' split) <;> simp_all [termK] <;> omega), x2⟩
      refine w_region (by kernel_rfl) ?_
      refine o_eqS gn rfl rfl rfl ?_
      refine o_assign gn rfl rfl ?_
      refine wl_end ?_
      refine w_cond rfl (fun hb => ?_) fun hb => ?_
      · skip
        refine w_seq ?_
        refine w_region (by kernel_rfl) ?_
        refine o_assign gn rfl rfl ?_
        refine wl_end ?_
        refine w_ret ?_
        refine ⟨.inl rfl, _, rfl, ?_⟩
        exact ⟨congrArg iV (by unfold bindsK; (repeat' split) <;> simp_all [termK] <;> omega), x2⟩
      refine w_skip ?_
      refine w_seq ?_
      refine w_region (by kernel_rfl) ?_
      refine o_assign gn rfl rfl ?_
      refine wl_end ?_
      refine w_ret ?_
      refine ⟨.inl rfl, _, rfl, ?_⟩
      exact ⟨congrArg iV (by unfold bindsK; (repeat' split) <;> simp_all [termK] <;> omega), x2⟩
    refine w_region (by kernel_rfl) ?_
    refine o_eqS gn rfl rfl rfl ?_
    refine o_assign gn rfl rfl ?_
    refine wl_end ?_
    refine w_cond rfl (fun hb => ?_) fun hb => ?_
    · skip
      refine w_seq ?_
      refine w_region (by kernel_rfl) ?_
      refine o_assign gn rfl rfl ?_
      refine wl_end ?_
      refine w_ret ?_
      refine ⟨.inl rfl, _, rfl, ?_⟩
      exact ⟨congrArg iV (by unfold bindsK; (repeat' split) <;> simp_all [termK] <;> omega), x2⟩
    refine w_seq ?_
    refine w_seq ?_
    refine w_region (by kernel_rfl) ?_
    refine o_eqS gn rfl rfl rfl ?_
    refine o_assign gn rfl rfl ?_
    refine wl_end ?_
    refine w_cond rfl (fun hb => ?_) fun hb => ?_
    · skip
      refine w_skip ?_
      refine w_cond rfl (fun hb => ?_) fun hb => ?_
      · skip
        refine w_seq ?_
        refine w_region (by kernel_rfl) ?_
        refine o_assign gn rfl rfl ?_
        refine wl_end ?_
        refine w_ret ?_
        refine ⟨.inl rfl, _, rfl, ?_⟩
        exact ⟨congrArg iV (by unfold bindsK; (repeat' split) <;> simp_all [termK] <;> omega), x2⟩
      refine w_skip ?_
      refine w_seq ?_
      refine w_region (by kernel_rfl) ?_
      refine o_assign gn rfl rfl ?_
      refine wl_end ?_
      refine w_ret ?_
      refine ⟨.inl rfl, _, rfl, ?_⟩
      exact ⟨congrArg iV (by unfold bindsK; (repeat' split) <;> simp_all [termK] <;> omega), x2⟩
    refine w_region (by kernel_rfl) ?_
    refine o_eqS gn rfl rfl rfl ?_
    refine o_assign gn rfl rfl ?_
    refine wl_end ?_
    refine w_cond rfl (fun hb => ?_) fun hb => ?_
    · skip
      refine w_seq ?_
      refine w_region (by kernel_rfl) ?_
      refine o_assign gn rfl rfl ?_
      refine wl_end ?_
      refine w_ret ?_
      refine ⟨.inl rfl, _, rfl, ?_⟩
      exact ⟨congrArg iV (by unfold bindsK; (repeat' split) <;> simp_all [termK] <;> omega), x2⟩
    refine w_skip ?_
    refine w_seq ?_
    refine w_region (by kernel_rfl) ?_
    refine o_assign gn rfl rfl ?_
    refine wl_end ?_
    refine w_ret ?_
    refine ⟨.inl rfl, _, rfl, ?_⟩
    exact ⟨congrArg iV (by unfold bindsK; (repeat' split) <;> simp_all [termK] <;> omega), x2⟩
  refine w_seq ?_
  refine w_seq ?_
  refine w_region (by kernel_rfl) ?_
  refine o_eqi gn rfl rfl rfl ?_
  refine o_assign gn rfl rfl ?_
  refine wl_end ?_
  refine w_cond rfl (fun hb => ?_) fun hb => ?_
  · skip
    refine w_skip ?_
    refine w_cond rfl (fun hb => ?_) fun hb => ?_
    · skip
      refine w_seq ?_
      refine w_region (by kernel_rfl) ?_
      refine o_assign gn rfl rfl ?_
      refine wl_end ?_
      refine w_ret ?_
      refine ⟨.inl rfl, _, rfl, ?_⟩
      exact ⟨congrArg iV (by unfold bindsK; (repeat' split) <;> simp_all [termK] <;> omega), x2⟩
    refine w_skip ?_
    refine w_seq ?_
    refine w_region (by kernel_rfl) ?_
    refine o_assign gn rfl rfl ?_
    refine wl_end ?_
    refine w_ret ?_
    refine ⟨.inl rfl, _, rfl, ?_⟩
    exact ⟨congrArg iV (by unfold bindsK; (repeat' split) <;> simp_all [termK] <;> omega), x2⟩
  refine w_region (by kernel_rfl) ?_
  refine o_eqi gn rfl rfl rfl ?_
  refine o_assign gn rfl rfl ?_
  refine wl_end ?_
  refine w_cond rfl (fun hb => ?_) fun hb => ?_
  · skip
    refine w_seq ?_
    refine w_region (by kernel_rfl) ?_
    refine o_assign gn rfl rfl ?_
    refine wl_end ?_
    refine w_ret ?_
    refine ⟨.inl rfl, _, rfl, ?_⟩
    exact ⟨congrArg iV (by unfold bindsK; (repeat' split) <;> simp_all [termK] <;> omega), x2⟩
  refine w_skip ?_
  refine w_seq ?_
  refine w_region (by kernel_rfl) ?_
  refine o_assign gn rfl rfl ?_
  refine wl_end ?_
  refine w_ret ?_
  refine ⟨.inl rfl, _, rfl, ?_⟩
  exact ⟨congrArg iV (by unfold bindsK; (repeat' split) <;> simp_all [termK] <;> omega), x2⟩

/-- digit -/
theorem c78 : CP trE 78 [.int .u8 (b.toNat : Nat)] h (.bool (digitB b)) := by
  refine c_enter (fu := Tryd.f78) (by kernel_rfl) rfl ?_
  refine w_seq ?_
  refine w_region (by kernel_rfl) ?_
  refine o_assign gn rfl rfl ?_
  refine wl_end ?_
  refine w_seq ?_
  refine w_region (by kernel_rfl) ?_
  refine o_move gn rfl rfl ?_
  refine o_geq gn rfl rfl rfl ?_
  refine o_move gn rfl rfl ?_
  refine o_and (n := 2) rfl rfl rfl gn rfl (fun hb => by
      refine o_move (gy rfl rfl rfl hb) rfl rfl ?_
      refine o_leq (gy rfl rfl rfl hb) rfl rfl rfl ?_
      exact wl_end ⟨rfl, rfl, 2, rfl, rfl⟩) ?_
  refine o_assign gn rfl rfl ?_
  refine wl_end ?_
  refine w_ret ?_
  refine ⟨.inl rfl, _, rfl, ?_⟩
  exact ⟨rfl, rfl⟩
/-- Digit -/
theorem c83 : CP trE 83 [.int .u8 (b.toNat : Nat)] h (.bool (digitB b)) := by
  refine c_enter (fu := Tryd.f83) (by kernel_rfl) rfl ?_
  refine w_seq ?_
  refine w_region (by kernel_rfl) ?_
  refine o_assign gn rfl rfl ?_
  refine wl_end ?_
  refine w_seq ?_
  refine w_region (by kernel_rfl) ?_
  refine o_move gn rfl rfl ?_
  refine o_geq gn rfl rfl rfl ?_
  refine o_move gn rfl rfl ?_
  refine o_and (n := 2) rfl rfl rfl gn rfl (fun hb => by
      refine o_move (gy rfl rfl rfl hb) rfl rfl ?_
      refine o_leq (gy rfl rfl rfl hb) rfl rfl rfl ?_
      exact wl_end ⟨rfl, rfl, 2, rfl, rfl⟩) ?_
  refine o_assign gn rfl rfl ?_
  refine wl_end ?_
  refine w_ret ?_
  refine ⟨.inl rfl, _, rfl, ?_⟩
  exact ⟨rfl, rfl⟩
/-- Letter -/
theorem c82 : CP trE 82 [.int .u8 (b.toNat : Nat)] h (.bool (letterB b)) := by
  refine c_enter (fu := Tryd.f82) (by kernel_rfl) rfl ?_
  refine w_seq ?_
  refine w_region (by kernel_rfl) ?_
  refine o_assign gn rfl rfl ?_
  refine wl_end ?_
  refine w_seq ?_
  refine w_region (by kernel_rfl) ?_
  refine o_move gn rfl rfl ?_
  refine o_geq gn rfl rfl rfl ?_
  refine o_move gn rfl rfl ?_
  refine o_and (n := 2) rfl rfl rfl gn rfl (fun hb => by
      refine o_move (gy rfl rfl rfl hb) rfl rfl ?_
      refine o_leq (gy rfl rfl rfl hb) rfl rfl rfl ?_
      exact wl_end ⟨rfl, rfl, 2, rfl, rfl⟩) ?_
  refine o_move gn rfl rfl ?_
  refine o_or (n := 6) rfl rfl rfl gn rfl (fun hb => by
      refine o_move (gy rfl rfl rfl hb) rfl rfl ?_
      refine o_geq (gy rfl rfl rfl hb) rfl rfl rfl ?_
      refine o_move (gy rfl rfl rfl hb) rfl rfl ?_
      refine o_and (n := 2) rfl rfl rfl (gy rfl rfl rfl hb) rfl (fun hb => by
          refine o_move (gy rfl rfl rfl hb) rfl rfl ?_
          refine o_leq (gy rfl rfl rfl hb) rfl rfl rfl ?_
          exact wl_end ⟨rfl, rfl, 2, rfl, rfl⟩) ?_
      exact wl_end ⟨rfl, rfl, 4, rfl, rfl⟩) ?_
  refine o_move gn rfl rfl ?_
  refine o_or (n := 2) rfl rfl rfl gn rfl (fun hb => by
      refine o_move (gy rfl rfl rfl hb) rfl rfl ?_
      refine o_eqi (gy rfl rfl rfl hb) rfl rfl rfl ?_
      exact wl_end ⟨rfl, rfl, 2, rfl, rfl⟩) ?_
  refine o_assign gn rfl rfl ?_
  refine wl_end ?_
  refine w_ret ?_
  refine ⟨.inl rfl, _, rfl, ?_⟩
  exact ⟨rfl, rfl⟩
/-- letter -/
theorem c80 : CP trE 80 [.int .u8 (b.toNat : Nat)] h (.bool (letterB b)) := by
  refine c_enter (fu := Tryd.f80) (by kernel_rfl) rfl ?_
  refine w_seq ?_
  refine w_region (by kernel_rfl) ?_
  refine o_assign gn rfl rfl ?_
  refine wl_end ?_
  refine w_seq ?_
  refine w_region (by kernel_rfl) ?_
  refine o_move gn rfl rfl ?_
  refine o_eqi gn rfl rfl rfl ?_
  refine o_move gn rfl rfl ?_
  refine o_or (n := 8) rfl rfl rfl gn rfl (fun hb => by
      refine o_move (gy rfl rfl rfl hb) rfl rfl ?_
      refine o_or8 (gy rfl rfl rfl hb) rfl rfl rfl ?_
      refine o_geq (gy rfl rfl rfl hb) rfl rfl rfl ?_
      refine o_move (gy rfl rfl rfl hb) rfl rfl ?_
      refine o_and (n := 3) rfl rfl rfl (gy rfl rfl rfl hb) rfl (fun hb => by
          refine o_move (gy rfl rfl rfl hb) rfl rfl ?_
          refine o_or8 (gy rfl rfl rfl hb) rfl rfl rfl ?_
          refine o_leq (gy rfl rfl rfl hb) rfl rfl rfl ?_
          exact wl_end ⟨rfl, rfl, 3, rfl, rfl⟩) ?_
      exact wl_end ⟨rfl, rfl, 5, rfl, rfl⟩) ?_
  refine o_assign gn rfl rfl ?_
  refine wl_end ?_
  refine w_ret ?_
  refine ⟨.inl rfl, _, rfl, ?_⟩
  exact ⟨congrArg _ (letter_or b.toNat b.toNat_lt), rfl⟩

end
end Go.Proofs.YtoejddhaiogonaaDoor

namespace Go.Proofs.YtoejddhaiogonaaDoor
open Go.X

/-- The table of blanks lies there. -/
structure Blk (h : Hp) : Prop where
  t : tabThere 1 spaces h = true
  lt : 1 < h.n
theorem Blk.ext {h h' : Hp} (x : Blk h) (g : Ext h h') : Blk h' := ⟨by
  have := x.t
  unfold tabThere at *
  rw [g.get 1 x.lt]; exact this, Nat.lt_of_lt_of_le x.lt g.n⟩

theorem keyStr {E : Env} {t kt et : TypeId} (hu : E.und t = some (.map kt et)) (hk : E.und kt = some .string) : KeyT E t kt et Value.string := by
  refine ⟨hu, fun h a b => ?_, fun a => by simp [keyOkX, hk, keyFits]⟩
  have : (a.data.toList == b.data.toList) = decide (a = b) := by
    rw [Bool.eq_iff_iff, beq_iff_eq, decide_eq_true_eq]
    exact ⟨fun e => ByteArray.ext (Array.toList_inj.1 e), fun e => by rw [e]⟩
  simp [keyEqX, hk, keyFits, sameV, this]
theorem key100 : KeyT trE 100 9 99 Value.string := keyStr (by kernel_rfl) (by kernel_rfl)
theorem words_pcs (n : Nat) : pcs n wordsO [0] = [cR n (.map (wordsM.map (entK Value.string)) 36)] := by kernel_rfl
theorem words_v (n : Nat) : shV 400 n wordsV = some (.map (some n)) := by kernel_rfl
theorem words_l (n : Nat) : shOs n wordsO = some wordsO := by kernel_rfl
theorem wordsR_v (n : Nat) : shV 400 n wordsRV = some (.slice (some ⟨n, 0, none⟩) 36 36) := by kernel_rfl
theorem wordsR_l (n : Nat) : shOs n wordsRO = some wordsRO := by kernel_rfl
theorem wordsR_pcs (n : Nat) : pcs n wordsRO [0] = [cR n (.cells (wordsL.map Value.string) 9 0)] := by kernel_rfl
theorem wordsL_len : wordsL.length = 36 := by kernel_rfl
theorem wordsM_keys : wordsM.map (·.1) = wordsL := by kernel_rfl
theorem wordsM_vals : wordsM.map (·.2.1) = List.replicate 36 (.agg #[.bool true]) := by kernel_rfl
theorem get_same {K : Type} [DecidableEq K] {v : Value} : ∀ (M : MsK K) (k : K) (i : Nat), (∀ x, x ∈ M → x.2.1 = v) → (fK k M i).map (·.2) = if k ∈ M.map (·.1) then some v else none
  | [], _, _, _ => rfl
  | (a, u, n) :: r, k, i, h => by
    simp only [fK, List.map_cons, List.mem_cons]
    by_cases e : k = a
    · have := h (a, u, n) (by simp)
      simp only at this
      simp [e, this]
    simp only [e, false_or]
    exact get_same r k (i + 1) fun x hx => h x (by simp [hx])
theorem words_get (s : ByteArray) : (getK wordsM s).getD (.agg #[.bool false]) = .agg #[.bool (wordS s)] := by
  have h : ∀ x, x ∈ wordsM → x.2.1 = .agg #[.bool true] := fun x hx => by
    have : x.2.1 ∈ wordsM.map (·.2.1) := List.mem_map_of_mem (f := fun x : ByteArray × Value × Nat => x.2.1) hx
    rw [wordsM_vals] at this
    exact List.eq_of_mem_replicate this
  have hw : wordS s = true ↔ s ∈ wordsL := by
    unfold wordS
    rw [List.any_eq_true]
    constructor
    · rintro ⟨w, h1, h2⟩
      have : w = s := by
        simp only [eqS, beq_iff_eq, ByteArray.toList_eq] at h2
        exact ByteArray.ext (Array.toList_inj.1 h2)
      rw [← this]; exact h1
    intro h1
    exact ⟨s, h1, by simp [eqS]⟩
  rw [getK, get_same wordsM s 0 h, wordsM_keys]
  by_cases e : s ∈ wordsL
  · rw [if_pos e, hw.2 e]; rfl
  have : wordS s = false := by
    cases hx : wordS s with
    | false => rfl
    | true => exact absurd (hw.1 hx) e
  rw [if_neg e, this]; rfl

section
variable {h : Hp} {K N L Co : Int} {s : ByteArray} {ks : Value} {b : UInt8}

/-- IsWord -/
theorem c79 (B : Blk h) : C trE 79 [.string s] h fun v h' => v = .bool (wordS s) ∧ Ext h h' := by
  refine c_enter (fu := Tryd.f79) (by kernel_rfl) rfl ?_
  have S := SH.start h
  refine w_seq ?_
  refine w_region (by kernel_rfl) ?_
  refine o_assign gn rfl rfl ?_
  refine wl_end ?_
  refine w_seq ?_
  refine w_region (by kernel_rfl) ?_
  refine s_freshT [0] S B.t B.lt (by simp) gn rfl (by kernel_rfl) (by kernel_rfl) sm89 words_v words_l (fun _ => by decide) (by decide) (fun n g nn S => ag0) fun n1 g nn1 S => ?_
  rw [words_pcs] at S
  refine o_move gn rfl rfl ?_
  refine o_lookupK (zv := .agg #[.bool false]) key100 gn rfl rfl rfl (by first | exact S.cel 0 rfl | exact S.cel 1 rfl | exact S.cel 2 rfl | exact S.cel 3 rfl | exact S.cel 4 rfl | exact S.cel 5 rfl | exact S.cel 6 rfl | exact S.cel 7 rfl) (by kernel_rfl) ?_
  rw [words_get]
  refine o_field (v := .bool (wordS s)) gn rfl rfl (by kernel_rfl) ?_
  refine o_assign gn rfl rfl ?_
  refine wl_end ?_
  refine w_ret ?_
  refine ⟨.inl rfl, _, rfl, ?_⟩
  exact ⟨rfl, S.e0⟩

/-- IsWord, the document's -/
theorem c84 : C trE 84 [.string s] h fun v h' => v = .bool (wordS s) ∧ Ext h h' := by
  refine c_enter (fu := Tryd.f84) (by kernel_rfl) rfl ?_
  have S := SH.start h
  refine w_seq ?_
  refine w_region (by kernel_rfl) ?_
  refine o_assign gn rfl rfl ?_
  refine wl_end ?_
  refine w_seq ?_
  refine w_region (by kernel_rfl) ?_
  refine s_fresh [0] S gn rfl (by kernel_rfl) (by kernel_rfl) sm90 wordsR_v wordsR_l (fun _ => by decide) (by decide) (fun n g nn S => ag0) fun n1 g nn1 S => ?_
  rw [wordsR_pcs] at S
  refine o_assign gn rfl rfl ?_
  refine wl_end ?_
  refine w_seq ?_
  refine w_seq ?_
  refine w_region (by kernel_rfl) ?_
  refine o_assign gn rfl rfl ?_
  refine wl_end ?_
  refine w_block ?_
  refine w_loopS [(4, _)] [(0, _), (3, _)] (by repeat (first | exact trivial | refine ⟨rfl, ?_⟩)) (fun kk lv hh => ∃ j : Nat, lv = [(4, iV j)] ∧ kk = 36 - j ∧ j ≤ 36 ∧ SH h [] [cR n1 (.cells (wordsL.map Value.string) 9 0)] hh ∧ ∀ i (hi : i < wordsL.length), i < j → eqS wordsL[i] s = false) (n := 36) ?_ fun kk lv hh hI => ?_
  · exact ⟨0, rfl, rfl, by omega, S, fun i hi h => by omega⟩
  obtain ⟨j, rfl, hk, hj, S, hs⟩ := hI
  refine w_seq ?_
  refine w_seq ?_
  refine w_region (by kernel_rfl) ?_
  refine o_move gn rfl rfl ?_
  refine o_move gn rfl rfl ?_
  refine o_len gn rfl rfl (by kernel_rfl) ?_
  refine o_lss gn rfl rfl rfl ?_
  refine wl_end ?_
  refine w_cond rfl (fun hb => ?_) fun hb => ?_
  · skip
    refine w_skip ?_
    have hj : j < 36 := by simp at hb; omega
    have hjl : j < wordsL.length := by rw [wordsL_len]; exact hj
    refine w_seq ?_
    refine w_block ?_
    refine w_seq ?_
    refine w_region (by kernel_rfl) ?_
    refine o_move gn rfl rfl ?_
    refine o_move gn rfl rfl ?_
    refine o_indexAddr (zz := 1) gn rfl rfl rfl (by kernel_rfl) (by omega) (by omega) ?_
    refine o_load gn rfl rfl (by kernel_rfl) (S.cel 0 rfl) (by rw [Int.toNat_natCast, Nat.mul_one, Nat.zero_add, List.getElem?_map, List.getElem?_eq_getElem hjl]; rfl) ?_
    refine o_move gn rfl rfl ?_
    refine o_eqS gn rfl rfl rfl ?_
    refine wl_end ?_
    refine w_cond rfl (fun hb => ?_) fun hb => ?_
    · skip
      refine w_seq ?_
      refine w_region (by kernel_rfl) ?_
      refine o_assign gn rfl rfl ?_
      refine wl_end ?_
      refine w_ret ?_
      refine ⟨.inl rfl, _, rfl, ?_⟩
      exact ⟨by
        have : wordS s = true := List.any_eq_true.2 ⟨wordsL[j], List.getElem_mem hjl, hb⟩
        rw [this]; rfl, S.e0⟩
    refine w_skip ?_
    refine w_region (by kernel_rfl) ?_
    refine o_move gn rfl rfl ?_
    refine o_add gn rfl rfl rfl (by omega) (by omega) ?_
    refine o_assign gn rfl rfl ?_
    refine wl_end ?_
    exact rndS (36 - (j + 1)) (by omega) [(4, _)] (by repeat (first | exact trivial | refine ⟨rfl, ?_⟩)) ⟨j + 1, rfl, rfl, by omega, S, fun i hi h => by
      by_cases e : i = j
      · subst e; exact hb
      exact hs i hi (by omega)⟩
  refine w_exit ?_
  refine thn_exit ?_
  refine rnd_exit ?_
  refine blk_eq ?_
  refine w_seq ?_
  refine w_region (by kernel_rfl) ?_
  refine o_assign gn rfl rfl ?_
  refine wl_end ?_
  refine w_ret ?_
  refine ⟨.inl rfl, _, rfl, ?_⟩
  exact ⟨by
    have : wordS s = false := by
      rw [wordS, List.any_eq_false]
      intro w hw
      obtain ⟨i, hi, rfl⟩ := List.mem_iff_getElem.1 hw
      have := hs i hi (by rw [wordsL_len] at hi; simp at hb; omega)
      rw [this]; simp
    rw [this]; rfl, S.e0⟩

end
end Go.Proofs.YtoejddhaiogonaaDoor

namespace Go.Proofs.YtoejddhaiogonaaDoor
open Go.X

theorem size_len (s : ByteArray) : ((s.size : Nat) : Int) = s.toList.length := by rw [bytes_len]
theorem name_false {s : ByteArray} (h : ¬ nameS s = true) : nameS s = false := by cases hx : nameS s <;> simp_all
theorem eqS_empty (s : ByteArray) : eqS s ⟨#[]⟩ = s.toList.isEmpty := by
  have : (⟨#[]⟩ : ByteArray).toList = [] := by rw [ByteArray.toList_eq]
  simp only [eqS, this]
  cases s.toList <;> rfl
theorem first_pos {s : ByteArray} {c : Bool} (h : (s.toList.isEmpty || c) = false) : 0 < s.toList.length := by
  cases e : s.toList with
  | nil => rw [e] at h; simp at h
  | cons a l => simp
theorem name_no1 {s : ByteArray} (h : ((s.toList.isEmpty || decide ((32 : Int) < s.toList.length)) || digitB (bAt s 0)) = true) : nameS s = false := name_false fun e => by
  obtain ⟨h1, h2, h3, _⟩ := nameS_iff.1 e
  simp only [Bool.or_eq_true, decide_eq_true_eq, h3, List.isEmpty_iff, Bool.false_eq_true, or_false] at h
  rcases h with h | h
  · exact h1 h
  omega
theorem name_yes1 {s : ByteArray} (h : ((s.toList.isEmpty || decide ((32 : Int) < s.toList.length)) || digitB (bAt s 0)) = false) : s.toList ≠ [] ∧ s.toList.length ≤ 32 ∧ digitB (bAt s 0) = false := by
  simp only [Bool.or_eq_false_iff, decide_eq_false_iff_not] at h
  exact ⟨fun e => by rw [e] at h; simp at h, by omega, h.2⟩
theorem name_no2 {s : ByteArray} (h : wordS s = true) : nameS s = false := name_false fun e => by rw [(nameS_iff.1 e).2.2.2.2] at h; cases h
theorem name_no3 {s : ByteArray} {j : Nat} (hj : j < s.toList.length) (h : (!letterB (bAt s j) && !digitB (bAt s j)) = true) : nameS s = false := name_false fun e => by
  have := (nameS_iff.1 e).2.2.2.1 j hj
  revert h this
  cases letterB (bAt s j) <;> cases digitB (bAt s j) <;> simp

theorem letter_digit {n : Int} (h : letterN n = true) : digitN n = false := by
  simp only [letterN, digitN, Bool.or_eq_true, Bool.and_eq_true, decide_eq_true_eq, Bool.and_eq_false_iff, decide_eq_false_iff_not] at *
  omega
theorem name_no4 {s : ByteArray} {j : Nat} (hj : j < s.toList.length) (h : (!letterB (bAt s j) && (decide ((j : Int) = 0) || !digitB (bAt s j))) = true) : nameS s = false := name_false fun e => by
  obtain ⟨_, _, h3, h4, _⟩ := nameS_iff.1 e
  have h4 := h4 j hj
  simp only [Bool.and_eq_true, Bool.not_eq_true', Bool.or_eq_true, decide_eq_true_eq] at h h4
  rcases h.2 with e | e
  · have : j = 0 := by omega
    subst this
    rw [h.1, h3] at h4; simp at h4
  rw [h.1, e] at h4; simp at h4
theorem neS_empty (s : ByteArray) : (!eqS s ⟨#[]⟩) = !s.toList.isEmpty := by rw [eqS_empty]

section
variable {h : Hp} {s : ByteArray}

/-- IsName -/
theorem c62 (B : Blk h) (hsz : s.toList.length < 9223372036854775000) : C trE 62 [.string s] h fun v h' => v = .bool (nameS s) ∧ Ext h h' := by
  refine c_enter (fu := Tryd.f62) (by kernel_rfl) rfl ?_
  have S := SH.start h
  refine w_seq ?_
  refine w_region (by kernel_rfl) ?_
  refine o_assign gn rfl rfl ?_
  refine wl_end ?_
  refine w_seq ?_
  refine w_seq ?_
  refine w_region (by kernel_rfl) ?_
  refine o_move gn rfl rfl ?_
  refine o_eqS gn rfl rfl rfl ?_
  rw [show eqS s _ = s.toList.isEmpty from eqS_empty s]
  refine o_move gn rfl rfl ?_
  refine o_or (n := 3) rfl rfl rfl gn rfl (fun hb => by
      refine o_move (gy rfl rfl rfl hb) rfl rfl ?_
      refine o_lenstr (gy rfl rfl rfl hb) rfl rfl (by kernel_rfl) ?_
      rw [size_len]
      refine o_gtr (gy rfl rfl rfl hb) rfl rfl rfl ?_
      exact wl_end ⟨rfl, rfl, 3, rfl, rfl⟩) ?_
  refine o_move gn rfl rfl ?_
  refine o_or (n := 3) rfl rfl rfl gn rfl (fun hb => by
      refine o_move (gy rfl rfl rfl hb) rfl rfl ?_
      refine o_indexS (gy rfl rfl rfl hb) rfl rfl rfl (by kernel_rfl) (by omega) (bAt_get (j := 0) (first_pos hb)) ?_
      refine o_call [_] (gy rfl rfl rfl hb) rfl rfl (by kernel_rfl) rfl (c_pure (c78 (b := bAt s 0)) ⟨ag0, ?_⟩)
      exact wl_end ⟨rfl, rfl, 3, rfl, rfl⟩) ?_
  refine o_move gn rfl rfl ?_
  refine wl_split (dc := 16) rfl (fun hb16 => ?_) fun hb16 => ?_
  · skip
    refine wl_skips (n := 2) (dc := 16) (w := false) rfl hb16 rfl ?_
    refine o_pickt gn rfl rfl hb16 rfl ?_
    refine wl_end ?_
    refine w_cond rfl (fun hb => ?_) fun hb => ?_
    · skip
      refine w_seq ?_
      refine w_region (by kernel_rfl) ?_
      refine o_assign gn rfl rfl ?_
      refine wl_end ?_
      refine w_ret ?_
      refine ⟨.inl rfl, _, rfl, ?_⟩
      exact ⟨by rw [name_no1 hb16]; rfl, S.e0⟩
    exact absurd hb (by decide)
  refine o_move (gy rfl rfl rfl hb16) rfl rfl ?_
  refine o_call [_] (gy rfl rfl rfl hb16) rfl rfl (by kernel_rfl) rfl (C.mono (c79 (B.ext S.e0)) ?_)
  rintro v g ⟨rfl, x⟩
  have S := S.grow x
  refine ⟨ag0, ?_⟩
  refine o_pickf gn rfl rfl hb16 rfl ?_
  refine wl_end ?_
  refine w_cond rfl (fun hb => ?_) fun hb => ?_
  · skip
    refine w_seq ?_
    refine w_region (by kernel_rfl) ?_
    refine o_assign gn rfl rfl ?_
    refine wl_end ?_
    refine w_ret ?_
    refine ⟨.inl rfl, _, rfl, ?_⟩
    exact ⟨by rw [name_no2 hb]; rfl, S.e0⟩
  refine w_skip ?_
  refine w_seq ?_
  refine w_seq ?_
  obtain ⟨y1, y2, y3⟩ := name_yes1 hb16
  have y4 := hb
  refine w_region (by kernel_rfl) ?_
  refine o_move gn rfl rfl ?_
  refine o_lenstr gn rfl rfl (by kernel_rfl) ?_
  rw [size_len]
  refine o_move gn rfl rfl ?_
  refine wl_end ?_
  refine w_block ?_
  refine w_loopS [(22, _)] [(0, _), (21, _)] (by repeat (first | exact trivial | refine ⟨rfl, ?_⟩)) (fun kk lv hh => ∃ j : Nat, lv = [(22, iV j)] ∧ kk = s.toList.length - j ∧ j ≤ s.toList.length ∧ SH h [] [] hh ∧ ∀ i, i < j → (letterB (bAt s i) || digitB (bAt s i)) = true) (n := (s.toList.length)) ?_ fun kk lv hh hI => ?_
  · exact ⟨0, rfl, rfl, by omega, S, fun i hi => by omega⟩
  obtain ⟨j, rfl, hk, hj, S, hs⟩ := hI
  refine w_seq ?_
  refine w_region (by kernel_rfl) ?_
  refine o_lss gn rfl rfl rfl ?_
  refine wl_end ?_
  refine w_seq ?_
  refine w_cond rfl (fun hb => ?_) fun hb => ?_
  · skip
    refine w_skip ?_
    have hj : j < s.toList.length := by simp at hb; omega
    refine w_seq ?_
    refine w_block ?_
    refine w_seq ?_
    refine w_region (by kernel_rfl) ?_
    refine o_move gn rfl rfl ?_
    refine o_assign gn rfl rfl ?_
    refine wl_end ?_
    refine w_seq ?_
    refine w_region (by kernel_rfl) ?_
    refine o_move gn rfl rfl ?_
    refine o_move gn rfl rfl ?_
    refine o_indexS gn rfl rfl rfl (by kernel_rfl) (by omega) (bAt_get hj) ?_
    refine o_call [_] gn rfl rfl (by kernel_rfl) rfl (c_pure (c80 (b := bAt s j)) ⟨ag0, ?_⟩)
    refine o_not gn rfl rfl ?_
    refine o_move gn rfl rfl ?_
    refine o_and (n := 5) rfl rfl rfl gn rfl (fun hb => by
        refine o_move (gy rfl rfl rfl hb) rfl rfl ?_
        refine o_move (gy rfl rfl rfl hb) rfl rfl ?_
        refine o_indexS (gy rfl rfl rfl hb) rfl rfl rfl (by kernel_rfl) (by omega) (bAt_get hj) ?_
        refine o_call [_] (gy rfl rfl rfl hb) rfl rfl (by kernel_rfl) rfl (c_pure (c78 (b := bAt s j)) ⟨ag0, ?_⟩)
        refine o_not (gy rfl rfl rfl hb) rfl rfl ?_
        exact wl_end ⟨rfl, rfl, 5, rfl, rfl⟩) ?_
    refine wl_end ?_
    refine w_cond rfl (fun hb => ?_) fun hb => ?_
    · skip
      refine w_seq ?_
      refine w_region (by kernel_rfl) ?_
      refine o_assign gn rfl rfl ?_
      refine wl_end ?_
      refine w_ret ?_
      refine ⟨.inl rfl, _, rfl, ?_⟩
      exact ⟨by rw [name_no3 hj hb]; rfl, S.e0⟩
    refine w_skip ?_
    refine w_region (by kernel_rfl) ?_
    refine o_add gn rfl rfl rfl (by omega) (by omega) ?_
    refine o_move gn rfl rfl ?_
    refine wl_end ?_
    exact rndS (s.toList.length - (j + 1)) (by omega) [(22, _)] (by repeat (first | exact trivial | refine ⟨rfl, ?_⟩)) ⟨j + 1, rfl, rfl, by omega, S, fun i hi => by
      by_cases e : i = j
      · subst e; revert hb; cases letterB (bAt s i) <;> cases digitB (bAt s i) <;> simp
      exact hs i (by omega)⟩
  refine w_exit ?_
  refine thn_exit ?_
  refine rnd_exit ?_
  refine blk_eq ?_
  refine w_seq ?_
  refine w_region (by kernel_rfl) ?_
  refine o_assign gn rfl rfl ?_
  refine wl_end ?_
  refine w_ret ?_
  refine ⟨.inl rfl, _, rfl, ?_⟩
  exact ⟨by
    have hj2 : j = s.toList.length := by simp at hb; omega
    subst hj2
    rw [nameS_iff.2 ⟨y1, y2, y3, hs, y4⟩]; rfl, S.e0⟩

/-- IsName, the document's -/
theorem c65 (hsz : s.toList.length < 9223372036854775000) : C trE 65 [.string s] h fun v h' => v = .bool (nameS s) ∧ Ext h h' := by
  refine c_enter (fu := Tryd.f65) (by kernel_rfl) rfl ?_
  have S := SH.start h
  refine w_seq ?_
  refine w_region (by kernel_rfl) ?_
  refine o_assign gn rfl rfl ?_
  refine wl_end ?_
  refine w_seq ?_
  refine w_seq ?_
  refine w_region (by kernel_rfl) ?_
  refine o_assign gn rfl rfl ?_
  refine wl_end ?_
  refine w_block ?_
  refine w_loopS [(3, _)] [(0, _)] (by repeat (first | exact trivial | refine ⟨rfl, ?_⟩)) (fun kk lv hh => ∃ j : Nat, lv = [(3, iV j)] ∧ kk = s.toList.length - j ∧ j ≤ s.toList.length ∧ SH h [] [] hh ∧ ∀ i, i < j → (letterB (bAt s i) || (decide (i ≠ 0) && digitB (bAt s i))) = true) (n := (s.toList.length)) ?_ fun kk lv hh hI => ?_
  · exact ⟨0, rfl, rfl, by omega, S, fun i hi => by omega⟩
  obtain ⟨j, rfl, hk, hj, S, hs⟩ := hI
  refine w_seq ?_
  refine w_seq ?_
  refine w_region (by kernel_rfl) ?_
  refine o_move gn rfl rfl ?_
  refine o_move gn rfl rfl ?_
  refine o_lenstr gn rfl rfl (by kernel_rfl) ?_
  rw [size_len]
  refine o_lss gn rfl rfl rfl ?_
  refine wl_end ?_
  refine w_cond rfl (fun hb => ?_) fun hb => ?_
  · skip
    refine w_skip ?_
    have hj : j < s.toList.length := by simp at hb; omega
    refine w_seq ?_
    refine w_block ?_
    refine w_seq ?_
    refine w_region (by kernel_rfl) ?_
    refine o_move gn rfl rfl ?_
    refine o_move gn rfl rfl ?_
    refine o_indexS gn rfl rfl rfl (by kernel_rfl) (by omega) (bAt_get hj) ?_
    refine o_call [_] gn rfl rfl (by kernel_rfl) rfl (c_pure (c82 (b := bAt s j)) ⟨ag0, ?_⟩)
    refine o_not gn rfl rfl ?_
    refine o_move gn rfl rfl ?_
    refine o_and (n := 9) rfl rfl rfl gn rfl (fun hb => by
        refine o_move (gy rfl rfl rfl hb) rfl rfl ?_
        refine o_eqi (gy rfl rfl rfl hb) rfl rfl rfl ?_
        refine o_move (gy rfl rfl rfl hb) rfl rfl ?_
        refine o_or (n := 5) rfl rfl rfl (gy rfl rfl rfl hb) rfl (fun hb => by
            refine o_move (gy rfl rfl rfl hb) rfl rfl ?_
            refine o_move (gy rfl rfl rfl hb) rfl rfl ?_
            refine o_indexS (gy rfl rfl rfl hb) rfl rfl rfl (by kernel_rfl) (by omega) (bAt_get hj) ?_
            refine o_call [_] (gy rfl rfl rfl hb) rfl rfl (by kernel_rfl) rfl (c_pure (c83 (b := bAt s j)) ⟨ag0, ?_⟩)
            refine o_not (gy rfl rfl rfl hb) rfl rfl ?_
            exact wl_end ⟨rfl, rfl, 5, rfl, rfl⟩) ?_
        exact wl_end ⟨rfl, rfl, 4, rfl, rfl⟩) ?_
    refine wl_end ?_
    refine w_cond rfl (fun hb => ?_) fun hb => ?_
    · skip
      refine w_seq ?_
      refine w_region (by kernel_rfl) ?_
      refine o_assign gn rfl rfl ?_
      refine wl_end ?_
      refine w_ret ?_
      refine ⟨.inl rfl, _, rfl, ?_⟩
      exact ⟨by rw [name_no4 hj hb]; rfl, S.e0⟩
    refine w_skip ?_
    refine w_region (by kernel_rfl) ?_
    refine o_move gn rfl rfl ?_
    refine o_add gn rfl rfl rfl (by omega) (by omega) ?_
    refine o_assign gn rfl rfl ?_
    refine wl_end ?_
    exact rndS (s.toList.length - (j + 1)) (by omega) [(3, _)] (by repeat (first | exact trivial | refine ⟨rfl, ?_⟩)) ⟨j + 1, rfl, rfl, by omega, S, fun i hi => by
      by_cases e : i = j
      · subst e
        by_cases e0 : i = 0
        · subst e0; revert hb; cases letterB (bAt s 0) <;> simp
        revert hb; cases letterB (bAt s i) <;> cases digitB (bAt s i) <;> simp [e0]
      exact hs i (by omega)⟩
  refine w_exit ?_
  refine thn_exit ?_
  refine rnd_exit ?_
  refine blk_eq ?_
  refine w_seq ?_
  refine w_region (by kernel_rfl) ?_
  refine o_move gn rfl rfl ?_
  have hj2 : j = s.toList.length := by simp at hb; omega
  subst hj2
  refine o_neS gn rfl rfl rfl ?_
  rw [show (!eqS s _) = !s.toList.isEmpty from neS_empty s]
  refine o_move gn rfl rfl ?_
  refine o_and (n := 3) rfl rfl rfl gn rfl (fun hb => by
      refine o_move (gy rfl rfl rfl hb) rfl rfl ?_
      refine o_lenstr (gy rfl rfl rfl hb) rfl rfl (by kernel_rfl) ?_
      rw [size_len]
      refine o_leq (gy rfl rfl rfl hb) rfl rfl rfl ?_
      exact wl_end ⟨rfl, rfl, 3, rfl, rfl⟩) ?_
  refine o_move gn rfl rfl ?_
  refine wl_split (dc := 33) rfl (fun hb33 => ?_) fun hb33 => ?_
  · skip
    refine o_move (gy rfl rfl rfl hb33) rfl rfl ?_
    refine o_call [_] (gy rfl rfl rfl hb33) rfl rfl (by kernel_rfl) rfl (C.mono (c84) ?_)
    rintro v g ⟨rfl, x⟩
    have S := S.grow x
    refine ⟨ag0, ?_⟩
    refine o_not (gy rfl rfl rfl hb33) rfl rfl ?_
    refine o_pickt gn rfl rfl hb33 rfl ?_
    refine o_assign gn rfl rfl ?_
    refine wl_end ?_
    refine w_ret ?_
    refine ⟨.inl rfl, _, rfl, ?_⟩
    exact ⟨(congrArg Value.bool (by
      have y : s.toList ≠ [] ∧ s.toList.length ≤ 32 := by
        simp only [Bool.and_eq_true, Bool.not_eq_true', decide_eq_true_eq] at hb33
        exact ⟨fun e => by rw [e] at hb33; simp at hb33, by omega⟩
      have h0 := hs 0 (List.length_pos_iff.2 y.1)
      cases hw : wordS s with
      | true => rw [name_no2 hw]; rfl
      | false =>
        refine (nameS_iff.2 ⟨y.1, y.2, ?_, fun i hi => ?_, hw⟩).symm
        · simp at h0; exact letter_digit h0
        have := hs i hi
        revert this; cases letterB (bAt s i) <;> cases digitB (bAt s i) <;> simp) : Value.bool (!wordS s) = Value.bool (nameS s)), S.e0⟩
  refine wl_skips (n := 3) (dc := 33) (w := true) rfl hb33 rfl ?_
  refine o_pickf gn rfl rfl hb33 rfl ?_
  refine o_assign gn rfl rfl ?_
  refine wl_end ?_
  refine w_ret ?_
  refine ⟨.inl rfl, _, rfl, ?_⟩
  exact ⟨(congrArg Value.bool (by
    refine (name_false fun e => ?_).symm
    obtain ⟨h1, h2, _⟩ := nameS_iff.1 e
    simp only [Bool.and_eq_false_iff, Bool.not_eq_false', decide_eq_false_iff_not, List.isEmpty_iff] at hb33
    rcases hb33 with h | h
    · exact h1 h
    omega) : Value.bool false = Value.bool (nameS s)), S.e0⟩

end
end Go.Proofs.YtoejddhaiogonaaDoor

namespace Go.Proofs.YtoejddhaiogonaaDoor
open Go.X

abbrev isV (l : List Int) : List Value := l.map fun n => .int .i64 n
abbrev ssV (l : List ByteArray) : List Value := l.map Value.string
def typL : List ByteArray := [strL [105, 110, 116], strL [102, 110], strL [116, 111, 107], strL [104, 97, 110, 100], strL [97, 114, 114]]
def opL : List ByteArray := [strL [43], strL [45], strL [42], strL [60], strL [61, 61]]
def isIn (l : List ByteArray) (s : ByteArray) : Bool := l.any fun w => eqS s w
def declK (K : Int) : Bool := decide (K ∈ [2, 3, 6, 7, 8, 10, 11])
def varK (K : Int) : Bool := decide (K ∈ [29, 30, 31])
def stmtK (K : Int) : Bool := decide (13 ≤ K) && decide (K ≤ 25)
def typS (s : ByteArray) : Bool := nameS s || isIn typL s

theorem typS_yes {s : ByteArray} (h : (eqS s (strL [105, 110, 116]) || eqS s (strL [102, 110]) || eqS s (strL [116, 111, 107]) || eqS s (strL [104, 97, 110, 100]) || eqS s (strL [97, 114, 114])) = true) : typS s = true := by
  simp only [typS, isIn, typL, List.any_cons, List.any_nil, Bool.or_false]
  simp only [Bool.or_assoc] at h
  rw [h, Bool.or_true]
theorem typS_no {s : ByteArray} (h : (eqS s (strL [105, 110, 116]) || eqS s (strL [102, 110]) || eqS s (strL [116, 111, 107]) || eqS s (strL [104, 97, 110, 100]) || eqS s (strL [97, 114, 114])) = false) : typS s = nameS s := by
  simp only [typS, isIn, typL, List.any_cons, List.any_nil, Bool.or_false]
  simp only [Bool.or_assoc] at h
  rw [h, Bool.or_false]
section
variable {h : Hp} {K : Int} {s : ByteArray} {v : Value} {ks : List Int} {ws : List ByteArray}

/-- slices.Index of kinds -/
theorem c77 (R : RowV h v (isV ks)) (hl : ks.length < 1000000) : C trE 77 [v, iV K] h fun v h' => ∃ r, v = iV r ∧ Ext h h' ∧ (0 ≤ r ↔ K ∈ ks) := by
  obtain ⟨a, c, rfl⟩ := R.valM
  refine c_enter (fu := Tryd.f77) (by kernel_rfl) rfl ?_
  have S := SH.start h
  refine w_seq ?_
  refine w_region (by kernel_rfl) ?_
  refine o_assign gn rfl rfl ?_
  refine wl_end ?_
  refine w_seq ?_
  refine w_seq ?_
  refine w_region (by kernel_rfl) ?_
  refine o_move gn rfl rfl ?_
  refine o_len gn rfl rfl (by kernel_rfl) ?_
  refine o_move gn rfl rfl ?_
  refine wl_end ?_
  refine w_block ?_
  refine w_loopS [(8, _)] [(0, _), (1, _), (7, _)] (by repeat (first | exact trivial | refine ⟨rfl, ?_⟩)) (fun kk lv hh => ∃ j : Nat, lv = [(8, iV j)] ∧ kk = ks.length - j ∧ j ≤ ks.length ∧ SH h [] [] hh ∧ ∀ i (hi : i < ks.length), i < j → ks[i] ≠ K) (n := (ks.length)) ?_ fun kk lv hh hI => ?_
  · exact ⟨0, rfl, rfl, by omega, S, fun i _ hi => by omega⟩
  obtain ⟨j, rfl, hk, hj, S, hs⟩ := hI
  refine w_seq ?_
  refine w_region (by kernel_rfl) ?_
  refine o_lss gn rfl rfl rfl ?_
  refine wl_end ?_
  refine w_seq ?_
  refine w_cond rfl (fun hb => ?_) fun hb => ?_
  · skip
    refine w_skip ?_
    have hj : j < ks.length := by simp at hb; omega
    obtain ⟨b, o, c', cs, e, m, hv, hg, hlt, hat⟩ := R.atM (by omega)
    cases hv
    have hc := hat j hj
    refine w_seq ?_
    refine w_block ?_
    refine w_seq ?_
    refine w_region (by kernel_rfl) ?_
    refine o_move gn rfl rfl ?_
    refine o_assign gn rfl rfl ?_
    refine wl_end ?_
    refine w_seq ?_
    refine w_region (by kernel_rfl) ?_
    refine o_move gn rfl rfl ?_
    refine o_move gn rfl rfl ?_
    refine o_move gn rfl rfl ?_
    refine o_indexAddr (zz := 1) gn rfl rfl rfl (by kernel_rfl) (by omega) (by omega) ?_
    refine o_load gn rfl rfl (by kernel_rfl) (S.old0 hg hlt) (by rw [Int.toNat_natCast, Nat.mul_one]; exact hc) ?_
    refine o_eqi gn rfl rfl rfl ?_
    refine wl_end ?_
    refine w_cond rfl (fun hb => ?_) fun hb => ?_
    · skip
      refine w_seq ?_
      refine w_region (by kernel_rfl) ?_
      refine o_move gn rfl rfl ?_
      refine o_assign gn rfl rfl ?_
      refine wl_end ?_
      refine w_ret ?_
      refine ⟨.inl rfl, _, rfl, ?_⟩
      exact ⟨j, rfl, S.e0, by simp at hb; exact ⟨fun _ => hb ▸ List.getElem_mem hj, fun _ => by omega⟩⟩
    refine w_skip ?_
    refine w_region (by kernel_rfl) ?_
    refine o_add gn rfl rfl rfl (by omega) (by omega) ?_
    refine o_move gn rfl rfl ?_
    refine wl_end ?_
    exact rndS (ks.length - (j + 1)) (by omega) [(8, _)] (by repeat (first | exact trivial | refine ⟨rfl, ?_⟩)) ⟨j + 1, rfl, rfl, by omega, S, fun i hi h => by
      by_cases e : i = j
      · subst e; simp at hb; exact fun x => hb x.symm
      exact hs i hi (by omega)⟩
  refine w_exit ?_
  refine thn_exit ?_
  refine rnd_exit ?_
  refine blk_eq ?_
  refine w_seq ?_
  refine w_region (by kernel_rfl) ?_
  refine o_assign gn rfl rfl ?_
  refine wl_end ?_
  refine w_ret ?_
  refine ⟨.inl rfl, _, rfl, ?_⟩
  exact ⟨-1, rfl, S.e0, ⟨fun h => by omega, fun hm => by
    obtain ⟨i, hi, e⟩ := List.mem_iff_getElem.1 hm
    exact absurd e (hs i hi (by simp at hb; omega))⟩⟩

/-- slices.Contains of kinds -/
theorem c61 (R : RowV h v (isV ks)) (hl : ks.length < 1000000) : C trE 61 [v, iV K] h fun v h' => v = .bool (decide (K ∈ ks)) ∧ Ext h h' := by
  refine c_enter (fu := Tryd.f61) (by kernel_rfl) rfl ?_
  have S := SH.start h
  refine w_seq ?_
  refine w_region (by kernel_rfl) ?_
  refine o_assign gn rfl rfl ?_
  refine wl_end ?_
  refine w_seq ?_
  refine w_region (by kernel_rfl) ?_
  refine o_move gn rfl rfl ?_
  refine o_move gn rfl rfl ?_
  refine o_call [_, _] gn rfl rfl (by kernel_rfl) rfl (C.mono (c77 R hl) ?_)
  rintro v g ⟨r, rfl, x, hr⟩
  have S := S.grow x
  refine ⟨ag0, ?_⟩
  refine o_geq gn rfl rfl rfl ?_
  refine o_assign gn rfl rfl ?_
  refine wl_end ?_
  refine w_ret ?_
  refine ⟨.inl rfl, _, rfl, ?_⟩
  exact ⟨by rw [show decide (0 ≤ r) = decide (K ∈ ks) from decide_eq_decide.2 hr]; rfl, S.e0⟩

/-- one$1 -/
theorem c60 {q : Nat} (hq : h.get q = some (.cells [v] 58 0)) (R : RowV h v (isV ks)) (hl : ks.length < 1000000) : C trE 60 [iV K, ptrV q] h fun v h' => v = .bool (decide (K ∈ ks)) ∧ Ext h h' := by
  refine c_enter (fu := Tryd.f60) (by kernel_rfl) rfl ?_
  have S := SH.start h
  refine w_seq ?_
  refine w_region (by kernel_rfl) ?_
  refine o_assign gn rfl rfl ?_
  refine wl_end ?_
  refine w_seq ?_
  refine w_region (by kernel_rfl) ?_
  refine o_load gn rfl rfl (by kernel_rfl) (by first | exact S.cel 0 rfl | exact S.cel 1 rfl | exact hq) rfl ?_
  refine o_move gn rfl rfl ?_
  refine o_call [_, _] gn rfl rfl (by kernel_rfl) rfl (C.mono (c61 R hl) ?_)
  rintro v g ⟨rfl, x⟩
  have S := S.grow x
  refine ⟨ag0, ?_⟩
  refine o_assign gn rfl rfl ?_
  refine wl_end ?_
  refine w_ret ?_
  refine ⟨.inl rfl, _, rfl, ?_⟩
  exact ⟨rfl, S.e0⟩

/-- statement -/
theorem c40 : CP trE 40 [iV K] h (.bool (stmtK K)) := by
  refine c_enter (fu := Tryd.f40) (by kernel_rfl) rfl ?_
  refine w_seq ?_
  refine w_region (by kernel_rfl) ?_
  refine o_assign gn rfl rfl ?_
  refine wl_end ?_
  refine w_seq ?_
  refine w_region (by kernel_rfl) ?_
  refine o_move gn rfl rfl ?_
  refine o_geq gn rfl rfl rfl ?_
  refine o_move gn rfl rfl ?_
  refine o_and (n := 2) rfl rfl rfl gn rfl (fun hb => by
      refine o_move (gy rfl rfl rfl hb) rfl rfl ?_
      refine o_leq (gy rfl rfl rfl hb) rfl rfl rfl ?_
      exact wl_end ⟨rfl, rfl, 2, rfl, rfl⟩) ?_
  refine o_assign gn rfl rfl ?_
  refine wl_end ?_
  refine w_ret ?_
  refine ⟨.inl rfl, _, rfl, ?_⟩
  exact ⟨rfl, rfl⟩
/-- Statement -/
theorem c54 : CP trE 54 [iV K] h (.bool (stmtK K)) := by
  refine c_enter (fu := Tryd.f54) (by kernel_rfl) rfl ?_
  refine w_seq ?_
  refine w_region (by kernel_rfl) ?_
  refine o_assign gn rfl rfl ?_
  refine wl_end ?_
  refine w_seq ?_
  refine w_region (by kernel_rfl) ?_
  refine o_move gn rfl rfl ?_
  refine o_geq gn rfl rfl rfl ?_
  refine o_move gn rfl rfl ?_
  refine o_and (n := 2) rfl rfl rfl gn rfl (fun hb => by
      refine o_move (gy rfl rfl rfl hb) rfl rfl ?_
      refine o_leq (gy rfl rfl rfl hb) rfl rfl rfl ?_
      exact wl_end ⟨rfl, rfl, 2, rfl, rfl⟩) ?_
  refine o_assign gn rfl rfl ?_
  refine wl_end ?_
  refine w_ret ?_
  refine ⟨.inl rfl, _, rfl, ?_⟩
  exact ⟨rfl, rfl⟩
/-- one -/
theorem c35 : C trE 35 [v] h fun u h' => ∃ q, u = .func (.func 60) #[] #[ptrV q] ∧ h'.get q = some (.cells v.cells.toList 58 0) ∧ q < h'.n ∧ Ext h h' := by
  refine c_enter (fu := Tryd.f35) (by kernel_rfl) rfl ?_
  have S := SH.start h
  refine w_seq ?_
  refine w_region (by kernel_rfl) ?_
  refine s_box S gn rfl rfl fun b1 g nb1 S => ?_
  refine o_assign gn rfl rfl ?_
  refine wl_end ?_
  refine w_seq ?_
  refine w_region (by kernel_rfl) ?_
  refine o_makeFunc1 gn rfl rfl ?_
  refine o_assign gn rfl rfl ?_
  refine wl_end ?_
  refine w_ret ?_
  refine ⟨.inl rfl, _, rfl, ?_⟩
  exact ⟨b1, rfl, S.cel 0 rfl, S.lt1 0 rfl, S.e0⟩

/-- declaration -/
theorem c37 : C trE 37 [iV K] h fun v h' => v = .bool (declK K) ∧ Ext h h' := by
  refine c_enter (fu := Tryd.f37) (by kernel_rfl) rfl ?_
  have S := SH.start h
  refine w_seq ?_
  refine w_region (by kernel_rfl) ?_
  refine o_assign gn rfl rfl ?_
  refine wl_end ?_
  refine w_seq ?_
  refine w_region (by kernel_rfl) ?_
  refine s_buildSlice (cs := (isV [2, 3, 6, 7, 8, 10, 11]).toArray) (e := 27) (z := 0) (zv := .int .i64 0) [(0, _), (1, _), (2, _), (3, _), (4, _), (5, _), (6, _)] S gn rfl (by kernel_rfl) (by kernel_rfl) (by kernel_rfl) (by kernel_rfl) rfl (by kernel_rfl) fun b1 g nb1 S => ?_
  refine o_call [_] gn rfl rfl (by kernel_rfl) rfl (C.mono (c35) ?_)
  rintro v g ⟨q, rfl, hq, lq, x⟩
  have S := S.grow x
  refine ⟨ag0, ?_⟩
  refine o_move gn rfl rfl ?_
  refine o_call [_] gn rfl rfl (by kernel_rfl) rfl (C.mono (c60 (ks := [2, 3, 6, 7, 8, 10, 11]) hq (RowV.of (S.cel 0 rfl) (S.lt1 0 rfl) rfl) (by decide)) ?_)
  rintro v g ⟨rfl, x⟩
  have S := S.grow x
  refine ⟨ag0, ?_⟩
  refine o_assign gn rfl rfl ?_
  refine wl_end ?_
  refine w_ret ?_
  refine ⟨.inl rfl, _, rfl, ?_⟩
  exact ⟨rfl, S.e0⟩

/-- variable -/
theorem c41 : C trE 41 [iV K] h fun v h' => v = .bool (varK K) ∧ Ext h h' := by
  refine c_enter (fu := Tryd.f41) (by kernel_rfl) rfl ?_
  have S := SH.start h
  refine w_seq ?_
  refine w_region (by kernel_rfl) ?_
  refine o_assign gn rfl rfl ?_
  refine wl_end ?_
  refine w_seq ?_
  refine w_region (by kernel_rfl) ?_
  refine s_buildSlice (cs := (isV [29, 30, 31]).toArray) (e := 27) (z := 0) (zv := .int .i64 0) [(0, _), (1, _), (2, _)] S gn rfl (by kernel_rfl) (by kernel_rfl) (by kernel_rfl) (by kernel_rfl) rfl (by kernel_rfl) fun b1 g nb1 S => ?_
  refine o_call [_] gn rfl rfl (by kernel_rfl) rfl (C.mono (c35) ?_)
  rintro v g ⟨q, rfl, hq, lq, x⟩
  have S := S.grow x
  refine ⟨ag0, ?_⟩
  refine o_move gn rfl rfl ?_
  refine o_call [_] gn rfl rfl (by kernel_rfl) rfl (C.mono (c60 (ks := [29, 30, 31]) hq (RowV.of (S.cel 0 rfl) (S.lt1 0 rfl) rfl) (by decide)) ?_)
  rintro v g ⟨rfl, x⟩
  have S := S.grow x
  refine ⟨ag0, ?_⟩
  refine o_assign gn rfl rfl ?_
  refine wl_end ?_
  refine w_ret ?_
  refine ⟨.inl rfl, _, rfl, ?_⟩
  exact ⟨rfl, S.e0⟩

/-- slices.Index of texts -/
theorem c81 (R : RowV h v (ssV ws)) (hl : ws.length < 1000000) : C trE 81 [v, .string s] h fun v h' => ∃ r, v = iV r ∧ Ext h h' ∧ (0 ≤ r ↔ isIn ws s = true) := by
  obtain ⟨a, c, rfl⟩ := R.valM
  refine c_enter (fu := Tryd.f81) (by kernel_rfl) rfl ?_
  have S := SH.start h
  refine w_seq ?_
  refine w_region (by kernel_rfl) ?_
  refine o_assign gn rfl rfl ?_
  refine wl_end ?_
  refine w_seq ?_
  refine w_seq ?_
  refine w_region (by kernel_rfl) ?_
  refine o_move gn rfl rfl ?_
  refine o_len gn rfl rfl (by kernel_rfl) ?_
  refine o_move gn rfl rfl ?_
  refine wl_end ?_
  refine w_block ?_
  refine w_loopS [(8, _)] [(0, _), (1, _), (7, _)] (by repeat (first | exact trivial | refine ⟨rfl, ?_⟩)) (fun kk lv hh => ∃ j : Nat, lv = [(8, iV j)] ∧ kk = ws.length - j ∧ j ≤ ws.length ∧ SH h [] [] hh ∧ ∀ i (hi : i < ws.length), i < j → eqS s ws[i] = false) (n := (ws.length)) ?_ fun kk lv hh hI => ?_
  · exact ⟨0, rfl, rfl, by omega, S, fun i _ hi => by omega⟩
  obtain ⟨j, rfl, hk, hj, S, hs⟩ := hI
  refine w_seq ?_
  refine w_region (by kernel_rfl) ?_
  refine o_lss gn rfl rfl rfl ?_
  refine wl_end ?_
  refine w_seq ?_
  refine w_cond rfl (fun hb => ?_) fun hb => ?_
  · skip
    refine w_skip ?_
    have hj : j < ws.length := by simp at hb; omega
    obtain ⟨b, o, c', cs, e, m, hv, hg, hlt, hat⟩ := R.atM (by omega)
    cases hv
    have hc := hat j hj
    refine w_seq ?_
    refine w_block ?_
    refine w_seq ?_
    refine w_region (by kernel_rfl) ?_
    refine o_move gn rfl rfl ?_
    refine o_assign gn rfl rfl ?_
    refine wl_end ?_
    refine w_seq ?_
    refine w_region (by kernel_rfl) ?_
    refine o_move gn rfl rfl ?_
    refine o_move gn rfl rfl ?_
    refine o_move gn rfl rfl ?_
    refine o_indexAddr (zz := 1) gn rfl rfl rfl (by kernel_rfl) (by omega) (by omega) ?_
    refine o_load gn rfl rfl (by kernel_rfl) (S.old0 hg hlt) (by rw [Int.toNat_natCast, Nat.mul_one]; exact hc) ?_
    refine o_eqS gn rfl rfl rfl ?_
    refine wl_end ?_
    refine w_cond rfl (fun hb => ?_) fun hb => ?_
    · skip
      refine w_seq ?_
      refine w_region (by kernel_rfl) ?_
      refine o_move gn rfl rfl ?_
      refine o_assign gn rfl rfl ?_
      refine wl_end ?_
      refine w_ret ?_
      refine ⟨.inl rfl, _, rfl, ?_⟩
      exact ⟨j, rfl, S.e0, ⟨fun _ => List.any_eq_true.2 ⟨ws[j], List.getElem_mem hj, hb⟩, fun _ => by omega⟩⟩
    refine w_skip ?_
    refine w_region (by kernel_rfl) ?_
    refine o_add gn rfl rfl rfl (by omega) (by omega) ?_
    refine o_move gn rfl rfl ?_
    refine wl_end ?_
    exact rndS (ws.length - (j + 1)) (by omega) [(8, _)] (by repeat (first | exact trivial | refine ⟨rfl, ?_⟩)) ⟨j + 1, rfl, rfl, by omega, S, fun i hi h => by
      by_cases e : i = j
      · subst e; exact hb
      exact hs i hi (by omega)⟩
  refine w_exit ?_
  refine thn_exit ?_
  refine rnd_exit ?_
  refine blk_eq ?_
  refine w_seq ?_
  refine w_region (by kernel_rfl) ?_
  refine o_assign gn rfl rfl ?_
  refine wl_end ?_
  refine w_ret ?_
  refine ⟨.inl rfl, _, rfl, ?_⟩
  exact ⟨-1, rfl, S.e0, ⟨fun h => by omega, fun hm => by
    obtain ⟨w, hw, e⟩ := List.any_eq_true.1 hm
    obtain ⟨i, hi, rfl⟩ := List.mem_iff_getElem.1 hw
    rw [hs i hi (by simp at hb; omega)] at e; cases e⟩⟩

/-- slices.Contains of texts -/
theorem c63 (R : RowV h v (ssV ws)) (hl : ws.length < 1000000) : C trE 63 [v, .string s] h fun v h' => v = .bool (isIn ws s) ∧ Ext h h' := by
  refine c_enter (fu := Tryd.f63) (by kernel_rfl) rfl ?_
  have S := SH.start h
  refine w_seq ?_
  refine w_region (by kernel_rfl) ?_
  refine o_assign gn rfl rfl ?_
  refine wl_end ?_
  refine w_seq ?_
  refine w_region (by kernel_rfl) ?_
  refine o_move gn rfl rfl ?_
  refine o_move gn rfl rfl ?_
  refine o_call [_, _] gn rfl rfl (by kernel_rfl) rfl (C.mono (c81 R hl) ?_)
  rintro v g ⟨r, rfl, x, hr⟩
  have S := S.grow x
  refine ⟨ag0, ?_⟩
  refine o_geq gn rfl rfl rfl ?_
  refine o_assign gn rfl rfl ?_
  refine wl_end ?_
  refine w_ret ?_
  refine ⟨.inl rfl, _, rfl, ?_⟩
  exact ⟨by rw [show decide (0 ≤ r) = isIn ws s from Bool.eq_iff_iff.2 (by rw [decide_eq_true_eq]; exact hr)]; rfl, S.e0⟩

/-- op -/
theorem c42 : C trE 42 [.string s] h fun v h' => v = .bool (isIn opL s) ∧ Ext h h' := by
  refine c_enter (fu := Tryd.f42) (by kernel_rfl) rfl ?_
  have S := SH.start h
  refine w_seq ?_
  refine w_region (by kernel_rfl) ?_
  refine o_assign gn rfl rfl ?_
  refine wl_end ?_
  refine w_seq ?_
  refine w_region (by kernel_rfl) ?_
  refine s_buildSlice (cs := (ssV opL).toArray) (e := 9) (z := 0) (zv := .string .empty) [(0, _), (1, _), (2, _), (3, _), (4, _)] S gn rfl (by kernel_rfl) (by kernel_rfl) (by kernel_rfl) (by kernel_rfl) rfl (by kernel_rfl) fun b1 g nb1 S => ?_
  refine o_move gn rfl rfl ?_
  refine o_call [_, _] gn rfl rfl (by kernel_rfl) rfl (C.mono (c63 (ws := opL) (RowV.of (S.cel 0 rfl) (S.lt1 0 rfl) rfl) (by decide)) ?_)
  rintro v g ⟨rfl, x⟩
  have S := S.grow x
  refine ⟨ag0, ?_⟩
  refine o_assign gn rfl rfl ?_
  refine wl_end ?_
  refine w_ret ?_
  refine ⟨.inl rfl, _, rfl, ?_⟩
  exact ⟨rfl, S.e0⟩

/-- name -/
theorem c38 (B : Blk h) (hsz : s.toList.length < 9223372036854775000) : C trE 38 [.string s] h fun v h' => v = .bool (nameS s) ∧ Ext h h' := by
  refine c_enter (fu := Tryd.f38) (by kernel_rfl) rfl ?_
  have S := SH.start h
  refine w_seq ?_
  refine w_region (by kernel_rfl) ?_
  refine o_assign gn rfl rfl ?_
  refine wl_end ?_
  refine w_seq ?_
  refine w_region (by kernel_rfl) ?_
  refine o_move gn rfl rfl ?_
  refine o_call [_] gn rfl rfl (by kernel_rfl) rfl (C.mono (c62 B hsz) ?_)
  rintro v g ⟨rfl, x⟩
  have S := S.grow x
  refine ⟨ag0, ?_⟩
  refine o_assign gn rfl rfl ?_
  refine wl_end ?_
  refine w_ret ?_
  refine ⟨.inl rfl, _, rfl, ?_⟩
  exact ⟨rfl, S.e0⟩

/-- typ -/
theorem c39 (B : Blk h) (hsz : s.toList.length < 9223372036854775000) : C trE 39 [.string s] h fun v h' => v = .bool (typS s) ∧ Ext h h' := by
  refine c_enter (fu := Tryd.f39) (by kernel_rfl) rfl ?_
  have S := SH.start h
  refine w_seq ?_
  refine w_region (by kernel_rfl) ?_
  refine o_assign gn rfl rfl ?_
  refine wl_end ?_
  refine w_seq ?_
  refine w_region (by kernel_rfl) ?_
  refine o_move gn rfl rfl ?_
  refine o_call [_] gn rfl rfl (by kernel_rfl) rfl (C.mono (c62 B hsz) ?_)
  rintro v g ⟨rfl, x⟩
  have S := S.grow x
  refine ⟨ag0, ?_⟩
  refine o_move gn rfl rfl ?_
  refine wl_split (dc := 5) rfl (fun hb5 => ?_) fun hb5 => ?_
  · skip
    refine wl_skips (n := 3) (dc := 5) (w := false) rfl hb5 rfl ?_
    refine o_pickt gn rfl rfl hb5 rfl ?_
    refine o_assign gn rfl rfl ?_
    refine wl_end ?_
    refine w_ret ?_
    refine ⟨.inl rfl, _, rfl, ?_⟩
    exact ⟨by rw [typS, hb5]; rfl, S.e0⟩
  refine s_buildSlice (cs := (ssV typL).toArray) (e := 9) (z := 0) (zv := .string .empty) [(0, _), (1, _), (2, _), (3, _), (4, _)] S (gy rfl rfl rfl hb5) rfl (by kernel_rfl) (by kernel_rfl) (by kernel_rfl) (by kernel_rfl) rfl (by kernel_rfl) fun b1 g nb1 S => ?_
  refine o_move (gy rfl rfl rfl hb5) rfl rfl ?_
  refine o_call [_, _] (gy rfl rfl rfl hb5) rfl rfl (by kernel_rfl) rfl (C.mono (c63 (ws := typL) (RowV.of (S.cel 0 rfl) (S.lt1 0 rfl) rfl) (by decide)) ?_)
  rintro v g ⟨rfl, x⟩
  have S := S.grow x
  refine ⟨ag0, ?_⟩
  refine o_pickf gn rfl rfl hb5 rfl ?_
  refine o_assign gn rfl rfl ?_
  refine wl_end ?_
  refine w_ret ?_
  refine ⟨.inl rfl, _, rfl, ?_⟩
  exact ⟨by rw [typS, hb5]; rfl, S.e0⟩

/-- Type -/
theorem c64 (hsz : s.toList.length < 9223372036854775000) : C trE 64 [.string s] h fun v h' => v = .bool (typS s) ∧ Ext h h' := by
  refine c_enter (fu := Tryd.f64) (by kernel_rfl) rfl ?_
  have S := SH.start h
  refine w_seq ?_
  refine w_region (by kernel_rfl) ?_
  refine o_assign gn rfl rfl ?_
  refine wl_end ?_
  refine w_seq ?_
  refine w_region (by kernel_rfl) ?_
  refine o_move gn rfl rfl ?_
  refine o_eqS gn rfl rfl rfl ?_
  refine o_move gn rfl rfl ?_
  refine o_or (n := 2) rfl rfl rfl gn rfl (fun hb => by
      refine o_move (gy rfl rfl rfl hb) rfl rfl ?_
      refine o_eqS (gy rfl rfl rfl hb) rfl rfl rfl ?_
      exact wl_end ⟨rfl, rfl, 2, rfl, rfl⟩) ?_
  refine o_move gn rfl rfl ?_
  refine o_or (n := 2) rfl rfl rfl gn rfl (fun hb => by
      refine o_move (gy rfl rfl rfl hb) rfl rfl ?_
      refine o_eqS (gy rfl rfl rfl hb) rfl rfl rfl ?_
      exact wl_end ⟨rfl, rfl, 2, rfl, rfl⟩) ?_
  refine o_move gn rfl rfl ?_
  refine o_or (n := 2) rfl rfl rfl gn rfl (fun hb => by
      refine o_move (gy rfl rfl rfl hb) rfl rfl ?_
      refine o_eqS (gy rfl rfl rfl hb) rfl rfl rfl ?_
      exact wl_end ⟨rfl, rfl, 2, rfl, rfl⟩) ?_
  refine o_move gn rfl rfl ?_
  refine o_or (n := 2) rfl rfl rfl gn rfl (fun hb => by
      refine o_move (gy rfl rfl rfl hb) rfl rfl ?_
      refine o_eqS (gy rfl rfl rfl hb) rfl rfl rfl ?_
      exact wl_end ⟨rfl, rfl, 2, rfl, rfl⟩) ?_
  refine o_move gn rfl rfl ?_
  refine wl_split (dc := 21) rfl (fun hb21 => ?_) fun hb21 => ?_
  · skip
    refine wl_skips (n := 2) (dc := 21) (w := false) rfl hb21 rfl ?_
    refine o_pickt gn rfl rfl hb21 rfl ?_
    refine o_assign gn rfl rfl ?_
    refine wl_end ?_
    refine w_ret ?_
    refine ⟨.inl rfl, _, rfl, ?_⟩
    exact ⟨by rw [typS_yes hb21]; rfl, S.e0⟩
  refine o_move (gy rfl rfl rfl hb21) rfl rfl ?_
  refine o_call [_] (gy rfl rfl rfl hb21) rfl rfl (by kernel_rfl) rfl (C.mono (c65 hsz) ?_)
  rintro v g ⟨rfl, x⟩
  have S := S.grow x
  refine ⟨ag0, ?_⟩
  refine o_pickf gn rfl rfl hb21 rfl ?_
  refine o_assign gn rfl rfl ?_
  refine wl_end ?_
  refine w_ret ?_
  refine ⟨.inl rfl, _, rfl, ?_⟩
  exact ⟨by rw [typS_no hb21]; rfl, S.e0⟩

end
end Go.Proofs.YtoejddhaiogonaaDoor

namespace Go.Proofs.YtoejddhaiogonaaDoor
open Go.X

def mustK (K : Int) (s : ByteArray) (i : Int) : Int := if K = 32 then (if bindsK K s = 1 then 2 else bindsK K s + i) else if K = 34 ∨ K = 35 then 4 else if K = 30 ∨ (K = 31 ∧ i = 0) then 5 else 0
def mustR (K : Int) (s : ByteArray) (i : Int) : Int := if K = 31 then 5 - 5 * i else mustK K s i
def parenK (K : Int) (s : ByteArray) (i : Int) (K' : Int) (s' : ByteArray) : Bool := termK K' && decide (bindsK K' s' < mustK K s i)
def b2i (b : Bool) : Int := if b then 1 else 0
def deepK (K : Int) (s : ByteArray) (i : Int) (K' : Int) (s' : ByteArray) : Int := b2i (decide (K' = 12)) + b2i (parenK K s i K' s') + b2i (decide (K = 31) && decide (i = 1)) + b2i (decide (K = 34) || decide (K = 35))
theorem binds_op {K : Int} {s : ByteArray} (h : K = 32) : 1 ≤ bindsK K s ∧ bindsK K s ≤ 3 := by
  subst h
  unfold bindsK
  rw [if_pos rfl]
  split
  · omega
  split <;> omega
theorem binds_pos {K : Int} {s : ByteArray} : decide (0 < bindsK K s) = termK K := by
  by_cases h : K = 32
  · have := binds_op (s := s) h
    rw [decide_eq_true (by omega), h]; rfl
  unfold bindsK
  rw [if_neg h]
  split
  · rename_i h2; rcases h2 with rfl | rfl <;> rfl
  split
  · rename_i h3; rw [h3]; rfl
  rename_i h3; rw [Bool.not_eq_true] at h3; rw [h3]; rfl
theorem binds_le (K : Int) (s : ByteArray) : 0 ≤ bindsK K s ∧ bindsK K s ≤ 5 := by
  unfold bindsK
  (repeat' split) <;> simp
/-- How many of the first j are so. -/
def cntB (l : List Bool) (j : Nat) : Int := (((l.take j).map b2i).sum)
theorem cntB_succ {l : List Bool} {j : Nat} (h : j < l.length) : cntB l (j + 1) = cntB l j + b2i l[j] := by
  unfold cntB
  rw [List.take_add_one, List.getElem?_eq_getElem h, List.map_append, List.sum_append]
  simp only [Option.toList_some, List.map_cons, List.map_nil, List.sum_cons, List.sum_nil, Int.add_zero]
theorem cntB_le (l : List Bool) (j : Nat) : 0 ≤ cntB l j ∧ cntB l j ≤ j := by
  induction j with
  | zero => simp [cntB]
  | succ j ih =>
    by_cases h : j < l.length
    · rw [cntB_succ h]
      unfold b2i
      split <;> omega
    have : cntB l (j + 1) = cntB l j := by unfold cntB; rw [List.take_of_length_le (by omega), List.take_of_length_le (by omega)]
    omega

theorem same_tw {K N L Co : Int} {s : ByteArray} {ks : Value} (hk : sameV 19 ks ks = true) : sameV 20 (twV K s N L Co ks) (twV K s N L Co ks) = true := by
  simp [sameV, sameV.sameL, kindEq, hk]

theorem cnt4 (a b c d : Bool) : cntB [a, b, c, d] 4 = b2i a + b2i b + b2i c + b2i d := by simp [cntB]; omega

section
variable {h : Hp} {K N L Co K' N' L' Co' i : Int} {s s' : ByteArray} {ks ks' : Value}

/-- must -/
theorem c57 (h0 : 0 ≤ i) (h1 : i ≤ 1000000) : C trE 57 [twV K s N L Co ks, iV i] h fun v h' => v = iV (mustK K s i) ∧ Ext h h' := by
  have hbl := binds_le K s
  refine c_enter (fu := Tryd.f57) (by kernel_rfl) rfl ?_
  have S := SH.start h
  refine w_seq ?_
  refine w_region (by kernel_rfl) ?_
  refine s_box S gn rfl rfl fun b1 g nb1 S => ?_
  refine o_assign gn rfl rfl ?_
  refine wl_end ?_
  refine w_seq ?_
  refine w_block ?_
  refine w_seq ?_
  refine w_region (by kernel_rfl) ?_
  refine o_fieldAddr (off := 0) gn rfl rfl (by kernel_rfl) ?_
  refine o_load gn rfl rfl (by kernel_rfl) (by exact S.cel 0 rfl) rfl ?_
  refine o_eqi gn rfl rfl rfl ?_
  refine o_move gn rfl rfl ?_
  refine wl_split (dc := 9) rfl (fun hb9 => ?_) fun hb9 => ?_
  · skip
    refine o_loadA (n := 6) (gy rfl rfl rfl hb9) rfl rfl (by kernel_rfl) (by kernel_rfl) (by exact S.cel 0 rfl) (Nat.le_refl _) ?_
    refine o_call [_] (gy rfl rfl rfl hb9) rfl rfl (by kernel_rfl) rfl (C.mono (c18) ?_)
    rintro v g ⟨rfl, x⟩
    have S := S.grow x
    refine ⟨ag0, ?_⟩
    refine o_eqi (gy rfl rfl rfl hb9) rfl rfl rfl ?_
    refine o_pickt gn rfl rfl hb9 rfl ?_
    refine o_assign gn rfl rfl ?_
    refine wl_end ?_
    refine w_cond rfl (fun hb => ?_) fun hb => ?_
    · skip
      refine w_seq ?_
      refine w_region (by kernel_rfl) ?_
      refine o_assign gn rfl rfl ?_
      refine wl_end ?_
      refine w_ret ?_
      refine ⟨.inl rfl, _, rfl, ?_⟩
      exact ⟨congrArg iV (by unfold mustK; (repeat' split) <;> simp_all <;> omega), S.e0⟩
    refine w_seq ?_
    refine w_region (by kernel_rfl) ?_
    refine o_fieldAddr (off := 0) gn rfl rfl (by kernel_rfl) ?_
    refine o_load gn rfl rfl (by kernel_rfl) (by exact S.cel 0 rfl) rfl ?_
    refine o_eqi gn rfl rfl rfl ?_
    refine o_assign gn rfl rfl ?_
    refine wl_end ?_
    refine w_cond rfl (fun hb => ?_) fun hb => ?_
    · skip
      refine w_seq ?_
      refine w_region (by kernel_rfl) ?_
      refine o_loadA (n := 6) gn rfl rfl (by kernel_rfl) (by kernel_rfl) (by exact S.cel 0 rfl) (Nat.le_refl _) ?_
      refine o_call [_] gn rfl rfl (by kernel_rfl) rfl (C.mono (c18) ?_)
      rintro v g ⟨rfl, x⟩
      have S := S.grow x
      refine ⟨ag0, ?_⟩
      refine o_move gn rfl rfl ?_
      refine o_add gn rfl rfl rfl (by omega) (by omega) ?_
      refine o_assign gn rfl rfl ?_
      refine wl_end ?_
      refine w_ret ?_
      refine ⟨.inl rfl, _, rfl, ?_⟩
      exact ⟨congrArg iV (by unfold mustK; (repeat' split) <;> simp_all <;> omega), S.e0⟩
    refine w_seq ?_
    refine w_region (by kernel_rfl) ?_
    refine o_fieldAddr (off := 0) gn rfl rfl (by kernel_rfl) ?_
    refine o_load gn rfl rfl (by kernel_rfl) (by exact S.cel 0 rfl) rfl ?_
    refine o_eqi gn rfl rfl rfl ?_
    refine o_move gn rfl rfl ?_
    refine o_or (n := 3) rfl rfl rfl gn rfl (fun hb => by
        refine o_fieldAddr (off := 0) (gy rfl rfl rfl hb) rfl rfl (by kernel_rfl) ?_
        refine o_load (gy rfl rfl rfl hb) rfl rfl (by kernel_rfl) (by exact S.cel 0 rfl) rfl ?_
        refine o_eqi (gy rfl rfl rfl hb) rfl rfl rfl ?_
        exact wl_end ⟨rfl, rfl, 3, rfl, rfl⟩) ?_
    refine o_assign gn rfl rfl ?_
    refine wl_end ?_
    refine w_cond rfl (fun hb => ?_) fun hb => ?_
    · skip
      refine w_seq ?_
      refine w_region (by kernel_rfl) ?_
      refine o_assign gn rfl rfl ?_
      refine wl_end ?_
      refine w_ret ?_
      refine ⟨.inl rfl, _, rfl, ?_⟩
      exact ⟨congrArg iV (by unfold mustK; (repeat' split) <;> simp_all <;> omega), S.e0⟩
    refine w_seq ?_
    refine w_region (by kernel_rfl) ?_
    refine o_fieldAddr (off := 0) gn rfl rfl (by kernel_rfl) ?_
    refine o_load gn rfl rfl (by kernel_rfl) (by exact S.cel 0 rfl) rfl ?_
    refine o_eqi gn rfl rfl rfl ?_
    refine o_move gn rfl rfl ?_
    refine o_or (n := 7) rfl rfl rfl gn rfl (fun hb => by
        refine o_fieldAddr (off := 0) (gy rfl rfl rfl hb) rfl rfl (by kernel_rfl) ?_
        refine o_load (gy rfl rfl rfl hb) rfl rfl (by kernel_rfl) (by exact S.cel 0 rfl) rfl ?_
        refine o_eqi (gy rfl rfl rfl hb) rfl rfl rfl ?_
        refine o_move (gy rfl rfl rfl hb) rfl rfl ?_
        refine o_and (n := 2) rfl rfl rfl (gy rfl rfl rfl hb) rfl (fun hb => by
            refine o_move (gy rfl rfl rfl hb) rfl rfl ?_
            refine o_eqi (gy rfl rfl rfl hb) rfl rfl rfl ?_
            exact wl_end ⟨rfl, rfl, 2, rfl, rfl⟩) ?_
        exact wl_end ⟨rfl, rfl, 5, rfl, rfl⟩) ?_
    refine o_assign gn rfl rfl ?_
    refine wl_end ?_
    refine w_cond rfl (fun hb => ?_) fun hb => ?_
    · skip
      refine w_seq ?_
      refine w_region (by kernel_rfl) ?_
      refine o_assign gn rfl rfl ?_
      refine wl_end ?_
      refine w_ret ?_
      refine ⟨.inl rfl, _, rfl, ?_⟩
      exact ⟨congrArg iV (by unfold mustK; (repeat' split) <;> simp_all <;> omega), S.e0⟩
    refine w_skip ?_
    refine w_seq ?_
    refine w_region (by kernel_rfl) ?_
    refine o_assign gn rfl rfl ?_
    refine wl_end ?_
    refine w_ret ?_
    refine ⟨.inl rfl, _, rfl, ?_⟩
    exact ⟨congrArg iV (by unfold mustK; (repeat' split) <;> simp_all <;> omega), S.e0⟩
  refine wl_skips (n := 3) (dc := 9) (w := true) rfl hb9 rfl ?_
  refine o_pickf gn rfl rfl hb9 rfl ?_
  refine o_assign gn rfl rfl ?_
  refine wl_end ?_
  refine w_cond rfl (fun hb => ?_) fun hb => ?_
  · skip
    refine w_seq ?_
    refine w_region (by kernel_rfl) ?_
    refine o_assign gn rfl rfl ?_
    refine wl_end ?_
    refine w_ret ?_
    refine ⟨.inl rfl, _, rfl, ?_⟩
    exact ⟨congrArg iV (by unfold mustK; (repeat' split) <;> simp_all <;> omega), S.e0⟩
  refine w_seq ?_
  refine w_region (by kernel_rfl) ?_
  refine o_fieldAddr (off := 0) gn rfl rfl (by kernel_rfl) ?_
  refine o_load gn rfl rfl (by kernel_rfl) (by exact S.cel 0 rfl) rfl ?_
  refine o_eqi gn rfl rfl rfl ?_
  refine o_assign gn rfl rfl ?_
  refine wl_end ?_
  refine w_cond rfl (fun hb => ?_) fun hb => ?_
  · skip
    refine w_seq ?_
    refine w_region (by kernel_rfl) ?_
    refine o_loadA (n := 6) gn rfl rfl (by kernel_rfl) (by kernel_rfl) (by exact S.cel 0 rfl) (Nat.le_refl _) ?_
    refine o_call [_] gn rfl rfl (by kernel_rfl) rfl (C.mono (c18) ?_)
    rintro v g ⟨rfl, x⟩
    have S := S.grow x
    refine ⟨ag0, ?_⟩
    refine o_move gn rfl rfl ?_
    refine o_add gn rfl rfl rfl (by omega) (by omega) ?_
    refine o_assign gn rfl rfl ?_
    refine wl_end ?_
    refine w_ret ?_
    refine ⟨.inl rfl, _, rfl, ?_⟩
    exact ⟨congrArg iV (by unfold mustK; (repeat' split) <;> simp_all <;> omega), S.e0⟩
  refine w_seq ?_
  refine w_region (by kernel_rfl) ?_
  refine o_fieldAddr (off := 0) gn rfl rfl (by kernel_rfl) ?_
  refine o_load gn rfl rfl (by kernel_rfl) (by exact S.cel 0 rfl) rfl ?_
  refine o_eqi gn rfl rfl rfl ?_
  refine o_move gn rfl rfl ?_
  refine o_or (n := 3) rfl rfl rfl gn rfl (fun hb => by
      refine o_fieldAddr (off := 0) (gy rfl rfl rfl hb) rfl rfl (by kernel_rfl) ?_
      refine o_load (gy rfl rfl rfl hb) rfl rfl (by kernel_rfl) (by exact S.cel 0 rfl) rfl ?_
      refine o_eqi (gy rfl rfl rfl hb) rfl rfl rfl ?_
      exact wl_end ⟨rfl, rfl, 3, rfl, rfl⟩) ?_
  refine o_assign gn rfl rfl ?_
  refine wl_end ?_
  refine w_cond rfl (fun hb => ?_) fun hb => ?_
  · skip
    refine w_seq ?_
    refine w_region (by kernel_rfl) ?_
    refine o_assign gn rfl rfl ?_
    refine wl_end ?_
    refine w_ret ?_
    refine ⟨.inl rfl, _, rfl, ?_⟩
    exact ⟨congrArg iV (by unfold mustK; (repeat' split) <;> simp_all <;> omega), S.e0⟩
  refine w_seq ?_
  refine w_region (by kernel_rfl) ?_
  refine o_fieldAddr (off := 0) gn rfl rfl (by kernel_rfl) ?_
  refine o_load gn rfl rfl (by kernel_rfl) (by exact S.cel 0 rfl) rfl ?_
  refine o_eqi gn rfl rfl rfl ?_
  refine o_move gn rfl rfl ?_
  refine o_or (n := 7) rfl rfl rfl gn rfl (fun hb => by
      refine o_fieldAddr (off := 0) (gy rfl rfl rfl hb) rfl rfl (by kernel_rfl) ?_
      refine o_load (gy rfl rfl rfl hb) rfl rfl (by kernel_rfl) (by exact S.cel 0 rfl) rfl ?_
      refine o_eqi (gy rfl rfl rfl hb) rfl rfl rfl ?_
      refine o_move (gy rfl rfl rfl hb) rfl rfl ?_
      refine o_and (n := 2) rfl rfl rfl (gy rfl rfl rfl hb) rfl (fun hb => by
          refine o_move (gy rfl rfl rfl hb) rfl rfl ?_
          refine o_eqi (gy rfl rfl rfl hb) rfl rfl rfl ?_
          exact wl_end ⟨rfl, rfl, 2, rfl, rfl⟩) ?_
      exact wl_end ⟨rfl, rfl, 5, rfl, rfl⟩) ?_
  refine o_assign gn rfl rfl ?_
  refine wl_end ?_
  refine w_cond rfl (fun hb => ?_) fun hb => ?_
  · skip
    refine w_seq ?_
    refine w_region (by kernel_rfl) ?_
    refine o_assign gn rfl rfl ?_
    refine wl_end ?_
    refine w_ret ?_
    refine ⟨.inl rfl, _, rfl, ?_⟩
    exact ⟨congrArg iV (by unfold mustK; (repeat' split) <;> simp_all <;> omega), S.e0⟩
  refine w_skip ?_
  refine w_seq ?_
  refine w_region (by kernel_rfl) ?_
  refine o_assign gn rfl rfl ?_
  refine wl_end ?_
  refine w_ret ?_
  refine ⟨.inl rfl, _, rfl, ?_⟩
  exact ⟨congrArg iV (by unfold mustK; (repeat' split) <;> simp_all <;> omega), S.e0⟩

/-- Must -/
theorem c66 (hk : sameV 19 ks ks = true) (h0 : 0 ≤ i) (h1 : i ≤ 1000000) : C trE 66 [twV K s N L Co ks, iV i] h fun v h' => v = iV (mustR K s i) ∧ Ext h h' := by
  have hbl := binds_le K s
  refine c_enter (fu := Tryd.f66) (by kernel_rfl) rfl ?_
  have S := SH.start h
  refine w_seq ?_
  refine w_region (by kernel_rfl) ?_
  refine s_box S gn rfl rfl fun b1 g nb1 S => ?_
  refine o_assign gn rfl rfl ?_
  refine wl_end ?_
  refine w_seq ?_
  refine w_seq ?_
  refine w_region (by kernel_rfl) ?_
  refine o_fieldAddr (off := 0) gn rfl rfl (by kernel_rfl) ?_
  refine o_load gn rfl rfl (by kernel_rfl) (by exact S.cel 0 rfl) rfl ?_
  refine wl_end ?_
  refine w_block ?_
  refine w_seq ?_
  refine w_region (by kernel_rfl) ?_
  refine o_eqi gn rfl rfl rfl ?_
  refine o_assign gn rfl rfl ?_
  refine wl_end ?_
  refine w_cond rfl (fun hb => ?_) fun hb => ?_
  · skip
    refine w_seq ?_
    have hK : K = 32 := by simpa using hb
    have hbo := binds_op (s := s) hK
    obtain ⟨q, hq, hq1, hq3⟩ : ∃ q : Nat, bindsK K s = q ∧ 1 ≤ q ∧ q ≤ 3 := ⟨(bindsK K s).toNat, by omega, by omega, by omega⟩
    have e1 : ([iV 0, iV 2, iV 2, iV 3] : List Value)[0 + (bindsK K s).toNat * 1]? = some (iV (if q = 1 then 2 else q)) := by
      rw [hq]; rcases (show q = 1 ∨ q = 2 ∨ q = 3 by omega) with rfl | rfl | rfl <;> rfl
    have e2 : ([iV 0, iV 0, iV i, iV i] : List Value)[0 + (bindsK K s).toNat * 1]? = some (iV (if q = 1 then 0 else i)) := by
      rw [hq]; rcases (show q = 1 ∨ q = 2 ∨ q = 3 by omega) with rfl | rfl | rfl <;> rfl
    refine w_draw [(0, []), (1, []), (5, []), (6, []), (7, []), (8, []), (2, [8]), (3, []), (4, []), (9, [4]), (10, []), (11, []), (12, []), (13, [])] (by kernel_rfl) (by kernel_rfl) (by kernel_rfl) (by kernel_rfl) ?_
    refine s_buildSlice (cs := #[iV 0, iV 2, iV 2, iV 3]) (e := 3) (z := 0) (zv := .int .i64 0) [(0, _), (1, _), (2, _), (3, _)] S gn rfl (by kernel_rfl) (by kernel_rfl) (by kernel_rfl) (by kernel_rfl) rfl (by kernel_rfl) fun b2 g nb2 S => ?_
    refine o_loadA (n := 6) gn rfl rfl (by kernel_rfl) (by kernel_rfl) (by exact S.cel 1 rfl) (Nat.le_refl _) ?_
    refine o_move gn rfl rfl ?_
    refine o_move gn rfl rfl ?_
    refine s_buildSlice (cs := #[iV 0, iV 0, iV i, iV i]) (e := 3) (z := 0) (zv := .int .i64 0) [(0, _), (1, _), (2, _), (3, _)] S gn rfl (by kernel_rfl) (by kernel_rfl) (by kernel_rfl) (by kernel_rfl) rfl (by kernel_rfl) fun b3 g nb3 S => ?_
    refine o_loadA (n := 6) gn rfl rfl (by kernel_rfl) (by kernel_rfl) (by exact S.cel 2 rfl) (Nat.le_refl _) ?_
    refine o_call [_] gn rfl rfl (by kernel_rfl) rfl (C.mono (c19) ?_)
    rintro v g ⟨rfl, x⟩
    have S := S.grow x
    refine ⟨(ag1 (ag_loadA (n := 6) gn rfl (by kernel_rfl) (by kernel_rfl) (by exact S.cel 2 rfl) (Nat.le_refl _) rfl (same_tw hk)) ag0), ?_⟩
    refine o_indexAddr (zz := 1) gn rfl rfl rfl (by kernel_rfl) (by omega) (by omega) ?_
    refine o_load gn rfl rfl (by kernel_rfl) (S.cel 1 rfl) e1 ?_
    refine o_call [_] gn rfl rfl (by kernel_rfl) rfl (C.mono (c19) ?_)
    rintro v g ⟨rfl, x⟩
    have S := S.grow x
    refine ⟨(ag1 (ag_load gn rfl (by kernel_rfl) (S.cel 1 rfl) e1 rfl same_int) ag0), ?_⟩
    refine o_indexAddr (zz := 1) gn rfl rfl rfl (by kernel_rfl) (by omega) (by omega) ?_
    refine o_load gn rfl rfl (by kernel_rfl) (S.cel 0 rfl) e2 ?_
    refine o_add gn rfl rfl rfl (by omega) (by omega) ?_
    refine o_assign gn rfl rfl ?_
    refine wl_end ?_
    refine w_ret ?_
    refine ⟨.inl rfl, _, rfl, ?_⟩
    exact ⟨congrArg iV (by unfold mustR mustK; (repeat' split) <;> simp_all <;> omega), S.e0⟩
  refine w_seq ?_
  refine w_seq ?_
  refine w_region (by kernel_rfl) ?_
  refine o_eqi gn rfl rfl rfl ?_
  refine o_assign gn rfl rfl ?_
  refine wl_end ?_
  refine w_cond rfl (fun hb => ?_) fun hb => ?_
  · skip
    refine w_skip ?_
    refine w_cond rfl (fun hb => ?_) fun hb => ?_
    · skip
      refine w_seq ?_
      refine w_region (by kernel_rfl) ?_
      refine o_assign gn rfl rfl ?_
      refine wl_end ?_
      refine w_ret ?_
      refine ⟨.inl rfl, _, rfl, ?_⟩
      exact ⟨congrArg iV (by unfold mustR mustK; (repeat' split) <;> simp_all <;> omega), S.e0⟩
    refine w_seq ?_
    refine w_region (by kernel_rfl) ?_
    refine o_eqi gn rfl rfl rfl ?_
    refine o_assign gn rfl rfl ?_
    refine wl_end ?_
    refine w_cond rfl (fun hb => ?_) fun hb => ?_
    · skip
      refine w_seq ?_
      refine w_region (by kernel_rfl) ?_
      refine o_assign gn rfl rfl ?_
      refine wl_end ?_
      refine w_ret ?_
      refine ⟨.inl rfl, _, rfl, ?_⟩
      exact ⟨congrArg iV (by unfold mustR mustK; (repeat' split) <;> simp_all <;> omega), S.e0⟩
    refine w_seq ?_
    refine w_region (by kernel_rfl) ?_
    refine o_eqi gn rfl rfl rfl ?_
    refine o_assign gn rfl rfl ?_
    refine wl_end ?_
    refine w_cond rfl (fun hb => ?_) fun hb => ?_
    · skip
      refine w_seq ?_
      refine w_region (by kernel_rfl) ?_
      refine o_move gn rfl rfl ?_
      refine o_mul gn rfl rfl rfl (by omega) (by omega) ?_
      refine o_sub gn rfl rfl rfl (by omega) (by omega) ?_
      refine o_assign gn rfl rfl ?_
      refine wl_end ?_
      refine w_ret ?_
      refine ⟨.inl rfl, _, rfl, ?_⟩
      exact ⟨congrArg iV (by unfold mustR mustK; (repeat' split) <;> simp_all <;> omega), S.e0⟩
    refine w_skip ?_
    refine w_seq ?_
    refine w_region (by kernel_rfl) ?_
    refine o_assign gn rfl rfl ?_
    refine wl_end ?_
    refine w_ret ?_
    refine ⟨.inl rfl, _, rfl, ?_⟩
    exact ⟨congrArg iV (by unfold mustR mustK; (repeat' split) <;> simp_all <;> omega), S.e0⟩
  refine w_region (by kernel_rfl) ?_
  refine o_eqi gn rfl rfl rfl ?_
  refine o_assign gn rfl rfl ?_
  refine wl_end ?_
  refine w_cond rfl (fun hb => ?_) fun hb => ?_
  · skip
    refine w_seq ?_
    refine w_region (by kernel_rfl) ?_
    refine o_assign gn rfl rfl ?_
    refine wl_end ?_
    refine w_ret ?_
    refine ⟨.inl rfl, _, rfl, ?_⟩
    exact ⟨congrArg iV (by unfold mustR mustK; (repeat' split) <;> simp_all <;> omega), S.e0⟩
  refine w_seq ?_
  refine w_region (by kernel_rfl) ?_
  refine o_eqi gn rfl rfl rfl ?_
  refine o_assign gn rfl rfl ?_
  refine wl_end ?_
  refine w_cond rfl (fun hb => ?_) fun hb => ?_
  · skip
    refine w_seq ?_
    refine w_region (by kernel_rfl) ?_
    refine o_assign gn rfl rfl ?_
    refine wl_end ?_
    refine w_ret ?_
    refine ⟨.inl rfl, _, rfl, ?_⟩
    exact ⟨congrArg iV (by unfold mustR mustK; (repeat' split) <;> simp_all <;> omega), S.e0⟩
  refine w_seq ?_
  refine w_region (by kernel_rfl) ?_
  refine o_eqi gn rfl rfl rfl ?_
  refine o_assign gn rfl rfl ?_
  refine wl_end ?_
  refine w_cond rfl (fun hb => ?_) fun hb => ?_
  · skip
    refine w_seq ?_
    refine w_region (by kernel_rfl) ?_
    refine o_move gn rfl rfl ?_
    refine o_mul gn rfl rfl rfl (by omega) (by omega) ?_
    refine o_sub gn rfl rfl rfl (by omega) (by omega) ?_
    refine o_assign gn rfl rfl ?_
    refine wl_end ?_
    refine w_ret ?_
    refine ⟨.inl rfl, _, rfl, ?_⟩
    exact ⟨congrArg iV (by unfold mustR mustK; (repeat' split) <;> simp_all <;> omega), S.e0⟩
  refine w_skip ?_
  refine w_seq ?_
  refine w_region (by kernel_rfl) ?_
  refine o_assign gn rfl rfl ?_
  refine wl_end ?_
  refine w_ret ?_
  refine ⟨.inl rfl, _, rfl, ?_⟩
  exact ⟨congrArg iV (by unfold mustR mustK; (repeat' split) <;> simp_all <;> omega), S.e0⟩

/-- deeper -/
theorem c33 (hk : sameV 19 ks ks = true) (_ : sameV 19 ks' ks' = true) (h0 : 0 ≤ i) (h1 : i ≤ 1000000) : C trE 33 [twV K s N L Co ks, iV i, twV K' s' N' L' Co' ks'] h fun v h' => v = iV (deepK K s i K' s') ∧ Ext h h' := by
  refine c_enter (fu := Tryd.f33) (by kernel_rfl) rfl ?_
  have S := SH.start h
  refine w_seq ?_
  refine w_region (by kernel_rfl) ?_
  refine s_box S gn rfl rfl fun b1 g nb1 S => ?_
  refine s_box S gn rfl rfl fun b2 g nb2 S => ?_
  refine o_assign gn rfl rfl ?_
  refine wl_end ?_
  refine w_seq ?_
  refine w_seq ?_
  refine w_draw [(0, []), (1, []), (2, []), (3, []), (4, []), (14, []), (15, []), (16, []), (21, []), (22, []), (23, []), (31, []), (5, [1, 2, 15, 16, 22, 23]), (6, []), (7, []), (9, []), (10, []), (8, [1, 2, 9, 15, 16, 22, 23]), (11, [1, 2, 15, 16, 22, 23]), (12, []), (13, []), (17, []), (18, []), (19, []), (20, []), (24, []), (25, []), (26, []), (27, []), (28, []), (29, []), (30, [])] (by kernel_rfl) (by kernel_rfl) (by kernel_rfl) (by kernel_rfl) ?_
  refine o_fieldAddr (off := 0) gn rfl rfl (by kernel_rfl) ?_
  refine o_load gn rfl rfl (by kernel_rfl) (by exact S.cel 0 rfl) rfl ?_
  refine o_eqi gn rfl rfl rfl ?_
  refine o_fieldAddr (off := 0) gn rfl rfl (by kernel_rfl) ?_
  refine o_load gn rfl rfl (by kernel_rfl) (by exact S.cel 0 rfl) rfl ?_
  refine o_fieldAddr (off := 0) gn rfl rfl (by kernel_rfl) ?_
  refine o_load gn rfl rfl (by kernel_rfl) (by exact S.cel 1 rfl) rfl ?_
  refine o_eqi gn rfl rfl rfl ?_
  refine o_fieldAddr (off := 0) gn rfl rfl (by kernel_rfl) ?_
  refine o_load gn rfl rfl (by kernel_rfl) (by exact S.cel 1 rfl) rfl ?_
  refine o_eqi gn rfl rfl rfl ?_
  refine o_move gn rfl rfl ?_
  refine o_call [_] gn rfl rfl (by kernel_rfl) rfl (c_pure (c16 (K := K')) ⟨(ag1 (ag_load gn rfl (by kernel_rfl) (by exact S.cel 0 rfl) rfl rfl same_int) (ag1 (ag_eqi gn rfl rfl rfl) (ag1 (ag_load gn rfl (by kernel_rfl) (by exact S.cel 1 rfl) rfl rfl same_int) (ag1 (ag_eqi gn rfl rfl rfl) (ag1 (ag_load gn rfl (by kernel_rfl) (by exact S.cel 1 rfl) rfl rfl same_int) (ag1 (ag_eqi gn rfl rfl rfl) ag0)))))), ?_⟩)
  refine o_move gn rfl rfl ?_
  refine wl_split (dc := 15) rfl (fun hb15 => ?_) fun hb15 => ?_
  · skip
    refine o_loadA (n := 6) (gy rfl rfl rfl hb15) rfl rfl (by kernel_rfl) (by kernel_rfl) (by exact S.cel 0 rfl) (Nat.le_refl _) ?_
    refine o_loadA (n := 6) (gy rfl rfl rfl hb15) rfl rfl (by kernel_rfl) (by kernel_rfl) (by exact S.cel 1 rfl) (Nat.le_refl _) ?_
    refine o_move (gy rfl rfl rfl hb15) rfl rfl ?_
    refine o_call [_] (gy rfl rfl rfl hb15) rfl rfl (by kernel_rfl) rfl (C.mono (c18) ?_)
    rintro v g ⟨rfl, x⟩
    have S := S.grow x
    refine ⟨(ag1 (ag_load gn rfl (by kernel_rfl) (by exact S.cel 0 rfl) rfl rfl same_int) (ag1 (ag_eqi gn rfl rfl rfl) (ag1 (ag_loadA (n := 6) (gy rfl rfl rfl hb15) rfl (by kernel_rfl) (by kernel_rfl) (by exact S.cel 1 rfl) (Nat.le_refl _) rfl (same_tw hk)) (ag1 (ag_load gn rfl (by kernel_rfl) (by exact S.cel 1 rfl) rfl rfl same_int) (ag1 (ag_eqi gn rfl rfl rfl) (ag1 (ag_load gn rfl (by kernel_rfl) (by exact S.cel 1 rfl) rfl rfl same_int) (ag1 (ag_eqi gn rfl rfl rfl) ag0))))))), ?_⟩
    refine o_call [_, _] (gy rfl rfl rfl hb15) rfl rfl (by kernel_rfl) rfl (C.mono (c57 h0 h1) ?_)
    rintro v g ⟨rfl, x⟩
    have S := S.grow x
    refine ⟨(ag1 (ag_load gn rfl (by kernel_rfl) (by exact S.cel 0 rfl) rfl rfl same_int) (ag1 (ag_eqi gn rfl rfl rfl) (ag1 (ag_load gn rfl (by kernel_rfl) (by exact S.cel 1 rfl) rfl rfl same_int) (ag1 (ag_eqi gn rfl rfl rfl) (ag1 (ag_load gn rfl (by kernel_rfl) (by exact S.cel 1 rfl) rfl rfl same_int) (ag1 (ag_eqi gn rfl rfl rfl) ag0)))))), ?_⟩
    refine o_lss (gy rfl rfl rfl hb15) rfl rfl rfl ?_
    refine o_pickt gn rfl rfl hb15 rfl ?_
    refine o_move gn rfl rfl ?_
    refine o_and (n := 2) rfl rfl rfl gn rfl (fun hb => by
        refine o_move (gy rfl rfl rfl hb) rfl rfl ?_
        refine o_eqi (gy rfl rfl rfl hb) rfl rfl rfl ?_
        exact wl_end ⟨rfl, rfl, 2, rfl, rfl⟩) ?_
    refine o_move gn rfl rfl ?_
    refine o_or (n := 3) rfl rfl rfl gn rfl (fun hb => by
        refine o_fieldAddr (off := 0) (gy rfl rfl rfl hb) rfl rfl (by kernel_rfl) ?_
        refine o_load (gy rfl rfl rfl hb) rfl rfl (by kernel_rfl) (by exact S.cel 1 rfl) rfl ?_
        refine o_eqi (gy rfl rfl rfl hb) rfl rfl rfl ?_
        exact wl_end ⟨rfl, rfl, 3, rfl, rfl⟩) ?_
    refine s_buildSlice (cs := (([decide (K' = 12), decide (bindsK K' s' < mustK K s i), decide (K = 31) && decide (i = 1), decide (K = 34) || decide (K = 35)] : List Bool).map Value.bool).toArray) (e := 4) (z := 0) (zv := .bool false) [(0, _), (1, _), (2, _), (3, _)] S gn rfl (by kernel_rfl) (by kernel_rfl) (by kernel_rfl) (by kernel_rfl) rfl (by kernel_rfl) fun b3 g nb3 S => ?_
    refine o_len gn rfl rfl (by kernel_rfl) ?_
    refine wl_end ?_
    refine w_block ?_
    refine w_loopS [(6, _), (40, _)] [(38, _), (39, _)] (by repeat (first | exact trivial | refine ⟨rfl, ?_⟩)) (fun kk lv hh => ∃ j : Nat, lv = [(6, iV (cntB [decide (K' = 12), decide (bindsK K' s' < mustK K s i), decide (K = 31) && decide (i = 1), decide (K = 34) || decide (K = 35)] j)), (40, iV j)] ∧ kk = 4 - j ∧ j ≤ 4 ∧ SH h [] [cR b3 (.cells (([decide (K' = 12), decide (bindsK K' s' < mustK K s i), decide (K = 31) && decide (i = 1), decide (K = 34) || decide (K = 35)] : List Bool).map Value.bool) 4 0), cR b2 (.cells (twC K' s' N' L' Co' ks') 30 0), cR b1 (.cells (twC K s N L Co ks) 30 0)] hh) (n := 4) ?_ fun kk lv hh hI => ?_
    · exact ⟨0, rfl, rfl, by omega, S⟩
    obtain ⟨j, rfl, hk', hj, S⟩ := hI
    refine w_seq ?_
    refine w_region (by kernel_rfl) ?_
    refine o_lss gn rfl rfl rfl ?_
    refine wl_end ?_
    refine w_seq ?_
    refine w_cond rfl (fun hb => ?_) fun hb => ?_
    · skip
      refine w_skip ?_
      have hj : j < 4 := by simp at hb; omega
      have hcl := cntB_le [decide (K' = 12), decide (bindsK K' s' < mustK K s i), decide (K = 31) && decide (i = 1), decide (K = 34) || decide (K = 35)] j
      have hcs := cntB_succ (l := [decide (K' = 12), decide (bindsK K' s' < mustK K s i), decide (K = 31) && decide (i = 1), decide (K = 34) || decide (K = 35)]) (j := j) hj
      refine w_seq ?_
      refine w_block ?_
      refine w_seq ?_
      refine w_region (by kernel_rfl) ?_
      refine o_indexAddr (zz := 1) gn rfl rfl rfl (by kernel_rfl) (by omega) (by omega) ?_
      refine o_load gn rfl rfl (by kernel_rfl) (S.cel 0 rfl) (by rw [Int.toNat_natCast, Nat.mul_one, Nat.zero_add, List.getElem?_map, List.getElem?_eq_getElem hj]; rfl) ?_
      refine o_assign gn rfl rfl ?_
      refine wl_end ?_
      refine w_seq ?_
      refine w_region (by kernel_rfl) ?_
      refine o_move gn rfl rfl ?_
      refine wl_end ?_
      refine w_cond rfl (fun hb => ?_) fun hb => ?_
      · skip
        refine w_region (by kernel_rfl) ?_
        refine o_move gn rfl rfl ?_
        refine o_add gn rfl rfl rfl (by omega) (by omega) ?_
        refine o_assign gn rfl rfl ?_
        refine wl_end ?_
        refine w_region (by kernel_rfl) ?_
        refine o_add gn rfl rfl rfl (by omega) (by omega) ?_
        refine o_move gn rfl rfl ?_
        refine wl_end ?_
        exact rndS (4 - (j + 1)) (by omega) [(6, _), (40, _)] (by repeat (first | exact trivial | refine ⟨rfl, ?_⟩)) ⟨j + 1, by rw [hcs, hb]; rfl, rfl, by omega, S⟩
      refine w_skip ?_
      refine w_region (by kernel_rfl) ?_
      refine o_add gn rfl rfl rfl (by omega) (by omega) ?_
      refine o_move gn rfl rfl ?_
      refine wl_end ?_
      exact rndS (4 - (j + 1)) (by omega) [(6, _), (40, _)] (by repeat (first | exact trivial | refine ⟨rfl, ?_⟩)) ⟨j + 1, by rw [hcs, hb]; simp [b2i], rfl, by omega, S⟩
    refine w_exit ?_
    refine thn_exit ?_
    refine rnd_exit ?_
    refine blk_eq ?_
    refine w_seq ?_
    refine w_region (by kernel_rfl) ?_
    refine o_move gn rfl rfl ?_
    refine o_assign gn rfl rfl ?_
    refine wl_end ?_
    refine w_ret ?_
    refine ⟨.inl rfl, _, rfl, ?_⟩
    exact ⟨congrArg iV (by
      have hj2 : j = 4 := by simp at hb; omega
      subst hj2
      rw [cnt4, deepK, parenK, hb15, Bool.true_and]), S.e0⟩
  refine wl_skips (n := 6) (dc := 15) (w := true) rfl hb15 rfl ?_
  refine o_pickf gn rfl rfl hb15 rfl ?_
  refine o_move gn rfl rfl ?_
  refine o_and (n := 2) rfl rfl rfl gn rfl (fun hb => by
      refine o_move (gy rfl rfl rfl hb) rfl rfl ?_
      refine o_eqi (gy rfl rfl rfl hb) rfl rfl rfl ?_
      exact wl_end ⟨rfl, rfl, 2, rfl, rfl⟩) ?_
  refine o_move gn rfl rfl ?_
  refine o_or (n := 3) rfl rfl rfl gn rfl (fun hb => by
      refine o_fieldAddr (off := 0) (gy rfl rfl rfl hb) rfl rfl (by kernel_rfl) ?_
      refine o_load (gy rfl rfl rfl hb) rfl rfl (by kernel_rfl) (by exact S.cel 1 rfl) rfl ?_
      refine o_eqi (gy rfl rfl rfl hb) rfl rfl rfl ?_
      exact wl_end ⟨rfl, rfl, 3, rfl, rfl⟩) ?_
  refine s_buildSlice (cs := (([decide (K' = 12), false, decide (K = 31) && decide (i = 1), decide (K = 34) || decide (K = 35)] : List Bool).map Value.bool).toArray) (e := 4) (z := 0) (zv := .bool false) [(0, _), (1, _), (2, _), (3, _)] S gn rfl (by kernel_rfl) (by kernel_rfl) (by kernel_rfl) (by kernel_rfl) rfl (by kernel_rfl) fun b4 g nb4 S => ?_
  refine o_len gn rfl rfl (by kernel_rfl) ?_
  refine wl_end ?_
  refine w_block ?_
  refine w_loopS [(6, _), (40, _)] [(38, _), (39, _)] (by repeat (first | exact trivial | refine ⟨rfl, ?_⟩)) (fun kk lv hh => ∃ j : Nat, lv = [(6, iV (cntB [decide (K' = 12), false, decide (K = 31) && decide (i = 1), decide (K = 34) || decide (K = 35)] j)), (40, iV j)] ∧ kk = 4 - j ∧ j ≤ 4 ∧ SH h [] [cR b4 (.cells (([decide (K' = 12), false, decide (K = 31) && decide (i = 1), decide (K = 34) || decide (K = 35)] : List Bool).map Value.bool) 4 0), cR b2 (.cells (twC K' s' N' L' Co' ks') 30 0), cR b1 (.cells (twC K s N L Co ks) 30 0)] hh) (n := 4) ?_ fun kk lv hh hI => ?_
  · exact ⟨0, rfl, rfl, by omega, S⟩
  obtain ⟨j, rfl, hk', hj, S⟩ := hI
  refine w_seq ?_
  refine w_region (by kernel_rfl) ?_
  refine o_lss gn rfl rfl rfl ?_
  refine wl_end ?_
  refine w_seq ?_
  refine w_cond rfl (fun hb => ?_) fun hb => ?_
  · skip
    refine w_skip ?_
    have hj : j < 4 := by simp at hb; omega
    have hcl := cntB_le [decide (K' = 12), false, decide (K = 31) && decide (i = 1), decide (K = 34) || decide (K = 35)] j
    have hcs := cntB_succ (l := [decide (K' = 12), false, decide (K = 31) && decide (i = 1), decide (K = 34) || decide (K = 35)]) (j := j) hj
    refine w_seq ?_
    refine w_block ?_
    refine w_seq ?_
    refine w_region (by kernel_rfl) ?_
    refine o_indexAddr (zz := 1) gn rfl rfl rfl (by kernel_rfl) (by omega) (by omega) ?_
    refine o_load gn rfl rfl (by kernel_rfl) (S.cel 0 rfl) (by rw [Int.toNat_natCast, Nat.mul_one, Nat.zero_add, List.getElem?_map, List.getElem?_eq_getElem hj]; rfl) ?_
    refine o_assign gn rfl rfl ?_
    refine wl_end ?_
    refine w_seq ?_
    refine w_region (by kernel_rfl) ?_
    refine o_move gn rfl rfl ?_
    refine wl_end ?_
    refine w_cond rfl (fun hb => ?_) fun hb => ?_
    · skip
      refine w_region (by kernel_rfl) ?_
      refine o_move gn rfl rfl ?_
      refine o_add gn rfl rfl rfl (by omega) (by omega) ?_
      refine o_assign gn rfl rfl ?_
      refine wl_end ?_
      refine w_region (by kernel_rfl) ?_
      refine o_add gn rfl rfl rfl (by omega) (by omega) ?_
      refine o_move gn rfl rfl ?_
      refine wl_end ?_
      exact rndS (4 - (j + 1)) (by omega) [(6, _), (40, _)] (by repeat (first | exact trivial | refine ⟨rfl, ?_⟩)) ⟨j + 1, by rw [hcs, hb]; rfl, rfl, by omega, S⟩
    refine w_skip ?_
    refine w_region (by kernel_rfl) ?_
    refine o_add gn rfl rfl rfl (by omega) (by omega) ?_
    refine o_move gn rfl rfl ?_
    refine wl_end ?_
    exact rndS (4 - (j + 1)) (by omega) [(6, _), (40, _)] (by repeat (first | exact trivial | refine ⟨rfl, ?_⟩)) ⟨j + 1, by rw [hcs, hb]; simp [b2i], rfl, by omega, S⟩
  refine w_exit ?_
  refine thn_exit ?_
  refine rnd_exit ?_
  refine blk_eq ?_
  refine w_seq ?_
  refine w_region (by kernel_rfl) ?_
  refine o_move gn rfl rfl ?_
  refine o_assign gn rfl rfl ?_
  refine wl_end ?_
  refine w_ret ?_
  refine ⟨.inl rfl, _, rfl, ?_⟩
  exact ⟨congrArg iV (by
    have hj2 : j = 4 := by simp at hb; omega
    subst hj2
    rw [cnt4, deepK, parenK, hb15, Bool.false_and]), S.e0⟩

end
end Go.Proofs.YtoejddhaiogonaaDoor

namespace Go.Proofs.YtoejddhaiogonaaDoor
open Go.X

def memK (l : List Int) : Int → Bool := fun K => decide (K ∈ l)
/-- What a kind has: a text, a number's bounds, kids. -/
structure FS where
  text : Option (ByteArray → Bool)
  least : Int
  most : Int
  kids : List (Int → Bool)
  maybe : Option (Int → Bool)
  more : Option (Int → Bool)

/-- A function value that says of kinds what P says. -/
def PrK (h : Hp) (v : Value) (P : Int → Bool) : Prop := ∃ f cap, v = .func (.func f) #[] cap ∧ callOk trE f = true ∧ ∀ h', Ext h h' → ∀ K, C trE f ((#[] : Array Value).toList ++ [iV K] ++ cap.toList) h' fun v h'' => v = .bool (P K) ∧ Ext h' h''
/-- The same of texts. -/
def PrS (h : Hp) (v : Value) (P : ByteArray → Bool) : Prop := ∃ f cap, v = .func (.func f) #[] cap ∧ callOk trE f = true ∧ ∀ h', Ext h h' → Blk h' → ∀ s : ByteArray, s.toList.length < 9223372036854775000 → C trE f ((#[] : Array Value).toList ++ [.string s] ++ cap.toList) h' fun v h'' => v = .bool (P s) ∧ Ext h' h''
def OptK (h : Hp) (v : Value) : Option (Int → Bool) → Prop
  | none => v = .nilFunc
  | some P => PrK h v P
def OptS (h : Hp) (v : Value) : Option (ByteArray → Bool) → Prop
  | none => v = .nilFunc
  | some P => PrS h v P
def RowK (h : Hp) (v : Value) (l : List (Int → Bool)) : Prop := (l = [] ∧ v = .slice none 0 0) ∨ ∃ b e m cs, v = .slice (some ⟨b, 0, none⟩) l.length l.length ∧ h.get b = some (.cells cs e m) ∧ b < h.n ∧ ∀ i (hi : i < l.length), ∃ u, cs[i]? = some u ∧ PrK h u l[i]
def FormV (h : Hp) (v : Value) (F : FS) : Prop := ∃ ft ks fm fo, v = .agg #[ft, iV F.least, iV F.most, ks, fm, fo] ∧ OptS h ft F.text ∧ RowK h ks F.kids ∧ OptK h fm F.maybe ∧ OptK h fo F.more
def Fits2 (h : Hp) : MsK Int → List (Int × FS) → Prop
  | [], [] => True
  | (k, v, _) :: M, (k', F) :: T => k = k' ∧ FormV h v F ∧ Fits2 h M T
  | _, _ => False

theorem PrK.ext {h h' : Hp} {v : Value} {P : Int → Bool} (x : PrK h v P) (g : Ext h h') : PrK h' v P := by
  obtain ⟨f, cap, h1, h2, h3⟩ := x
  exact ⟨f, cap, h1, h2, fun h'' g' K => h3 h'' (g.trans g') K⟩
theorem PrS.ext {h h' : Hp} {v : Value} {P : ByteArray → Bool} (x : PrS h v P) (g : Ext h h') : PrS h' v P := by
  obtain ⟨f, cap, h1, h2, h3⟩ := x
  exact ⟨f, cap, h1, h2, fun h'' g' => h3 h'' (g.trans g')⟩
theorem OptK.ext {h h' : Hp} {v : Value} {P : Option (Int → Bool)} (x : OptK h v P) (g : Ext h h') : OptK h' v P := by
  cases P with
  | none => exact x
  | some P => exact PrK.ext x g
theorem OptS.ext {h h' : Hp} {v : Value} {P : Option (ByteArray → Bool)} (x : OptS h v P) (g : Ext h h') : OptS h' v P := by
  cases P with
  | none => exact x
  | some P => exact PrS.ext x g
theorem RowK.ext {h h' : Hp} {v : Value} {l : List (Int → Bool)} (x : RowK h v l) (g : Ext h h') : RowK h' v l := by
  rcases x with x | ⟨b, e, m, cs, h1, h2, h3, h4⟩
  · exact .inl x
  refine .inr ⟨b, e, m, cs, h1, (g.get b h3).trans h2, Nat.lt_of_lt_of_le h3 g.n, fun i hi => ?_⟩
  obtain ⟨u, q1, q2⟩ := h4 i hi
  exact ⟨u, q1, q2.ext g⟩
theorem RowK.val {h : Hp} {v : Value} {l : List (Int → Bool)} (x : RowK h v l) : ∃ a, v = .slice a l.length l.length := by
  rcases x with ⟨rfl, h1⟩ | ⟨b, e, m, cs, h1, _⟩
  · exact ⟨none, h1⟩
  exact ⟨_, h1⟩
theorem RowK.at {h : Hp} {v : Value} {l : List (Int → Bool)} (x : RowK h v l) (hn : 0 < l.length) : ∃ b e m cs, v = .slice (some ⟨b, 0, none⟩) l.length l.length ∧ h.get b = some (.cells cs e m) ∧ b < h.n ∧ ∀ i (hi : i < l.length), ∃ u, cs[i]? = some u ∧ PrK h u l[i] := by
  rcases x with ⟨rfl, _⟩ | x
  · simp at hn
  exact x
theorem FormV.ext {h h' : Hp} {v : Value} {F : FS} (x : FormV h v F) (g : Ext h h') : FormV h' v F := by
  obtain ⟨ft, ks, fm, fo, h1, h2, h3, h4, h5⟩ := x
  exact ⟨ft, ks, fm, fo, h1, h2.ext g, h3.ext g, h4.ext g, h5.ext g⟩
theorem Fits2.ext {h h' : Hp} (g : Ext h h') : ∀ {M : MsK Int} {T : List (Int × FS)}, Fits2 h M T → Fits2 h' M T
  | [], [], _ => trivial
  | [], _ :: _, x => x.elim
  | _ :: _, [], x => x.elim
  | _ :: _, _ :: _, x => ⟨x.1, x.2.1.ext g, Fits2.ext g x.2.2⟩
/-- The form of a kind. -/
def formOf (T : List (Int × FS)) (K : Int) : Option FS := match T with
  | [] => none
  | (k, F) :: T => if K = k then some F else formOf T K
theorem Fits2.get {h : Hp} {K : Int} : ∀ {M : MsK Int} {T : List (Int × FS)} (i : Nat), Fits2 h M T → match formOf T K with
    | some F => ∃ v, (fK K M i).map (·.2) = some v ∧ FormV h v F
    | none => fK K M i = none
  | [], [], _, _ => rfl
  | [], _ :: _, _, x => x.elim
  | _ :: _, [], _, x => x.elim
  | (k, v, b) :: M, (k', F) :: T, i, x => by
    obtain ⟨rfl, x1, x2⟩ := x
    by_cases e : K = k
    · simp only [formOf, if_pos e, fK]
      exact ⟨v, rfl, x1⟩
    simp only [formOf, if_neg e, fK]
    exact Fits2.get (i + 1) x2

theorem PrK.of16 {h : Hp} : PrK h (.func (.func 16) #[] #[]) termK := ⟨16, #[], rfl, by kernel_rfl, fun h' _ K => c_pure c16 ⟨rfl, .refl _⟩⟩
theorem PrK.of40 {h : Hp} : PrK h (.func (.func 40) #[] #[]) stmtK := ⟨40, #[], rfl, by kernel_rfl, fun h' _ K => c_pure c40 ⟨rfl, .refl _⟩⟩
theorem PrK.of37 {h : Hp} : PrK h (.func (.func 37) #[] #[]) declK := ⟨37, #[], rfl, by kernel_rfl, fun h' _ K => c37⟩
theorem PrK.of41 {h : Hp} : PrK h (.func (.func 41) #[] #[]) varK := ⟨41, #[], rfl, by kernel_rfl, fun h' _ K => c41⟩
theorem PrK.of60 {h : Hp} {q b : Nat} {k : Int} (hq : h.get q = some (.cells [.slice (some ⟨b, 0, none⟩) 1 1] 58 0)) (lq : q < h.n) (hb : h.get b = some (.cells [iV k] 27 0)) (lb : b < h.n) : PrK h (.func (.func 60) #[] #[ptrV q]) (memK [k]) :=
  ⟨60, #[ptrV q], rfl, by kernel_rfl, fun h' g K => c60 (ks := [k]) ((g.get q lq).trans hq) (RowV.of ((g.get b lb).trans hb) (Nat.lt_of_lt_of_le lb g.n) rfl) (by simp)⟩
theorem PrS.of38 {h : Hp} : PrS h (.func (.func 38) #[] #[]) nameS := ⟨38, #[], rfl, by kernel_rfl, fun h' _ B s hs => c38 B hs⟩
theorem PrS.of39 {h : Hp} : PrS h (.func (.func 39) #[] #[]) typS := ⟨39, #[], rfl, by kernel_rfl, fun h' _ B s hs => c39 B hs⟩
theorem PrS.of42 {h : Hp} : PrS h (.func (.func 42) #[] #[]) (isIn opL) := ⟨42, #[], rfl, by kernel_rfl, fun h' _ _ s _ => c42⟩
theorem RowK.of1 {h : Hp} {b e m : Nat} {u : Value} {P : Int → Bool} (hg : h.get b = some (.cells [u] e m)) (hb : b < h.n) (p : PrK h u P) : RowK h (.slice (some ⟨b, 0, none⟩) 1 1) [P] :=
  .inr ⟨b, e, m, _, rfl, hg, hb, fun i hi => match i, hi with | 0, _ => ⟨u, rfl, p⟩⟩
theorem RowK.of2 {h : Hp} {b e m : Nat} {u w : Value} {P Q : Int → Bool} (hg : h.get b = some (.cells [u, w] e m)) (hb : b < h.n) (p : PrK h u P) (q : PrK h w Q) : RowK h (.slice (some ⟨b, 0, none⟩) 2 2) [P, Q] :=
  .inr ⟨b, e, m, _, rfl, hg, hb, fun i hi => match i, hi with | 0, _ => ⟨u, rfl, p⟩ | 1, _ => ⟨w, rfl, q⟩⟩
theorem RowK.of3 {h : Hp} {b e m : Nat} {u w x : Value} {P Q R : Int → Bool} (hg : h.get b = some (.cells [u, w, x] e m)) (hb : b < h.n) (p : PrK h u P) (q : PrK h w Q) (r : PrK h x R) : RowK h (.slice (some ⟨b, 0, none⟩) 3 3) [P, Q, R] :=
  .inr ⟨b, e, m, _, rfl, hg, hb, fun i hi => match i, hi with | 0, _ => ⟨u, rfl, p⟩ | 1, _ => ⟨w, rfl, q⟩ | 2, _ => ⟨x, rfl, r⟩⟩

/-- The forms, by kinds. -/
def formT : List (Int × FS) := [
  (1, ⟨none, 0, 0, [], none, (some declK)⟩),
  (2, ⟨(some nameS), 0, 0, [], none, none⟩),
  (3, ⟨(some nameS), 0, 0, [], none, (some (memK [4]))⟩),
  (4, ⟨(some nameS), 0, 0, [(memK [5])], none, none⟩),
  (5, ⟨(some typS), 0, 0, [], none, none⟩),
  (6, ⟨(some nameS), 0, 0, [(memK [5])], none, none⟩),
  (7, ⟨(some nameS), 0, 0, [(memK [12])], none, none⟩),
  (8, ⟨(some nameS), 0, 0, [(memK [29])], none, (some (memK [9]))⟩),
  (9, ⟨none, 0, 3, [(memK [12])], none, none⟩),
  (10, ⟨(some nameS), 0, 1, [(memK [29]), (memK [12])], none, none⟩),
  (11, ⟨none, 0, 0, [(memK [12])], none, none⟩),
  (12, ⟨none, 0, 0, [], none, (some stmtK)⟩),
  (13, ⟨(some nameS), 0, 0, [(memK [5]), termK], none, none⟩),
  (14, ⟨none, 0, 0, [varK, termK], none, none⟩),
  (19, ⟨(some nameS), -1, 2147483647, [termK], (some varK), none⟩),
  (20, ⟨none, 0, 0, [termK], (some varK), none⟩),
  (21, ⟨(some nameS), 0, 0, [], none, none⟩),
  (22, ⟨(some nameS), 0, 0, [], none, none⟩),
  (23, ⟨none, 0, 0, [termK, (memK [12]), (memK [12])], none, none⟩),
  (24, ⟨none, 0, 0, [termK, (memK [12])], none, none⟩),
  (25, ⟨none, 0, 0, [], none, none⟩),
  (26, ⟨none, 0, 2147483647, [], none, none⟩),
  (27, ⟨none, 0, 0, [], none, none⟩),
  (28, ⟨none, 0, 0, [], none, none⟩),
  (29, ⟨(some nameS), 0, 0, [], none, none⟩),
  (30, ⟨(some nameS), 0, 0, [termK], none, none⟩),
  (31, ⟨none, 0, 0, [termK, termK], none, none⟩),
  (32, ⟨(some (isIn opL)), 0, 0, [termK, termK], none, none⟩),
  (33, ⟨(some nameS), 0, 0, [], none, none⟩),
  (36, ⟨none, 0, 0, [(memK [12])], none, none⟩),
  (15, ⟨none, 0, 0, [termK], none, none⟩),
  (16, ⟨none, 0, 0, [termK], none, none⟩),
  (17, ⟨none, 0, 0, [termK], none, none⟩),
  (18, ⟨none, 0, 0, [termK], none, none⟩),
  (34, ⟨none, 0, 0, [termK], none, none⟩),
  (35, ⟨none, 0, 0, [termK], none, none⟩)]
/-- The map of forms. -/
def Forms (h : Hp) (r : Nat) : Prop := ∃ M cl, h.get r = some (.map (M.map (entK fun k => .int .i64 k)) cl) ∧ r < h.n ∧ Fits2 h M formT
def formsM (n : Nat) : MsK Int := [
  (1, .agg #[.nilFunc, .int .i64 (0), .int .i64 (0), .slice none 0 0, .nilFunc, .func (.func 37) #[] #[]], 0),
  (2, .agg #[.func (.func 38) #[] #[], .int .i64 (0), .int .i64 (0), .slice none 0 0, .nilFunc, .nilFunc], 1),
  (3, .agg #[.func (.func 38) #[] #[], .int .i64 (0), .int .i64 (0), .slice none 0 0, .nilFunc, .func (.func 60) #[] #[.pointer (some ⟨n + 10, 0, none⟩)]], 2),
  (4, .agg #[.func (.func 38) #[] #[], .int .i64 (0), .int .i64 (0), .slice (some ⟨n + 11, 0, none⟩) 1 1, .nilFunc, .nilFunc], 3),
  (5, .agg #[.func (.func 39) #[] #[], .int .i64 (0), .int .i64 (0), .slice none 0 0, .nilFunc, .nilFunc], 4),
  (6, .agg #[.func (.func 38) #[] #[], .int .i64 (0), .int .i64 (0), .slice (some ⟨n + 12, 0, none⟩) 1 1, .nilFunc, .nilFunc], 5),
  (7, .agg #[.func (.func 38) #[] #[], .int .i64 (0), .int .i64 (0), .slice (some ⟨n + 13, 0, none⟩) 1 1, .nilFunc, .nilFunc], 6),
  (8, .agg #[.func (.func 38) #[] #[], .int .i64 (0), .int .i64 (0), .slice (some ⟨n + 14, 0, none⟩) 1 1, .nilFunc, .func (.func 60) #[] #[.pointer (some ⟨n + 16, 0, none⟩)]], 7),
  (9, .agg #[.nilFunc, .int .i64 (0), .int .i64 (3), .slice (some ⟨n + 17, 0, none⟩) 1 1, .nilFunc, .nilFunc], 8),
  (10, .agg #[.func (.func 38) #[] #[], .int .i64 (0), .int .i64 (1), .slice (some ⟨n + 18, 0, none⟩) 2 2, .nilFunc, .nilFunc], 9),
  (11, .agg #[.nilFunc, .int .i64 (0), .int .i64 (0), .slice (some ⟨n + 19, 0, none⟩) 1 1, .nilFunc, .nilFunc], 10),
  (12, .agg #[.nilFunc, .int .i64 (0), .int .i64 (0), .slice none 0 0, .nilFunc, .func (.func 40) #[] #[]], 11),
  (13, .agg #[.func (.func 38) #[] #[], .int .i64 (0), .int .i64 (0), .slice (some ⟨n + 20, 0, none⟩) 2 2, .nilFunc, .nilFunc], 12),
  (14, .agg #[.nilFunc, .int .i64 (0), .int .i64 (0), .slice (some ⟨n + 21, 0, none⟩) 2 2, .nilFunc, .nilFunc], 13),
  (19, .agg #[.func (.func 38) #[] #[], .int .i64 (-1), .int .i64 (2147483647), .slice (some ⟨n + 22, 0, none⟩) 1 1, .func (.func 41) #[] #[], .nilFunc], 14),
  (20, .agg #[.nilFunc, .int .i64 (0), .int .i64 (0), .slice (some ⟨n + 23, 0, none⟩) 1 1, .func (.func 41) #[] #[], .nilFunc], 15),
  (21, .agg #[.func (.func 38) #[] #[], .int .i64 (0), .int .i64 (0), .slice none 0 0, .nilFunc, .nilFunc], 16),
  (22, .agg #[.func (.func 38) #[] #[], .int .i64 (0), .int .i64 (0), .slice none 0 0, .nilFunc, .nilFunc], 17),
  (23, .agg #[.nilFunc, .int .i64 (0), .int .i64 (0), .slice (some ⟨n + 24, 0, none⟩) 3 3, .nilFunc, .nilFunc], 18),
  (24, .agg #[.nilFunc, .int .i64 (0), .int .i64 (0), .slice (some ⟨n + 25, 0, none⟩) 2 2, .nilFunc, .nilFunc], 19),
  (25, .agg #[.nilFunc, .int .i64 (0), .int .i64 (0), .slice none 0 0, .nilFunc, .nilFunc], 20),
  (26, .agg #[.nilFunc, .int .i64 (0), .int .i64 (2147483647), .slice none 0 0, .nilFunc, .nilFunc], 21),
  (27, .agg #[.nilFunc, .int .i64 (0), .int .i64 (0), .slice none 0 0, .nilFunc, .nilFunc], 22),
  (28, .agg #[.nilFunc, .int .i64 (0), .int .i64 (0), .slice none 0 0, .nilFunc, .nilFunc], 23),
  (29, .agg #[.func (.func 38) #[] #[], .int .i64 (0), .int .i64 (0), .slice none 0 0, .nilFunc, .nilFunc], 24),
  (30, .agg #[.func (.func 38) #[] #[], .int .i64 (0), .int .i64 (0), .slice (some ⟨n + 26, 0, none⟩) 1 1, .nilFunc, .nilFunc], 25),
  (31, .agg #[.nilFunc, .int .i64 (0), .int .i64 (0), .slice (some ⟨n + 27, 0, none⟩) 2 2, .nilFunc, .nilFunc], 26),
  (32, .agg #[.func (.func 42) #[] #[], .int .i64 (0), .int .i64 (0), .slice (some ⟨n + 28, 0, none⟩) 2 2, .nilFunc, .nilFunc], 27),
  (33, .agg #[.func (.func 38) #[] #[], .int .i64 (0), .int .i64 (0), .slice none 0 0, .nilFunc, .nilFunc], 28),
  (36, .agg #[.nilFunc, .int .i64 (0), .int .i64 (0), .slice (some ⟨n + 29, 0, none⟩) 1 1, .nilFunc, .nilFunc], 29),
  (15, .agg #[.nilFunc, .int .i64 (0), .int .i64 (0), .slice (some ⟨n + 6, 0, none⟩) 1 1, .nilFunc, .nilFunc], 30),
  (16, .agg #[.nilFunc, .int .i64 (0), .int .i64 (0), .slice (some ⟨n + 6, 0, none⟩) 1 1, .nilFunc, .nilFunc], 31),
  (17, .agg #[.nilFunc, .int .i64 (0), .int .i64 (0), .slice (some ⟨n + 6, 0, none⟩) 1 1, .nilFunc, .nilFunc], 32),
  (18, .agg #[.nilFunc, .int .i64 (0), .int .i64 (0), .slice (some ⟨n + 6, 0, none⟩) 1 1, .nilFunc, .nilFunc], 33),
  (34, .agg #[.nilFunc, .int .i64 (0), .int .i64 (0), .slice (some ⟨n + 6, 0, none⟩) 1 1, .nilFunc, .nilFunc], 34),
  (35, .agg #[.nilFunc, .int .i64 (0), .int .i64 (0), .slice (some ⟨n + 6, 0, none⟩) 1 1, .nilFunc, .nilFunc], 35)]
def formsL (n : Nat) : List AObj := [
  .cells [.int .i64 (12)] 27 0,
  .cells [.slice (some ⟨n + 0, 0, none⟩) 1 1] 58 0,
  .cells [.int .i64 (29)] 27 0,
  .cells [.slice (some ⟨n + 2, 0, none⟩) 1 1] 58 0,
  .cells [.int .i64 (5)] 27 0,
  .cells [.slice (some ⟨n + 4, 0, none⟩) 1 1] 58 0,
  .cells [.func (.func 16) #[] #[]] 35 0,
  .dead,
  .map ((formsM n).map (entK fun k => .int .i64 k)) 36,
  .cells [.int .i64 (4)] 27 0,
  .cells [.slice (some ⟨n + 9, 0, none⟩) 1 1] 58 0,
  .cells [.func (.func 60) #[] #[.pointer (some ⟨n + 5, 0, none⟩)]] 35 0,
  .cells [.func (.func 60) #[] #[.pointer (some ⟨n + 5, 0, none⟩)]] 35 0,
  .cells [.func (.func 60) #[] #[.pointer (some ⟨n + 1, 0, none⟩)]] 35 0,
  .cells [.func (.func 60) #[] #[.pointer (some ⟨n + 3, 0, none⟩)]] 35 0,
  .cells [.int .i64 (9)] 27 0,
  .cells [.slice (some ⟨n + 15, 0, none⟩) 1 1] 58 0,
  .cells [.func (.func 60) #[] #[.pointer (some ⟨n + 1, 0, none⟩)]] 35 0,
  .cells [.func (.func 60) #[] #[.pointer (some ⟨n + 3, 0, none⟩)], .func (.func 60) #[] #[.pointer (some ⟨n + 1, 0, none⟩)]] 35 0,
  .cells [.func (.func 60) #[] #[.pointer (some ⟨n + 1, 0, none⟩)]] 35 0,
  .cells [.func (.func 60) #[] #[.pointer (some ⟨n + 5, 0, none⟩)], .func (.func 16) #[] #[]] 35 0,
  .cells [.func (.func 41) #[] #[], .func (.func 16) #[] #[]] 35 0,
  .cells [.func (.func 16) #[] #[]] 35 0,
  .cells [.func (.func 16) #[] #[]] 35 0,
  .cells [.func (.func 16) #[] #[], .func (.func 60) #[] #[.pointer (some ⟨n + 1, 0, none⟩)], .func (.func 60) #[] #[.pointer (some ⟨n + 1, 0, none⟩)]] 35 0,
  .cells [.func (.func 16) #[] #[], .func (.func 60) #[] #[.pointer (some ⟨n + 1, 0, none⟩)]] 35 0,
  .cells [.func (.func 16) #[] #[]] 35 0,
  .cells [.func (.func 16) #[] #[], .func (.func 16) #[] #[]] 35 0,
  .cells [.func (.func 16) #[] #[], .func (.func 16) #[] #[]] 35 0,
  .cells [.func (.func 60) #[] #[.pointer (some ⟨n + 1, 0, none⟩)]] 35 0,
  .dead]
def formsJ : List Nat := [0, 1, 2, 3, 4, 5, 6, 8, 9, 10, 11, 12, 13, 14, 15, 16, 17, 18, 19, 20, 21, 22, 23, 24, 25, 26, 27, 28, 29]
theorem forms_v (n : Nat) : shV 400 n formsV = some (.map (some (n + 8))) := by kernel_rfl
theorem forms_l (n : Nat) : shOs n formsO = some (formsL n) := by kernel_rfl

theorem forms_at {h0 g : Hp} {ds : List Nat} {L : List Res} {n : Nat} (S : SH h0 ds (pcs n (formsL n) formsJ ++ L) g) : Forms g (n + 8) := by
  have p16 : PrK g (.func (.func 16) #[] #[]) termK := PrK.of16
  have p37 : PrK g (.func (.func 37) #[] #[]) declK := PrK.of37
  have p40 : PrK g (.func (.func 40) #[] #[]) stmtK := PrK.of40
  have p41 : PrK g (.func (.func 41) #[] #[]) varK := PrK.of41
  have s38 : PrS g (.func (.func 38) #[] #[]) nameS := PrS.of38
  have s39 : PrS g (.func (.func 39) #[] #[]) typS := PrS.of39
  have s42 : PrS g (.func (.func 42) #[] #[]) (isIn opL) := PrS.of42
  have q1 := PrK.of60 (k := 12) (S.cel 1 rfl) (S.lt1 1 rfl) (S.cel 0 rfl) (S.lt1 0 rfl)
  have q3 := PrK.of60 (k := 29) (S.cel 3 rfl) (S.lt1 3 rfl) (S.cel 2 rfl) (S.lt1 2 rfl)
  have q5 := PrK.of60 (k := 5) (S.cel 5 rfl) (S.lt1 5 rfl) (S.cel 4 rfl) (S.lt1 4 rfl)
  have q10 := PrK.of60 (k := 4) (S.cel 9 rfl) (S.lt1 9 rfl) (S.cel 8 rfl) (S.lt1 8 rfl)
  have q16 := PrK.of60 (k := 9) (S.cel 15 rfl) (S.lt1 15 rfl) (S.cel 14 rfl) (S.lt1 14 rfl)
  have r6 := RowK.of1 (S.cel 6 rfl) (S.lt1 6 rfl) p16
  have r11 := RowK.of1 (S.cel 10 rfl) (S.lt1 10 rfl) q5
  have r12 := RowK.of1 (S.cel 11 rfl) (S.lt1 11 rfl) q5
  have r13 := RowK.of1 (S.cel 12 rfl) (S.lt1 12 rfl) q1
  have r14 := RowK.of1 (S.cel 13 rfl) (S.lt1 13 rfl) q3
  have r17 := RowK.of1 (S.cel 16 rfl) (S.lt1 16 rfl) q1
  have r18 := RowK.of2 (S.cel 17 rfl) (S.lt1 17 rfl) q3 q1
  have r19 := RowK.of1 (S.cel 18 rfl) (S.lt1 18 rfl) q1
  have r20 := RowK.of2 (S.cel 19 rfl) (S.lt1 19 rfl) q5 p16
  have r21 := RowK.of2 (S.cel 20 rfl) (S.lt1 20 rfl) p41 p16
  have r22 := RowK.of1 (S.cel 21 rfl) (S.lt1 21 rfl) p16
  have r23 := RowK.of1 (S.cel 22 rfl) (S.lt1 22 rfl) p16
  have r24 := RowK.of3 (S.cel 23 rfl) (S.lt1 23 rfl) p16 q1 q1
  have r25 := RowK.of2 (S.cel 24 rfl) (S.lt1 24 rfl) p16 q1
  have r26 := RowK.of1 (S.cel 25 rfl) (S.lt1 25 rfl) p16
  have r27 := RowK.of2 (S.cel 26 rfl) (S.lt1 26 rfl) p16 p16
  have r28 := RowK.of2 (S.cel 27 rfl) (S.lt1 27 rfl) p16 p16
  have r29 := RowK.of1 (S.cel 28 rfl) (S.lt1 28 rfl) q1
  exact ⟨formsM n, 36, S.cel 7 rfl, S.lt1 7 rfl, rfl, ⟨_, _, _, _, rfl, rfl, .inl ⟨rfl, rfl⟩, rfl, p37⟩, rfl, ⟨_, _, _, _, rfl, s38, .inl ⟨rfl, rfl⟩, rfl, rfl⟩, rfl, ⟨_, _, _, _, rfl, s38, .inl ⟨rfl, rfl⟩, rfl, q10⟩, rfl, ⟨_, _, _, _, rfl, s38, r11, rfl, rfl⟩, rfl, ⟨_, _, _, _, rfl, s39, .inl ⟨rfl, rfl⟩, rfl, rfl⟩, rfl, ⟨_, _, _, _, rfl, s38, r12, rfl, rfl⟩, rfl, ⟨_, _, _, _, rfl, s38, r13, rfl, rfl⟩, rfl, ⟨_, _, _, _, rfl, s38, r14, rfl, q16⟩, rfl, ⟨_, _, _, _, rfl, rfl, r17, rfl, rfl⟩, rfl, ⟨_, _, _, _, rfl, s38, r18, rfl, rfl⟩, rfl, ⟨_, _, _, _, rfl, rfl, r19, rfl, rfl⟩, rfl, ⟨_, _, _, _, rfl, rfl, .inl ⟨rfl, rfl⟩, rfl, p40⟩, rfl, ⟨_, _, _, _, rfl, s38, r20, rfl, rfl⟩, rfl, ⟨_, _, _, _, rfl, rfl, r21, rfl, rfl⟩, rfl, ⟨_, _, _, _, rfl, s38, r22, p41, rfl⟩, rfl, ⟨_, _, _, _, rfl, rfl, r23, p41, rfl⟩, rfl, ⟨_, _, _, _, rfl, s38, .inl ⟨rfl, rfl⟩, rfl, rfl⟩, rfl, ⟨_, _, _, _, rfl, s38, .inl ⟨rfl, rfl⟩, rfl, rfl⟩, rfl, ⟨_, _, _, _, rfl, rfl, r24, rfl, rfl⟩, rfl, ⟨_, _, _, _, rfl, rfl, r25, rfl, rfl⟩, rfl, ⟨_, _, _, _, rfl, rfl, .inl ⟨rfl, rfl⟩, rfl, rfl⟩, rfl, ⟨_, _, _, _, rfl, rfl, .inl ⟨rfl, rfl⟩, rfl, rfl⟩, rfl, ⟨_, _, _, _, rfl, rfl, .inl ⟨rfl, rfl⟩, rfl, rfl⟩, rfl, ⟨_, _, _, _, rfl, rfl, .inl ⟨rfl, rfl⟩, rfl, rfl⟩, rfl, ⟨_, _, _, _, rfl, s38, .inl ⟨rfl, rfl⟩, rfl, rfl⟩, rfl, ⟨_, _, _, _, rfl, s38, r26, rfl, rfl⟩, rfl, ⟨_, _, _, _, rfl, rfl, r27, rfl, rfl⟩, rfl, ⟨_, _, _, _, rfl, s42, r28, rfl, rfl⟩, rfl, ⟨_, _, _, _, rfl, s38, .inl ⟨rfl, rfl⟩, rfl, rfl⟩, rfl, ⟨_, _, _, _, rfl, rfl, r29, rfl, rfl⟩, rfl, ⟨_, _, _, _, rfl, rfl, r6, rfl, rfl⟩, rfl, ⟨_, _, _, _, rfl, rfl, r6, rfl, rfl⟩, rfl, ⟨_, _, _, _, rfl, rfl, r6, rfl, rfl⟩, rfl, ⟨_, _, _, _, rfl, rfl, r6, rfl, rfl⟩, rfl, ⟨_, _, _, _, rfl, rfl, r6, rfl, rfl⟩, rfl, ⟨_, _, _, _, rfl, rfl, r6, rfl, rfl⟩, trivial⟩
theorem Forms.ext {h h' : Hp} {r : Nat} (x : Forms h r) (g : Ext h h') : Forms h' r := by
  obtain ⟨M, cl, h1, h2, h3⟩ := x
  exact ⟨M, cl, (g.get r h2).trans h1, Nat.lt_of_lt_of_le h2 g.n, h3.ext g⟩

end Go.Proofs.YtoejddhaiogonaaDoor

namespace Go.Proofs.YtoejddhaiogonaaDoor
open Go.X

def textOk : Option (ByteArray → Bool) → ByteArray → Bool
  | none, s => s.toList.isEmpty
  | some P, s => P s
def headOk (F : FS) (s : ByteArray) (N : Int) (n : Nat) : Bool := textOk F.text s && decide (F.least ≤ N) && decide (N ≤ F.most) && decide (F.kids.length ≤ n)
def eachOk : List (Int → Bool) → List Int → Bool
  | [], _ => true
  | _ :: _, [] => false
  | P :: l, k :: ks => P k && eachOk l ks
def restOk (F : FS) (r : List Int) : Bool := match F.more with
  | some P => r.all P
  | none => match F.maybe, r with
    | some P, [k] => P k
    | _, [] => true
    | _, _ => false
def fitsF (F : FS) (s : ByteArray) (N : Int) (ks : List Int) : Bool := headOk F s N ks.length && (eachOk F.kids ks && restOk F (ks.drop F.kids.length))
theorem eachOk_iff : ∀ {l : List (Int → Bool)} {ks : List Int}, eachOk l ks = true ↔ l.length ≤ ks.length ∧ ∀ i (h1 : i < l.length) (h2 : i < ks.length), l[i] ks[i] = true
  | [], ks => by simp [eachOk]
  | P :: l, [] => by simp [eachOk]
  | P :: l, k :: ks => by
    simp only [eachOk, Bool.and_eq_true, eachOk_iff (l := l) (ks := ks), List.length_cons]
    constructor
    · rintro ⟨h1, h2, h3⟩
      refine ⟨by omega, fun i h4 h5 => ?_⟩
      cases i with
      | zero => exact h1
      | succ i => exact h3 i (by omega) (by omega)
    rintro ⟨h1, h2⟩
    exact ⟨h2 0 (by omega) (by omega), by omega, fun i h4 h5 => h2 (i + 1) (by omega) (by omega)⟩
theorem OptK.nf {h : Hp} {v : Value} {o : Option (Int → Bool)} (x : OptK h v o) : (v = .nilFunc ∨ ∃ f a b, v = .func f a b) ∧ isNilF v = o.isNone := by
  cases o with
  | none => have e : v = .nilFunc := x; subst e; exact ⟨.inl rfl, rfl⟩
  | some P => obtain ⟨f, cap, rfl, _⟩ := x; exact ⟨.inr ⟨_, _, _, rfl⟩, rfl⟩
theorem OptS.nf {h : Hp} {v : Value} {o : Option (ByteArray → Bool)} (x : OptS h v o) : (v = .nilFunc ∨ ∃ f a b, v = .func f a b) ∧ isNilF v = o.isNone := by
  cases o with
  | none => have e : v = .nilFunc := x; subst e; exact ⟨.inl rfl, rfl⟩
  | some P => obtain ⟨f, cap, rfl, _⟩ := x; exact ⟨.inr ⟨_, _, _, rfl⟩, rfl⟩
theorem el58 : ElN trE 58 27 0 7 := ⟨by kernel_rfl, by kernel_rfl, by kernel_rfl, .int .i64 0, by kernel_rfl, rfl⟩

theorem headOk_not (F : FS) (s : ByteArray) (N : Int) (n : Nat) : headOk F s N n = !(((!(textOk F.text s) || decide (N < F.least)) || decide (F.most < N)) || decide ((n : Int) < (F.kids.length : Nat))) := by
  unfold headOk
  rw [Bool.eq_iff_iff]
  simp
theorem fits_no {F : FS} {s : ByteArray} {N : Int} {ks : List Int} (h : headOk F s N ks.length = false) : fitsF F s N ks = false := by rw [fitsF, h, Bool.false_and]
theorem rest_len {F : FS} {r : List Int} (h1 : F.more = none) (h2 : F.maybe = none ∨ r.length ≠ 1) : restOk F r = decide (r.length = 0) := by
  unfold restOk
  rw [h1]
  rcases h2 with h2 | h2
  · rw [h2]; cases r <;> rfl
  cases hm : F.maybe with
  | none => cases r <;> rfl
  | some P =>
    match r, h2 with
    | [], _ => rfl
    | [k], h => exact absurd rfl h
    | _ :: _ :: _, _ => rfl
theorem rest_more {F : FS} {r : List Int} {P : Int → Bool} (h : F.more = some P) : restOk F r = r.all P := by unfold restOk; rw [h]
theorem rest_one {F : FS} {k : Int} {P : Int → Bool} (h1 : F.more = none) (h2 : F.maybe = some P) : restOk F [k] = P k := by unfold restOk; rw [h1, h2]
theorem not_none {α : Type} {v : Value} {o : Option α} (h : isNilF v = o.isNone) (hb : (!isNilF v) = true) : ∃ P, o = some P := by
  rw [h] at hb
  cases o with
  | none => simp at hb
  | some P => exact ⟨P, rfl⟩
theorem is_none {α : Type} {v : Value} {o : Option α} (h : isNilF v = o.isNone) (hb : (!isNilF v) = false) : o = none := by
  rw [h] at hb
  cases o with
  | none => rfl
  | some P => simp at hb

section
variable {h : Hp} {K N L Co : Int} {s : ByteArray} {ks v ft fm fo kv : Value} {kinds : List Int} {F : FS} {P : Int → Bool} {q : Nat} {bs : List Nat} {a b : Int}

/-- fits$1 -/
theorem c59 (hq : h.get q = some (.cells [ft, iV a, iV b, ks, fm, fo] 62 0)) (p : PrK h fo P) : C trE 59 [iV K, ptrV q] h fun v h' => v = .bool (!P K) ∧ Ext h h' := by
  obtain ⟨f, cap, rfl, hf, hc⟩ := p
  refine c_enter (fu := Tryd.f59) (by kernel_rfl) rfl ?_
  have S := SH.start h
  refine w_seq ?_
  refine w_region (by kernel_rfl) ?_
  refine o_assign gn rfl rfl ?_
  refine wl_end ?_
  refine w_seq ?_
  refine w_region (by kernel_rfl) ?_
  refine o_fieldAddr (off := 5) gn rfl rfl (by kernel_rfl) ?_
  refine o_load gn rfl rfl (by kernel_rfl) (by first | exact S.cel 0 rfl | exact S.cel 1 rfl | exact hq) rfl ?_
  refine o_move gn rfl rfl ?_
  refine o_call [_] gn rfl rfl hf rfl (C.mono (hc _ (.refl _) K) ?_)
  rintro v g ⟨rfl, x⟩
  have S := S.grow x
  refine ⟨ag0, ?_⟩
  refine o_not gn rfl rfl ?_
  refine o_assign gn rfl rfl ?_
  refine wl_end ?_
  refine w_ret ?_
  refine ⟨.inl rfl, _, rfl, ?_⟩
  exact ⟨rfl, S.e0⟩

/-- slices.IndexFunc -/
theorem c76 (R : RowV h v (isV kinds)) (hl : kinds.length < 1000000) (hq : h.get q = some (.cells [ft, iV a, iV b, ks, fm, fo] 62 0)) (lq : q < h.n) (p : PrK h fo P) :
    C trE 76 [v, .func (.func 59) #[] #[ptrV q]] h fun v h' => ∃ r, v = iV r ∧ Ext h h' ∧ (0 ≤ r ↔ kinds.all P = false) := by
  obtain ⟨a, c, rfl⟩ := R.valM
  refine c_enter (fu := Tryd.f76) (by kernel_rfl) rfl ?_
  have S := SH.start h
  refine w_seq ?_
  refine w_region (by kernel_rfl) ?_
  refine o_assign gn rfl rfl ?_
  refine wl_end ?_
  refine w_seq ?_
  refine w_seq ?_
  refine w_region (by kernel_rfl) ?_
  refine o_move gn rfl rfl ?_
  refine o_len gn rfl rfl (by kernel_rfl) ?_
  refine o_move gn rfl rfl ?_
  refine wl_end ?_
  refine w_block ?_
  refine w_loopS [(8, _)] [(0, _), (1, _), (7, _)] (by repeat (first | exact trivial | refine ⟨rfl, ?_⟩)) (fun kk lv hh => ∃ j : Nat, lv = [(8, iV j)] ∧ kk = kinds.length - j ∧ j ≤ kinds.length ∧ SH h [] [] hh ∧ ∀ i (hi : i < kinds.length), i < j → P kinds[i] = true) (n := (kinds.length)) ?_ fun kk lv hh hI => ?_
  · exact ⟨0, rfl, rfl, by omega, S, fun i _ hi => by omega⟩
  obtain ⟨j, rfl, hk, hj, S, hs⟩ := hI
  refine w_seq ?_
  refine w_region (by kernel_rfl) ?_
  refine o_lss gn rfl rfl rfl ?_
  refine wl_end ?_
  refine w_seq ?_
  refine w_cond rfl (fun hb => ?_) fun hb => ?_
  · skip
    refine w_skip ?_
    have hj : j < kinds.length := by simp at hb; omega
    obtain ⟨b, o, c', cs, e, m, hv, hg, hlt, hat⟩ := R.atM (by omega)
    cases hv
    have hc := hat j hj
    refine w_seq ?_
    refine w_block ?_
    refine w_seq ?_
    refine w_region (by kernel_rfl) ?_
    refine o_move gn rfl rfl ?_
    refine o_assign gn rfl rfl ?_
    refine wl_end ?_
    refine w_seq ?_
    refine w_region (by kernel_rfl) ?_
    refine o_move gn rfl rfl ?_
    refine o_move gn rfl rfl ?_
    refine o_move gn rfl rfl ?_
    refine o_indexAddr (zz := 1) gn rfl rfl rfl (by kernel_rfl) (by omega) (by omega) ?_
    refine o_load gn rfl rfl (by kernel_rfl) (S.old0 hg hlt) (by rw [Int.toNat_natCast, Nat.mul_one]; exact hc) ?_
    refine o_call [_] gn rfl rfl (by kernel_rfl) rfl (C.mono (c59 (K := kinds[j]) (S.old0 hq lq) (p.ext S.e0)) ?_)
    rintro v g ⟨rfl, x⟩
    have S := S.grow x
    refine ⟨ag0, ?_⟩
    refine wl_end ?_
    refine w_cond rfl (fun hb => ?_) fun hb => ?_
    · skip
      refine w_seq ?_
      refine w_region (by kernel_rfl) ?_
      refine o_move gn rfl rfl ?_
      refine o_assign gn rfl rfl ?_
      refine wl_end ?_
      refine w_ret ?_
      refine ⟨.inl rfl, _, rfl, ?_⟩
      exact ⟨j, rfl, S.e0, ⟨fun _ => List.all_eq_false.2 ⟨kinds[j], List.getElem_mem hj, by rw [Bool.not_eq_true'] at hb; rw [hb]; simp⟩, fun _ => by omega⟩⟩
    refine w_skip ?_
    refine w_region (by kernel_rfl) ?_
    refine o_add gn rfl rfl rfl (by omega) (by omega) ?_
    refine o_move gn rfl rfl ?_
    refine wl_end ?_
    exact rndS (kinds.length - (j + 1)) (by omega) [(8, _)] (by repeat (first | exact trivial | refine ⟨rfl, ?_⟩)) ⟨j + 1, rfl, rfl, by omega, S, fun i hi h => by
      by_cases e : i = j
      · subst e; rw [Bool.not_eq_false'] at hb; exact hb
      exact hs i hi (by omega)⟩
  refine w_exit ?_
  refine thn_exit ?_
  refine rnd_exit ?_
  refine blk_eq ?_
  refine w_seq ?_
  refine w_region (by kernel_rfl) ?_
  refine o_assign gn rfl rfl ?_
  refine wl_end ?_
  refine w_ret ?_
  refine ⟨.inl rfl, _, rfl, ?_⟩
  exact ⟨-1, rfl, S.e0, ⟨fun h => by omega, fun hm => by
    obtain ⟨w, hw, e⟩ := List.all_eq_false.1 hm
    obtain ⟨i, hi, rfl⟩ := List.mem_iff_getElem.1 hw
    rw [hs i hi (by simp at hb; omega)] at e; simp at e⟩⟩

/-- slices.ContainsFunc -/
theorem c58 (R : RowV h v (isV kinds)) (hl : kinds.length < 1000000) (hq : h.get q = some (.cells [ft, iV a, iV b, ks, fm, fo] 62 0)) (lq : q < h.n) (p : PrK h fo P) :
    C trE 58 [v, .func (.func 59) #[] #[ptrV q]] h fun v h' => v = .bool (!kinds.all P) ∧ Ext h h' := by
  refine c_enter (fu := Tryd.f58) (by kernel_rfl) rfl ?_
  have S := SH.start h
  refine w_seq ?_
  refine w_region (by kernel_rfl) ?_
  refine o_assign gn rfl rfl ?_
  refine wl_end ?_
  refine w_seq ?_
  refine w_region (by kernel_rfl) ?_
  refine o_move gn rfl rfl ?_
  refine o_move gn rfl rfl ?_
  refine o_call [_, _] gn rfl rfl (by kernel_rfl) rfl (C.mono (c76 R hl hq lq p) ?_)
  rintro v g ⟨r, rfl, x, hr⟩
  have S := S.grow x
  refine ⟨ag0, ?_⟩
  refine o_geq gn rfl rfl rfl ?_
  refine o_assign gn rfl rfl ?_
  refine wl_end ?_
  refine w_ret ?_
  refine ⟨.inl rfl, _, rfl, ?_⟩
  exact ⟨by rw [show decide (0 ≤ r) = !kinds.all P from Bool.eq_iff_iff.2 (by rw [decide_eq_true_eq, hr, Bool.not_eq_true'])]; rfl, S.e0⟩

/-- fits -/
theorem c34 (B : Blk h) (hsz : s.toList.length < 9223372036854775000) (x : FormV h v F) (R : SlC 27 0 h kv (isV kinds) kinds.length bs) (hl : kinds.length < 1000000) :
    C trE 34 [v, twV K s N L Co ks, kv] h fun v h' => v = .bool (fitsF F s N kinds) ∧ Ext h h' := by
  obtain ⟨ft, ks', fm, fo, rfl, x1, x2, x3, x4⟩ := x
  obtain ⟨nf1, nn1⟩ := x1.nf
  obtain ⟨nf3, nn3⟩ := x3.nf
  obtain ⟨nf4, nn4⟩ := x4.nf
  obtain ⟨ra, rfl⟩ := x2.val
  obtain ⟨ka, kc, rfl⟩ := R.val
  refine c_enter (fu := Tryd.f34) (by kernel_rfl) rfl ?_
  have S := SH.start h
  refine w_seq ?_
  refine w_region (by kernel_rfl) ?_
  refine s_box S gn rfl rfl fun b1 g nb1 S => ?_
  refine s_box S gn rfl rfl fun b2 g nb2 S => ?_
  refine o_assign gn rfl rfl ?_
  refine wl_end ?_
  refine w_cutS [(2, .slice ka kinds.length kc), (3, ptrV b1)] (fun lv hh => lv = [] ∧ SH h [] [cR b2 (.cells (twC K s N L Co ks) 30 0), cR b1 (.cells [ft, iV F.least, iV F.most, .slice ra F.kids.length F.kids.length, fm, fo] 62 0)] hh ∧ headOk F s N kinds.length = true) ?_ fun lv hh hJ => ?_
  · skip
    refine w_seq ?_
    refine w_region (by kernel_rfl) ?_
    refine o_fieldAddr (off := 0) gn rfl rfl (by kernel_rfl) ?_
    refine o_load gn rfl rfl (by kernel_rfl) (by exact S.cel 1 rfl) rfl ?_
    refine o_eqfN gn rfl rfl rfl (by kernel_rfl) nf1 ?_
    refine o_move gn rfl rfl ?_
    refine o_and (n := 3) rfl rfl rfl gn rfl (fun hb => by
        refine o_fieldAddr (off := 1) (gy rfl rfl rfl hb) rfl rfl (by kernel_rfl) ?_
        refine o_load (gy rfl rfl rfl hb) rfl rfl (by kernel_rfl) (by exact S.cel 0 rfl) rfl ?_
        refine o_neS (gy rfl rfl rfl hb) rfl rfl rfl ?_
        exact wl_end ⟨rfl, rfl, 3, rfl, rfl⟩) ?_
    refine o_move gn rfl rfl ?_
    refine wl_split (dc := 18) rfl (fun hb18 => ?_) fun hb18 => ?_
    · skip
      refine wl_skips (n := 11) (dc := 18) (w := false) rfl hb18 rfl ?_
      refine o_pickt gn rfl rfl hb18 rfl ?_
      refine o_move gn rfl rfl ?_
      refine o_or (n := 5) rfl rfl rfl gn rfl (fun hb => by
          refine o_fieldAddr (off := 2) (gy rfl rfl rfl hb) rfl rfl (by kernel_rfl) ?_
          refine o_load (gy rfl rfl rfl hb) rfl rfl (by kernel_rfl) (by exact S.cel 0 rfl) rfl ?_
          refine o_fieldAddr (off := 1) (gy rfl rfl rfl hb) rfl rfl (by kernel_rfl) ?_
          refine o_load (gy rfl rfl rfl hb) rfl rfl (by kernel_rfl) (by exact S.cel 1 rfl) rfl ?_
          refine o_lss (gy rfl rfl rfl hb) rfl rfl rfl ?_
          exact wl_end ⟨rfl, rfl, 5, rfl, rfl⟩) ?_
      refine o_move gn rfl rfl ?_
      refine o_or (n := 5) rfl rfl rfl gn rfl (fun hb => by
          refine o_fieldAddr (off := 2) (gy rfl rfl rfl hb) rfl rfl (by kernel_rfl) ?_
          refine o_load (gy rfl rfl rfl hb) rfl rfl (by kernel_rfl) (by exact S.cel 0 rfl) rfl ?_
          refine o_fieldAddr (off := 2) (gy rfl rfl rfl hb) rfl rfl (by kernel_rfl) ?_
          refine o_load (gy rfl rfl rfl hb) rfl rfl (by kernel_rfl) (by exact S.cel 1 rfl) rfl ?_
          refine o_gtr (gy rfl rfl rfl hb) rfl rfl rfl ?_
          exact wl_end ⟨rfl, rfl, 5, rfl, rfl⟩) ?_
      refine o_move gn rfl rfl ?_
      refine o_or (n := 6) rfl rfl rfl gn rfl (fun hb => by
          refine o_move (gy rfl rfl rfl hb) rfl rfl ?_
          refine o_len (gy rfl rfl rfl hb) rfl rfl (by kernel_rfl) ?_
          refine o_fieldAddr (off := 3) (gy rfl rfl rfl hb) rfl rfl (by kernel_rfl) ?_
          refine o_load (gy rfl rfl rfl hb) rfl rfl (by kernel_rfl) (by exact S.cel 1 rfl) rfl ?_
          refine o_len (gy rfl rfl rfl hb) rfl rfl (by kernel_rfl) ?_
          refine o_lss (gy rfl rfl rfl hb) rfl rfl rfl ?_
          exact wl_end ⟨rfl, rfl, 6, rfl, rfl⟩) ?_
      refine wl_end ?_
      refine w_cond rfl (fun hb => ?_) fun hb => ?_
      · skip
        refine w_seq ?_
        refine w_region (by kernel_rfl) ?_
        refine o_assign gn rfl rfl ?_
        refine wl_end ?_
        refine w_ret ?_
        refine ⟨.inl rfl, _, rfl, ?_⟩
        exact ⟨by
          rw [fits_no]; rfl
          rw [Bool.and_eq_true, nn1] at hb18
          rw [headOk_not]
          have : F.text = none := by cases hx : F.text <;> simp_all
          have h2 : textOk F.text s = false := by
            rw [this]; have := hb18.2; rw [eqS_empty, Bool.not_eq_true'] at this; exact this
          rw [h2]; simp, S.e0⟩
      exact absurd hb (by simp)
    refine o_fieldAddr (off := 0) (gy rfl rfl rfl hb18) rfl rfl (by kernel_rfl) ?_
    refine o_load (gy rfl rfl rfl hb18) rfl rfl (by kernel_rfl) (by exact S.cel 1 rfl) rfl ?_
    refine o_nefN (gy rfl rfl rfl hb18) rfl rfl rfl (by kernel_rfl) nf1 ?_
    refine o_move (gy rfl rfl rfl hb18) rfl rfl ?_
    have hnn := nn1
    refine wl_split (dc := 22) rfl (fun hb22 => ?_) fun hb22 => ?_
    skip
    · skip
      obtain ⟨P0, hP⟩ := not_none nn1 hb22
      rw [hP] at x1
      obtain ⟨f, cap, hft, hf, hc⟩ := x1
      subst hft
      refine o_fieldAddr (off := 0) (gy rfl rfl rfl hb22) rfl rfl (by kernel_rfl) ?_
      refine o_load (gy rfl rfl rfl hb22) rfl rfl (by kernel_rfl) (by exact S.cel 1 rfl) rfl ?_
      refine o_fieldAddr (off := 1) (gy rfl rfl rfl hb22) rfl rfl (by kernel_rfl) ?_
      refine o_load (gy rfl rfl rfl hb22) rfl rfl (by kernel_rfl) (by exact S.cel 0 rfl) rfl ?_
      refine o_call [_] (gy rfl rfl rfl hb22) rfl rfl hf rfl (C.mono (hc _ S.e0 (B.ext S.e0) s hsz) ?_)
      rintro v g ⟨rfl, x⟩
      have S := S.grow x
      refine ⟨ag0, ?_⟩
      refine o_not (gy rfl rfl rfl hb22) rfl rfl ?_
      refine o_pickt (gy rfl rfl rfl hb18) rfl rfl hb22 rfl ?_
      refine o_pickf gn rfl rfl hb18 rfl ?_
      refine o_move gn rfl rfl ?_
      refine o_or (n := 5) rfl rfl rfl gn rfl (fun hb => by
          refine o_fieldAddr (off := 2) (gy rfl rfl rfl hb) rfl rfl (by kernel_rfl) ?_
          refine o_load (gy rfl rfl rfl hb) rfl rfl (by kernel_rfl) (by exact S.cel 0 rfl) rfl ?_
          refine o_fieldAddr (off := 1) (gy rfl rfl rfl hb) rfl rfl (by kernel_rfl) ?_
          refine o_load (gy rfl rfl rfl hb) rfl rfl (by kernel_rfl) (by exact S.cel 1 rfl) rfl ?_
          refine o_lss (gy rfl rfl rfl hb) rfl rfl rfl ?_
          exact wl_end ⟨rfl, rfl, 5, rfl, rfl⟩) ?_
      refine o_move gn rfl rfl ?_
      refine o_or (n := 5) rfl rfl rfl gn rfl (fun hb => by
          refine o_fieldAddr (off := 2) (gy rfl rfl rfl hb) rfl rfl (by kernel_rfl) ?_
          refine o_load (gy rfl rfl rfl hb) rfl rfl (by kernel_rfl) (by exact S.cel 0 rfl) rfl ?_
          refine o_fieldAddr (off := 2) (gy rfl rfl rfl hb) rfl rfl (by kernel_rfl) ?_
          refine o_load (gy rfl rfl rfl hb) rfl rfl (by kernel_rfl) (by exact S.cel 1 rfl) rfl ?_
          refine o_gtr (gy rfl rfl rfl hb) rfl rfl rfl ?_
          exact wl_end ⟨rfl, rfl, 5, rfl, rfl⟩) ?_
      refine o_move gn rfl rfl ?_
      refine o_or (n := 6) rfl rfl rfl gn rfl (fun hb => by
          refine o_move (gy rfl rfl rfl hb) rfl rfl ?_
          refine o_len (gy rfl rfl rfl hb) rfl rfl (by kernel_rfl) ?_
          refine o_fieldAddr (off := 3) (gy rfl rfl rfl hb) rfl rfl (by kernel_rfl) ?_
          refine o_load (gy rfl rfl rfl hb) rfl rfl (by kernel_rfl) (by exact S.cel 1 rfl) rfl ?_
          refine o_len (gy rfl rfl rfl hb) rfl rfl (by kernel_rfl) ?_
          refine o_lss (gy rfl rfl rfl hb) rfl rfl rfl ?_
          exact wl_end ⟨rfl, rfl, 6, rfl, rfl⟩) ?_
      refine wl_end ?_
      refine w_cond rfl (fun hb => ?_) fun hb => ?_
      · skip
        refine w_seq ?_
        refine w_region (by kernel_rfl) ?_
        refine o_assign gn rfl rfl ?_
        refine wl_end ?_
        refine w_ret ?_
        refine ⟨.inl rfl, _, rfl, ?_⟩
        exact ⟨by
          rw [fits_no]; rfl
          rw [headOk_not, hP]
          have e : textOk (some P0) s = P0 s := rfl
          rw [e, hb]; rfl, S.e0⟩
      refine w_skip ?_
      exact cutS [] (by repeat (first | exact trivial | refine ⟨rfl, ?_⟩)) ⟨rfl, S, by
        rw [headOk_not, hP]
        have e : textOk (some P0) s = P0 s := rfl
        rw [e, hb]; rfl⟩
    have hP := is_none nn1 hb22
    have ht : textOk F.text s = true := by
      rw [hP]; rw [nn1, hP] at hb18; rw [eqS_empty] at hb18
      show s.toList.isEmpty = true
      revert hb18; cases s.toList.isEmpty <;> simp
    refine wl_skips (n := 6) (dc := 22) (w := true) rfl hb22 rfl ?_
    refine o_pickf (gy rfl rfl rfl hb18) rfl rfl hb22 rfl ?_
    refine o_pickf gn rfl rfl hb18 rfl ?_
    refine o_move gn rfl rfl ?_
    refine o_or (n := 5) rfl rfl rfl gn rfl (fun hb => by
        refine o_fieldAddr (off := 2) (gy rfl rfl rfl hb) rfl rfl (by kernel_rfl) ?_
        refine o_load (gy rfl rfl rfl hb) rfl rfl (by kernel_rfl) (by exact S.cel 0 rfl) rfl ?_
        refine o_fieldAddr (off := 1) (gy rfl rfl rfl hb) rfl rfl (by kernel_rfl) ?_
        refine o_load (gy rfl rfl rfl hb) rfl rfl (by kernel_rfl) (by exact S.cel 1 rfl) rfl ?_
        refine o_lss (gy rfl rfl rfl hb) rfl rfl rfl ?_
        exact wl_end ⟨rfl, rfl, 5, rfl, rfl⟩) ?_
    refine o_move gn rfl rfl ?_
    refine o_or (n := 5) rfl rfl rfl gn rfl (fun hb => by
        refine o_fieldAddr (off := 2) (gy rfl rfl rfl hb) rfl rfl (by kernel_rfl) ?_
        refine o_load (gy rfl rfl rfl hb) rfl rfl (by kernel_rfl) (by exact S.cel 0 rfl) rfl ?_
        refine o_fieldAddr (off := 2) (gy rfl rfl rfl hb) rfl rfl (by kernel_rfl) ?_
        refine o_load (gy rfl rfl rfl hb) rfl rfl (by kernel_rfl) (by exact S.cel 1 rfl) rfl ?_
        refine o_gtr (gy rfl rfl rfl hb) rfl rfl rfl ?_
        exact wl_end ⟨rfl, rfl, 5, rfl, rfl⟩) ?_
    refine o_move gn rfl rfl ?_
    refine o_or (n := 6) rfl rfl rfl gn rfl (fun hb => by
        refine o_move (gy rfl rfl rfl hb) rfl rfl ?_
        refine o_len (gy rfl rfl rfl hb) rfl rfl (by kernel_rfl) ?_
        refine o_fieldAddr (off := 3) (gy rfl rfl rfl hb) rfl rfl (by kernel_rfl) ?_
        refine o_load (gy rfl rfl rfl hb) rfl rfl (by kernel_rfl) (by exact S.cel 1 rfl) rfl ?_
        refine o_len (gy rfl rfl rfl hb) rfl rfl (by kernel_rfl) ?_
        refine o_lss (gy rfl rfl rfl hb) rfl rfl rfl ?_
        exact wl_end ⟨rfl, rfl, 6, rfl, rfl⟩) ?_
    refine wl_end ?_
    refine w_cond rfl (fun hb => ?_) fun hb => ?_
    · skip
      refine w_seq ?_
      refine w_region (by kernel_rfl) ?_
      refine o_assign gn rfl rfl ?_
      refine wl_end ?_
      refine w_ret ?_
      refine ⟨.inl rfl, _, rfl, ?_⟩
      exact ⟨by
        rw [fits_no]; rfl
        rw [headOk_not, ht]
        have e : (!true) = false := rfl
        rw [e, hb]; rfl, S.e0⟩
    refine w_skip ?_
    exact cutS [] (by repeat (first | exact trivial | refine ⟨rfl, ?_⟩)) ⟨rfl, S, by
      rw [headOk_not, ht]
      have e : (!true) = false := rfl
      rw [e, hb]; rfl⟩
  obtain ⟨rfl, S, hd⟩ := hJ
  have hkl : F.kids.length ≤ kinds.length := by
    unfold headOk at hd
    simp only [Bool.and_eq_true, decide_eq_true_eq] at hd
    exact hd.2
  refine w_seq ?_
  refine w_seq ?_
  refine w_region (by kernel_rfl) ?_
  refine o_fieldAddr (off := 3) gn rfl rfl (by kernel_rfl) ?_
  refine o_load gn rfl rfl (by kernel_rfl) (by exact S.cel 1 rfl) rfl ?_
  refine o_len gn rfl rfl (by kernel_rfl) ?_
  refine o_move gn rfl rfl ?_
  refine wl_end ?_
  refine w_block ?_
  refine w_loopS [(56, _)] [(2, _), (3, _), (54, _), (55, _)] (by repeat (first | exact trivial | refine ⟨rfl, ?_⟩)) (fun kk lv hh => ∃ i : Nat, lv = [(56, iV i)] ∧ kk = F.kids.length - i ∧ i ≤ F.kids.length ∧ SH h [] [cR b2 (.cells (twC K s N L Co ks) 30 0), cR b1 (.cells [ft, iV F.least, iV F.most, .slice ra F.kids.length F.kids.length, fm, fo] 62 0)] hh ∧ ∀ p (h1 : p < F.kids.length) (h2 : p < kinds.length), p < i → F.kids[p] kinds[p] = true) (n := (F.kids.length)) ?_ fun kk lv hh hI => ?_
  · exact ⟨0, rfl, rfl, by omega, S, fun p h1 h2 hp => by omega⟩
  obtain ⟨i, rfl, hk, hi, S, hs⟩ := hI
  refine w_seq ?_
  refine w_region (by kernel_rfl) ?_
  refine o_lss gn rfl rfl rfl ?_
  refine wl_end ?_
  refine w_seq ?_
  refine w_cond rfl (fun hb => ?_) fun hb => ?_
  · skip
    refine w_skip ?_
    have hi : i < F.kids.length := by simp at hb; omega
    obtain ⟨rb, re, rm, rcs, hv, hg, hlt, hat⟩ := x2.at (by omega)
    cases hv
    obtain ⟨u, hu, pu⟩ := hat i hi
    obtain ⟨f, cap, hfu, hf, hc⟩ := pu
    subst hfu
    obtain ⟨kb, ko, kc', kcs, ke, km, hv2, hg2, hlt2, hat2⟩ := R.row.atM (by omega)
    cases hv2
    refine w_seq ?_
    refine w_block ?_
    refine w_seq ?_
    refine w_region (by kernel_rfl) ?_
    refine o_move gn rfl rfl ?_
    refine o_indexAddr (zz := 1) gn rfl rfl rfl (by kernel_rfl) (by omega) (by omega) ?_
    refine o_load gn rfl rfl (by kernel_rfl) (S.old0 hg hlt) (by rw [Int.toNat_natCast, Nat.mul_one, Nat.zero_add]; exact hu) ?_
    refine o_assign gn rfl rfl ?_
    refine o_assign gn rfl rfl ?_
    refine wl_end ?_
    refine w_seq ?_
    refine w_region (by kernel_rfl) ?_
    refine o_move gn rfl rfl ?_
    refine o_move gn rfl rfl ?_
    refine o_move gn rfl rfl ?_
    refine o_indexAddr (zz := 1) gn rfl rfl rfl (by kernel_rfl) (by omega) (by omega) ?_
    refine o_load gn rfl rfl (by kernel_rfl) (S.old0 hg2 hlt2) (by rw [Int.toNat_natCast, Nat.mul_one]; exact hat2 i (by omega)) ?_
    refine o_call [_] gn rfl rfl hf rfl (C.mono (hc _ S.e0 _) ?_)
    rintro v g ⟨rfl, x⟩
    have S := S.grow x
    refine ⟨ag0, ?_⟩
    refine o_not gn rfl rfl ?_
    refine wl_end ?_
    refine w_cond rfl (fun hb => ?_) fun hb => ?_
    · skip
      refine w_seq ?_
      refine w_region (by kernel_rfl) ?_
      refine o_assign gn rfl rfl ?_
      refine wl_end ?_
      refine w_ret ?_
      refine ⟨.inl rfl, _, rfl, ?_⟩
      exact ⟨by
        rw [show fitsF F s N kinds = false from ?_]; rfl
        have : eachOk F.kids kinds = false := by
          cases he : eachOk F.kids kinds with
          | false => rfl
          | true => rw [(eachOk_iff.1 he).2 i hi (by omega)] at hb; simp at hb
        rw [fitsF, this]; simp, S.e0⟩
    refine w_skip ?_
    refine w_region (by kernel_rfl) ?_
    refine o_add gn rfl rfl rfl (by omega) (by omega) ?_
    refine o_move gn rfl rfl ?_
    refine wl_end ?_
    exact rndS (F.kids.length - (i + 1)) (by omega) [(56, _)] (by repeat (first | exact trivial | refine ⟨rfl, ?_⟩)) ⟨i + 1, rfl, rfl, by omega, S, fun p h1 h2 hp => by
      by_cases e : p = i
      · subst e; rw [Bool.not_eq_false'] at hb; exact hb
      exact hs p h1 h2 (by omega)⟩
  refine w_exit ?_
  refine thn_exit ?_
  refine rnd_exit ?_
  refine blk_eq ?_
  refine w_seq ?_
  have hii : i = F.kids.length := by simp at hb; omega
  subst hii
  have hea : eachOk F.kids kinds = true := eachOk_iff.2 ⟨hkl, fun p h1 h2 => hs p h1 h2 h1⟩
  have hfit : fitsF F s N kinds = restOk F (kinds.drop F.kids.length) := by rw [fitsF, hd, hea, Bool.true_and, Bool.true_and]
  obtain ⟨rv, hrv, hrow⟩ := sliceF_C el58 (R.ext S.e0) hkl
  rw [← List.map_drop] at hrow
  generalize hrr : kinds.drop F.kids.length = rr at hrow hfit
  have hrl : rr.length < 1000000 := by rw [← hrr, List.length_drop]; omega
  obtain ⟨qa, qc, rfl⟩ := hrow.valM
  refine w_region (by kernel_rfl) ?_
  refine o_move gn rfl rfl ?_
  refine o_fieldAddr (off := 3) gn rfl rfl (by kernel_rfl) ?_
  refine o_load gn rfl rfl (by kernel_rfl) (by exact S.cel 1 rfl) rfl ?_
  refine o_len gn rfl rfl (by kernel_rfl) ?_
  refine o_sliceF gn rfl rfl rfl hrv ?_
  refine o_assign gn rfl rfl ?_
  refine wl_end ?_
  refine w_seq ?_
  refine w_block ?_
  refine w_seq ?_
  refine w_region (by kernel_rfl) ?_
  refine o_fieldAddr (off := 5) gn rfl rfl (by kernel_rfl) ?_
  refine o_load gn rfl rfl (by kernel_rfl) (by exact S.cel 1 rfl) rfl ?_
  refine o_nefN gn rfl rfl rfl (by kernel_rfl) nf4 ?_
  refine o_assign gn rfl rfl ?_
  refine wl_end ?_
  refine w_cond rfl (fun hb => ?_) fun hb => ?_
  · skip
    refine w_seq ?_
    obtain ⟨P0, hP⟩ := not_none nn4 hb
    rw [hP] at x4
    refine w_region (by kernel_rfl) ?_
    refine o_move gn rfl rfl ?_
    refine o_makeFunc1 gn rfl rfl ?_
    refine o_call [_, _] gn rfl rfl (by kernel_rfl) rfl (C.mono (c58 hrow hrl (S.cel 1 rfl) (S.lt1 1 rfl) (PrK.ext x4 S.e0)) ?_)
    rintro v g ⟨rfl, x⟩
    have S := S.grow x
    refine ⟨ag0, ?_⟩
    refine o_not gn rfl rfl ?_
    refine o_assign gn rfl rfl ?_
    refine wl_end ?_
    refine w_ret ?_
    refine ⟨.inl rfl, _, rfl, ?_⟩
    exact ⟨by rw [hfit, rest_more hP, Bool.not_not]; rfl, S.e0⟩
  refine w_seq ?_
  have hmo := is_none nn4 hb
  refine w_region (by kernel_rfl) ?_
  refine o_fieldAddr (off := 4) gn rfl rfl (by kernel_rfl) ?_
  refine o_load gn rfl rfl (by kernel_rfl) (by exact S.cel 1 rfl) rfl ?_
  refine o_nefN gn rfl rfl rfl (by kernel_rfl) nf3 ?_
  refine o_move gn rfl rfl ?_
  refine o_and (n := 3) rfl rfl rfl gn rfl (fun hb => by
      refine o_move (gy rfl rfl rfl hb) rfl rfl ?_
      refine o_len (gy rfl rfl rfl hb) rfl rfl (by kernel_rfl) ?_
      refine o_eqi (gy rfl rfl rfl hb) rfl rfl rfl ?_
      exact wl_end ⟨rfl, rfl, 3, rfl, rfl⟩) ?_
  refine o_assign gn rfl rfl ?_
  refine wl_end ?_
  refine w_cond rfl (fun hb => ?_) fun hb => ?_
  · skip
    refine w_seq ?_
    rw [Bool.and_eq_true, decide_eq_true_eq] at hb
    obtain ⟨P0, hP⟩ := not_none nn3 hb.1
    rw [hP] at x3
    obtain ⟨f, cap, hfu, hf, hc⟩ := x3
    subst hfu
    obtain ⟨k1, rfl⟩ : ∃ k, rr = [k] := by
      match rr, hb.2 with
      | [k], _ => exact ⟨k, rfl⟩
      | [], h => simp at h
      | _ :: _ :: _, h => simp at h; omega
    obtain ⟨kb, ko, kc', kcs, ke, km, hv2, hg2, hlt2, hat2⟩ := hrow.atM (by simp)
    cases hv2
    refine w_draw [(0, []), (1, []), (2, []), (3, []), (4, []), (5, []), (6, [])] (by kernel_rfl) (by kernel_rfl) (by kernel_rfl) (by kernel_rfl) ?_
    refine o_fieldAddr (off := 4) gn rfl rfl (by kernel_rfl) ?_
    refine o_load gn rfl rfl (by kernel_rfl) (by exact S.cel 1 rfl) rfl ?_
    refine o_move gn rfl rfl ?_
    refine o_indexAddr (zz := 1) gn rfl rfl rfl (by kernel_rfl) (by omega) (by omega) ?_
    refine o_load gn rfl rfl (by kernel_rfl) hg2 (hat2 0 (by simp)) ?_
    refine o_call [_] gn rfl rfl hf rfl (C.mono (hc _ S.e0 _) ?_)
    rintro v g ⟨rfl, x⟩
    have S := S.grow x
    refine ⟨ag0, ?_⟩
    refine o_assign gn rfl rfl ?_
    refine wl_end ?_
    refine w_ret ?_
    refine ⟨.inl rfl, _, rfl, ?_⟩
    exact ⟨by rw [hfit, rest_one hmo hP]; rfl, S.e0⟩
  refine w_skip ?_
  refine w_seq ?_
  refine w_region (by kernel_rfl) ?_
  refine o_move gn rfl rfl ?_
  refine o_len gn rfl rfl (by kernel_rfl) ?_
  refine o_eqi gn rfl rfl rfl ?_
  refine o_assign gn rfl rfl ?_
  refine wl_end ?_
  refine w_ret ?_
  refine ⟨.inl rfl, _, rfl, ?_⟩
  exact ⟨by
    have h2 : F.maybe = none ∨ rr.length ≠ 1 := by
      rcases Bool.and_eq_false_iff.1 hb with e | e
      · exact .inl (is_none nn3 e)
      exact .inr (by simp at e; omega)
    rw [hfit, rest_len hmo h2, show decide (rr.length = 0) = decide ((rr.length : Int) = 0) from decide_eq_decide.2 (by omega)]; rfl, S.e0⟩

end
end Go.Proofs.YtoejddhaiogonaaDoor

