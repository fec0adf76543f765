/- Chapter 2: declarations printed. Conditions: the text stays short. Chapter 2: a twig printed, of what its kids come to. Conditions: the text stays short. Chapter 2: all twigs printed. Conditions: the tree may be; the text stays short. Chapter 2: what a builder comes to as a text. Conditions: the text stays short. Chapter 2: Print. Conditions: the tables; the text stays short. Chapter 2: what each twig of a tree that may be has (plain). Conditions: none. Chapter 2: how long a text is (plain). Conditions: the tree may be; texts of at most 100 bytes. Chapter 2: a tree's text is short (plain). Conditions: the tree may be; at most 1000 twigs, texts of at most 100 bytes. Chapter 2: the library's table of powers of ten, as X has it. Conditions: none. Chapter 2: the nested trees of the law of nests, and which of them may be (plain). Conditions: none. Chapter 2: a row of twigs that is built, and what adds one to it. Conditions: at most 1000 twigs. Chapter 2: the law of nests. Conditions: the tables. -/
import Derived.Test.YtoejddhaiogonaaDoorLc
import Derived.Lib.ItoaLen
namespace Go.Proofs.YtoejddhaiogonaaDoor
open Go.X

def lifeWord (N : Int) : ByteArray := if N = 0 then ⟨#[99, 114, 101, 97, 116, 101]⟩ else if N = 1 then ⟨#[115, 116, 97, 114, 116]⟩ else if N = 2 then ⟨#[115, 116, 111, 112]⟩ else ⟨#[100, 101, 115, 116, 114, 111, 121]⟩
def eventWord (N : Int) : ByteArray := if N = 0 then ⟨#[32, 111, 102, 102]⟩ else ⟨#[32, 111, 110]⟩
theorem life_at {N : Int} (h0 : 0 ≤ N) (h1 : N ≤ 3) : ((([⟨#[99, 114, 101, 97, 116, 101]⟩, ⟨#[115, 116, 97, 114, 116]⟩, ⟨#[115, 116, 111, 112]⟩, ⟨#[100, 101, 115, 116, 114, 111, 121]⟩] : List ByteArray).map Value.string).toArray).toList[0 + N.toNat * 1]? = some (.string (lifeWord N)) := by
  rcases (show N = 0 ∨ N = 1 ∨ N = 2 ∨ N = 3 by omega) with rfl | rfl | rfl | rfl <;> rfl
theorem event_at {N : Int} (h : N = 0 ∨ N = 1) : ((([⟨#[32, 111, 102, 102]⟩, ⟨#[32, 111, 110]⟩] : List ByteArray).map Value.string).toArray).toList[0 + N.toNat * 1]? = some (.string (eventWord N)) := by
  rcases h with rfl | rfl <;> rfl
theorem add_ok {a b : ByteArray} (ha : a.size ≤ 1000) (hb : b.size ≤ 1000000) : a.size + b.size < 9223372036854775808 := by omega
theorem add_ok2 {a b c : ByteArray} (ha : a.size ≤ 1000) (hb : b.size ≤ 1000000) (hc : c.size ≤ 1000) : (a ++ b).size + c.size < 9223372036854775808 := by rw [ByteArray.size_append]; omega
/-- A part of a row, the same from now on. -/
theorem slice_now {h : Hp} {v : Value} {xs : List Value} {n j : Nat} {bk : List Nat} (x : SlC 3 0 h v xs n bk) (hj : j ≤ n) : ∃ v', RowV h v' (xs.drop j) ∧ ∀ g, Ext h g → sliceX trE g 28 v (some (.int .i64 (j : Nat))) none none = some v' := by
  obtain ⟨v', h1, h2⟩ := sliceF_C el28 x hj
  refine ⟨v', h2, fun g hg => (sliceX_same (te := 3) (by kernel_rfl) ?_).trans h1⟩
  rcases x with ⟨rfl, _⟩ | ⟨b, m, c, rest, rfl, hb, hm, hlt, _⟩
  · exact .inl rfl
  · exact .inr ⟨b, n, c, rfl, hg.get b hlt⟩
section
variable (rec : Nat → ByteArray → List UInt8) (T : List Tw) (w : Tw) (ind : ByteArray)
def declT : List UInt8 :=
  if w.K = 2 then catL [⟨#[108, 111, 111, 112, 101, 114, 32]⟩, w.s, ⟨#[59]⟩] else
  if w.K = 3 then rowT rec T w ind (⟨#[99, 108, 97, 115, 115, 32]⟩ ++ w.s ++ ⟨#[32, 123]⟩) 0 ++ catL [⟨#[32, 125]⟩] else
  if w.K = 4 then rowT rec T w ind w.s 0 ++ catL [⟨#[59]⟩] else
  if w.K = 5 then catL [w.s] else
  if w.K = 6 then rowT rec T w ind (⟨#[118, 97, 114, 32]⟩ ++ w.s) 0 ++ catL [⟨#[59]⟩] else
  if w.K = 7 then rowT rec T w ind (⟨#[102, 110, 32]⟩ ++ w.s) 0 else
  if w.K = 8 then catL [⟨#[99, 111, 109, 112, 32]⟩, w.s, ⟨#[32, 111, 110, 32]⟩] ++ kidT rec T w ind 0 ++ catL [⟨#[32]⟩] ++ bracesT rec ind (w.kids.drop 1) else
  if w.K = 9 then rowT rec T w ind (lifeWord w.N) 0 else
  if w.K = 10 then catL [⟨#[101, 118, 101, 110, 116, 32]⟩, w.s, ⟨#[32, 111, 110, 32]⟩] ++ kidT rec T w ind 0 ++ rowT rec T w ind (eventWord w.N) 1 else
  if w.K = 11 then rowT rec T w ind ⟨#[109, 97, 105, 110]⟩ 0 else
  []
end

section
variable {h0 hE : Hp} {pb : Nat} {sv : Value} {l : List UInt8} {ind : ByteArray} {bs : List Nat} {T : List Tw} {w : Tw} {rec : Nat → ByteArray → List UInt8} {lo : Nat}

set_option maxRecDepth 100000 in
/-- declaration -/
theorem c51 (S0 : SH h0 [] [prR pb sv l ind bs] hE) (X : TreeAt h0 sv T) (hC : TwC h0 sv T rec lo) (hK : KidsOk T w lo) (hS : ∃ bk, SlC 3 0 h0 w.ks (isV w.kids) w.kids.length bk) (hA1 : w.K = 8 ∨ w.K = 10 → 1 ≤ w.kids.length)
    (hN1 : w.K = 9 → 0 ≤ w.N ∧ w.N ≤ 3) (hN2 : w.K = 10 → w.N = 0 ∨ w.N = 1) (hs : w.s.size ≤ 1000000) (hn : l.length + (declT rec T w ind).length ≤ 1099511627776) :
    C trE 51 [.pointer (some ⟨pb, 0, none⟩), w.val] hE fun _ g' => ∃ bs', SH hE (pb :: bs) [prR pb sv (l ++ declT rec T w ind) ind bs'] g' := by
  obtain ⟨K, s, N, L, Co, ks, kids⟩ := w
  have hR2 : RowV h0 ks (isV kids) := by obtain ⟨bk, h⟩ := hS; exact h.row
  simp only at hA1 hN1 hN2 hs
  have hS2 := hS
  have hcv := RowV.cellV hR2
  have hsame := RowV.same hR2
  have hkl := hK.1
  simp only at hkl
  refine c_enter (fu := Tryd.f51) (by kernel_rfl) rfl ?_
  have S := S0.enter
  refine w_seq ?_
  refine w_region (by kernel_rfl) ?_
  refine s_box S gn rfl rfl fun b1 g nb1 S => ?_
  refine wl_end ?_
  refine w_seq ?_
  refine w_region (by kernel_rfl) ?_
  refine o_fieldAddr (off := 0) gn rfl rfl (by kernel_rfl) ?_
  refine o_load gn rfl rfl (by kernel_rfl) (by first | exact S.cel 0 rfl | exact S.cel 1 rfl | exact S.cel 2 rfl | exact S.cel 3 rfl) rfl ?_
  refine wl_end ?_
  refine w_block ?_
  refine w_seq ?_
  refine w_region (by kernel_rfl) ?_
  refine o_eqi gn rfl rfl rfl ?_
  refine o_assign gn rfl rfl ?_
  refine wl_end ?_
  refine w_cond rfl (fun hb => ?_) fun hb => ?_
  · skip
    have hK0 : K = 2 := by simpa using hb
    subst hK0
    rw [show declT rec T ⟨2, s, N, L, Co, ks, kids⟩ ind = catL [⟨#[108, 111, 111, 112, 101, 114, 32]⟩, s, ⟨#[59]⟩] from rfl] at hn ⊢
    first | simp only [List.length_append] at hn | skip
    refine w_region (by kernel_rfl) ?_
    refine o_move gn rfl rfl ?_
    refine o_fieldAddr (off := 1) gn rfl rfl (by kernel_rfl) ?_
    refine o_load gn rfl rfl (by kernel_rfl) (by first | exact S.cel 0 rfl | exact S.cel 1 rfl | exact S.cel 2 rfl | exact S.cel 3 rfl) rfl ?_
    refine s_buildSlice (cs := (([⟨#[108, 111, 111, 112, 101, 114, 32]⟩, s, ⟨#[59]⟩] : List ByteArray).map Value.string).toArray) (e := 9) (z := 0) (zv := .string .empty) [(0, _), (1, _), (2, _)] S gn rfl (by kernel_rfl) (by kernel_rfl) (by kernel_rfl) (by kernel_rfl) rfl (by kernel_rfl) fun b2 g nb2 S => ?_
    refine o_call [_, _] gn rfl rfl (by kernel_rfl) rfl (C.mono (c47 (S0.sub1 S0.own0 S 2 rfl) (S.wrow 0 2 rfl rfl (by decide) [⟨#[108, 111, 111, 112, 101, 114, 32]⟩, s, ⟨#[59]⟩] rfl) (by first | omega | (simp only [List.length_append]; omega)) (by simp)) ?_)
    rintro v g ⟨bs', S2⟩
    have S := S.ret 2 rfl S2
    refine ⟨ag0, ?_⟩
    refine wl_end ?_
    refine ⟨.inr rfl, _, rfl, ?_⟩
    exact ⟨bs', by first | exact S.pick 2 rfl | (simp only [← List.append_assoc] at S ⊢; exact S.pick 2 rfl)⟩
  · skip
    refine w_seq ?_
    refine w_region (by kernel_rfl) ?_
    refine o_eqi gn rfl rfl rfl ?_
    refine o_assign gn rfl rfl ?_
    refine wl_end ?_
    refine w_cond rfl (fun hb => ?_) fun hb => ?_
    · skip
      refine w_seq ?_
      have hK0 : K = 3 := by simpa using hb
      subst hK0
      rw [show declT rec T ⟨3, s, N, L, Co, ks, kids⟩ ind = rowT rec T ⟨3, s, N, L, Co, ks, kids⟩ ind (⟨#[99, 108, 97, 115, 115, 32]⟩ ++ s ++ ⟨#[32, 123]⟩) 0 ++ catL [⟨#[32, 125]⟩] from rfl] at hn ⊢
      first | simp only [List.length_append] at hn | skip
      refine w_region (by kernel_rfl) ?_
      refine o_move gn rfl rfl ?_
      refine o_loadA (n := 6) gn rfl rfl (by kernel_rfl) (by kernel_rfl) (by first | exact S.cel 0 rfl | exact S.cel 1 rfl | exact S.cel 2 rfl | exact S.cel 3 rfl) (by first | decide | exact Nat.le_refl _ | (simp; done)) ?_
      refine o_fieldAddr (off := 1) gn rfl rfl (by kernel_rfl) ?_
      refine o_load gn rfl rfl (by kernel_rfl) (by first | exact S.cel 0 rfl | exact S.cel 1 rfl | exact S.cel 2 rfl | exact S.cel 3 rfl) rfl ?_
      refine o_addS gn rfl rfl rfl (add_ok (by decide) hs) ?_
      refine o_addS gn rfl rfl rfl (add_ok2 (by decide) hs (by decide)) ?_
      refine o_call [.pointer (some ⟨pb, 0, none⟩), (⟨3, s, N, L, Co, ks, kids⟩ : Tw).val, .string ((⟨#[99, 108, 97, 115, 115, 32]⟩ : ByteArray) ++ s ++ (⟨#[32, 123]⟩ : ByteArray)), iV ((0 : Nat) : Int)] gn rfl rfl (by kernel_rfl) (by kernel_rfl) (C.mono (c74 (w := ⟨3, s, N, L, Co, ks, kids⟩) (word := (⟨#[99, 108, 97, 115, 115, 32]⟩ : ByteArray) ++ s ++ (⟨#[32, 123]⟩ : ByteArray)) (fr := 0) (S0.sub1 S0.own0 S 1 rfl) X hC hK hS2 (Nat.zero_le _) (by first | omega | (simp only [List.length_append]; omega))) ?_)
      rintro v g ⟨bs', S2⟩
      have S := S.ret 1 rfl S2
      refine ⟨ag0, ?_⟩
      refine wl_end ?_
      refine w_region (by kernel_rfl) ?_
      refine o_move gn rfl rfl ?_
      refine s_buildSlice (cs := (([⟨#[32, 125]⟩] : List ByteArray).map Value.string).toArray) (e := 9) (z := 0) (zv := .string .empty) [(0, _)] S gn rfl (by kernel_rfl) (by kernel_rfl) (by kernel_rfl) (by kernel_rfl) rfl (by kernel_rfl) fun b3 g nb3 S => ?_
      refine o_call [_, _] gn rfl rfl (by kernel_rfl) rfl (C.mono (c47 (S0.sub1 S0.own0 S 2 rfl) (S.wrow 0 2 rfl rfl (by decide) [⟨#[32, 125]⟩] rfl) (by first | omega | (simp only [List.length_append]; omega)) (by simp)) ?_)
      rintro v g ⟨bs', S2⟩
      have S := S.ret 2 rfl S2
      refine ⟨ag0, ?_⟩
      refine wl_end ?_
      refine ⟨.inr rfl, _, rfl, ?_⟩
      exact ⟨bs', by first | exact S.pick 2 rfl | (simp only [← List.append_assoc] at S ⊢; exact S.pick 2 rfl)⟩
    · skip
      refine w_seq ?_
      refine w_region (by kernel_rfl) ?_
      refine o_eqi gn rfl rfl rfl ?_
      refine o_assign gn rfl rfl ?_
      refine wl_end ?_
      refine w_cond rfl (fun hb => ?_) fun hb => ?_
      · skip
        refine w_seq ?_
        have hK0 : K = 4 := by simpa using hb
        subst hK0
        rw [show declT rec T ⟨4, s, N, L, Co, ks, kids⟩ ind = rowT rec T ⟨4, s, N, L, Co, ks, kids⟩ ind s 0 ++ catL [⟨#[59]⟩] from rfl] at hn ⊢
        first | simp only [List.length_append] at hn | skip
        refine w_region (by kernel_rfl) ?_
        refine o_move gn rfl rfl ?_
        refine o_loadA (n := 6) gn rfl rfl (by kernel_rfl) (by kernel_rfl) (by first | exact S.cel 0 rfl | exact S.cel 1 rfl | exact S.cel 2 rfl | exact S.cel 3 rfl) (by first | decide | exact Nat.le_refl _ | (simp; done)) ?_
        refine o_fieldAddr (off := 1) gn rfl rfl (by kernel_rfl) ?_
        refine o_load gn rfl rfl (by kernel_rfl) (by first | exact S.cel 0 rfl | exact S.cel 1 rfl | exact S.cel 2 rfl | exact S.cel 3 rfl) rfl ?_
        refine o_call [_, _, _, _] gn rfl rfl (by kernel_rfl) rfl (C.mono (c74 (w := ⟨4, s, N, L, Co, ks, kids⟩) (word := s) (fr := 0) (S0.sub1 S0.own0 S 1 rfl) X hC hK hS2 (Nat.zero_le _) (by first | omega | (simp only [List.length_append]; omega))) ?_)
        rintro v g ⟨bs', S2⟩
        have S := S.ret 1 rfl S2
        refine ⟨ag0, ?_⟩
        refine wl_end ?_
        refine w_region (by kernel_rfl) ?_
        refine o_move gn rfl rfl ?_
        refine s_buildSlice (cs := (([⟨#[59]⟩] : List ByteArray).map Value.string).toArray) (e := 9) (z := 0) (zv := .string .empty) [(0, _)] S gn rfl (by kernel_rfl) (by kernel_rfl) (by kernel_rfl) (by kernel_rfl) rfl (by kernel_rfl) fun b4 g nb4 S => ?_
        refine o_call [_, _] gn rfl rfl (by kernel_rfl) rfl (C.mono (c47 (S0.sub1 S0.own0 S 2 rfl) (S.wrow 0 2 rfl rfl (by decide) [⟨#[59]⟩] rfl) (by first | omega | (simp only [List.length_append]; omega)) (by simp)) ?_)
        rintro v g ⟨bs', S2⟩
        have S := S.ret 2 rfl S2
        refine ⟨ag0, ?_⟩
        refine wl_end ?_
        refine ⟨.inr rfl, _, rfl, ?_⟩
        exact ⟨bs', by first | exact S.pick 2 rfl | (simp only [← List.append_assoc] at S ⊢; exact S.pick 2 rfl)⟩
      · skip
        refine w_seq ?_
        refine w_region (by kernel_rfl) ?_
        refine o_eqi gn rfl rfl rfl ?_
        refine o_assign gn rfl rfl ?_
        refine wl_end ?_
        refine w_cond rfl (fun hb => ?_) fun hb => ?_
        · skip
          have hK0 : K = 5 := by simpa using hb
          subst hK0
          rw [show declT rec T ⟨5, s, N, L, Co, ks, kids⟩ ind = catL [s] from rfl] at hn ⊢
          first | simp only [List.length_append] at hn | skip
          refine w_region (by kernel_rfl) ?_
          refine o_move gn rfl rfl ?_
          refine o_fieldAddr (off := 1) gn rfl rfl (by kernel_rfl) ?_
          refine o_load gn rfl rfl (by kernel_rfl) (by first | exact S.cel 0 rfl | exact S.cel 1 rfl | exact S.cel 2 rfl | exact S.cel 3 rfl) rfl ?_
          refine s_buildSlice (cs := (([s] : List ByteArray).map Value.string).toArray) (e := 9) (z := 0) (zv := .string .empty) [(0, _)] S gn rfl (by kernel_rfl) (by kernel_rfl) (by kernel_rfl) (by kernel_rfl) rfl (by kernel_rfl) fun b5 g nb5 S => ?_
          refine o_call [_, _] gn rfl rfl (by kernel_rfl) rfl (C.mono (c47 (S0.sub1 S0.own0 S 2 rfl) (S.wrow 0 2 rfl rfl (by decide) [s] rfl) (by first | omega | (simp only [List.length_append]; omega)) (by simp)) ?_)
          rintro v g ⟨bs', S2⟩
          have S := S.ret 2 rfl S2
          refine ⟨ag0, ?_⟩
          refine wl_end ?_
          refine ⟨.inr rfl, _, rfl, ?_⟩
          exact ⟨bs', by first | exact S.pick 2 rfl | (simp only [← List.append_assoc] at S ⊢; exact S.pick 2 rfl)⟩
        · skip
          refine w_seq ?_
          refine w_region (by kernel_rfl) ?_
          refine o_eqi gn rfl rfl rfl ?_
          refine o_assign gn rfl rfl ?_
          refine wl_end ?_
          refine w_cond rfl (fun hb => ?_) fun hb => ?_
          · skip
            refine w_seq ?_
            have hK0 : K = 6 := by simpa using hb
            subst hK0
            rw [show declT rec T ⟨6, s, N, L, Co, ks, kids⟩ ind = rowT rec T ⟨6, s, N, L, Co, ks, kids⟩ ind (⟨#[118, 97, 114, 32]⟩ ++ s) 0 ++ catL [⟨#[59]⟩] from rfl] at hn ⊢
            first | simp only [List.length_append] at hn | skip
            refine w_region (by kernel_rfl) ?_
            refine o_move gn rfl rfl ?_
            refine o_loadA (n := 6) gn rfl rfl (by kernel_rfl) (by kernel_rfl) (by first | exact S.cel 0 rfl | exact S.cel 1 rfl | exact S.cel 2 rfl | exact S.cel 3 rfl) (by first | decide | exact Nat.le_refl _ | (simp; done)) ?_
            refine o_fieldAddr (off := 1) gn rfl rfl (by kernel_rfl) ?_
            refine o_load gn rfl rfl (by kernel_rfl) (by first | exact S.cel 0 rfl | exact S.cel 1 rfl | exact S.cel 2 rfl | exact S.cel 3 rfl) rfl ?_
            refine o_addS gn rfl rfl rfl (add_ok (by decide) hs) ?_
            refine o_call [.pointer (some ⟨pb, 0, none⟩), (⟨6, s, N, L, Co, ks, kids⟩ : Tw).val, .string ((⟨#[118, 97, 114, 32]⟩ : ByteArray) ++ s), iV ((0 : Nat) : Int)] gn rfl rfl (by kernel_rfl) (by kernel_rfl) (C.mono (c74 (w := ⟨6, s, N, L, Co, ks, kids⟩) (word := (⟨#[118, 97, 114, 32]⟩ : ByteArray) ++ s) (fr := 0) (S0.sub1 S0.own0 S 1 rfl) X hC hK hS2 (Nat.zero_le _) (by first | omega | (simp only [List.length_append]; omega))) ?_)
            rintro v g ⟨bs', S2⟩
            have S := S.ret 1 rfl S2
            refine ⟨ag0, ?_⟩
            refine wl_end ?_
            refine w_region (by kernel_rfl) ?_
            refine o_move gn rfl rfl ?_
            refine s_buildSlice (cs := (([⟨#[59]⟩] : List ByteArray).map Value.string).toArray) (e := 9) (z := 0) (zv := .string .empty) [(0, _)] S gn rfl (by kernel_rfl) (by kernel_rfl) (by kernel_rfl) (by kernel_rfl) rfl (by kernel_rfl) fun b6 g nb6 S => ?_
            refine o_call [_, _] gn rfl rfl (by kernel_rfl) rfl (C.mono (c47 (S0.sub1 S0.own0 S 2 rfl) (S.wrow 0 2 rfl rfl (by decide) [⟨#[59]⟩] rfl) (by first | omega | (simp only [List.length_append]; omega)) (by simp)) ?_)
            rintro v g ⟨bs', S2⟩
            have S := S.ret 2 rfl S2
            refine ⟨ag0, ?_⟩
            refine wl_end ?_
            refine ⟨.inr rfl, _, rfl, ?_⟩
            exact ⟨bs', by first | exact S.pick 2 rfl | (simp only [← List.append_assoc] at S ⊢; exact S.pick 2 rfl)⟩
          · skip
            refine w_seq ?_
            refine w_region (by kernel_rfl) ?_
            refine o_eqi gn rfl rfl rfl ?_
            refine o_assign gn rfl rfl ?_
            refine wl_end ?_
            refine w_cond rfl (fun hb => ?_) fun hb => ?_
            · skip
              have hK0 : K = 7 := by simpa using hb
              subst hK0
              rw [show declT rec T ⟨7, s, N, L, Co, ks, kids⟩ ind = rowT rec T ⟨7, s, N, L, Co, ks, kids⟩ ind (⟨#[102, 110, 32]⟩ ++ s) 0 from rfl] at hn ⊢
              first | simp only [List.length_append] at hn | skip
              refine w_region (by kernel_rfl) ?_
              refine o_move gn rfl rfl ?_
              refine o_loadA (n := 6) gn rfl rfl (by kernel_rfl) (by kernel_rfl) (by first | exact S.cel 0 rfl | exact S.cel 1 rfl | exact S.cel 2 rfl | exact S.cel 3 rfl) (by first | decide | exact Nat.le_refl _ | (simp; done)) ?_
              refine o_fieldAddr (off := 1) gn rfl rfl (by kernel_rfl) ?_
              refine o_load gn rfl rfl (by kernel_rfl) (by first | exact S.cel 0 rfl | exact S.cel 1 rfl | exact S.cel 2 rfl | exact S.cel 3 rfl) rfl ?_
              refine o_addS gn rfl rfl rfl (add_ok (by decide) hs) ?_
              refine o_call [.pointer (some ⟨pb, 0, none⟩), (⟨7, s, N, L, Co, ks, kids⟩ : Tw).val, .string ((⟨#[102, 110, 32]⟩ : ByteArray) ++ s), iV ((0 : Nat) : Int)] gn rfl rfl (by kernel_rfl) (by kernel_rfl) (C.mono (c74 (w := ⟨7, s, N, L, Co, ks, kids⟩) (word := (⟨#[102, 110, 32]⟩ : ByteArray) ++ s) (fr := 0) (S0.sub1 S0.own0 S 1 rfl) X hC hK hS2 (Nat.zero_le _) (by first | omega | (simp only [List.length_append]; omega))) ?_)
              rintro v g ⟨bs', S2⟩
              have S := S.ret 1 rfl S2
              refine ⟨ag0, ?_⟩
              refine wl_end ?_
              refine ⟨.inr rfl, _, rfl, ?_⟩
              exact ⟨bs', by first | exact S.pick 1 rfl | (simp only [← List.append_assoc] at S ⊢; exact S.pick 1 rfl)⟩
            · skip
              refine w_seq ?_
              refine w_region (by kernel_rfl) ?_
              refine o_eqi gn rfl rfl rfl ?_
              refine o_assign gn rfl rfl ?_
              refine wl_end ?_
              refine w_cond rfl (fun hb => ?_) fun hb => ?_
              · skip
                refine w_seq ?_
                have hK0 : K = 8 := by simpa using hb
                subst hK0
                rw [show declT rec T ⟨8, s, N, L, Co, ks, kids⟩ ind = catL [⟨#[99, 111, 109, 112, 32]⟩, s, ⟨#[32, 111, 110, 32]⟩] ++ kidT rec T ⟨8, s, N, L, Co, ks, kids⟩ ind 0 ++ catL [⟨#[32]⟩] ++ bracesT rec ind (kids.drop 1) from rfl] at hn ⊢
                first | simp only [List.length_append] at hn | skip
                have hk1 := hA1 (.inl rfl)
                refine w_region (by kernel_rfl) ?_
                refine o_move gn rfl rfl ?_
                refine o_fieldAddr (off := 1) gn rfl rfl (by kernel_rfl) ?_
                refine o_load gn rfl rfl (by kernel_rfl) (by first | exact S.cel 0 rfl | exact S.cel 1 rfl | exact S.cel 2 rfl | exact S.cel 3 rfl) rfl ?_
                refine s_buildSlice (cs := (([⟨#[99, 111, 109, 112, 32]⟩, s, ⟨#[32, 111, 110, 32]⟩] : List ByteArray).map Value.string).toArray) (e := 9) (z := 0) (zv := .string .empty) [(0, _), (1, _), (2, _)] S gn rfl (by kernel_rfl) (by kernel_rfl) (by kernel_rfl) (by kernel_rfl) rfl (by kernel_rfl) fun b7 g nb7 S => ?_
                refine o_call [_, _] gn rfl rfl (by kernel_rfl) rfl (C.mono (c47 (S0.sub1 S0.own0 S 2 rfl) (S.wrow 0 2 rfl rfl (by decide) [⟨#[99, 111, 109, 112, 32]⟩, s, ⟨#[32, 111, 110, 32]⟩] rfl) (by first | omega | (simp only [List.length_append]; omega)) (by simp)) ?_)
                rintro v g ⟨bs', S2⟩
                have S := S.ret 2 rfl S2
                refine ⟨ag0, ?_⟩
                refine wl_end ?_
                refine w_seq ?_
                refine w_region (by kernel_rfl) ?_
                refine o_move gn rfl rfl ?_
                refine o_loadA (n := 6) gn rfl rfl (by kernel_rfl) (by kernel_rfl) (by first | exact S.cel 0 rfl | exact S.cel 1 rfl | exact S.cel 2 rfl | exact S.cel 3 rfl | exact S.cel 4 rfl) (by first | decide | exact Nat.le_refl _ | (simp; done)) ?_
                refine o_call [_, _, _] gn rfl rfl (by kernel_rfl) rfl (C.mono (c70k (w := ⟨8, s, N, L, Co, ks, kids⟩) (i := 0) (S0.sub1 S0.own0 S 2 rfl) X hC hK hR2 (show 0 < kids.length by omega) (by first | omega | (simp only [List.length_append]; omega))) ?_)
                rintro v g ⟨bs', S2⟩
                have S := S.ret 2 rfl S2
                refine ⟨ag0, ?_⟩
                refine wl_end ?_
                refine w_seq ?_
                refine w_region (by kernel_rfl) ?_
                refine o_move gn rfl rfl ?_
                refine s_buildSlice (cs := (([⟨#[32]⟩] : List ByteArray).map Value.string).toArray) (e := 9) (z := 0) (zv := .string .empty) [(0, _)] S gn rfl (by kernel_rfl) (by kernel_rfl) (by kernel_rfl) (by kernel_rfl) rfl (by kernel_rfl) fun b8 g nb8 S => ?_
                refine o_call [_, _] gn rfl rfl (by kernel_rfl) rfl (C.mono (c47 (S0.sub1 S0.own0 S 3 rfl) (S.wrow 0 3 rfl rfl (by decide) [⟨#[32]⟩] rfl) (by first | omega | (simp only [List.length_append]; omega)) (by simp)) ?_)
                rintro v g ⟨bs', S2⟩
                have S := S.ret 3 rfl S2
                refine ⟨ag0, ?_⟩
                refine wl_end ?_
                refine w_region (by kernel_rfl) ?_
                refine o_move gn rfl rfl ?_
                refine o_fieldAddr (off := 5) gn rfl rfl (by kernel_rfl) ?_
                refine o_load gn rfl rfl (by kernel_rfl) (by first | exact S.cel 0 rfl | exact S.cel 1 rfl | exact S.cel 2 rfl | exact S.cel 3 rfl | exact S.cel 4 rfl | exact S.cel 5 rfl) rfl ?_
                obtain ⟨bk, hSx⟩ := hS2
                obtain ⟨sl, hslr, hsl⟩ := slice_now hSx hk1
                have hslr2 : RowV h0 sl (isV (kids.drop 1)) := by rw [← List.map_drop] at hslr; exact hslr
                refine o_sliceF gn rfl rfl rfl (hsl _ (S0.all0 S0.own0 S)) ?_
                refine o_call [_, _] gn rfl rfl (by kernel_rfl) rfl (C.mono (c48 (S0.sub1 S0.own0 S 3 rfl) X hC hslr2 (by rw [List.length_drop]; omega) (fun i hi => by
                  rw [List.length_drop] at hi
                  obtain ⟨q, w', h1, h2, h3⟩ := hK.2 (1 + i) (show 1 + i < kids.length by omega)
                  exact ⟨q, w', by rw [List.getElem?_drop]; exact h1, h2, h3⟩) (by first | omega | (simp only [List.length_append]; omega))) ?_)  -- (*detent/tree.printer).braces
                rintro v g ⟨bs', S2⟩
                have S := S.ret 3 rfl S2
                refine ⟨ag0, ?_⟩
                refine wl_end ?_
                refine ⟨.inr rfl, _, rfl, ?_⟩
                exact ⟨bs', by first | exact S.pick 3 rfl | (simp only [← List.append_assoc] at S ⊢; exact S.pick 3 rfl)⟩
              · skip
                refine w_seq ?_
                refine w_region (by kernel_rfl) ?_
                refine o_eqi gn rfl rfl rfl ?_
                refine o_assign gn rfl rfl ?_
                refine wl_end ?_
                refine w_cond rfl (fun hb => ?_) fun hb => ?_
                · skip
                  have hK0 : K = 9 := by simpa using hb
                  subst hK0
                  rw [show declT rec T ⟨9, s, N, L, Co, ks, kids⟩ ind = rowT rec T ⟨9, s, N, L, Co, ks, kids⟩ ind (lifeWord N) 0 from rfl] at hn ⊢
                  obtain ⟨hN3, hN4⟩ := hN1 rfl
                  refine w_draw [(0, []), (1, []), (2, []), (3, []), (4, []), (5, []), (6, []), (7, [])] (by kernel_rfl) (by kernel_rfl) (by kernel_rfl) (by kernel_rfl) ?_
                  refine o_move gn rfl rfl ?_
                  refine o_loadA (n := 6) gn rfl rfl (by kernel_rfl) (by kernel_rfl) (by first | exact S.cel 0 rfl | exact S.cel 1 rfl | exact S.cel 2 rfl | exact S.cel 3 rfl) (by first | decide | exact Nat.le_refl _ | (simp; done)) ?_
                  refine s_buildSlice (cs := (([⟨#[99, 114, 101, 97, 116, 101]⟩, ⟨#[115, 116, 97, 114, 116]⟩, ⟨#[115, 116, 111, 112]⟩, ⟨#[100, 101, 115, 116, 114, 111, 121]⟩] : List ByteArray).map Value.string).toArray) (e := 9) (z := 0) (zv := .string .empty) [(0, _), (1, _), (2, _), (3, _)] S gn rfl (by kernel_rfl) (by kernel_rfl) (by kernel_rfl) (by kernel_rfl) rfl (by kernel_rfl) fun b9 g nb9 S => ?_
                  refine o_fieldAddr (off := 2) gn rfl rfl (by kernel_rfl) ?_
                  refine o_load gn rfl rfl (by kernel_rfl) (by first | exact S.cel 0 rfl | exact S.cel 1 rfl | exact S.cel 2 rfl | exact S.cel 3 rfl | exact S.cel 4 rfl) rfl ?_
                  refine o_indexAddr (zz := 1) gn rfl rfl rfl (by kernel_rfl) (show (0 : Int) ≤ N from hN3) (show N < ((4 : Nat) : Int) by omega) ?_
                  refine o_load gn rfl rfl (by kernel_rfl) (S.cel 0 rfl) (life_at hN3 hN4) ?_
                  refine o_call [_, _, _, _] gn rfl rfl (by kernel_rfl) rfl (C.mono (c74 (w := ⟨9, s, N, L, Co, ks, kids⟩) (word := lifeWord N) (fr := 0) (S0.sub1 S0.own0 S 2 rfl) X hC hK hS2 (Nat.zero_le _) (by first | omega | (simp only [List.length_append]; omega))) ?_)
                  rintro v g ⟨bs', S2⟩
                  have S := S.ret 2 rfl S2
                  refine ⟨ag0, ?_⟩
                  refine wl_end ?_
                  refine ⟨.inr rfl, _, rfl, ?_⟩
                  exact ⟨bs', by first | exact S.pick 2 rfl | (simp only [← List.append_assoc] at S ⊢; exact S.pick 2 rfl)⟩
                · skip
                  refine w_seq ?_
                  refine w_region (by kernel_rfl) ?_
                  refine o_eqi gn rfl rfl rfl ?_
                  refine o_assign gn rfl rfl ?_
                  refine wl_end ?_
                  refine w_cond rfl (fun hb => ?_) fun hb => ?_
                  · skip
                    refine w_seq ?_
                    have hK0 : K = 10 := by simpa using hb
                    subst hK0
                    rw [show declT rec T ⟨10, s, N, L, Co, ks, kids⟩ ind = catL [⟨#[101, 118, 101, 110, 116, 32]⟩, s, ⟨#[32, 111, 110, 32]⟩] ++ kidT rec T ⟨10, s, N, L, Co, ks, kids⟩ ind 0 ++ rowT rec T ⟨10, s, N, L, Co, ks, kids⟩ ind (eventWord N) 1 from rfl] at hn ⊢
                    first | simp only [List.length_append] at hn | skip
                    have hk1 := hA1 (.inr rfl)
                    have hN3 := hN2 rfl
                    refine w_region (by kernel_rfl) ?_
                    refine o_move gn rfl rfl ?_
                    refine o_fieldAddr (off := 1) gn rfl rfl (by kernel_rfl) ?_
                    refine o_load gn rfl rfl (by kernel_rfl) (by first | exact S.cel 0 rfl | exact S.cel 1 rfl | exact S.cel 2 rfl | exact S.cel 3 rfl) rfl ?_
                    refine s_buildSlice (cs := (([⟨#[101, 118, 101, 110, 116, 32]⟩, s, ⟨#[32, 111, 110, 32]⟩] : List ByteArray).map Value.string).toArray) (e := 9) (z := 0) (zv := .string .empty) [(0, _), (1, _), (2, _)] S gn rfl (by kernel_rfl) (by kernel_rfl) (by kernel_rfl) (by kernel_rfl) rfl (by kernel_rfl) fun b10 g nb10 S => ?_
                    refine o_call [_, _] gn rfl rfl (by kernel_rfl) rfl (C.mono (c47 (S0.sub1 S0.own0 S 2 rfl) (S.wrow 0 2 rfl rfl (by decide) [⟨#[101, 118, 101, 110, 116, 32]⟩, s, ⟨#[32, 111, 110, 32]⟩] rfl) (by first | omega | (simp only [List.length_append]; omega)) (by simp)) ?_)
                    rintro v g ⟨bs', S2⟩
                    have S := S.ret 2 rfl S2
                    refine ⟨ag0, ?_⟩
                    refine wl_end ?_
                    refine w_seq ?_
                    refine w_region (by kernel_rfl) ?_
                    refine o_move gn rfl rfl ?_
                    refine o_loadA (n := 6) gn rfl rfl (by kernel_rfl) (by kernel_rfl) (by first | exact S.cel 0 rfl | exact S.cel 1 rfl | exact S.cel 2 rfl | exact S.cel 3 rfl | exact S.cel 4 rfl) (by first | decide | exact Nat.le_refl _ | (simp; done)) ?_
                    refine o_call [_, _, _] gn rfl rfl (by kernel_rfl) rfl (C.mono (c70k (w := ⟨10, s, N, L, Co, ks, kids⟩) (i := 0) (S0.sub1 S0.own0 S 2 rfl) X hC hK hR2 (show 0 < kids.length by omega) (by first | omega | (simp only [List.length_append]; omega))) ?_)
                    rintro v g ⟨bs', S2⟩
                    have S := S.ret 2 rfl S2
                    refine ⟨ag0, ?_⟩
                    refine wl_end ?_
                    refine w_draw [(0, []), (1, []), (2, []), (3, []), (4, []), (5, []), (6, []), (7, [])] (by kernel_rfl) (by kernel_rfl) (by kernel_rfl) (by kernel_rfl) ?_
                    refine o_move gn rfl rfl ?_
                    refine o_loadA (n := 6) gn rfl rfl (by kernel_rfl) (by kernel_rfl) (by first | exact S.cel 0 rfl | exact S.cel 1 rfl | exact S.cel 2 rfl | exact S.cel 3 rfl | exact S.cel 4 rfl) (by first | decide | exact Nat.le_refl _ | (simp; done)) ?_
                    refine s_buildSlice (cs := (([⟨#[32, 111, 102, 102]⟩, ⟨#[32, 111, 110]⟩] : List ByteArray).map Value.string).toArray) (e := 9) (z := 0) (zv := .string .empty) [(0, _), (1, _)] S gn rfl (by kernel_rfl) (by kernel_rfl) (by kernel_rfl) (by kernel_rfl) rfl (by kernel_rfl) fun b11 g nb11 S => ?_
                    refine o_fieldAddr (off := 2) gn rfl rfl (by kernel_rfl) ?_
                    refine o_load gn rfl rfl (by kernel_rfl) (by first | exact S.cel 0 rfl | exact S.cel 1 rfl | exact S.cel 2 rfl | exact S.cel 3 rfl | exact S.cel 4 rfl | exact S.cel 5 rfl) rfl ?_
                    refine o_indexAddr (zz := 1) gn rfl rfl rfl (by kernel_rfl) (show (0 : Int) ≤ N by omega) (show N < ((2 : Nat) : Int) by omega) ?_
                    refine o_load gn rfl rfl (by kernel_rfl) (S.cel 0 rfl) (event_at hN3) ?_
                    refine o_call [_, _, _, _] gn rfl rfl (by kernel_rfl) rfl (C.mono (c74 (w := ⟨10, s, N, L, Co, ks, kids⟩) (word := eventWord N) (fr := 1) (S0.sub1 S0.own0 S 3 rfl) X hC hK hS2 (show 1 ≤ kids.length from hk1) (by first | omega | (simp only [List.length_append]; omega))) ?_)
                    rintro v g ⟨bs', S2⟩
                    have S := S.ret 3 rfl S2
                    refine ⟨ag0, ?_⟩
                    refine wl_end ?_
                    refine ⟨.inr rfl, _, rfl, ?_⟩
                    exact ⟨bs', by first | exact S.pick 3 rfl | (simp only [← List.append_assoc] at S ⊢; exact S.pick 3 rfl)⟩
                  · skip
                    refine w_seq ?_
                    refine w_region (by kernel_rfl) ?_
                    refine o_eqi gn rfl rfl rfl ?_
                    refine o_assign gn rfl rfl ?_
                    refine wl_end ?_
                    refine w_cond rfl (fun hb => ?_) fun hb => ?_
                    · skip
                      have hK0 : K = 11 := by simpa using hb
                      subst hK0
                      rw [show declT rec T ⟨11, s, N, L, Co, ks, kids⟩ ind = rowT rec T ⟨11, s, N, L, Co, ks, kids⟩ ind ⟨#[109, 97, 105, 110]⟩ 0 from rfl] at hn ⊢
                      first | simp only [List.length_append] at hn | skip
                      refine w_region (by kernel_rfl) ?_
                      refine o_move gn rfl rfl ?_
                      refine o_loadA (n := 6) gn rfl rfl (by kernel_rfl) (by kernel_rfl) (by first | exact S.cel 0 rfl | exact S.cel 1 rfl | exact S.cel 2 rfl | exact S.cel 3 rfl) (by first | decide | exact Nat.le_refl _ | (simp; done)) ?_
                      refine o_call [_, _, _, _] gn rfl rfl (by kernel_rfl) rfl (C.mono (c74 (w := ⟨11, s, N, L, Co, ks, kids⟩) (word := ⟨#[109, 97, 105, 110]⟩) (fr := 0) (S0.sub1 S0.own0 S 1 rfl) X hC hK hS2 (Nat.zero_le _) (by first | omega | (simp only [List.length_append]; omega))) ?_)
                      rintro v g ⟨bs', S2⟩
                      have S := S.ret 1 rfl S2
                      refine ⟨ag0, ?_⟩
                      refine wl_end ?_
                      refine ⟨.inr rfl, _, rfl, ?_⟩
                      exact ⟨bs', by first | exact S.pick 1 rfl | (simp only [← List.append_assoc] at S ⊢; exact S.pick 1 rfl)⟩
                    · skip
                      refine w_skip ?_
                      refine ⟨.inr rfl, _, rfl, ?_⟩
                      exact ⟨bs, by rw [show declT rec T ⟨K, s, N, L, Co, ks, kids⟩ ind = [] from by unfold declT; simp_all, List.append_nil]; exact S.pick 1 rfl⟩
end
end Go.Proofs.YtoejddhaiogonaaDoor

namespace Go.Proofs.YtoejddhaiogonaaDoor
open Go.X

def twT (rec : Nat → ByteArray → List UInt8) (T : List Tw) (w : Tw) (ind : ByteArray) : List UInt8 :=
  if w.K = 1 then w.kids.flatMap (fun k => rec k.toNat ind ++ catL [⟨#[10]⟩]) else if w.K = 12 then bracesT rec ind w.kids else if stmtK w.K = true then stmtT rec T w ind else if termK w.K = true then termT rec T w ind else declT rec T w ind
/-- What a twig of a tree that may be has. -/
structure WOk (w : Tw) : Prop where
  a30 : w.K = 30 → 1 ≤ w.kids.length
  a31 : w.K = 31 ∨ w.K = 32 → 2 ≤ w.kids.length
  n26 : w.K = 26 → 0 ≤ w.N ∧ w.N ≤ 2147483647
  a19 : w.K = 19 ∨ w.K = 20 → 1 ≤ w.kids.length
  a13 : w.K = 13 ∨ w.K = 14 ∨ w.K = 23 ∨ w.K = 24 → 2 ≤ w.kids.length
  n19 : w.K = 19 → -1 ≤ w.N ∧ w.N ≤ 2147483647
  a8 : w.K = 8 ∨ w.K = 10 → 1 ≤ w.kids.length
  n9 : w.K = 9 → 0 ≤ w.N ∧ w.N ≤ 3
  n10 : w.K = 10 → w.N = 0 ∨ w.N = 1
  sz : w.s.size ≤ 1000000

section
variable {h0 hE : Hp} {pb : Nat} {sv : Value} {l : List UInt8} {ind : ByteArray} {bs : List Nat} {T : List Tw} {w : Tw} {rec : Nat → ByteArray → List UInt8} {lo : Nat}

/-- twig -/
theorem c27s (S0 : SH h0 [] [prR pb sv l ind bs] hE) (X : TreeAt h0 sv T) (hC : TwC h0 sv T rec lo) (hK : KidsOk T w lo) (hS : ∃ bk, SlC 3 0 h0 w.ks (isV w.kids) w.kids.length bk) (hP : Pow h0) (ok : WOk w) (hn : l.length + (twT rec T w ind).length ≤ 1099511627776) :
    C trE 27 [.pointer (some ⟨pb, 0, none⟩), w.val] hE fun _ g' => ∃ bs', SH hE (pb :: bs) [prR pb sv (l ++ twT rec T w ind) ind bs'] g' := by
  obtain ⟨K, s, N, L, Co, ks, kids⟩ := w
  have hR2 : RowV h0 ks (isV kids) := by obtain ⟨bk, h⟩ := hS; exact h.row
  have hS2 := hS
  have hX := X
  have hcv := RowV.cellV hR2
  have hsame := RowV.same hR2
  have hkl := hK.1
  simp only at hkl
  have hR3 := hR2
  obtain ⟨ka, kc, rfl⟩ := hR2.valM
  obtain ⟨ta, tc, rfl⟩ := X.val
  obtain ⟨F, hF⟩ : ∃ F : Int → List UInt8, F = fun k => rec k.toNat ind ++ catL [⟨#[10]⟩] := ⟨_, rfl⟩
  refine c_enter (fu := Tryd.f27) (by kernel_rfl) rfl ?_
  have S := S0.enter
  refine w_seq ?_
  refine w_region (by kernel_rfl) ?_
  refine s_box S gn rfl rfl fun b1 g nb1 S => ?_
  refine wl_end ?_
  refine w_block ?_
  refine w_seq ?_
  refine w_region (by kernel_rfl) ?_
  refine o_fieldAddr (off := 0) gn rfl rfl (by kernel_rfl) ?_
  refine o_load gn rfl rfl (by kernel_rfl) (by first | exact S.cel 0 rfl | exact S.cel 1 rfl | exact S.cel 2 rfl | exact S.cel 3 rfl) rfl ?_
  refine o_eqi gn rfl rfl rfl ?_
  refine o_assign gn rfl rfl ?_
  refine wl_end ?_
  refine w_cond rfl (fun hb => ?_) fun hb => ?_
  · skip
    refine w_seq ?_
    have hK0 : K = 1 := by simpa using hb
    subst hK0
    rw [show twT rec T ⟨1, s, N, L, Co, .slice ka kids.length kc, kids⟩ ind = kids.flatMap (fun k => rec k.toNat ind ++ catL [⟨#[10]⟩]) from rfl, ← hF] at hn ⊢
    refine w_region (by kernel_rfl) ?_
    refine o_fieldAddr (off := 5) gn rfl rfl (by kernel_rfl) ?_
    refine o_load gn rfl rfl (by kernel_rfl) (by first | exact S.cel 0 rfl | exact S.cel 1 rfl | exact S.cel 2 rfl | exact S.cel 3 rfl) rfl ?_
    refine o_len gn rfl rfl (by kernel_rfl) ?_
    refine o_move gn rfl rfl ?_
    refine wl_end ?_
    refine w_block ?_
    refine w_loopS [(16, _)] [(0, _), (14, _), (15, _)] (by repeat (first | exact trivial | refine ⟨rfl, ?_⟩)) (fun kk lv hh => ∃ (j : Nat) (bs1 : List Nat), lv = [(16, iV j)] ∧ kk = kids.length - j ∧ j ≤ kids.length ∧ SH hE (pb :: bs) [prR pb (.slice ta T.length tc) (l ++ (kids.take j).flatMap F) ind bs1] hh) (n := (kids.length)) ?_ fun kk lv hh hI => ?_
    · exact ⟨0, bs, rfl, rfl, by omega, by simp only [List.take_zero, List.flatMap_nil, List.append_nil]; exact S.pick 1 rfl⟩
    · obtain ⟨j, bs1, rfl, hk, hj, S⟩ := hI
      refine w_seq ?_
      refine w_region (by kernel_rfl) ?_
      refine o_lss gn rfl rfl rfl ?_
      refine wl_end ?_
      refine w_seq ?_
      refine w_cond rfl (fun hb => ?_) fun hb => ?_
      · skip
        refine w_skip ?_
        have hj : j < kids.length := by simp at hb; omega
        obtain ⟨kb, ko, kc', kcs, ke, km, hv2, hg2, hlt2, hat2⟩ := hR3.atM (by omega)
        have hka : ka = some ⟨kb, ko, none⟩ := by injection hv2
        obtain ⟨q, w', hq1, hq2, hq3⟩ := hK.2 j hj
        have hkj : kids[j] = (q : Int) := (List.getElem?_eq_some_iff.1 hq1).2
        have hat3 : kcs[ko + j]? = some (iV q) := by rw [hat2 j hj, hkj]
        obtain ⟨hqlt, hqw⟩ := List.getElem?_eq_some_iff.1 hq2
        obtain ⟨b, o, c, cs, e, m, hv, hg, hlb, hl6, hat⟩ := hX.at (by omega)
        have hta : ta = some ⟨b, o, none⟩ := by injection hv
        have hw4 : (cs.drop (o + Int.toNat (q : Int) * 6)).take 6 = w'.cells := by rw [Int.toNat_natCast, hat q hqlt, hqw]
        have hfl := flatL_le F kids (j + 1)
        rw [flatL_take hj] at hfl
        have hFj : F kids[j] = rec q ind ++ catL [⟨#[10]⟩] := by rw [hF, hkj]; rfl
        rw [hFj] at hfl
        simp only [List.length_append] at hfl
        refine w_seq ?_
        refine w_block ?_
        refine w_seq ?_
        refine w_region (by kernel_rfl) ?_
        rw [hka]
        refine o_indexAddr (zz := 1) gn rfl rfl rfl (by kernel_rfl) (by omega) (by omega) ?_
        rw [← hka]
        refine o_load gn rfl rfl (by kernel_rfl) (S0.two S0.own0 S hg2 hlt2) (by rw [Int.toNat_natCast, Nat.mul_one]; exact hat3) ?_
        refine o_assign gn rfl rfl ?_
        refine wl_end ?_
        refine w_seq ?_
        obtain ⟨pa, pv, hpb, _⟩ := pr_cells 0 S rfl
        refine w_region (by kernel_rfl) ?_
        refine o_move gn rfl rfl ?_
        refine o_move gn rfl rfl ?_
        refine o_nilCheck gn rfl rfl ?_
        refine o_fieldAddr (off := 0) gn rfl rfl (by kernel_rfl) ?_
        refine o_fieldAddr (off := 0) gn rfl rfl (by kernel_rfl) ?_
        refine o_load gn rfl rfl (by kernel_rfl) hpb rfl ?_
        refine o_move gn rfl rfl ?_
        rw [hta]
        refine o_indexAddr (zz := 6) gn rfl rfl rfl (by kernel_rfl) (by omega) (by omega) ?_
        refine o_loadA (n := 6) gn rfl rfl (by kernel_rfl) (by kernel_rfl) (S0.two S0.own0 S hg hlb) (by rw [Int.toNat_natCast]; omega) ?_
        rw [hw4, ← hta]
        refine o_call [_, _] gn rfl rfl (by kernel_rfl) rfl (C.mono (hC q w' hq3 hq2 _ _ _ _ _ (S0.sub1 S0.own0 S 0 rfl) (by simp only [List.length_append]; omega)) ?_)
        rintro v g ⟨bs', S2⟩
        have S := S.ret 0 rfl S2
        refine ⟨ag0, ?_⟩
        refine wl_end ?_
        refine w_region (by kernel_rfl) ?_
        refine o_move gn rfl rfl ?_
        refine s_buildSlice (cs := (([⟨#[10]⟩] : List ByteArray).map Value.string).toArray) (e := 9) (z := 0) (zv := .string .empty) [(0, _)] S gn rfl (by kernel_rfl) (by kernel_rfl) (by kernel_rfl) (by kernel_rfl) rfl (by kernel_rfl) fun b2 g nb2 S => ?_
        refine o_call [_, _] gn rfl rfl (by kernel_rfl) rfl (C.mono (c47 (S0.sub1 S0.own0 S 1 rfl) (S.wrow 0 1 rfl rfl (by decide) [⟨#[10]⟩] rfl) (by simp only [List.length_append]; omega) (by simp)) ?_)
        rintro v g ⟨bs', S2⟩
        have S := S.ret 1 rfl S2
        refine ⟨ag0, ?_⟩
        refine wl_end ?_
        refine w_region (by kernel_rfl) ?_
        refine o_add gn rfl rfl rfl (by omega) (by omega) ?_
        refine o_move gn rfl rfl ?_
        refine wl_end ?_
        exact rndS (kids.length - (j + 1)) (by omega) [(16, _)] (by repeat (first | exact trivial | refine ⟨rfl, ?_⟩)) ⟨j + 1, bs', rfl, rfl, by omega, by
          rw [flatL_take hj, hFj]
          simp only [← List.append_assoc] at S ⊢
          exact S.drop⟩
      · skip
        refine w_exit ?_
        refine thn_exit ?_
        refine rnd_exit ?_
        refine blk_eq ?_
        refine ⟨.inr rfl, _, rfl, ?_⟩
        exact ⟨bs1, by
          have hjj : j = kids.length := by simp at hb; omega
          rw [hjj, List.take_length] at S; exact S⟩
  · skip
    refine w_seq ?_
    have hne1 : ¬ K = 1 := by simpa using hb
    refine w_region (by kernel_rfl) ?_
    refine o_fieldAddr (off := 0) gn rfl rfl (by kernel_rfl) ?_
    refine o_load gn rfl rfl (by kernel_rfl) (by first | exact S.cel 0 rfl | exact S.cel 1 rfl | exact S.cel 2 rfl | exact S.cel 3 rfl) rfl ?_
    refine o_eqi gn rfl rfl rfl ?_
    refine o_assign gn rfl rfl ?_
    refine wl_end ?_
    refine w_cond rfl (fun hb => ?_) fun hb => ?_
    · skip
      have hK0 : K = 12 := by simpa using hb
      subst hK0
      rw [show twT rec T ⟨12, s, N, L, Co, .slice ka kids.length kc, kids⟩ ind = bracesT rec ind kids from rfl] at hn ⊢
      refine w_region (by kernel_rfl) ?_
      refine o_move gn rfl rfl ?_
      refine o_fieldAddr (off := 5) gn rfl rfl (by kernel_rfl) ?_
      refine o_load gn rfl rfl (by kernel_rfl) (by first | exact S.cel 0 rfl | exact S.cel 1 rfl | exact S.cel 2 rfl | exact S.cel 3 rfl) rfl ?_
      refine o_call [_, _] gn rfl rfl (by kernel_rfl) rfl (C.mono (c48 (S0.sub1 S0.own0 S 1 rfl) hX hC hR3 hkl hK.2 hn) ?_)
      rintro v g ⟨bs', S2⟩
      have S := S.ret 1 rfl S2
      refine ⟨ag0, ?_⟩
      refine wl_end ?_
      refine ⟨.inr rfl, _, rfl, ?_⟩
      exact ⟨bs', S.pick 1 rfl⟩
    · skip
      refine w_seq ?_
      have hne2 : ¬ K = 12 := by simpa using hb
      refine w_region (by kernel_rfl) ?_
      refine o_fieldAddr (off := 0) gn rfl rfl (by kernel_rfl) ?_
      refine o_load gn rfl rfl (by kernel_rfl) (by first | exact S.cel 0 rfl | exact S.cel 1 rfl | exact S.cel 2 rfl | exact S.cel 3 rfl) rfl ?_
      refine o_call [_] gn rfl rfl (by kernel_rfl) rfl (c_pure (c40) ⟨ag0, ?_⟩)
      refine o_assign gn rfl rfl ?_
      refine wl_end ?_
      refine w_cond rfl (fun hb => ?_) fun hb => ?_
      · skip
        have ht : stmtK K = true := hb
        rw [show twT rec T ⟨K, s, N, L, Co, .slice ka kids.length kc, kids⟩ ind = stmtT rec T ⟨K, s, N, L, Co, .slice ka kids.length kc, kids⟩ ind by simp only [twT, if_neg hne1, if_neg hne2, if_pos ht]] at hn ⊢
        refine w_region (by kernel_rfl) ?_
        refine o_move gn rfl rfl ?_
        refine o_loadA (n := 6) gn rfl rfl (by kernel_rfl) (by kernel_rfl) (by first | exact S.cel 0 rfl | exact S.cel 1 rfl | exact S.cel 2 rfl | exact S.cel 3 rfl) (by first | decide | exact Nat.le_refl _ | (simp; done)) ?_
        refine o_call [_, _] gn rfl rfl (by kernel_rfl) rfl (C.mono (c49 (w := ⟨K, s, N, L, Co, .slice ka kids.length kc, kids⟩) (S0.sub1 S0.own0 S 1 rfl) hX hC hK hS2 hP ok.a19 ok.a13 ok.n19 ht hn) ?_)
        rintro v g ⟨bs', S2⟩
        have S := S.ret 1 rfl S2
        refine ⟨ag0, ?_⟩
        refine wl_end ?_
        refine ⟨.inr rfl, _, rfl, ?_⟩
        exact ⟨bs', S.pick 1 rfl⟩
      · skip
        refine w_seq ?_
        have hne3 : ¬ stmtK K = true := fun e => by rw [show stmtK K = false from hb] at e; cases e
        refine w_region (by kernel_rfl) ?_
        refine o_fieldAddr (off := 0) gn rfl rfl (by kernel_rfl) ?_
        refine o_load gn rfl rfl (by kernel_rfl) (by first | exact S.cel 0 rfl | exact S.cel 1 rfl | exact S.cel 2 rfl | exact S.cel 3 rfl) rfl ?_
        refine o_call [_] gn rfl rfl (by kernel_rfl) rfl (c_pure (c16) ⟨ag0, ?_⟩)
        refine o_assign gn rfl rfl ?_
        refine wl_end ?_
        refine w_cond rfl (fun hb => ?_) fun hb => ?_
        · skip
          have ht : termK K = true := hb
          rw [show twT rec T ⟨K, s, N, L, Co, .slice ka kids.length kc, kids⟩ ind = termT rec T ⟨K, s, N, L, Co, .slice ka kids.length kc, kids⟩ ind by simp only [twT, if_neg hne1, if_neg hne2, if_neg hne3, if_pos ht]] at hn ⊢
          refine w_region (by kernel_rfl) ?_
          refine o_move gn rfl rfl ?_
          refine o_loadA (n := 6) gn rfl rfl (by kernel_rfl) (by kernel_rfl) (by first | exact S.cel 0 rfl | exact S.cel 1 rfl | exact S.cel 2 rfl | exact S.cel 3 rfl) (by first | decide | exact Nat.le_refl _ | (simp; done)) ?_
          refine o_call [_, _] gn rfl rfl (by kernel_rfl) rfl (C.mono (c50 (w := ⟨K, s, N, L, Co, .slice ka kids.length kc, kids⟩) (S0.sub1 S0.own0 S 1 rfl) hX hC hK hS2 hP ok.a30 ok.a31 ok.n26 ht hn) ?_)
          rintro v g ⟨bs', S2⟩
          have S := S.ret 1 rfl S2
          refine ⟨ag0, ?_⟩
          refine wl_end ?_
          refine ⟨.inr rfl, _, rfl, ?_⟩
          exact ⟨bs', S.pick 1 rfl⟩
        · skip
          have hne4 : ¬ termK K = true := fun e => by rw [show termK K = false from hb] at e; cases e
          rw [show twT rec T ⟨K, s, N, L, Co, .slice ka kids.length kc, kids⟩ ind = declT rec T ⟨K, s, N, L, Co, .slice ka kids.length kc, kids⟩ ind by simp only [twT, if_neg hne1, if_neg hne2, if_neg hne3, if_neg hne4]] at hn ⊢
          refine w_region (by kernel_rfl) ?_
          refine o_move gn rfl rfl ?_
          refine o_loadA (n := 6) gn rfl rfl (by kernel_rfl) (by kernel_rfl) (by first | exact S.cel 0 rfl | exact S.cel 1 rfl | exact S.cel 2 rfl | exact S.cel 3 rfl) (by first | decide | exact Nat.le_refl _ | (simp; done)) ?_
          refine o_call [_, _] gn rfl rfl (by kernel_rfl) rfl (C.mono (c51 (w := ⟨K, s, N, L, Co, .slice ka kids.length kc, kids⟩) (S0.sub1 S0.own0 S 1 rfl) hX hC hK hS2 ok.a8 ok.n9 ok.n10 ok.sz hn) ?_)
          rintro v g ⟨bs', S2⟩
          have S := S.ret 1 rfl S2
          refine ⟨ag0, ?_⟩
          refine wl_end ?_
          refine ⟨.inr rfl, _, rfl, ?_⟩
          exact ⟨bs', S.pick 1 rfl⟩
end
end Go.Proofs.YtoejddhaiogonaaDoor

namespace Go.Proofs.YtoejddhaiogonaaDoor
open Go.X

/-- The text of a twig. -/
def textS (T : List Tw) : Nat → Nat → ByteArray → List UInt8
  | 0, _, _ => []
  | f + 1, at', ind => match T[at']? with
    | some w => twT (textS T f) T w ind
    | none => []
/-- What all twigs of a tree have that may be. -/
def AllOk (T : List Tw) : Prop := ∀ (i : Nat) (w : Tw), T[i]? = some w → formOk w.K w.s w.N (kindsOf T w.kids) = true ∧ w.kids.length ≤ T.length
theorem all_kids {rec : Nat → Int → Option Nat} {T : List Tw} {w : Tw} {nest : Int} {Q : Nat → Prop} (hr : ∀ at' nest n, rec at' nest = some n → at' < n ∧ ∀ i, at' ≤ i → i < n → Q i) : ∀ {l : List Int} {i next n : Nat}, kidsW rec T w nest l i next = some n → next + l.length ≤ n ∧ ∀ i, next ≤ i → i < n → Q i
  | [], i, next, n, e => by
    simp [kidsW] at e
    subst e
    exact ⟨by simp, fun i h1 h2 => by omega⟩
  | k :: l, i, next, n, e => by
    simp only [kidsW] at e
    split at e
    · split at e
      · split at e
        · rename_i q hq
          obtain ⟨h1, h2⟩ := hr _ _ _ hq
          obtain ⟨h3, h4⟩ := all_kids hr e
          refine ⟨by rw [List.length_cons]; omega, fun i hi1 hi2 => ?_⟩
          by_cases h : i < q
          · exact h2 i hi1 h
          · exact h4 i (by omega) hi2
        · cases e
      · cases e
    · cases e
theorem all_walk {T : List Tw} : ∀ {f at' : Nat} {nest : Int} {n : Nat}, walkS T f at' nest = some n → at' < n ∧ ∀ i, at' ≤ i → i < n → ∀ w : Tw, T[i]? = some w → formOk w.K w.s w.N (kindsOf T w.kids) = true ∧ w.kids.length ≤ T.length
  | 0, _, _, _, e => by simp [walkS] at e
  | f + 1, at', nest, n, e => by
    have hle := (walkS_lt e).2
    simp only [walkS] at e
    split at e
    · rename_i w hw
      split at e
      · cases e
      · cases hq : kidsW (walkS T f) T w nest w.kids 0 (at' + 1) with
        | none => rw [hq] at e; cases e
        | some q =>
          rw [hq] at e
          simp only [finW] at e
          split at e
          · rename_i hf
            cases e
            obtain ⟨h1, h2⟩ := all_kids (Q := fun i => ∀ w : Tw, T[i]? = some w → formOk w.K w.s w.N (kindsOf T w.kids) = true ∧ w.kids.length ≤ T.length) (fun _ _ _ h => all_walk (f := f) h) hq
            refine ⟨by omega, fun i hi1 hi2 w' hw' => ?_⟩
            by_cases h : i = at'
            · subst h
              rw [hw] at hw'
              cases hw'
              exact ⟨hf, by omega⟩
            · exact h2 i (by omega) hi2 w' hw'
          · cases e
    · cases e
theorem may_all {T : List Tw} (h : mayS T = true) : AllOk T := by
  simp only [mayS, Bool.and_eq_true, decide_eq_true_eq] at h
  obtain ⟨⟨h1, _⟩, h2⟩ := h
  cases hw : walkS T (T.length + 1) 0 0 with
  | none => rw [hw] at h2; exact absurd h2 (show ¬ (-1 : Int) = T.length by omega)
  | some n =>
    rw [hw] at h2
    have : n = T.length := by have : (n : Int) = T.length := h2; omega
    subst this
    exact fun i w hi => (all_walk hw).2 i (Nat.zero_le _) (List.getElem?_eq_some_iff.1 hi).1 w hi
theorem may_kids {T : List Tw} (h : mayS T = true) (hT : T.length ≤ 1000) {i : Nat} {w : Tw} (hi : T[i]? = some w) : KidsOk T w i := by
  obtain ⟨h0, hO⟩ := may_own h
  have hl := (may_all h i w hi).2
  have hlt := (List.getElem?_eq_some_iff.1 hi).1
  refine ⟨by omega, fun j hj => ?_⟩
  have hm : w.kids[j] ∈ kidsAt T i := by rw [kidsAt_of hi]; exact List.getElem_mem hj
  have hr := hO.1 i (Nat.zero_le _) hlt _ hm
  obtain ⟨q, hq⟩ : ∃ q : Nat, w.kids[j] = q := ⟨w.kids[j].toNat, by omega⟩
  have hqlt : q < T.length := by omega
  exact ⟨q, T[q], by rw [List.getElem?_eq_getElem hj, hq], List.getElem?_eq_getElem hqlt, by omega⟩

section
variable {h0 : Hp} {sv : Value} {T : List Tw}
/-- twig -/
theorem tw_all (X : TreeAt h0 sv T) (hP : Pow h0) (hS : ∀ t, t ∈ T → ∃ bk, SlC 3 0 h0 t.ks (isV t.kids) t.kids.length bk) (hK : ∀ (i : Nat) (w : Tw), T[i]? = some w → KidsOk T w i) (hW : ∀ w, w ∈ T → WOk w) : ∀ (f lo : Nat), T.length - (lo + 1) ≤ f → TwC h0 sv T (textS T f) lo := by
  intro f
  induction f with
  | zero =>
    intro lo hf j w hj hq
    have := (List.getElem?_eq_some_iff.1 hq).1
    omega
  | succ f ih =>
    intro lo hf j w hj hq g pb l ind bs S0 hn
    have hjl := (List.getElem?_eq_some_iff.1 hq).1
    have e : textS T (f + 1) j ind = twT (textS T f) T w ind := by simp only [textS, hq]
    rw [e] at hn ⊢
    have hm := List.mem_of_getElem? hq
    exact c27s S0 X (ih j (by omega)) (hK j w hq) (hS w hm) hP (hW w hm) hn
end
end Go.Proofs.YtoejddhaiogonaaDoor

namespace Go.Proofs.YtoejddhaiogonaaDoor
open Go.X

theorem bytesOf_byV : ∀ l : List UInt8, bytesOf (byV l) = some l
  | [] => rfl
  | b :: l => by
    have e : bytesOf (byV (b :: l)) = cond (Nat.blt b.toNat 256) (match bytesOf (byV l) with | some l => some (b.toNat.toUInt8 :: l) | none => none) none := rfl
    have e2 : Nat.blt b.toNat 256 = true := (blt_iff _ _).2 b.toNat_lt
    rw [e, e2, bytesOf_byV l]
    simp [Nat.toUInt8]
/-- String, of what was put. -/
theorem string_pr {h g : Hp} {pb : Nat} {sv : Value} {l : List UInt8} {ind : ByteArray} {bs : List Nat} {L : List Res} (S : SH h [] (prR pb sv l ind bs :: L) g) (hl : l.length ≤ 1000000000) : ∃ g', stringX 5 [.pointer (some ⟨pb, 1, none⟩)] g = some (.string ⟨l.toArray⟩, g') ∧ KD g g' ∧ Ext h g' := by
  obtain ⟨addr, bv, h1, h2, h3, h4⟩ := S.res 0 rfl
  have hrow : rowOf g ⟨pb, 1 + 1, none⟩ 1 = some [bv] := by simp only [rowOf, h2]; rfl
  cases l with
  | nil =>
    rw [h4 rfl] at hrow
    exact ⟨g, by simp only [stringX, hrow]; rfl, .refl _, S.e0⟩
  | cons c l =>
    rcases h3 with ⟨_, _, hl0, _⟩ | ⟨b, m, rfl, hb, hm, hlt, rfl, hlen⟩
    · simp at hl0
    · have hbh : h.n ≤ b := (S.new b (by simp [owns, prR])).resolve_left (by simp)
      have hrow2 : rowOf g ⟨b, 0, none⟩ (l.length + 1) = some (byV (c :: l)) := by
        simp only [rowOf, hb]
        have e : Nat.ble (0 + (l.length + 1)) (byV (c :: l)).length = true := (ble_iff _ _).2 (by simp)
        rw [e, List.drop_zero, List.take_of_length_le (by simp)]; rfl
      have hm1 : (Nat.beq 5 5 && !Nat.beq m 1 && Nat.ble (l.length + 1) 1000000000) = true := by
        have e : Nat.ble (l.length + 1) 1000000000 = true := (ble_iff _ _).2 (by simpa using hl)
        rw [e]
        rcases hm with rfl | rfl <;> rfl
      refine ⟨g.put b .dead, ?_, KD.put _ (fun d e => by rw [hb] at e; cases e), ⟨by rw [Hp.n_put]; exact S.ext.n, fun i hi => by
        rw [Hp.get_put, if_neg (by omega)]; exact S.e0.get i hi⟩⟩
      have hr : rowOf g ⟨pb, 1 + 1, none⟩ 1 = some [.slice (some ⟨b, 0, none⟩) (l.length + 1) (l.length + 1)] := hrow
      simp only [stringX, hr, hrow2, hb, hm1, cond_true, bytesOf_byV]
end Go.Proofs.YtoejddhaiogonaaDoor

namespace Go.Proofs.YtoejddhaiogonaaDoor
open Go.X

section
variable {h : Hp} {sv : Value} {T : List Tw}
/-- Print -/
theorem c12 (B : Blk h) (hP : Pow h) (X : TreeAt h sv T) (hT : T.length ≤ 1000) (hs : ∀ t, t ∈ T → t.s.toList.length ≤ 100) (hS : ∀ t, t ∈ T → ∃ bk, SlC 3 0 h t.ks (isV t.kids) t.kids.length bk) (hW : mayS T = true → ∀ w, w ∈ T → WOk w)
    (hn0 : mayS T = true → (textS T (T.length + 1) 0 .empty).length ≤ 1000000000) : C trE 12 [.agg #[sv]] h fun v h' => v = .string (if mayS T = true then ⟨(textS T (T.length + 1) 0 .empty).toArray⟩ else ⟨#[]⟩) ∧ Ext h h' := by
  have Y := X
  obtain ⟨ta, tc, rfl⟩ := X.val
  refine c_enter (fu := Tryd.f12) (by kernel_rfl) rfl ?_
  have S := SH.start h
  refine w_seq ?_
  refine w_region (by kernel_rfl) ?_
  refine s_box S gn rfl rfl fun b1 g nb1 S => ?_
  refine o_assign gn rfl rfl ?_
  refine wl_end ?_
  refine w_seq ?_
  refine w_seq ?_
  refine w_region (by kernel_rfl) ?_
  refine o_loadA (n := 1) gn rfl rfl (by kernel_rfl) (by kernel_rfl) (by first | exact S.cel 0 rfl | exact S.cel 1 rfl | exact S.cel 2 rfl) (by first | decide | exact Nat.le_refl _ | (simp; done)) ?_
  refine o_call [_] gn rfl rfl (by kernel_rfl) rfl (C.mono (c10 (B.ext S.e0) (Y.ext S.e0) hT hs) ?_)
  rintro v g ⟨rfl, x⟩
  have S := S.grow x
  refine ⟨ag0, ?_⟩
  refine o_not gn rfl rfl ?_
  refine wl_end ?_
  refine w_cond rfl (fun hb => ?_) fun hb => ?_
  · skip
    refine w_seq ?_
    refine w_region (by kernel_rfl) ?_
    refine o_assign gn rfl rfl ?_
    refine wl_end ?_
    refine w_ret ?_
    refine ⟨.inl rfl, _, rfl, ?_⟩
    exact ⟨by rw [if_neg (show ¬ mayS T = true by simpa using hb)]; rfl, S.e0⟩
  · skip
    refine w_skip ?_
    have hmay : mayS T = true := by simpa using hb
    have hn := hn0 hmay
    have h0 := (may_own hmay).1
    obtain ⟨b, o, c, cs, e, m, hv, hg, hlb, hl6, hat⟩ := Y.at h0
    have hta : ta = some ⟨b, o, none⟩ := by injection hv
    have hq : T[0]? = some T[0] := List.getElem?_eq_getElem h0
    have hw4 : (cs.drop (o + Int.toNat 0 * 6)).take 6 = T[0].cells := hat 0 h0
    have hm0 := List.getElem_mem h0
    have e0 : textS T (T.length + 1) 0 .empty = twT (textS T T.length) T T[0] .empty := by simp only [textS, hq]
    rw [e0] at hn ⊢
    refine w_seq ?_
    refine w_region (by kernel_rfl) ?_
    refine o_loadA (n := 1) gn rfl rfl (by kernel_rfl) (by kernel_rfl) (by first | exact S.cel 0 rfl | exact S.cel 1 rfl | exact S.cel 2 rfl) (by first | decide | exact Nat.le_refl _ | (simp; done)) ?_
    refine o_build (cs := #[.slice ta T.length tc, .pointer none, .slice none 0 0, .string .empty]) (zv := .agg #[.slice none 0 0, .pointer none, .slice none 0 0, .string .empty]) (pl := [(0, 1), (1, 2), (3, 1)]) [(0, _)] gn rfl (by kernel_rfl) (by kernel_rfl) rfl (by kernel_rfl) ?_
    refine s_box S gn rfl rfl fun b2 g nb2 S => ?_
    refine o_assign gn rfl rfl ?_
    refine wl_end ?_
    refine w_seq ?_
    have S : SH h [] [prR b2 (.slice ta T.length tc) [] .empty [], cR b1 (.cells [.slice ta T.length tc] 24 0)] g :=
      pr_shut (.inl rfl) (fun _ => rfl) ((S.push (r := snR 5 0 (.slice none 0 0) (byV []) 0 []) (Ext.refl _) (.inl ⟨rfl, rfl, rfl, rfl⟩) (by simp [snR]) (by simp [snR]) (by simp [snR])).swap)
    refine w_region (by kernel_rfl) ?_
    refine o_move gn rfl rfl ?_
    refine o_fieldAddr (off := 0) gn rfl rfl (by kernel_rfl) ?_
    refine o_load gn rfl rfl (by kernel_rfl) (by first | exact S.cel 0 rfl | exact S.cel 1 rfl | exact S.cel 2 rfl | exact S.cel 3 rfl) rfl ?_
    rw [hta]
    refine o_indexAddr (zz := 6) gn rfl rfl rfl (by kernel_rfl) (by omega) (by omega) ?_
    refine o_loadA (n := 6) gn rfl rfl (by kernel_rfl) (by kernel_rfl) (S.old0 hg hlb) (by show o + 0 * 6 + 6 ≤ _; omega) ?_
    rw [hw4, ← hta]
    refine o_call [_, _] gn rfl rfl (by kernel_rfl) rfl (C.mono (c27s (S.pick 0 rfl) Y (tw_all Y hP hS (fun i w hi => may_kids hmay hT hi) (hW hmay) T.length 0 (by omega)) (may_kids hmay hT hq) (hS _ hm0) hP (hW hmay _ hm0) (by rw [List.length_nil]; omega)) ?_)
    rintro v g ⟨bs', S2⟩
    have S := S.ret 0 rfl S2
    refine ⟨ag0, ?_⟩
    refine wl_end ?_
    refine w_seq ?_
    rw [List.nil_append] at S
    obtain ⟨g2, hs1, hs2, hs3⟩ := string_pr S hn
    refine w_region (by kernel_rfl) ?_
    refine o_move gn rfl rfl ?_
    refine o_nilCheck gn rfl rfl ?_
    refine o_fieldAddr (off := 1) gn rfl rfl (by kernel_rfl) ?_
    refine o_sm [_] gn rfl rfl (by kernel_rfl) (by kernel_rfl) sm28 rfl hs1 hs2 ag0 ?_
    refine o_assign gn rfl rfl ?_
    refine wl_end ?_
    refine w_ret ?_
    refine ⟨.inl rfl, _, rfl, ?_⟩
    exact ⟨by rw [if_pos hmay]; rfl, hs3⟩
end
end Go.Proofs.YtoejddhaiogonaaDoor

namespace Go.Proofs.YtoejddhaiogonaaDoor
open Go.X

theorem wok_of {w : Tw} {kinds : List Int} (h : formOk w.K w.s w.N kinds = true) (hk : kinds.length = w.kids.length) (hs : w.s.size ≤ 1000000) : WOk w := by
  obtain ⟨K, s, N, L, Co, ks, kids⟩ := w
  simp only at h hk hs
  have key : ∀ F, formOf formT K = some F → F.kids.length ≤ kids.length ∧ F.least ≤ N ∧ N ≤ F.most := by
    intro F hF
    rw [formOk, hF] at h
    have h : fitsF F s N kinds = true := h
    rw [fitsF, Bool.and_eq_true] at h
    have h1 := h.1
    unfold headOk at h1
    simp only [Bool.and_eq_true, decide_eq_true_eq] at h1
    exact ⟨by omega, h1.1.1.2, h1.1.2⟩
  refine ⟨fun e => ?_, fun e => ?_, fun e => ?_, fun e => ?_, fun e => ?_, fun e => ?_, fun e => ?_, fun e => ?_, fun e => ?_, hs⟩
  · have e : K = 30 := e
    subst e; exact (key _ rfl).1
  · have e : K = 31 ∨ K = 32 := e
    rcases e with rfl | rfl <;> exact (key _ rfl).1
  · have e : K = 26 := e
    subst e; exact (key _ rfl).2
  · have e : K = 19 ∨ K = 20 := e
    rcases e with rfl | rfl <;> exact (key _ rfl).1
  · have e : K = 13 ∨ K = 14 ∨ K = 23 ∨ K = 24 := e
    rcases e with rfl | rfl | rfl | rfl
    · exact (key _ rfl).1
    · exact (key _ rfl).1
    · exact Nat.le_trans (show 2 ≤ 3 by omega) (key _ rfl).1
    · exact (key _ rfl).1
  · have e : K = 19 := e
    subst e; exact (key _ rfl).2
  · have e : K = 8 ∨ K = 10 := e
    rcases e with rfl | rfl
    · exact (key _ rfl).1
    · exact Nat.le_trans (show 1 ≤ 2 by omega) (key _ rfl).1
  · have e : K = 9 := e
    subst e; exact (key _ rfl).2
  · have e : K = 10 := e
    subst e
    have h1 : (0 : Int) ≤ N := (key _ rfl).2.1
    have h2 : N ≤ (1 : Int) := (key _ rfl).2.2
    show N = 0 ∨ N = 1
    omega
theorem may_wok {T : List Tw} (h : mayS T = true) (hs : ∀ t, t ∈ T → t.s.toList.length ≤ 100) : ∀ w, w ∈ T → WOk w := by
  intro w hw
  obtain ⟨i, hi, rfl⟩ := List.mem_iff_getElem.1 hw
  have h1 := (may_all h i T[i] (List.getElem?_eq_getElem hi)).1
  refine wok_of h1 (by simp [kindsOf]) ?_
  have := hs _ hw
  have e : T[i].s.size = T[i].s.toList.length := by rw [ByteArray.toList_eq]; rfl
  omega
end Go.Proofs.YtoejddhaiogonaaDoor

namespace Go.Proofs.YtoejddhaiogonaaDoor
open Go.X

/-- A twig's kids' texts cost no more than so much each. -/
def CostK (F : Nat → ByteArray → List UInt8) (kids : List Int) (cs : List Nat) : Prop := cs.length = kids.length ∧ ∀ (j : Nat) (k : Int), kids[j]? = some k → ∃ q : Nat, k = q ∧ ∀ ind : ByteArray, ind.size ≤ 2 * q → (F q ind).length + 2100 ≤ cs.getD j 0
theorem cost_kids {F : Nat → ByteArray → List UInt8} {rec : Nat → Int → Option Nat} {T : List Tw} {w : Tw} {nest : Int} (hr : ∀ at' nest n, rec at' nest = some n → at' < n ∧ ∀ ind : ByteArray, ind.size ≤ 2 * at' → (F at' ind).length + 2100 ≤ 6000 * (n - at')) :
    ∀ {l : List Int} {i next n : Nat}, kidsW rec T w nest l i next = some n → next ≤ n ∧ ∃ cs, CostK F l cs ∧ cs.sum ≤ 6000 * (n - next) ∧ ∀ k, k ∈ l → (next : Int) ≤ k
  | [], i, next, n, e => by
    simp [kidsW] at e
    subst e
    exact ⟨Nat.le_refl _, [], ⟨rfl, fun j k h => by simp at h⟩, by simp, fun k h => by simp at h⟩
  | k :: l, i, next, n, e => by
    simp only [kidsW] at e
    split at e
    · rename_i hk
      split at e
      · split at e
        · rename_i q hq
          obtain ⟨h1, h2⟩ := hr _ _ _ hq
          obtain ⟨h3, cs, h4, h5, h6⟩ := cost_kids hr e
          refine ⟨by omega, (6000 * (q - next)) :: cs, ⟨by simp [h4.1], ?_⟩, ?_, ?_⟩
          · intro j k' hj
            cases j with
            | zero =>
              simp only [List.getElem?_cons_zero, Option.some.injEq] at hj
              exact ⟨next, by rw [← hj, hk], fun ind hi => h2 ind hi⟩
            | succ j =>
              simp only [List.getElem?_cons_succ] at hj
              obtain ⟨q', e1, e2⟩ := h4.2 j k' hj
              exact ⟨q', e1, fun ind hi => by simpa using e2 ind hi⟩
          · rw [List.sum_cons]; omega
          · intro k' hm
            rcases List.mem_cons.1 hm with rfl | hm
            · omega
            · have := h6 k' hm; omega
        · cases e
      · cases e
    · cases e
theorem cat_len (b : ByteArray) : (catL [b]).length = b.size := by
  simp [catL, ByteArray.toList_eq]
theorem cat_len2 (a b : ByteArray) : (catL [a, b]).length = a.size + b.size := by
  simp [catL, ByteArray.toList_eq]
theorem cat_len3 (a b c : ByteArray) : (catL [a, b, c]).length = a.size + b.size + c.size := by
  simp [catL, ByteArray.toList_eq]; omega

section
variable {F : Nat → ByteArray → List UInt8} {T : List Tw} {w : Tw} {ind : ByteArray} {cs : List Nat}
theorem cost_kid (h : CostK F w.kids cs) (hlo : ∀ q : Nat, (q : Int) ∈ w.kids → ind.size ≤ 2 * q) (i : Nat) : (kidT F T w ind i).length ≤ cs.getD i 0 ∧ (i < cs.length → (kidT F T w ind i).length + 2000 ≤ cs.getD i 0) := by
  unfold kidT
  split
  · rename_i e
    have hl : w.kids.length ≤ i := List.getElem?_eq_none_iff.1 e
    exact ⟨Nat.zero_le _, fun hi => by rw [h.1] at hi; omega⟩
  · rename_i k e
    obtain ⟨q, rfl, h2⟩ := h.2 i k e
    have := h2 ind (hlo q (List.mem_of_getElem? e))
    simp only [Int.toNat_natCast]
    split
    · exact ⟨by simp, fun _ => by rw [List.length_nil]; omega⟩
    · split
      · have e1 : (catL [⟨#[40]⟩]).length = 1 := by rw [cat_len]; rfl
        have e2 : (catL [⟨#[41]⟩]).length = 1 := by rw [cat_len]; rfl
        simp only [List.length_append, e1, e2]
        omega
      · omega
theorem sum_ge3 : ∀ cs : List Nat, cs.getD 0 0 + cs.getD 1 0 + cs.getD 2 0 ≤ cs.sum
  | [] => by simp
  | [a] => by simp
  | [a, b] => by simp
  | a :: b :: c :: l => by simp; omega
theorem sum_drop (cs : List Nat) (k : Nat) : (cs.take k).sum + (cs.drop k).sum = cs.sum := by
  rw [← List.sum_append, List.take_append_drop]
theorem cost_range (G : Nat → List UInt8) (cs : List Nat) (hG : ∀ i, i < cs.length → (G i).length ≤ cs.getD i 0) : ∀ m, m ≤ cs.length → ((List.range m).flatMap G).length ≤ (cs.take m).sum
  | 0, _ => by simp
  | m + 1, h => by
    have h1 := cost_range G cs hG m (by omega)
    have h2 := hG m (by omega)
    rw [List.getD_eq_getElem?_getD, List.getElem?_eq_getElem (by omega), Option.getD_some] at h2
    rw [flat_take, List.length_append, List.take_add_one, List.sum_append, List.getElem?_eq_getElem (by omega), Option.toList_some, List.sum_singleton]
    omega
theorem cost_row (h : CostK F w.kids cs) (hlo : ∀ q : Nat, (q : Int) ∈ w.kids → ind.size ≤ 2 * q) (word : ByteArray) (from' : Nat) : (rowT F T w ind word from').length ≤ word.size + (cs.drop from').sum := by
  unfold rowT
  rw [List.length_append, cat_len]
  have := cost_range (fun i => catL [⟨#[32]⟩] ++ kidT F T w ind (from' + i)) (cs.drop from') (fun i hi => by
    rw [List.length_drop] at hi
    have h1 := (cost_kid (T := T) h hlo (from' + i)).2 (by omega)
    have e1 : (catL [⟨#[32]⟩]).length = 1 := by rw [cat_len]; rfl
    have e2 : (cs.drop from').getD i 0 = cs.getD (from' + i) 0 := by simp [List.getD_eq_getElem?_getD]
    rw [List.length_append, e1, e2]
    omega) (w.kids.length - from') (by rw [List.length_drop, h.1]; omega)
  have e3 : ((cs.drop from').take (w.kids.length - from')) = cs.drop from' := List.take_of_length_le (by rw [List.length_drop, h.1]; omega)
  rw [e3] at this
  omega
theorem flat_cost (G : Int → List UInt8) : ∀ (l : List Int) (cs : List Nat), cs.length = l.length → (∀ j k, l[j]? = some k → (G k).length ≤ cs.getD j 0) → (l.flatMap G).length ≤ cs.sum
  | [], [], _, _ => by simp
  | [], _ :: _, h, _ => by simp at h
  | _ :: _, [], h, _ => by simp at h
  | k :: l, c :: cs, h, hG => by
    have h1 := flat_cost G l cs (by simpa using h) (fun j k' hj => by simpa using hG (j + 1) k' (by simpa using hj))
    have h2 := hG 0 k rfl
    simp at h2
    rw [List.flatMap_cons, List.length_append, List.sum_cons]
    omega
theorem cost_braces {l : List Int} (h : CostK F l cs) (hlo : ∀ q : Nat, (q : Int) ∈ l → ind.size + 2 ≤ 2 * q) (hi : ind.size ≤ 2000) : (bracesT F ind l).length ≤ ind.size + 10 + cs.sum := by
  unfold bracesT
  split
  · have e1 : (catL [⟨#[123, 32, 125]⟩]).length = 3 := by rw [cat_len]; rfl
    omega
  · have e1 : (catL [⟨#[123, 10]⟩]).length = 2 := by rw [cat_len]; rfl
    have e2 : (⟨#[125]⟩ : ByteArray).size = 1 := rfl
    have e3 : (catL [⟨#[10]⟩]).length = 1 := by rw [cat_len]; rfl
    have e4 : (ind ++ ⟨#[32, 32]⟩ : ByteArray).size = ind.size + 2 := by rw [ByteArray.size_append]; rfl
    have := flat_cost (fun k => catL [ind ++ ⟨#[32, 32]⟩] ++ F k.toNat (ind ++ ⟨#[32, 32]⟩) ++ catL [⟨#[10]⟩]) l cs h.1 (fun j k hj => by
      obtain ⟨q, rfl, h2⟩ := h.2 j k hj
      have h3 := hlo q (List.mem_of_getElem? hj)
      have h4 := h2 (ind ++ ⟨#[32, 32]⟩) (by rw [e4]; omega)
      simp only [Int.toNat_natCast, List.length_append, cat_len, e4, e3]
      omega)
    simp only [List.length_append, e1, cat_len2, e2]
    omega
end
end Go.Proofs.YtoejddhaiogonaaDoor

namespace Go.Proofs.YtoejddhaiogonaaDoor
open Go.X

theorem lens : (∀ a b : List UInt8, (a ++ b).length = a.length + b.length) ∧ (∀ a, (catL [a]).length = a.size) ∧ (∀ a b, (catL [a, b]).length = a.size + b.size) ∧ (∀ a b c, (catL [a, b, c]).length = a.size + b.size + c.size) ∧ (∀ a b : ByteArray, (a ++ b).size = a.size + b.size) ∧ (⟨#[40]⟩ : ByteArray).size = 1 ∧ (⟨#[41]⟩ : ByteArray).size = 1 ∧ (⟨#[123, 32, 125]⟩ : ByteArray).size = 3 ∧ (⟨#[123, 10]⟩ : ByteArray).size = 2 ∧ (⟨#[32, 32]⟩ : ByteArray).size = 2 ∧ (⟨#[10]⟩ : ByteArray).size = 1 ∧ (⟨#[125]⟩ : ByteArray).size = 1 ∧ (⟨#[32]⟩ : ByteArray).size = 1 ∧ (⟨#[32, 116, 111, 32]⟩ : ByteArray).size = 4 ∧ (⟨#[32, 101, 108, 115, 101, 32]⟩ : ByteArray).size = 6 ∧ (⟨#[119, 104, 105, 108, 101, 32]⟩ : ByteArray).size = 6 ∧ (⟨#[105, 102, 32]⟩ : ByteArray).size = 3 ∧ (⟨#[97, 114, 114]⟩ : ByteArray).size = 3 ∧ (⟨#[108, 101, 110]⟩ : ByteArray).size = 3 ∧ (⟨#[102, 110]⟩ : ByteArray).size = 2 ∧ (⟨#[110, 117, 108, 108]⟩ : ByteArray).size = 4 ∧ (⟨#[105, 116]⟩ : ByteArray).size = 2 ∧ (⟨#[46]⟩ : ByteArray).size = 1 ∧ (⟨#[91]⟩ : ByteArray).size = 1 ∧ (⟨#[93]⟩ : ByteArray).size = 1 ∧ (⟨#[110, 101, 119, 32]⟩ : ByteArray).size = 4 ∧ (⟨#[99, 97, 108, 108]⟩ : ByteArray).size = 4 ∧ (⟨#[99, 97, 110, 99, 101, 108]⟩ : ByteArray).size = 6 ∧ (⟨#[106, 111, 105, 110]⟩ : ByteArray).size = 4 ∧ (⟨#[108, 111, 103]⟩ : ByteArray).size = 3 ∧ (⟨#[118, 97, 114, 32]⟩ : ByteArray).size = 4 ∧ (⟨#[32, 61, 32]⟩ : ByteArray).size = 3 ∧ (⟨#[59]⟩ : ByteArray).size = 1 ∧ (⟨#[112, 111, 115, 116, 32]⟩ : ByteArray).size = 5 ∧ (⟨#[32, 102, 114, 111, 110, 116]⟩ : ByteArray).size = 6 ∧ (⟨#[32, 97, 102, 116, 101, 114, 32]⟩ : ByteArray).size = 7 ∧ (⟨#[115, 112, 97, 119, 110, 32]⟩ : ByteArray).size = 6 ∧ (⟨#[101, 110, 97, 98, 108, 101, 32]⟩ : ByteArray).size = 7 ∧ (⟨#[100, 105, 115, 97, 98, 108, 101, 32]⟩ : ByteArray).size = 8 ∧ (⟨#[114, 101, 116, 117, 114, 110]⟩ : ByteArray).size = 6 ∧ (⟨#[99, 114, 101, 97, 116, 101]⟩ : ByteArray).size = 6 ∧ (⟨#[115, 116, 97, 114, 116]⟩ : ByteArray).size = 5 ∧ (⟨#[115, 116, 111, 112]⟩ : ByteArray).size = 4 ∧ (⟨#[100, 101, 115, 116, 114, 111, 121]⟩ : ByteArray).size = 7 ∧ (⟨#[32, 111, 102, 102]⟩ : ByteArray).size = 4 ∧ (⟨#[32, 111, 110]⟩ : ByteArray).size = 3 ∧ (⟨#[108, 111, 111, 112, 101, 114, 32]⟩ : ByteArray).size = 7 ∧ (⟨#[99, 108, 97, 115, 115, 32]⟩ : ByteArray).size = 6 ∧ (⟨#[32, 123]⟩ : ByteArray).size = 2 ∧ (⟨#[32, 125]⟩ : ByteArray).size = 2 ∧ (⟨#[102, 110, 32]⟩ : ByteArray).size = 3 ∧ (⟨#[99, 111, 109, 112, 32]⟩ : ByteArray).size = 5 ∧ (⟨#[32, 111, 110, 32]⟩ : ByteArray).size = 4 ∧ (⟨#[101, 118, 101, 110, 116, 32]⟩ : ByteArray).size = 6 ∧ (⟨#[109, 97, 105, 110]⟩ : ByteArray).size = 4 :=
  ⟨fun _ _ => List.length_append, cat_len, cat_len2, cat_len3, fun _ _ => ByteArray.size_append, rfl, rfl, rfl, rfl, rfl, rfl, rfl, rfl, rfl, rfl, rfl, rfl, rfl, rfl, rfl, rfl, rfl, rfl, rfl, rfl, rfl, rfl, rfl, rfl, rfl, rfl, rfl, rfl, rfl, rfl, rfl, rfl, rfl, rfl, rfl, rfl, rfl, rfl, rfl, rfl, rfl, rfl, rfl, rfl, rfl, rfl, rfl, rfl, rfl, rfl⟩
theorem szl (l : List UInt8) : (⟨l.toArray⟩ : ByteArray).size = l.length := by simp [ByteArray.size]
theorem termWord_le (K : Int) : (termWord K).size ≤ 10 := by
  unfold termWord; repeat' split
  all_goals decide
theorem stmtWord_le (K : Int) : (stmtWord K).size ≤ 10 := by
  unfold stmtWord; repeat' split
  all_goals decide
theorem lifeWord_le (K : Int) : (lifeWord K).size ≤ 10 := by
  unfold lifeWord; repeat' split
  all_goals decide
theorem eventWord_le (K : Int) : (eventWord K).size ≤ 10 := by
  unfold eventWord; repeat' split
  all_goals decide
theorem branchWord_le (w : Tw) : (branchWord w).size ≤ 10 := by
  unfold branchWord; repeat' split
  all_goals decide
theorem itoaB_le {n : Int} (h0 : -1 ≤ n) (h1 : n ≤ 2147483647) : (itoaB n).size ≤ 21 := by
  have := Lib.itoa_length_le n (by omega) (by omega)
  rw [itoaB, szl]; exact this

section
variable {F : Nat → ByteArray → List UInt8} {T : List Tw} {w : Tw} {ind : ByteArray} {cs : List Nat}
theorem cost_stmt (hs : w.s.size ≤ 100) (hW : WOk w) (k0 : (kidT F T w ind 0).length ≤ cs.getD 0 0) (k1 : (kidT F T w ind 1).length ≤ cs.getD 1 0) (k2 : (kidT F T w ind 2).length ≤ cs.getD 2 0) (s3 : cs.getD 0 0 + cs.getD 1 0 + cs.getD 2 0 ≤ cs.sum)
    (r0 : (rowT F T w ind (stmtWord w.K) 0).length ≤ 10 + cs.sum) : (stmtT F T w ind).length ≤ 400 + cs.sum := by
  have e4 := branchWord_le w
  have t1 : (toT F T w ind).length ≤ 10 + cs.getD 1 0 := by
    unfold toT
    split
    · simp only [lens]; omega
    · rw [List.length_nil]; omega
  have t2 : (elseT F T w ind).length ≤ 10 + cs.getD 2 0 := by
    unfold elseT
    split
    · simp only [lens]; omega
    · rw [List.length_nil]; omega
  have t3 : w.K = 19 → (if 0 < w.N then catL [⟨#[32, 97, 102, 116, 101, 114, 32]⟩, itoaB w.N] else []).length ≤ 40 := by
    intro e
    have hit := itoaB_le (hW.n19 e).1 (hW.n19 e).2
    split
    · simp only [lens]; omega
    · rw [List.length_nil]; omega
  have t4 : (if w.N < 0 then catL [⟨#[32, 102, 114, 111, 110, 116]⟩] else []).length ≤ 40 := by
    split
    · simp only [lens]; omega
    · rw [List.length_nil]; omega
  unfold stmtT
  split
  · simp only [lens]; omega
  split
  · simp only [lens]; omega
  split
  · rename_i e
    have := t3 e
    simp only [lens] at *; omega
  split
  · simp only [lens]; omega
  split
  · simp only [lens]; omega
  split
  · simp only [lens]; omega
  split
  · simp only [lens]; omega
  split
  · unfold branchT
    simp only [lens]; omega
  · simp only [lens]; omega
theorem cost_term (hs : w.s.size ≤ 100) (hW : WOk w) (k0 : (kidT F T w ind 0).length ≤ cs.getD 0 0) (k1 : (kidT F T w ind 1).length ≤ cs.getD 1 0) (s3 : cs.getD 0 0 + cs.getD 1 0 + cs.getD 2 0 ≤ cs.sum)
    (r0 : (rowT F T w ind (termWord w.K) 0).length ≤ 10 + cs.sum) : (termT F T w ind).length ≤ 400 + cs.sum := by
  unfold termT
  split
  · rename_i e
    have hit := itoaB_le (show -1 ≤ w.N by have := (hW.n26 e).1; omega) (hW.n26 e).2
    rw [cat_len]; omega
  split
  · simp only [lens]; omega
  split
  · simp only [lens]; omega
  split
  · rw [cat_len]; omega
  split
  · simp only [lens]; omega
  split
  · simp only [lens]; omega
  split
  · simp only [lens]; omega
  split
  · simp only [lens]; omega
  · omega
theorem cost_decl (hs : w.s.size ≤ 100) (hi : ind.size ≤ 2000) (k0 : (kidT F T w ind 0).length ≤ (cs.take 1).sum) (d1 : (cs.take 1).sum + (cs.drop 1).sum = cs.sum)
    (r0 : ∀ word : ByteArray, (rowT F T w ind word 0).length ≤ word.size + cs.sum) (r1 : ∀ word : ByteArray, (rowT F T w ind word 1).length ≤ word.size + (cs.drop 1).sum) (hb : (bracesT F ind (w.kids.drop 1)).length ≤ ind.size + 10 + (cs.drop 1).sum) : (declT F T w ind).length ≤ 2400 + cs.sum := by
  have e2 := lifeWord_le w.N
  have e3 := eventWord_le w.N
  unfold declT
  split
  · simp only [lens]; omega
  split
  · have a1 := r0 (⟨#[99, 108, 97, 115, 115, 32]⟩ ++ w.s ++ ⟨#[32, 123]⟩)
    simp only [lens] at a1
    simp only [lens]; omega
  split
  · have a1 := r0 w.s
    simp only [lens]; omega
  split
  · rw [cat_len]; omega
  split
  · have a1 := r0 (⟨#[118, 97, 114, 32]⟩ ++ w.s)
    simp only [lens] at a1
    simp only [lens]; omega
  split
  · have a1 := r0 (⟨#[102, 110, 32]⟩ ++ w.s)
    simp only [lens] at a1
    omega
  split
  · simp only [lens] at *; omega
  split
  · have a1 := r0 (lifeWord w.N)
    omega
  split
  · have a1 := r1 (eventWord w.N)
    simp only [lens] at *; omega
  split
  · have a1 := r0 ⟨#[109, 97, 105, 110]⟩
    simp only [lens] at a1
    omega
  · rw [List.length_nil]; omega
theorem cost_tw (h : CostK F w.kids cs) (hlo : ∀ q : Nat, (q : Int) ∈ w.kids → ind.size + 2 ≤ 2 * q) (hi : ind.size ≤ 2000) (hs : w.s.size ≤ 100) (hW : WOk w) : (twT F T w ind).length ≤ 2400 + cs.sum := by
  have hlo' : ∀ q : Nat, (q : Int) ∈ w.kids → ind.size ≤ 2 * q := fun q hq => by have := hlo q hq; omega
  have k0 := (cost_kid (T := T) h hlo' 0).1
  have k1 := (cost_kid (T := T) h hlo' 1).1
  have k2 := (cost_kid (T := T) h hlo' 2).1
  have s3 := sum_ge3 cs
  have r0 := fun word => cost_row (T := T) h hlo' word 0
  have r1 := fun word => cost_row (T := T) h hlo' word 1
  have d1 := sum_drop cs 1
  have d2 : cs.getD 0 0 = (cs.take 1).sum := by cases cs <;> simp
  rw [List.drop_zero] at r0
  unfold twT
  split
  · have e5 : (catL [⟨#[10]⟩]).length = 1 := by rw [cat_len]; rfl
    have := flat_cost (fun k => F k.toNat ind ++ catL [⟨#[10]⟩]) w.kids cs h.1 (fun j k hj => by
      obtain ⟨q, rfl, h2⟩ := h.2 j k hj
      have h4 := h2 ind (hlo' q (List.mem_of_getElem? hj))
      simp only [Int.toNat_natCast, List.length_append, e5]
      omega)
    omega
  split
  · have := cost_braces h hlo hi
    omega
  split
  · have := cost_stmt hs hW k0 k1 k2 s3 (by have := r0 (stmtWord w.K); have := stmtWord_le w.K; omega)
    omega
  split
  · have := cost_term hs hW k0 k1 s3 (by have := r0 (termWord w.K); have := termWord_le w.K; omega)
    omega
  · refine cost_decl hs hi (by rw [← d2]; exact k0) d1 r0 r1 (cost_braces ⟨by simp [h.1], fun j k hj => ?_⟩ (fun q hq => hlo q (List.mem_of_mem_drop hq)) hi)
    rw [List.getElem?_drop] at hj
    obtain ⟨q, e, h2⟩ := h.2 (1 + j) k hj
    have : (cs.drop 1).getD j 0 = cs.getD (1 + j) 0 := by simp [List.getD_eq_getElem?_getD, Nat.add_comm]
    rw [this]
    exact ⟨q, e, h2⟩
end

/-- A text costs no more than so much for each twig. -/
theorem cost_walk {T : List Tw} (hT : T.length ≤ 1000) (hW : ∀ w, w ∈ T → WOk w) (hs : ∀ t, t ∈ T → t.s.size ≤ 100) : ∀ {f at' : Nat} {nest : Int} {n : Nat}, walkS T f at' nest = some n → at' < n ∧ ∀ f2, f ≤ f2 → ∀ ind : ByteArray, ind.size ≤ 2 * at' → (textS T f2 at' ind).length + 2100 ≤ 6000 * (n - at')
  | 0, _, _, _, e => by simp [walkS] at e
  | f + 1, at', nest, n, e => by
    have hle := (walkS_lt e).1
    have hle2 := (walkS_lt e).2
    simp only [walkS] at e
    split at e
    · rename_i w hw
      split at e
      · cases e
      · cases hq : kidsW (walkS T f) T w nest w.kids 0 (at' + 1) with
        | none => rw [hq] at e; cases e
        | some q =>
          rw [hq] at e
          simp only [finW] at e
          split at e
          · cases e
            refine ⟨hle, fun f2 hf2 ind hi => ?_⟩
            obtain ⟨f3, rfl⟩ : ∃ f3, f2 = f3 + 1 := ⟨f2 - 1, by omega⟩
            have hat := (List.getElem?_eq_some_iff.1 hw).1
            obtain ⟨h1, cs, h2, h3, h4⟩ := cost_kids (F := textS T f3) (fun a b c h => ⟨(cost_walk hT hW hs (f := f) h).1, fun ind hi => (cost_walk hT hW hs (f := f) h).2 f3 (by omega) ind hi⟩) hq
            have hm := List.mem_of_getElem? hw
            have := cost_tw (T := T) h2 (ind := ind) (fun q' hq' => by have := h4 _ hq'; omega) (by omega) (hs w hm) (hW w hm)
            have e5 : textS T (f3 + 1) at' ind = twT (textS T f3) T w ind := by simp only [textS, hw]
            rw [e5]
            omega
          · cases e
    · cases e
theorem may_text {T : List Tw} (h : mayS T = true) (hT : T.length ≤ 1000) (hs : ∀ t, t ∈ T → t.s.toList.length ≤ 100) : (textS T (T.length + 1) 0 .empty).length ≤ 1000000000 := by
  have hW := may_wok h hs
  simp only [mayS, Bool.and_eq_true, decide_eq_true_eq] at h
  obtain ⟨⟨h1, _⟩, h2⟩ := h
  cases hw : walkS T (T.length + 1) 0 0 with
  | none => rw [hw] at h2; exact absurd h2 (show ¬ (-1 : Int) = T.length by omega)
  | some n =>
    have := (cost_walk hT hW (fun t ht => by
      have := hs t ht
      have e : t.s.size = t.s.toList.length := by rw [ByteArray.toList_eq]; rfl
      omega) hw).2 (T.length + 1) (Nat.le_refl _) .empty (by decide)
    have := (walkS_lt hw).2
    omega
end Go.Proofs.YtoejddhaiogonaaDoor

namespace Go.Proofs.YtoejddhaiogonaaDoor
open Go.ChangeShapes Go.WideShapes Go.ChangeAt Go.RowKit Go.Deep Go.X

set_option maxRecDepth 100000

theorem trp_named : Tryd.prog.globalNamed "internal/strconv.uint64pow10" = some 0 := by kernel_rfl
theorem trp_type : (Tryd.prog.globals[0]?).map (·.type) = some 115 := by kernel_rfl
theorem trp_arr : Tryd.prog.underlying 115 = some (.array 20 107) := by kernel_rfl
theorem trp_u64 : Tryd.prog.underlying 107 = some (.int .u64) := by kernel_rfl
theorem trp_cell : Tryd.prog.cellsOf 107 = 1 := by kernel_rfl
theorem trp_cells : Tryd.prog.cellsOf 115 = 20 := by kernel_rfl
theorem pow_of {L : List (String × DataW Unit)} (hb : ((L.filter fun x => x.2.handleName?.isNone).filter fun x => x.1 == "internal/strconv.uint64pow10") = [("internal/strconv.uint64pow10", Lib.tabData .u64 Lib.pow10Tab)]) {W : World} (h : laidMetH Tryd.prog L W) : Pow (Hp.all W) := by
  refine ⟨?_, by have := topB_256 W; show 0 < topB W; omega⟩
  have h1 := (laidMetH_iff.1 h).1.filter fun x => x.1 == "internal/strconv.uint64pow10"
  rw [hb] at h1
  have hT : Lib.TabIs Tryd.prog W "internal/strconv.uint64pow10" .u64 Lib.pow10Tab := Lib.tabIs_of_head trp_named trp_type trp_arr trp_u64 trp_cell trp_cells (rest := []) h1
  obtain ⟨e, fr, hg⟩ := tab_block trp_named hT
  have hget : (Hp.all W).get 0 = some (.cells (Lib.pow10Tab.map (Value.int .u64)) e 1) := by
    rw [Hp.all_get, allObj, hg]
    simp only [Option.some.injEq, AObj.cells.injEq, and_true]
    rw [List.map_map]
    refine List.map_congr_left fun n _ => ?_
    exact selfX_eq (.int _ _)
  have hs : tabThere 0 (Lib.pow10Tab.map (Value.int .u64)) (Hp.empty.put 0 (.cells (Lib.pow10Tab.map (Value.int .u64)) 0 1)) = true := by kernel_rfl
  unfold tabThere at *
  rw [hget]
  rw [Hp.get_put, if_pos rfl] at hs
  exact hs
end Go.Proofs.YtoejddhaiogonaaDoor

namespace Go.Proofs.YtoejddhaiogonaaDoor
open Go.X

/-- A twig, but for its place and for where its kids lie. -/
def Tw.pl (w : Tw) : Tw := ⟨w.K, w.s, w.N, 0, 0, .slice none 0 0, w.kids⟩
theorem pl_at (T : List Tw) (i : Nat) : (T.map Tw.pl)[i]? = (T[i]?).map Tw.pl := List.getElem?_map ..
theorem kinds_pl (T : List Tw) (l : List Int) : kindsOf (T.map Tw.pl) l = kindsOf T l := by
  unfold kindsOf
  refine List.map_congr_left fun k _ => ?_
  rw [pl_at, Option.map_map]; rfl
theorem kidsW_pl {rec rec' : Nat → Int → Option Nat} (hr : ∀ a n, rec' a n = rec a n) (T : List Tw) (w : Tw) (nest : Int) : ∀ (l : List Int) (i next : Nat), kidsW rec' (T.map Tw.pl) w.pl nest l i next = kidsW rec T w nest l i next
  | [], _, _ => rfl
  | k :: l, i, next => by
    simp only [kidsW, pl_at]
    cases T[next]? with
    | none => rfl
    | some kid =>
      simp only [Option.map_some, hr, show w.pl.K = w.K from rfl, show w.pl.s = w.s from rfl, show kid.pl.K = kid.K from rfl, show kid.pl.s = kid.s from rfl]
      split
      · split
        · exact kidsW_pl hr T w nest l (i + 1) _
        · rfl
      · rfl
theorem walk_pl (T : List Tw) : ∀ (f a : Nat) (n : Int), walkS (T.map Tw.pl) f a n = walkS T f a n
  | 0, _, _ => rfl
  | f + 1, a, n => by
    simp only [walkS, pl_at]
    cases T[a]? with
    | none => rfl
    | some w =>
      simp only [Option.map_some, kinds_pl, kidsW_pl (walk_pl T f), show w.pl.K = w.K from rfl, show w.pl.s = w.s from rfl, show w.pl.N = w.N from rfl, show w.pl.kids = w.kids from rfl]
theorem may_pl (T : List Tw) : mayS (T.map Tw.pl) = mayS T := by
  unfold mayS
  rw [walk_pl, List.length_map]
  cases T <;> rfl

/-- One twig of a nested tree. -/
def nw (K : Int) (s : ByteArray) (kids : List Int) : Tw := ⟨K, s, 0, 0, 0, .slice none 0 0, kids⟩
def nest0 : List Tw := [nw 1 .empty [1], nw 11 .empty [2], nw 12 .empty [3]]
/-- What one round adds to n twigs. -/
def nestR (what n : Nat) : List Tw :=
  if what = 0 then [nw 24 .empty [(n + 1 : Nat), (n + 2 : Nat)], nw 28 .empty [], nw 12 .empty [(n + 3 : Nat)]] else
  if what = 1 then [nw 35 .empty [(n + 1 : Nat)]] else
  if what = 2 then [nw 31 .empty [(n + 1 : Nat), (n + 2 : Nat)], nw 29 ⟨#[97]⟩ []] else
  [nw 32 ⟨#[45]⟩ [(n + 1 : Nat), (n + 2 : Nat)], nw 28 .empty []]
def nestW (what : Nat) : Nat → List Tw
  | 0 => if what = 0 then nest0 else nest0 ++ [nw 18 .empty [4]]
  | m + 1 => nestW what m ++ nestR what (nestW what m).length
/-- The nested tree, of m + 1. -/
def nestT (what m : Nat) : List Tw :=
  if what = 0 then nestW what m ++ [nw 25 .empty []] else
  if what = 3 then nestW what m ++ nestR 3 (nestW what m).length ++ [nw 28 .empty []] else nestW what m ++ [nw 28 .empty []]
def nestAll (what : Nat) : Bool := (List.range 70).all fun m => mayS (nestT what m) == decide (m < 64)
theorem nest_0 : nestAll 0 = true := by kernel_rfl
theorem nest_1 : nestAll 1 = true := by kernel_rfl
theorem nest_2 : nestAll 2 = true := by kernel_rfl
theorem nest_3 : nestAll 3 = true := by kernel_rfl
theorem nest_may {what m : Nat} (hw : what ≤ 3) (hm : m < 70) : mayS (nestT what m) = decide (m < 64) := by
  have key : ∀ w, nestAll w = true → mayS (nestT w m) = decide (m < 64) := fun w h => by
    have := List.all_eq_true.1 h m (List.mem_range.2 hm)
    exact eq_of_beq this
  rcases (show what = 0 ∨ what = 1 ∨ what = 2 ∨ what = 3 by omega) with rfl | rfl | rfl | rfl
  · exact key 0 nest_0
  · exact key 1 nest_1
  · exact key 2 nest_2
  · exact key 3 nest_3
theorem nestW_len (what : Nat) : ∀ m, (nestW what m).length ≤ 4 + 3 * m
  | 0 => by unfold nestW; split <;> simp [nest0]
  | m + 1 => by
    have := nestW_len what m
    rw [nestW, List.length_append]
    have : (nestR what (nestW what m).length).length ≤ 3 := by unfold nestR; repeat' split
                                                               all_goals simp
    omega
theorem nestT_len (what m : Nat) : (nestT what m).length ≤ 8 + 3 * m := by
  have := nestW_len what m
  unfold nestT
  repeat' split
  all_goals simp [nestR]
  all_goals omega
end Go.Proofs.YtoejddhaiogonaaDoor

namespace Go.Proofs.YtoejddhaiogonaaDoor
open Go.X

section
variable {h0 h : Hp} {ds : List Nat} {L : List Res} {r a b : Res}
theorem _root_.Go.X.SH.split2 (S : SH h0 ds (r :: L) h) (e : r.own = a.own ++ b.own) (ha : a.P h) (hb : b.P h) : SH h0 ds (a :: b :: L) h := by
  have eo : owns (a :: b :: L) = owns (r :: L) := by simp only [owns_cons, e, List.append_assoc]
  refine ⟨S.ext, fun q hq => ?_, by rw [eo]; exact S.lt, by rw [eo]; exact S.new, by rw [eo]; exact S.nd⟩
  rcases List.mem_cons.1 hq with rfl | hq
  · exact ha
  rcases List.mem_cons.1 hq with rfl | hq
  · exact hb
  · exact S.hold q (List.mem_cons_of_mem _ hq)
theorem _root_.Go.X.SH.join2 (S : SH h0 ds (a :: b :: L) h) (e : r.own = a.own ++ b.own) (hp : r.P h) : SH h0 ds (r :: L) h := by
  have eo : owns (r :: L) = owns (a :: b :: L) := by simp only [owns_cons, e, List.append_assoc]
  refine ⟨S.ext, fun q hq => ?_, by rw [eo]; exact S.lt, by rw [eo]; exact S.new, by rw [eo]; exact S.nd⟩
  rcases List.mem_cons.1 hq with rfl | hq
  · exact hp
  · exact S.hold q (List.mem_cons_of_mem _ (List.mem_cons_of_mem _ hq))
end

def cellsOf (T : List Tw) : List Value := T.flatMap Tw.cells
theorem cellsOf_snoc (T : List Tw) (w : Tw) : cellsOf (T ++ [w]) = cellsOf T ++ w.cells := by simp [cellsOf]
theorem cellsOf_at : ∀ (T : List Tw) (rest : List Value) (i : Nat) (hi : i < T.length), ((cellsOf T ++ rest).drop (i * 6)).take 6 = T[i].cells
  | t :: T, rest, 0, _ => rfl
  | t :: T, rest, i + 1, hi => by
    have e : cellsOf (t :: T) ++ rest = t.cells ++ (cellsOf T ++ rest) := by simp [cellsOf]
    have e2 : (i + 1) * 6 = t.cells.length + i * 6 := by show _ = 6 + _; omega
    rw [e, e2, List.drop_append, List.drop_of_length_le (by omega), List.nil_append, Nat.add_sub_cancel_left]
    exact cellsOf_at T rest i (by simpa using hi)
/-- The variable that has a row of twigs, and the row. -/
def twR (bw : Nat) (T : List Tw) (bs : List Nat) : Res := ⟨bw :: bs, fun h => ∃ v, h.get bw = some (.cells [v] 22 0) ∧ SlC 30 5 h v (cellsOf T) T.length bs, fun h h' k hn p => by
  obtain ⟨v, h1, h2⟩ := p
  refine ⟨v, by rw [(k bw (by simp)).2]; exact h1, ?_⟩
  exact (slR 30 5 v (cellsOf T) T.length bs).st h h' (fun i hi => k i (by simp only [List.mem_cons]; exact .inr hi)) hn h2⟩
/-- Rows of kids, of one's own. -/
def ksR (T : List Tw) (bs : List Nat) : Res := ⟨bs, fun h => ∀ t, t ∈ T → ∃ bk, SlC 3 0 h t.ks (isV t.kids) t.kids.length bk ∧ ∀ i, i ∈ bk → i ∈ bs, fun h h' k hn p t ht => by
  obtain ⟨bk, h1, h2⟩ := p t ht
  exact ⟨bk, (slR 3 0 t.ks (isV t.kids) t.kids.length bk).st h h' (fun i hi => k i (h2 i hi)) hn h1, h2⟩⟩
section
variable {h0 h hE : Hp} {ds bs bks : List Nat} {L : List Res} {bw b : Nat} {T : List Tw} {w : Tw}
theorem tw_open (S : SH h0 ds (twR bw T bs :: L) h) : ∃ v, SH h0 ds (cR bw (.cells [v] 22 0) :: slR 30 5 v (cellsOf T) T.length bs :: L) h := by
  obtain ⟨v, h1, h2⟩ := S.res 0 rfl
  exact ⟨v, S.split2 rfl h1 h2⟩
theorem tw_shut {v : Value} (S : SH h0 ds (cR bw (.cells [v] 22 0) :: slR 30 5 v (cellsOf T) T.length bs :: L) h) : SH h0 ds (twR bw T bs :: L) h :=
  S.join2 rfl ⟨v, S.cel 0 rfl, S.sl 1 rfl⟩
/-- A row of kids more. -/
theorem ks_more {kids : List Int} {r : Res} (S : SH h0 ds (cR b (.cells (isV kids) 3 0) :: r :: ksR T bks :: L) h) (K : Int) (s : ByteArray) : SH h0 ds (r :: ksR (T ++ [⟨K, s, 0, 0, 0, .slice (some ⟨b, 0, none⟩) kids.length kids.length, kids⟩]) (b :: bks) :: L) h := by
  have S2 := (S.sub (A := cR b (.cells (isV kids) 3 0) :: ksR T bks :: r :: L) (B := []) (by rw [List.append_nil]; exact List.Perm.cons _ (List.Perm.swap _ _ _)))
  refine (S2.join2 (r := ksR (T ++ [⟨K, s, 0, 0, 0, .slice (some ⟨b, 0, none⟩) kids.length kids.length, kids⟩]) (b :: bks)) rfl fun t ht => ?_).swap
  rcases List.mem_append.1 ht with ht | ht
  · obtain ⟨bk, h1, h2⟩ := S2.res 1 rfl t ht
    exact ⟨bk, h1, fun i hi => List.mem_cons_of_mem _ (h2 i hi)⟩
  · rw [List.mem_singleton] at ht
    subst ht
    refine ⟨[b], .inr ⟨b, 0, kids.length, [], rfl, by rw [List.append_nil]; exact S2.cel 0 rfl, .inl rfl, S2.lt1 0 rfl, rfl, by simp, Nat.le_refl _, by simp⟩, fun i hi => ?_⟩
    rw [List.mem_singleton] at hi; subst hi; exact List.mem_cons_self
theorem ks_more0 {r : Res} (S : SH h0 ds (r :: ksR T bks :: L) h) (K : Int) (s : ByteArray) : SH h0 ds (r :: ksR (T ++ [nw K s []]) bks :: L) h := by
  refine S.upd (r' := ksR (T ++ [nw K s []]) bks) 1 rfl (ExtB.refl _ _) (fun t ht => ?_) (fun j hj => S.lt j (mem_owns (r := ksR T bks) (by simp) hj)) (fun j hj => .inl hj) ?_
  · rcases List.mem_append.1 ht with ht | ht
    · exact S.res 1 rfl t ht
    · rw [List.mem_singleton] at ht
      subst ht
      exact ⟨[], .inl ⟨rfl, rfl, rfl, rfl⟩, by simp⟩
  · have := S.nd
    rw [owns_cons, owns_cons, List.nodup_append] at this
    exact (List.nodup_append.1 this.2.1).1
/-- The tree, as the memory has it. -/
theorem tw_tree {v : Value} (hs : SlC 30 5 h v (cellsOf T) T.length bs) (hk : ∀ t, t ∈ T → ∃ bk, SlC 3 0 h t.ks (isV t.kids) t.kids.length bk) : TreeAt h v T := by
  refine ⟨?_, fun t ht => by obtain ⟨bk, h1⟩ := hk t ht; exact h1.row⟩
  rcases hs with ⟨h1, h2, h3, _⟩ | ⟨b, m, c, rest, h1, h2, _, h4, _, h5, _⟩
  · exact .inl ⟨List.eq_nil_of_length_eq_zero h3, none, 0, h1⟩
  · refine .inr ⟨b, 0, c, _, 30, m, h1, h2, h4, by rw [List.length_append]; omega, fun i hi => ?_⟩
    rw [Nat.zero_add]
    exact cellsOf_at T rest i hi
theorem el22 : ElN trE 22 30 5 71 := ⟨by kernel_rfl, by kernel_rfl, by kernel_rfl, .agg #[.int .i64 0, .string .empty, .int .i64 0, .int .i64 0, .int .i64 0, .slice none 0 0], by kernel_rfl, rfl⟩

/-- add -/
theorem c20 (S0 : SH h0 [] [twR bw T bs] hE) (hc : cellV w.ks = true) (hT : T.length ≤ 1000) : C trE 20 [w.val, ptrV bw] hE fun _ g' => ∃ bs', SH hE (bw :: bs) [twR bw (T ++ [w]) bs'] g' := by
  obtain ⟨K, s, N, Li, Co, ks, kids⟩ := w
  simp only at hc
  obtain ⟨v, S1⟩ := tw_open S0.enter
  refine c_enter (fu := Tryd.f20) (by kernel_rfl) rfl ?_
  have S := S1
  refine w_seq ?_
  refine w_region (by kernel_rfl) ?_
  refine s_box S gn rfl rfl fun b1 g nb1 S => ?_
  refine wl_end ?_
  refine w_region (by kernel_rfl) ?_
  refine o_load gn rfl rfl (by kernel_rfl) (by first | exact S.cel 0 rfl | exact S.cel 1 rfl | exact S.cel 2 rfl | exact S.cel 3 rfl | exact S.cel 4 rfl) rfl ?_
  refine o_loadA (n := 6) gn rfl rfl (by kernel_rfl) (by kernel_rfl) (by first | exact S.cel 0 rfl | exact S.cel 1 rfl | exact S.cel 2 rfl | exact S.cel 3 rfl | exact S.cel 4 rfl) (by first | decide | exact Nat.le_refl _ | (simp; done)) ?_
  refine s_buildSlice (cs := #[iV K, .string s, iV N, iV Li, iV Co, ks]) (e := 30) (z := 5) (zv := .agg #[.int .i64 0, .string .empty, .int .i64 0, .int .i64 0, .int .i64 0, .slice none 0 0]) [(0, _)] S gn rfl (by kernel_rfl) (by kernel_rfl) (by kernel_rfl) (by kernel_rfl) rfl (by kernel_rfl) fun b2 g nb2 S => ?_
  refine s_append (e := 30) (z := 5) (by' := 71) 3 0 S el22 gn rfl rfl rfl rfl rfl rfl (by simp only [List.all_cons, List.all_nil, hc, Bool.and_true]; rfl) (by omega) (fun s' bs' g S => ag0) fun s' bs' g S => ?_
  have hv' : cellV s' = true := (S.sl 3 rfl).cellV
  refine s_store 2 S gn rfl rfl hv' (by kernel_rfl) rfl (by decide) (Nat.zero_lt_one) (fun g S => ag0) fun g S => ?_
  refine wl_end ?_
  refine ⟨.inr rfl, _, rfl, ?_⟩
  exact ⟨bs', tw_shut (by rw [cellsOf_snoc, List.length_append]; exact S.drop.drop)⟩
/-- A twig with a row of kids of its own. -/
def kw (K : Int) (s : ByteArray) (b : Nat) (kids : List Int) : Tw := ⟨K, s, 0, 0, 0, .slice (some ⟨b, 0, none⟩) kids.length kids.length, kids⟩
theorem c20k {kids : List Int} {g : Hp} (S : SH h [] [cR b (.cells (isV kids) 3 0), twR bw T bs, ksR T bks] g) (hT : T.length ≤ 1000) (K : Int) (s : ByteArray) :
    C trE 20 [(kw K s b kids).val, ptrV bw] g fun _ g' => ∃ bs' bks', SH h [] [twR bw (T ++ [kw K s b kids]) bs', ksR (T ++ [kw K s b kids]) bks'] g' :=
  C.mono (c20 (w := kw K s b kids) (S.pick 1 rfl) rfl hT) fun _ _ ⟨bs', S2⟩ => ⟨bs', _, ks_more (S.ret 1 rfl S2) K s⟩
theorem c20n {g : Hp} (S : SH h [] [twR bw T bs, ksR T bks] g) (hT : T.length ≤ 1000) (K : Int) (s : ByteArray) :
    C trE 20 [(nw K s []).val, ptrV bw] g fun _ g' => ∃ bs' bks', SH h [] [twR bw (T ++ [nw K s []]) bs', ksR (T ++ [nw K s []]) bks'] g' :=
  C.mono (c20 (w := nw K s []) (S.pick 0 rfl) rfl hT) fun _ _ ⟨bs', S2⟩ => ⟨bs', _, ks_more0 (S.ret 0 rfl S2) K s⟩
end
end Go.Proofs.YtoejddhaiogonaaDoor

namespace Go.Proofs.YtoejddhaiogonaaDoor
open Go.X

section
variable {h0 h : Hp} {ds : List Nat} {T : List Tw} {q m : Nat}
theorem nest_begin {b1 b2 b3 b4 b5 : Nat} (S : SH h0 ds [cR b5 (.cells [.slice (some ⟨b4, 0, none⟩) 3 3] 22 0), cR b4 (.cells (cellsOf [kw 1 .empty b1 [1], kw 11 .empty b2 [2], kw 12 .empty b3 [3]]) 30 0), cR b3 (.cells (isV [3]) 3 0), cR b2 (.cells (isV [2]) 3 0), cR b1 (.cells (isV [1]) 3 0)] h) :
    ∃ T bs bks, T.map Tw.pl = nest0 ∧ SH h0 ds [twR b5 T bs, ksR T bks] h := by
  have S1 := tw_shut (T := [kw 1 .empty b1 [1], kw 11 .empty b2 [2], kw 12 .empty b3 [3]]) (S.toSl (n := 3) (z := 5) 1 rfl (.inl rfl) rfl)
  have S2 : SH h0 ds [cR b1 (.cells (isV [1]) 3 0), cR b2 (.cells (isV [2]) 3 0), cR b3 (.cells (isV [3]) 3 0), twR b5 [kw 1 .empty b1 [1], kw 11 .empty b2 [2], kw 12 .empty b3 [3]] [b4]] h := S1.sub (B := []) (by
    rw [List.append_nil]
    exact (List.reverse_perm [twR b5 [kw 1 .empty b1 [1], kw 11 .empty b2 [2], kw 12 .empty b3 [3]] [b4], cR b3 (.cells (isV [3]) 3 0), cR b2 (.cells (isV [2]) 3 0), cR b1 (.cells (isV [1]) 3 0)]))
  have P : ∀ h, (cR b1 (.cells (isV [1]) 3 0)).P h → (cR b2 (.cells (isV [2]) 3 0)).P h → (cR b3 (.cells (isV [3]) 3 0)).P h → b1 < h.n → b2 < h.n → b3 < h.n → (ksR [kw 1 .empty b1 [1], kw 11 .empty b2 [2], kw 12 .empty b3 [3]] [b1, b2, b3]).P h := by
    intro h p1 p2 p3 l1 l2 l3 t ht
    simp only [List.mem_cons, List.not_mem_nil, or_false] at ht
    rcases ht with rfl | rfl | rfl
    · exact ⟨[b1], .inr ⟨b1, 0, 1, [], rfl, p1, .inl rfl, l1, rfl, rfl, Nat.le_refl _, rfl⟩, by simp⟩
    · exact ⟨[b2], .inr ⟨b2, 0, 1, [], rfl, p2, .inl rfl, l2, rfl, rfl, Nat.le_refl _, rfl⟩, by simp⟩
    · exact ⟨[b3], .inr ⟨b3, 0, 1, [], rfl, p3, .inl rfl, l3, rfl, rfl, Nat.le_refl _, rfl⟩, by simp⟩
  have S3 := S2.join2 (r := ⟨[b1, b2], fun h => (cR b1 (.cells (isV [1]) 3 0)).P h ∧ (cR b2 (.cells (isV [2]) 3 0)).P h, fun h h' k _ p => by
    refine ⟨?_, ?_⟩
    · show h'.get b1 = _
      rw [(k b1 (by simp)).2]; exact p.1
    · show h'.get b2 = _
      rw [(k b2 (by simp)).2]; exact p.2⟩) rfl ⟨S2.cel 0 rfl, S2.cel 1 rfl⟩
  have S4 := S3.join2 (r := ksR [kw 1 .empty b1 [1], kw 11 .empty b2 [2], kw 12 .empty b3 [3]] [b1, b2, b3]) rfl (P h (S2.cel 0 rfl) (S2.cel 1 rfl) (S2.cel 2 rfl) (S2.lt1 0 rfl) (S2.lt1 1 rfl) (S2.lt1 2 rfl))
  exact ⟨_, _, _, rfl, S4.swap⟩
theorem ks_ok {bks : List Nat} (p : (ksR T bks).P h) : ∀ t, t ∈ T → ∃ bk, SlC 3 0 h t.ks (isV t.kids) t.kids.length bk := fun t ht => by
  obtain ⟨bk, h1, _⟩ := p t ht
  exact ⟨bk, h1⟩
theorem nest_short {P : List Tw} (e : T.map Tw.pl = P) (hs : ∀ t, t ∈ P → t.s.toList.length ≤ 100) : ∀ t, t ∈ T → t.s.toList.length ≤ 100 := fun t ht =>
  hs t.pl (by rw [← e]; exact List.mem_map_of_mem ht)
theorem nw_short (K : Int) (s : ByteArray) (kids : List Int) (hs : s.toList.length ≤ 100) : ∀ t, t ∈ [nw K s kids] → t.s.toList.length ≤ 100 := by
  intro t ht
  rw [List.mem_singleton] at ht; subst ht; exact hs
theorem short_e : (ByteArray.empty).toList.length ≤ 100 := by rw [ByteArray.toList_eq]; decide
theorem short_1 (c : UInt8) : (⟨#[c]⟩ : ByteArray).toList.length ≤ 100 := by rw [ByteArray.toList_eq]; simp
theorem nestR_short (n : Nat) : ∀ t, t ∈ nestR q n → t.s.toList.length ≤ 100 := by
  intro t ht
  unfold nestR at ht
  repeat' split at ht
  all_goals simp only [List.mem_cons, List.not_mem_nil, or_false] at ht
  all_goals (try rcases ht with rfl | rfl | rfl)
  all_goals (try rcases ht with rfl | rfl)
  all_goals (try subst ht)
  all_goals first | exact short_e | exact short_1 _
theorem nestW_short : ∀ (m : Nat), ∀ t, t ∈ nestW q m → t.s.toList.length ≤ 100
  | 0, t, ht => by
    unfold nestW nest0 at ht
    split at ht
    all_goals simp only [List.mem_cons, List.not_mem_nil, or_false, List.cons_append, List.nil_append] at ht
    all_goals (try rcases ht with rfl | rfl | rfl | rfl)
    all_goals (try rcases ht with rfl | rfl | rfl)
    all_goals exact short_e
  | m + 1, t, ht => by
    rw [nestW, List.mem_append] at ht
    rcases ht with ht | ht
    · exact nestW_short m t ht
    · exact nestR_short _ t ht
theorem nestT_short : ∀ t, t ∈ nestT q m → t.s.toList.length ≤ 100 := by
  intro t ht
  unfold nestT at ht
  repeat' split at ht
  all_goals simp only [List.mem_append] at ht
  · rcases ht with ht | ht
    · exact nestW_short _ t ht
    · exact nw_short _ _ _ short_e t ht
  · rcases ht with (ht | ht) | ht
    · exact nestW_short _ t ht
    · exact nestR_short _ t ht
    · exact nw_short _ _ _ short_e t ht
  · rcases ht with ht | ht
    · exact nestW_short _ t ht
    · exact nw_short _ _ _ short_e t ht
theorem nestT_head (q m : Nat) : ∃ l, nestT q m = nw 1 .empty [1] :: l := by
  have hW : ∀ m, ∃ l, nestW q m = nw 1 .empty [1] :: l := by
    intro m
    induction m with
    | zero => unfold nestW nest0; split <;> exact ⟨_, rfl⟩
    | succ m ih => obtain ⟨l, e⟩ := ih; rw [nestW, e]; exact ⟨_, rfl⟩
  obtain ⟨l, e⟩ := hW m
  unfold nestT
  repeat' split
  all_goals rw [e]; exact ⟨_, rfl⟩
/-- What is printed is not empty. -/
theorem nest_text {P : List Tw} (e : T.map Tw.pl = nw 1 .empty [1] :: P) : textS T (T.length + 1) 0 .empty ≠ [] := by
  cases T with
  | nil => simp at e
  | cons t T =>
    rw [List.map_cons, List.cons.injEq] at e
    have hK : t.K = 1 := congrArg Tw.K e.1
    have hk : t.kids = [1] := congrArg Tw.kids e.1
    have hl : catL [⟨#[10]⟩] ≠ [] := fun hh => by
      have := congrArg List.length hh
      rw [cat_len] at this
      exact absurd this (by decide)
    simp only [textS, List.getElem?_cons_zero, twT, if_pos hK, hk, List.flatMap_cons, List.flatMap_nil, List.append_nil]
    exact fun hh => hl (List.append_eq_nil_iff.1 hh).2
theorem print_ne {l : List UInt8} {b : Bool} (hl : l ≠ []) : (!eqS (if b = true then (⟨l.toArray⟩ : ByteArray) else ⟨#[]⟩) ⟨#[]⟩) = b := by
  rw [eqS_empty]
  cases b with
  | true =>
    rw [if_pos rfl, ByteArray.toList_eq]
    show (!l.isEmpty) = true
    cases l with
    | nil => exact absurd rfl hl
    | cons a l => rfl
  | false => rw [if_neg (by simp), ByteArray.toList_eq]; rfl

set_option maxHeartbeats 2000000 in
/-- TreeNests -/
theorem c5 (B : Blk h) (hP : Pow h) (many what : Int) : C trE 5 [iV many, iV what] h fun v _ => v = .bool true := by
  refine c_enter (fu := Tryd.f5) (by kernel_rfl) rfl ?_
  have S := SH.start h
  refine w_seq ?_
  refine w_region (by kernel_rfl) ?_
  refine o_assign gn rfl rfl ?_
  refine wl_end ?_
  refine w_seq ?_
  refine w_seq ?_
  refine w_region (by kernel_rfl) ?_
  refine o_move gn rfl rfl ?_
  refine o_lss gn rfl rfl rfl ?_
  refine o_move gn rfl rfl ?_
  refine o_or (n := 2) rfl rfl rfl gn rfl (fun hb => by
      refine o_move (gy rfl rfl rfl hb) rfl rfl ?_
      refine o_gtr (gy rfl rfl rfl hb) rfl rfl rfl ?_
      exact wl_end ⟨rfl, rfl, 2, rfl, rfl⟩) ?_
  refine o_move gn rfl rfl ?_
  refine o_or (n := 2) rfl rfl rfl gn rfl (fun hb => by
      refine o_move (gy rfl rfl rfl hb) rfl rfl ?_
      refine o_lss (gy rfl rfl rfl hb) rfl rfl rfl ?_
      exact wl_end ⟨rfl, rfl, 2, rfl, rfl⟩) ?_
  refine o_move gn rfl rfl ?_
  refine o_or (n := 2) rfl rfl rfl gn rfl (fun hb => by
      refine o_move (gy rfl rfl rfl hb) rfl rfl ?_
      refine o_gtr (gy rfl rfl rfl hb) rfl rfl rfl ?_
      exact wl_end ⟨rfl, rfl, 2, rfl, rfl⟩) ?_
  refine wl_end ?_
  refine w_cond rfl (fun hb => ?_) fun hb => ?_
  · skip
    refine w_seq ?_
    refine w_region (by kernel_rfl) ?_
    refine o_sm [] gn rfl rfl (by kernel_rfl) (by kernel_rfl) sm9 rfl (knows (B.ext S.e0).t) (.refl _) ag0 ?_
    refine o_assign gn rfl rfl ?_
    refine wl_end ?_
    refine w_ret ?_
    refine ⟨.inl rfl, _, rfl, ?_⟩
    exact rfl
  · skip
    refine w_skip ?_
    have hb := hb
    simp only [Bool.or_eq_false_iff, decide_eq_false_iff_not] at hb
    obtain ⟨q, rfl⟩ : ∃ q : Nat, what = q := ⟨what.toNat, by omega⟩
    obtain ⟨m, rfl⟩ : ∃ m : Nat, many = (m + 1 : Nat) := ⟨(many - 1).toNat, by omega⟩
    have hq3 : q ≤ 3 := by omega
    have hm70 : m < 70 := by omega
    refine w_seq ?_
    refine w_region (by kernel_rfl) ?_
    refine s_buildSlice (cs := #[iV 1]) (e := 3) (z := 0) (zv := .int .i64 0) [(0, _)] S gn rfl (by kernel_rfl) (by kernel_rfl) (by kernel_rfl) (by kernel_rfl) rfl (by kernel_rfl) fun b1 g nb1 S => ?_
    refine o_build (cs := #[iV 1, .string .empty, iV 0, iV 0, iV 0, .slice (some ⟨b1, 0, none⟩) 1 1]) (zv := .agg #[.int .i64 0, .string .empty, .int .i64 0, .int .i64 0, .int .i64 0, .slice none 0 0]) (pl := [(0, 1), (1, 1), (2, 1), (3, 1), (4, 1), (5, 1)]) [(0, _), (5, _)] gn rfl (by kernel_rfl) (by kernel_rfl) rfl (by kernel_rfl) ?_
    refine s_buildSlice (cs := #[iV 2]) (e := 3) (z := 0) (zv := .int .i64 0) [(0, _)] S gn rfl (by kernel_rfl) (by kernel_rfl) (by kernel_rfl) (by kernel_rfl) rfl (by kernel_rfl) fun b2 g nb2 S => ?_
    refine o_build (cs := #[iV 11, .string .empty, iV 0, iV 0, iV 0, .slice (some ⟨b2, 0, none⟩) 1 1]) (zv := .agg #[.int .i64 0, .string .empty, .int .i64 0, .int .i64 0, .int .i64 0, .slice none 0 0]) (pl := [(0, 1), (1, 1), (2, 1), (3, 1), (4, 1), (5, 1)]) [(0, _), (5, _)] gn rfl (by kernel_rfl) (by kernel_rfl) rfl (by kernel_rfl) ?_
    refine s_buildSlice (cs := #[iV 3]) (e := 3) (z := 0) (zv := .int .i64 0) [(0, _)] S gn rfl (by kernel_rfl) (by kernel_rfl) (by kernel_rfl) (by kernel_rfl) rfl (by kernel_rfl) fun b3 g nb3 S => ?_
    refine o_build (cs := #[iV 12, .string .empty, iV 0, iV 0, iV 0, .slice (some ⟨b3, 0, none⟩) 1 1]) (zv := .agg #[.int .i64 0, .string .empty, .int .i64 0, .int .i64 0, .int .i64 0, .slice none 0 0]) (pl := [(0, 1), (1, 1), (2, 1), (3, 1), (4, 1), (5, 1)]) [(0, _), (5, _)] gn rfl (by kernel_rfl) (by kernel_rfl) rfl (by kernel_rfl) ?_
    refine s_buildSlice (cs := (cellsOf [kw 1 .empty b1 [1], kw 11 .empty b2 [2], kw 12 .empty b3 [3]]).toArray) (e := 30) (z := 5) (zv := .agg #[.int .i64 0, .string .empty, .int .i64 0, .int .i64 0, .int .i64 0, .slice none 0 0]) [(0, _), (1, _), (2, _)] S gn rfl (by kernel_rfl) (by kernel_rfl) (by kernel_rfl) (by kernel_rfl) rfl (by kernel_rfl) fun b4 g nb4 S => ?_
    refine s_alloc (zv := .slice none 0 0) S gn rfl (by kernel_rfl) fun b5 g nb5 S => ?_
    first | refine s_store 0 S gn rfl rfl rfl (by kernel_rfl) rfl (by decide) (by first | decide | (simp; done)) (fun g S => ag0) fun g S => ?_ | refine s_store 1 S gn rfl rfl rfl (by kernel_rfl) rfl (by decide) (by first | decide | (simp; done)) (fun g S => ag0) fun g S => ?_ | refine s_store 2 S gn rfl rfl rfl (by kernel_rfl) rfl (by decide) (by first | decide | (simp; done)) (fun g S => ag0) fun g S => ?_ | refine s_store 3 S gn rfl rfl rfl (by kernel_rfl) rfl (by decide) (by first | decide | (simp; done)) (fun g S => ag0) fun g S => ?_ | refine s_store 4 S gn rfl rfl rfl (by kernel_rfl) rfl (by decide) (by first | decide | (simp; done)) (fun g S => ag0) fun g S => ?_ | refine s_store 5 S gn rfl rfl rfl (by kernel_rfl) rfl (by decide) (by first | decide | (simp; done)) (fun g S => ag0) fun g S => ?_ | refine s_store 6 S gn rfl rfl rfl (by kernel_rfl) rfl (by decide) (by first | decide | (simp; done)) (fun g S => ag0) fun g S => ?_
    refine wl_end ?_
    refine w_seq ?_
    refine w_region (by kernel_rfl) ?_
    obtain ⟨T, bs, bks, eT, S⟩ := nest_begin S
    refine o_makeFunc1 gn rfl rfl ?_
    refine o_assign gn rfl rfl ?_
    refine wl_end ?_
    refine w_cutS [(0, iV (m + 1 : Nat)), (1, iV q), (5, ptrV b5)] (fun lv hh => lv = [] ∧ ∃ T bs bks, T.map Tw.pl = nestT q m ∧ SH h [] [twR b5 T bs, ksR T bks] hh) ?_ fun lv hh hJ => ?_
    · skip
      refine w_seq ?_
      refine w_region (by kernel_rfl) ?_
      refine o_move gn rfl rfl ?_
      refine o_eqi gn rfl rfl rfl ?_
      refine wl_end ?_
      refine w_cond rfl (fun hb => ?_) fun hb => ?_
      · skip
        refine w_seq ?_
        refine w_seq ?_
        refine w_region (by kernel_rfl) ?_
        have hq0 : q = 0 := by simpa using hb
        refine o_assign gn rfl rfl ?_
        refine wl_end ?_
        refine w_block ?_
        refine w_loopS [(7, _)] [(0, _), (1, _), (5, _), (6, _)] (by repeat (first | exact trivial | refine ⟨rfl, ?_⟩)) (fun kk lv hh => ∃ (k : Nat) (T : List Tw) (bs bks : List Nat), lv = [(7, iV (k + 1 : Nat))] ∧ kk = m - k ∧ k ≤ m ∧ T.map Tw.pl = nestW 0 k ∧ SH h [] [twR b5 T bs, ksR T bks] hh) (n := m) ?_ fun kk lv hh hI => ?_
        · exact ⟨0, T, bs, bks, rfl, rfl, by omega, eT, S⟩
        · obtain ⟨k, T, bs, bks, rfl, hkk, hkm, eT, S⟩ := hI
          refine w_seq ?_
          refine w_seq ?_
          have hTl : T.length = (nestW 0 k).length := by rw [← eT, List.length_map]
          have hTm := nestW_len 0 k
          refine w_region (by kernel_rfl) ?_
          refine o_move gn rfl rfl ?_
          refine o_move gn rfl rfl ?_
          refine o_lss gn rfl rfl rfl ?_
          refine wl_end ?_
          refine w_cond rfl (fun hb => ?_) fun hb => ?_
          · skip
            refine w_skip ?_
            refine w_seq ?_
            refine w_block ?_
            refine w_seq ?_
            have hkm1 : k < m := by simp at hb; omega
            obtain ⟨v, SO⟩ := tw_open S
            obtain ⟨va, vc, rfl⟩ := (SO.sl 1 rfl).val
            refine w_region (by kernel_rfl) ?_
            refine o_load gn rfl rfl (by kernel_rfl) (SO.cel 0 rfl) rfl ?_
            refine o_len gn rfl rfl (by kernel_rfl) ?_
            refine o_assign gn rfl rfl ?_
            refine wl_end ?_
            refine w_seq ?_
            refine w_region (by kernel_rfl) ?_
            refine o_move gn rfl rfl ?_
            refine o_move gn rfl rfl ?_
            refine o_add gn rfl rfl rfl (by omega) (by omega) ?_
            refine o_move gn rfl rfl ?_
            refine o_add gn rfl rfl rfl (by omega) (by omega) ?_
            refine s_buildSlice (cs := #[iV (T.length + 1 : Nat), iV (T.length + 2 : Nat)]) (e := 3) (z := 0) (zv := .int .i64 0) [(0, _), (1, _)] S gn rfl (by kernel_rfl) (by kernel_rfl) (by kernel_rfl) (by kernel_rfl) rfl (by kernel_rfl) fun b6 g nb6 S => ?_
            refine o_build (cs := #[iV 24, .string .empty, iV 0, iV 0, iV 0, .slice (some ⟨b6, 0, none⟩) 2 2]) (zv := .agg #[.int .i64 0, .string .empty, .int .i64 0, .int .i64 0, .int .i64 0, .slice none 0 0]) (pl := [(0, 1), (1, 1), (2, 1), (3, 1), (4, 1), (5, 1)]) [(0, _), (5, _)] gn rfl (by kernel_rfl) (by kernel_rfl) rfl (by kernel_rfl) ?_
            refine o_call [_] gn rfl rfl (by kernel_rfl) rfl (C.mono (c20k (kids := [((T.length + 1 : Nat) : Int), ((T.length + 2 : Nat) : Int)]) S (by omega) 24 .empty) ?_)
            rintro v g ⟨bs1, bks1, S⟩
            refine ⟨ag0, ?_⟩
            refine wl_end ?_
            refine w_seq ?_
            refine w_region (by kernel_rfl) ?_
            refine o_move gn rfl rfl ?_
            refine o_build (cs := #[iV 28, .string .empty, iV 0, iV 0, iV 0, .slice none 0 0]) (zv := .agg #[.int .i64 0, .string .empty, .int .i64 0, .int .i64 0, .int .i64 0, .slice none 0 0]) (pl := [(0, 1), (1, 1), (2, 1), (3, 1), (4, 1), (5, 1)]) [(0, _)] gn rfl (by kernel_rfl) (by kernel_rfl) rfl (by kernel_rfl) ?_
            refine o_call [_] gn rfl rfl (by kernel_rfl) rfl (C.mono (c20n S (by simp; omega) 28 .empty) ?_)
            rintro v g ⟨bs2, bks2, S⟩
            refine ⟨ag0, ?_⟩
            refine wl_end ?_
            refine w_region (by kernel_rfl) ?_
            refine o_move gn rfl rfl ?_
            refine o_move gn rfl rfl ?_
            refine o_add gn rfl rfl rfl (by omega) (by omega) ?_
            refine s_buildSlice (cs := #[iV (T.length + 3 : Nat)]) (e := 3) (z := 0) (zv := .int .i64 0) [(0, _)] S gn rfl (by kernel_rfl) (by kernel_rfl) (by kernel_rfl) (by kernel_rfl) rfl (by kernel_rfl) fun b7 g nb7 S => ?_
            refine o_build (cs := #[iV 12, .string .empty, iV 0, iV 0, iV 0, .slice (some ⟨b7, 0, none⟩) 1 1]) (zv := .agg #[.int .i64 0, .string .empty, .int .i64 0, .int .i64 0, .int .i64 0, .slice none 0 0]) (pl := [(0, 1), (1, 1), (2, 1), (3, 1), (4, 1), (5, 1)]) [(0, _), (5, _)] gn rfl (by kernel_rfl) (by kernel_rfl) rfl (by kernel_rfl) ?_
            refine o_call [_] gn rfl rfl (by kernel_rfl) rfl (C.mono (c20k (kids := [((T.length + 3 : Nat) : Int)]) S (by simp; omega) 12 .empty) ?_)
            rintro v g ⟨bs3, bks3, S⟩
            refine ⟨ag0, ?_⟩
            refine wl_end ?_
            refine w_region (by kernel_rfl) ?_
            refine o_move gn rfl rfl ?_
            refine o_add gn rfl rfl rfl (by omega) (by omega) ?_
            refine o_assign gn rfl rfl ?_
            refine wl_end ?_
            exact rndS (m - (k + 1)) (by omega) [(7, _)] (by repeat (first | exact trivial | refine ⟨rfl, ?_⟩)) ⟨k + 1, _, _, _, rfl, rfl, by omega, by
              simp only [List.map_append, eT, nestW, nestR, ← hTl, List.append_assoc]; rfl, S⟩
          · skip
            refine w_exit ?_
            refine thn_exit ?_
            refine rnd_exit ?_
            refine blk_eq ?_
            have hTl : T.length = (nestW 0 k).length := by rw [← eT, List.length_map]
            have hTm := nestW_len 0 k
            have hkm2 : k = m := by simp at hb; omega
            refine w_region (by kernel_rfl) ?_
            refine o_move gn rfl rfl ?_
            refine o_build (cs := #[iV 25, .string .empty, iV 0, iV 0, iV 0, .slice none 0 0]) (zv := .agg #[.int .i64 0, .string .empty, .int .i64 0, .int .i64 0, .int .i64 0, .slice none 0 0]) (pl := [(0, 1), (1, 1), (2, 1), (3, 1), (4, 1), (5, 1)]) [(0, _)] gn rfl (by kernel_rfl) (by kernel_rfl) rfl (by kernel_rfl) ?_
            refine o_call [_] gn rfl rfl (by kernel_rfl) rfl (C.mono (c20n S (by omega) 25 .empty) ?_)
            rintro v g ⟨bs2, bks2, S⟩
            refine ⟨ag0, ?_⟩
            refine wl_end ?_
            exact cutS [] (by repeat (first | exact trivial | refine ⟨rfl, ?_⟩)) ⟨rfl, _, _, _, by rw [List.map_append, eT, hq0, hkm2]; rfl, S⟩
      · skip
        refine w_seq ?_
        refine w_region (by kernel_rfl) ?_
        have hq0 : q ≠ 0 := by simpa using hb
        have hTl : T.length = nest0.length := by rw [← eT, List.length_map]
        have hTm : nest0.length = 3 := rfl
        refine o_move gn rfl rfl ?_
        refine s_buildSlice (cs := #[iV 4]) (e := 3) (z := 0) (zv := .int .i64 0) [(0, _)] S gn rfl (by kernel_rfl) (by kernel_rfl) (by kernel_rfl) (by kernel_rfl) rfl (by kernel_rfl) fun b8 g nb8 S => ?_
        refine o_build (cs := #[iV 18, .string .empty, iV 0, iV 0, iV 0, .slice (some ⟨b8, 0, none⟩) 1 1]) (zv := .agg #[.int .i64 0, .string .empty, .int .i64 0, .int .i64 0, .int .i64 0, .slice none 0 0]) (pl := [(0, 1), (1, 1), (2, 1), (3, 1), (4, 1), (5, 1)]) [(0, _), (5, _)] gn rfl (by kernel_rfl) (by kernel_rfl) rfl (by kernel_rfl) ?_
        refine o_call [_] gn rfl rfl (by kernel_rfl) rfl (C.mono (c20k (kids := [4]) S (by omega) 18 .empty) ?_)
        rintro v g ⟨bs1, bks1, S⟩
        refine ⟨ag0, ?_⟩
        refine wl_end ?_
        refine w_seq ?_
        refine w_seq ?_
        refine w_region (by kernel_rfl) ?_
        refine o_assign gn rfl rfl ?_
        refine wl_end ?_
        refine w_block ?_
        refine w_loopS [(9, _)] [(0, _), (1, _), (5, _), (6, _)] (by repeat (first | exact trivial | refine ⟨rfl, ?_⟩)) (fun kk lv hh => ∃ (k : Nat) (T : List Tw) (bs bks : List Nat), lv = [(9, iV (k + 1 : Nat))] ∧ kk = m - k ∧ k ≤ m ∧ T.map Tw.pl = nestW q k ∧ SH h [] [twR b5 T bs, ksR T bks] hh) (n := m) ?_ fun kk lv hh hI => ?_
        · exact ⟨0, _, bs1, bks1, rfl, rfl, by omega, by rw [List.map_append, eT, nestW, if_neg hq0]; rfl, S⟩
        · obtain ⟨k, T, bs, bks, rfl, hkk, hkm, eT, S⟩ := hI
          refine w_seq ?_
          refine w_seq ?_
          have hTl : T.length = (nestW q k).length := by rw [← eT, List.length_map]
          have hTm := nestW_len q k
          refine w_region (by kernel_rfl) ?_
          refine o_move gn rfl rfl ?_
          refine o_move gn rfl rfl ?_
          refine o_lss gn rfl rfl rfl ?_
          refine wl_end ?_
          refine w_cond rfl (fun hb => ?_) fun hb => ?_
          · skip
            refine w_skip ?_
            refine w_seq ?_
            refine w_block ?_
            refine w_seq ?_
            have hkm1 : k < m := by simp at hb; omega
            obtain ⟨v, SO⟩ := tw_open S
            obtain ⟨va, vc, rfl⟩ := (SO.sl 1 rfl).val
            refine w_region (by kernel_rfl) ?_
            refine o_load gn rfl rfl (by kernel_rfl) (SO.cel 0 rfl) rfl ?_
            refine o_len gn rfl rfl (by kernel_rfl) ?_
            refine o_assign gn rfl rfl ?_
            refine wl_end ?_
            refine w_seq ?_
            refine w_region (by kernel_rfl) ?_
            refine o_move gn rfl rfl ?_
            refine wl_end ?_
            refine w_block ?_
            refine w_seq ?_
            refine w_region (by kernel_rfl) ?_
            refine o_eqi gn rfl rfl rfl ?_
            refine o_assign gn rfl rfl ?_
            refine wl_end ?_
            refine w_cond rfl (fun hb => ?_) fun hb => ?_
            · skip
              refine w_region (by kernel_rfl) ?_
              have hq1 : q = 1 := by simp at hb; omega
              refine o_move gn rfl rfl ?_
              refine o_move gn rfl rfl ?_
              refine o_add gn rfl rfl rfl (by omega) (by omega) ?_
              refine s_buildSlice (cs := #[iV (T.length + 1 : Nat)]) (e := 3) (z := 0) (zv := .int .i64 0) [(0, _)] S gn rfl (by kernel_rfl) (by kernel_rfl) (by kernel_rfl) (by kernel_rfl) rfl (by kernel_rfl) fun b9 g nb9 S => ?_
              refine o_build (cs := #[iV 35, .string .empty, iV 0, iV 0, iV 0, .slice (some ⟨b9, 0, none⟩) 1 1]) (zv := .agg #[.int .i64 0, .string .empty, .int .i64 0, .int .i64 0, .int .i64 0, .slice none 0 0]) (pl := [(0, 1), (1, 1), (2, 1), (3, 1), (4, 1), (5, 1)]) [(0, _), (5, _)] gn rfl (by kernel_rfl) (by kernel_rfl) rfl (by kernel_rfl) ?_
              refine o_call [_] gn rfl rfl (by kernel_rfl) rfl (C.mono (c20k (kids := [((T.length + 1 : Nat) : Int)]) S (by omega) 35 .empty) ?_)
              rintro v g ⟨bs1, bks1, S⟩
              refine ⟨ag0, ?_⟩
              refine wl_end ?_
              refine blk_next ?_
              refine w_region (by kernel_rfl) ?_
              refine o_move gn rfl rfl ?_
              refine o_add gn rfl rfl rfl (by omega) (by omega) ?_
              refine o_assign gn rfl rfl ?_
              refine wl_end ?_
              exact rndS (m - (k + 1)) (by omega) [(9, _)] (by repeat (first | exact trivial | refine ⟨rfl, ?_⟩)) ⟨k + 1, _, _, _, rfl, rfl, by omega, by
                subst hq1
                simp only [List.map_append, eT, nestW, nestR, ← hTl]; rfl, S⟩
            · skip
              refine w_seq ?_
              refine w_region (by kernel_rfl) ?_
              have hq1 : q ≠ 1 := by simp at hb; omega
              refine o_eqi gn rfl rfl rfl ?_
              refine o_assign gn rfl rfl ?_
              refine wl_end ?_
              refine w_cond rfl (fun hb => ?_) fun hb => ?_
              · skip
                refine w_seq ?_
                refine w_region (by kernel_rfl) ?_
                have hq2 : q = 2 := by simp at hb; omega
                refine o_move gn rfl rfl ?_
                refine o_move gn rfl rfl ?_
                refine o_add gn rfl rfl rfl (by omega) (by omega) ?_
                refine o_move gn rfl rfl ?_
                refine o_add gn rfl rfl rfl (by omega) (by omega) ?_
                refine s_buildSlice (cs := #[iV (T.length + 1 : Nat), iV (T.length + 2 : Nat)]) (e := 3) (z := 0) (zv := .int .i64 0) [(0, _), (1, _)] S gn rfl (by kernel_rfl) (by kernel_rfl) (by kernel_rfl) (by kernel_rfl) rfl (by kernel_rfl) fun b10 g nb10 S => ?_
                refine o_build (cs := #[iV 31, .string .empty, iV 0, iV 0, iV 0, .slice (some ⟨b10, 0, none⟩) 2 2]) (zv := .agg #[.int .i64 0, .string .empty, .int .i64 0, .int .i64 0, .int .i64 0, .slice none 0 0]) (pl := [(0, 1), (1, 1), (2, 1), (3, 1), (4, 1), (5, 1)]) [(0, _), (5, _)] gn rfl (by kernel_rfl) (by kernel_rfl) rfl (by kernel_rfl) ?_
                refine o_call [_] gn rfl rfl (by kernel_rfl) rfl (C.mono (c20k (kids := [((T.length + 1 : Nat) : Int), ((T.length + 2 : Nat) : Int)]) S (by omega) 31 .empty) ?_)
                rintro v g ⟨bs1, bks1, S⟩
                refine ⟨ag0, ?_⟩
                refine wl_end ?_
                refine w_region (by kernel_rfl) ?_
                refine o_move gn rfl rfl ?_
                refine o_build (cs := #[iV 29, .string ⟨#[97]⟩, iV 0, iV 0, iV 0, .slice none 0 0]) (zv := .agg #[.int .i64 0, .string .empty, .int .i64 0, .int .i64 0, .int .i64 0, .slice none 0 0]) (pl := [(0, 1), (1, 1), (2, 1), (3, 1), (4, 1), (5, 1)]) [(0, _), (1, _)] gn rfl (by kernel_rfl) (by kernel_rfl) rfl (by kernel_rfl) ?_
                refine o_call [_] gn rfl rfl (by kernel_rfl) rfl (C.mono (c20n S (by simp; omega) 29 ⟨#[97]⟩) ?_)
                rintro v g ⟨bs2, bks2, S⟩
                refine ⟨ag0, ?_⟩
                refine wl_end ?_
                refine blk_next ?_
                refine w_region (by kernel_rfl) ?_
                refine o_move gn rfl rfl ?_
                refine o_add gn rfl rfl rfl (by omega) (by omega) ?_
                refine o_assign gn rfl rfl ?_
                refine wl_end ?_
                exact rndS (m - (k + 1)) (by omega) [(9, _)] (by repeat (first | exact trivial | refine ⟨rfl, ?_⟩)) ⟨k + 1, _, _, _, rfl, rfl, by omega, by
                  subst hq2
                  simp only [List.map_append, eT, nestW, nestR, ← hTl, List.append_assoc]; rfl, S⟩
              · skip
                refine w_seq ?_
                refine w_region (by kernel_rfl) ?_
                have hq2 : q = 3 := by simp at hb; omega
                refine o_move gn rfl rfl ?_
                refine o_move gn rfl rfl ?_
                refine o_add gn rfl rfl rfl (by omega) (by omega) ?_
                refine o_move gn rfl rfl ?_
                refine o_add gn rfl rfl rfl (by omega) (by omega) ?_
                refine s_buildSlice (cs := #[iV (T.length + 1 : Nat), iV (T.length + 2 : Nat)]) (e := 3) (z := 0) (zv := .int .i64 0) [(0, _), (1, _)] S gn rfl (by kernel_rfl) (by kernel_rfl) (by kernel_rfl) (by kernel_rfl) rfl (by kernel_rfl) fun b11 g nb11 S => ?_
                refine o_build (cs := #[iV 32, .string ⟨#[45]⟩, iV 0, iV 0, iV 0, .slice (some ⟨b11, 0, none⟩) 2 2]) (zv := .agg #[.int .i64 0, .string .empty, .int .i64 0, .int .i64 0, .int .i64 0, .slice none 0 0]) (pl := [(0, 1), (1, 1), (2, 1), (3, 1), (4, 1), (5, 1)]) [(0, _), (1, _), (5, _)] gn rfl (by kernel_rfl) (by kernel_rfl) rfl (by kernel_rfl) ?_
                refine o_call [_] gn rfl rfl (by kernel_rfl) rfl (C.mono (c20k (kids := [((T.length + 1 : Nat) : Int), ((T.length + 2 : Nat) : Int)]) S (by omega) 32 ⟨#[45]⟩) ?_)
                rintro v g ⟨bs1, bks1, S⟩
                refine ⟨ag0, ?_⟩
                refine wl_end ?_
                refine w_region (by kernel_rfl) ?_
                refine o_move gn rfl rfl ?_
                refine o_build (cs := #[iV 28, .string .empty, iV 0, iV 0, iV 0, .slice none 0 0]) (zv := .agg #[.int .i64 0, .string .empty, .int .i64 0, .int .i64 0, .int .i64 0, .slice none 0 0]) (pl := [(0, 1), (1, 1), (2, 1), (3, 1), (4, 1), (5, 1)]) [(0, _)] gn rfl (by kernel_rfl) (by kernel_rfl) rfl (by kernel_rfl) ?_
                refine o_call [_] gn rfl rfl (by kernel_rfl) rfl (C.mono (c20n S (by simp; omega) 28 .empty) ?_)
                rintro v g ⟨bs2, bks2, S⟩
                refine ⟨ag0, ?_⟩
                refine wl_end ?_
                refine blk_next ?_
                refine w_region (by kernel_rfl) ?_
                refine o_move gn rfl rfl ?_
                refine o_add gn rfl rfl rfl (by omega) (by omega) ?_
                refine o_assign gn rfl rfl ?_
                refine wl_end ?_
                exact rndS (m - (k + 1)) (by omega) [(9, _)] (by repeat (first | exact trivial | refine ⟨rfl, ?_⟩)) ⟨k + 1, _, _, _, rfl, rfl, by omega, by
                  subst hq2
                  simp only [List.map_append, eT, nestW, nestR, ← hTl, List.append_assoc]; rfl, S⟩
          · skip
            refine w_exit ?_
            refine thn_exit ?_
            refine rnd_exit ?_
            refine blk_eq ?_
            refine w_cutS [(0, iV (m + 1 : Nat)), (1, iV q), (5, ptrV b5), (6, .func (.func 20) #[] #[ptrV b5])] (fun lv hh => lv = [] ∧ ∃ T bs bks, T.map Tw.pl = (if q = 3 then nestW q m ++ nestR 3 (nestW q m).length else nestW q m) ∧ SH h [] [twR b5 T bs, ksR T bks] hh) ?_ fun lv hh hJ => ?_
            · skip
              refine w_seq ?_
              have hkm2 : k = m := by simp at hb; omega
              subst hkm2
              refine w_region (by kernel_rfl) ?_
              refine o_move gn rfl rfl ?_
              refine o_eqi gn rfl rfl rfl ?_
              refine wl_end ?_
              refine w_cond rfl (fun hb => ?_) fun hb => ?_
              · skip
                refine w_seq ?_
                have hq2 : q = 3 := by simp at hb; omega
                obtain ⟨v, SO⟩ := tw_open S
                obtain ⟨va, vc, rfl⟩ := (SO.sl 1 rfl).val
                refine w_region (by kernel_rfl) ?_
                refine o_load gn rfl rfl (by kernel_rfl) (SO.cel 0 rfl) rfl ?_
                refine o_len gn rfl rfl (by kernel_rfl) ?_
                refine o_assign gn rfl rfl ?_
                refine wl_end ?_
                refine w_seq ?_
                refine w_region (by kernel_rfl) ?_
                refine o_move gn rfl rfl ?_
                refine o_move gn rfl rfl ?_
                refine o_add gn rfl rfl rfl (by omega) (by omega) ?_
                refine o_move gn rfl rfl ?_
                refine o_add gn rfl rfl rfl (by omega) (by omega) ?_
                refine s_buildSlice (cs := #[iV (T.length + 1 : Nat), iV (T.length + 2 : Nat)]) (e := 3) (z := 0) (zv := .int .i64 0) [(0, _), (1, _)] S gn rfl (by kernel_rfl) (by kernel_rfl) (by kernel_rfl) (by kernel_rfl) rfl (by kernel_rfl) fun b12 g nb12 S => ?_
                refine o_build (cs := #[iV 32, .string ⟨#[45]⟩, iV 0, iV 0, iV 0, .slice (some ⟨b12, 0, none⟩) 2 2]) (zv := .agg #[.int .i64 0, .string .empty, .int .i64 0, .int .i64 0, .int .i64 0, .slice none 0 0]) (pl := [(0, 1), (1, 1), (2, 1), (3, 1), (4, 1), (5, 1)]) [(0, _), (1, _), (5, _)] gn rfl (by kernel_rfl) (by kernel_rfl) rfl (by kernel_rfl) ?_
                refine o_call [_] gn rfl rfl (by kernel_rfl) rfl (C.mono (c20k (kids := [((T.length + 1 : Nat) : Int), ((T.length + 2 : Nat) : Int)]) S (by omega) 32 ⟨#[45]⟩) ?_)
                rintro v g ⟨bs1, bks1, S⟩
                refine ⟨ag0, ?_⟩
                refine wl_end ?_
                refine w_region (by kernel_rfl) ?_
                refine o_move gn rfl rfl ?_
                refine o_build (cs := #[iV 28, .string .empty, iV 0, iV 0, iV 0, .slice none 0 0]) (zv := .agg #[.int .i64 0, .string .empty, .int .i64 0, .int .i64 0, .int .i64 0, .slice none 0 0]) (pl := [(0, 1), (1, 1), (2, 1), (3, 1), (4, 1), (5, 1)]) [(0, _)] gn rfl (by kernel_rfl) (by kernel_rfl) rfl (by kernel_rfl) ?_
                refine o_call [_] gn rfl rfl (by kernel_rfl) rfl (C.mono (c20n S (by simp; omega) 28 .empty) ?_)
                rintro v g ⟨bs2, bks2, S⟩
                refine ⟨ag0, ?_⟩
                refine wl_end ?_
                exact cutS [] (by repeat (first | exact trivial | refine ⟨rfl, ?_⟩)) ⟨rfl, _, _, _, by
                  rw [if_pos hq2]
                  simp only [List.map_append, eT, nestR, ← hTl, List.append_assoc]; rfl, S⟩
              · skip
                refine w_skip ?_
                exact cutS [] (by repeat (first | exact trivial | refine ⟨rfl, ?_⟩)) ⟨rfl, T, bs, bks, by rw [if_neg (by simp at hb; omega)]; exact eT, S⟩
            · obtain ⟨rfl, T, bs, bks, eT, S⟩ := hJ
              have hTl : T.length ≤ 4 + 3 * m + 2 := by
                have e := congrArg List.length eT
                rw [List.length_map] at e
                have := nestW_len q m
                rw [e]; split
                · rw [List.length_append]; show _ + 2 ≤ _; omega
                · omega
              refine w_region (by kernel_rfl) ?_
              refine o_move gn rfl rfl ?_
              refine o_build (cs := #[iV 28, .string .empty, iV 0, iV 0, iV 0, .slice none 0 0]) (zv := .agg #[.int .i64 0, .string .empty, .int .i64 0, .int .i64 0, .int .i64 0, .slice none 0 0]) (pl := [(0, 1), (1, 1), (2, 1), (3, 1), (4, 1), (5, 1)]) [(0, _)] gn rfl (by kernel_rfl) (by kernel_rfl) rfl (by kernel_rfl) ?_
              refine o_call [_] gn rfl rfl (by kernel_rfl) rfl (C.mono (c20n S (by omega) 28 .empty) ?_)
              rintro v g ⟨bs2, bks2, S⟩
              refine ⟨ag0, ?_⟩
              refine wl_end ?_
              exact cutS [] (by repeat (first | exact trivial | refine ⟨rfl, ?_⟩)) ⟨rfl, _, _, _, by
                rw [List.map_append, eT, nestT, if_neg hq0]
                by_cases hq2 : q = 3
                · rw [if_pos hq2, if_pos hq2]; rfl
                · rw [if_neg hq2, if_neg hq2]; rfl, S⟩
    · obtain ⟨rfl, T, bs, bks, eT, S⟩ := hJ
      refine w_seq ?_
      have hTl : T.length ≤ 8 + 3 * m := by
        have e := congrArg List.length eT
        rw [List.length_map] at e
        rw [e]; exact nestT_len q m
      have hmay : mayS T = decide (((m + 1 : Nat) : Int) ≤ 64) := by
        rw [← may_pl, eT, nest_may hq3 hm70, decide_eq_decide]; omega
      have hsh := nest_short eT nestT_short
      have hne : textS T (T.length + 1) 0 .empty ≠ [] := by
        obtain ⟨l, e⟩ := nestT_head q m
        exact nest_text (eT.trans e)
      obtain ⟨v, S⟩ := tw_open S
      obtain ⟨va, vc, rfl⟩ := (S.sl 1 rfl).val
      refine w_region (by kernel_rfl) ?_
      refine o_load gn rfl rfl (by kernel_rfl) (S.cel 0 rfl) rfl ?_
      refine o_build (cs := #[.slice va T.length vc]) (zv := .agg #[.slice none 0 0]) (pl := [(0, 1)]) [(0, _)] gn rfl (by kernel_rfl) (by kernel_rfl) rfl (by kernel_rfl) ?_
      refine s_alloc (zv := .agg #[.slice none 0 0]) S gn rfl (by kernel_rfl) fun b13 g nb13 S => ?_
      first | refine s_storeA (n := 1) 0 S gn rfl rfl (by kernel_rfl) (by kernel_rfl) rfl rfl (by decide) rfl (fun g S => ag0) fun g S => ?_ | refine s_storeA (n := 1) 1 S gn rfl rfl (by kernel_rfl) (by kernel_rfl) rfl rfl (by decide) rfl (fun g S => ag0) fun g S => ?_ | refine s_storeA (n := 1) 2 S gn rfl rfl (by kernel_rfl) (by kernel_rfl) rfl rfl (by decide) rfl (fun g S => ag0) fun g S => ?_ | refine s_storeA (n := 1) 3 S gn rfl rfl (by kernel_rfl) (by kernel_rfl) rfl rfl (by decide) rfl (fun g S => ag0) fun g S => ?_ | refine s_storeA (n := 1) 4 S gn rfl rfl (by kernel_rfl) (by kernel_rfl) rfl rfl (by decide) rfl (fun g S => ag0) fun g S => ?_ | refine s_storeA (n := 1) 5 S gn rfl rfl (by kernel_rfl) (by kernel_rfl) rfl rfl (by decide) rfl (fun g S => ag0) fun g S => ?_ | refine s_storeA (n := 1) 6 S gn rfl rfl (by kernel_rfl) (by kernel_rfl) rfl rfl (by decide) rfl (fun g S => ag0) fun g S => ?_ | refine s_storeA (n := 1) 7 S gn rfl rfl (by kernel_rfl) (by kernel_rfl) rfl rfl (by decide) rfl (fun g S => ag0) fun g S => ?_
      refine wl_end ?_
      refine w_seq ?_
      refine w_region (by kernel_rfl) ?_
      refine o_loadA (n := 1) gn rfl rfl (by kernel_rfl) (by kernel_rfl) (by first | exact S.cel 0 rfl | exact S.cel 1 rfl | exact S.cel 2 rfl | exact S.cel 3 rfl | exact S.cel 4 rfl | exact S.cel 5 rfl | exact S.cel 6 rfl | exact S.cel 7 rfl) (by first | decide | exact Nat.le_refl _ | (simp; done)) ?_
      refine o_call [_] gn rfl rfl (by kernel_rfl) rfl (C.mono (c10 (B.ext S.e0) (tw_tree (S.sl 2 rfl) (ks_ok (S.res 3 rfl))) (by omega) hsh) ?_)
      rintro v g ⟨rfl, x⟩
      have S := S.grow x
      refine ⟨ag0, ?_⟩
      refine o_move gn rfl rfl ?_
      refine o_leq gn rfl rfl rfl ?_
      refine o_eqb gn rfl rfl rfl (by kernel_rfl) ?_
      refine o_move gn rfl rfl ?_
      refine wl_split (dc := 134) rfl (fun hb134 => ?_) fun hb134 => ?_
      · skip
        refine o_loadA (n := 1) (gy rfl rfl rfl hb134) rfl rfl (by kernel_rfl) (by kernel_rfl) (by first | exact S.cel 0 rfl | exact S.cel 1 rfl | exact S.cel 2 rfl | exact S.cel 3 rfl | exact S.cel 4 rfl | exact S.cel 5 rfl | exact S.cel 6 rfl | exact S.cel 7 rfl) (by first | decide | exact Nat.le_refl _ | (simp; done)) ?_
        refine o_call [_] (gy rfl rfl rfl hb134) rfl rfl (by kernel_rfl) rfl (C.mono (c11 (tw_tree (S.sl 2 rfl) (ks_ok (S.res 3 rfl))) (by omega) hsh) ?_)
        rintro v g ⟨rfl, x⟩
        have S := S.grow x
        refine ⟨ag0, ?_⟩
        refine o_move (gy rfl rfl rfl hb134) rfl rfl ?_
        refine o_leq (gy rfl rfl rfl hb134) rfl rfl rfl ?_
        refine o_eqb (gy rfl rfl rfl hb134) rfl rfl rfl (by kernel_rfl) ?_
        refine o_pickt gn rfl rfl hb134 rfl ?_
        refine o_move gn rfl rfl ?_
        refine wl_split (dc := 141) rfl (fun hb141 => ?_) fun hb141 => ?_
        · skip
          refine o_loadA (n := 1) (gy rfl rfl rfl hb141) rfl rfl (by kernel_rfl) (by kernel_rfl) (by first | exact S.cel 0 rfl | exact S.cel 1 rfl | exact S.cel 2 rfl | exact S.cel 3 rfl | exact S.cel 4 rfl | exact S.cel 5 rfl | exact S.cel 6 rfl | exact S.cel 7 rfl) (by first | decide | exact Nat.le_refl _ | (simp; done)) ?_
          refine o_call [_] (gy rfl rfl rfl hb141) rfl rfl (by kernel_rfl) rfl (C.mono (c12 (B.ext S.e0) (hP.ext S.e0) (tw_tree (S.sl 2 rfl) (ks_ok (S.res 3 rfl))) (by omega) hsh (ks_ok (S.res 3 rfl)) (fun hm => may_wok hm hsh) (fun hm => may_text hm (by omega) hsh)) ?_)
          rintro v g ⟨rfl, x⟩
          have S := S.grow x
          refine ⟨ag0, ?_⟩
          refine o_neS (gy rfl rfl rfl hb141) rfl rfl rfl ?_
          refine o_move (gy rfl rfl rfl hb141) rfl rfl ?_
          refine o_leq (gy rfl rfl rfl hb141) rfl rfl rfl ?_
          refine o_eqb (gy rfl rfl rfl hb141) rfl rfl rfl (by kernel_rfl) ?_
          refine o_pickt gn rfl rfl hb141 rfl ?_
          refine o_move gn rfl rfl ?_
          refine wl_split (dc := 149) rfl (fun hb149 => ?_) fun hb149 => ?_
          · skip
            refine o_sm [] (gy rfl rfl rfl hb149) rfl rfl (by kernel_rfl) (by kernel_rfl) sm9 rfl (knows (B.ext S.e0).t) (.refl _) ag0 ?_
            refine o_pickt gn rfl rfl hb149 rfl ?_
            refine o_assign gn rfl rfl ?_
            refine wl_end ?_
            refine w_ret ?_
            refine ⟨.inl rfl, _, rfl, ?_⟩
            exact rfl
          · skip
            exact absurd hb149 (by rw [print_ne hne, hmay]; simp)
        · skip
          exact absurd hb141 (by rw [hmay]; simp)
      · skip
        exact absurd hb134 (by rw [hmay]; simp)
end
end Go.Proofs.YtoejddhaiogonaaDoor

