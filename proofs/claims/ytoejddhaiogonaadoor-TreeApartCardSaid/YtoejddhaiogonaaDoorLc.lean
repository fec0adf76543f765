/- Chapter 2: Ups; the law of TreeSames. Conditions: the table of blanks; rows of kids no longer than Go's rows are. Chapter 2: the printer: what it owns; texts put. Conditions: the text stays short. Chapter 2: the text of a twig, as the program prints it; kids printed. Conditions: the text stays short. Chapter 2: rows of kids, kids in braces. Conditions: the text stays short. Chapter 2: kids in braces. Conditions: the text stays short. Chapter 2: what something goes to; branches. Conditions: the text stays short. Chapter 2: terms printed. Conditions: the text stays short; the library's table of powers of ten. Chapter 2: statements printed. Conditions: the text stays short; the library's table of powers of ten. Chapter 2: declarations printed. Conditions: the text stays short. Chapter 2: a twig printed, of what its kids come to. Conditions: the text stays short. Chapter 2: all twigs printed. Conditions: the tree may be; the text stays short. Chapter 2: what a builder comes to as a text. Conditions: the text stays short. -/
import Derived.Test.YtoejddhaiogonaaDoorLb
import Derived.Test.YtoejddhaiogonaaDoorXd
namespace Go.Proofs.YtoejddhaiogonaaDoor
open Go.X

theorem knows {h : Hp} (ht : tabThere 1 spaces h = true) : knownX 1 spaces [] h = some (.bool true, h) := by
  simp only [knownX, ht, cond_true]

section
variable {h : Hp} {sv va vb : Value} {T A D : List Tw}

end
end Go.Proofs.YtoejddhaiogonaaDoor

namespace Go.Proofs.YtoejddhaiogonaaDoor
open Go.X

/-- The printer: its block, its buffer. -/
def prR (pb : Nat) (sv : Value) (l : List UInt8) (ind : ByteArray) (bs : List Nat) : Res := ⟨pb :: bs, fun h => ∃ addr bv, (addr = .pointer none ∨ addr = .pointer (some ⟨pb, 1, none⟩)) ∧ h.get pb = some (.cells [sv, addr, bv, .string ind] 52 0) ∧ SlN 5 0 h bv (byV l) l.length bs ∧ (l = [] → bv = .slice none 0 0), fun h h' k hn p => by
  obtain ⟨addr, bv, h1, h2, h3, h4⟩ := p
  exact ⟨addr, bv, h1, by rw [(k pb (by simp)).2]; exact h2, (snR 5 0 bv (byV l) l.length bs).st h h' (fun i hi => k i (List.mem_cons_of_mem _ hi)) hn h3, h4⟩⟩
theorem el48 : ElN trE 48 5 0 0 := ⟨by kernel_rfl, by kernel_rfl, by kernel_rfl, .int .u8 0, by kernel_rfl, rfl⟩
theorem append_none {E : Env} {t t' e by' : Nat} {h h' : Hp} {v' : Value} {u : ByteArray} (x : ElN E t e 0 by') (h2 : E.und t' = some .string) (hu : u.toList = []) (ha : appendX E h t t' (.slice none 0 0) (.string u) = some (v', h')) : v' = .slice none 0 0 := by
  obtain ⟨hl, hf, _⟩ := src_string (h := h) u
  rw [hu] at hl hf
  rw [appendX_str x.und h2] at ha
  simp only [appendX, x.und, hl, x.size, x.bytes, List.length_nil, Nat.beq_refl, cond_true] at ha
  cases ha; rfl
/-- The printer's piece, as two. -/
theorem pr_open {h0 g : Hp} {pb : Nat} {sv : Value} {l : List UInt8} {ind : ByteArray} {bs : List Nat} (S0 : SH h0 [] [prR pb sv l ind bs] g) : ∃ addr bv, (addr = .pointer none ∨ addr = .pointer (some ⟨pb, 1, none⟩)) ∧ (l = [] → bv = .slice none 0 0) ∧ SH g (pb :: bs) [cR pb (.cells [sv, addr, bv, .string ind] 52 0), snR 5 0 bv (byV l) l.length bs] g := by
  obtain ⟨addr, bv, h1, h2, h3, h4⟩ := S0.res 0 rfl
  have S := S0.enter
  refine ⟨addr, bv, h1, h4, ⟨S.ext, fun r hr => ?_, fun i hi => S.lt i (by simpa [owns, cR, snR, prR] using hi), fun i hi => S.new i (by simpa [owns, cR, snR, prR] using hi), by simpa [owns, cR, snR, prR] using S.nd⟩⟩
  simp only [List.mem_cons, List.not_mem_nil, or_false] at hr
  rcases hr with rfl | rfl
  · exact h2
  exact h3
/-- The two, as the printer's piece. -/
theorem pr_shut {g g' : Hp} {ds : List Nat} {pb : Nat} {sv bv addr : Value} {l : List UInt8} {ind : ByteArray} {bs : List Nat} {L : List Res} (ha : addr = .pointer none ∨ addr = .pointer (some ⟨pb, 1, none⟩)) (hnil : l = [] → bv = .slice none 0 0) (S : SH g ds (cR pb (.cells [sv, addr, bv, .string ind] 52 0) :: snR 5 0 bv (byV l) l.length bs :: L) g') : SH g ds (prR pb sv l ind bs :: L) g' := by
  have e : owns (prR pb sv l ind bs :: L) = owns (cR pb (.cells [sv, addr, bv, .string ind] 52 0) :: snR 5 0 bv (byV l) l.length bs :: L) := by simp [owns, cR, snR, prR]
  refine ⟨S.ext, fun r hr => ?_, by rw [e]; exact S.lt, by rw [e]; exact S.new, by rw [e]; exact S.nd⟩
  rcases List.mem_cons.1 hr with rfl | hr
  · exact ⟨addr, bv, ha, S.cel 0 rfl, S.res 1 rfl, hnil⟩
  exact S.hold r (List.mem_cons_of_mem _ (List.mem_cons_of_mem _ hr))
theorem check_put {g : Hp} {ds : List Nat} {pb : Nat} {sv addr bv iv : Value} {L : List Res} {g0 : Hp} (ha : addr = .pointer none ∨ addr = .pointer (some ⟨pb, 1, none⟩)) (S : SH g0 ds (cR pb (.cells [sv, addr, bv, iv] 52 0) :: L) g) :
    ∃ g', checkX [(52, 4, 1)] [.pointer (some ⟨pb, 1, none⟩)] g = some (.tuple #[], g') ∧ KD g g' ∧ SH g0 ds (cR pb (.cells [sv, .pointer (some ⟨pb, 1, none⟩), bv, iv] 52 0) :: L) g' := by
  have hg := S.cel 0 rfl
  rcases ha with rfl | rfl
  · refine ⟨_, ?_, KD.put (.cells [sv, .pointer (some ⟨pb, 1, none⟩), bv, iv] 52 0) (fun d e => by rw [hg] at e; cases e), S.put 0 rfl _⟩
    simp only [checkX, rowOf, hg]
    show (cond (okIn 52 4 1 [(52, 4, 1)]) (match storeRow g ⟨pb, 1, none⟩ [.pointer (some ⟨pb, 1, none⟩)] with | some h' => some (Value.tuple #[], h') | none => none) none) = _
    have e : okIn 52 4 1 [(52, 4, 1)] = true := by kernel_rfl
    rw [e]
    simp only [cond_true, storeRow, hg]
    rfl
  refine ⟨g, ?_, .refl _, S⟩
  simp only [checkX, rowOf, hg]
  show cond (Nat.beq pb pb && Nat.beq 1 1) (some (Value.tuple #[], g)) none = _
  rw [Nat.beq_refl]; rfl

section
variable {h0 g : Hp} {pb : Nat} {sv : Value} {l : List UInt8} {ind : ByteArray} {bs : List Nat}

/-- WriteString -/
theorem c69 (S0 : SH h0 [] [prR pb sv l ind bs] g) (u : ByteArray) (hn : l.length + u.toList.length ≤ 1099511627776) : C trE 69 [.pointer (some ⟨pb, 1, none⟩), .string u] g fun _ g' => ∃ bs', SH g (pb :: bs) [prR pb sv (l ++ u.toList) ind bs'] g' := by
  obtain ⟨addr, bv, ha, hnil, S1⟩ := pr_open S0
  refine c_enter (fu := Tryd.f69) (by kernel_rfl) rfl ?_
  have S := S1
  refine w_seq ?_
  refine w_region (by kernel_rfl) ?_
  refine o_assign gn rfl rfl ?_
  refine o_assign gn rfl rfl ?_
  refine wl_end ?_
  refine w_seq ?_
  refine w_region (by kernel_rfl) ?_
  refine o_move gn rfl rfl ?_
  obtain ⟨g1, hc1, hc2, S⟩ := check_put ha S
  refine o_sm [_] gn rfl rfl (by kernel_rfl) (by kernel_rfl) sm87 rfl hc1 hc2 ag0 ?_
  refine wl_end ?_
  refine w_seq ?_
  refine w_region (by kernel_rfl) ?_
  refine o_move gn rfl rfl ?_
  refine o_move gn rfl rfl ?_
  refine o_nilCheck gn rfl rfl ?_
  refine o_fieldAddr (off := 1) gn rfl rfl (by kernel_rfl) ?_
  refine o_load gn rfl rfl (by kernel_rfl) (by exact S.cel 0 rfl) rfl ?_
  refine o_move gn rfl rfl ?_
  obtain ⟨v', g2, bs', q1, q2, q3, q4⟩ := append_str el48 (t' := 9) (by kernel_rfl) (S.res 1 rfl) u (by omega)
  have S := S.upd (r' := snR 5 0 v' (byV (l ++ u.toList)) (l ++ u.toList).length bs') 1 rfl q3 q2 q2.lt q4 q2.nodup
  refine o_append gn rfl rfl rfl q1 ag0 ?_
  refine o_nilCheck gn rfl rfl ?_
  refine o_fieldAddr (off := 1) gn rfl rfl (by kernel_rfl) ?_
  refine s_store 0 S gn rfl rfl (by obtain ⟨a, ea⟩ := q2.val; rw [ea]; rfl) (by kernel_rfl) rfl (by decide) (by simp) (fun g S => ag0) fun g S => ?_
  refine wl_end ?_
  refine w_seq ?_
  refine w_region (by kernel_rfl) ?_
  refine o_move gn rfl rfl ?_
  refine o_lenstr gn rfl rfl (by kernel_rfl) ?_
  refine o_assign gn rfl rfl ?_
  refine o_assign gn rfl rfl ?_
  refine wl_end ?_
  refine w_ret ?_
  refine ⟨.inl rfl, _, rfl, ?_⟩
  exact ⟨bs', pr_shut (.inr rfl) (fun e => by
    obtain ⟨e1, e2⟩ := List.append_eq_nil_iff.1 e
    rw [hnil e1] at q1
    exact append_none el48 (by kernel_rfl) e2 q1) S⟩
end

/-- A row of texts, apart from some blocks. -/
def WRow (h : Hp) (ds : List Nat) (v : Value) (ws : List ByteArray) : Prop := ∃ q e m, v = .slice (some ⟨q, 0, none⟩) ws.length ws.length ∧ h.get q = some (.cells (ws.map Value.string) e m) ∧ q < h.n ∧ q ∉ ds
theorem _root_.Go.X.SH.wrow {h0 h : Hp} {ds : List Nat} {L : List Res} {b e m : Nat} {cs : List Value} {r : Res} (S : SH h0 ds L h) (i j : Nat) (e1 : L[i]? = some (cR b (.cells cs e m))) (e2 : L[j]? = some r) (hij : i ≠ j) (ws : List ByteArray) (hc : cs = ws.map Value.string) : WRow h r.own (.slice (some ⟨b, 0, none⟩) ws.length ws.length) ws :=
  ⟨b, e, m, rfl, by rw [← hc]; exact S.cel i e1, S.lt1 i e1, S.apart i j e1 e2 hij⟩
def catL (ws : List ByteArray) : List UInt8 := ws.flatMap ByteArray.toList
theorem catL_take {ws : List ByteArray} {j : Nat} (h : j < ws.length) : catL (ws.take (j + 1)) = catL (ws.take j) ++ ws[j].toList := by
  rw [catL, catL, List.take_add_one, List.getElem?_eq_getElem h, List.flatMap_append]; simp
theorem catL_le (ws : List ByteArray) (j : Nat) : (catL (ws.take j)).length ≤ (catL ws).length := by
  have : catL ws = catL (ws.take j) ++ catL (ws.drop j) := by rw [catL, catL, catL, ← List.flatMap_append, List.take_append_drop]
  rw [this, List.length_append]; omega

section
variable {h0 g : Hp} {pb : Nat} {sv v : Value} {l : List UInt8} {ind : ByteArray} {bs : List Nat}

/-- put -/
theorem c47 {ws : List ByteArray} (S0 : SH h0 [] [prR pb sv l ind bs] g) (R : WRow g (pb :: bs) v ws) (hn : l.length + (catL ws).length ≤ 1099511627776) (hw : ws.length ≤ 1000) : C trE 47 [.pointer (some ⟨pb, 0, none⟩), v] g fun _ g' => ∃ bs', SH g (pb :: bs) [prR pb sv (l ++ catL ws) ind bs'] g' := by
  obtain ⟨q, e, m, rfl, hq, hlt, hd⟩ := R
  refine c_enter (fu := Tryd.f47) (by kernel_rfl) rfl ?_
  have S := S0.enter
  refine w_seq ?_
  refine w_region (by kernel_rfl) ?_
  refine o_move gn rfl rfl ?_
  refine o_len gn rfl rfl (by kernel_rfl) ?_
  refine o_move gn rfl rfl ?_
  refine wl_end ?_
  refine w_block ?_
  refine w_loopS [(8, _)] [(0, _), (6, _), (7, _)] (by repeat (first | exact trivial | refine ⟨rfl, ?_⟩)) (fun kk lv hh => ∃ (j : Nat) (bs1 : List Nat), lv = [(8, iV j)] ∧ kk = ws.length - j ∧ j ≤ ws.length ∧ SH g (pb :: bs) [prR pb sv (l ++ catL (ws.take j)) ind bs1] hh) (n := (ws.length)) ?_ fun kk lv hh hI => ?_
  · exact ⟨0, bs, rfl, rfl, by omega, by rw [List.take_zero]; simp only [catL, List.flatMap_nil, List.append_nil]; exact S⟩
  obtain ⟨j, bs1, rfl, hk, hj, S⟩ := hI
  refine w_seq ?_
  refine w_region (by kernel_rfl) ?_
  refine o_lss gn rfl rfl rfl ?_
  refine wl_end ?_
  refine w_seq ?_
  refine w_cond rfl (fun hb => ?_) fun hb => ?_
  · skip
    refine w_skip ?_
    have hj : j < ws.length := by simp at hb; omega
    have hcl := catL_le ws (j + 1)
    rw [catL_take hj] at hcl
    refine w_seq ?_
    refine w_block ?_
    refine w_seq ?_
    refine w_region (by kernel_rfl) ?_
    refine o_indexAddr (zz := 1) gn rfl rfl rfl (by kernel_rfl) (by omega) (by omega) ?_
    refine o_load gn rfl rfl (by kernel_rfl) (S.old hq hlt hd) (by rw [Int.toNat_natCast, Nat.mul_one, Nat.zero_add, List.getElem?_map, List.getElem?_eq_getElem hj]; rfl) ?_
    refine o_assign gn rfl rfl ?_
    refine wl_end ?_
    refine w_region (by kernel_rfl) ?_
    refine o_move gn rfl rfl ?_
    refine o_nilCheck gn rfl rfl ?_
    refine o_fieldAddr (off := 1) gn rfl rfl (by kernel_rfl) ?_
    refine o_move gn rfl rfl ?_
    refine o_call [_, _] gn rfl rfl (by kernel_rfl) rfl (C.mono (c69 (S0.sub1 S0.own0 S 0 rfl) ws[j] (by simp only [List.length_append] at *; omega)) ?_)
    rintro v g ⟨bs', S2⟩
    have S := S.ret 0 rfl S2
    refine ⟨ag0, ?_⟩
    refine wl_end ?_
    refine w_region (by kernel_rfl) ?_
    refine o_add gn rfl rfl rfl (by omega) (by omega) ?_
    refine o_move gn rfl rfl ?_
    refine wl_end ?_
    exact rndS (ws.length - (j + 1)) (by omega) [(8, _)] (by repeat (first | exact trivial | refine ⟨rfl, ?_⟩)) ⟨j + 1, bs', rfl, rfl, by omega, by rw [catL_take hj, ← List.append_assoc]; exact S⟩
  refine w_exit ?_
  refine thn_exit ?_
  refine rnd_exit ?_
  refine blk_eq ?_
  refine ⟨.inr rfl, _, rfl, ?_⟩
  exact ⟨bs1, by
    have hjj : j = ws.length := by simp at hb; omega
    rw [hjj, List.take_length] at S; exact S⟩
end

/-- The printer's cells. -/
theorem pr_cells {h g : Hp} {ds : List Nat} {L : List Res} {pb : Nat} {sv : Value} {l : List UInt8} {ind : ByteArray} {bs : List Nat} (i : Nat) (S : SH h ds L g) (e : L[i]? = some (prR pb sv l ind bs)) :
    ∃ addr bv, g.get pb = some (.cells [sv, addr, bv, .string ind] 52 0) ∧ ∀ ind', SH h ds (L.set i (prR pb sv l ind' bs)) (g.put pb (.cells ([sv, addr, bv, .string ind].set 3 (.string ind')) 52 0)) := by
  obtain ⟨addr, bv, h1, h2, h3, h4⟩ := S.res i e
  have hm := List.mem_of_getElem? e
  have hpb : pb < g.n := S.lt pb (mem_owns hm (by simp [prR]))
  have hnb : pb ∉ bs := by
    obtain ⟨A, B, rfl, _⟩ := perm_set e (prR pb sv l ind bs)
    have := S.nd
    rw [owns_app, owns_cons, List.nodup_append] at this
    have := (List.nodup_append.1 this.2.1).1
    exact (List.nodup_cons.1 this).1
  have hnd : (pb :: bs).Nodup := by
    obtain ⟨A, B, rfl, _⟩ := perm_set e (prR pb sv l ind bs)
    have := S.nd
    rw [owns_app, owns_cons, List.nodup_append] at this
    exact (List.nodup_append.1 this.2.1).1
  refine ⟨addr, bv, h2, fun ind' => S.upd (r' := prR pb sv l ind' bs) i e ((ExtB.put g pb _).mono fun j hj => ?_) ⟨addr, bv, h1, Hp.get_put_self _ _ _, h3.keep (ExtB.put g pb _) (fun j hj => ?_), h4⟩ (fun j hj => ?_) (fun j hj => .inl hj) hnd⟩
  · simp only [List.mem_singleton] at hj; subst hj; simp [prR]
  · rw [List.mem_singleton]; exact fun e => hnb (e ▸ hj)
  rw [Hp.n_put]; exact S.lt j (mem_owns hm hj)
end Go.Proofs.YtoejddhaiogonaaDoor

namespace Go.Proofs.YtoejddhaiogonaaDoor
open Go.X

section
variable (rec : Nat → ByteArray → List UInt8) (T : List Tw) (w : Tw) (ind : ByteArray)
def kidT (i : Nat) : List UInt8 := match w.kids[i]? with
  | none => []
  | some k => match T[k.toNat]? with
    | none => []
    | some w' => if parenK w.K w.s i w'.K w'.s = true then catL [⟨#[40]⟩] ++ rec k.toNat ind ++ catL [⟨#[41]⟩] else rec k.toNat ind
def bracesT (l : List Int) : List UInt8 := if l = [] then catL [⟨#[123, 32, 125]⟩] else
  catL [⟨#[123, 10]⟩] ++ (l.flatMap fun k => catL [ind ++ ⟨#[32, 32]⟩] ++ rec k.toNat (ind ++ ⟨#[32, 32]⟩) ++ catL [⟨#[10]⟩]) ++ catL [ind, ⟨#[125]⟩]
def rowT (word : ByteArray) (from' : Nat) : List UInt8 := catL [word] ++ ((List.range (w.kids.length - from')).flatMap fun i => catL [⟨#[32]⟩] ++ kidT rec T w ind (from' + i))
end
/-- What the twigs below come to. -/
def TwC (h0 : Hp) (sv : Value) (T : List Tw) (rec : Nat → ByteArray → List UInt8) (lo : Nat) : Prop := ∀ (j : Nat) (w : Tw), lo < j → T[j]? = some w → ∀ (g : Hp) (pb : Nat) (l : List UInt8) (ind : ByteArray) (bs : List Nat), SH h0 [] [prR pb sv l ind bs] g → l.length + (rec j ind).length ≤ 1099511627776 →
  C trE 27 [.pointer (some ⟨pb, 0, none⟩), w.val] g fun _ g' => ∃ bs', SH g (pb :: bs) [prR pb sv (l ++ rec j ind) ind bs'] g'
theorem kidT_of {rec : Nat → ByteArray → List UInt8} {T : List Tw} {w w' : Tw} {ind : ByteArray} {i j : Nat} (h1 : w.kids[i]? = some (j : Int)) (h2 : T[j]? = some w') : kidT rec T w ind i = if parenK w.K w.s i w'.K w'.s = true then catL [⟨#[40]⟩] ++ rec j ind ++ catL [⟨#[41]⟩] else rec j ind := by
  simp only [kidT, h1, Int.toNat_natCast, h2]
theorem paren_prog {K K' i : Int} {s s' : ByteArray} (h1 : decide (0 < bindsK K' s') = true) : decide (bindsK K' s' < mustK K s i) = parenK K s i K' s' := by
  rw [parenK, ← binds_pos (s := s'), h1, Bool.true_and]

section
variable {h0 g : Hp} {pb : Nat} {sv : Value} {l : List UInt8} {ind : ByteArray} {bs : List Nat} {T : List Tw} {w : Tw} {rec : Nat → ByteArray → List UInt8} {lo : Nat}

/-- kid -/
theorem c70 {i j : Nat} {w' : Tw} (S0 : SH h0 [] [prR pb sv l ind bs] g) (X : TreeAt h0 sv T) (hC : TwC h0 sv T rec lo) (hR : RowV h0 w.ks (isV w.kids)) (hi : w.kids[i]? = some (j : Int)) (hq : T[j]? = some w') (hlo : lo < j) (hi2 : i ≤ 1000)
    (hn : l.length + (kidT rec T w ind i).length ≤ 1099511627776) : C trE 70 [.pointer (some ⟨pb, 0, none⟩), w.val, iV i] g fun _ g' => ∃ bs', SH g (pb :: bs) [prR pb sv (l ++ kidT rec T w ind i) ind bs'] g' := by
  obtain ⟨ta, tc, rfl⟩ := X.val
  have Y := X
  have hks := RowV.same hR
  have hkid := hi
  obtain ⟨hil, hie⟩ := List.getElem?_eq_some_iff.1 hi
  obtain ⟨hj, hjw⟩ := List.getElem?_eq_some_iff.1 hq
  rw [kidT_of hi hq] at hn ⊢
  obtain ⟨K, s, N, L, Co, ks, kids⟩ := w
  simp only at hR hks hil hie hn
  obtain ⟨ka, kc, rfl⟩ := hR.valM
  obtain ⟨b, o, c, cs, e, m, hv, hg, hlb, hl6, hat⟩ := X.at (by omega)
  have hta : ta = some ⟨b, o, none⟩ := by injection hv
  have hw := hat j hj
  rw [hjw] at hw
  have hm := X.2 w' (List.mem_of_getElem? hq)
  have hC' := hC j w' hlo hq
  obtain ⟨K3, s3, N3, L3, C3, ks3, kids3⟩ := w'
  simp only at hm hn
  obtain ⟨ka3, kc3, rfl⟩ := hm.valM
  have hw4 : (cs.drop (o + Int.toNat (j : Int) * 6)).take 6 = [iV K3, .string s3, iV N3, iV L3, iV C3, .slice ka3 kids3.length kc3] := by rw [Int.toNat_natCast]; exact hw
  obtain ⟨kb, ko, kc', kcs, ke, km, hv2, hg2, hlt2, hat2⟩ := hR.atM (by omega)
  have hka : ka = some ⟨kb, ko, none⟩ := by injection hv2
  have hat3 : kcs[ko + i]? = some (iV j) := by rw [hat2 i hil, hie]
  refine c_enter (fu := Tryd.f70) (by kernel_rfl) rfl ?_
  have S := S0.enter
  refine w_seq ?_
  refine w_region (by kernel_rfl) ?_
  refine s_box S gn rfl rfl fun b1 g nb1 S => ?_
  refine wl_end ?_
  refine w_seq ?_
  obtain ⟨pa, pv, _, hpb, _⟩ := S.res 1 rfl
  refine w_draw [(0, []), (1, []), (2, []), (3, []), (4, []), (5, []), (6, []), (7, []), (8, []), (9, []), (10, []), (11, []), (12, []), (13, [])] (by kernel_rfl) (by kernel_rfl) (by kernel_rfl) (by kernel_rfl) ?_
  refine o_move gn rfl rfl ?_
  refine o_nilCheck gn rfl rfl ?_
  refine o_fieldAddr (off := 0) gn rfl rfl (by kernel_rfl) ?_
  refine o_fieldAddr (off := 0) gn rfl rfl (by kernel_rfl) ?_
  refine o_load gn rfl rfl (by kernel_rfl) hpb rfl ?_
  refine o_fieldAddr (off := 5) gn rfl rfl (by kernel_rfl) ?_
  refine o_load gn rfl rfl (by kernel_rfl) (by exact S.cel 0 rfl) rfl ?_
  refine o_move gn rfl rfl ?_
  rw [hka]
  refine o_indexAddr (zz := 1) gn rfl rfl rfl (by kernel_rfl) (by omega) (by omega) ?_
  rw [← hka]
  refine o_load gn rfl rfl (by kernel_rfl) (S0.two S0.own0 S hg2 hlt2) (by rw [Int.toNat_natCast, Nat.mul_one]; exact hat3) ?_
  rw [hta]
  refine o_indexAddr (zz := 6) gn rfl rfl rfl (by kernel_rfl) (by omega) (by omega) ?_
  refine o_loadA (n := 6) gn rfl rfl (by kernel_rfl) (by kernel_rfl) (S0.two S0.own0 S hg hlb) (by rw [Int.toNat_natCast]; omega) ?_
  rw [hw4, ← hta]
  refine s_alloc (zv := .agg #[.int .i64 0, .string .empty, .int .i64 0, .int .i64 0, .int .i64 0, .slice none 0 0]) S gn rfl (by kernel_rfl) fun b2 g nb2 S => ?_
  refine s_storeA (n := 6) 0 S gn rfl rfl (by kernel_rfl) (by kernel_rfl) rfl rfl (by decide) rfl (fun g S => ag0) fun g S => ?_
  refine wl_end ?_
  refine w_seq ?_
  refine w_seq ?_
  refine w_draw [(0, []), (1, []), (2, []), (3, []), (4, []), (6, []), (7, []), (5, [6]), (8, []), (9, []), (10, [])] (by kernel_rfl) (by kernel_rfl) (by kernel_rfl) (by kernel_rfl) ?_
  refine o_loadA (n := 6) gn rfl rfl (by kernel_rfl) (by kernel_rfl) (by exact S.cel 0 rfl) (Nat.le_refl _) ?_
  refine o_call [_] gn rfl rfl (by kernel_rfl) rfl (C.mono (c18) ?_)
  rintro v g ⟨rfl, x⟩
  have S := S.grow x
  refine ⟨ag0, ?_⟩
  refine o_gtr gn rfl rfl rfl ?_
  refine o_move gn rfl rfl ?_
  refine wl_split (dc := 22) rfl (fun hb22 => ?_) fun hb22 => ?_
  · skip
    refine o_loadA (n := 6) (gy rfl rfl rfl hb22) rfl rfl (by kernel_rfl) (by kernel_rfl) (by exact S.cel 0 rfl) (Nat.le_refl _) ?_
    refine o_loadA (n := 6) (gy rfl rfl rfl hb22) rfl rfl (by kernel_rfl) (by kernel_rfl) (by exact S.cel 1 rfl) (Nat.le_refl _) ?_
    refine o_move (gy rfl rfl rfl hb22) rfl rfl ?_
    refine o_call [_] (gy rfl rfl rfl hb22) rfl rfl (by kernel_rfl) rfl (C.mono (c18) ?_)
    rintro v g ⟨rfl, x⟩
    have S := S.grow x
    refine ⟨(ag1 (ag_loadA (n := 6) (gy rfl rfl rfl hb22) rfl (by kernel_rfl) (by kernel_rfl) (by exact S.cel 1 rfl) (Nat.le_refl _) rfl (same_tw hks)) ag0), ?_⟩
    refine o_call [_, _] (gy rfl rfl rfl hb22) rfl rfl (by kernel_rfl) rfl (C.mono (c57 (by omega) (by omega)) ?_)
    rintro v g ⟨rfl, x⟩
    have S := S.grow x
    refine ⟨ag0, ?_⟩
    refine o_lss (gy rfl rfl rfl hb22) rfl rfl rfl ?_
    refine o_pickt gn rfl rfl hb22 rfl ?_
    refine wl_end ?_
    refine w_cond rfl (fun hb => ?_) fun hb => ?_
    · skip
      refine w_seq ?_
      have hp : parenK K s i K3 s3 = true := by rw [← paren_prog hb22]; exact hb
      simp only [hp, if_true, List.length_append] at hn ⊢
      refine w_region (by kernel_rfl) ?_
      refine o_move gn rfl rfl ?_
      refine s_buildSlice (cs := (([⟨#[40]⟩] : List ByteArray).map Value.string).toArray) (e := 9) (z := 0) (zv := .string .empty) [(0, _)] S gn rfl (by kernel_rfl) (by kernel_rfl) (by kernel_rfl) (by kernel_rfl) rfl (by kernel_rfl) fun b3 g nb3 S => ?_
      refine o_call [_, _] gn rfl rfl (by kernel_rfl) rfl (C.mono (c47 (S0.sub1 S0.own0 S 3 rfl) (S.wrow 0 3 rfl rfl (by decide) [⟨#[40]⟩] rfl) (by omega) (by decide)) ?_)
      rintro v g ⟨bs', S2⟩
      have S := S.ret 3 rfl S2
      refine ⟨ag0, ?_⟩
      refine wl_end ?_
      refine w_seq ?_
      refine w_region (by kernel_rfl) ?_
      refine o_move gn rfl rfl ?_
      refine o_loadA (n := 6) gn rfl rfl (by kernel_rfl) (by kernel_rfl) (by exact S.cel 1 rfl) (Nat.le_refl _) ?_
      refine o_call [_, _] gn rfl rfl (by kernel_rfl) rfl (C.mono (hC' _ _ _ _ _ (S0.sub1 S0.own0 S 3 rfl) (by simp only [List.length_append]; omega)) ?_)
      rintro v g ⟨bs', S2⟩
      have S := S.ret 3 rfl S2
      refine ⟨ag0, ?_⟩
      refine wl_end ?_
      refine w_seq ?_
      refine w_region (by kernel_rfl) ?_
      refine o_move gn rfl rfl ?_
      refine s_buildSlice (cs := (([⟨#[41]⟩] : List ByteArray).map Value.string).toArray) (e := 9) (z := 0) (zv := .string .empty) [(0, _)] S gn rfl (by kernel_rfl) (by kernel_rfl) (by kernel_rfl) (by kernel_rfl) rfl (by kernel_rfl) fun b4 g nb4 S => ?_
      refine o_call [_, _] gn rfl rfl (by kernel_rfl) rfl (C.mono (c47 (S0.sub1 S0.own0 S 4 rfl) (S.wrow 0 4 rfl rfl (by decide) [⟨#[41]⟩] rfl) (by simp only [List.length_append]; omega) (by decide)) ?_)
      rintro v g ⟨bs', S2⟩
      have S := S.ret 4 rfl S2
      refine ⟨ag0, ?_⟩
      refine wl_end ?_
      refine w_ret ?_
      refine ⟨.inl rfl, _, rfl, ?_⟩
      exact ⟨bs', by rw [← List.append_assoc, ← List.append_assoc]; exact S.pick 4 rfl⟩
    refine w_skip ?_
    have hp : parenK K s i K3 s3 = false := by rw [← paren_prog hb22]; exact hb
    simp only [hp, Bool.false_eq_true, if_false] at hn ⊢
    refine w_region (by kernel_rfl) ?_
    refine o_move gn rfl rfl ?_
    refine o_loadA (n := 6) gn rfl rfl (by kernel_rfl) (by kernel_rfl) (by exact S.cel 0 rfl) (Nat.le_refl _) ?_
    refine o_call [_, _] gn rfl rfl (by kernel_rfl) rfl (C.mono (hC' _ _ _ _ _ (S0.sub1 S0.own0 S 2 rfl) hn) ?_)
    rintro v g ⟨bs', S2⟩
    have S := S.ret 2 rfl S2
    refine ⟨ag0, ?_⟩
    refine wl_end ?_
    refine ⟨.inr rfl, _, rfl, ?_⟩
    exact ⟨bs', S.pick 2 rfl⟩
  refine wl_skips (n := 6) (dc := 22) (w := true) rfl hb22 rfl ?_
  refine o_pickf gn rfl rfl hb22 rfl ?_
  refine wl_end ?_
  refine w_cond rfl (fun hb => ?_) fun hb => ?_
  · skip
    refine w_seq ?_
    exact absurd hb (by decide)
  refine w_skip ?_
  have hp : parenK K s i K3 s3 = false := by rw [parenK, ← binds_pos (s := s3), hb22, Bool.false_and]
  simp only [hp, Bool.false_eq_true, if_false] at hn ⊢
  refine w_region (by kernel_rfl) ?_
  refine o_move gn rfl rfl ?_
  refine o_loadA (n := 6) gn rfl rfl (by kernel_rfl) (by kernel_rfl) (by exact S.cel 0 rfl) (Nat.le_refl _) ?_
  refine o_call [_, _] gn rfl rfl (by kernel_rfl) rfl (C.mono (hC' _ _ _ _ _ (S0.sub1 S0.own0 S 2 rfl) hn) ?_)
  rintro v g ⟨bs', S2⟩
  have S := S.ret 2 rfl S2
  refine ⟨ag0, ?_⟩
  refine wl_end ?_
  refine ⟨.inr rfl, _, rfl, ?_⟩
  exact ⟨bs', S.pick 2 rfl⟩
end
end Go.Proofs.YtoejddhaiogonaaDoor

namespace Go.Proofs.YtoejddhaiogonaaDoor
open Go.X

theorem el28 : ElN trE 28 3 0 7 := ⟨by kernel_rfl, by kernel_rfl, by kernel_rfl, .int .i64 0, by kernel_rfl, rfl⟩
/-- A twig's kids are twigs behind it. -/
def KidsOk (T : List Tw) (w : Tw) (lo : Nat) : Prop := w.kids.length ≤ 1000 ∧ ∀ i, i < w.kids.length → ∃ (j : Nat) (w' : Tw), w.kids[i]? = some (j : Int) ∧ T[j]? = some w' ∧ lo < j
theorem flat_take {α : Type} (F : Nat → List α) (j : Nat) : (List.range (j + 1)).flatMap F = (List.range j).flatMap F ++ F j := by
  rw [List.range_succ, List.flatMap_append]; simp
theorem flat_le {α : Type} (F : Nat → List α) (j n : Nat) (h : j ≤ n) : ((List.range j).flatMap F).length ≤ ((List.range n).flatMap F).length := by
  induction n with
  | zero => have : j = 0 := by omega
            subst this; exact Nat.le_refl _
  | succ n ih =>
    by_cases e : j = n + 1
    · subst e; exact Nat.le_refl _
    rw [flat_take, List.length_append]
    have := ih (by omega); omega

section
variable {h0 hE : Hp} {pb : Nat} {sv : Value} {l : List UInt8} {ind : ByteArray} {bs : List Nat} {T : List Tw} {w : Tw} {rec : Nat → ByteArray → List UInt8} {lo : Nat}

/-- row -/
theorem c74 {word : ByteArray} {fr : Nat} (S0 : SH h0 [] [prR pb sv l ind bs] hE) (X : TreeAt h0 sv T) (hC : TwC h0 sv T rec lo) (hK : KidsOk T w lo) (hS : RowG h0 w.ks (isV w.kids)) (hf : fr ≤ w.kids.length)
    (hn : l.length + (rowT rec T w ind word fr).length ≤ 1099511627776) : C trE 74 [.pointer (some ⟨pb, 0, none⟩), w.val, .string word, iV fr] hE fun _ g' => ∃ bs', SH hE (pb :: bs) [prR pb sv (l ++ rowT rec T w ind word fr) ind bs'] g' := by
  have hRow := hS.row
  have hks := RowV.same hRow
  obtain ⟨n, hnn⟩ : ∃ n, n = w.kids.length - fr := ⟨_, rfl⟩
  have hK1 := hK.1
  have hv : w.val = twV w.K w.s w.N w.L w.C w.ks := rfl
  have e0 : rowT rec T w ind word fr = catL [word] ++ ((List.range n).flatMap fun i => catL [⟨#[32]⟩] ++ kidT rec T w ind (fr + i)) := by rw [rowT, hnn]
  rw [e0] at hn ⊢
  simp only [List.length_append] at hn
  refine c_enter (fu := Tryd.f74) (by kernel_rfl) rfl ?_
  have S := S0.enter
  refine w_seq ?_
  refine w_region (by kernel_rfl) ?_
  refine s_box S gn rfl rfl fun b1 g nb1 S => ?_
  refine wl_end ?_
  refine w_seq ?_
  refine w_region (by kernel_rfl) ?_
  refine o_move gn rfl rfl ?_
  refine o_move gn rfl rfl ?_
  refine s_buildSlice (cs := (([word] : List ByteArray).map Value.string).toArray) (e := 9) (z := 0) (zv := .string .empty) [(0, _)] S gn rfl (by kernel_rfl) (by kernel_rfl) (by kernel_rfl) (by kernel_rfl) rfl (by kernel_rfl) fun b2 g nb2 S => ?_
  refine o_call [_, _] gn rfl rfl (by kernel_rfl) rfl (C.mono (c47 (S0.sub1 S0.own0 S 2 rfl) (S.wrow 0 2 rfl rfl (by decide) [word] rfl) (by omega) (by simp)) ?_)
  rintro v g ⟨bs', S2⟩
  have S := S.ret 2 rfl S2
  refine ⟨ag0, ?_⟩
  refine wl_end ?_
  refine w_seq ?_
  refine w_region (by kernel_rfl) ?_
  refine o_fieldAddr (off := 5) gn rfl rfl (by kernel_rfl) ?_
  refine o_load gn rfl rfl (by kernel_rfl) (by exact S.cel 1 rfl) rfl ?_
  refine o_move gn rfl rfl ?_
  obtain ⟨sl, hslr, hsl⟩ := slice_G el28 (hS.ext (S0.all0 S0.own0 S)) (show fr ≤ (isV w.kids).length by rw [List.length_map]; exact hf)
  have hsl := hsl _ (.refl _)
  obtain ⟨sa, sc, rfl⟩ := hslr.val
  have hsn : ((isV w.kids).drop fr).length = n := by rw [List.length_drop, List.length_map, hnn]
  rw [hsn] at hsl
  refine o_sliceF gn rfl rfl rfl hsl ?_
  refine o_len gn rfl rfl (by kernel_rfl) ?_
  refine o_move gn rfl rfl ?_
  refine wl_end ?_
  refine w_block ?_
  refine w_loopS [(18, _)] [(0, _), (3, _), (5, _), (17, _)] (by repeat (first | exact trivial | refine ⟨rfl, ?_⟩)) (fun kk lv hh => ∃ (j : Nat) (bs1 : List Nat), lv = [(18, iV j)] ∧ kk = n - j ∧ j ≤ n ∧ SH hE (pb :: bs) [cR b2 (.cells [.string word] 9 0), cR b1 (.cells (twC w.K w.s w.N w.L w.C w.ks) 30 0), prR pb sv (l ++ catL [word] ++ (List.range j).flatMap fun i => catL [⟨#[32]⟩] ++ kidT rec T w ind (fr + i)) ind bs1] hh) (n := n) ?_ fun kk lv hh hI => ?_
  · exact ⟨0, _, rfl, rfl, by omega, by simp only [List.range_zero, List.flatMap_nil, List.append_nil]; exact S⟩
  obtain ⟨j, bs1, rfl, hk, hj, S⟩ := hI
  refine w_seq ?_
  refine w_region (by kernel_rfl) ?_
  refine o_lss gn rfl rfl rfl ?_
  refine wl_end ?_
  refine w_seq ?_
  refine w_cond rfl (fun hb => ?_) fun hb => ?_
  · skip
    refine w_skip ?_
    have hj : j < n := by simp at hb; omega
    have hfl := flat_le (fun i => catL [⟨#[32]⟩] ++ kidT rec T w ind (fr + i)) (j + 1) n (by omega)
    rw [flat_take] at hfl
    simp only [List.length_append] at hfl
    obtain ⟨q, w', hq1, hq2, hq3⟩ := hK.2 (fr + j) (by omega)
    refine w_seq ?_
    refine w_block ?_
    refine w_seq ?_
    refine w_region (by kernel_rfl) ?_
    refine o_move gn rfl rfl ?_
    refine o_assign gn rfl rfl ?_
    refine wl_end ?_
    refine w_seq ?_
    refine w_region (by kernel_rfl) ?_
    refine o_move gn rfl rfl ?_
    refine s_buildSlice (cs := (([⟨#[32]⟩] : List ByteArray).map Value.string).toArray) (e := 9) (z := 0) (zv := .string .empty) [(0, _)] S gn rfl (by kernel_rfl) (by kernel_rfl) (by kernel_rfl) (by kernel_rfl) rfl (by kernel_rfl) fun b3 g nb3 S => ?_
    refine o_call [_, _] gn rfl rfl (by kernel_rfl) rfl (C.mono (c47 (S0.sub1 S0.own0 S 3 rfl) (S.wrow 0 3 rfl rfl (by decide) [⟨#[32]⟩] rfl) (by simp only [List.length_append]; omega) (by simp)) ?_)
    rintro v g ⟨bs', S2⟩
    have S := S.ret 3 rfl S2
    refine ⟨ag0, ?_⟩
    refine wl_end ?_
    refine w_region (by kernel_rfl) ?_
    refine o_move gn rfl rfl ?_
    refine o_loadA (n := 6) gn rfl rfl (by kernel_rfl) (by kernel_rfl) (by exact S.cel 2 rfl) (Nat.le_refl _) ?_
    refine o_move gn rfl rfl ?_
    refine o_move gn rfl rfl ?_
    refine o_add gn rfl rfl rfl (by omega) (by omega) ?_
    refine o_call [_, _, _] gn rfl rfl (by kernel_rfl) rfl (C.mono (c70 (w := w) (i := fr + j) (S0.sub1 S0.own0 S 3 rfl) X hC hRow hq1 hq2 hq3 (by omega) (by simp only [List.length_append]; omega)) ?_)
    rintro v g ⟨bs', S2⟩
    have S := S.ret 3 rfl S2
    refine ⟨ag0, ?_⟩
    refine wl_end ?_
    refine w_region (by kernel_rfl) ?_
    refine o_add gn rfl rfl rfl (by omega) (by omega) ?_
    refine o_move gn rfl rfl ?_
    refine wl_end ?_
    exact rndS (n - (j + 1)) (by omega) [(18, _)] (by repeat (first | exact trivial | refine ⟨rfl, ?_⟩)) ⟨j + 1, bs', rfl, rfl, by omega, by
      rw [flat_take]
      simp only [← List.append_assoc] at S ⊢
      exact S.drop⟩
  refine w_exit ?_
  refine thn_exit ?_
  refine rnd_exit ?_
  refine blk_eq ?_
  refine ⟨.inr rfl, _, rfl, ?_⟩
  exact ⟨bs1, by
    have hjj : j = n := by simp at hb; omega
    subst hjj
    rw [← List.append_assoc]; exact S.pick 2 rfl⟩
end
end Go.Proofs.YtoejddhaiogonaaDoor

namespace Go.Proofs.YtoejddhaiogonaaDoor
open Go.X

theorem flatL_take {F : Int → List UInt8} {ks : List Int} {j : Nat} (h : j < ks.length) : (ks.take (j + 1)).flatMap F = (ks.take j).flatMap F ++ F ks[j] := by
  rw [List.take_add_one, List.getElem?_eq_getElem h, List.flatMap_append]; simp
theorem flatL_le (F : Int → List UInt8) (ks : List Int) (j : Nat) : ((ks.take j).flatMap F).length ≤ (ks.flatMap F).length := by
  have e : ks.flatMap F = (ks.take j).flatMap F ++ (ks.drop j).flatMap F := by rw [← List.flatMap_append, List.take_append_drop]
  rw [e, List.length_append]; omega
theorem catL_two (a b : ByteArray) : a.size ≤ (catL [a, b]).length := by
  have e : a.size = a.toList.length := by rw [ByteArray.toList_eq]; rfl
  simp only [catL, List.flatMap_cons, List.length_append]; omega
theorem two_size {a : ByteArray} (h : a.size ≤ 1099511627776) : a.size + (⟨#[32, 32]⟩ : ByteArray).size < 9223372036854775808 := by
  have : (⟨#[32, 32]⟩ : ByteArray).size = 2 := rfl
  omega
section
variable {h0 hE : Hp} {pb : Nat} {sv v : Value} {l : List UInt8} {ind : ByteArray} {bs : List Nat} {T : List Tw} {ks : List Int} {rec : Nat → ByteArray → List UInt8} {lo : Nat}

/-- braces -/
theorem c48 (S0 : SH h0 [] [prR pb sv l ind bs] hE) (X : TreeAt h0 sv T) (hC : TwC h0 sv T rec lo) (R : RowV h0 v (isV ks)) (hl : ks.length ≤ 1000) (hK : ∀ i, i < ks.length → ∃ (j : Nat) (w' : Tw), ks[i]? = some (j : Int) ∧ T[j]? = some w' ∧ lo < j)
    (hn : l.length + (bracesT rec ind ks).length ≤ 1099511627776) : C trE 48 [.pointer (some ⟨pb, 0, none⟩), v] hE fun _ g' => ∃ bs', SH hE (pb :: bs) [prR pb sv (l ++ bracesT rec ind ks) ind bs'] g' := by
  obtain ⟨ka, kc, rfl⟩ := R.valM
  obtain ⟨ta, tc, rfl⟩ := X.val
  obtain ⟨in2, hin2⟩ : ∃ i2, i2 = ind ++ ⟨#[32, 32]⟩ := ⟨_, rfl⟩
  obtain ⟨F, hF⟩ : ∃ F : Int → List UInt8, F = fun k => catL [in2] ++ rec k.toNat in2 ++ catL [⟨#[10]⟩] := ⟨_, rfl⟩
  refine c_enter (fu := Tryd.f48) (by kernel_rfl) rfl ?_
  have S := S0.enter
  refine w_seq ?_
  refine w_seq ?_
  refine w_region (by kernel_rfl) ?_
  refine o_move gn rfl rfl ?_
  refine o_len gn rfl rfl (by kernel_rfl) ?_
  refine o_eqi gn rfl rfl rfl ?_
  refine wl_end ?_
  refine w_cond rfl (fun hb => ?_) fun hb => ?_
  · skip
    refine w_seq ?_
    have he : ks = [] := by simpa using hb
    rw [bracesT, if_pos he] at hn ⊢
    refine w_region (by kernel_rfl) ?_
    refine o_move gn rfl rfl ?_
    refine s_buildSlice (cs := (([⟨#[123, 32, 125]⟩] : List ByteArray).map Value.string).toArray) (e := 9) (z := 0) (zv := .string .empty) [(0, _)] S gn rfl (by kernel_rfl) (by kernel_rfl) (by kernel_rfl) (by kernel_rfl) rfl (by kernel_rfl) fun b1 g nb1 S => ?_
    refine o_call [_, _] gn rfl rfl (by kernel_rfl) rfl (C.mono (c47 (S0.sub1 S0.own0 S 1 rfl) (S.wrow 0 1 rfl rfl (by decide) [⟨#[123, 32, 125]⟩] rfl) hn (by simp)) ?_)
    rintro v g ⟨bs', S2⟩
    have S := S.ret 1 rfl S2
    refine ⟨ag0, ?_⟩
    refine wl_end ?_
    refine w_ret ?_
    refine ⟨.inl rfl, _, rfl, ?_⟩
    exact ⟨bs', S.pick 1 rfl⟩
  refine w_skip ?_
  have he : ¬ ks = [] := fun e => by subst e; simp at hb
  rw [bracesT, if_neg he, ← hin2, ← hF] at hn ⊢
  simp only [List.length_append] at hn
  obtain ⟨pa, pv, hpb, hput⟩ := pr_cells 0 S rfl
  have hi2 := catL_two ind ⟨#[125]⟩
  refine w_seq ?_
  refine w_region (by kernel_rfl) ?_
  refine o_move gn rfl rfl ?_
  refine o_nilCheck gn rfl rfl ?_
  refine o_fieldAddr (off := 3) gn rfl rfl (by kernel_rfl) ?_
  refine o_load gn rfl rfl (by kernel_rfl) hpb rfl ?_
  refine o_assign gn rfl rfl ?_
  refine wl_end ?_
  refine w_seq ?_
  refine w_region (by kernel_rfl) ?_
  refine o_move gn rfl rfl ?_
  refine o_nilCheck gn rfl rfl ?_
  refine o_fieldAddr (off := 3) gn rfl rfl (by kernel_rfl) ?_
  refine o_load gn rfl rfl (by kernel_rfl) hpb rfl ?_
  refine o_addS gn rfl rfl rfl (two_size (by omega)) ?_
  refine o_nilCheck gn rfl rfl ?_
  refine o_fieldAddr (off := 3) gn rfl rfl (by kernel_rfl) ?_
  rw [← hin2]
  refine o_store gn rfl rfl rfl (by kernel_rfl) hpb (by decide) (by simp) ag0 ?_
  have S := hput in2
  refine wl_end ?_
  refine w_seq ?_
  refine w_region (by kernel_rfl) ?_
  refine o_move gn rfl rfl ?_
  refine s_buildSlice (cs := (([⟨#[123, 10]⟩] : List ByteArray).map Value.string).toArray) (e := 9) (z := 0) (zv := .string .empty) [(0, _)] S gn rfl (by kernel_rfl) (by kernel_rfl) (by kernel_rfl) (by kernel_rfl) rfl (by kernel_rfl) fun b2 g nb2 S => ?_
  refine o_call [_, _] gn rfl rfl (by kernel_rfl) rfl (C.mono (c47 (S0.sub1 S0.own0 S 1 rfl) (S.wrow 0 1 rfl rfl (by decide) [⟨#[123, 10]⟩] rfl) (by omega) (by simp)) ?_)
  rintro v g ⟨bs', S2⟩
  have S := S.ret 1 rfl S2
  refine ⟨ag0, ?_⟩
  refine wl_end ?_
  refine w_seq ?_
  refine w_seq ?_
  refine w_region (by kernel_rfl) ?_
  refine o_move gn rfl rfl ?_
  refine o_len gn rfl rfl (by kernel_rfl) ?_
  refine o_move gn rfl rfl ?_
  refine wl_end ?_
  refine w_block ?_
  refine w_loopS [(29, _)] [(0, _), (4, _), (27, _), (28, _)] (by repeat (first | exact trivial | refine ⟨rfl, ?_⟩)) (fun kk lv hh => ∃ (j : Nat) (bs1 : List Nat), lv = [(29, iV j)] ∧ kk = ks.length - j ∧ j ≤ ks.length ∧ SH hE (pb :: bs) [cR b2 (.cells [.string ⟨#[123, 10]⟩] 9 0), prR pb (.slice ta T.length tc) (l ++ catL [⟨#[123, 10]⟩] ++ (ks.take j).flatMap F) in2 bs1] hh) (n := (ks.length)) ?_ fun kk lv hh hI => ?_
  · exact ⟨0, _, rfl, rfl, by omega, by simp only [List.take_zero, List.flatMap_nil, List.append_nil]; exact S⟩
  obtain ⟨j, bs1, rfl, hk, hj, S⟩ := hI
  refine w_seq ?_
  refine w_region (by kernel_rfl) ?_
  refine o_lss gn rfl rfl rfl ?_
  refine wl_end ?_
  refine w_seq ?_
  refine w_cond rfl (fun hb => ?_) fun hb => ?_
  · skip
    refine w_skip ?_
    have hj : j < ks.length := by simp at hb; omega
    obtain ⟨kb, ko, kc', kcs, ke, km, hv2, hg2, hlt2, hat2⟩ := R.atM (by omega)
    have hka : ka = some ⟨kb, ko, none⟩ := by injection hv2
    obtain ⟨q, w', hq1, hq2, hq3⟩ := hK j hj
    have hkj : ks[j] = (q : Int) := (List.getElem?_eq_some_iff.1 hq1).2
    have hat3 : kcs[ko + j]? = some (iV q) := by rw [hat2 j hj, hkj]
    obtain ⟨hqlt, hqw⟩ := List.getElem?_eq_some_iff.1 hq2
    obtain ⟨b, o, c, cs, e, m, hv, hg, hlb, hl6, hat⟩ := X.at (by omega)
    have hta : ta = some ⟨b, o, none⟩ := by injection hv
    have hw4 : (cs.drop (o + Int.toNat (q : Int) * 6)).take 6 = w'.cells := by rw [Int.toNat_natCast, hat q hqlt, hqw]
    have hfl := flatL_le F ks (j + 1)
    rw [flatL_take hj] at hfl
    have hFj : F ks[j] = catL [in2] ++ rec q in2 ++ catL [⟨#[10]⟩] := by rw [hF, hkj]; rfl
    rw [hFj] at hfl
    simp only [List.length_append] at hfl
    refine w_seq ?_
    refine w_block ?_
    refine w_seq ?_
    refine w_region (by kernel_rfl) ?_
    rw [hka]
    refine o_indexAddr (zz := 1) gn rfl rfl rfl (by kernel_rfl) (by omega) (by omega) ?_
    rw [← hka]
    refine o_load gn rfl rfl (by kernel_rfl) (S0.two S0.own0 S hg2 hlt2) (by rw [Int.toNat_natCast, Nat.mul_one]; exact hat3) ?_
    refine o_assign gn rfl rfl ?_
    refine wl_end ?_
    refine w_seq ?_
    obtain ⟨pa, pv, hpb, _⟩ := pr_cells 1 S rfl
    refine w_region (by kernel_rfl) ?_
    refine o_move gn rfl rfl ?_
    refine o_move gn rfl rfl ?_
    refine o_nilCheck gn rfl rfl ?_
    refine o_fieldAddr (off := 3) gn rfl rfl (by kernel_rfl) ?_
    refine o_load gn rfl rfl (by kernel_rfl) hpb rfl ?_
    refine s_buildSlice (cs := (([in2] : List ByteArray).map Value.string).toArray) (e := 9) (z := 0) (zv := .string .empty) [(0, _)] S gn rfl (by kernel_rfl) (by kernel_rfl) (by kernel_rfl) (by kernel_rfl) rfl (by kernel_rfl) fun b3 g nb3 S => ?_
    refine o_call [_, _] gn rfl rfl (by kernel_rfl) rfl (C.mono (c47 (S0.sub1 S0.own0 S 2 rfl) (S.wrow 0 2 rfl rfl (by decide) [in2] rfl) (by simp only [List.length_append]; omega) (by simp)) ?_)
    rintro v g ⟨bs', S2⟩
    have S := S.ret 2 rfl S2
    refine ⟨ag0, ?_⟩
    refine wl_end ?_
    refine w_seq ?_
    obtain ⟨pa, pv, hpb, _⟩ := pr_cells 2 S rfl
    refine w_region (by kernel_rfl) ?_
    refine o_move gn rfl rfl ?_
    refine o_move gn rfl rfl ?_
    refine o_nilCheck gn rfl rfl ?_
    refine o_fieldAddr (off := 0) gn rfl rfl (by kernel_rfl) ?_
    refine o_fieldAddr (off := 0) gn rfl rfl (by kernel_rfl) ?_
    refine o_load gn rfl rfl (by kernel_rfl) hpb rfl ?_
    refine o_move gn rfl rfl ?_
    rw [hta]
    refine o_indexAddr (zz := 6) gn rfl rfl rfl (by kernel_rfl) (by omega) (by omega) ?_
    refine o_loadA (n := 6) gn rfl rfl (by kernel_rfl) (by kernel_rfl) (S0.two S0.own0 S hg hlb) (by rw [Int.toNat_natCast]; omega) ?_
    rw [hw4, ← hta]
    refine o_call [_, _] gn rfl rfl (by kernel_rfl) rfl (C.mono (hC q w' hq3 hq2 _ _ _ _ _ (S0.sub1 S0.own0 S 2 rfl) (by simp only [List.length_append]; omega)) ?_)
    rintro v g ⟨bs', S2⟩
    have S := S.ret 2 rfl S2
    refine ⟨ag0, ?_⟩
    refine wl_end ?_
    refine w_region (by kernel_rfl) ?_
    refine o_move gn rfl rfl ?_
    refine s_buildSlice (cs := (([⟨#[10]⟩] : List ByteArray).map Value.string).toArray) (e := 9) (z := 0) (zv := .string .empty) [(0, _)] S gn rfl (by kernel_rfl) (by kernel_rfl) (by kernel_rfl) (by kernel_rfl) rfl (by kernel_rfl) fun b4 g nb4 S => ?_
    refine o_call [_, _] gn rfl rfl (by kernel_rfl) rfl (C.mono (c47 (S0.sub1 S0.own0 S 3 rfl) (S.wrow 0 3 rfl rfl (by decide) [⟨#[10]⟩] rfl) (by simp only [List.length_append]; omega) (by simp)) ?_)
    rintro v g ⟨bs', S2⟩
    have S := S.ret 3 rfl S2
    refine ⟨ag0, ?_⟩
    refine wl_end ?_
    refine w_region (by kernel_rfl) ?_
    refine o_add gn rfl rfl rfl (by omega) (by omega) ?_
    refine o_move gn rfl rfl ?_
    refine wl_end ?_
    exact rndS (ks.length - (j + 1)) (by omega) [(29, _)] (by repeat (first | exact trivial | refine ⟨rfl, ?_⟩)) ⟨j + 1, bs', rfl, rfl, by omega, by
      rw [flatL_take hj, hFj]
      simp only [← List.append_assoc] at S ⊢
      exact S.drop.drop⟩
  refine w_exit ?_
  refine thn_exit ?_
  refine rnd_exit ?_
  refine blk_eq ?_
  refine w_seq ?_
  have hjj : j = ks.length := by simp at hb; omega
  rw [hjj, List.take_length] at S
  obtain ⟨pa, pv, hpb, hput⟩ := pr_cells 1 S rfl
  refine w_region (by kernel_rfl) ?_
  refine o_move gn rfl rfl ?_
  refine o_move gn rfl rfl ?_
  refine o_nilCheck gn rfl rfl ?_
  refine o_fieldAddr (off := 3) gn rfl rfl (by kernel_rfl) ?_
  refine o_store gn rfl rfl rfl (by kernel_rfl) hpb (by decide) (by simp) ag0 ?_
  have S := hput ind
  refine wl_end ?_
  refine w_region (by kernel_rfl) ?_
  refine o_move gn rfl rfl ?_
  refine o_move gn rfl rfl ?_
  refine s_buildSlice (cs := (([ind, ⟨#[125]⟩] : List ByteArray).map Value.string).toArray) (e := 9) (z := 0) (zv := .string .empty) [(0, _), (1, _)] S gn rfl (by kernel_rfl) (by kernel_rfl) (by kernel_rfl) (by kernel_rfl) rfl (by kernel_rfl) fun b5 g nb5 S => ?_
  refine o_call [_, _] gn rfl rfl (by kernel_rfl) rfl (C.mono (c47 (S0.sub1 S0.own0 S 2 rfl) (S.wrow 0 2 rfl rfl (by decide) [ind, ⟨#[125]⟩] rfl) (by simp only [List.length_append]; omega) (by simp)) ?_)
  rintro v g ⟨bs', S2⟩
  have S := S.ret 2 rfl S2
  refine ⟨ag0, ?_⟩
  refine wl_end ?_
  refine ⟨.inr rfl, _, rfl, ?_⟩
  exact ⟨bs', by
    simp only [← List.append_assoc] at S ⊢
    exact S.pick 2 rfl⟩
end
end Go.Proofs.YtoejddhaiogonaaDoor

namespace Go.Proofs.YtoejddhaiogonaaDoor
open Go.X

section
variable (rec : Nat → ByteArray → List UInt8) (T : List Tw) (w : Tw) (ind : ByteArray)
def toT : List UInt8 := if 1 < w.kids.length then catL [⟨#[32, 116, 111, 32]⟩] ++ kidT rec T w ind 1 else []
def hasElse : Bool := decide (2 < (w.kids.length : Int)) && decide (0 < ((kidsAt T (w.kids.getD 2 0).toNat).length : Int))
def elseT : List UInt8 := if hasElse T w = true then catL [⟨#[32, 101, 108, 115, 101, 32]⟩] ++ kidT rec T w ind 2 else []
def branchWord : ByteArray := if w.K = 24 then ⟨#[119, 104, 105, 108, 101, 32]⟩ else ⟨#[105, 102, 32]⟩
def branchT : List UInt8 := catL [branchWord w] ++ kidT rec T w ind 0 ++ catL [⟨#[32]⟩] ++ kidT rec T w ind 1 ++ elseT rec T w ind
end

section
variable {h0 hE : Hp} {pb : Nat} {sv : Value} {l : List UInt8} {ind : ByteArray} {bs : List Nat} {T : List Tw} {w : Tw} {rec : Nat → ByteArray → List UInt8} {lo : Nat}

theorem c70k {i : Nat} (S0 : SH h0 [] [prR pb sv l ind bs] hE) (X : TreeAt h0 sv T) (hC : TwC h0 sv T rec lo) (hK : KidsOk T w lo) (hR : RowV h0 w.ks (isV w.kids)) (hi : i < w.kids.length) (hn : l.length + (kidT rec T w ind i).length ≤ 1099511627776) :
    C trE 70 [.pointer (some ⟨pb, 0, none⟩), w.val, iV i] hE fun _ g' => ∃ bs', SH hE (pb :: bs) [prR pb sv (l ++ kidT rec T w ind i) ind bs'] g' := by
  obtain ⟨j, w', h1, h2, h3⟩ := hK.2 i hi
  have := hK.1
  exact c70 S0 X hC hR h1 h2 h3 (by omega) hn

/-- to -/
theorem c72 (S0 : SH h0 [] [prR pb sv l ind bs] hE) (X : TreeAt h0 sv T) (hC : TwC h0 sv T rec lo) (hK : KidsOk T w lo) (hR : RowV h0 w.ks (isV w.kids)) (hn : l.length + (toT rec T w ind).length ≤ 1099511627776) :
    C trE 72 [.pointer (some ⟨pb, 0, none⟩), w.val] hE fun _ g' => ∃ bs', SH hE (pb :: bs) [prR pb sv (l ++ toT rec T w ind) ind bs'] g' := by
  obtain ⟨K, s, N, L, Co, ks, kids⟩ := w
  simp only at hR
  have hR2 := hR
  obtain ⟨ka, kc, rfl⟩ := hR.valM
  have hsame := RowV.same hR
  refine c_enter (fu := Tryd.f72) (by kernel_rfl) rfl ?_
  have S := S0.enter
  refine w_seq ?_
  refine w_region (by kernel_rfl) ?_
  refine s_box S gn rfl rfl fun b1 g nb1 S => ?_
  refine wl_end ?_
  refine w_seq ?_
  refine w_region (by kernel_rfl) ?_
  refine o_fieldAddr (off := 5) gn rfl rfl (by kernel_rfl) ?_
  refine o_load gn rfl rfl (by kernel_rfl) (by exact S.cel 0 rfl) rfl ?_
  refine o_len gn rfl rfl (by kernel_rfl) ?_
  refine o_gtr gn rfl rfl rfl ?_
  refine wl_end ?_
  refine w_cond rfl (fun hb => ?_) fun hb => ?_
  · skip
    refine w_seq ?_
    have hk1 : 1 < kids.length := by simp at hb; omega
    rw [toT, if_pos hk1] at hn ⊢
    simp only [List.length_append] at hn
    refine w_region (by kernel_rfl) ?_
    refine o_move gn rfl rfl ?_
    refine s_buildSlice (cs := (([⟨#[32, 116, 111, 32]⟩] : List ByteArray).map Value.string).toArray) (e := 9) (z := 0) (zv := .string .empty) [(0, _)] S gn rfl (by kernel_rfl) (by kernel_rfl) (by kernel_rfl) (by kernel_rfl) rfl (by kernel_rfl) fun b2 g nb2 S => ?_
    refine o_call [_, _] gn rfl rfl (by kernel_rfl) rfl (C.mono (c47 (S0.sub1 S0.own0 S 2 rfl) (S.wrow 0 2 rfl rfl (by decide) [⟨#[32, 116, 111, 32]⟩] rfl) (by omega) (by simp)) ?_)
    rintro v g ⟨bs', S2⟩
    have S := S.ret 2 rfl S2
    refine ⟨ag0, ?_⟩
    refine wl_end ?_
    refine w_region (by kernel_rfl) ?_
    refine o_move gn rfl rfl ?_
    refine o_loadA (n := 6) gn rfl rfl (by kernel_rfl) (by kernel_rfl) (by exact S.cel 1 rfl) (Nat.le_refl _) ?_
    refine o_call [_, _, _] gn rfl rfl (by kernel_rfl) rfl (C.mono (c70k (w := ⟨K, s, N, L, Co, .slice ka kids.length kc, kids⟩) (i := 1) (S0.sub1 S0.own0 S 2 rfl) X hC hK hR2 hk1 (by simp only [List.length_append]; omega)) ?_)
    rintro v g ⟨bs', S2⟩
    have S := S.ret 2 rfl S2
    refine ⟨ag0, ?_⟩
    refine wl_end ?_
    refine ⟨.inr rfl, _, rfl, ?_⟩
    exact ⟨bs', by
      simp only [← List.append_assoc] at S ⊢
      exact S.pick 2 rfl⟩
  refine w_skip ?_
  refine ⟨.inr rfl, _, rfl, ?_⟩
  exact ⟨bs, by
    rw [toT, if_neg (show ¬ 1 < kids.length by simp at hb; omega), List.append_nil]
    exact S.pick 1 rfl⟩

/-- branch -/
theorem c73 (S0 : SH h0 [] [prR pb sv l ind bs] hE) (X : TreeAt h0 sv T) (hC : TwC h0 sv T rec lo) (hK : KidsOk T w lo) (hR : RowV h0 w.ks (isV w.kids)) (h2 : 2 ≤ w.kids.length) (hn : l.length + (branchT rec T w ind).length ≤ 1099511627776) :
    C trE 73 [.pointer (some ⟨pb, 0, none⟩), w.val] hE fun _ g' => ∃ bs', SH hE (pb :: bs) [prR pb sv (l ++ branchT rec T w ind) ind bs'] g' := by
  obtain ⟨K, s, N, L, Co, ks, kids⟩ := w
  simp only at hR h2
  have hR2 := hR
  obtain ⟨ka, kc, rfl⟩ := hR.valM
  have hsame := RowV.same hR
  have Y := X
  obtain ⟨ta, tc, rfl⟩ := X.val
  have hkl := hK.1
  simp only at hkl
  rw [branchT] at hn ⊢
  simp only [List.length_append] at hn
  refine c_enter (fu := Tryd.f73) (by kernel_rfl) rfl ?_
  have S := S0.enter
  refine w_seq ?_
  refine w_region (by kernel_rfl) ?_
  refine s_box S gn rfl rfl fun b1 g nb1 S => ?_
  refine wl_end ?_
  refine w_seq ?_
  refine w_region (by kernel_rfl) ?_
  refine o_assign gn rfl rfl ?_
  refine wl_end ?_
  refine w_cutS [(0, .pointer (some ⟨pb, 0, none⟩)), (3, ptrV b1)] (fun lv hh => lv = [(4, .string (branchWord ⟨K, s, N, L, Co, .slice ka kids.length kc, kids⟩))] ∧ SH hE (pb :: bs) [cR b1 (.cells (twC K s N L Co (.slice ka kids.length kc)) 30 0), prR pb (.slice ta T.length tc) l ind bs] hh) ?_ fun lv hh hJ => ?_
  · skip
    refine w_seq ?_
    refine w_region (by kernel_rfl) ?_
    refine o_fieldAddr (off := 0) gn rfl rfl (by kernel_rfl) ?_
    refine o_load gn rfl rfl (by kernel_rfl) (by exact S.cel 0 rfl) rfl ?_
    refine o_eqi gn rfl rfl rfl ?_
    refine wl_end ?_
    refine w_cond rfl (fun hb => ?_) fun hb => ?_
    · skip
      refine w_region (by kernel_rfl) ?_
      refine o_assign gn rfl rfl ?_
      refine wl_end ?_
      exact cutS [(4, _)] (by repeat (first | exact trivial | refine ⟨rfl, ?_⟩)) ⟨by rw [branchWord, if_pos (show K = 24 by simpa using hb)], S⟩
    refine w_skip ?_
    exact cutS [(4, _)] (by repeat (first | exact trivial | refine ⟨rfl, ?_⟩)) ⟨by rw [branchWord, if_neg (show ¬ K = 24 by simpa using hb)], S⟩
  obtain ⟨rfl, S⟩ := hJ
  refine w_seq ?_
  refine w_region (by kernel_rfl) ?_
  refine o_move gn rfl rfl ?_
  refine o_move gn rfl rfl ?_
  refine s_buildSlice (cs := (([branchWord ⟨K, s, N, L, Co, .slice ka kids.length kc, kids⟩] : List ByteArray).map Value.string).toArray) (e := 9) (z := 0) (zv := .string .empty) [(0, _)] S gn rfl (by kernel_rfl) (by kernel_rfl) (by kernel_rfl) (by kernel_rfl) rfl (by kernel_rfl) fun b2 g nb2 S => ?_
  refine o_call [_, _] gn rfl rfl (by kernel_rfl) rfl (C.mono (c47 (S0.sub1 S0.own0 S 2 rfl) (S.wrow 0 2 rfl rfl (by decide) [branchWord ⟨K, s, N, L, Co, .slice ka kids.length kc, kids⟩] rfl) (by omega) (by simp)) ?_)
  rintro v g ⟨bs', S2⟩
  have S := S.ret 2 rfl S2
  refine ⟨ag0, ?_⟩
  refine wl_end ?_
  refine w_seq ?_
  refine w_region (by kernel_rfl) ?_
  refine o_move gn rfl rfl ?_
  refine o_loadA (n := 6) gn rfl rfl (by kernel_rfl) (by kernel_rfl) (by exact S.cel 1 rfl) (Nat.le_refl _) ?_
  refine o_call [_, _, _] gn rfl rfl (by kernel_rfl) rfl (C.mono (c70k (w := ⟨K, s, N, L, Co, .slice ka kids.length kc, kids⟩) (i := 0) (S0.sub1 S0.own0 S 2 rfl) Y hC hK hR2 (show 0 < kids.length by omega) (by simp only [List.length_append]; omega)) ?_)
  rintro v g ⟨bs', S2⟩
  have S := S.ret 2 rfl S2
  refine ⟨ag0, ?_⟩
  refine wl_end ?_
  refine w_seq ?_
  refine w_region (by kernel_rfl) ?_
  refine o_move gn rfl rfl ?_
  refine s_buildSlice (cs := (([⟨#[32]⟩] : List ByteArray).map Value.string).toArray) (e := 9) (z := 0) (zv := .string .empty) [(0, _)] S gn rfl (by kernel_rfl) (by kernel_rfl) (by kernel_rfl) (by kernel_rfl) rfl (by kernel_rfl) fun b3 g nb3 S => ?_
  refine o_call [_, _] gn rfl rfl (by kernel_rfl) rfl (C.mono (c47 (S0.sub1 S0.own0 S 3 rfl) (S.wrow 0 3 rfl rfl (by decide) [⟨#[32]⟩] rfl) (by simp only [List.length_append]; omega) (by simp)) ?_)
  rintro v g ⟨bs', S2⟩
  have S := S.ret 3 rfl S2
  refine ⟨ag0, ?_⟩
  refine wl_end ?_
  refine w_seq ?_
  refine w_region (by kernel_rfl) ?_
  refine o_move gn rfl rfl ?_
  refine o_loadA (n := 6) gn rfl rfl (by kernel_rfl) (by kernel_rfl) (by exact S.cel 2 rfl) (Nat.le_refl _) ?_
  refine o_call [_, _, _] gn rfl rfl (by kernel_rfl) rfl (C.mono (c70k (w := ⟨K, s, N, L, Co, .slice ka kids.length kc, kids⟩) (i := 1) (S0.sub1 S0.own0 S 3 rfl) Y hC hK hR2 (show 1 < kids.length by omega) (by simp only [List.length_append]; omega)) ?_)
  rintro v g ⟨bs', S2⟩
  have S := S.ret 3 rfl S2
  refine ⟨ag0, ?_⟩
  refine wl_end ?_
  refine w_seq ?_
  obtain ⟨pa, pv, hpb, _⟩ := pr_cells 3 S rfl
  refine w_draw [(0, []), (1, []), (2, []), (3, []), (4, []), (5, []), (6, []), (7, []), (8, []), (9, []), (10, []), (11, []), (12, []), (13, []), (14, []), (15, []), (16, []), (17, []), (18, []), (19, [])] (by kernel_rfl) (by kernel_rfl) (by kernel_rfl) (by kernel_rfl) ?_
  refine o_fieldAddr (off := 5) gn rfl rfl (by kernel_rfl) ?_
  refine o_load gn rfl rfl (by kernel_rfl) (by exact S.cel 2 rfl) rfl ?_
  refine o_len gn rfl rfl (by kernel_rfl) ?_
  refine o_gtr gn rfl rfl rfl ?_
  refine o_move gn rfl rfl ?_
  refine o_and (B := decide (0 < ((kidsAt T (kids.getD 2 0).toNat).length : Int))) (n := 14) rfl rfl rfl gn rfl (fun hb => by
      refine o_move (gy rfl rfl rfl hb) rfl rfl ?_
      refine o_nilCheck (gy rfl rfl rfl hb) rfl rfl ?_
      refine o_fieldAddr (off := 0) (gy rfl rfl rfl hb) rfl rfl (by kernel_rfl) ?_
      refine o_fieldAddr (off := 0) (gy rfl rfl rfl hb) rfl rfl (by kernel_rfl) ?_
      refine o_load (gy rfl rfl rfl hb) rfl rfl (by kernel_rfl) hpb rfl ?_
      refine o_fieldAddr (off := 5) (gy rfl rfl rfl hb) rfl rfl (by kernel_rfl) ?_
      refine o_load (gy rfl rfl rfl hb) rfl rfl (by kernel_rfl) (by exact S.cel 2 rfl) rfl ?_
      have hk2 : 2 < kids.length := by simp at hb; omega
      obtain ⟨kb, ko, kc', kcs, ke, km, hv2, hg2, hlt2, hat2⟩ := hR2.atM (by omega)
      have hka : ka = some ⟨kb, ko, none⟩ := by injection hv2
      obtain ⟨q, w', hq1, hq2, hq3⟩ := hK.2 2 hk2
      have hkq : kids[2] = (q : Int) := (List.getElem?_eq_some_iff.1 hq1).2
      have hat3 : kcs[ko + 2]? = some (iV q) := by rw [hat2 2 hk2, hkq]
      obtain ⟨hqlt, hqw⟩ := List.getElem?_eq_some_iff.1 hq2
      obtain ⟨b, o, c, cs, e, m, hv, hg, hlb, hl6, hat⟩ := Y.at (by omega)
      have hta : ta = some ⟨b, o, none⟩ := by injection hv
      have hm := Y.2 w' (List.mem_of_getElem? hq2)
      obtain ⟨ka', kc2, hks'⟩ := hm.valM
      have hw5 : cs[o + Int.toNat (q : Int) * 6 + 5]? = some (.slice ka' w'.kids.length kc2) := by rw [Int.toNat_natCast, ← hks']; exact cut_at ((hat q hqlt).trans (by rw [hqw])) (by omega) rfl
      have hgd : kidsAt T (kids.getD 2 0).toNat = w'.kids := by rw [List.getD_eq_getElem?_getD, List.getElem?_eq_getElem hk2, Option.getD_some, hkq, Int.toNat_natCast]; exact kidsAt_of hq2
      rw [hka]
      refine o_indexAddr (zz := 1) (gy rfl rfl rfl hb) rfl rfl rfl (by kernel_rfl) (by omega) (by omega) ?_
      rw [← hka]
      refine o_load (gy rfl rfl rfl hb) rfl rfl (by kernel_rfl) (S0.two S0.own0 S hg2 hlt2) hat3 ?_
      rw [hta]
      refine o_indexAddr (zz := 6) (gy rfl rfl rfl hb) rfl rfl rfl (by kernel_rfl) (by omega) (by omega) ?_
      refine o_fieldAddr (off := 5) (gy rfl rfl rfl hb) rfl rfl (by kernel_rfl) ?_
      refine o_load (gy rfl rfl rfl hb) rfl rfl (by kernel_rfl) (S0.two S0.own0 S hg hlb) hw5 ?_
      refine o_len (gy rfl rfl rfl hb) rfl rfl (by kernel_rfl) ?_
      refine o_gtr (gy rfl rfl rfl hb) rfl rfl rfl ?_
      rw [← hta, hgd]
      exact wl_end ⟨rfl, rfl, 14, rfl, rfl⟩) ?_
  refine wl_end ?_
  refine w_cond rfl (fun hb => ?_) fun hb => ?_
  · skip
    refine w_seq ?_
    have he : hasElse T ⟨K, s, N, L, Co, .slice ka kids.length kc, kids⟩ = true := hb
    rw [elseT, if_pos he] at hn ⊢
    simp only [List.length_append] at hn
    have hk2 : 2 < kids.length := by simp [hasElse] at he; omega
    refine w_region (by kernel_rfl) ?_
    refine o_move gn rfl rfl ?_
    refine s_buildSlice (cs := (([⟨#[32, 101, 108, 115, 101, 32]⟩] : List ByteArray).map Value.string).toArray) (e := 9) (z := 0) (zv := .string .empty) [(0, _)] S gn rfl (by kernel_rfl) (by kernel_rfl) (by kernel_rfl) (by kernel_rfl) rfl (by kernel_rfl) fun b4 g nb4 S => ?_
    refine o_call [_, _] gn rfl rfl (by kernel_rfl) rfl (C.mono (c47 (S0.sub1 S0.own0 S 4 rfl) (S.wrow 0 4 rfl rfl (by decide) [⟨#[32, 101, 108, 115, 101, 32]⟩] rfl) (by simp only [List.length_append]; omega) (by simp)) ?_)
    rintro v g ⟨bs', S2⟩
    have S := S.ret 4 rfl S2
    refine ⟨ag0, ?_⟩
    refine wl_end ?_
    refine w_region (by kernel_rfl) ?_
    refine o_move gn rfl rfl ?_
    refine o_loadA (n := 6) gn rfl rfl (by kernel_rfl) (by kernel_rfl) (by exact S.cel 3 rfl) (Nat.le_refl _) ?_
    refine o_call [_, _, _] gn rfl rfl (by kernel_rfl) rfl (C.mono (c70k (w := ⟨K, s, N, L, Co, .slice ka kids.length kc, kids⟩) (i := 2) (S0.sub1 S0.own0 S 4 rfl) Y hC hK hR2 hk2 (by simp only [List.length_append]; omega)) ?_)
    rintro v g ⟨bs', S2⟩
    have S := S.ret 4 rfl S2
    refine ⟨ag0, ?_⟩
    refine wl_end ?_
    refine ⟨.inr rfl, _, rfl, ?_⟩
    exact ⟨bs', by
      simp only [← List.append_assoc] at S ⊢
      exact S.pick 4 rfl⟩
  refine w_skip ?_
  refine ⟨.inr rfl, _, rfl, ?_⟩
  exact ⟨bs', by
    rw [elseT, if_neg (show ¬ hasElse T ⟨K, s, N, L, Co, .slice ka kids.length kc, kids⟩ = true by intro he; rw [show hasElse T ⟨K, s, N, L, Co, .slice ka kids.length kc, kids⟩ = _ from hb] at he; cases he), List.append_nil]
    simp only [← List.append_assoc] at S ⊢
    exact S.pick 3 rfl⟩
end
end Go.Proofs.YtoejddhaiogonaaDoor

namespace Go.Proofs.YtoejddhaiogonaaDoor
open Go.X

structure Pow (h : Hp) : Prop where
  t : tabThere 0 (Lib.pow10Tab.map (Value.int .u64)) h = true
  lt : 0 < h.n
theorem Pow.ext {h h' : Hp} (x : Pow h) (g : Ext h h') : Pow h' := ⟨by
  have := x.t
  unfold tabThere at *
  rw [g.get 0 x.lt]; exact this, Nat.lt_of_lt_of_le x.lt g.n⟩
def itoaB (n : Int) : ByteArray := ⟨(Lib.itoa n).toArray⟩
theorem fmt_at {h : Hp} (p : Pow h) {n : Int} (h0 : -9223372036854775808 ≤ n) (h1 : n ≤ 9223372036854775807) : fmtX 0 [.int .i64 n, .int .i64 10] h = some (.string (itoaB n), h) := by
  simp only [fmtX, p.t, Bool.true_and, decide_eq_true h0, decide_eq_true h1]; rfl
def termWord (K : Int) : ByteArray := if K = 34 then ⟨#[97, 114, 114]⟩ else if K = 35 then ⟨#[108, 101, 110]⟩ else if K = 36 then ⟨#[102, 110]⟩ else .empty
section
variable (rec : Nat → ByteArray → List UInt8) (T : List Tw) (w : Tw) (ind : ByteArray)
def termT : List UInt8 :=
  if w.K = 26 then catL [itoaB w.N] else
  if w.K = 27 then catL [⟨#[110, 117, 108, 108]⟩] else
  if w.K = 28 then catL [⟨#[105, 116]⟩] else
  if w.K = 29 then catL [w.s] else
  if w.K = 30 then kidT rec T w ind 0 ++ catL [⟨#[46]⟩, w.s] else
  if w.K = 31 then kidT rec T w ind 0 ++ catL [⟨#[91]⟩] ++ kidT rec T w ind 1 ++ catL [⟨#[93]⟩] else
  if w.K = 32 then kidT rec T w ind 0 ++ catL [⟨#[32]⟩, w.s, ⟨#[32]⟩] ++ kidT rec T w ind 1 else
  if w.K = 33 then catL [⟨#[110, 101, 119, 32]⟩, w.s] else rowT rec T w ind (termWord w.K) 0
end
def termM : MsK Int := [(34, .agg #[.string ⟨#[97, 114, 114]⟩], 0), (35, .agg #[.string ⟨#[108, 101, 110]⟩], 1), (36, .agg #[.string ⟨#[102, 110]⟩], 2)]
theorem key93 : KeyT trE 93 27 92 (fun k : Int => Value.int .i64 k) := KeyT.int (by kernel_rfl) (by kernel_rfl)
theorem termM_at {K : Int} (h : K = 34 ∨ K = 35 ∨ K = 36) : (getK termM K).getD (.agg #[.string .empty]) = .agg #[.string (termWord K)] := by
  rcases h with rfl | rfl | rfl <;> rfl

section
variable {h0 hE : Hp} {pb : Nat} {sv : Value} {l : List UInt8} {ind : ByteArray} {bs : List Nat} {T : List Tw} {w : Tw} {rec : Nat → ByteArray → List UInt8} {lo : Nat}

/-- term -/
theorem c50 (S0 : SH h0 [] [prR pb sv l ind bs] hE) (X : TreeAt h0 sv T) (hC : TwC h0 sv T rec lo) (hK : KidsOk T w lo) (hS : RowG h0 w.ks (isV w.kids)) (hP : Pow h0) (hA1 : w.K = 30 → 1 ≤ w.kids.length) (hA2 : w.K = 31 ∨ w.K = 32 → 2 ≤ w.kids.length)
    (hN : w.K = 26 → 0 ≤ w.N ∧ w.N ≤ 2147483647) (ht : termK w.K = true) (hn : l.length + (termT rec T w ind).length ≤ 1099511627776) :
    C trE 50 [.pointer (some ⟨pb, 0, none⟩), w.val] hE fun _ g' => ∃ bs', SH hE (pb :: bs) [prR pb sv (l ++ termT rec T w ind) ind bs'] g' := by
  obtain ⟨K, s, N, L, Co, ks, kids⟩ := w
  have hR2 : RowV h0 ks (isV kids) := hS.row
  simp only at hA1 hA2 hN ht
  have hS2 := hS
  have hcv := RowV.cellV hR2
  have hsame := RowV.same hR2
  have hkl := hK.1
  simp only at hkl
  refine c_enter (fu := Tryd.f50) (by kernel_rfl) rfl ?_
  have S := S0.enter
  refine w_seq ?_
  refine w_region (by kernel_rfl) ?_
  refine s_box S gn rfl rfl fun b1 g nb1 S => ?_
  refine wl_end ?_
  refine w_seq ?_
  refine w_region (by kernel_rfl) ?_
  refine o_fieldAddr (off := 0) gn rfl rfl (by kernel_rfl) ?_
  refine o_load gn rfl rfl (by kernel_rfl) (by exact S.cel 0 rfl) rfl ?_
  refine wl_end ?_
  refine w_block ?_
  refine w_seq ?_
  refine w_region (by kernel_rfl) ?_
  refine o_eqi gn rfl rfl rfl ?_
  refine o_assign gn rfl rfl ?_
  refine wl_end ?_
  refine w_cond rfl (fun hb => ?_) fun hb => ?_
  · skip
    have hK0 : K = 26 := by simpa using hb
    subst hK0
    rw [show termT rec T ⟨26, s, N, L, Co, ks, kids⟩ ind = catL [itoaB N] from rfl] at hn ⊢
    obtain ⟨hN0, hN1⟩ := hN rfl
    refine w_region (by kernel_rfl) ?_
    refine o_move gn rfl rfl ?_
    refine o_fieldAddr (off := 2) gn rfl rfl (by kernel_rfl) ?_
    refine o_load gn rfl rfl (by kernel_rfl) (by exact S.cel 0 rfl) rfl ?_
    refine o_sm [_, _] gn rfl rfl (by kernel_rfl) (by kernel_rfl) sm71 rfl (fmt_at (n := N) (hP.ext (S0.all0 S0.own0 S)) (by omega) (by omega)) (.refl _) ag0 ?_
    refine s_buildSlice (cs := (([itoaB N] : List ByteArray).map Value.string).toArray) (e := 9) (z := 0) (zv := .string .empty) [(0, _)] S gn rfl (by kernel_rfl) (by kernel_rfl) (by kernel_rfl) (by kernel_rfl) rfl (by kernel_rfl) fun b2 g nb2 S => ?_
    refine o_call [_, _] gn rfl rfl (by kernel_rfl) rfl (C.mono (c47 (S0.sub1 S0.own0 S 2 rfl) (S.wrow 0 2 rfl rfl (by decide) [itoaB N] rfl) hn (by simp)) ?_)
    rintro v g ⟨bs', S2⟩
    have S := S.ret 2 rfl S2
    refine ⟨ag0, ?_⟩
    refine wl_end ?_
    refine ⟨.inr rfl, _, rfl, ?_⟩
    exact ⟨bs', S.pick 2 rfl⟩
  refine w_seq ?_
  refine w_region (by kernel_rfl) ?_
  refine o_eqi gn rfl rfl rfl ?_
  refine o_assign gn rfl rfl ?_
  refine wl_end ?_
  refine w_cond rfl (fun hb => ?_) fun hb => ?_
  · skip
    have hK0 : K = 27 := by simpa using hb
    subst hK0
    rw [show termT rec T ⟨27, s, N, L, Co, ks, kids⟩ ind = catL [⟨#[110, 117, 108, 108]⟩] from rfl] at hn ⊢
    refine w_region (by kernel_rfl) ?_
    refine o_move gn rfl rfl ?_
    refine s_buildSlice (cs := (([⟨#[110, 117, 108, 108]⟩] : List ByteArray).map Value.string).toArray) (e := 9) (z := 0) (zv := .string .empty) [(0, _)] S gn rfl (by kernel_rfl) (by kernel_rfl) (by kernel_rfl) (by kernel_rfl) rfl (by kernel_rfl) fun b3 g nb3 S => ?_
    refine o_call [_, _] gn rfl rfl (by kernel_rfl) rfl (C.mono (c47 (S0.sub1 S0.own0 S 2 rfl) (S.wrow 0 2 rfl rfl (by decide) [⟨#[110, 117, 108, 108]⟩] rfl) hn (by simp)) ?_)
    rintro v g ⟨bs', S2⟩
    have S := S.ret 2 rfl S2
    refine ⟨ag0, ?_⟩
    refine wl_end ?_
    refine ⟨.inr rfl, _, rfl, ?_⟩
    exact ⟨bs', S.pick 2 rfl⟩
  refine w_seq ?_
  refine w_region (by kernel_rfl) ?_
  refine o_eqi gn rfl rfl rfl ?_
  refine o_assign gn rfl rfl ?_
  refine wl_end ?_
  refine w_cond rfl (fun hb => ?_) fun hb => ?_
  · skip
    have hK0 : K = 28 := by simpa using hb
    subst hK0
    rw [show termT rec T ⟨28, s, N, L, Co, ks, kids⟩ ind = catL [⟨#[105, 116]⟩] from rfl] at hn ⊢
    refine w_region (by kernel_rfl) ?_
    refine o_move gn rfl rfl ?_
    refine s_buildSlice (cs := (([⟨#[105, 116]⟩] : List ByteArray).map Value.string).toArray) (e := 9) (z := 0) (zv := .string .empty) [(0, _)] S gn rfl (by kernel_rfl) (by kernel_rfl) (by kernel_rfl) (by kernel_rfl) rfl (by kernel_rfl) fun b4 g nb4 S => ?_
    refine o_call [_, _] gn rfl rfl (by kernel_rfl) rfl (C.mono (c47 (S0.sub1 S0.own0 S 2 rfl) (S.wrow 0 2 rfl rfl (by decide) [⟨#[105, 116]⟩] rfl) hn (by simp)) ?_)
    rintro v g ⟨bs', S2⟩
    have S := S.ret 2 rfl S2
    refine ⟨ag0, ?_⟩
    refine wl_end ?_
    refine ⟨.inr rfl, _, rfl, ?_⟩
    exact ⟨bs', S.pick 2 rfl⟩
  refine w_seq ?_
  refine w_region (by kernel_rfl) ?_
  refine o_eqi gn rfl rfl rfl ?_
  refine o_assign gn rfl rfl ?_
  refine wl_end ?_
  refine w_cond rfl (fun hb => ?_) fun hb => ?_
  · skip
    have hK0 : K = 29 := by simpa using hb
    subst hK0
    rw [show termT rec T ⟨29, s, N, L, Co, ks, kids⟩ ind = catL [s] from rfl] at hn ⊢
    refine w_region (by kernel_rfl) ?_
    refine o_move gn rfl rfl ?_
    refine o_fieldAddr (off := 1) gn rfl rfl (by kernel_rfl) ?_
    refine o_load gn rfl rfl (by kernel_rfl) (by exact S.cel 0 rfl) rfl ?_
    refine s_buildSlice (cs := (([s] : List ByteArray).map Value.string).toArray) (e := 9) (z := 0) (zv := .string .empty) [(0, _)] S gn rfl (by kernel_rfl) (by kernel_rfl) (by kernel_rfl) (by kernel_rfl) rfl (by kernel_rfl) fun b5 g nb5 S => ?_
    refine o_call [_, _] gn rfl rfl (by kernel_rfl) rfl (C.mono (c47 (S0.sub1 S0.own0 S 2 rfl) (S.wrow 0 2 rfl rfl (by decide) [s] rfl) hn (by simp)) ?_)
    rintro v g ⟨bs', S2⟩
    have S := S.ret 2 rfl S2
    refine ⟨ag0, ?_⟩
    refine wl_end ?_
    refine ⟨.inr rfl, _, rfl, ?_⟩
    exact ⟨bs', S.pick 2 rfl⟩
  refine w_seq ?_
  refine w_region (by kernel_rfl) ?_
  refine o_eqi gn rfl rfl rfl ?_
  refine o_assign gn rfl rfl ?_
  refine wl_end ?_
  refine w_cond rfl (fun hb => ?_) fun hb => ?_
  · skip
    refine w_seq ?_
    have hK0 : K = 30 := by simpa using hb
    subst hK0
    rw [show termT rec T ⟨30, s, N, L, Co, ks, kids⟩ ind = kidT rec T ⟨30, s, N, L, Co, ks, kids⟩ ind 0 ++ catL [⟨#[46]⟩, s] from rfl] at hn ⊢
    simp only [List.length_append] at hn
    have hk1 := hA1 rfl
    refine w_region (by kernel_rfl) ?_
    refine o_move gn rfl rfl ?_
    refine o_loadA (n := 6) gn rfl rfl (by kernel_rfl) (by kernel_rfl) (by exact S.cel 0 rfl) (Nat.le_refl _) ?_
    refine o_call [_, _, _] gn rfl rfl (by kernel_rfl) rfl (C.mono (c70k (w := ⟨30, s, N, L, Co, ks, kids⟩) (i := 0) (S0.sub1 S0.own0 S 1 rfl) X hC hK hR2 (show 0 < kids.length by omega) (by omega)) ?_)
    rintro v g ⟨bs', S2⟩
    have S := S.ret 1 rfl S2
    refine ⟨ag0, ?_⟩
    refine wl_end ?_
    refine w_region (by kernel_rfl) ?_
    refine o_move gn rfl rfl ?_
    refine o_fieldAddr (off := 1) gn rfl rfl (by kernel_rfl) ?_
    refine o_load gn rfl rfl (by kernel_rfl) (by exact S.cel 0 rfl) rfl ?_
    refine s_buildSlice (cs := (([⟨#[46]⟩, s] : List ByteArray).map Value.string).toArray) (e := 9) (z := 0) (zv := .string .empty) [(0, _), (1, _)] S gn rfl (by kernel_rfl) (by kernel_rfl) (by kernel_rfl) (by kernel_rfl) rfl (by kernel_rfl) fun b6 g nb6 S => ?_
    refine o_call [_, _] gn rfl rfl (by kernel_rfl) rfl (C.mono (c47 (S0.sub1 S0.own0 S 2 rfl) (S.wrow 0 2 rfl rfl (by decide) [⟨#[46]⟩, s] rfl) (by simp only [List.length_append]; omega) (by simp)) ?_)
    rintro v g ⟨bs', S2⟩
    have S := S.ret 2 rfl S2
    refine ⟨ag0, ?_⟩
    refine wl_end ?_
    refine ⟨.inr rfl, _, rfl, ?_⟩
    exact ⟨bs', by simp only [← List.append_assoc] at S ⊢; exact S.pick 2 rfl⟩
  refine w_seq ?_
  refine w_region (by kernel_rfl) ?_
  refine o_eqi gn rfl rfl rfl ?_
  refine o_assign gn rfl rfl ?_
  refine wl_end ?_
  refine w_cond rfl (fun hb => ?_) fun hb => ?_
  · skip
    refine w_seq ?_
    have hK0 : K = 31 := by simpa using hb
    subst hK0
    rw [show termT rec T ⟨31, s, N, L, Co, ks, kids⟩ ind = kidT rec T ⟨31, s, N, L, Co, ks, kids⟩ ind 0 ++ catL [⟨#[91]⟩] ++ kidT rec T ⟨31, s, N, L, Co, ks, kids⟩ ind 1 ++ catL [⟨#[93]⟩] from rfl] at hn ⊢
    simp only [List.length_append] at hn
    have hk2 := hA2 (.inl rfl)
    refine w_region (by kernel_rfl) ?_
    refine o_move gn rfl rfl ?_
    refine o_loadA (n := 6) gn rfl rfl (by kernel_rfl) (by kernel_rfl) (by exact S.cel 0 rfl) (Nat.le_refl _) ?_
    refine o_call [_, _, _] gn rfl rfl (by kernel_rfl) rfl (C.mono (c70k (w := ⟨31, s, N, L, Co, ks, kids⟩) (i := 0) (S0.sub1 S0.own0 S 1 rfl) X hC hK hR2 (show 0 < kids.length by omega) (by omega)) ?_)
    rintro v g ⟨bs', S2⟩
    have S := S.ret 1 rfl S2
    refine ⟨ag0, ?_⟩
    refine wl_end ?_
    refine w_seq ?_
    refine w_region (by kernel_rfl) ?_
    refine o_move gn rfl rfl ?_
    refine s_buildSlice (cs := (([⟨#[91]⟩] : List ByteArray).map Value.string).toArray) (e := 9) (z := 0) (zv := .string .empty) [(0, _)] S gn rfl (by kernel_rfl) (by kernel_rfl) (by kernel_rfl) (by kernel_rfl) rfl (by kernel_rfl) fun b7 g nb7 S => ?_
    refine o_call [_, _] gn rfl rfl (by kernel_rfl) rfl (C.mono (c47 (S0.sub1 S0.own0 S 2 rfl) (S.wrow 0 2 rfl rfl (by decide) [⟨#[91]⟩] rfl) (by simp only [List.length_append]; omega) (by simp)) ?_)
    rintro v g ⟨bs', S2⟩
    have S := S.ret 2 rfl S2
    refine ⟨ag0, ?_⟩
    refine wl_end ?_
    refine w_seq ?_
    refine w_region (by kernel_rfl) ?_
    refine o_move gn rfl rfl ?_
    refine o_loadA (n := 6) gn rfl rfl (by kernel_rfl) (by kernel_rfl) (by exact S.cel 1 rfl) (Nat.le_refl _) ?_
    refine o_call [_, _, _] gn rfl rfl (by kernel_rfl) rfl (C.mono (c70k (w := ⟨31, s, N, L, Co, ks, kids⟩) (i := 1) (S0.sub1 S0.own0 S 2 rfl) X hC hK hR2 (show 1 < kids.length by omega) (by simp only [List.length_append]; omega)) ?_)
    rintro v g ⟨bs', S2⟩
    have S := S.ret 2 rfl S2
    refine ⟨ag0, ?_⟩
    refine wl_end ?_
    refine w_region (by kernel_rfl) ?_
    refine o_move gn rfl rfl ?_
    refine s_buildSlice (cs := (([⟨#[93]⟩] : List ByteArray).map Value.string).toArray) (e := 9) (z := 0) (zv := .string .empty) [(0, _)] S gn rfl (by kernel_rfl) (by kernel_rfl) (by kernel_rfl) (by kernel_rfl) rfl (by kernel_rfl) fun b8 g nb8 S => ?_
    refine o_call [_, _] gn rfl rfl (by kernel_rfl) rfl (C.mono (c47 (S0.sub1 S0.own0 S 3 rfl) (S.wrow 0 3 rfl rfl (by decide) [⟨#[93]⟩] rfl) (by simp only [List.length_append]; omega) (by simp)) ?_)
    rintro v g ⟨bs', S2⟩
    have S := S.ret 3 rfl S2
    refine ⟨ag0, ?_⟩
    refine wl_end ?_
    refine ⟨.inr rfl, _, rfl, ?_⟩
    exact ⟨bs', by simp only [← List.append_assoc] at S ⊢; exact S.pick 3 rfl⟩
  refine w_seq ?_
  refine w_region (by kernel_rfl) ?_
  refine o_eqi gn rfl rfl rfl ?_
  refine o_assign gn rfl rfl ?_
  refine wl_end ?_
  refine w_cond rfl (fun hb => ?_) fun hb => ?_
  · skip
    refine w_seq ?_
    have hK0 : K = 32 := by simpa using hb
    subst hK0
    rw [show termT rec T ⟨32, s, N, L, Co, ks, kids⟩ ind = kidT rec T ⟨32, s, N, L, Co, ks, kids⟩ ind 0 ++ catL [⟨#[32]⟩, s, ⟨#[32]⟩] ++ kidT rec T ⟨32, s, N, L, Co, ks, kids⟩ ind 1 from rfl] at hn ⊢
    simp only [List.length_append] at hn
    have hk2 := hA2 (.inr rfl)
    refine w_region (by kernel_rfl) ?_
    refine o_move gn rfl rfl ?_
    refine o_loadA (n := 6) gn rfl rfl (by kernel_rfl) (by kernel_rfl) (by exact S.cel 0 rfl) (Nat.le_refl _) ?_
    refine o_call [_, _, _] gn rfl rfl (by kernel_rfl) rfl (C.mono (c70k (w := ⟨32, s, N, L, Co, ks, kids⟩) (i := 0) (S0.sub1 S0.own0 S 1 rfl) X hC hK hR2 (show 0 < kids.length by omega) (by omega)) ?_)
    rintro v g ⟨bs', S2⟩
    have S := S.ret 1 rfl S2
    refine ⟨ag0, ?_⟩
    refine wl_end ?_
    refine w_seq ?_
    refine w_region (by kernel_rfl) ?_
    refine o_move gn rfl rfl ?_
    refine o_fieldAddr (off := 1) gn rfl rfl (by kernel_rfl) ?_
    refine o_load gn rfl rfl (by kernel_rfl) (by exact S.cel 0 rfl) rfl ?_
    refine s_buildSlice (cs := (([⟨#[32]⟩, s, ⟨#[32]⟩] : List ByteArray).map Value.string).toArray) (e := 9) (z := 0) (zv := .string .empty) [(0, _), (1, _), (2, _)] S gn rfl (by kernel_rfl) (by kernel_rfl) (by kernel_rfl) (by kernel_rfl) rfl (by kernel_rfl) fun b9 g nb9 S => ?_
    refine o_call [_, _] gn rfl rfl (by kernel_rfl) rfl (C.mono (c47 (S0.sub1 S0.own0 S 2 rfl) (S.wrow 0 2 rfl rfl (by decide) [⟨#[32]⟩, s, ⟨#[32]⟩] rfl) (by simp only [List.length_append]; omega) (by simp)) ?_)
    rintro v g ⟨bs', S2⟩
    have S := S.ret 2 rfl S2
    refine ⟨ag0, ?_⟩
    refine wl_end ?_
    refine w_region (by kernel_rfl) ?_
    refine o_move gn rfl rfl ?_
    refine o_loadA (n := 6) gn rfl rfl (by kernel_rfl) (by kernel_rfl) (by exact S.cel 1 rfl) (Nat.le_refl _) ?_
    refine o_call [_, _, _] gn rfl rfl (by kernel_rfl) rfl (C.mono (c70k (w := ⟨32, s, N, L, Co, ks, kids⟩) (i := 1) (S0.sub1 S0.own0 S 2 rfl) X hC hK hR2 (show 1 < kids.length by omega) (by simp only [List.length_append]; omega)) ?_)
    rintro v g ⟨bs', S2⟩
    have S := S.ret 2 rfl S2
    refine ⟨ag0, ?_⟩
    refine wl_end ?_
    refine ⟨.inr rfl, _, rfl, ?_⟩
    exact ⟨bs', by simp only [← List.append_assoc] at S ⊢; exact S.pick 2 rfl⟩
  refine w_seq ?_
  refine w_region (by kernel_rfl) ?_
  refine o_eqi gn rfl rfl rfl ?_
  refine o_assign gn rfl rfl ?_
  refine wl_end ?_
  refine w_cond rfl (fun hb => ?_) fun hb => ?_
  · skip
    have hK0 : K = 33 := by simpa using hb
    subst hK0
    rw [show termT rec T ⟨33, s, N, L, Co, ks, kids⟩ ind = catL [⟨#[110, 101, 119, 32]⟩, s] from rfl] at hn ⊢
    refine w_region (by kernel_rfl) ?_
    refine o_move gn rfl rfl ?_
    refine o_fieldAddr (off := 1) gn rfl rfl (by kernel_rfl) ?_
    refine o_load gn rfl rfl (by kernel_rfl) (by exact S.cel 0 rfl) rfl ?_
    refine s_buildSlice (cs := (([⟨#[110, 101, 119, 32]⟩, s] : List ByteArray).map Value.string).toArray) (e := 9) (z := 0) (zv := .string .empty) [(0, _), (1, _)] S gn rfl (by kernel_rfl) (by kernel_rfl) (by kernel_rfl) (by kernel_rfl) rfl (by kernel_rfl) fun b10 g nb10 S => ?_
    refine o_call [_, _] gn rfl rfl (by kernel_rfl) rfl (C.mono (c47 (S0.sub1 S0.own0 S 2 rfl) (S.wrow 0 2 rfl rfl (by decide) [⟨#[110, 101, 119, 32]⟩, s] rfl) hn (by simp)) ?_)
    rintro v g ⟨bs', S2⟩
    have S := S.ret 2 rfl S2
    refine ⟨ag0, ?_⟩
    refine wl_end ?_
    refine ⟨.inr rfl, _, rfl, ?_⟩
    exact ⟨bs', S.pick 2 rfl⟩
  have hK3 : K = 34 ∨ K = 35 ∨ K = 36 := by
    simp only [termK, Bool.and_eq_true, decide_eq_true_eq] at ht
    simp only [decide_eq_false_iff_not] at *
    omega
  have hT : termT rec T ⟨K, s, N, L, Co, ks, kids⟩ ind = rowT rec T ⟨K, s, N, L, Co, ks, kids⟩ ind (termWord K) 0 := by
    unfold termT
    rcases hK3 with rfl | rfl | rfl <;> rfl
  rw [hT] at hn ⊢
  refine w_region (by kernel_rfl) ?_
  refine o_move gn rfl rfl ?_
  refine o_loadA (n := 6) gn rfl rfl (by kernel_rfl) (by kernel_rfl) (by exact S.cel 0 rfl) (Nat.le_refl _) ?_
  refine s_makeMap S gn rfl fun b11 g nb11 S => ?_
  have S : SH hE (pb :: bs) [cR b11 (.map (([] : MsK Int).map (entK fun k => Value.int .i64 k)) 0), cR b1 (.cells (twC K s N L Co ks) 30 0), prR pb sv l ind bs] g := S
  refine o_build (cs := #[.string ⟨#[97, 114, 114]⟩]) (zv := .agg #[.string .empty]) (pl := [(0, 1)]) [(0, _)] gn rfl (by kernel_rfl) (by kernel_rfl) rfl (by kernel_rfl) ?_
  refine s_insertK (M := []) 0 S key93 gn rfl rfl rfl rfl (fun g S => ag0) fun g S => ?_
  refine o_build (cs := #[.string ⟨#[108, 101, 110]⟩]) (zv := .agg #[.string .empty]) (pl := [(0, 1)]) [(0, _)] gn rfl (by kernel_rfl) (by kernel_rfl) rfl (by kernel_rfl) ?_
  first | refine s_insertK 0 S key93 gn rfl rfl rfl rfl (fun g S => ag0) fun g S => ?_ | refine s_insertK 1 S key93 gn rfl rfl rfl rfl (fun g S => ag0) fun g S => ?_ | refine s_insertK 2 S key93 gn rfl rfl rfl rfl (fun g S => ag0) fun g S => ?_ | refine s_insertK 3 S key93 gn rfl rfl rfl rfl (fun g S => ag0) fun g S => ?_ | refine s_insertK 4 S key93 gn rfl rfl rfl rfl (fun g S => ag0) fun g S => ?_
  refine o_build (cs := #[.string ⟨#[102, 110]⟩]) (zv := .agg #[.string .empty]) (pl := [(0, 1)]) [(0, _)] gn rfl (by kernel_rfl) (by kernel_rfl) rfl (by kernel_rfl) ?_
  first | refine s_insertK 0 S key93 gn rfl rfl rfl rfl (fun g S => ag0) fun g S => ?_ | refine s_insertK 1 S key93 gn rfl rfl rfl rfl (fun g S => ag0) fun g S => ?_ | refine s_insertK 2 S key93 gn rfl rfl rfl rfl (fun g S => ag0) fun g S => ?_ | refine s_insertK 3 S key93 gn rfl rfl rfl rfl (fun g S => ag0) fun g S => ?_ | refine s_insertK 4 S key93 gn rfl rfl rfl rfl (fun g S => ag0) fun g S => ?_
  have S : SH hE (pb :: bs) [cR b11 (.map (termM.map (entK fun k => Value.int .i64 k)) 3), cR b1 (.cells (twC K s N L Co ks) 30 0), prR pb sv l ind bs] g := S
  refine o_move gn rfl rfl ?_
  refine o_fieldAddr (off := 0) gn rfl rfl (by kernel_rfl) ?_
  refine o_load gn rfl rfl (by kernel_rfl) (by exact S.cel 1 rfl) rfl ?_
  refine o_lookupK (zv := .agg #[.string .empty]) key93 gn rfl rfl rfl (by exact S.cel 0 rfl) (by kernel_rfl) ?_
  rw [termM_at hK3]
  refine o_field gn rfl rfl (by kernel_rfl : fieldX trE 92 (.agg #[.string (termWord K)]) 0 = some (.string (termWord K))) ?_
  refine o_call [_, _, _, _] gn rfl rfl (by kernel_rfl) rfl (C.mono (c74 (w := ⟨K, s, N, L, Co, ks, kids⟩) (word := termWord K) (fr := 0) (S0.sub1 S0.own0 S 2 rfl) X hC hK hS2 (Nat.zero_le _) hn) ?_)
  rintro v g ⟨bs', S2⟩
  have S := S.ret 2 rfl S2
  refine ⟨ag0, ?_⟩
  refine wl_end ?_
  refine ⟨.inr rfl, _, rfl, ?_⟩
  exact ⟨bs', S.pick 2 rfl⟩
end
end Go.Proofs.YtoejddhaiogonaaDoor

namespace Go.Proofs.YtoejddhaiogonaaDoor
open Go.X

def stmtWord (K : Int) : ByteArray := if K = 15 then ⟨#[99, 97, 108, 108]⟩ else if K = 16 then ⟨#[99, 97, 110, 99, 101, 108]⟩ else if K = 17 then ⟨#[106, 111, 105, 110]⟩ else if K = 18 then ⟨#[108, 111, 103]⟩ else .empty
section
variable (rec : Nat → ByteArray → List UInt8) (T : List Tw) (w : Tw) (ind : ByteArray)
def stmtT : List UInt8 :=
  if w.K = 13 then catL [⟨#[118, 97, 114, 32]⟩, w.s, ⟨#[32]⟩] ++ kidT rec T w ind 0 ++ catL [⟨#[32, 61, 32]⟩] ++ kidT rec T w ind 1 ++ catL [⟨#[59]⟩] else
  if w.K = 14 then kidT rec T w ind 0 ++ catL [⟨#[32, 61, 32]⟩] ++ kidT rec T w ind 1 ++ catL [⟨#[59]⟩] else
  if w.K = 19 then catL [⟨#[112, 111, 115, 116, 32]⟩, w.s, ⟨#[32]⟩] ++ kidT rec T w ind 0 ++ (if w.N < 0 then catL [⟨#[32, 102, 114, 111, 110, 116]⟩] else []) ++ (if 0 < w.N then catL [⟨#[32, 97, 102, 116, 101, 114, 32]⟩, itoaB w.N] else []) ++ toT rec T w ind ++ catL [⟨#[59]⟩] else
  if w.K = 20 then catL [⟨#[115, 112, 97, 119, 110, 32]⟩] ++ kidT rec T w ind 0 ++ toT rec T w ind ++ catL [⟨#[59]⟩] else
  if w.K = 21 then catL [⟨#[101, 110, 97, 98, 108, 101, 32]⟩, w.s] ++ catL [⟨#[59]⟩] else
  if w.K = 22 then catL [⟨#[100, 105, 115, 97, 98, 108, 101, 32]⟩, w.s] ++ catL [⟨#[59]⟩] else
  if w.K = 25 then catL [⟨#[114, 101, 116, 117, 114, 110]⟩] ++ catL [⟨#[59]⟩] else
  if w.K = 23 ∨ w.K = 24 then branchT rec T w ind else rowT rec T w ind (stmtWord w.K) 0 ++ catL [⟨#[59]⟩]
end
def stmtM : MsK Int := [(15, .agg #[.string ⟨#[99, 97, 108, 108]⟩], 0), (16, .agg #[.string ⟨#[99, 97, 110, 99, 101, 108]⟩], 1), (17, .agg #[.string ⟨#[106, 111, 105, 110]⟩], 2), (18, .agg #[.string ⟨#[108, 111, 103]⟩], 3)]
theorem stmtM_at {K : Int} (h : K = 15 ∨ K = 16 ∨ K = 17 ∨ K = 18) : (getK stmtM K).getD (.agg #[.string .empty]) = .agg #[.string (stmtWord K)] := by
  rcases h with rfl | rfl | rfl | rfl <;> rfl

section
variable {h0 hE : Hp} {pb : Nat} {sv : Value} {l : List UInt8} {ind : ByteArray} {bs : List Nat} {T : List Tw} {w : Tw} {rec : Nat → ByteArray → List UInt8} {lo : Nat}

/-- statement -/
theorem c49 (S0 : SH h0 [] [prR pb sv l ind bs] hE) (X : TreeAt h0 sv T) (hC : TwC h0 sv T rec lo) (hK : KidsOk T w lo) (hS : RowG h0 w.ks (isV w.kids)) (hP : Pow h0) (hA1 : w.K = 19 ∨ w.K = 20 → 1 ≤ w.kids.length) (hA2 : w.K = 13 ∨ w.K = 14 ∨ w.K = 23 ∨ w.K = 24 → 2 ≤ w.kids.length)
    (hN : w.K = 19 → -1 ≤ w.N ∧ w.N ≤ 2147483647) (ht : stmtK w.K = true) (hn : l.length + (stmtT rec T w ind).length ≤ 1099511627776) :
    C trE 49 [.pointer (some ⟨pb, 0, none⟩), w.val] hE fun _ g' => ∃ bs', SH hE (pb :: bs) [prR pb sv (l ++ stmtT rec T w ind) ind bs'] g' := by
  obtain ⟨K, s, N, L, Co, ks, kids⟩ := w
  have hR2 : RowV h0 ks (isV kids) := hS.row
  simp only at hA1 hA2 hN ht
  have hS2 := hS
  have hcv := RowV.cellV hR2
  have hsame := RowV.same hR2
  have hkl := hK.1
  simp only at hkl
  refine c_enter (fu := Tryd.f49) (by kernel_rfl) rfl ?_
  have S := S0.enter
  refine w_seq ?_
  refine w_region (by kernel_rfl) ?_
  refine s_box S gn rfl rfl fun b1 g nb1 S => ?_
  refine wl_end ?_
  refine w_seq ?_
  refine w_region (by kernel_rfl) ?_
  refine o_move gn rfl rfl ?_
  refine o_makeFuncB gn rfl rfl ?_
  refine o_assign gn rfl rfl ?_
  refine wl_end ?_
  refine w_seq ?_
  refine w_seq ?_
  refine w_region (by kernel_rfl) ?_
  refine o_fieldAddr (off := 0) gn rfl rfl (by kernel_rfl) ?_
  refine o_load gn rfl rfl (by kernel_rfl) (by exact S.cel 0 rfl) rfl ?_
  refine wl_end ?_
  refine w_block ?_
  refine w_seq ?_
  refine w_region (by kernel_rfl) ?_
  refine o_eqi gn rfl rfl rfl ?_
  refine o_assign gn rfl rfl ?_
  refine wl_end ?_
  refine w_cond rfl (fun hb => ?_) fun hb => ?_
  · skip
    refine w_seq ?_
    have hK0 : K = 13 := by simpa using hb
    subst hK0
    rw [show stmtT rec T ⟨13, s, N, L, Co, ks, kids⟩ ind = catL [⟨#[118, 97, 114, 32]⟩, s, ⟨#[32]⟩] ++ kidT rec T ⟨13, s, N, L, Co, ks, kids⟩ ind 0 ++ catL [⟨#[32, 61, 32]⟩] ++ kidT rec T ⟨13, s, N, L, Co, ks, kids⟩ ind 1 ++ catL [⟨#[59]⟩] from rfl] at hn ⊢
    simp only [List.length_append] at hn
    have hk2 := hA2 (.inl rfl)
    refine w_region (by kernel_rfl) ?_
    refine o_move gn rfl rfl ?_
    refine o_fieldAddr (off := 1) gn rfl rfl (by kernel_rfl) ?_
    refine o_load gn rfl rfl (by kernel_rfl) (by exact S.cel 0 rfl) rfl ?_
    refine s_buildSlice (cs := (([⟨#[118, 97, 114, 32]⟩, s, ⟨#[32]⟩] : List ByteArray).map Value.string).toArray) (e := 9) (z := 0) (zv := .string .empty) [(0, _), (1, _), (2, _)] S gn rfl (by kernel_rfl) (by kernel_rfl) (by kernel_rfl) (by kernel_rfl) rfl (by kernel_rfl) fun b2 g nb2 S => ?_
    refine o_call [_] gn rfl rfl (by kernel_rfl) rfl (C.mono (c47 (S0.sub1 S0.own0 S 2 rfl) (S.wrow 0 2 rfl rfl (by decide) [⟨#[118, 97, 114, 32]⟩, s, ⟨#[32]⟩] rfl) (by first | omega | (simp only [List.length_append]; omega)) (by simp)) ?_)
    rintro v g ⟨bs', S2⟩
    have S := S.ret 2 rfl S2
    refine ⟨ag0, ?_⟩
    refine wl_end ?_
    refine w_seq ?_
    refine w_region (by kernel_rfl) ?_
    refine o_move gn rfl rfl ?_
    refine o_loadA (n := 6) gn rfl rfl (by kernel_rfl) (by kernel_rfl) (by exact S.cel 1 rfl) (Nat.le_refl _) ?_
    refine o_call [_, _, _] gn rfl rfl (by kernel_rfl) rfl (C.mono (c70k (w := ⟨13, s, N, L, Co, ks, kids⟩) (i := 0) (S0.sub1 S0.own0 S 2 rfl) X hC hK hR2 (show 0 < kids.length by omega) (by first | omega | (simp only [List.length_append]; omega))) ?_)
    rintro v g ⟨bs', S2⟩
    have S := S.ret 2 rfl S2
    refine ⟨ag0, ?_⟩
    refine wl_end ?_
    refine w_seq ?_
    refine w_region (by kernel_rfl) ?_
    refine o_move gn rfl rfl ?_
    refine s_buildSlice (cs := (([⟨#[32, 61, 32]⟩] : List ByteArray).map Value.string).toArray) (e := 9) (z := 0) (zv := .string .empty) [(0, _)] S gn rfl (by kernel_rfl) (by kernel_rfl) (by kernel_rfl) (by kernel_rfl) rfl (by kernel_rfl) fun b3 g nb3 S => ?_
    refine o_call [_] gn rfl rfl (by kernel_rfl) rfl (C.mono (c47 (S0.sub1 S0.own0 S 3 rfl) (S.wrow 0 3 rfl rfl (by decide) [⟨#[32, 61, 32]⟩] rfl) (by first | omega | (simp only [List.length_append]; omega)) (by simp)) ?_)
    rintro v g ⟨bs', S2⟩
    have S := S.ret 3 rfl S2
    refine ⟨ag0, ?_⟩
    refine wl_end ?_
    refine w_region (by kernel_rfl) ?_
    refine o_move gn rfl rfl ?_
    refine o_loadA (n := 6) gn rfl rfl (by kernel_rfl) (by kernel_rfl) (by exact S.cel 2 rfl) (Nat.le_refl _) ?_
    refine o_call [_, _, _] gn rfl rfl (by kernel_rfl) rfl (C.mono (c70k (w := ⟨13, s, N, L, Co, ks, kids⟩) (i := 1) (S0.sub1 S0.own0 S 3 rfl) X hC hK hR2 (show 1 < kids.length by omega) (by first | omega | (simp only [List.length_append]; omega))) ?_)
    rintro v g ⟨bs', S2⟩
    have S := S.ret 3 rfl S2
    refine ⟨ag0, ?_⟩
    refine wl_end ?_
    refine w_region (by kernel_rfl) ?_
    refine o_move gn rfl rfl ?_
    refine s_buildSlice (cs := (([⟨#[59]⟩] : List ByteArray).map Value.string).toArray) (e := 9) (z := 0) (zv := .string .empty) [(0, _)] S gn rfl (by kernel_rfl) (by kernel_rfl) (by kernel_rfl) (by kernel_rfl) rfl (by kernel_rfl) fun b4 g nb4 S => ?_
    refine o_call [_] gn rfl rfl (by kernel_rfl) rfl (C.mono (c47 (S0.sub1 S0.own0 S 4 rfl) (S.wrow 0 4 rfl rfl (by decide) [⟨#[59]⟩] rfl) (by first | omega | (simp only [List.length_append]; omega)) (by simp)) ?_)
    rintro v g ⟨bs', S2⟩
    have S := S.ret 4 rfl S2
    refine ⟨ag0, ?_⟩
    refine wl_end ?_
    refine ⟨.inr rfl, _, rfl, ?_⟩
    exact ⟨bs', by simp only [← List.append_assoc] at S ⊢; exact S.pick 4 rfl⟩
  refine w_seq ?_
  refine w_region (by kernel_rfl) ?_
  refine o_eqi gn rfl rfl rfl ?_
  refine o_assign gn rfl rfl ?_
  refine wl_end ?_
  refine w_cond rfl (fun hb => ?_) fun hb => ?_
  · skip
    refine w_seq ?_
    have hK0 : K = 14 := by simpa using hb
    subst hK0
    rw [show stmtT rec T ⟨14, s, N, L, Co, ks, kids⟩ ind = kidT rec T ⟨14, s, N, L, Co, ks, kids⟩ ind 0 ++ catL [⟨#[32, 61, 32]⟩] ++ kidT rec T ⟨14, s, N, L, Co, ks, kids⟩ ind 1 ++ catL [⟨#[59]⟩] from rfl] at hn ⊢
    simp only [List.length_append] at hn
    have hk2 := hA2 (.inr (.inl rfl))
    refine w_region (by kernel_rfl) ?_
    refine o_move gn rfl rfl ?_
    refine o_loadA (n := 6) gn rfl rfl (by kernel_rfl) (by kernel_rfl) (by exact S.cel 0 rfl) (Nat.le_refl _) ?_
    refine o_call [_, _, _] gn rfl rfl (by kernel_rfl) rfl (C.mono (c70k (w := ⟨14, s, N, L, Co, ks, kids⟩) (i := 0) (S0.sub1 S0.own0 S 1 rfl) X hC hK hR2 (show 0 < kids.length by omega) (by first | omega | (simp only [List.length_append]; omega))) ?_)
    rintro v g ⟨bs', S2⟩
    have S := S.ret 1 rfl S2
    refine ⟨ag0, ?_⟩
    refine wl_end ?_
    refine w_seq ?_
    refine w_region (by kernel_rfl) ?_
    refine o_move gn rfl rfl ?_
    refine s_buildSlice (cs := (([⟨#[32, 61, 32]⟩] : List ByteArray).map Value.string).toArray) (e := 9) (z := 0) (zv := .string .empty) [(0, _)] S gn rfl (by kernel_rfl) (by kernel_rfl) (by kernel_rfl) (by kernel_rfl) rfl (by kernel_rfl) fun b5 g nb5 S => ?_
    refine o_call [_] gn rfl rfl (by kernel_rfl) rfl (C.mono (c47 (S0.sub1 S0.own0 S 2 rfl) (S.wrow 0 2 rfl rfl (by decide) [⟨#[32, 61, 32]⟩] rfl) (by first | omega | (simp only [List.length_append]; omega)) (by simp)) ?_)
    rintro v g ⟨bs', S2⟩
    have S := S.ret 2 rfl S2
    refine ⟨ag0, ?_⟩
    refine wl_end ?_
    refine w_region (by kernel_rfl) ?_
    refine o_move gn rfl rfl ?_
    refine o_loadA (n := 6) gn rfl rfl (by kernel_rfl) (by kernel_rfl) (by exact S.cel 1 rfl) (Nat.le_refl _) ?_
    refine o_call [_, _, _] gn rfl rfl (by kernel_rfl) rfl (C.mono (c70k (w := ⟨14, s, N, L, Co, ks, kids⟩) (i := 1) (S0.sub1 S0.own0 S 2 rfl) X hC hK hR2 (show 1 < kids.length by omega) (by first | omega | (simp only [List.length_append]; omega))) ?_)
    rintro v g ⟨bs', S2⟩
    have S := S.ret 2 rfl S2
    refine ⟨ag0, ?_⟩
    refine wl_end ?_
    refine w_region (by kernel_rfl) ?_
    refine o_move gn rfl rfl ?_
    refine s_buildSlice (cs := (([⟨#[59]⟩] : List ByteArray).map Value.string).toArray) (e := 9) (z := 0) (zv := .string .empty) [(0, _)] S gn rfl (by kernel_rfl) (by kernel_rfl) (by kernel_rfl) (by kernel_rfl) rfl (by kernel_rfl) fun b6 g nb6 S => ?_
    refine o_call [_] gn rfl rfl (by kernel_rfl) rfl (C.mono (c47 (S0.sub1 S0.own0 S 3 rfl) (S.wrow 0 3 rfl rfl (by decide) [⟨#[59]⟩] rfl) (by first | omega | (simp only [List.length_append]; omega)) (by simp)) ?_)
    rintro v g ⟨bs', S2⟩
    have S := S.ret 3 rfl S2
    refine ⟨ag0, ?_⟩
    refine wl_end ?_
    refine ⟨.inr rfl, _, rfl, ?_⟩
    exact ⟨bs', by simp only [← List.append_assoc] at S ⊢; exact S.pick 3 rfl⟩
  refine w_seq ?_
  refine w_region (by kernel_rfl) ?_
  refine o_eqi gn rfl rfl rfl ?_
  refine o_assign gn rfl rfl ?_
  refine wl_end ?_
  refine w_cond rfl (fun hb => ?_) fun hb => ?_
  · skip
    refine w_seq ?_
    have hK0 : K = 19 := by simpa using hb
    subst hK0
    rw [show stmtT rec T ⟨19, s, N, L, Co, ks, kids⟩ ind = catL [⟨#[112, 111, 115, 116, 32]⟩, s, ⟨#[32]⟩] ++ kidT rec T ⟨19, s, N, L, Co, ks, kids⟩ ind 0 ++ (if N < 0 then catL [⟨#[32, 102, 114, 111, 110, 116]⟩] else []) ++ (if 0 < N then catL [⟨#[32, 97, 102, 116, 101, 114, 32]⟩, itoaB N] else []) ++ toT rec T ⟨19, s, N, L, Co, ks, kids⟩ ind ++ catL [⟨#[59]⟩] from rfl] at hn ⊢
    simp only [List.length_append] at hn
    have hk1 := hA1 (.inl rfl)
    obtain ⟨hN0, hN1⟩ := hN rfl
    refine w_region (by kernel_rfl) ?_
    refine o_move gn rfl rfl ?_
    refine o_fieldAddr (off := 1) gn rfl rfl (by kernel_rfl) ?_
    refine o_load gn rfl rfl (by kernel_rfl) (by exact S.cel 0 rfl) rfl ?_
    refine s_buildSlice (cs := (([⟨#[112, 111, 115, 116, 32]⟩, s, ⟨#[32]⟩] : List ByteArray).map Value.string).toArray) (e := 9) (z := 0) (zv := .string .empty) [(0, _), (1, _), (2, _)] S gn rfl (by kernel_rfl) (by kernel_rfl) (by kernel_rfl) (by kernel_rfl) rfl (by kernel_rfl) fun b7 g nb7 S => ?_
    refine o_call [_] gn rfl rfl (by kernel_rfl) rfl (C.mono (c47 (S0.sub1 S0.own0 S 2 rfl) (S.wrow 0 2 rfl rfl (by decide) [⟨#[112, 111, 115, 116, 32]⟩, s, ⟨#[32]⟩] rfl) (by first | omega | (simp only [List.length_append]; omega)) (by simp)) ?_)
    rintro v g ⟨bs', S2⟩
    have S := S.ret 2 rfl S2
    refine ⟨ag0, ?_⟩
    refine wl_end ?_
    refine w_seq ?_
    refine w_region (by kernel_rfl) ?_
    refine o_move gn rfl rfl ?_
    refine o_loadA (n := 6) gn rfl rfl (by kernel_rfl) (by kernel_rfl) (by exact S.cel 1 rfl) (Nat.le_refl _) ?_
    refine o_call [_, _, _] gn rfl rfl (by kernel_rfl) rfl (C.mono (c70k (w := ⟨19, s, N, L, Co, ks, kids⟩) (i := 0) (S0.sub1 S0.own0 S 2 rfl) X hC hK hR2 (show 0 < kids.length by omega) (by first | omega | (simp only [List.length_append]; omega))) ?_)
    rintro v g ⟨bs', S2⟩
    have S := S.ret 2 rfl S2
    refine ⟨ag0, ?_⟩
    refine wl_end ?_
    refine w_cutS [(0, .pointer (some ⟨pb, 0, none⟩)), (3, ptrV b1), (4, .func (.func 47) #[.pointer (some ⟨pb, 0, none⟩)] #[])] (fun lv hh => lv = [] ∧ ∃ bs1, SH hE (pb :: bs) [cR b7 (.cells [.string ⟨#[112, 111, 115, 116, 32]⟩, .string s, .string ⟨#[32]⟩] 9 0), cR b1 (.cells (twC 19 s N L Co ks) 30 0), prR pb sv (l ++ catL [⟨#[112, 111, 115, 116, 32]⟩, s, ⟨#[32]⟩] ++ kidT rec T ⟨19, s, N, L, Co, ks, kids⟩ ind 0 ++ (if N < 0 then catL [⟨#[32, 102, 114, 111, 110, 116]⟩] else [])) ind bs1] hh) ?_ fun lv hh hJ => ?_
    · skip
      refine w_seq ?_
      refine w_region (by kernel_rfl) ?_
      refine o_fieldAddr (off := 2) gn rfl rfl (by kernel_rfl) ?_
      refine o_load gn rfl rfl (by kernel_rfl) (by exact S.cel 1 rfl) rfl ?_
      refine o_lss gn rfl rfl rfl ?_
      refine wl_end ?_
      refine w_cond rfl (fun hb => ?_) fun hb => ?_
      · skip
        have hN2 : N < 0 := by simpa using hb
        simp only [if_pos hN2] at hn ⊢
        refine w_region (by kernel_rfl) ?_
        refine o_move gn rfl rfl ?_
        refine s_buildSlice (cs := (([⟨#[32, 102, 114, 111, 110, 116]⟩] : List ByteArray).map Value.string).toArray) (e := 9) (z := 0) (zv := .string .empty) [(0, _)] S gn rfl (by kernel_rfl) (by kernel_rfl) (by kernel_rfl) (by kernel_rfl) rfl (by kernel_rfl) fun b8 g nb8 S => ?_
        refine o_call [_] gn rfl rfl (by kernel_rfl) rfl (C.mono (c47 (S0.sub1 S0.own0 S 3 rfl) (S.wrow 0 3 rfl rfl (by decide) [⟨#[32, 102, 114, 111, 110, 116]⟩] rfl) (by first | omega | (simp only [List.length_append]; omega)) (by simp)) ?_)
        rintro v g ⟨bs', S2⟩
        have S := S.ret 3 rfl S2
        refine ⟨ag0, ?_⟩
        refine wl_end ?_
        exact cutS [] (by repeat (first | exact trivial | refine ⟨rfl, ?_⟩)) ⟨rfl, bs', S.drop⟩
      refine w_skip ?_
      exact cutS [] (by repeat (first | exact trivial | refine ⟨rfl, ?_⟩)) ⟨rfl, bs', by rw [if_neg (show ¬ N < 0 by simpa using hb), List.append_nil]; exact S⟩
    obtain ⟨rfl, bs1, S⟩ := hJ
    refine w_cutS [(0, .pointer (some ⟨pb, 0, none⟩)), (3, ptrV b1), (4, .func (.func 47) #[.pointer (some ⟨pb, 0, none⟩)] #[])] (fun lv hh => lv = [] ∧ ∃ bs1, SH hE (pb :: bs) [cR b7 (.cells [.string ⟨#[112, 111, 115, 116, 32]⟩, .string s, .string ⟨#[32]⟩] 9 0), cR b1 (.cells (twC 19 s N L Co ks) 30 0), prR pb sv (l ++ catL [⟨#[112, 111, 115, 116, 32]⟩, s, ⟨#[32]⟩] ++ kidT rec T ⟨19, s, N, L, Co, ks, kids⟩ ind 0 ++ (if N < 0 then catL [⟨#[32, 102, 114, 111, 110, 116]⟩] else []) ++ (if 0 < N then catL [⟨#[32, 97, 102, 116, 101, 114, 32]⟩, itoaB N] else [])) ind bs1] hh) ?_ fun lv hh hJ => ?_
    · skip
      refine w_seq ?_
      refine w_region (by kernel_rfl) ?_
      refine o_fieldAddr (off := 2) gn rfl rfl (by kernel_rfl) ?_
      refine o_load gn rfl rfl (by kernel_rfl) (by exact S.cel 1 rfl) rfl ?_
      refine o_gtr gn rfl rfl rfl ?_
      refine wl_end ?_
      refine w_cond rfl (fun hb => ?_) fun hb => ?_
      · skip
        have hN3 : 0 < N := by simpa using hb
        simp only [if_pos hN3] at hn ⊢
        refine w_region (by kernel_rfl) ?_
        refine o_move gn rfl rfl ?_
        refine o_fieldAddr (off := 2) gn rfl rfl (by kernel_rfl) ?_
        refine o_load gn rfl rfl (by kernel_rfl) (by exact S.cel 1 rfl) rfl ?_
        refine o_sm [_, _] gn rfl rfl (by kernel_rfl) (by kernel_rfl) sm71 rfl (fmt_at (n := N) (hP.ext (S0.all0 S0.own0 S)) (by omega) (by omega)) (.refl _) ag0 ?_
        refine s_buildSlice (cs := (([⟨#[32, 97, 102, 116, 101, 114, 32]⟩, itoaB N] : List ByteArray).map Value.string).toArray) (e := 9) (z := 0) (zv := .string .empty) [(0, _), (1, _)] S gn rfl (by kernel_rfl) (by kernel_rfl) (by kernel_rfl) (by kernel_rfl) rfl (by kernel_rfl) fun b9 g nb9 S => ?_
        refine o_call [_] gn rfl rfl (by kernel_rfl) rfl (C.mono (c47 (S0.sub1 S0.own0 S 3 rfl) (S.wrow 0 3 rfl rfl (by decide) [⟨#[32, 97, 102, 116, 101, 114, 32]⟩, itoaB N] rfl) (by first | omega | (simp only [List.length_append]; omega)) (by simp)) ?_)
        rintro v g ⟨bs', S2⟩
        have S := S.ret 3 rfl S2
        refine ⟨ag0, ?_⟩
        refine wl_end ?_
        exact cutS [] (by repeat (first | exact trivial | refine ⟨rfl, ?_⟩)) ⟨rfl, bs', S.drop⟩
      refine w_skip ?_
      exact cutS [] (by repeat (first | exact trivial | refine ⟨rfl, ?_⟩)) ⟨rfl, bs1, by rw [if_neg (show ¬ 0 < N by simpa using hb), List.append_nil]; exact S⟩
    obtain ⟨rfl, bs1, S⟩ := hJ
    refine w_region (by kernel_rfl) ?_
    refine o_move gn rfl rfl ?_
    refine o_loadA (n := 6) gn rfl rfl (by kernel_rfl) (by kernel_rfl) (by exact S.cel 1 rfl) (Nat.le_refl _) ?_
    refine o_call [_, _] gn rfl rfl (by kernel_rfl) rfl (C.mono (c72 (w := ⟨19, s, N, L, Co, ks, kids⟩) (S0.sub1 S0.own0 S 2 rfl) X hC hK hR2 (by first | omega | (simp only [List.length_append]; omega))) ?_)
    rintro v g ⟨bs', S2⟩
    have S := S.ret 2 rfl S2
    refine ⟨ag0, ?_⟩
    refine wl_end ?_
    refine w_region (by kernel_rfl) ?_
    refine o_move gn rfl rfl ?_
    refine s_buildSlice (cs := (([⟨#[59]⟩] : List ByteArray).map Value.string).toArray) (e := 9) (z := 0) (zv := .string .empty) [(0, _)] S gn rfl (by kernel_rfl) (by kernel_rfl) (by kernel_rfl) (by kernel_rfl) rfl (by kernel_rfl) fun b10 g nb10 S => ?_
    refine o_call [_] gn rfl rfl (by kernel_rfl) rfl (C.mono (c47 (S0.sub1 S0.own0 S 3 rfl) (S.wrow 0 3 rfl rfl (by decide) [⟨#[59]⟩] rfl) (by first | omega | (simp only [List.length_append]; omega)) (by simp)) ?_)
    rintro v g ⟨bs', S2⟩
    have S := S.ret 3 rfl S2
    refine ⟨ag0, ?_⟩
    refine wl_end ?_
    refine ⟨.inr rfl, _, rfl, ?_⟩
    exact ⟨bs', by simp only [← List.append_assoc] at S ⊢; exact S.pick 3 rfl⟩
  refine w_seq ?_
  refine w_region (by kernel_rfl) ?_
  refine o_eqi gn rfl rfl rfl ?_
  refine o_assign gn rfl rfl ?_
  refine wl_end ?_
  refine w_cond rfl (fun hb => ?_) fun hb => ?_
  · skip
    refine w_seq ?_
    have hK0 : K = 20 := by simpa using hb
    subst hK0
    rw [show stmtT rec T ⟨20, s, N, L, Co, ks, kids⟩ ind = catL [⟨#[115, 112, 97, 119, 110, 32]⟩] ++ kidT rec T ⟨20, s, N, L, Co, ks, kids⟩ ind 0 ++ toT rec T ⟨20, s, N, L, Co, ks, kids⟩ ind ++ catL [⟨#[59]⟩] from rfl] at hn ⊢
    simp only [List.length_append] at hn
    have hk1 := hA1 (.inr rfl)
    refine w_region (by kernel_rfl) ?_
    refine o_move gn rfl rfl ?_
    refine s_buildSlice (cs := (([⟨#[115, 112, 97, 119, 110, 32]⟩] : List ByteArray).map Value.string).toArray) (e := 9) (z := 0) (zv := .string .empty) [(0, _)] S gn rfl (by kernel_rfl) (by kernel_rfl) (by kernel_rfl) (by kernel_rfl) rfl (by kernel_rfl) fun b11 g nb11 S => ?_
    refine o_call [_] gn rfl rfl (by kernel_rfl) rfl (C.mono (c47 (S0.sub1 S0.own0 S 2 rfl) (S.wrow 0 2 rfl rfl (by decide) [⟨#[115, 112, 97, 119, 110, 32]⟩] rfl) (by first | omega | (simp only [List.length_append]; omega)) (by simp)) ?_)
    rintro v g ⟨bs', S2⟩
    have S := S.ret 2 rfl S2
    refine ⟨ag0, ?_⟩
    refine wl_end ?_
    refine w_seq ?_
    refine w_region (by kernel_rfl) ?_
    refine o_move gn rfl rfl ?_
    refine o_loadA (n := 6) gn rfl rfl (by kernel_rfl) (by kernel_rfl) (by exact S.cel 1 rfl) (Nat.le_refl _) ?_
    refine o_call [_, _, _] gn rfl rfl (by kernel_rfl) rfl (C.mono (c70k (w := ⟨20, s, N, L, Co, ks, kids⟩) (i := 0) (S0.sub1 S0.own0 S 2 rfl) X hC hK hR2 (show 0 < kids.length by omega) (by first | omega | (simp only [List.length_append]; omega))) ?_)
    rintro v g ⟨bs', S2⟩
    have S := S.ret 2 rfl S2
    refine ⟨ag0, ?_⟩
    refine wl_end ?_
    refine w_region (by kernel_rfl) ?_
    refine o_move gn rfl rfl ?_
    refine o_loadA (n := 6) gn rfl rfl (by kernel_rfl) (by kernel_rfl) (by exact S.cel 1 rfl) (Nat.le_refl _) ?_
    refine o_call [_, _] gn rfl rfl (by kernel_rfl) rfl (C.mono (c72 (w := ⟨20, s, N, L, Co, ks, kids⟩) (S0.sub1 S0.own0 S 2 rfl) X hC hK hR2 (by first | omega | (simp only [List.length_append]; omega))) ?_)
    rintro v g ⟨bs', S2⟩
    have S := S.ret 2 rfl S2
    refine ⟨ag0, ?_⟩
    refine wl_end ?_
    refine w_region (by kernel_rfl) ?_
    refine o_move gn rfl rfl ?_
    refine s_buildSlice (cs := (([⟨#[59]⟩] : List ByteArray).map Value.string).toArray) (e := 9) (z := 0) (zv := .string .empty) [(0, _)] S gn rfl (by kernel_rfl) (by kernel_rfl) (by kernel_rfl) (by kernel_rfl) rfl (by kernel_rfl) fun b12 g nb12 S => ?_
    refine o_call [_] gn rfl rfl (by kernel_rfl) rfl (C.mono (c47 (S0.sub1 S0.own0 S 3 rfl) (S.wrow 0 3 rfl rfl (by decide) [⟨#[59]⟩] rfl) (by first | omega | (simp only [List.length_append]; omega)) (by simp)) ?_)
    rintro v g ⟨bs', S2⟩
    have S := S.ret 3 rfl S2
    refine ⟨ag0, ?_⟩
    refine wl_end ?_
    refine ⟨.inr rfl, _, rfl, ?_⟩
    exact ⟨bs', by simp only [← List.append_assoc] at S ⊢; exact S.pick 3 rfl⟩
  refine w_seq ?_
  refine w_region (by kernel_rfl) ?_
  refine o_eqi gn rfl rfl rfl ?_
  refine o_assign gn rfl rfl ?_
  refine wl_end ?_
  refine w_cond rfl (fun hb => ?_) fun hb => ?_
  · skip
    have hK0 : K = 21 := by simpa using hb
    subst hK0
    rw [show stmtT rec T ⟨21, s, N, L, Co, ks, kids⟩ ind = catL [⟨#[101, 110, 97, 98, 108, 101, 32]⟩, s] ++ catL [⟨#[59]⟩] from rfl] at hn ⊢
    simp only [List.length_append] at hn
    refine w_region (by kernel_rfl) ?_
    refine o_move gn rfl rfl ?_
    refine o_fieldAddr (off := 1) gn rfl rfl (by kernel_rfl) ?_
    refine o_load gn rfl rfl (by kernel_rfl) (by exact S.cel 0 rfl) rfl ?_
    refine s_buildSlice (cs := (([⟨#[101, 110, 97, 98, 108, 101, 32]⟩, s] : List ByteArray).map Value.string).toArray) (e := 9) (z := 0) (zv := .string .empty) [(0, _), (1, _)] S gn rfl (by kernel_rfl) (by kernel_rfl) (by kernel_rfl) (by kernel_rfl) rfl (by kernel_rfl) fun b13 g nb13 S => ?_
    refine o_call [_] gn rfl rfl (by kernel_rfl) rfl (C.mono (c47 (S0.sub1 S0.own0 S 2 rfl) (S.wrow 0 2 rfl rfl (by decide) [⟨#[101, 110, 97, 98, 108, 101, 32]⟩, s] rfl) (by first | omega | (simp only [List.length_append]; omega)) (by simp)) ?_)
    rintro v g ⟨bs', S2⟩
    have S := S.ret 2 rfl S2
    refine ⟨ag0, ?_⟩
    refine wl_end ?_
    refine w_region (by kernel_rfl) ?_
    refine o_move gn rfl rfl ?_
    refine s_buildSlice (cs := (([⟨#[59]⟩] : List ByteArray).map Value.string).toArray) (e := 9) (z := 0) (zv := .string .empty) [(0, _)] S gn rfl (by kernel_rfl) (by kernel_rfl) (by kernel_rfl) (by kernel_rfl) rfl (by kernel_rfl) fun b14 g nb14 S => ?_
    refine o_call [_] gn rfl rfl (by kernel_rfl) rfl (C.mono (c47 (S0.sub1 S0.own0 S 3 rfl) (S.wrow 0 3 rfl rfl (by decide) [⟨#[59]⟩] rfl) (by first | omega | (simp only [List.length_append]; omega)) (by simp)) ?_)
    rintro v g ⟨bs', S2⟩
    have S := S.ret 3 rfl S2
    refine ⟨ag0, ?_⟩
    refine wl_end ?_
    refine ⟨.inr rfl, _, rfl, ?_⟩
    exact ⟨bs', by simp only [← List.append_assoc] at S ⊢; exact S.pick 3 rfl⟩
  refine w_seq ?_
  refine w_region (by kernel_rfl) ?_
  refine o_eqi gn rfl rfl rfl ?_
  refine o_assign gn rfl rfl ?_
  refine wl_end ?_
  refine w_cond rfl (fun hb => ?_) fun hb => ?_
  · skip
    have hK0 : K = 22 := by simpa using hb
    subst hK0
    rw [show stmtT rec T ⟨22, s, N, L, Co, ks, kids⟩ ind = catL [⟨#[100, 105, 115, 97, 98, 108, 101, 32]⟩, s] ++ catL [⟨#[59]⟩] from rfl] at hn ⊢
    simp only [List.length_append] at hn
    refine w_region (by kernel_rfl) ?_
    refine o_move gn rfl rfl ?_
    refine o_fieldAddr (off := 1) gn rfl rfl (by kernel_rfl) ?_
    refine o_load gn rfl rfl (by kernel_rfl) (by exact S.cel 0 rfl) rfl ?_
    refine s_buildSlice (cs := (([⟨#[100, 105, 115, 97, 98, 108, 101, 32]⟩, s] : List ByteArray).map Value.string).toArray) (e := 9) (z := 0) (zv := .string .empty) [(0, _), (1, _)] S gn rfl (by kernel_rfl) (by kernel_rfl) (by kernel_rfl) (by kernel_rfl) rfl (by kernel_rfl) fun b15 g nb15 S => ?_
    refine o_call [_] gn rfl rfl (by kernel_rfl) rfl (C.mono (c47 (S0.sub1 S0.own0 S 2 rfl) (S.wrow 0 2 rfl rfl (by decide) [⟨#[100, 105, 115, 97, 98, 108, 101, 32]⟩, s] rfl) (by first | omega | (simp only [List.length_append]; omega)) (by simp)) ?_)
    rintro v g ⟨bs', S2⟩
    have S := S.ret 2 rfl S2
    refine ⟨ag0, ?_⟩
    refine wl_end ?_
    refine w_region (by kernel_rfl) ?_
    refine o_move gn rfl rfl ?_
    refine s_buildSlice (cs := (([⟨#[59]⟩] : List ByteArray).map Value.string).toArray) (e := 9) (z := 0) (zv := .string .empty) [(0, _)] S gn rfl (by kernel_rfl) (by kernel_rfl) (by kernel_rfl) (by kernel_rfl) rfl (by kernel_rfl) fun b16 g nb16 S => ?_
    refine o_call [_] gn rfl rfl (by kernel_rfl) rfl (C.mono (c47 (S0.sub1 S0.own0 S 3 rfl) (S.wrow 0 3 rfl rfl (by decide) [⟨#[59]⟩] rfl) (by first | omega | (simp only [List.length_append]; omega)) (by simp)) ?_)
    rintro v g ⟨bs', S2⟩
    have S := S.ret 3 rfl S2
    refine ⟨ag0, ?_⟩
    refine wl_end ?_
    refine ⟨.inr rfl, _, rfl, ?_⟩
    exact ⟨bs', by simp only [← List.append_assoc] at S ⊢; exact S.pick 3 rfl⟩
  refine w_seq ?_
  refine w_region (by kernel_rfl) ?_
  refine o_eqi gn rfl rfl rfl ?_
  refine o_assign gn rfl rfl ?_
  refine wl_end ?_
  refine w_cond rfl (fun hb => ?_) fun hb => ?_
  · skip
    have hK0 : K = 25 := by simpa using hb
    subst hK0
    rw [show stmtT rec T ⟨25, s, N, L, Co, ks, kids⟩ ind = catL [⟨#[114, 101, 116, 117, 114, 110]⟩] ++ catL [⟨#[59]⟩] from rfl] at hn ⊢
    simp only [List.length_append] at hn
    refine w_region (by kernel_rfl) ?_
    refine o_move gn rfl rfl ?_
    refine s_buildSlice (cs := (([⟨#[114, 101, 116, 117, 114, 110]⟩] : List ByteArray).map Value.string).toArray) (e := 9) (z := 0) (zv := .string .empty) [(0, _)] S gn rfl (by kernel_rfl) (by kernel_rfl) (by kernel_rfl) (by kernel_rfl) rfl (by kernel_rfl) fun b17 g nb17 S => ?_
    refine o_call [_] gn rfl rfl (by kernel_rfl) rfl (C.mono (c47 (S0.sub1 S0.own0 S 2 rfl) (S.wrow 0 2 rfl rfl (by decide) [⟨#[114, 101, 116, 117, 114, 110]⟩] rfl) (by first | omega | (simp only [List.length_append]; omega)) (by simp)) ?_)
    rintro v g ⟨bs', S2⟩
    have S := S.ret 2 rfl S2
    refine ⟨ag0, ?_⟩
    refine wl_end ?_
    refine w_region (by kernel_rfl) ?_
    refine o_move gn rfl rfl ?_
    refine s_buildSlice (cs := (([⟨#[59]⟩] : List ByteArray).map Value.string).toArray) (e := 9) (z := 0) (zv := .string .empty) [(0, _)] S gn rfl (by kernel_rfl) (by kernel_rfl) (by kernel_rfl) (by kernel_rfl) rfl (by kernel_rfl) fun b18 g nb18 S => ?_
    refine o_call [_] gn rfl rfl (by kernel_rfl) rfl (C.mono (c47 (S0.sub1 S0.own0 S 3 rfl) (S.wrow 0 3 rfl rfl (by decide) [⟨#[59]⟩] rfl) (by first | omega | (simp only [List.length_append]; omega)) (by simp)) ?_)
    rintro v g ⟨bs', S2⟩
    have S := S.ret 3 rfl S2
    refine ⟨ag0, ?_⟩
    refine wl_end ?_
    refine ⟨.inr rfl, _, rfl, ?_⟩
    exact ⟨bs', by simp only [← List.append_assoc] at S ⊢; exact S.pick 3 rfl⟩
  refine w_switch 8 [(23, 108), (24, 109)] [(0, _), (3, _), (4, _)] (by kernel_rfl) rfl (by repeat (first | exact trivial | refine ⟨rfl, ?_⟩)) (by rfl) (fun hb => ?_) fun hb => ?_
  · skip
    refine w_seq ?_
    have hKb : K = 23 ∨ K = 24 := by simpa using hb
    have hT : stmtT rec T ⟨K, s, N, L, Co, ks, kids⟩ ind = branchT rec T ⟨K, s, N, L, Co, ks, kids⟩ ind := by
      rcases hKb with rfl | rfl <;> rfl
    rw [hT] at hn ⊢
    refine w_region (by kernel_rfl) ?_
    refine o_move gn rfl rfl ?_
    refine o_loadA (n := 6) gn rfl rfl (by kernel_rfl) (by kernel_rfl) (by exact S.cel 0 rfl) (Nat.le_refl _) ?_
    refine o_call [_, _] gn rfl rfl (by kernel_rfl) rfl (C.mono (c73 (w := ⟨K, s, N, L, Co, ks, kids⟩) (S0.sub1 S0.own0 S 1 rfl) X hC hK hR2 (hA2 (.inr (.inr hKb))) hn) ?_)
    rintro v g ⟨bs', S2⟩
    have S := S.ret 1 rfl S2
    refine ⟨ag0, ?_⟩
    refine wl_end ?_
    refine w_ret ?_
    refine ⟨.inl rfl, _, rfl, ?_⟩
    exact ⟨bs', S.pick 1 rfl⟩
  have hK3 : K = 15 ∨ K = 16 ∨ K = 17 ∨ K = 18 := by
    simp only [stmtK, Bool.and_eq_true, decide_eq_true_eq] at ht
    simp only [List.map_cons, List.map_nil, List.mem_cons, List.not_mem_nil, or_false, decide_eq_false_iff_not] at *
    omega
  have hT : stmtT rec T ⟨K, s, N, L, Co, ks, kids⟩ ind = rowT rec T ⟨K, s, N, L, Co, ks, kids⟩ ind (stmtWord K) 0 ++ catL [⟨#[59]⟩] := by
    unfold stmtT
    rcases hK3 with rfl | rfl | rfl | rfl <;> rfl
  rw [hT] at hn ⊢
  simp only [List.length_append] at hn
  refine w_region (by kernel_rfl) ?_
  refine o_move gn rfl rfl ?_
  refine o_loadA (n := 6) gn rfl rfl (by kernel_rfl) (by kernel_rfl) (by exact S.cel 0 rfl) (Nat.le_refl _) ?_
  refine s_makeMap S gn rfl fun b19 g nb19 S => ?_
  have S : SH hE (pb :: bs) [cR b19 (.map (([] : MsK Int).map (entK fun k => Value.int .i64 k)) 0), cR b1 (.cells (twC K s N L Co ks) 30 0), prR pb sv l ind bs] g := S
  refine o_build (cs := #[.string ⟨#[99, 97, 108, 108]⟩]) (zv := .agg #[.string .empty]) (pl := [(0, 1)]) [(0, _)] gn rfl (by kernel_rfl) (by kernel_rfl) rfl (by kernel_rfl) ?_
  refine s_insertK (M := []) 0 S key93 gn rfl rfl rfl rfl (fun g S => ag0) fun g S => ?_
  refine o_build (cs := #[.string ⟨#[99, 97, 110, 99, 101, 108]⟩]) (zv := .agg #[.string .empty]) (pl := [(0, 1)]) [(0, _)] gn rfl (by kernel_rfl) (by kernel_rfl) rfl (by kernel_rfl) ?_
  first | refine s_insertK 0 S key93 gn rfl rfl rfl rfl (fun g S => ag0) fun g S => ?_ | refine s_insertK 1 S key93 gn rfl rfl rfl rfl (fun g S => ag0) fun g S => ?_ | refine s_insertK 2 S key93 gn rfl rfl rfl rfl (fun g S => ag0) fun g S => ?_ | refine s_insertK 3 S key93 gn rfl rfl rfl rfl (fun g S => ag0) fun g S => ?_ | refine s_insertK 4 S key93 gn rfl rfl rfl rfl (fun g S => ag0) fun g S => ?_
  refine o_build (cs := #[.string ⟨#[106, 111, 105, 110]⟩]) (zv := .agg #[.string .empty]) (pl := [(0, 1)]) [(0, _)] gn rfl (by kernel_rfl) (by kernel_rfl) rfl (by kernel_rfl) ?_
  first | refine s_insertK 0 S key93 gn rfl rfl rfl rfl (fun g S => ag0) fun g S => ?_ | refine s_insertK 1 S key93 gn rfl rfl rfl rfl (fun g S => ag0) fun g S => ?_ | refine s_insertK 2 S key93 gn rfl rfl rfl rfl (fun g S => ag0) fun g S => ?_ | refine s_insertK 3 S key93 gn rfl rfl rfl rfl (fun g S => ag0) fun g S => ?_ | refine s_insertK 4 S key93 gn rfl rfl rfl rfl (fun g S => ag0) fun g S => ?_
  refine o_build (cs := #[.string ⟨#[108, 111, 103]⟩]) (zv := .agg #[.string .empty]) (pl := [(0, 1)]) [(0, _)] gn rfl (by kernel_rfl) (by kernel_rfl) rfl (by kernel_rfl) ?_
  first | refine s_insertK 0 S key93 gn rfl rfl rfl rfl (fun g S => ag0) fun g S => ?_ | refine s_insertK 1 S key93 gn rfl rfl rfl rfl (fun g S => ag0) fun g S => ?_ | refine s_insertK 2 S key93 gn rfl rfl rfl rfl (fun g S => ag0) fun g S => ?_ | refine s_insertK 3 S key93 gn rfl rfl rfl rfl (fun g S => ag0) fun g S => ?_ | refine s_insertK 4 S key93 gn rfl rfl rfl rfl (fun g S => ag0) fun g S => ?_
  have S : SH hE (pb :: bs) [cR b19 (.map (stmtM.map (entK fun k => Value.int .i64 k)) 4), cR b1 (.cells (twC K s N L Co ks) 30 0), prR pb sv l ind bs] g := S
  refine o_move gn rfl rfl ?_
  refine o_fieldAddr (off := 0) gn rfl rfl (by kernel_rfl) ?_
  refine o_load gn rfl rfl (by kernel_rfl) (by exact S.cel 1 rfl) rfl ?_
  refine o_lookupK (zv := .agg #[.string .empty]) key93 gn rfl rfl rfl (by exact S.cel 0 rfl) (by kernel_rfl) ?_
  rw [stmtM_at hK3]
  refine o_field gn rfl rfl (by kernel_rfl : fieldX trE 92 (.agg #[.string (stmtWord K)]) 0 = some (.string (stmtWord K))) ?_
  refine o_call [_, _, _, _] gn rfl rfl (by kernel_rfl) rfl (C.mono (c74 (w := ⟨K, s, N, L, Co, ks, kids⟩) (word := stmtWord K) (fr := 0) (S0.sub1 S0.own0 S 2 rfl) X hC hK hS2 (Nat.zero_le _) (by omega)) ?_)
  rintro v g ⟨bs', S2⟩
  have S := S.ret 2 rfl S2
  refine ⟨ag0, ?_⟩
  refine wl_end ?_
  refine w_region (by kernel_rfl) ?_
  refine o_move gn rfl rfl ?_
  refine s_buildSlice (cs := (([⟨#[59]⟩] : List ByteArray).map Value.string).toArray) (e := 9) (z := 0) (zv := .string .empty) [(0, _)] S gn rfl (by kernel_rfl) (by kernel_rfl) (by kernel_rfl) (by kernel_rfl) rfl (by kernel_rfl) fun b20 g nb20 S => ?_
  refine o_call [_] gn rfl rfl (by kernel_rfl) rfl (C.mono (c47 (S0.sub1 S0.own0 S 3 rfl) (S.wrow 0 3 rfl rfl (by decide) [⟨#[59]⟩] rfl) (by first | omega | (simp only [List.length_append]; omega)) (by simp)) ?_)
  rintro v g ⟨bs', S2⟩
  have S := S.ret 3 rfl S2
  refine ⟨ag0, ?_⟩
  refine wl_end ?_
  refine ⟨.inr rfl, _, rfl, ?_⟩
  exact ⟨bs', by simp only [← List.append_assoc] at S ⊢; exact S.pick 3 rfl⟩
end
end Go.Proofs.YtoejddhaiogonaaDoor

namespace Go.Proofs.YtoejddhaiogonaaDoor
open Go.X

def lifeWord (N : Int) : ByteArray := if N = 0 then ⟨#[99, 114, 101, 97, 116, 101]⟩ else if N = 1 then ⟨#[115, 116, 97, 114, 116]⟩ else if N = 2 then ⟨#[115, 116, 111, 112]⟩ else ⟨#[100, 101, 115, 116, 114, 111, 121]⟩
def eventWord (N : Int) : ByteArray := if N = 0 then ⟨#[32, 111, 102, 102]⟩ else ⟨#[32, 111, 110]⟩
theorem life_at {N : Int} (h0 : 0 ≤ N) (h1 : N ≤ 3) : ((([⟨#[99, 114, 101, 97, 116, 101]⟩, ⟨#[115, 116, 97, 114, 116]⟩, ⟨#[115, 116, 111, 112]⟩, ⟨#[100, 101, 115, 116, 114, 111, 121]⟩] : List ByteArray).map Value.string).toArray).toList[0 + N.toNat * 1]? = some (.string (lifeWord N)) := by
  rcases (show N = 0 ∨ N = 1 ∨ N = 2 ∨ N = 3 by omega) with rfl | rfl | rfl | rfl <;> rfl
theorem event_at {N : Int} (h : N = 0 ∨ N = 1) : ((([⟨#[32, 111, 102, 102]⟩, ⟨#[32, 111, 110]⟩] : List ByteArray).map Value.string).toArray).toList[0 + N.toNat * 1]? = some (.string (eventWord N)) := by
  rcases h with rfl | rfl <;> rfl
theorem add_ok {a b : ByteArray} (ha : a.size ≤ 1000) (hb : b.size ≤ 1000000) : a.size + b.size < 9223372036854775808 := by omega
theorem add_ok2 {a b c : ByteArray} (ha : a.size ≤ 1000) (hb : b.size ≤ 1000000) (hc : c.size ≤ 1000) : (a ++ b).size + c.size < 9223372036854775808 := by rw [ByteArray.size_append]; omega
/-- A part of a row, the same from now on. -/
theorem slice_now {h : Hp} {v : Value} {xs : List Value} {j : Nat} (x : RowG h v xs) (hj : j ≤ xs.length) : ∃ v', RowV h v' (xs.drop j) ∧ ∀ g, Ext h g → sliceX trE g 28 v (some (.int .i64 (j : Nat))) none none = some v' := slice_G el28 x hj
section
variable (rec : Nat → ByteArray → List UInt8) (T : List Tw) (w : Tw) (ind : ByteArray)
def declT : List UInt8 :=
  if w.K = 2 then catL [⟨#[108, 111, 111, 112, 101, 114, 32]⟩, w.s, ⟨#[59]⟩] else
  if w.K = 3 then rowT rec T w ind (⟨#[99, 108, 97, 115, 115, 32]⟩ ++ w.s ++ ⟨#[32, 123]⟩) 0 ++ catL [⟨#[32, 125]⟩] else
  if w.K = 4 then rowT rec T w ind w.s 0 ++ catL [⟨#[59]⟩] else
  if w.K = 5 then catL [w.s] else
  if w.K = 6 then rowT rec T w ind (⟨#[118, 97, 114, 32]⟩ ++ w.s) 0 ++ catL [⟨#[59]⟩] else
  if w.K = 7 then rowT rec T w ind (⟨#[102, 110, 32]⟩ ++ w.s) 0 else
  if w.K = 8 then catL [⟨#[99, 111, 109, 112, 32]⟩, w.s, ⟨#[32, 111, 110, 32]⟩] ++ kidT rec T w ind 0 ++ catL [⟨#[32]⟩] ++ bracesT rec ind (w.kids.drop 1) else
  if w.K = 9 then rowT rec T w ind (lifeWord w.N) 0 else
  if w.K = 10 then catL [⟨#[101, 118, 101, 110, 116, 32]⟩, w.s, ⟨#[32, 111, 110, 32]⟩] ++ kidT rec T w ind 0 ++ rowT rec T w ind (eventWord w.N) 1 else
  if w.K = 11 then rowT rec T w ind ⟨#[109, 97, 105, 110]⟩ 0 else
  []
end

section
variable {h0 hE : Hp} {pb : Nat} {sv : Value} {l : List UInt8} {ind : ByteArray} {bs : List Nat} {T : List Tw} {w : Tw} {rec : Nat → ByteArray → List UInt8} {lo : Nat}

set_option maxRecDepth 100000 in
/-- declaration -/
theorem c51 (S0 : SH h0 [] [prR pb sv l ind bs] hE) (X : TreeAt h0 sv T) (hC : TwC h0 sv T rec lo) (hK : KidsOk T w lo) (hS : RowG h0 w.ks (isV w.kids)) (hA1 : w.K = 8 ∨ w.K = 10 → 1 ≤ w.kids.length)
    (hN1 : w.K = 9 → 0 ≤ w.N ∧ w.N ≤ 3) (hN2 : w.K = 10 → w.N = 0 ∨ w.N = 1) (hs : w.s.size ≤ 1000000) (hn : l.length + (declT rec T w ind).length ≤ 1099511627776) :
    C trE 51 [.pointer (some ⟨pb, 0, none⟩), w.val] hE fun _ g' => ∃ bs', SH hE (pb :: bs) [prR pb sv (l ++ declT rec T w ind) ind bs'] g' := by
  obtain ⟨K, s, N, L, Co, ks, kids⟩ := w
  have hR2 : RowV h0 ks (isV kids) := hS.row
  simp only at hA1 hN1 hN2 hs
  have hS2 := hS
  have hcv := RowV.cellV hR2
  have hsame := RowV.same hR2
  have hkl := hK.1
  simp only at hkl
  refine c_enter (fu := Tryd.f51) (by kernel_rfl) rfl ?_
  have S := S0.enter
  refine w_seq ?_
  refine w_region (by kernel_rfl) ?_
  refine s_box S gn rfl rfl fun b1 g nb1 S => ?_
  refine wl_end ?_
  refine w_seq ?_
  refine w_region (by kernel_rfl) ?_
  refine o_fieldAddr (off := 0) gn rfl rfl (by kernel_rfl) ?_
  refine o_load gn rfl rfl (by kernel_rfl) (by exact S.cel 0 rfl) rfl ?_
  refine wl_end ?_
  refine w_block ?_
  refine w_seq ?_
  refine w_region (by kernel_rfl) ?_
  refine o_eqi gn rfl rfl rfl ?_
  refine o_assign gn rfl rfl ?_
  refine wl_end ?_
  refine w_cond rfl (fun hb => ?_) fun hb => ?_
  · skip
    have hK0 : K = 2 := by simpa using hb
    subst hK0
    rw [show declT rec T ⟨2, s, N, L, Co, ks, kids⟩ ind = catL [⟨#[108, 111, 111, 112, 101, 114, 32]⟩, s, ⟨#[59]⟩] from rfl] at hn ⊢
    first | simp only [List.length_append] at hn | skip
    refine w_region (by kernel_rfl) ?_
    refine o_move gn rfl rfl ?_
    refine o_fieldAddr (off := 1) gn rfl rfl (by kernel_rfl) ?_
    refine o_load gn rfl rfl (by kernel_rfl) (by exact S.cel 0 rfl) rfl ?_
    refine s_buildSlice (cs := (([⟨#[108, 111, 111, 112, 101, 114, 32]⟩, s, ⟨#[59]⟩] : List ByteArray).map Value.string).toArray) (e := 9) (z := 0) (zv := .string .empty) [(0, _), (1, _), (2, _)] S gn rfl (by kernel_rfl) (by kernel_rfl) (by kernel_rfl) (by kernel_rfl) rfl (by kernel_rfl) fun b2 g nb2 S => ?_
    refine o_call [_, _] gn rfl rfl (by kernel_rfl) rfl (C.mono (c47 (S0.sub1 S0.own0 S 2 rfl) (S.wrow 0 2 rfl rfl (by decide) [⟨#[108, 111, 111, 112, 101, 114, 32]⟩, s, ⟨#[59]⟩] rfl) (by first | omega | (simp only [List.length_append]; omega)) (by simp)) ?_)
    rintro v g ⟨bs', S2⟩
    have S := S.ret 2 rfl S2
    refine ⟨ag0, ?_⟩
    refine wl_end ?_
    refine ⟨.inr rfl, _, rfl, ?_⟩
    exact ⟨bs', by first | exact S.pick 2 rfl | (simp only [← List.append_assoc] at S ⊢; exact S.pick 2 rfl)⟩
  refine w_seq ?_
  refine w_region (by kernel_rfl) ?_
  refine o_eqi gn rfl rfl rfl ?_
  refine o_assign gn rfl rfl ?_
  refine wl_end ?_
  refine w_cond rfl (fun hb => ?_) fun hb => ?_
  · skip
    refine w_seq ?_
    have hK0 : K = 3 := by simpa using hb
    subst hK0
    rw [show declT rec T ⟨3, s, N, L, Co, ks, kids⟩ ind = rowT rec T ⟨3, s, N, L, Co, ks, kids⟩ ind (⟨#[99, 108, 97, 115, 115, 32]⟩ ++ s ++ ⟨#[32, 123]⟩) 0 ++ catL [⟨#[32, 125]⟩] from rfl] at hn ⊢
    first | simp only [List.length_append] at hn | skip
    refine w_region (by kernel_rfl) ?_
    refine o_move gn rfl rfl ?_
    refine o_loadA (n := 6) gn rfl rfl (by kernel_rfl) (by kernel_rfl) (by exact S.cel 0 rfl) (Nat.le_refl _) ?_
    refine o_fieldAddr (off := 1) gn rfl rfl (by kernel_rfl) ?_
    refine o_load gn rfl rfl (by kernel_rfl) (by exact S.cel 0 rfl) rfl ?_
    refine o_addS gn rfl rfl rfl (add_ok (by decide) hs) ?_
    refine o_addS gn rfl rfl rfl (add_ok2 (by decide) hs (by decide)) ?_
    refine o_call [.pointer (some ⟨pb, 0, none⟩), (⟨3, s, N, L, Co, ks, kids⟩ : Tw).val, .string ((⟨#[99, 108, 97, 115, 115, 32]⟩ : ByteArray) ++ s ++ (⟨#[32, 123]⟩ : ByteArray)), iV ((0 : Nat) : Int)] gn rfl rfl (by kernel_rfl) (by kernel_rfl) (C.mono (c74 (w := ⟨3, s, N, L, Co, ks, kids⟩) (word := (⟨#[99, 108, 97, 115, 115, 32]⟩ : ByteArray) ++ s ++ (⟨#[32, 123]⟩ : ByteArray)) (fr := 0) (S0.sub1 S0.own0 S 1 rfl) X hC hK hS2 (Nat.zero_le _) (by first | omega | (simp only [List.length_append]; omega))) ?_)
    rintro v g ⟨bs', S2⟩
    have S := S.ret 1 rfl S2
    refine ⟨ag0, ?_⟩
    refine wl_end ?_
    refine w_region (by kernel_rfl) ?_
    refine o_move gn rfl rfl ?_
    refine s_buildSlice (cs := (([⟨#[32, 125]⟩] : List ByteArray).map Value.string).toArray) (e := 9) (z := 0) (zv := .string .empty) [(0, _)] S gn rfl (by kernel_rfl) (by kernel_rfl) (by kernel_rfl) (by kernel_rfl) rfl (by kernel_rfl) fun b3 g nb3 S => ?_
    refine o_call [_, _] gn rfl rfl (by kernel_rfl) rfl (C.mono (c47 (S0.sub1 S0.own0 S 2 rfl) (S.wrow 0 2 rfl rfl (by decide) [⟨#[32, 125]⟩] rfl) (by first | omega | (simp only [List.length_append]; omega)) (by simp)) ?_)
    rintro v g ⟨bs', S2⟩
    have S := S.ret 2 rfl S2
    refine ⟨ag0, ?_⟩
    refine wl_end ?_
    refine ⟨.inr rfl, _, rfl, ?_⟩
    exact ⟨bs', by first | exact S.pick 2 rfl | (simp only [← List.append_assoc] at S ⊢; exact S.pick 2 rfl)⟩
  refine w_seq ?_
  refine w_region (by kernel_rfl) ?_
  refine o_eqi gn rfl rfl rfl ?_
  refine o_assign gn rfl rfl ?_
  refine wl_end ?_
  refine w_cond rfl (fun hb => ?_) fun hb => ?_
  · skip
    refine w_seq ?_
    have hK0 : K = 4 := by simpa using hb
    subst hK0
    rw [show declT rec T ⟨4, s, N, L, Co, ks, kids⟩ ind = rowT rec T ⟨4, s, N, L, Co, ks, kids⟩ ind s 0 ++ catL [⟨#[59]⟩] from rfl] at hn ⊢
    first | simp only [List.length_append] at hn | skip
    refine w_region (by kernel_rfl) ?_
    refine o_move gn rfl rfl ?_
    refine o_loadA (n := 6) gn rfl rfl (by kernel_rfl) (by kernel_rfl) (by exact S.cel 0 rfl) (Nat.le_refl _) ?_
    refine o_fieldAddr (off := 1) gn rfl rfl (by kernel_rfl) ?_
    refine o_load gn rfl rfl (by kernel_rfl) (by exact S.cel 0 rfl) rfl ?_
    refine o_call [_, _, _, _] gn rfl rfl (by kernel_rfl) rfl (C.mono (c74 (w := ⟨4, s, N, L, Co, ks, kids⟩) (word := s) (fr := 0) (S0.sub1 S0.own0 S 1 rfl) X hC hK hS2 (Nat.zero_le _) (by first | omega | (simp only [List.length_append]; omega))) ?_)
    rintro v g ⟨bs', S2⟩
    have S := S.ret 1 rfl S2
    refine ⟨ag0, ?_⟩
    refine wl_end ?_
    refine w_region (by kernel_rfl) ?_
    refine o_move gn rfl rfl ?_
    refine s_buildSlice (cs := (([⟨#[59]⟩] : List ByteArray).map Value.string).toArray) (e := 9) (z := 0) (zv := .string .empty) [(0, _)] S gn rfl (by kernel_rfl) (by kernel_rfl) (by kernel_rfl) (by kernel_rfl) rfl (by kernel_rfl) fun b4 g nb4 S => ?_
    refine o_call [_, _] gn rfl rfl (by kernel_rfl) rfl (C.mono (c47 (S0.sub1 S0.own0 S 2 rfl) (S.wrow 0 2 rfl rfl (by decide) [⟨#[59]⟩] rfl) (by first | omega | (simp only [List.length_append]; omega)) (by simp)) ?_)
    rintro v g ⟨bs', S2⟩
    have S := S.ret 2 rfl S2
    refine ⟨ag0, ?_⟩
    refine wl_end ?_
    refine ⟨.inr rfl, _, rfl, ?_⟩
    exact ⟨bs', by first | exact S.pick 2 rfl | (simp only [← List.append_assoc] at S ⊢; exact S.pick 2 rfl)⟩
  refine w_seq ?_
  refine w_region (by kernel_rfl) ?_
  refine o_eqi gn rfl rfl rfl ?_
  refine o_assign gn rfl rfl ?_
  refine wl_end ?_
  refine w_cond rfl (fun hb => ?_) fun hb => ?_
  · skip
    have hK0 : K = 5 := by simpa using hb
    subst hK0
    rw [show declT rec T ⟨5, s, N, L, Co, ks, kids⟩ ind = catL [s] from rfl] at hn ⊢
    first | simp only [List.length_append] at hn | skip
    refine w_region (by kernel_rfl) ?_
    refine o_move gn rfl rfl ?_
    refine o_fieldAddr (off := 1) gn rfl rfl (by kernel_rfl) ?_
    refine o_load gn rfl rfl (by kernel_rfl) (by exact S.cel 0 rfl) rfl ?_
    refine s_buildSlice (cs := (([s] : List ByteArray).map Value.string).toArray) (e := 9) (z := 0) (zv := .string .empty) [(0, _)] S gn rfl (by kernel_rfl) (by kernel_rfl) (by kernel_rfl) (by kernel_rfl) rfl (by kernel_rfl) fun b5 g nb5 S => ?_
    refine o_call [_, _] gn rfl rfl (by kernel_rfl) rfl (C.mono (c47 (S0.sub1 S0.own0 S 2 rfl) (S.wrow 0 2 rfl rfl (by decide) [s] rfl) (by first | omega | (simp only [List.length_append]; omega)) (by simp)) ?_)
    rintro v g ⟨bs', S2⟩
    have S := S.ret 2 rfl S2
    refine ⟨ag0, ?_⟩
    refine wl_end ?_
    refine ⟨.inr rfl, _, rfl, ?_⟩
    exact ⟨bs', by first | exact S.pick 2 rfl | (simp only [← List.append_assoc] at S ⊢; exact S.pick 2 rfl)⟩
  refine w_seq ?_
  refine w_region (by kernel_rfl) ?_
  refine o_eqi gn rfl rfl rfl ?_
  refine o_assign gn rfl rfl ?_
  refine wl_end ?_
  refine w_cond rfl (fun hb => ?_) fun hb => ?_
  · skip
    refine w_seq ?_
    have hK0 : K = 6 := by simpa using hb
    subst hK0
    rw [show declT rec T ⟨6, s, N, L, Co, ks, kids⟩ ind = rowT rec T ⟨6, s, N, L, Co, ks, kids⟩ ind (⟨#[118, 97, 114, 32]⟩ ++ s) 0 ++ catL [⟨#[59]⟩] from rfl] at hn ⊢
    first | simp only [List.length_append] at hn | skip
    refine w_region (by kernel_rfl) ?_
    refine o_move gn rfl rfl ?_
    refine o_loadA (n := 6) gn rfl rfl (by kernel_rfl) (by kernel_rfl) (by exact S.cel 0 rfl) (Nat.le_refl _) ?_
    refine o_fieldAddr (off := 1) gn rfl rfl (by kernel_rfl) ?_
    refine o_load gn rfl rfl (by kernel_rfl) (by exact S.cel 0 rfl) rfl ?_
    refine o_addS gn rfl rfl rfl (add_ok (by decide) hs) ?_
    refine o_call [.pointer (some ⟨pb, 0, none⟩), (⟨6, s, N, L, Co, ks, kids⟩ : Tw).val, .string ((⟨#[118, 97, 114, 32]⟩ : ByteArray) ++ s), iV ((0 : Nat) : Int)] gn rfl rfl (by kernel_rfl) (by kernel_rfl) (C.mono (c74 (w := ⟨6, s, N, L, Co, ks, kids⟩) (word := (⟨#[118, 97, 114, 32]⟩ : ByteArray) ++ s) (fr := 0) (S0.sub1 S0.own0 S 1 rfl) X hC hK hS2 (Nat.zero_le _) (by first | omega | (simp only [List.length_append]; omega))) ?_)
    rintro v g ⟨bs', S2⟩
    have S := S.ret 1 rfl S2
    refine ⟨ag0, ?_⟩
    refine wl_end ?_
    refine w_region (by kernel_rfl) ?_
    refine o_move gn rfl rfl ?_
    refine s_buildSlice (cs := (([⟨#[59]⟩] : List ByteArray).map Value.string).toArray) (e := 9) (z := 0) (zv := .string .empty) [(0, _)] S gn rfl (by kernel_rfl) (by kernel_rfl) (by kernel_rfl) (by kernel_rfl) rfl (by kernel_rfl) fun b6 g nb6 S => ?_
    refine o_call [_, _] gn rfl rfl (by kernel_rfl) rfl (C.mono (c47 (S0.sub1 S0.own0 S 2 rfl) (S.wrow 0 2 rfl rfl (by decide) [⟨#[59]⟩] rfl) (by first | omega | (simp only [List.length_append]; omega)) (by simp)) ?_)
    rintro v g ⟨bs', S2⟩
    have S := S.ret 2 rfl S2
    refine ⟨ag0, ?_⟩
    refine wl_end ?_
    refine ⟨.inr rfl, _, rfl, ?_⟩
    exact ⟨bs', by first | exact S.pick 2 rfl | (simp only [← List.append_assoc] at S ⊢; exact S.pick 2 rfl)⟩
  refine w_seq ?_
  refine w_region (by kernel_rfl) ?_
  refine o_eqi gn rfl rfl rfl ?_
  refine o_assign gn rfl rfl ?_
  refine wl_end ?_
  refine w_cond rfl (fun hb => ?_) fun hb => ?_
  · skip
    have hK0 : K = 7 := by simpa using hb
    subst hK0
    rw [show declT rec T ⟨7, s, N, L, Co, ks, kids⟩ ind = rowT rec T ⟨7, s, N, L, Co, ks, kids⟩ ind (⟨#[102, 110, 32]⟩ ++ s) 0 from rfl] at hn ⊢
    first | simp only [List.length_append] at hn | skip
    refine w_region (by kernel_rfl) ?_
    refine o_move gn rfl rfl ?_
    refine o_loadA (n := 6) gn rfl rfl (by kernel_rfl) (by kernel_rfl) (by exact S.cel 0 rfl) (Nat.le_refl _) ?_
    refine o_fieldAddr (off := 1) gn rfl rfl (by kernel_rfl) ?_
    refine o_load gn rfl rfl (by kernel_rfl) (by exact S.cel 0 rfl) rfl ?_
    refine o_addS gn rfl rfl rfl (add_ok (by decide) hs) ?_
    refine o_call [.pointer (some ⟨pb, 0, none⟩), (⟨7, s, N, L, Co, ks, kids⟩ : Tw).val, .string ((⟨#[102, 110, 32]⟩ : ByteArray) ++ s), iV ((0 : Nat) : Int)] gn rfl rfl (by kernel_rfl) (by kernel_rfl) (C.mono (c74 (w := ⟨7, s, N, L, Co, ks, kids⟩) (word := (⟨#[102, 110, 32]⟩ : ByteArray) ++ s) (fr := 0) (S0.sub1 S0.own0 S 1 rfl) X hC hK hS2 (Nat.zero_le _) (by first | omega | (simp only [List.length_append]; omega))) ?_)
    rintro v g ⟨bs', S2⟩
    have S := S.ret 1 rfl S2
    refine ⟨ag0, ?_⟩
    refine wl_end ?_
    refine ⟨.inr rfl, _, rfl, ?_⟩
    exact ⟨bs', by first | exact S.pick 1 rfl | (simp only [← List.append_assoc] at S ⊢; exact S.pick 1 rfl)⟩
  refine w_seq ?_
  refine w_region (by kernel_rfl) ?_
  refine o_eqi gn rfl rfl rfl ?_
  refine o_assign gn rfl rfl ?_
  refine wl_end ?_
  refine w_cond rfl (fun hb => ?_) fun hb => ?_
  · skip
    refine w_seq ?_
    have hK0 : K = 8 := by simpa using hb
    subst hK0
    rw [show declT rec T ⟨8, s, N, L, Co, ks, kids⟩ ind = catL [⟨#[99, 111, 109, 112, 32]⟩, s, ⟨#[32, 111, 110, 32]⟩] ++ kidT rec T ⟨8, s, N, L, Co, ks, kids⟩ ind 0 ++ catL [⟨#[32]⟩] ++ bracesT rec ind (kids.drop 1) from rfl] at hn ⊢
    first | simp only [List.length_append] at hn | skip
    have hk1 := hA1 (.inl rfl)
    refine w_region (by kernel_rfl) ?_
    refine o_move gn rfl rfl ?_
    refine o_fieldAddr (off := 1) gn rfl rfl (by kernel_rfl) ?_
    refine o_load gn rfl rfl (by kernel_rfl) (by exact S.cel 0 rfl) rfl ?_
    refine s_buildSlice (cs := (([⟨#[99, 111, 109, 112, 32]⟩, s, ⟨#[32, 111, 110, 32]⟩] : List ByteArray).map Value.string).toArray) (e := 9) (z := 0) (zv := .string .empty) [(0, _), (1, _), (2, _)] S gn rfl (by kernel_rfl) (by kernel_rfl) (by kernel_rfl) (by kernel_rfl) rfl (by kernel_rfl) fun b7 g nb7 S => ?_
    refine o_call [_, _] gn rfl rfl (by kernel_rfl) rfl (C.mono (c47 (S0.sub1 S0.own0 S 2 rfl) (S.wrow 0 2 rfl rfl (by decide) [⟨#[99, 111, 109, 112, 32]⟩, s, ⟨#[32, 111, 110, 32]⟩] rfl) (by first | omega | (simp only [List.length_append]; omega)) (by simp)) ?_)
    rintro v g ⟨bs', S2⟩
    have S := S.ret 2 rfl S2
    refine ⟨ag0, ?_⟩
    refine wl_end ?_
    refine w_seq ?_
    refine w_region (by kernel_rfl) ?_
    refine o_move gn rfl rfl ?_
    refine o_loadA (n := 6) gn rfl rfl (by kernel_rfl) (by kernel_rfl) (by exact S.cel 1 rfl) (Nat.le_refl _) ?_
    refine o_call [_, _, _] gn rfl rfl (by kernel_rfl) rfl (C.mono (c70k (w := ⟨8, s, N, L, Co, ks, kids⟩) (i := 0) (S0.sub1 S0.own0 S 2 rfl) X hC hK hR2 (show 0 < kids.length by omega) (by first | omega | (simp only [List.length_append]; omega))) ?_)
    rintro v g ⟨bs', S2⟩
    have S := S.ret 2 rfl S2
    refine ⟨ag0, ?_⟩
    refine wl_end ?_
    refine w_seq ?_
    refine w_region (by kernel_rfl) ?_
    refine o_move gn rfl rfl ?_
    refine s_buildSlice (cs := (([⟨#[32]⟩] : List ByteArray).map Value.string).toArray) (e := 9) (z := 0) (zv := .string .empty) [(0, _)] S gn rfl (by kernel_rfl) (by kernel_rfl) (by kernel_rfl) (by kernel_rfl) rfl (by kernel_rfl) fun b8 g nb8 S => ?_
    refine o_call [_, _] gn rfl rfl (by kernel_rfl) rfl (C.mono (c47 (S0.sub1 S0.own0 S 3 rfl) (S.wrow 0 3 rfl rfl (by decide) [⟨#[32]⟩] rfl) (by first | omega | (simp only [List.length_append]; omega)) (by simp)) ?_)
    rintro v g ⟨bs', S2⟩
    have S := S.ret 3 rfl S2
    refine ⟨ag0, ?_⟩
    refine wl_end ?_
    refine w_region (by kernel_rfl) ?_
    refine o_move gn rfl rfl ?_
    refine o_fieldAddr (off := 5) gn rfl rfl (by kernel_rfl) ?_
    refine o_load gn rfl rfl (by kernel_rfl) (by exact S.cel 2 rfl) rfl ?_
    have hSx := hS2
    obtain ⟨sl, hslr, hsl⟩ := slice_now hSx (show 1 ≤ (isV kids).length by rw [List.length_map]; exact hk1)
    have hslr2 : RowV h0 sl (isV (kids.drop 1)) := by rw [← List.map_drop] at hslr; exact hslr
    refine o_sliceF gn rfl rfl rfl (hsl _ (S0.all0 S0.own0 S)) ?_
    refine o_call [_, _] gn rfl rfl (by kernel_rfl) rfl (C.mono (c48 (S0.sub1 S0.own0 S 3 rfl) X hC hslr2 (by rw [List.length_drop]; omega) (fun i hi => by
      rw [List.length_drop] at hi
      obtain ⟨q, w', h1, h2, h3⟩ := hK.2 (1 + i) (show 1 + i < kids.length by omega)
      exact ⟨q, w', by rw [List.getElem?_drop]; exact h1, h2, h3⟩) (by first | omega | (simp only [List.length_append]; omega))) ?_)  -- (*detent/tree.printer).braces
    rintro v g ⟨bs', S2⟩
    have S := S.ret 3 rfl S2
    refine ⟨ag0, ?_⟩
    refine wl_end ?_
    refine ⟨.inr rfl, _, rfl, ?_⟩
    exact ⟨bs', by first | exact S.pick 3 rfl | (simp only [← List.append_assoc] at S ⊢; exact S.pick 3 rfl)⟩
  refine w_seq ?_
  refine w_region (by kernel_rfl) ?_
  refine o_eqi gn rfl rfl rfl ?_
  refine o_assign gn rfl rfl ?_
  refine wl_end ?_
  refine w_cond rfl (fun hb => ?_) fun hb => ?_
  · skip
    have hK0 : K = 9 := by simpa using hb
    subst hK0
    rw [show declT rec T ⟨9, s, N, L, Co, ks, kids⟩ ind = rowT rec T ⟨9, s, N, L, Co, ks, kids⟩ ind (lifeWord N) 0 from rfl] at hn ⊢
    obtain ⟨hN3, hN4⟩ := hN1 rfl
    refine w_draw [(0, []), (1, []), (2, []), (3, []), (4, []), (5, []), (6, []), (7, [])] (by kernel_rfl) (by kernel_rfl) (by kernel_rfl) (by kernel_rfl) ?_
    refine o_move gn rfl rfl ?_
    refine o_loadA (n := 6) gn rfl rfl (by kernel_rfl) (by kernel_rfl) (by exact S.cel 0 rfl) (Nat.le_refl _) ?_
    refine s_buildSlice (cs := (([⟨#[99, 114, 101, 97, 116, 101]⟩, ⟨#[115, 116, 97, 114, 116]⟩, ⟨#[115, 116, 111, 112]⟩, ⟨#[100, 101, 115, 116, 114, 111, 121]⟩] : List ByteArray).map Value.string).toArray) (e := 9) (z := 0) (zv := .string .empty) [(0, _), (1, _), (2, _), (3, _)] S gn rfl (by kernel_rfl) (by kernel_rfl) (by kernel_rfl) (by kernel_rfl) rfl (by kernel_rfl) fun b9 g nb9 S => ?_
    refine o_fieldAddr (off := 2) gn rfl rfl (by kernel_rfl) ?_
    refine o_load gn rfl rfl (by kernel_rfl) (by exact S.cel 1 rfl) rfl ?_
    refine o_indexAddr (zz := 1) gn rfl rfl rfl (by kernel_rfl) (show (0 : Int) ≤ N from hN3) (show N < ((4 : Nat) : Int) by omega) ?_
    refine o_load gn rfl rfl (by kernel_rfl) (S.cel 0 rfl) (life_at hN3 hN4) ?_
    refine o_call [_, _, _, _] gn rfl rfl (by kernel_rfl) rfl (C.mono (c74 (w := ⟨9, s, N, L, Co, ks, kids⟩) (word := lifeWord N) (fr := 0) (S0.sub1 S0.own0 S 2 rfl) X hC hK hS2 (Nat.zero_le _) (by first | omega | (simp only [List.length_append]; omega))) ?_)
    rintro v g ⟨bs', S2⟩
    have S := S.ret 2 rfl S2
    refine ⟨ag0, ?_⟩
    refine wl_end ?_
    refine ⟨.inr rfl, _, rfl, ?_⟩
    exact ⟨bs', by first | exact S.pick 2 rfl | (simp only [← List.append_assoc] at S ⊢; exact S.pick 2 rfl)⟩
  refine w_seq ?_
  refine w_region (by kernel_rfl) ?_
  refine o_eqi gn rfl rfl rfl ?_
  refine o_assign gn rfl rfl ?_
  refine wl_end ?_
  refine w_cond rfl (fun hb => ?_) fun hb => ?_
  · skip
    refine w_seq ?_
    have hK0 : K = 10 := by simpa using hb
    subst hK0
    rw [show declT rec T ⟨10, s, N, L, Co, ks, kids⟩ ind = catL [⟨#[101, 118, 101, 110, 116, 32]⟩, s, ⟨#[32, 111, 110, 32]⟩] ++ kidT rec T ⟨10, s, N, L, Co, ks, kids⟩ ind 0 ++ rowT rec T ⟨10, s, N, L, Co, ks, kids⟩ ind (eventWord N) 1 from rfl] at hn ⊢
    first | simp only [List.length_append] at hn | skip
    have hk1 := hA1 (.inr rfl)
    have hN3 := hN2 rfl
    refine w_region (by kernel_rfl) ?_
    refine o_move gn rfl rfl ?_
    refine o_fieldAddr (off := 1) gn rfl rfl (by kernel_rfl) ?_
    refine o_load gn rfl rfl (by kernel_rfl) (by exact S.cel 0 rfl) rfl ?_
    refine s_buildSlice (cs := (([⟨#[101, 118, 101, 110, 116, 32]⟩, s, ⟨#[32, 111, 110, 32]⟩] : List ByteArray).map Value.string).toArray) (e := 9) (z := 0) (zv := .string .empty) [(0, _), (1, _), (2, _)] S gn rfl (by kernel_rfl) (by kernel_rfl) (by kernel_rfl) (by kernel_rfl) rfl (by kernel_rfl) fun b10 g nb10 S => ?_
    refine o_call [_, _] gn rfl rfl (by kernel_rfl) rfl (C.mono (c47 (S0.sub1 S0.own0 S 2 rfl) (S.wrow 0 2 rfl rfl (by decide) [⟨#[101, 118, 101, 110, 116, 32]⟩, s, ⟨#[32, 111, 110, 32]⟩] rfl) (by first | omega | (simp only [List.length_append]; omega)) (by simp)) ?_)
    rintro v g ⟨bs', S2⟩
    have S := S.ret 2 rfl S2
    refine ⟨ag0, ?_⟩
    refine wl_end ?_
    refine w_seq ?_
    refine w_region (by kernel_rfl) ?_
    refine o_move gn rfl rfl ?_
    refine o_loadA (n := 6) gn rfl rfl (by kernel_rfl) (by kernel_rfl) (by exact S.cel 1 rfl) (Nat.le_refl _) ?_
    refine o_call [_, _, _] gn rfl rfl (by kernel_rfl) rfl (C.mono (c70k (w := ⟨10, s, N, L, Co, ks, kids⟩) (i := 0) (S0.sub1 S0.own0 S 2 rfl) X hC hK hR2 (show 0 < kids.length by omega) (by first | omega | (simp only [List.length_append]; omega))) ?_)
    rintro v g ⟨bs', S2⟩
    have S := S.ret 2 rfl S2
    refine ⟨ag0, ?_⟩
    refine wl_end ?_
    refine w_draw [(0, []), (1, []), (2, []), (3, []), (4, []), (5, []), (6, []), (7, [])] (by kernel_rfl) (by kernel_rfl) (by kernel_rfl) (by kernel_rfl) ?_
    refine o_move gn rfl rfl ?_
    refine o_loadA (n := 6) gn rfl rfl (by kernel_rfl) (by kernel_rfl) (by exact S.cel 1 rfl) (Nat.le_refl _) ?_
    refine s_buildSlice (cs := (([⟨#[32, 111, 102, 102]⟩, ⟨#[32, 111, 110]⟩] : List ByteArray).map Value.string).toArray) (e := 9) (z := 0) (zv := .string .empty) [(0, _), (1, _)] S gn rfl (by kernel_rfl) (by kernel_rfl) (by kernel_rfl) (by kernel_rfl) rfl (by kernel_rfl) fun b11 g nb11 S => ?_
    refine o_fieldAddr (off := 2) gn rfl rfl (by kernel_rfl) ?_
    refine o_load gn rfl rfl (by kernel_rfl) (by exact S.cel 2 rfl) rfl ?_
    refine o_indexAddr (zz := 1) gn rfl rfl rfl (by kernel_rfl) (show (0 : Int) ≤ N by omega) (show N < ((2 : Nat) : Int) by omega) ?_
    refine o_load gn rfl rfl (by kernel_rfl) (S.cel 0 rfl) (event_at hN3) ?_
    refine o_call [_, _, _, _] gn rfl rfl (by kernel_rfl) rfl (C.mono (c74 (w := ⟨10, s, N, L, Co, ks, kids⟩) (word := eventWord N) (fr := 1) (S0.sub1 S0.own0 S 3 rfl) X hC hK hS2 (show 1 ≤ kids.length from hk1) (by first | omega | (simp only [List.length_append]; omega))) ?_)
    rintro v g ⟨bs', S2⟩
    have S := S.ret 3 rfl S2
    refine ⟨ag0, ?_⟩
    refine wl_end ?_
    refine ⟨.inr rfl, _, rfl, ?_⟩
    exact ⟨bs', by first | exact S.pick 3 rfl | (simp only [← List.append_assoc] at S ⊢; exact S.pick 3 rfl)⟩
  refine w_seq ?_
  refine w_region (by kernel_rfl) ?_
  refine o_eqi gn rfl rfl rfl ?_
  refine o_assign gn rfl rfl ?_
  refine wl_end ?_
  refine w_cond rfl (fun hb => ?_) fun hb => ?_
  · skip
    have hK0 : K = 11 := by simpa using hb
    subst hK0
    rw [show declT rec T ⟨11, s, N, L, Co, ks, kids⟩ ind = rowT rec T ⟨11, s, N, L, Co, ks, kids⟩ ind ⟨#[109, 97, 105, 110]⟩ 0 from rfl] at hn ⊢
    first | simp only [List.length_append] at hn | skip
    refine w_region (by kernel_rfl) ?_
    refine o_move gn rfl rfl ?_
    refine o_loadA (n := 6) gn rfl rfl (by kernel_rfl) (by kernel_rfl) (by exact S.cel 0 rfl) (Nat.le_refl _) ?_
    refine o_call [_, _, _, _] gn rfl rfl (by kernel_rfl) rfl (C.mono (c74 (w := ⟨11, s, N, L, Co, ks, kids⟩) (word := ⟨#[109, 97, 105, 110]⟩) (fr := 0) (S0.sub1 S0.own0 S 1 rfl) X hC hK hS2 (Nat.zero_le _) (by first | omega | (simp only [List.length_append]; omega))) ?_)
    rintro v g ⟨bs', S2⟩
    have S := S.ret 1 rfl S2
    refine ⟨ag0, ?_⟩
    refine wl_end ?_
    refine ⟨.inr rfl, _, rfl, ?_⟩
    exact ⟨bs', by first | exact S.pick 1 rfl | (simp only [← List.append_assoc] at S ⊢; exact S.pick 1 rfl)⟩
  refine w_skip ?_
  refine ⟨.inr rfl, _, rfl, ?_⟩
  exact ⟨bs, by rw [show declT rec T ⟨K, s, N, L, Co, ks, kids⟩ ind = [] from by unfold declT; simp_all, List.append_nil]; exact S.pick 1 rfl⟩
end
end Go.Proofs.YtoejddhaiogonaaDoor

namespace Go.Proofs.YtoejddhaiogonaaDoor
open Go.X

def twT (rec : Nat → ByteArray → List UInt8) (T : List Tw) (w : Tw) (ind : ByteArray) : List UInt8 :=
  if w.K = 1 then w.kids.flatMap (fun k => rec k.toNat ind ++ catL [⟨#[10]⟩]) else if w.K = 12 then bracesT rec ind w.kids else if stmtK w.K = true then stmtT rec T w ind else if termK w.K = true then termT rec T w ind else declT rec T w ind
/-- What a twig of a tree that may be has. -/
structure WOk (w : Tw) : Prop where
  a30 : w.K = 30 → 1 ≤ w.kids.length
  a31 : w.K = 31 ∨ w.K = 32 → 2 ≤ w.kids.length
  n26 : w.K = 26 → 0 ≤ w.N ∧ w.N ≤ 2147483647
  a19 : w.K = 19 ∨ w.K = 20 → 1 ≤ w.kids.length
  a13 : w.K = 13 ∨ w.K = 14 ∨ w.K = 23 ∨ w.K = 24 → 2 ≤ w.kids.length
  n19 : w.K = 19 → -1 ≤ w.N ∧ w.N ≤ 2147483647
  a8 : w.K = 8 ∨ w.K = 10 → 1 ≤ w.kids.length
  n9 : w.K = 9 → 0 ≤ w.N ∧ w.N ≤ 3
  n10 : w.K = 10 → w.N = 0 ∨ w.N = 1
  sz : w.s.size ≤ 1000000

section
variable {h0 hE : Hp} {pb : Nat} {sv : Value} {l : List UInt8} {ind : ByteArray} {bs : List Nat} {T : List Tw} {w : Tw} {rec : Nat → ByteArray → List UInt8} {lo : Nat}

/-- twig -/
theorem c27s (S0 : SH h0 [] [prR pb sv l ind bs] hE) (X : TreeAt h0 sv T) (hC : TwC h0 sv T rec lo) (hK : KidsOk T w lo) (hS : RowG h0 w.ks (isV w.kids)) (hP : Pow h0) (ok : WOk w) (hn : l.length + (twT rec T w ind).length ≤ 1099511627776) :
    C trE 27 [.pointer (some ⟨pb, 0, none⟩), w.val] hE fun _ g' => ∃ bs', SH hE (pb :: bs) [prR pb sv (l ++ twT rec T w ind) ind bs'] g' := by
  obtain ⟨K, s, N, L, Co, ks, kids⟩ := w
  have hR2 : RowV h0 ks (isV kids) := hS.row
  have hS2 := hS
  have hX := X
  have hcv := RowV.cellV hR2
  have hsame := RowV.same hR2
  have hkl := hK.1
  simp only at hkl
  have hR3 := hR2
  obtain ⟨ka, kc, rfl⟩ := hR2.valM
  obtain ⟨ta, tc, rfl⟩ := X.val
  obtain ⟨F, hF⟩ : ∃ F : Int → List UInt8, F = fun k => rec k.toNat ind ++ catL [⟨#[10]⟩] := ⟨_, rfl⟩
  refine c_enter (fu := Tryd.f27) (by kernel_rfl) rfl ?_
  have S := S0.enter
  refine w_seq ?_
  refine w_region (by kernel_rfl) ?_
  refine s_box S gn rfl rfl fun b1 g nb1 S => ?_
  refine wl_end ?_
  refine w_block ?_
  refine w_seq ?_
  refine w_region (by kernel_rfl) ?_
  refine o_fieldAddr (off := 0) gn rfl rfl (by kernel_rfl) ?_
  refine o_load gn rfl rfl (by kernel_rfl) (by exact S.cel 0 rfl) rfl ?_
  refine o_eqi gn rfl rfl rfl ?_
  refine o_assign gn rfl rfl ?_
  refine wl_end ?_
  refine w_cond rfl (fun hb => ?_) fun hb => ?_
  · skip
    refine w_seq ?_
    have hK0 : K = 1 := by simpa using hb
    subst hK0
    rw [show twT rec T ⟨1, s, N, L, Co, .slice ka kids.length kc, kids⟩ ind = kids.flatMap (fun k => rec k.toNat ind ++ catL [⟨#[10]⟩]) from rfl, ← hF] at hn ⊢
    refine w_region (by kernel_rfl) ?_
    refine o_fieldAddr (off := 5) gn rfl rfl (by kernel_rfl) ?_
    refine o_load gn rfl rfl (by kernel_rfl) (by exact S.cel 0 rfl) rfl ?_
    refine o_len gn rfl rfl (by kernel_rfl) ?_
    refine o_move gn rfl rfl ?_
    refine wl_end ?_
    refine w_block ?_
    refine w_loopS [(16, _)] [(0, _), (14, _), (15, _)] (by repeat (first | exact trivial | refine ⟨rfl, ?_⟩)) (fun kk lv hh => ∃ (j : Nat) (bs1 : List Nat), lv = [(16, iV j)] ∧ kk = kids.length - j ∧ j ≤ kids.length ∧ SH hE (pb :: bs) [prR pb (.slice ta T.length tc) (l ++ (kids.take j).flatMap F) ind bs1] hh) (n := (kids.length)) ?_ fun kk lv hh hI => ?_
    · exact ⟨0, bs, rfl, rfl, by omega, by simp only [List.take_zero, List.flatMap_nil, List.append_nil]; exact S.pick 1 rfl⟩
    obtain ⟨j, bs1, rfl, hk, hj, S⟩ := hI
    refine w_seq ?_
    refine w_region (by kernel_rfl) ?_
    refine o_lss gn rfl rfl rfl ?_
    refine wl_end ?_
    refine w_seq ?_
    refine w_cond rfl (fun hb => ?_) fun hb => ?_
    · skip
      refine w_skip ?_
      have hj : j < kids.length := by simp at hb; omega
      obtain ⟨kb, ko, kc', kcs, ke, km, hv2, hg2, hlt2, hat2⟩ := hR3.atM (by omega)
      have hka : ka = some ⟨kb, ko, none⟩ := by injection hv2
      obtain ⟨q, w', hq1, hq2, hq3⟩ := hK.2 j hj
      have hkj : kids[j] = (q : Int) := (List.getElem?_eq_some_iff.1 hq1).2
      have hat3 : kcs[ko + j]? = some (iV q) := by rw [hat2 j hj, hkj]
      obtain ⟨hqlt, hqw⟩ := List.getElem?_eq_some_iff.1 hq2
      obtain ⟨b, o, c, cs, e, m, hv, hg, hlb, hl6, hat⟩ := hX.at (by omega)
      have hta : ta = some ⟨b, o, none⟩ := by injection hv
      have hw4 : (cs.drop (o + Int.toNat (q : Int) * 6)).take 6 = w'.cells := by rw [Int.toNat_natCast, hat q hqlt, hqw]
      have hfl := flatL_le F kids (j + 1)
      rw [flatL_take hj] at hfl
      have hFj : F kids[j] = rec q ind ++ catL [⟨#[10]⟩] := by rw [hF, hkj]; rfl
      rw [hFj] at hfl
      simp only [List.length_append] at hfl
      refine w_seq ?_
      refine w_block ?_
      refine w_seq ?_
      refine w_region (by kernel_rfl) ?_
      rw [hka]
      refine o_indexAddr (zz := 1) gn rfl rfl rfl (by kernel_rfl) (by omega) (by omega) ?_
      rw [← hka]
      refine o_load gn rfl rfl (by kernel_rfl) (S0.two S0.own0 S hg2 hlt2) (by rw [Int.toNat_natCast, Nat.mul_one]; exact hat3) ?_
      refine o_assign gn rfl rfl ?_
      refine wl_end ?_
      refine w_seq ?_
      obtain ⟨pa, pv, hpb, _⟩ := pr_cells 0 S rfl
      refine w_region (by kernel_rfl) ?_
      refine o_move gn rfl rfl ?_
      refine o_move gn rfl rfl ?_
      refine o_nilCheck gn rfl rfl ?_
      refine o_fieldAddr (off := 0) gn rfl rfl (by kernel_rfl) ?_
      refine o_fieldAddr (off := 0) gn rfl rfl (by kernel_rfl) ?_
      refine o_load gn rfl rfl (by kernel_rfl) hpb rfl ?_
      refine o_move gn rfl rfl ?_
      rw [hta]
      refine o_indexAddr (zz := 6) gn rfl rfl rfl (by kernel_rfl) (by omega) (by omega) ?_
      refine o_loadA (n := 6) gn rfl rfl (by kernel_rfl) (by kernel_rfl) (S0.two S0.own0 S hg hlb) (by rw [Int.toNat_natCast]; omega) ?_
      rw [hw4, ← hta]
      refine o_call [_, _] gn rfl rfl (by kernel_rfl) rfl (C.mono (hC q w' hq3 hq2 _ _ _ _ _ (S0.sub1 S0.own0 S 0 rfl) (by simp only [List.length_append]; omega)) ?_)
      rintro v g ⟨bs', S2⟩
      have S := S.ret 0 rfl S2
      refine ⟨ag0, ?_⟩
      refine wl_end ?_
      refine w_region (by kernel_rfl) ?_
      refine o_move gn rfl rfl ?_
      refine s_buildSlice (cs := (([⟨#[10]⟩] : List ByteArray).map Value.string).toArray) (e := 9) (z := 0) (zv := .string .empty) [(0, _)] S gn rfl (by kernel_rfl) (by kernel_rfl) (by kernel_rfl) (by kernel_rfl) rfl (by kernel_rfl) fun b2 g nb2 S => ?_
      refine o_call [_, _] gn rfl rfl (by kernel_rfl) rfl (C.mono (c47 (S0.sub1 S0.own0 S 1 rfl) (S.wrow 0 1 rfl rfl (by decide) [⟨#[10]⟩] rfl) (by simp only [List.length_append]; omega) (by simp)) ?_)
      rintro v g ⟨bs', S2⟩
      have S := S.ret 1 rfl S2
      refine ⟨ag0, ?_⟩
      refine wl_end ?_
      refine w_region (by kernel_rfl) ?_
      refine o_add gn rfl rfl rfl (by omega) (by omega) ?_
      refine o_move gn rfl rfl ?_
      refine wl_end ?_
      exact rndS (kids.length - (j + 1)) (by omega) [(16, _)] (by repeat (first | exact trivial | refine ⟨rfl, ?_⟩)) ⟨j + 1, bs', rfl, rfl, by omega, by
        rw [flatL_take hj, hFj]
        simp only [← List.append_assoc] at S ⊢
        exact S.drop⟩
    refine w_exit ?_
    refine thn_exit ?_
    refine rnd_exit ?_
    refine blk_eq ?_
    refine ⟨.inr rfl, _, rfl, ?_⟩
    exact ⟨bs1, by
      have hjj : j = kids.length := by simp at hb; omega
      rw [hjj, List.take_length] at S; exact S⟩
  refine w_seq ?_
  have hne1 : ¬ K = 1 := by simpa using hb
  refine w_region (by kernel_rfl) ?_
  refine o_fieldAddr (off := 0) gn rfl rfl (by kernel_rfl) ?_
  refine o_load gn rfl rfl (by kernel_rfl) (by exact S.cel 0 rfl) rfl ?_
  refine o_eqi gn rfl rfl rfl ?_
  refine o_assign gn rfl rfl ?_
  refine wl_end ?_
  refine w_cond rfl (fun hb => ?_) fun hb => ?_
  · skip
    have hK0 : K = 12 := by simpa using hb
    subst hK0
    rw [show twT rec T ⟨12, s, N, L, Co, .slice ka kids.length kc, kids⟩ ind = bracesT rec ind kids from rfl] at hn ⊢
    refine w_region (by kernel_rfl) ?_
    refine o_move gn rfl rfl ?_
    refine o_fieldAddr (off := 5) gn rfl rfl (by kernel_rfl) ?_
    refine o_load gn rfl rfl (by kernel_rfl) (by exact S.cel 0 rfl) rfl ?_
    refine o_call [_, _] gn rfl rfl (by kernel_rfl) rfl (C.mono (c48 (S0.sub1 S0.own0 S 1 rfl) hX hC hR3 hkl hK.2 hn) ?_)
    rintro v g ⟨bs', S2⟩
    have S := S.ret 1 rfl S2
    refine ⟨ag0, ?_⟩
    refine wl_end ?_
    refine ⟨.inr rfl, _, rfl, ?_⟩
    exact ⟨bs', S.pick 1 rfl⟩
  refine w_seq ?_
  have hne2 : ¬ K = 12 := by simpa using hb
  refine w_region (by kernel_rfl) ?_
  refine o_fieldAddr (off := 0) gn rfl rfl (by kernel_rfl) ?_
  refine o_load gn rfl rfl (by kernel_rfl) (by exact S.cel 0 rfl) rfl ?_
  refine o_call [_] gn rfl rfl (by kernel_rfl) rfl (c_pure (c40) ⟨ag0, ?_⟩)
  refine o_assign gn rfl rfl ?_
  refine wl_end ?_
  refine w_cond rfl (fun hb => ?_) fun hb => ?_
  · skip
    have ht : stmtK K = true := hb
    rw [show twT rec T ⟨K, s, N, L, Co, .slice ka kids.length kc, kids⟩ ind = stmtT rec T ⟨K, s, N, L, Co, .slice ka kids.length kc, kids⟩ ind by simp only [twT, if_neg hne1, if_neg hne2, if_pos ht]] at hn ⊢
    refine w_region (by kernel_rfl) ?_
    refine o_move gn rfl rfl ?_
    refine o_loadA (n := 6) gn rfl rfl (by kernel_rfl) (by kernel_rfl) (by exact S.cel 0 rfl) (Nat.le_refl _) ?_
    refine o_call [_, _] gn rfl rfl (by kernel_rfl) rfl (C.mono (c49 (w := ⟨K, s, N, L, Co, .slice ka kids.length kc, kids⟩) (S0.sub1 S0.own0 S 1 rfl) hX hC hK hS2 hP ok.a19 ok.a13 ok.n19 ht hn) ?_)
    rintro v g ⟨bs', S2⟩
    have S := S.ret 1 rfl S2
    refine ⟨ag0, ?_⟩
    refine wl_end ?_
    refine ⟨.inr rfl, _, rfl, ?_⟩
    exact ⟨bs', S.pick 1 rfl⟩
  refine w_seq ?_
  have hne3 : ¬ stmtK K = true := fun e => by rw [show stmtK K = false from hb] at e; cases e
  refine w_region (by kernel_rfl) ?_
  refine o_fieldAddr (off := 0) gn rfl rfl (by kernel_rfl) ?_
  refine o_load gn rfl rfl (by kernel_rfl) (by exact S.cel 0 rfl) rfl ?_
  refine o_call [_] gn rfl rfl (by kernel_rfl) rfl (c_pure (c16) ⟨ag0, ?_⟩)
  refine o_assign gn rfl rfl ?_
  refine wl_end ?_
  refine w_cond rfl (fun hb => ?_) fun hb => ?_
  · skip
    have ht : termK K = true := hb
    rw [show twT rec T ⟨K, s, N, L, Co, .slice ka kids.length kc, kids⟩ ind = termT rec T ⟨K, s, N, L, Co, .slice ka kids.length kc, kids⟩ ind by simp only [twT, if_neg hne1, if_neg hne2, if_neg hne3, if_pos ht]] at hn ⊢
    refine w_region (by kernel_rfl) ?_
    refine o_move gn rfl rfl ?_
    refine o_loadA (n := 6) gn rfl rfl (by kernel_rfl) (by kernel_rfl) (by exact S.cel 0 rfl) (Nat.le_refl _) ?_
    refine o_call [_, _] gn rfl rfl (by kernel_rfl) rfl (C.mono (c50 (w := ⟨K, s, N, L, Co, .slice ka kids.length kc, kids⟩) (S0.sub1 S0.own0 S 1 rfl) hX hC hK hS2 hP ok.a30 ok.a31 ok.n26 ht hn) ?_)
    rintro v g ⟨bs', S2⟩
    have S := S.ret 1 rfl S2
    refine ⟨ag0, ?_⟩
    refine wl_end ?_
    refine ⟨.inr rfl, _, rfl, ?_⟩
    exact ⟨bs', S.pick 1 rfl⟩
  have hne4 : ¬ termK K = true := fun e => by rw [show termK K = false from hb] at e; cases e
  rw [show twT rec T ⟨K, s, N, L, Co, .slice ka kids.length kc, kids⟩ ind = declT rec T ⟨K, s, N, L, Co, .slice ka kids.length kc, kids⟩ ind by simp only [twT, if_neg hne1, if_neg hne2, if_neg hne3, if_neg hne4]] at hn ⊢
  refine w_region (by kernel_rfl) ?_
  refine o_move gn rfl rfl ?_
  refine o_loadA (n := 6) gn rfl rfl (by kernel_rfl) (by kernel_rfl) (by exact S.cel 0 rfl) (Nat.le_refl _) ?_
  refine o_call [_, _] gn rfl rfl (by kernel_rfl) rfl (C.mono (c51 (w := ⟨K, s, N, L, Co, .slice ka kids.length kc, kids⟩) (S0.sub1 S0.own0 S 1 rfl) hX hC hK hS2 ok.a8 ok.n9 ok.n10 ok.sz hn) ?_)
  rintro v g ⟨bs', S2⟩
  have S := S.ret 1 rfl S2
  refine ⟨ag0, ?_⟩
  refine wl_end ?_
  refine ⟨.inr rfl, _, rfl, ?_⟩
  exact ⟨bs', S.pick 1 rfl⟩
end
end Go.Proofs.YtoejddhaiogonaaDoor

namespace Go.Proofs.YtoejddhaiogonaaDoor
open Go.X

/-- The text of a twig. -/
def textS (T : List Tw) : Nat → Nat → ByteArray → List UInt8
  | 0, _, _ => []
  | f + 1, at', ind => match T[at']? with
    | some w => twT (textS T f) T w ind
    | none => []
/-- What all twigs of a tree have that may be. -/
def AllOk (T : List Tw) : Prop := ∀ (i : Nat) (w : Tw), T[i]? = some w → formOk w.K w.s w.N (kindsOf T w.kids) = true ∧ w.kids.length ≤ T.length
theorem all_kids {rec : Nat → Int → Option Nat} {T : List Tw} {w : Tw} {nest : Int} {Q : Nat → Prop} (hr : ∀ at' nest n, rec at' nest = some n → at' < n ∧ ∀ i, at' ≤ i → i < n → Q i) : ∀ {l : List Int} {i next n : Nat}, kidsW rec T w nest l i next = some n → next + l.length ≤ n ∧ ∀ i, next ≤ i → i < n → Q i
  | [], i, next, n, e => by
    simp [kidsW] at e
    subst e
    exact ⟨by simp, fun i h1 h2 => by omega⟩
  | k :: l, i, next, n, e => by
    simp only [kidsW] at e
    split at e
    · split at e
      · split at e
        · rename_i q hq
          obtain ⟨h1, h2⟩ := hr _ _ _ hq
          obtain ⟨h3, h4⟩ := all_kids hr e
          refine ⟨by rw [List.length_cons]; omega, fun i hi1 hi2 => ?_⟩
          by_cases h : i < q
          · exact h2 i hi1 h
          exact h4 i (by omega) hi2
        cases e
      cases e
    cases e
theorem all_walk {T : List Tw} : ∀ {f at' : Nat} {nest : Int} {n : Nat}, walkS T f at' nest = some n → at' < n ∧ ∀ i, at' ≤ i → i < n → ∀ w : Tw, T[i]? = some w → formOk w.K w.s w.N (kindsOf T w.kids) = true ∧ w.kids.length ≤ T.length
  | 0, _, _, _, e => by simp [walkS] at e
  | f + 1, at', nest, n, e => by
    have hle := (walkS_lt e).2
    simp only [walkS] at e
    split at e
    · rename_i w hw
      split at e
      · cases e
      cases hq : kidsW (walkS T f) T w nest w.kids 0 (at' + 1) with
      | none => rw [hq] at e; cases e
      | some q =>
        rw [hq] at e
        simp only [finW] at e
        split at e
        · rename_i hf
          cases e
          obtain ⟨h1, h2⟩ := all_kids (Q := fun i => ∀ w : Tw, T[i]? = some w → formOk w.K w.s w.N (kindsOf T w.kids) = true ∧ w.kids.length ≤ T.length) (fun _ _ _ h => all_walk (f := f) h) hq
          refine ⟨by omega, fun i hi1 hi2 w' hw' => ?_⟩
          by_cases h : i = at'
          · subst h
            rw [hw] at hw'
            cases hw'
            exact ⟨hf, by omega⟩
          exact h2 i (by omega) hi2 w' hw'
        cases e
    cases e
theorem may_all {T : List Tw} (h : mayS T = true) : AllOk T := by
  simp only [mayS, Bool.and_eq_true, decide_eq_true_eq] at h
  obtain ⟨⟨h1, _⟩, h2⟩ := h
  cases hw : walkS T (T.length + 1) 0 0 with
  | none => rw [hw] at h2; exact absurd h2 (show ¬ (-1 : Int) = T.length by omega)
  | some n =>
    rw [hw] at h2
    have : n = T.length := by have : (n : Int) = T.length := h2; omega
    subst this
    exact fun i w hi => (all_walk hw).2 i (Nat.zero_le _) (List.getElem?_eq_some_iff.1 hi).1 w hi
theorem may_kids {T : List Tw} (h : mayS T = true) (hT : T.length ≤ 1000) {i : Nat} {w : Tw} (hi : T[i]? = some w) : KidsOk T w i := by
  obtain ⟨h0, hO⟩ := may_own h
  have hl := (may_all h i w hi).2
  have hlt := (List.getElem?_eq_some_iff.1 hi).1
  refine ⟨by omega, fun j hj => ?_⟩
  have hm : w.kids[j] ∈ kidsAt T i := by rw [kidsAt_of hi]; exact List.getElem_mem hj
  have hr := hO.1 i (Nat.zero_le _) hlt _ hm
  obtain ⟨q, hq⟩ : ∃ q : Nat, w.kids[j] = q := ⟨w.kids[j].toNat, by omega⟩
  have hqlt : q < T.length := by omega
  exact ⟨q, T[q], by rw [List.getElem?_eq_getElem hj, hq], List.getElem?_eq_getElem hqlt, by omega⟩

section
variable {h0 : Hp} {sv : Value} {T : List Tw}
/-- twig -/
theorem tw_all (X : TreeAt h0 sv T) (hP : Pow h0) (hS : ∀ t, t ∈ T → RowG h0 t.ks (isV t.kids)) (hK : ∀ (i : Nat) (w : Tw), T[i]? = some w → KidsOk T w i) (hW : ∀ w, w ∈ T → WOk w) : ∀ (f lo : Nat), T.length - (lo + 1) ≤ f → TwC h0 sv T (textS T f) lo := by
  intro f
  induction f with
  | zero =>
    intro lo hf j w hj hq
    have := (List.getElem?_eq_some_iff.1 hq).1
    omega
  | succ f ih =>
    intro lo hf j w hj hq g pb l ind bs S0 hn
    have hjl := (List.getElem?_eq_some_iff.1 hq).1
    have e : textS T (f + 1) j ind = twT (textS T f) T w ind := by simp only [textS, hq]
    rw [e] at hn ⊢
    have hm := List.mem_of_getElem? hq
    exact c27s S0 X (ih j (by omega)) (hK j w hq) (hS w hm) hP (hW w hm) hn
end
end Go.Proofs.YtoejddhaiogonaaDoor

namespace Go.Proofs.YtoejddhaiogonaaDoor
open Go.X

theorem bytesOf_byV : ∀ l : List UInt8, bytesOf (byV l) = some l
  | [] => rfl
  | b :: l => by
    have e : bytesOf (byV (b :: l)) = cond (Nat.blt b.toNat 256) (match bytesOf (byV l) with | some l => some (b.toNat.toUInt8 :: l) | none => none) none := rfl
    have e2 : Nat.blt b.toNat 256 = true := (blt_iff _ _).2 b.toNat_lt
    rw [e, e2, bytesOf_byV l]
    simp [Nat.toUInt8]
/-- String, of what was put. -/
theorem string_pr {h g : Hp} {pb : Nat} {sv : Value} {l : List UInt8} {ind : ByteArray} {bs : List Nat} {L : List Res} (S : SH h [] (prR pb sv l ind bs :: L) g) (hl : l.length ≤ 1000000000) : ∃ g', stringX 5 [.pointer (some ⟨pb, 1, none⟩)] g = some (.string ⟨l.toArray⟩, g') ∧ KD g g' ∧ Ext h g' := by
  obtain ⟨addr, bv, h1, h2, h3, h4⟩ := S.res 0 rfl
  have hrow : rowOf g ⟨pb, 1 + 1, none⟩ 1 = some [bv] := by simp only [rowOf, h2]; rfl
  cases l with
  | nil =>
    rw [h4 rfl] at hrow
    exact ⟨g, by simp only [stringX, hrow]; rfl, .refl _, S.e0⟩
  | cons c l =>
    rcases h3 with ⟨_, _, hl0, _⟩ | ⟨b, m, rfl, hb, hm, hlt, rfl, hlen⟩
    · simp at hl0
    have hbh : h.n ≤ b := (S.new b (by simp [owns, prR])).resolve_left (by simp)
    have hrow2 : rowOf g ⟨b, 0, none⟩ (l.length + 1) = some (byV (c :: l)) := by
      simp only [rowOf, hb]
      have e : Nat.ble (0 + (l.length + 1)) (byV (c :: l)).length = true := (ble_iff _ _).2 (by simp)
      rw [e, List.drop_zero, List.take_of_length_le (by simp)]; rfl
    have hm1 : (Nat.beq 5 5 && !Nat.beq m 1 && Nat.ble (l.length + 1) 1000000000) = true := by
      have e : Nat.ble (l.length + 1) 1000000000 = true := (ble_iff _ _).2 (by simpa using hl)
      rw [e]
      rcases hm with rfl | rfl <;> rfl
    refine ⟨g.put b .dead, ?_, KD.put _ (fun d e => by rw [hb] at e; cases e), ⟨by rw [Hp.n_put]; exact S.ext.n, fun i hi => by
      rw [Hp.get_put, if_neg (by omega)]; exact S.e0.get i hi⟩⟩
    have hr : rowOf g ⟨pb, 1 + 1, none⟩ 1 = some [.slice (some ⟨b, 0, none⟩) (l.length + 1) (l.length + 1)] := hrow
    simp only [stringX, hr, hrow2, hb, hm1, cond_true, bytesOf_byV]
end Go.Proofs.YtoejddhaiogonaaDoor

