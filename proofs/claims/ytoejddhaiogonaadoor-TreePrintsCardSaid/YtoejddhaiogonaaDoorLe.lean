/- Chapter 2: the law of texts. Conditions: the tables; kids' rows no longer than a process's memory. Chapter 2: how long the rows of a tree that is an argument are. Conditions: what is read takes no more than a process's memory. -/
import Derived.Test.YtoejddhaiogonaaDoorLd
import Derived.Test.YtoejddhaiogonaaDoorLc
import Derived.Test.YtoejddhaiogonaaDoorXd
namespace Go.X
theorem SH.into {h0 h : Hp} {ds : List Nat} {A B : List Res} {a r r' : Res} (S : SH h0 ds (a :: (A ++ r :: B)) h) (e : r'.own = a.own ++ r.own) (hp : r'.P h) : SH h0 ds (A ++ r' :: B) h := by
  have S1 := S.sub (A := a :: r :: (A ++ B)) (B := []) (by rw [List.append_nil]; exact List.Perm.cons _ List.perm_middle.symm)
  have S2 := S1.join2 (r := r') e hp
  exact S2.sub (A := A ++ r' :: B) (B := []) (by rw [List.append_nil]; exact List.perm_middle)
end Go.X
namespace Go.Proofs.YtoejddhaiogonaaDoor
open Go.X

section
variable {T U : List Tw} {F : Nat → ByteArray → List UInt8}
theorem kid_pl (w : Tw) (ind : ByteArray) : kidT F (T.map Tw.pl) w.pl ind = kidT F T w ind := by
  funext i
  unfold kidT
  show (match w.kids[i]? with | none => _ | some k => _) = _
  cases w.kids[i]? with
  | none => rfl
  | some k =>
    simp only [pl_at]
    cases T[k.toNat]? with
    | none => rfl
    | some w' => rfl
theorem kids_pl (i : Nat) : kidsAt (T.map Tw.pl) i = kidsAt T i := by
  unfold kidsAt
  rw [pl_at]
  cases T[i]? <;> rfl
theorem tw_pl (w : Tw) (ind : ByteArray) : twT F (T.map Tw.pl) w.pl ind = twT F T w ind := by
  have hk := kid_pl (F := F) (T := T) w ind
  have he : hasElse (T.map Tw.pl) w.pl = hasElse T w := by
    unfold hasElse
    rw [kids_pl]; rfl
  unfold twT stmtT termT declT branchT toT elseT rowT branchWord
  simp only [hk, he]
  rfl
theorem text_pl : ∀ f : Nat, textS (T.map Tw.pl) f = textS T f
  | 0 => rfl
  | f + 1 => by
    funext a ind
    simp only [textS, pl_at]
    cases T[a]? with
    | none => rfl
    | some w => rw [Option.map_some, text_pl f]; exact tw_pl w ind
theorem pl_len (e : U.map Tw.pl = T.map Tw.pl) : U.length = T.length := by have := congrArg List.length e; simpa using this
theorem pl_get (e : U.map Tw.pl = T.map Tw.pl) (i : Nat) (h1 : i < U.length) (h2 : i < T.length) : U[i].pl = T[i].pl := by
  have e1 : (U.map Tw.pl)[i]? = (T.map Tw.pl)[i]? := by rw [e]
  rw [pl_at, pl_at, List.getElem?_eq_getElem h1, List.getElem?_eq_getElem h2] at e1
  exact Option.some.inj e1
theorem pl_same (e : U.map Tw.pl = T.map Tw.pl) : sameT U T = true := sameT_iff.2 ⟨pl_len e, fun i h1 h2 => by
  have q := pl_get e i h1 h2
  have q1 : U[i].pl.K = T[i].pl.K := by rw [q]
  have q2 : U[i].pl.s = T[i].pl.s := by rw [q]
  have q3 : U[i].pl.N = T[i].pl.N := by rw [q]
  have q4 : U[i].pl.kids = T[i].pl.kids := by rw [q]
  exact sameW_iff.2 ⟨q1, congrArg ByteArray.toList q2, q3, q4⟩⟩
theorem pl_may (e : U.map Tw.pl = T.map Tw.pl) : mayS U = mayS T := by rw [← may_pl, e, may_pl]
theorem pl_text (e : U.map Tw.pl = T.map Tw.pl) : textS U (U.length + 1) 0 .empty = textS T (T.length + 1) 0 .empty := by
  rw [pl_len e, ← text_pl (T := U), e, text_pl]
theorem pl_mem (e : U.map Tw.pl = T.map Tw.pl) {Q : Tw → Prop} (hQ : ∀ t, Q t.pl → Q t) (h : ∀ t, t ∈ T → Q t.pl) : ∀ t, t ∈ U → Q t := fun t ht => by
  obtain ⟨i, hi, rfl⟩ := List.mem_iff_getElem.1 ht
  have hl := pl_len e
  exact hQ _ (by rw [pl_get e i hi (by omega)]; exact h _ (List.getElem_mem _))
end

section
variable {h0 h : Hp} {ds bs bk bks : List Nat} {T U : List Tw} {v v' : Value} {kids : List Int} {r1 r3 r4 r5 r7 : Res}
theorem own_start (S : SH h0 ds [r4, r7] h) : SH h0 ds [r4, slR 30 5 (.slice none 0 0) (cellsOf []) 0 [], ksR [] [], r7] h := by
  have S1 := (S.nilSl 30 5).push (r := ksR [] []) (Ext.refl _) (fun t ht => by cases ht) (by simp [ksR]) (by simp [ksR]) (by simp [ksR])
  exact S1.sub (B := []) (by rw [List.append_nil]; exact (List.reverse_perm [ksR [] [], slR 30 5 (.slice none 0 0) [] 0 [], r4]).append_right [r7])
theorem own_more (S : SH h0 ds [r1, slR 3 0 v' (isV kids) kids.length bk, r3, r4, r5, ksR U bks, r7] h) (w' : Tw) (h1 : w'.ks = v') (h2 : w'.kids = kids) : SH h0 ds [r4, r5, ksR (U ++ [w']) (bk ++ bks), r7] h := by
  have S2 := S.drop.swap.drop
  refine SH.into (A := [r4, r5]) (B := [r7]) (r' := ksR (U ++ [w']) (bk ++ bks)) S2 rfl fun t ht => ?_
  rcases List.mem_append.1 ht with ht | ht
  · obtain ⟨b, k1, k2⟩ := S2.res 3 rfl t ht
    exact ⟨b, k1, fun i hi => List.mem_append_right _ (k2 i hi)⟩
  rw [List.mem_singleton] at ht
  subst ht
  rw [h1, h2]
  exact ⟨bk, S2.res 0 rfl, fun i hi => List.mem_append_left _ hi⟩
theorem own_ks (p : (ksR T bks).P h) : ∀ t, t ∈ T → ∃ bk, SlC 3 0 h t.ks (isV t.kids) t.kids.length bk := fun t ht => by
  obtain ⟨bk, h1, _⟩ := p t ht
  exact ⟨bk, h1⟩
theorem isV_all (l : List Int) : (isV l).all cellV = true := List.all_eq_true.2 fun x hx => by
  obtain ⟨k, _, rfl⟩ := List.mem_map.1 hx
  rfl
theorem print_eq {l : List UInt8} {b : Bool} {B : ByteArray} (h : B.toList = if b = true then l else []) : eqS (if b = true then (⟨l.toArray⟩ : ByteArray) else ⟨#[]⟩) B = true := by
  have e : (if b = true then (⟨l.toArray⟩ : ByteArray) else ⟨#[]⟩).toList = B.toList := by
    rw [h]
    cases b
    · rw [if_neg (by simp), if_neg (by simp)]; exact tl_lit _
    rw [if_pos rfl, if_pos rfl]; exact tl_lit _
  simp only [eqS, e]
  simp
end
section
variable {h : Hp} {sv : Value} {T : List Tw}
set_option maxHeartbeats 1000000 in
/-- TreePrints -/
theorem c3 (B : Blk h) (hP : Pow h) (X : TreeAt h sv T) (hk : ∀ t, t ∈ T → t.kids.length * 8 ≤ 140737488351232) : C trE 3 [.agg #[sv]] h fun v _ => v = .bool true := by
  have Y := X
  obtain ⟨ta, tc, rfl⟩ := X.val
  refine c_enter (fu := Tryd.f3) (by kernel_rfl) rfl ?_
  have S := SH.start h
  refine w_seq ?_
  refine w_region (by kernel_rfl) ?_
  refine s_box S gn rfl rfl fun b1 g nb1 S => ?_
  refine o_assign gn rfl rfl ?_
  refine wl_end ?_
  refine w_seq ?_
  refine w_seq ?_
  refine w_region (by kernel_rfl) ?_
  refine o_loadA (n := 1) gn rfl rfl (by kernel_rfl) (by kernel_rfl) (by exact S.cel 0 rfl) (Nat.le_refl _) ?_
  refine o_call [_, _] gn rfl rfl (by kernel_rfl) rfl (C.mono (c8 (Y.ext S.e0)) ?_)
  rintro v g ⟨rfl, x⟩
  have S := S.grow x
  refine ⟨ag0, ?_⟩
  refine wl_end ?_
  refine w_cond rfl (fun hb => ?_) fun hb => ?_
  · skip
    refine w_seq ?_
    refine w_region (by kernel_rfl) ?_
    refine o_sm [] gn rfl rfl (by kernel_rfl) (by kernel_rfl) sm9 rfl (knows (B.ext S.e0).t) (.refl _) ag0 ?_
    refine o_assign gn rfl rfl ?_
    refine wl_end ?_
    refine w_ret ?_
    refine ⟨.inl rfl, _, rfl, ?_⟩
    exact rfl
  refine w_skip ?_
  obtain ⟨hl, hsT⟩ := much_no hb
  have hmx : ∀ t, t ∈ T → t.kids.length ≤ 9223372036854775807 := fun t ht => by have := hk t ht; omega
  refine w_seq ?_
  refine w_region (by kernel_rfl) ?_
  refine o_build (cs := #[.slice none 0 0]) (zv := .agg #[.slice none 0 0]) (pl := [(0, 1)]) [] gn rfl (by kernel_rfl) (by kernel_rfl) rfl (by kernel_rfl) ?_
  refine s_alloc (zv := .agg #[.slice none 0 0]) S gn rfl (by kernel_rfl) fun b2 g nb2 S => ?_
  refine s_storeA (n := 1) 0 S gn rfl rfl (by kernel_rfl) (by kernel_rfl) rfl rfl (by decide) rfl (fun g S => ag0) fun g S => ?_
  refine wl_end ?_
  refine w_seq ?_
  refine w_seq ?_
  refine w_region (by kernel_rfl) ?_
  refine o_assign gn rfl rfl ?_
  refine wl_end ?_
  refine w_block ?_
  refine w_loopS [(4, _)] [(1, _), (3, _)] (by repeat (first | exact trivial | refine ⟨rfl, ?_⟩)) (fun kk lv hh => ∃ (i : Nat) (v : Value) (U : List Tw) (bs bks : List Nat), lv = [(4, iV i)] ∧ kk = T.length - i ∧ i ≤ T.length ∧ SH h [] [cR b2 (.cells [v] 24 0), slR 30 5 v (cellsOf U) i bs, ksR U bks, cR b1 (.cells [.slice ta T.length tc] 24 0)] hh ∧ U.map Tw.pl = (T.take i).map Tw.pl) (n := (T.length)) ?_ fun kk lv hh hI => ?_
  · exact ⟨0, .slice none 0 0, [], [], [], rfl, rfl, by omega, own_start S, rfl⟩
  obtain ⟨i, v, U, bs, bks, rfl, hkk, hi3, S, eU⟩ := hI
  refine w_seq ?_
  refine w_seq ?_
  refine w_region (by kernel_rfl) ?_
  refine o_move gn rfl rfl ?_
  refine o_fieldAddr (off := 0) gn rfl rfl (by kernel_rfl) ?_
  refine o_load gn rfl rfl (by kernel_rfl) (by exact S.cel 3 rfl) rfl ?_
  refine o_len gn rfl rfl (by kernel_rfl) ?_
  refine o_lss gn rfl rfl rfl ?_
  refine wl_end ?_
  refine w_cond rfl (fun hb => ?_) fun hb => ?_
  · skip
    refine w_skip ?_
    have hi : i < T.length := by simp at hb; omega
    obtain ⟨b, o, c, cs, e, m, hv, hg, hlb, hl6, hat⟩ := Y.at (by omega)
    have hta : ta = some ⟨b, o, none⟩ := by injection hv
    have hm := Y.2 _ (List.getElem_mem hi)
    have hkl := hk _ (List.getElem_mem hi)
    have hw := hat i hi
    have htk : T.take (i + 1) = T.take i ++ [T[i]] := by rw [List.take_add_one, List.getElem?_eq_getElem hi]; rfl
    generalize T[i] = w at hm hkl hw htk
    obtain ⟨K, s, N, L, Co, ks, kids⟩ := w
    simp only at hm hkl
    obtain ⟨ka, kc, rfl⟩ := hm.valM
    have hw6 : (cs.drop (o + Int.toNat (i : Int) * 6)).take 6 = twC K s N L Co (.slice ka kids.length kc) := by rw [Int.toNat_natCast]; exact hw
    refine w_seq ?_
    refine w_block ?_
    refine w_seq ?_
    refine w_region (by kernel_rfl) ?_
    refine o_fieldAddr (off := 0) gn rfl rfl (by kernel_rfl) ?_
    refine o_load gn rfl rfl (by kernel_rfl) (by exact S.cel 3 rfl) rfl ?_
    refine o_move gn rfl rfl ?_
    rw [hta]
    refine o_indexAddr (zz := 6) gn rfl rfl rfl (by kernel_rfl) (by omega) (by omega) ?_
    refine o_loadA (n := 6) gn rfl rfl (by kernel_rfl) (by kernel_rfl) (S.old0 hg hlb) (by rw [Int.toNat_natCast]; omega) ?_
    rw [hw6, ← hta]
    refine s_alloc (zv := .agg #[.int .i64 0, .string .empty, .int .i64 0, .int .i64 0, .int .i64 0, .slice none 0 0]) S gn rfl (by kernel_rfl) fun b3 g nb3 S => ?_
    refine s_storeA (n := 6) 0 S gn rfl rfl (by kernel_rfl) (by kernel_rfl) rfl rfl (by decide) rfl (fun g S => ag0) fun g S => ?_
    refine wl_end ?_
    refine w_seq ?_
    refine w_region (by kernel_rfl) ?_
    refine o_fieldAddr (off := 5) gn rfl rfl (by kernel_rfl) ?_
    refine o_load gn rfl rfl (by kernel_rfl) (by exact S.cel 0 rfl) rfl ?_
    obtain ⟨v', g', bk, ha, hN, hE, hnew⟩ := append_row el28 (hm.ext S.e0) (isV_all kids) (by rw [List.length_map]; omega)
    rw [List.length_map] at hN
    refine o_append gn rfl rfl rfl ha ag0 ?_
    have S := S.push (r := slR 3 0 v' (isV kids) kids.length bk) hE hN.toC hN.toC.lt hnew hN.nodup
    have hcv : cellV v' = true := hN.toC.cellV
    refine o_fieldAddr (off := 5) gn rfl rfl (by kernel_rfl) ?_
    refine s_store 1 S gn rfl rfl hcv (by kernel_rfl) rfl (by decide) (show 5 < 6 by decide) (fun g S => ag0) fun g S => ?_
    refine wl_end ?_
    refine w_region (by kernel_rfl) ?_
    refine o_fieldAddr (off := 0) gn rfl rfl (by kernel_rfl) ?_
    refine o_load gn rfl rfl (by kernel_rfl) (by exact S.cel 2 rfl) rfl ?_
    refine o_loadA (n := 6) gn rfl rfl (by kernel_rfl) (by kernel_rfl) (by exact S.cel 1 rfl) (Nat.le_refl _) ?_
    refine s_buildSlice (cs := #[iV K, .string s, iV N, iV L, iV Co, v']) (e := 30) (z := 5) (zv := .agg #[.int .i64 0, .string .empty, .int .i64 0, .int .i64 0, .int .i64 0, .slice none 0 0]) [(0, _)] S gn rfl (by kernel_rfl) (by kernel_rfl) (by kernel_rfl) (by kernel_rfl) rfl (by kernel_rfl) fun b4 g nb4 S => ?_
    refine s_append (e := 30) (z := 5) (by' := 71) 4 0 S el22 gn rfl rfl rfl rfl rfl rfl (by simp only [List.all_cons, List.all_nil, hcv, Bool.and_true]; rfl) (by omega) (fun s' bs' g S => ag0) fun s' bs' g S => ?_
    have hcv2 : cellV s' = true := (S.sl 4 rfl).cellV
    refine o_fieldAddr (off := 0) gn rfl rfl (by kernel_rfl) ?_
    refine s_store 3 S gn rfl rfl hcv2 (by kernel_rfl) rfl (by decide) (Nat.zero_lt_one) (fun g S => ag0) fun g S => ?_
    have S := own_more S ⟨K, s, N, L, Co, v', kids⟩ rfl rfl
    refine wl_end ?_
    refine w_region (by kernel_rfl) ?_
    refine o_move gn rfl rfl ?_
    refine o_add gn rfl rfl rfl (by omega) (by omega) ?_
    refine o_assign gn rfl rfl ?_
    refine wl_end ?_
    exact rndS (T.length - (i + 1)) (by omega) [(4, _)] (by repeat (first | exact trivial | refine ⟨rfl, ?_⟩)) ⟨i + 1, s', U ++ [⟨K, s, N, L, Co, v', kids⟩], bs', bk ++ bks, rfl, rfl, by omega, by rw [cellsOf_snoc]; exact S, by
      rw [htk, List.map_append, List.map_append, eU]; rfl⟩
  refine w_exit ?_
  refine thn_exit ?_
  refine rnd_exit ?_
  refine blk_eq ?_
  refine w_seq ?_
  have hil : i = T.length := by simp at hb; omega
  subst hil
  rw [List.take_length] at eU
  have hlU := pl_len eU
  have hsU : ∀ t, t ∈ U → t.s.toList.length ≤ 100 := pl_mem eU (fun _ q => q) hsT
  have hkU : ∀ t, t ∈ U → t.kids.length ≤ 9223372036854775807 := pl_mem (Q := fun t => t.kids.length ≤ 9223372036854775807) eU (fun _ q => q) hmx
  have S : SH h [] [cR b2 (.cells [v] 24 0), slR 30 5 v (cellsOf U) U.length bs, ksR U bks, cR b1 (.cells [.slice ta T.length tc] 24 0)] hh := by rw [hlU]; exact S
  refine w_draw [(0, []), (2, []), (1, [2]), (3, []), (4, []), (5, []), (6, []), (8, []), (7, [8]), (9, []), (10, []), (11, []), (12, []), (13, []), (14, []), (15, []), (16, []), (17, []), (18, []), (19, []), (20, [])] (by kernel_rfl) (by kernel_rfl) (by kernel_rfl) (by kernel_rfl) ?_
  refine o_loadA (n := 1) gn rfl rfl (by kernel_rfl) (by kernel_rfl) (by exact S.cel 0 rfl) (Nat.le_refl _) ?_
  refine o_loadA (n := 1) gn rfl rfl (by kernel_rfl) (by kernel_rfl) (by exact S.cel 3 rfl) (Nat.le_refl _) ?_
  refine o_call [_] gn rfl rfl (by kernel_rfl) rfl (C.mono (c10 (B.ext S.e0) (tw_tree (S.sl 1 rfl) (own_ks (S.res 2 rfl))) (by omega) hsU) ?_)
  rintro v g ⟨rfl, x⟩
  have S := S.grow x
  refine ⟨(ag1 (ag_loadA (n := 1) gn rfl (by kernel_rfl) (by kernel_rfl) (by exact S.cel 3 rfl) (Nat.le_refl _) rfl (same1 _ _ _)) ag0), ?_⟩
  refine o_call [_] gn rfl rfl (by kernel_rfl) rfl (C.mono (c11 (Y.ext S.e0) (by omega) hsT) ?_)
  rintro v g ⟨rfl, x⟩
  have S := S.grow x
  refine ⟨ag0, ?_⟩
  refine o_eqb gn rfl rfl rfl (by kernel_rfl) ?_
  refine o_move gn rfl rfl ?_
  refine wl_split (dc := 37) rfl (fun hb37 => ?_) fun hb37 => ?_
  · skip
    refine o_loadA (n := 1) (gy rfl rfl rfl hb37) rfl rfl (by kernel_rfl) (by kernel_rfl) (by exact S.cel 0 rfl) (Nat.le_refl _) ?_
    refine o_loadA (n := 1) (gy rfl rfl rfl hb37) rfl rfl (by kernel_rfl) (by kernel_rfl) (by exact S.cel 3 rfl) (Nat.le_refl _) ?_
    refine o_call [_] (gy rfl rfl rfl hb37) rfl rfl (by kernel_rfl) rfl (C.mono (c12 (B.ext S.e0) (hP.ext S.e0) (tw_tree (S.sl 1 rfl) (own_ks (S.res 2 rfl))) (by omega) hsU (own_ks (S.res 2 rfl)) (fun hm => may_wok hm hsU) (fun hm => may_text hm (by omega) hsU)) ?_)
    rintro v g ⟨rfl, x⟩
    have S := S.grow x
    refine ⟨(ag1 (ag_loadA (n := 1) (gy rfl rfl rfl hb37) rfl (by kernel_rfl) (by kernel_rfl) (by exact S.cel 3 rfl) (Nat.le_refl _) rfl (same1 _ _ _)) ag0), ?_⟩
    refine o_call [_] (gy rfl rfl rfl hb37) rfl rfl (by kernel_rfl) rfl (C.mono (c13 (Y.ext S.e0) (by omega) hsT) ?_)
    rintro v g ⟨⟨B2, rfl, hB2⟩, x⟩
    have S := S.grow x
    refine ⟨ag0, ?_⟩
    refine o_eqS (gy rfl rfl rfl hb37) rfl rfl rfl ?_
    refine o_pickt gn rfl rfl hb37 rfl ?_
    refine o_move gn rfl rfl ?_
    refine wl_split (dc := 44) rfl (fun hb44 => ?_) fun hb44 => ?_
    · skip
      refine o_loadA (n := 1) (gy rfl rfl rfl hb44) rfl rfl (by kernel_rfl) (by kernel_rfl) (by exact S.cel 0 rfl) (Nat.le_refl _) ?_
      refine o_loadA (n := 1) (gy rfl rfl rfl hb44) rfl rfl (by kernel_rfl) (by kernel_rfl) (by exact S.cel 3 rfl) (Nat.le_refl _) ?_
      refine o_call [_, _] (gy rfl rfl rfl hb44) rfl rfl (by kernel_rfl) rfl (C.mono (c14 (tw_tree (S.sl 1 rfl) (own_ks (S.res 2 rfl))) (Y.ext S.e0) (by omega) hkU) ?_)
      rintro v g ⟨rfl, x⟩
      have S := S.grow x
      refine ⟨ag0, ?_⟩
      refine o_pickt gn rfl rfl hb44 rfl ?_
      refine o_move gn rfl rfl ?_
      refine wl_split (dc := 49) rfl (fun hb49 => ?_) fun hb49 => ?_
      · skip
        refine o_sm [] (gy rfl rfl rfl hb49) rfl rfl (by kernel_rfl) (by kernel_rfl) sm9 rfl (knows (B.ext S.e0).t) (.refl _) ag0 ?_
        refine o_pickt gn rfl rfl hb49 rfl ?_
        refine o_assign gn rfl rfl ?_
        refine wl_end ?_
        refine w_ret ?_
        refine ⟨.inl rfl, _, rfl, ?_⟩
        exact rfl
      exact absurd hb49 (by rw [pl_same eU]; simp)
    exact absurd hb44 (by
      rw [print_eq (by rw [hB2, pl_may eU, pl_text eU])]; simp)
  exact absurd hb37 (by rw [pl_may eU]; simp)
end
end Go.Proofs.YtoejddhaiogonaaDoor

namespace Go.Proofs.YtoejddhaiogonaaDoor
open Go.ChangeShapes Go.WideShapes Go.ChangeAt Go.RowKit Go.Deep Go.X

set_option maxRecDepth 100000

theorem tre_b3 : Tryd.prog.bytesOf 3 = 8 := by kernel_rfl
/-- A tree that is an argument, and how long its rows are. -/
theorem tree_argZ {H : Type} {enc : TypeId × Value → H} {W : World} {r : Reach} {base : Nat} {v : Value} {d : DataW H} {ps : List MemPlace} (hok : Value.okWide Tryd.prog W r base 24 v) (ht : DataW.Trod enc Tryd.prog W 0 (fun _ => true) true 24 v d ps)
    (hB : ∀ n, n ∈ d.weights Tryd.prog 24 → n ≤ 140737488351232) :
    ∃ sv T, v = .agg #[sv] ∧ VRel (Mp.all W) sv sv ∧ TreeAt (Hp.all W) sv T ∧ ∀ t, t ∈ T → t.kids.length * 8 ≤ 140737488351232 := by
  obtain ⟨sv, T, rfl, hv, X, _⟩ := tree_arg hok ht
  refine ⟨sv, T, rfl, hv, X, fun t htm => ?_⟩
  obtain ⟨fuel, hf⟩ := ht
  have hr : refB sv ≤ topB W := by
    simp only [Value.okWide, tree_struct] at hok
    obtain ⟨cs, ecs, hsz, ts, hts, _, hc⟩ := hok
    injection ecs with ecs
    subst ecs
    rw [tre_ct24, Option.some.injEq] at hts
    subst hts
    obtain ⟨_, e0, h0⟩ := hc 0 sv rfl
    simp at e0
    subst e0
    have h6 : Value.okWide Tryd.prog W r base 22 sv := by simp only [Value.okWide, tre_twigs]; exact h0
    rcases okSlice tre_twigs h6 with rfl | ⟨a, len, cap, rfl, hb⟩
    · simp [refB]
    have := topB_size W
    simp only [refB]; omega
  have hz := sz_of_trod (B := 140737488351232) fuel 24 [sv] (d, ps) (fun v hv' => by
    simp only [List.mem_singleton] at hv'
    subst hv'; exact hr) hB hf
  rw [selfX_of hv] at hz
  have h7 := hz.fld tree_struct 0 0 22 rfl ⟨rfl, rfl⟩
  rw [tre_c22] at h7
  have h7 : Sz Tryd.prog (Hp.all W) 140737488351232 22 [sv] := h7
  obtain ⟨i, hi, rfl⟩ := List.mem_iff_getElem.1 htm
  obtain ⟨b, o, c, cs, e, m, rfl, hg, hlb, hl6, hat⟩ := X.at (by omega)
  have h8 := (h7.inv tre_twigs).2 b o cs e m rfl hg i hi
  rw [tre_c30, hat i hi] at h8
  have h9 := h8.fld twig_struct 5 5 28 rfl ⟨rfl, rfl⟩
  rw [tre_c28] at h9
  have h9 : Sz Tryd.prog (Hp.all W) 140737488351232 28 [T[i].ks] := h9
  have hR := X.2 _ (List.getElem_mem hi)
  obtain ⟨ka, kc, hks⟩ := hR.valM
  rw [hks] at h9
  have := (h9.inv tre_ints).1
  rwa [tre_b3] at this
end Go.Proofs.YtoejddhaiogonaaDoor
