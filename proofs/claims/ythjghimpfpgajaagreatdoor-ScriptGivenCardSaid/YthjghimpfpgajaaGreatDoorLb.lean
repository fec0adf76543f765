/- Chapter 12 (Given): what the document says is given. Conditions: rows of 100000 entries at most. Chapter 12: the law ScriptGiven. Conditions: the table of powers. Chapter 12 (Given): the table of powers, rows of entries and of numbers that are arguments, as X has them. Conditions: none. -/
import Derived.Test.YthjghimpfpgajaaGreatDoorLa
import Derived.Test.YthjghimpfpgajaaGreatDoorXc
import Derived.Test.YthjghimpfpgajaaGreatDoorTie
import Derived.Test.YthjghimpfpgajaaGreatDoorCards
import Derived.SevenTiedAt
import Derived.LaidMore
import Derived.LaidHandle
import Derived.ProofKit
namespace Go.Proofs.YthjghimpfpgajaaGreatDoor
open Go.X Go.Giv

section
variable {h : Hp} {v w : Value} {l : List En} {es : List Int}
set_option maxHeartbeats 4000000 in
/-- The document's Given -/
theorem c7 (X : EnAt h v l) (Z : RowV h w (isV es)) (hI : ∀ x, x ∈ l → inE x) (hl : l.length ≤ 100000) (hm : es.length ≤ 100000) : C givE 7 [v, w] h fun u h' => ∃ G bs, Gv (keptL l es) G ∧ SH h [] [slR 31 2 u (enCs G) G.length bs] h' := by
  have Y := X
  obtain ⟨ta, tc, rfl⟩ := X.val
  have Y2 := Z
  obtain ⟨ua, uc, rfl⟩ := Z.valM
  have hZl : (l.zip es).length = min l.length es.length := List.length_zip
  have hZI : ∀ p, p ∈ l.zip es → inE p.1 := fun p hp => hI _ (List.of_mem_zip hp).1
  have hKZ : (keptL l es).length ≤ (l.zip es).length := kep_len
  have hKx : ∀ x, x ∈ keptL l es → ∃ p, p ∈ l.zip es ∧ p.1 = x ∧ p.2 = 0 ∧ (x.K = 4 ∨ x.K = 5) ∧ inE x := fun x hx => by
    obtain ⟨p, h1, h2, h3⟩ := kep_in hx
    simp only [okG, Bool.and_eq_true, Bool.or_eq_true, decide_eq_true_eq] at h2
    exact ⟨p, h1, h3, h2.1, h3 ▸ h2.2, h3 ▸ hZI p h1⟩
  obtain ⟨K, hK⟩ : ∃ K, K = keptL l es := ⟨_, rfl⟩
  rw [← hK] at hKZ hKx ⊢
  refine c_enter (fu := Tryz.f7) (by kernel_rfl) rfl ?_
  have S := SH.start h
  refine w_seq ?_
  refine w_region (by kernel_rfl) ?_
  refine o_assign gn rfl rfl ?_
  refine wl_end ?_
  refine w_seq ?_
  refine w_region (by kernel_rfl) ?_
  refine o_assign gn rfl rfl ?_
  refine wl_end ?_
  refine w_seq ?_
  refine w_seq ?_
  refine w_region (by kernel_rfl) ?_
  refine o_assign gn rfl rfl ?_
  refine wl_end ?_
  refine w_block ?_
  refine w_loopS [(5, _), (6, _)] [(0, _), (1, _)] (by repeat (first | exact trivial | refine ⟨rfl, ?_⟩)) (fun kk lv hh => ∃ (k : Int) (R : List En) (u : Value) (bs : List Nat), lv = [(5, u), (6, iV k)] ∧ kk = (k - 3).toNat ∧ 3 ≤ k ∧ k ≤ 5 ∧ RtT R K (bot k) ∧ SH h [] [slR 31 2 u (enCs R) R.length bs] hh) (n := 2) ?_ fun kk lv hh hI => ?_
  · exact ⟨5, [], .slice none 0 0, [], rfl, rfl, by omega, by omega, rt_start fun x hx => by
    obtain ⟨_, _, _, _, hk, _, ⟨h1, h2⟩, _⟩ := hKx x hx
    unfold bot rk big; omega, S.nilSl 31 2⟩
  obtain ⟨k, R, u, bs, rfl, rfl, hk3, hk5, hR, S⟩ := hI
  refine w_seq ?_
  refine w_seq ?_
  refine w_region (by kernel_rfl) ?_
  refine o_move gn rfl rfl ?_
  refine o_geq gn rfl rfl rfl ?_
  refine wl_end ?_
  refine w_cond rfl (fun hb => ?_) fun hb => ?_
  · skip
    refine w_skip ?_
    refine w_seq ?_
    refine w_block ?_
    refine w_seq ?_
    have hk4 : k = 4 ∨ k = 5 := by have := of_decide_eq_true hb; omega
    refine w_region (by kernel_rfl) ?_
    refine o_assign gn rfl rfl ?_
    refine o_assign gn rfl rfl ?_
    refine wl_end ?_
    refine w_block ?_
    refine w_loopS [(5, _), (7, _), (8, _)] [(0, _), (1, _), (6, _)] (by repeat (first | exact trivial | refine ⟨rfl, ?_⟩)) (fun kk lv hh => ∃ (R : List En) (u : Value) (bs : List Nat) (a : Int) (f : Bool), lv = [(5, u), (7, iV a), (8, .bool f)] ∧ kk = K.countP (fun x => decide (tk f a k < rk x)) ∧ (f = true → I64 a) ∧ RtT R K (tk f a k) ∧ SH h [] [slR 31 2 u (enCs R) R.length bs] hh) (n := (K.countP (fun x => decide (bot k < rk x)))) ?_ fun kk lv hh hI => ?_
    · exact ⟨R, u, bs, 0, false, rfl, rfl, by simp, hR, S⟩
    obtain ⟨R, u, bs, a, f, rfl, rfl, hf, hR, S⟩ := hI
    have hRl := hR.cnt
    refine w_block ?_
    refine w_seq ?_
    refine w_region (by kernel_rfl) ?_
    refine o_assign gn rfl rfl ?_
    refine o_assign gn rfl rfl ?_
    refine wl_end ?_
    refine w_seq ?_
    refine w_seq ?_
    refine w_region (by kernel_rfl) ?_
    refine o_assign gn rfl rfl ?_
    refine wl_end ?_
    refine w_block ?_
    refine w_loopS [(9, _), (10, _), (11, _)] [(0, _), (1, _), (5, _), (6, _), (7, _), (8, _)] (by repeat (first | exact trivial | refine ⟨rfl, ?_⟩)) (fun kk lv hh => ∃ (i : Nat) (f2 : Bool) (a2 : Int), lv = [(9, iV a2), (10, .bool f2), (11, iV i)] ∧ kk = (l.zip es).length - i ∧ i ≤ (l.zip es).length ∧ (∀ p, p ∈ (l.zip es).take i → Mt k a f p → f2 = true ∧ a2 ≤ p.1.At) ∧ (f2 = true → ∃ p, p ∈ l.zip es ∧ Mt k a f p ∧ p.1.At = a2) ∧ SH h [] [slR 31 2 u (enCs R) R.length bs] hh) (n := ((l.zip es).length)) ?_ fun kk lv hh hI => ?_
    · exact ⟨0, false, 0, rfl, rfl, by omega, by simp, by simp, S⟩
    obtain ⟨i, f2, a2, rfl, rfl, hi3, hall, hex, S⟩ := hI
    refine w_seq ?_
    refine w_seq ?_
    refine w_region (by kernel_rfl) ?_
    refine o_move gn rfl rfl ?_
    refine o_move gn rfl rfl ?_
    refine o_len gn rfl rfl (by kernel_rfl) ?_
    refine o_lss gn rfl rfl rfl ?_
    refine o_move gn rfl rfl ?_
    refine o_and (n := 4) rfl rfl rfl gn rfl (fun hb => by
        refine o_move (gy rfl rfl rfl hb) rfl rfl ?_
        refine o_move (gy rfl rfl rfl hb) rfl rfl ?_
        refine o_len (gy rfl rfl rfl hb) rfl rfl (by kernel_rfl) ?_
        refine o_lss (gy rfl rfl rfl hb) rfl rfl rfl ?_
        exact wl_end ⟨rfl, rfl, 4, rfl, rfl⟩) ?_
    refine wl_end ?_
    refine w_cond rfl (fun hb => ?_) fun hb => ?_
    · skip
      refine w_skip ?_
      have hil1 : i < l.length := by have := and_t hb; omega
      have hil2 : i < es.length := by have := and_t hb; omega
      have hil : i < (l.zip es).length := by omega
      have hzi : (l.zip es)[i] = (l[i], es[i]) := List.getElem_zip
      have htk : (l.zip es).take (i + 1) = (l.zip es).take i ++ [(l[i], es[i])] := by rw [List.take_add_one, List.getElem?_eq_getElem hil, hzi]; rfl
      have hmz : (l[i], es[i]) ∈ l.zip es := by rw [← hzi]; exact List.getElem_mem hil
      obtain ⟨b, o, c, cs, e, m, hv, hg, hlb, hl6, hat⟩ := Y.at (by omega)
      have hta : ta = some ⟨b, o, none⟩ := by injection hv
      have hw : (cs.drop (o + Int.toNat (i : Int) * 3)).take 3 = enC l[i] := by rw [Int.toNat_natCast]; exact hat i hil1
      have hwK : cs[o + Int.toNat (i : Int) * 3 + 0]? = some (iV l[i].K) := cell_at hw (by omega) rfl
      have hwA : cs[o + Int.toNat (i : Int) * 3 + 1]? = some (iV l[i].At) := cell_at hw (by omega) rfl
      obtain ⟨b2, o2, c2, cs2, e2, m2, hv2, hg2, hlb2, hat2⟩ := Y2.atM (by omega)
      have hua : ua = some ⟨b2, o2, none⟩ := by injection hv2
      have hw2 : cs2[o2 + Int.toNat (i : Int) * 1]? = some (iV es[i]) := by rw [Int.toNat_natCast, Nat.mul_one]; exact hat2 i hil2
      refine w_seq ?_
      refine w_block ?_
      refine w_seq ?_
      refine w_region (by kernel_rfl) ?_
      refine o_move gn rfl rfl ?_
      refine o_move gn rfl rfl ?_
      rw [hua]
      refine o_indexAddr (zz := 1) gn rfl rfl rfl (by kernel_rfl) (by omega) (by omega) ?_
      refine o_load gn rfl rfl (by kernel_rfl) (S.old0 hg2 hlb2) hw2 ?_
      rw [← hua]
      refine o_eqi gn rfl rfl rfl ?_
      refine o_move gn rfl rfl ?_
      refine o_and (n := 7) rfl rfl rfl gn rfl (fun hb => by
          refine o_move (gy rfl rfl rfl hb) rfl rfl ?_
          refine o_move (gy rfl rfl rfl hb) rfl rfl ?_
          rw [hta]
          refine o_indexAddr (zz := 3) (gy rfl rfl rfl hb) rfl rfl rfl (by kernel_rfl) (by omega) (by omega) ?_
          refine o_fieldAddr (off := 0) (gy rfl rfl rfl hb) rfl rfl (by kernel_rfl) ?_
          refine o_load (gy rfl rfl rfl hb) rfl rfl (by kernel_rfl) (S.old0 hg hlb) hwK ?_
          rw [← hta]
          refine o_move (gy rfl rfl rfl hb) rfl rfl ?_
          refine o_eqi (gy rfl rfl rfl hb) rfl rfl rfl ?_
          exact wl_end ⟨rfl, rfl, 7, rfl, rfl⟩) ?_
      refine o_move gn rfl rfl ?_
      refine o_and (n := 11) rfl rfl rfl gn rfl (fun hb => by
          refine o_move (gy rfl rfl rfl hb) rfl rfl ?_
          refine o_not (gy rfl rfl rfl hb) rfl rfl ?_
          refine o_move (gy rfl rfl rfl hb) rfl rfl ?_
          refine o_or (n := 7) rfl rfl rfl (gy rfl rfl rfl hb) rfl (fun hb => by
              refine o_move (gy rfl rfl rfl hb) rfl rfl ?_
              refine o_move (gy rfl rfl rfl hb) rfl rfl ?_
              rw [hta]
              refine o_indexAddr (zz := 3) (gy rfl rfl rfl hb) rfl rfl rfl (by kernel_rfl) (by omega) (by omega) ?_
              refine o_fieldAddr (off := 1) (gy rfl rfl rfl hb) rfl rfl (by kernel_rfl) ?_
              refine o_load (gy rfl rfl rfl hb) rfl rfl (by kernel_rfl) (S.old0 hg hlb) hwA ?_
              rw [← hta]
              refine o_move (gy rfl rfl rfl hb) rfl rfl ?_
              refine o_gtr (gy rfl rfl rfl hb) rfl rfl rfl ?_
              exact wl_end ⟨rfl, rfl, 7, rfl, rfl⟩) ?_
          exact wl_end ⟨rfl, rfl, 4, rfl, rfl⟩) ?_
      refine o_move gn rfl rfl ?_
      refine o_and (n := 11) rfl rfl rfl gn rfl (fun hb => by
          refine o_move (gy rfl rfl rfl hb) rfl rfl ?_
          refine o_not (gy rfl rfl rfl hb) rfl rfl ?_
          refine o_move (gy rfl rfl rfl hb) rfl rfl ?_
          refine o_or (n := 7) rfl rfl rfl (gy rfl rfl rfl hb) rfl (fun hb => by
              refine o_move (gy rfl rfl rfl hb) rfl rfl ?_
              refine o_move (gy rfl rfl rfl hb) rfl rfl ?_
              rw [hta]
              refine o_indexAddr (zz := 3) (gy rfl rfl rfl hb) rfl rfl rfl (by kernel_rfl) (by omega) (by omega) ?_
              refine o_fieldAddr (off := 1) (gy rfl rfl rfl hb) rfl rfl (by kernel_rfl) ?_
              refine o_load (gy rfl rfl rfl hb) rfl rfl (by kernel_rfl) (S.old0 hg hlb) hwA ?_
              rw [← hta]
              refine o_move (gy rfl rfl rfl hb) rfl rfl ?_
              refine o_lss (gy rfl rfl rfl hb) rfl rfl rfl ?_
              exact wl_end ⟨rfl, rfl, 7, rfl, rfl⟩) ?_
          exact wl_end ⟨rfl, rfl, 4, rfl, rfl⟩) ?_
      refine wl_end ?_
      refine w_cond rfl (fun hb => ?_) fun hb => ?_
      · skip
        refine w_seq ?_
        obtain ⟨hm1, hm2⟩ := srch_t hb
        refine w_region (by kernel_rfl) ?_
        refine o_move gn rfl rfl ?_
        refine o_move gn rfl rfl ?_
        rw [hta]
        refine o_indexAddr (zz := 3) gn rfl rfl rfl (by kernel_rfl) (by omega) (by omega) ?_
        refine o_fieldAddr (off := 1) gn rfl rfl (by kernel_rfl) ?_
        refine o_load gn rfl rfl (by kernel_rfl) (S.old0 hg hlb) hwA ?_
        rw [← hta]
        refine o_assign gn rfl rfl ?_
        refine wl_end ?_
        refine w_region (by kernel_rfl) ?_
        refine o_assign gn rfl rfl ?_
        refine wl_end ?_
        refine w_region (by kernel_rfl) ?_
        refine o_move gn rfl rfl ?_
        refine o_add gn rfl rfl rfl (by omega) (by omega) ?_
        refine o_assign gn rfl rfl ?_
        refine wl_end ?_
        exact rndS ((l.zip es).length - (i + 1)) (by omega) [(9, _), (10, _), (11, _)] (by repeat (first | exact trivial | refine ⟨rfl, ?_⟩)) ⟨i + 1, true, l[i].At, rfl, rfl, by omega, fun p hp hmt => by
          refine ⟨rfl, ?_⟩
          rw [htk] at hp
          rcases List.mem_append.1 hp with hp | hp
          · obtain ⟨q1, q2⟩ := hall p hp hmt
            have := hm2 q1
            omega
          rw [List.mem_singleton.1 hp]; exact Int.le_refl _, fun _ => ⟨_, hmz, hm1, rfl⟩, S⟩
      refine w_skip ?_
      refine w_region (by kernel_rfl) ?_
      refine o_move gn rfl rfl ?_
      refine o_add gn rfl rfl rfl (by omega) (by omega) ?_
      refine o_assign gn rfl rfl ?_
      refine wl_end ?_
      exact rndS ((l.zip es).length - (i + 1)) (by omega) [(9, _), (10, _), (11, _)] (by repeat (first | exact trivial | refine ⟨rfl, ?_⟩)) ⟨i + 1, f2, a2, rfl, rfl, by omega, fun p hp hmt => by
        rw [htk] at hp
        rcases List.mem_append.1 hp with hp | hp
        · exact hall p hp hmt
        rw [List.mem_singleton.1 hp] at hmt ⊢
        exact srch_f hb hmt, hex, S⟩
    refine w_exit ?_
    refine thn_exit ?_
    refine rnd_exit ?_
    refine blk_eq ?_
    refine w_seq ?_
    refine w_seq ?_
    have hie : i = (l.zip es).length := by have := and_f hb; omega
    subst hie
    rw [List.take_length] at hall
    refine w_region (by kernel_rfl) ?_
    refine o_move gn rfl rfl ?_
    refine o_not gn rfl rfl ?_
    refine wl_end ?_
    refine w_cond rfl (fun hb => ?_) fun hb => ?_
    · skip
      refine w_exit ?_
      refine thn_exit ?_
      refine blk_ne (by decide) ?_
      refine rnd_exit ?_
      refine blk_eq ?_
      have hf2 : f2 = false := by simpa using hb
      refine w_region (by kernel_rfl) ?_
      refine o_move gn rfl rfl ?_
      refine o_sub gn rfl rfl rfl (by omega) (by omega) ?_
      refine o_assign gn rfl rfl ?_
      refine wl_end ?_
      exact rndS ((k - 1 - 3).toNat) (by omega) [(5, _), (6, _)] (by repeat (first | exact trivial | refine ⟨rfl, ?_⟩)) ⟨k - 1, R, u, bs, rfl, rfl, by omega, by omega, rt_skip hR (skip_le hf) fun x hx hT => by
        obtain ⟨p, h1, rfl, h2, h3, h4⟩ := hKx x hx
        refine skip_ok (fun e => ?_) h4 hf hT
        have := (hall p h1 ⟨h2, e, mt_of e hT⟩).1
        rw [hf2] at this
        exact Bool.noConfusion this, S⟩
    refine w_skip ?_
    refine w_seq ?_
    refine w_seq ?_
    have hf2 : f2 = true := by simpa using hb
    obtain ⟨p, hp, hmt, hpa⟩ := hex hf2
    have ha2 : I64 a2 := by rw [← hpa]; exact (hZI p hp).2.1
    have hTT : tk f a k < tk true a2 k := next_lt ha2 fun e => by rw [← hpa]; exact hmt.2.2 e
    have hnx : ∀ x, x ∈ K → tk f a k < rk x → tk true a2 k ≤ rk x := fun x hx hT => by
      obtain ⟨q, h1, rfl, h2, h3, h4⟩ := hKx x hx
      exact next_ok h4 hf ha2 hT fun e => (hall q h1 ⟨h2, e, mt_of e hT⟩).2
    have hpK : p.1 ∈ K := by
      rw [hK]
      refine in_kep hp ?_
      simp only [okG, Bool.and_eq_true, Bool.or_eq_true, decide_eq_true_eq]
      exact ⟨hmt.1, by rw [hmt.2.1]; exact hk4⟩
    have hless := cnt_less hTT hpK hnx (by rw [tk, if_pos rfl, rk, hmt.2.1, hpa])
    have hkA : kep (okA k a2) (l.zip es) = ofR (tk true a2 k) K := by rw [tk, if_pos rfl, hK]; exact okA_eq hZI hk4 ha2
    refine w_region (by kernel_rfl) ?_
    refine o_assign gn rfl rfl ?_
    refine wl_end ?_
    refine w_block ?_
    refine w_loopS [(5, _), (12, _)] [(0, _), (1, _), (6, _), (7, _), (8, _), (9, _)] (by repeat (first | exact trivial | refine ⟨rfl, ?_⟩)) (fun kk lv hh => ∃ (i : Nat) (u : Value) (bs : List Nat), lv = [(5, u), (12, iV i)] ∧ kk = (l.zip es).length - i ∧ i ≤ (l.zip es).length ∧ SH h [] [slR 31 2 u (enCs (R ++ kep (okA k a2) ((l.zip es).take i))) (R ++ kep (okA k a2) ((l.zip es).take i)).length bs] hh) (n := ((l.zip es).length)) ?_ fun kk lv hh hI => ?_
    · exact ⟨0, u, bs, rfl, rfl, by omega, by
      rw [List.take_zero]
      show SH h [] [slR 31 2 u (enCs (R ++ [])) (R ++ []).length bs] hh
      rw [List.append_nil]; exact S⟩
    obtain ⟨i, u, bs, rfl, rfl, hi3, S⟩ := hI
    refine w_seq ?_
    refine w_seq ?_
    refine w_region (by kernel_rfl) ?_
    refine o_move gn rfl rfl ?_
    refine o_move gn rfl rfl ?_
    refine o_len gn rfl rfl (by kernel_rfl) ?_
    refine o_lss gn rfl rfl rfl ?_
    refine o_move gn rfl rfl ?_
    refine o_and (n := 4) rfl rfl rfl gn rfl (fun hb => by
        refine o_move (gy rfl rfl rfl hb) rfl rfl ?_
        refine o_move (gy rfl rfl rfl hb) rfl rfl ?_
        refine o_len (gy rfl rfl rfl hb) rfl rfl (by kernel_rfl) ?_
        refine o_lss (gy rfl rfl rfl hb) rfl rfl rfl ?_
        exact wl_end ⟨rfl, rfl, 4, rfl, rfl⟩) ?_
    refine wl_end ?_
    refine w_cond rfl (fun hb => ?_) fun hb => ?_
    · skip
      refine w_skip ?_
      have hil1 : i < l.length := by have := and_t hb; omega
      have hil2 : i < es.length := by have := and_t hb; omega
      have hil : i < (l.zip es).length := by omega
      have hnxt := kep_next (q := okA k a2) hil
      have hzi : (l.zip es)[i] = (l[i], es[i]) := List.getElem_zip
      have hkl := kep_len (q := okA k a2) (Z := (l.zip es).take i)
      rw [List.length_take] at hkl
      have hRk : (R ++ kep (okA k a2) ((l.zip es).take i)).length = R.length + (kep (okA k a2) ((l.zip es).take i)).length := List.length_append
      rw [hzi] at hnxt
      obtain ⟨b, o, c, cs, e, m, hv, hg, hlb, hl6, hat⟩ := Y.at (by omega)
      have hta : ta = some ⟨b, o, none⟩ := by injection hv
      have hw : (cs.drop (o + Int.toNat (i : Int) * 3)).take 3 = enC l[i] := by rw [Int.toNat_natCast]; exact hat i hil1
      have hwK : cs[o + Int.toNat (i : Int) * 3 + 0]? = some (iV l[i].K) := cell_at hw (by omega) rfl
      have hwA : cs[o + Int.toNat (i : Int) * 3 + 1]? = some (iV l[i].At) := cell_at hw (by omega) rfl
      obtain ⟨b2, o2, c2, cs2, e2, m2, hv2, hg2, hlb2, hat2⟩ := Y2.atM (by omega)
      have hua : ua = some ⟨b2, o2, none⟩ := by injection hv2
      have hw2 : cs2[o2 + Int.toNat (i : Int) * 1]? = some (iV es[i]) := by rw [Int.toNat_natCast, Nat.mul_one]; exact hat2 i hil2
      refine w_seq ?_
      refine w_block ?_
      refine w_seq ?_
      refine w_region (by kernel_rfl) ?_
      refine o_move gn rfl rfl ?_
      refine o_move gn rfl rfl ?_
      rw [hua]
      refine o_indexAddr (zz := 1) gn rfl rfl rfl (by kernel_rfl) (by omega) (by omega) ?_
      refine o_load gn rfl rfl (by kernel_rfl) (S.old0 hg2 hlb2) hw2 ?_
      rw [← hua]
      refine o_eqi gn rfl rfl rfl ?_
      refine o_move gn rfl rfl ?_
      refine o_and (n := 7) rfl rfl rfl gn rfl (fun hb => by
          refine o_move (gy rfl rfl rfl hb) rfl rfl ?_
          refine o_move (gy rfl rfl rfl hb) rfl rfl ?_
          rw [hta]
          refine o_indexAddr (zz := 3) (gy rfl rfl rfl hb) rfl rfl rfl (by kernel_rfl) (by omega) (by omega) ?_
          refine o_fieldAddr (off := 0) (gy rfl rfl rfl hb) rfl rfl (by kernel_rfl) ?_
          refine o_load (gy rfl rfl rfl hb) rfl rfl (by kernel_rfl) (S.old0 hg hlb) hwK ?_
          rw [← hta]
          refine o_move (gy rfl rfl rfl hb) rfl rfl ?_
          refine o_eqi (gy rfl rfl rfl hb) rfl rfl rfl ?_
          exact wl_end ⟨rfl, rfl, 7, rfl, rfl⟩) ?_
      refine o_move gn rfl rfl ?_
      refine o_and (n := 7) rfl rfl rfl gn rfl (fun hb => by
          refine o_move (gy rfl rfl rfl hb) rfl rfl ?_
          refine o_move (gy rfl rfl rfl hb) rfl rfl ?_
          rw [hta]
          refine o_indexAddr (zz := 3) (gy rfl rfl rfl hb) rfl rfl rfl (by kernel_rfl) (by omega) (by omega) ?_
          refine o_fieldAddr (off := 1) (gy rfl rfl rfl hb) rfl rfl (by kernel_rfl) ?_
          refine o_load (gy rfl rfl rfl hb) rfl rfl (by kernel_rfl) (S.old0 hg hlb) hwA ?_
          rw [← hta]
          refine o_move (gy rfl rfl rfl hb) rfl rfl ?_
          refine o_eqi (gy rfl rfl rfl hb) rfl rfl rfl ?_
          exact wl_end ⟨rfl, rfl, 7, rfl, rfl⟩) ?_
      refine wl_end ?_
      refine w_cond rfl (fun hb => ?_) fun hb => ?_
      · skip
        have hq : okA k a2 l[i] es[i] = true := hb
        rw [hq, if_pos rfl] at hnxt
        refine w_region (by kernel_rfl) ?_
        refine o_move gn rfl rfl ?_
        refine o_move gn rfl rfl ?_
        refine o_move gn rfl rfl ?_
        rw [hta]
        refine o_indexAddr (zz := 3) gn rfl rfl rfl (by kernel_rfl) (by omega) (by omega) ?_
        refine o_loadA (n := 3) gn rfl rfl (by kernel_rfl) (by kernel_rfl) (S.old0 hg hlb) (by rw [Int.toNat_natCast]; omega) ?_
        rw [hw, ← hta]
        refine s_buildSlice (e := 31) (z := 2) (zv := .agg #[.int .i64 0, .int .i64 0, .int .i64 0]) [(0, _)] S gn rfl (by kernel_rfl) (by kernel_rfl) (by kernel_rfl) (by kernel_rfl) rfl (by rfl) fun b1 g nb1 S => ?_
        refine s_append (e := 31) (z := 2) (by' := 23) 1 0 S el22 gn rfl rfl rfl rfl rfl rfl (by rfl) (by omega) (fun s' bs' g S => ag0) fun s' bs' g S => ?_
        refine o_assign gn rfl rfl ?_
        refine wl_end ?_
        refine w_region (by kernel_rfl) ?_
        refine o_move gn rfl rfl ?_
        refine o_add gn rfl rfl rfl (by omega) (by omega) ?_
        refine o_assign gn rfl rfl ?_
        refine wl_end ?_
        exact rndS ((l.zip es).length - (i + 1)) (by omega) [(5, _), (12, _)] (by repeat (first | exact trivial | refine ⟨rfl, ?_⟩)) ⟨i + 1, s', bs', rfl, rfl, by omega, by
          rw [hnxt, ← List.append_assoc, List.length_append, ← enCs_add]; exact S.drop⟩
      refine w_skip ?_
      have hq : ¬ okA k a2 l[i] es[i] = true := by
        have : okA k a2 l[i] es[i] = false := hb
        rw [this]; simp
      rw [if_neg hq, List.append_nil] at hnxt
      refine w_region (by kernel_rfl) ?_
      refine o_move gn rfl rfl ?_
      refine o_add gn rfl rfl rfl (by omega) (by omega) ?_
      refine o_assign gn rfl rfl ?_
      refine wl_end ?_
      exact rndS ((l.zip es).length - (i + 1)) (by omega) [(5, _), (12, _)] (by repeat (first | exact trivial | refine ⟨rfl, ?_⟩)) ⟨i + 1, u, bs, rfl, rfl, by omega, by
        rw [hnxt]; exact S⟩
    refine w_exit ?_
    refine thn_exit ?_
    refine rnd_exit ?_
    refine blk_eq ?_
    refine w_seq ?_
    have hie : i = (l.zip es).length := by have := and_f hb; omega
    subst hie
    rw [List.take_length, hkA] at S
    refine w_region (by kernel_rfl) ?_
    refine o_move gn rfl rfl ?_
    refine o_assign gn rfl rfl ?_
    refine wl_end ?_
    refine w_region (by kernel_rfl) ?_
    refine o_assign gn rfl rfl ?_
    refine wl_end ?_
    refine blk_next ?_
    exact rndS (K.countP (fun x => decide (tk true a2 k < rk x))) (by omega) [(5, _), (7, _), (8, _)] (by repeat (first | exact trivial | refine ⟨rfl, ?_⟩)) ⟨R ++ ofR (tk true a2 k) K, u, bs, a2, true, rfl, rfl, fun _ => ha2, rt_next hR hTT hnx, S⟩
  refine w_exit ?_
  refine thn_exit ?_
  refine rnd_exit ?_
  refine blk_eq ?_
  refine w_seq ?_
  have hk3e : k = 3 := by have := of_decide_eq_false hb; omega
  subst hk3e
  refine w_region (by kernel_rfl) ?_
  refine o_move gn rfl rfl ?_
  refine o_assign gn rfl rfl ?_
  refine wl_end ?_
  refine w_ret ?_
  refine ⟨.inl rfl, _, rfl, ?_⟩
  exact ⟨R, bs, rt_fin hR fun x hx => by
    obtain ⟨_, _, _, _, hk, _, ⟨h1, h2⟩, _⟩ := hKx x hx
    unfold bot rk big; omega, S⟩
end
end Go.Proofs.YthjghimpfpgajaaGreatDoor

namespace Go.Proofs.YthjghimpfpgajaaGreatDoor
open Go.X Go.Giv

theorem giv_sm : givE.sm 4 = some (knownX 0 powsV) := rfl
/-- The table of powers lies. -/
structure Pow (h : Hp) : Prop where
  t : tabThere 0 powsV h = true
  lt : 0 < h.n
theorem Pow.ext {h h' : Hp} (x : Pow h) (g : Ext h h') : Pow h' := ⟨by
  have := x.t
  unfold tabThere at *
  rw [g.get 0 x.lt]; exact this, Nat.lt_of_lt_of_le x.lt g.n⟩
theorem knows {h : Hp} (P : Pow h) : knownX 0 powsV [] h = some (.bool true, h) := by
  simp only [knownX, P.t, cond_true]
theorem enCs_cell : ∀ l : List En, (enCs l).all cellV = true
  | [] => rfl
  | e :: l => by
    have := enCs_cell l
    simp only [enCs, List.flatMap_cons, List.all_append] at *
    rw [this]; rfl
theorem rep_isV (k : Nat) : repeatCells [iV 0] k = isV (List.replicate k 0) := by
  induction k with
  | zero => rfl
  | succ k ih => rw [repeatCells, ih]; rfl
section
variable {h : Hp} {v w : Value} {l : List En} {es : List Int}
set_option maxHeartbeats 4000000 in
/-- ScriptGiven -/
theorem c3 (P : Pow h) (X : EnAt h v l) (Z : RowV h w (isV es)) (hI : ∀ x, x ∈ l → inE x) : C givE 3 [v, w] h fun u _ => u = .bool true := by
  have Y := X
  obtain ⟨ta, tc, hva⟩ := X.val
  have Y2 := Z
  obtain ⟨ua, uc, hwa⟩ := Z.valM
  subst hva
  subst hwa
  refine c_enter (fu := Tryz.f3) (by kernel_rfl) rfl ?_
  have S := SH.start h
  refine w_seq ?_
  refine w_region (by kernel_rfl) ?_
  refine o_assign gn rfl rfl ?_
  refine wl_end ?_
  refine w_seq ?_
  refine w_seq ?_
  refine w_region (by kernel_rfl) ?_
  refine o_move gn rfl rfl ?_
  refine o_len gn rfl rfl (by kernel_rfl) ?_
  refine o_gtr gn rfl rfl rfl ?_
  refine o_move gn rfl rfl ?_
  refine o_or (n := 3) rfl rfl rfl gn rfl (fun hb => by
      refine o_move (gy rfl rfl rfl hb) rfl rfl ?_
      refine o_len (gy rfl rfl rfl hb) rfl rfl (by kernel_rfl) ?_
      refine o_gtr (gy rfl rfl rfl hb) rfl rfl rfl ?_
      exact wl_end ⟨rfl, rfl, 3, rfl, rfl⟩) ?_
  refine wl_end ?_
  refine w_cond rfl (fun hb => ?_) fun hb => ?_
  · skip
    refine w_seq ?_
    refine w_region (by kernel_rfl) ?_
    refine o_sm [] gn rfl rfl (by kernel_rfl) (by kernel_rfl) giv_sm rfl (knows (P.ext S.e0)) (.refl _) ag0 ?_
    refine o_assign gn rfl rfl ?_
    refine wl_end ?_
    refine w_ret ?_
    refine ⟨.inl rfl, _, rfl, ?_⟩
    rfl
  refine w_skip ?_
  refine w_seq ?_
  have hlen : l.length ≤ 100 ∧ es.length ≤ 100 := by simp at hb; omega
  refine w_region (by kernel_rfl) ?_
  refine o_move gn rfl rfl ?_
  obtain ⟨v', g2, bs', q1, q2, q3, q4⟩ := appendS2 el22 (h := h) (s := .slice none 0 0) (cs := []) (n := 0) (bs := []) (.inl ⟨rfl, rfl, rfl, rfl⟩) Y.src (enCs_cell l) (by omega)
  have S := S.grow q3.nil
  rw [List.nil_append, Nat.zero_add] at q2
  have O := (SlC.en q2.toC).1
  have F := Y2.ext S.e0
  have X2 := Y.ext S.e0
  refine o_append gn rfl rfl rfl q1 ag0 ?_
  refine o_assign gn rfl rfl ?_
  refine wl_end ?_
  refine w_seq ?_
  refine w_region (by kernel_rfl) ?_
  refine o_move gn rfl rfl ?_
  refine o_move gn rfl rfl ?_
  refine o_call [_, _] gn rfl rfl (by kernel_rfl) rfl (C.mono (c5 O F hI (by omega) (by omega)) ?_)
  rintro v g ⟨G1, _, H1, S2⟩
  have x := S2.e0
  have O1 := (SlC.en (S2.sl 0 rfl)).1
  have hG1 : G1.length ≤ 100 := by
    have h1 : G1.length ≤ (kep okG (l.zip es)).length := H1.len
    have h2 := kep_len (q := okG) (Z := l.zip es)
    have hz : (l.zip es).length = min l.length es.length := List.length_zip
    omega
  have O := O.ext x
  have F := F.ext x
  have X2 := X2.ext x
  have S := S.grow x
  refine ⟨ag0, ?_⟩
  refine o_assign gn rfl rfl ?_
  refine wl_end ?_
  refine w_seq ?_
  refine w_seq ?_
  refine w_region (by kernel_rfl) ?_
  refine o_move gn rfl rfl ?_
  refine o_move gn rfl rfl ?_
  refine o_move gn rfl rfl ?_
  refine o_call [_, _] gn rfl rfl (by kernel_rfl) rfl (C.mono (c7 X2 F hI (by omega) (by omega)) ?_)
  rintro v g ⟨G2, _, H2, S2⟩
  have x := S2.e0
  have O2 := (SlC.en (S2.sl 0 rfl)).1
  have hGG : G1 = G2 := H1.uniq H2
  subst hGG
  have O := O.ext x
  have O1 := O1.ext x
  have X2 := X2.ext x
  have S := S.grow x
  refine ⟨ag0, ?_⟩
  refine o_call [_, _] gn rfl rfl (by kernel_rfl) rfl (C.mono (c6 O1 O2 (by omega) (by omega)) ?_)
  rintro v g ⟨rfl, x⟩
  have O := O.ext x
  have O1 := O1.ext x
  have X2 := X2.ext x
  rw [decide_eq_true rfl]
  have S := S.grow x
  refine ⟨ag0, ?_⟩
  refine o_not gn rfl rfl ?_
  refine o_move gn rfl rfl ?_
  refine wl_split (dc := 27) rfl (fun hb27 => ?_) fun hb27 => ?_
  · skip
    exact absurd hb27 (by decide)
  refine o_move (gy rfl rfl rfl hb27) rfl rfl ?_
  refine o_move (gy rfl rfl rfl hb27) rfl rfl ?_
  refine o_call [_, _] (gy rfl rfl rfl hb27) rfl rfl (by kernel_rfl) rfl (C.mono (c6 O X2 (by omega) (by omega)) ?_)
  rintro v g ⟨rfl, x⟩
  have O1 := O1.ext x
  rw [decide_eq_true rfl]
  have S := S.grow x
  refine ⟨ag0, ?_⟩
  refine o_not (gy rfl rfl rfl hb27) rfl rfl ?_
  refine o_pickf gn rfl rfl hb27 rfl ?_
  refine wl_end ?_
  refine w_cond rfl (fun hb => ?_) fun hb => ?_
  · skip
    refine w_seq ?_
    exact absurd hb (by decide)
  refine w_skip ?_
  refine w_seq ?_
  obtain ⟨ga, gc, hga⟩ := O1.val
  subst hga
  refine w_region (by kernel_rfl) ?_
  refine o_move gn rfl rfl ?_
  refine o_move gn rfl rfl ?_
  refine o_len gn rfl rfl (by kernel_rfl) ?_
  refine o_makeSlice (e := 32) (z := 0) (zv := .int .i64 0) (by' := 8) gn rfl rfl rfl (by kernel_rfl) (by kernel_rfl) (by kernel_rfl) (by kernel_rfl) (by decide) (by omega) (by omega) (by omega) (by omega) ?_
  have hx2 := Ext.alloc g (.cells (repeatCells (Value.int IntKind.i64 0).cells.toList ((G1.length : Int)).toNat) 32 0)
  have O1 := O1.ext hx2
  have S := S.alloc (.cells (repeatCells (Value.int IntKind.i64 0).cells.toList ((G1.length : Int)).toNat) 32 0)
  refine o_call [_, _] gn rfl rfl (by kernel_rfl) rfl (C.mono (c5 (es := List.replicate G1.length 0) O1 (by
  have q := RowV.of (S.cel 0 rfl) (S.lt1 0 rfl) (n := G1.length) (c := G1.length) (by rw [repeat_len, Int.toNat_natCast]; exact (Nat.mul_one _).symm)
  have e : repeatCells (Value.int IntKind.i64 0).cells.toList ((G1.length : Int)).toNat = isV (List.replicate G1.length 0) := rep_isV G1.length
  exact Eq.mp (congrArg (RowV _ _) e) q) (fun x hx => hI x (kept_ok (H1.mem hx)).1) (by omega) (by simp; omega)) ?_)  -- detent/script.Given
  rintro v g ⟨G3, _, H3, S2⟩
  have x := S2.e0
  rw [kept_all fun x hx => (kept_ok (H1.mem hx)).2] at H3
  have hG3 : G3 = G1 := H3.uniq H1.self
  have O3 := (SlC.en (S2.sl 0 rfl)).1
  rw [hG3] at O3
  have O1 := O1.ext x
  have S := S.grow x
  refine ⟨ag0, ?_⟩
  refine o_move gn rfl rfl ?_
  refine o_call [_, _] gn rfl rfl (by kernel_rfl) rfl (C.mono (c6 O3 O1 (by omega) (by omega)) ?_)
  rintro v g ⟨rfl, x⟩
  rw [decide_eq_true rfl]
  have S := S.grow x
  refine ⟨ag0, ?_⟩
  refine o_move gn rfl rfl ?_
  refine wl_split (dc := 40) rfl (fun hb40 => ?_) fun hb40 => ?_
  · skip
    refine o_sm [] (gy rfl rfl rfl hb40) rfl rfl (by kernel_rfl) (by kernel_rfl) giv_sm rfl (knows (P.ext S.e0)) (.refl _) ag0 ?_
    refine o_pickt gn rfl rfl hb40 rfl ?_
    refine o_assign gn rfl rfl ?_
    refine wl_end ?_
    refine w_ret ?_
    refine ⟨.inl rfl, _, rfl, ?_⟩
    rfl
  exact absurd hb40 (by decide)
end
end Go.Proofs.YthjghimpfpgajaaGreatDoor

namespace Go.Proofs.YthjghimpfpgajaaGreatDoor
open Go.ChangeShapes Go.WideShapes Go.ChangeAt Go.RowKit Go.Deep Go.X Go.Giv

set_option maxRecDepth 100000

theorem giv_bool : Tryz.prog.underlying 4 = some .bool := by kernel_rfl
theorem giv_own : ownKnob Tryz.prog.godebug = none := by kernel_rfl
theorem giv_laid : laidOutB Tryz.prog = true := by kernel_rfl
theorem giv_int : Tryz.prog.underlying 3 = some (.int .i64) := by kernel_rfl
theorem giv_i64 : Tryz.prog.underlying 2 = some (.int .i64) := by kernel_rfl
theorem giv_kind : Tryz.prog.underlying 29 = some (.int .i64) := by kernel_rfl
theorem giv_row : Tryz.prog.underlying 22 = some (.slice 31) := by kernel_rfl
theorem giv_nos : Tryz.prog.underlying 23 = some (.slice 32) := by kernel_rfl
theorem giv_no : Tryz.prog.underlying 32 = some (.int .i64) := by kernel_rfl
theorem giv_c31 : Tryz.prog.cellsOf 31 = 3 := by kernel_rfl
theorem giv_c32 : Tryz.prog.cellsOf 32 = 1 := by kernel_rfl
theorem giv_c29 : Tryz.prog.cellsOf 29 = 1 := by kernel_rfl
theorem giv_c3 : Tryz.prog.cellsOf 3 = 1 := by kernel_rfl
theorem giv_c2 : Tryz.prog.cellsOf 2 = 1 := by kernel_rfl
noncomputable def enFs : Array Field := match Tryz.prog.underlying 31 with | some (.struct fs) => fs | _ => #[]
theorem en_struct : Tryz.prog.underlying 31 = some (.struct enFs) := by kernel_rfl
theorem giv_named : Tryz.prog.globalNamed "internal/strconv.uint64pow10" = some 0 := by kernel_rfl
theorem giv_type : (Tryz.prog.globals[0]?).map (·.type) = some 166 := by kernel_rfl
theorem giv_arr : Tryz.prog.underlying 166 = some (.array 20 115) := by kernel_rfl
theorem giv_u64 : Tryz.prog.underlying 115 = some (.int .u64) := by kernel_rfl
theorem giv_cell : Tryz.prog.cellsOf 115 = 1 := by kernel_rfl
theorem giv_cells : Tryz.prog.cellsOf 166 = 20 := by kernel_rfl
theorem pow_of {L : List (String × DataW Unit)} (hb : ((L.filter fun x => x.2.handleName?.isNone).filter fun x => x.1 == "internal/strconv.uint64pow10") = [("internal/strconv.uint64pow10", Lib.tabData .u64 pows)]) {W : World} (h : laidMetH Tryz.prog L W) : Pow (Hp.all W) := by
  refine ⟨?_, by have := topB_256 W; show 0 < topB W; omega⟩
  have h1 := (laidMetH_iff.1 h).1.filter fun x => x.1 == "internal/strconv.uint64pow10"
  rw [hb] at h1
  have hT : Lib.TabIs Tryz.prog W "internal/strconv.uint64pow10" .u64 pows := Lib.tabIs_of_head giv_named giv_type giv_arr giv_u64 giv_cell giv_cells (rest := []) h1
  obtain ⟨e, fr, hg⟩ := tab_block giv_named hT
  have hget : (Hp.all W).get 0 = some (.cells powsV e 1) := by
    rw [Hp.all_get, allObj, hg]
    simp only [Option.some.injEq, AObj.cells.injEq, and_true]
    rw [powsV, List.map_map]
    refine List.map_congr_left fun n _ => ?_
    exact selfX_eq (.int _ _)
  have hs : tabThere 0 powsV (Hp.empty.put 0 (.cells powsV 0 1)) = true := by kernel_rfl
  unfold tabThere at *
  rw [hget]
  rw [Hp.get_put, if_pos rfl] at hs
  exact hs
/-- An entry. -/
theorem en_rd {h : Hp} {cs : List Value} (x : Rd Tryz.prog h 31 cs) : ∃ e : En, cs = enC e ∧ inE e := by
  have hl := (x.inv_struct en_struct).1
  rw [giv_c31] at hl
  obtain ⟨K, e0, hK⟩ := x.fld_int en_struct 0 0 29 rfl ⟨rfl, rfl⟩ giv_kind giv_c29
  obtain ⟨A, e1, hA⟩ := x.fld_int en_struct 1 1 3 rfl ⟨rfl, rfl⟩ giv_int giv_c3
  obtain ⟨N, e2, hN⟩ := x.fld_int en_struct 2 2 2 rfl ⟨rfl, rfl⟩ giv_i64 giv_c2
  match cs, hl with
  | [c0, c1, c2], _ =>
    simp only [List.getElem?_cons_zero, List.getElem?_cons_succ, Option.some.injEq] at e0 e1 e2
    subst e0; subst e1; subst e2
    have m1 : IntKind.i64.min = -9223372036854775808 := by decide
    have m2 : IntKind.i64.max = 9223372036854775807 := by decide
    rw [m1, m2] at hK hA hN
    exact ⟨⟨K, A, N⟩, rfl, hK, hA, hN⟩
/-- A row of entries. -/
theorem ens_rd {h : Hp} {v : Value} (x : Rd Tryz.prog h 22 [v]) : ∃ l, EnAt h v l ∧ ∀ e, e ∈ l → inE e := by
  obtain ⟨a, n, c, e, _, _, _, _, hrow⟩ := x.inv_slice giv_row (by rw [giv_c31]; omega)
  simp only [List.cons.injEq, and_true] at e
  subst e
  rcases hrow with rfl | ⟨b, o, xs, u, rfl, hb, hg, hl, hr⟩
  · exact ⟨[], .inl ⟨rfl, a, c, rfl⟩, by simp⟩
  rw [giv_c31] at hl hr
  obtain ⟨l, hll, hq⟩ := rows_of (Q := fun i (w : En) => (xs.drop (o + i * 3)).take 3 = enC w ∧ inE w) fun i hi => en_rd (hr i hi)
  refine ⟨l, .inr ⟨b, o, c, xs, u, 1, by rw [hll], hg, hb, by rw [hll]; exact hl, fun i hi => (hq i hi).1⟩, fun e he => ?_⟩
  obtain ⟨i, hi, rfl⟩ := List.mem_iff_getElem.1 he
  exact (hq i hi).2
/-- A row of numbers. -/
theorem nos_rd {h : Hp} {v : Value} (x : Rd Tryz.prog h 23 [v]) : ∃ es, RowV h v (isV es) := by
  obtain ⟨a, n, c, e, _, _, _, _, hrow⟩ := x.inv_slice giv_nos (by rw [giv_c32]; omega)
  simp only [List.cons.injEq, and_true] at e
  subst e
  rcases hrow with rfl | ⟨b, o, xs, u, rfl, hb, hg, hl, hr⟩
  · exact ⟨[], .inl ⟨rfl, a, c, rfl⟩⟩
  rw [giv_c32] at hl hr
  obtain ⟨es, hll, hq⟩ := rows_of (Q := fun i (k : Int) => (xs.drop (o + i * 1)).take 1 = [iV k]) fun i hi => by
    obtain ⟨k, e, _⟩ := (hr i hi).inv_int giv_no
    exact ⟨k, e⟩
  refine ⟨es, .inr ⟨b, o, c, xs, u, 1, by rw [List.length_map, hll], hg, hb, fun i hi => ?_⟩⟩
  have hi' : i < es.length := by simpa using hi
  have := cell_at (f := 0) (hq i hi') (by omega) rfl
  rw [Nat.mul_one, Nat.add_zero] at this
  rw [this, List.getElem_map]
end Go.Proofs.YthjghimpfpgajaaGreatDoor
