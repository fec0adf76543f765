/- The calculus: great rows, copied and appended to (up to 2^47 bytes). Conditions: none. The calculus: pieces of the memory taken together as one; maps by what is found in them. Conditions: none. -/
import Derived.Test.YtkidomfnmpnmaaaGreatDoorXd
namespace Go.X
section
variable {e z : Nat} {h h' : Hp} {s w : Value} {cs xs : List Value} {n m : Nat} {bs ds : List Nat}
end
section
variable {E : Env} {fn : FuncId} {nt : Nat} {l : Kn} {h h0 : Hp} {dr : Bool} {ops : Array Oper} {fin rest : List (Oper × List Oper)} {R : Kn → Hp → Prop} {lt : List Oper} {ds : List Nat} {L : List Res}
variable {d : Nat} {ty t : TypeId} {pos : String} {af : Array Edge} {gg : Option (Nat × Bool)} {x y : Operand} {v : Value}
end
end Go.X
namespace Go.X
def Qct (Q : List Res → Prop) (bs : List Nat) : Res := ⟨bs, fun h => ∃ L, Q L ∧ owns L = bs ∧ ∀ r, r ∈ L → r.P h, fun h h' k hn p => by
  obtain ⟨L, h1, h2, h3⟩ := p
  exact ⟨L, h1, h2, fun r hr => r.st h h' (fun i hi => k i (by rw [← h2]; exact Z7 hr hi)) hn (h3 r hr)⟩⟩
section
variable {h0 h h' : Hp} {ds bs : List Nat} {A L : List Res} {Q : List Res → Prop} {E : Env}
theorem Qc3 (S : SH h0 ds (A ++ [Qct Q bs]) h) : ∃ L, Q L ∧ owns L = bs ∧ SH h0 ds (A ++ L) h := by
  obtain ⟨L, h1, h2, h3⟩ := S.hold (Qct Q bs) (by simp)
  have e : owns (A ++ L) = owns (A ++ [Qct Q bs]) := by
    rw [Zg, Zg, h2]; simp [owns, Qct]
  refine ⟨L, h1, h2, S.ext, fun r hr => ?_, by rw [e]; exact S.lt, by rw [e]; exact S.new, by rw [e]; exact S.nd⟩; rcases List.mem_append.1 hr with hr | hr
  · exact S.hold r (List.mem_append_left _ hr)
  exact h3 r hr
theorem Qc2 (S : SH h0 ds (A ++ L) h) (hq : Q L) : SH h0 ds (A ++ [Qct Q (owns L)]) h := by
  have e : owns (A ++ [Qct Q (owns L)]) = owns (A ++ L) := by
    rw [Zg, Zg]; simp [owns, Qct]
  refine ⟨S.ext, fun r hr => ?_, by rw [e]; exact S.lt, by rw [e]; exact S.new, by rw [e]; exact S.nd⟩; rcases List.mem_append.1 hr with hr | hr
  · exact S.hold r (List.mem_append_left _ hr)
  rw [List.mem_singleton.1 hr]; exact ⟨L, hq, rfl, fun r hr => S.hold r (List.mem_append_right _ hr)⟩
def mpR {K α : Type} [DecidableEq K] (key : K → Value) (enc : α → Value) (r : Nat) (F : K → Option α) : Res := ⟨[r], fun h => ∃ (M : MsK K) (cl : Nat), h.get r = some (.map (M.map (Q1n key)) cl) ∧ ∀ k, Q0e M k = (F k).map enc, fun h h' k _ p => by
  obtain ⟨M, cl, h1, h2⟩ := p
  exact ⟨M, cl, by rw [(k r (by simp)).2]; exact h1, h2⟩⟩
variable {K α : Type} [DecidableEq K] {key : K → Value} {enc : α → Value} {F G : K → Option α} {r : Nat}
theorem Q3H (S : SH h0 ds L h) (i : Nat) (e : L[i]? = some (mpR key enc r F)) : ∃ (M : MsK K) (cl : Nat), SH h0 ds (L.set i (cR r (.map (M.map (Q1n key)) cl))) h ∧ ∀ k, Q0e M k = (F k).map enc := by
  obtain ⟨M, cl, h1, h2⟩ := S.res i e; refine ⟨M, cl, S.upd i e (.refl _ _) h1 (fun j hj => ?_) (fun j hj => .inl hj) (by simp [cR]), h2⟩; exact S.lt j (Z7 (List.mem_of_getElem? e) hj)
theorem J7 (S : SH h0 ds L h) (i : Nat) {M : MsK K} {cl : Nat} (e : L[i]? = some (cR r (.map (M.map (Q1n key)) cl))) (hF : ∀ k, Q0e M k = (F k).map enc) : SH h0 ds (L.set i (mpR key enc r F)) h :=
  S.upd i e (.refl _ _) ⟨M, cl, S.cel i e, hF⟩ (fun j hj => S.lt j (Z7 (List.mem_of_getElem? e) hj)) (fun j hj => .inl hj) (by simp [mpR])
theorem Q2L (S : SH h0 ds L h) (i : Nat) (e : L[i]? = some (mpR key enc r F)) : ∃ (M : MsK K) (cl : Nat), h.get r = some (.map (M.map (Q1n key)) cl) ∧ ∀ k, Q0e M k = (F k).map enc := S.res i e
theorem SH.atEnd {r : Res} (S : SH h0 ds L h) (hp : r.P h) (ho : r.own = []) : SH h0 ds (L ++ [r]) h := by
  have e : owns (L ++ [r]) = owns L := by rw [Zg]; simp [owns, ho]
  refine ⟨S.ext, fun q hq => ?_, by rw [e]; exact S.lt, by rw [e]; exact S.new, by rw [e]; exact S.nd⟩; rcases List.mem_append.1 hq with hq | hq
  · exact S.hold q hq
  rw [List.mem_singleton.1 hq]; exact hp
theorem SH.ins {a m : Res} {F B C : List Res} (S : SH h0 ds (a :: m :: (F ++ (B ++ C))) h) : SH h0 ds (a :: (F ++ ((B ++ [m]) ++ C))) h := by
  refine S.sub (B := []) ?_; rw [List.append_nil]; refine List.Perm.cons a ?_; have e1 : F ++ ((B ++ [m]) ++ C) = (F ++ B) ++ m :: C := by simp
  have e2 : m :: (F ++ (B ++ C)) = m :: ((F ++ B) ++ C) := by simp
  rw [e1, e2]; exact List.perm_middle
theorem SH.out {m : Res} {F B C : List Res} (S : SH h0 ds (F ++ ((B ++ [m]) ++ C)) h) : SH h0 ds (F ++ (B ++ C)) h := by
  refine S.sub (B := [m]) ?_; have e1 : F ++ ((B ++ [m]) ++ C) = (F ++ B) ++ m :: C := by simp
  have e2 : F ++ (B ++ C) ++ [m] = (F ++ B) ++ (C ++ [m]) := by simp
  rw [e1, e2]; exact (List.perm_append_comm (l₁ := C) (l₂ := [m])).append_left _
theorem sl_cut {e z n c b : Nat} {cs : List Value} {bs : List Nat} (x : SlC e z h (.slice (some ⟨b, 0, none⟩) n c) cs n bs) {k : Nat} (hk : k ≤ n) : SlC e z h (.slice (some ⟨b, 0, none⟩) k c) (cs.take (k * (z + 1))) k bs := by
  rcases x with ⟨h1, _⟩ | ⟨b', m, c', r, h1, h2, h3, h4, h5, h6, h7, h8⟩
  · cases h1
  cases h1; have hle : k * (z + 1) ≤ n * (z + 1) := Nat.mul_le_mul_right _ hk; refine .inr ⟨b, m, c, cs.drop (k * (z + 1)) ++ r, rfl, by rw [← List.append_assoc, List.take_append_drop]; exact h2, h3, h4, h5, by rw [List.length_take]; omega, by omega, ?_⟩; rw [List.length_append, List.length_drop, h6, h8, Nat.sub_mul, Nat.sub_mul]; have : n * (z + 1) ≤ c * (z + 1) := Nat.mul_le_mul_right _ h7; omega
theorem SH.cutSl {e z n c b k : Nat} {s : Value} {cs : List Value} {bs : List Nat} (S : SH h0 ds L h) (i : Nat) (hi : L[i]? = some (slR e z s cs n bs)) (hs : s = .slice (some ⟨b, 0, none⟩) n c) (hk : k ≤ n) : SH h0 ds (L.set i (slR e z (.slice (some ⟨b, 0, none⟩) k c) (cs.take (k * (z + 1))) k bs)) h := by
  subst hs; exact S.upd i hi (.refl _ _) (sl_cut (S.sl i hi) hk) (fun j hj => S.lt j (Z7 (List.mem_of_getElem? hi) hj)) (fun j hj => .inl hj) (S.sl i hi).nodup
theorem sl_blk {e z n c b : Nat} {cs : List Value} {bs : List Nat} (x : SlC e z h (.slice (some ⟨b, 0, none⟩) n c) cs n bs) : ∃ vs m, h.get b = some (.cells vs e m) ∧ (m = 0 ∨ m = z + 3) ∧ n ≤ c := by
  rcases x with ⟨h1, _⟩ | ⟨b', m, c', r, h1, h2, h3, h4, h5, h6, h7, h8⟩
  · cases h1
  cases h1; exact ⟨_, m, h2, h3, h7⟩
theorem JE {e z n c b : Nat} {cs : List Value} {bs : List Nat} (x : SlC e z h (.slice (some ⟨b, 0, none⟩) n c) cs n bs) : ∃ rest m, h.get b = some (.cells (cs ++ rest) e m) := by
  rcases x with ⟨h1, _⟩ | ⟨b', m, c', r, h1, h2, _⟩
  · cases h1
  cases h1; exact ⟨r, m, h2⟩
theorem Q4t {k : Nat} {x y : Res} (e : L[k]? = some x) : (L.set k y)[k]? = some y := by
  rw [List.getElem?_set_self (List.getElem?_eq_some_iff.1 e).1]
theorem sl_open {e z n i : Nat} {s : Value} {cs : List Value} (S : SH h0 ds L h) (i : Nat) (hi : L[i]? = some (slR e z s cs n bs)) (hn : 0 < n) :
    ∃ b m c rest, s = .slice (some ⟨b, 0, none⟩) n c ∧ bs = [b] ∧ (m = 0 ∨ m = z + 3) ∧ cs.length = n * (z + 1) ∧ n ≤ c ∧ rest.length = (c - n) * (z + 1) ∧ SH h0 ds (L.set i (cR b (.cells (cs ++ rest) e m))) h := by
  have hl := fun j hj => S.lt j (Z7 (List.mem_of_getElem? hi) hj); rcases S.sl i hi with ⟨_, _, h3, _⟩ | ⟨b, m, c, rest, h1, h2, h3, h4, rfl, h5, h6, h7⟩
  · omega
  exact ⟨b, m, c, rest, h1, rfl, h3, h5, h6, h7, S.upd i hi (.refl _ _) h2 hl (fun j hj => .inl hj) (by simp [cR])⟩
theorem Kl {e z n : Nat} {s : Value} {cs : List Value} {bs : List Nat} (x : SlC e z h s cs n bs) (hn : 0 < n) : ∃ b c, s = .slice (some ⟨b, 0, none⟩) n c ∧ bs = [b] ∧ cs.length = n * (z + 1) := by
  rcases x with ⟨_, _, h3, _⟩ | ⟨b, m, c, rest, h1, h2, h3, h4, h5, h6, _⟩
  · omega
  exact ⟨b, c, h1, h5, h6⟩
end
section
variable {E : Env} {fn : FuncId} {nt : Nat} {l : Kn} {h h0 : Hp} {dr : Bool} {ops : Array Oper} {fin rest : List (Oper × List Oper)} {R : Kn → Hp → Prop} {lt : List Oper} {ds : List Nat} {L : List Res}
variable {ty t : TypeId} {pos : String} {af : Array Edge} {gg : Option (Nat × Bool)} {x y : Operand} {v : Value}
theorem Q8W {b c n e z o : Nat} {s : Value} {cs : List Value} {bs : List Nat} (k : Nat) (S : SH h0 ds L h) (g : Gd ops l gg) (hx : evl l x = some (.pointer (some ⟨b, o, none⟩))) (hy : evl l y = some v) (hc : cellV v = true) (ht : E.size t = some 1)
    (hi : L[k]? = some (slR e z s cs n bs)) (hs : s = .slice (some ⟨b, 0, none⟩) n c) (hv : o < cs.length) (ha : ∀ h', SH h0 ds (L.set k (slR e z s (cs.set o v) n bs)) h' → ∀ q, q ∈ lt → Again E ops l h' q)
    (q : ∀ h', SH h0 ds (L.set k (slR e z s (cs.set o v) n bs)) h' → WL E fn nt dr ops fin rest l h' R) : WL E fn nt dr ops fin ((⟨none, .store t x y, ty, pos, af, gg⟩, lt) :: rest) l h R := by
  subst hs; rcases S.sl k hi with ⟨h1, _⟩ | ⟨b', m, c', r, h1, h2, h3, h4, rfl, h5, h6, h7⟩
  · cases h1
  cases h1; have e1 : (cs ++ r).set o v = cs.set o v ++ r := List.set_append_left _ _ hv
  have S' : SH h0 ds (L.set k (slR e z (.slice (some ⟨b, 0, none⟩) n c) (cs.set o v) n [b])) (h.put b (.cells ((cs ++ r).set o v) e m)) :=
    S.upd k hi (ExtB.put h b _) (.inr ⟨b, m, c, r, rfl, by rw [Hp.get_put_self, e1], h3, by rw [Hp.n_put]; omega, rfl, by rw [List.length_set]; exact h5, h6, h7⟩) (fun j hj => by simp only [slR, List.mem_singleton] at hj; subst hj; rw [Hp.n_put]; omega) (fun j hj => .inl hj) (by simp [slR])
  exact Q9f g hx hy hc ht h2 (by omega) (by rw [List.length_append]; omega) (ha _ S') (q _ S')
theorem Qci {b c n e z o : Nat} {s : Value} {cs cs' : List Value} {vs : Array Value} {bs : List Nat} (k : Nat) (S : SH h0 ds L h) (g : Gd ops l gg) (hx : evl l x = some (.pointer (some ⟨b, o, none⟩))) (hy : evl l y = some (.agg vs)) (hc : vs.toList.all cellV = true) (ht : E.size t = some (z + 1)) (hn : vs.size = z + 1)
    (hi : L[k]? = some (slR e z s cs n bs)) (hs : s = .slice (some ⟨b, 0, none⟩) n c) (hv : o + (z + 1) ≤ cs.length) (hcs : cs.take o ++ vs.toList ++ cs.drop (o + (z + 1)) = cs') (ha : ∀ h', SH h0 ds (L.set k (slR e z s cs' n bs)) h' → ∀ q, q ∈ lt → Again E ops l h' q)
    (q : ∀ h', SH h0 ds (L.set k (slR e z s cs' n bs)) h' → WL E fn nt dr ops fin rest l h' R) : WL E fn nt dr ops fin ((⟨none, .store t x y, ty, pos, af, gg⟩, lt) :: rest) l h R := by
  subst hs; subst hcs; rcases S.sl k hi with ⟨h1, _⟩ | ⟨b', m, c', r, h1, h2, h3, h4, rfl, h5, h6, h7⟩
  · cases h1
  cases h1; have hn' : vs.toList.length = z + 1 := by simpa using hn
  have e1 : (cs ++ r).take o ++ vs.toList ++ (cs ++ r).drop (o + (z + 1)) = (cs.take o ++ vs.toList ++ cs.drop (o + (z + 1))) ++ r := by
    rw [List.take_append_of_le_length (by omega), List.drop_append_of_le_length hv]; simp only [List.append_assoc]
  have S' : SH h0 ds (L.set k (slR e z (.slice (some ⟨b, 0, none⟩) n c) (cs.take o ++ vs.toList ++ cs.drop (o + (z + 1))) n [b])) (h.put b (.cells ((cs ++ r).take o ++ vs.toList ++ (cs ++ r).drop (o + (z + 1))) e m)) :=
    S.upd k hi (ExtB.put h b _) (.inr ⟨b, m, c, r, rfl, by rw [Hp.get_put_self, e1], h3, by rw [Hp.n_put]; omega, rfl, by
      rw [List.length_append, List.length_append, List.length_take, List.length_drop, hn', ← h5]; omega, h6, h7⟩) (fun j hj => by simp only [slR, List.mem_singleton] at hj; subst hj; rw [Hp.n_put]; omega) (fun j hj => .inl hj) (by simp [slR])
  exact Qbc g hx hy hc ht hn h2 (by omega) (by rw [List.length_append]; omega) (ha _ S') (q _ S')
end
end Go.X
