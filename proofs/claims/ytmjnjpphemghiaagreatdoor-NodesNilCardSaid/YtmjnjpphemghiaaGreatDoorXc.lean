/- What the machine that goes by whole regions comes to, X comes to. Conditions: none. -/
import Derived.Test.YtmjnjpphemghiaaGreatDoorXb
namespace Go.X

theorem dropQ_eq : ∀ (n : Nat) (l : List Value), dropQ n l = l.drop n
  | 0, _ => rfl
  | _ + 1, [] => rfl
  | n + 1, _ :: l => dropQ_eq n l
theorem takeQ_eq : ∀ (n : Nat) (l : List Value), takeQ n l = l.take n
  | 0, _ => rfl
  | _ + 1, [] => rfl
  | n + 1, v :: l => by show v :: takeQ n l = _; rw [takeQ_eq n l]; rfl
theorem longQ_eq : ∀ (n : Nat) (l : List Value), longQ n l = Nat.ble n l.length
  | 0, _ => (Nat.ble_eq_true_of_le (Nat.zero_le _)).symm
  | _ + 1, [] => rfl
  | n + 1, _ :: l => by show longQ n l = _; rw [longQ_eq n l]; rfl
theorem allQ_eq (p : Value → Bool) : ∀ l : List Value, allQ p l = l.all p
  | [] => rfl
  | v :: l => by
    show cond (p v) (allQ p l) false = _
    rw [allQ_eq p l]; cases h : p v <;> simp [h]
theorem overQ_eq : ∀ (xs l : List Value), xs.length ≤ l.length → overQ xs l = xs ++ l.drop xs.length
  | [], _, _ => rfl
  | x :: xs, [], h => by simp at h
  | x :: xs, _ :: l, h => by
    show x :: overQ xs l = _
    rw [overQ_eq xs l (by simpa using h)]; rfl
theorem patchQ_eq : ∀ (n : Nat) (xs l : List Value), n + xs.length ≤ l.length → patchQ n xs l = l.take n ++ xs ++ l.drop (n + xs.length)
  | 0, xs, l, h => by
    show overQ xs l = _
    rw [overQ_eq xs l (by omega)]; simp
  | n + 1, xs, [], h => by simp at h
  | n + 1, xs, v :: l, h => by
    show v :: patchQ n xs l = _
    rw [patchQ_eq n xs l (by simp at h; omega), show n + 1 + xs.length = (n + xs.length) + 1 by omega]; rfl
theorem nthO_eq : ∀ (n : Nat) (l : List Oper), nthO n l = l[n]?
  | 0, [] => rfl
  | 0, _ :: _ => rfl
  | _ + 1, [] => rfl
  | n + 1, _ :: l => nthO_eq n l

theorem rowQ_eq (h : Hp) (a : Addr) (n : Nat) : rowQ h a n = rowOf h a n := by
  obtain ⟨b, off, sp⟩ := a
  cases sp with
  | some s => rfl
  | none =>
    simp only [rowQ, rowOf]
    cases h.get b with
    | none => rfl
    | some o => cases o <;> first | rfl | (simp only [longQ_eq, takeQ_eq, dropQ_eq]; rfl)
theorem cellQ_eq (h : Hp) (a : Addr) : cellQ h a = (match rowOf h a 1 with | some [v] => some v | _ => none) := by
  obtain ⟨b, off, sp⟩ := a
  cases sp with
  | some s => rfl
  | none =>
    simp only [cellQ, rowOf]
    cases h.get b with
    | none => rfl
    | some o =>
      cases o with
      | cells c e m =>
        simp only [dropQ_eq]
        cases hd : c.drop off with
        | nil =>
          have : c.length ≤ off := List.drop_eq_nil_iff.1 hd
          have hb : Nat.ble (off + 1) c.length = false := by
            cases hx : Nat.ble (off + 1) c.length with
            | false => rfl
            | true => have := Nat.le_of_ble_eq_true hx; omega
          rw [hb]; rfl
        | cons v t =>
          have hl : off < c.length := by
            rcases Nat.lt_or_ge off c.length with q | q
            · exact q
            · rw [List.drop_eq_nil_iff.2 q] at hd; cases hd
          rw [show Nat.ble (off + 1) c.length = true from Nat.ble_eq_true_of_le hl]
          rfl
      | _ => rfl
theorem loadQ_eq (E : Env) (t : TypeId) (a : Addr) (h : Hp) : loadQ E t a h = loadX E t a h := by
  unfold loadQ loadX
  cases E.und t with
  | none => rfl
  | some d =>
    simp only
    cases aggDesc d with
    | true => simp only [rowQ_eq]; rfl
    | false => simp only [cellQ_eq]; rfl
theorem storeRowQ_eq (h : Hp) (a : Addr) (l : List Value) : storeRowQ h a l = storeRow h a l := by
  obtain ⟨b, off, sp⟩ := a
  cases sp with
  | some s => rfl
  | none =>
    simp only [storeRowQ, storeRow]
    cases h.get b with
    | none => rfl
    | some o =>
      cases o with
      | cells c e m =>
        simp only [longQ_eq]
        show cond (Nat.beq m 1) none (cond (Nat.ble (off + l.length) c.length) _ none) = _
        cases Nat.beq m 1 with
        | true => rfl
        | false =>
          cases hb : Nat.ble (off + l.length) c.length with
          | false => rfl
          | true => simp only [cond_false, cond_true, Bool.not_false, Bool.and_self]; rw [patchQ_eq _ _ _ (Nat.le_of_ble_eq_true hb)]
      | _ => rfl
theorem storeQ_eq (E : Env) (t : TypeId) (a : Addr) (v : Value) (h : Hp) : storeQ E t a v h = storeX E t a v h := by
  unfold storeQ storeX
  cases E.size t with
  | none => rfl
  | some n =>
    simp only
    cases v with
    | agg cs =>
      simp only [Value.cells, allQ_eq, storeRowQ_eq]
      show cond (Nat.beq cs.toList.length n) _ none = cond (Nat.beq cs.size n && _) _ none
      rw [show cs.toList.length = cs.size by simp]
      cases Nat.beq cs.size n <;> simp
    | _ =>
      simp only [Value.cells, storeRowQ_eq]
      show cond (Nat.beq n 1) _ none = cond (Nat.beq 1 n && _) _ none
      rw [show Nat.beq n 1 = Nat.beq 1 n by rw [Bool.eq_iff_iff, Nat.beq_eq, Nat.beq_eq]; exact eq_comm]
      cases Nat.beq 1 n <;> simp [cellV]

theorem posQ_eq (n : Nat) (h : n < 9223372036854775808) : posQ n = someI .i64 (wrapX .i64 (.ofNat n)) := by
  have hb : Nat.blt n 9223372036854775808 = true := Nat.ble_eq_true_of_le h
  simp only [posQ, someI, forceN_eq, forceI_eq, wrapX, hb, cond_true]
theorem natBin_eq (op : BinOp) (m n : Nat) : natBin op m n = intBin op .i64 (.ofNat m) (.ofNat n) := by
  have blt : ∀ a b : Nat, Nat.blt a b = decide (a < b) := fun a b => by
    rw [Bool.eq_iff_iff]; simp [Nat.blt, Nat.ble_eq]; omega
  cases op <;> simp only [natBin, intBin]
  case add =>
    cases hb : Nat.blt (Nat.add m n) 9223372036854775808 with
    | false => rfl
    | true => rw [cond_true, posQ_eq _ (Nat.le_of_ble_eq_true hb)]; rfl
  case mul =>
    cases hb : Nat.blt (Nat.mul m n) 9223372036854775808 with
    | false => rfl
    | true => rw [cond_true, posQ_eq _ (Nat.le_of_ble_eq_true hb)]; rfl
  case sub =>
    cases h1 : Nat.ble n m with
    | false => rfl
    | true =>
      cases h2 : Nat.blt m 9223372036854775808 with
      | false => rfl
      | true =>
        have e1 := Nat.le_of_ble_eq_true h1
        have e2 : m < 9223372036854775808 := Nat.le_of_ble_eq_true h2
        rw [cond_true, cond_true, posQ_eq _ (by show m - n < _; omega)]
        have : (Int.ofNat m - Int.ofNat n) = Int.ofNat (Nat.sub m n) := by
          show ((m : Int) - (n : Int)) = ((m - n : Nat) : Int); omega
        rw [this]
  case eql => congr 2; rw [Bool.eq_iff_iff, Nat.beq_eq, beq_iff_eq]; exact Int.ofNat_inj.symm
  case neq =>
    have : Nat.beq m n = (Int.ofNat m == Int.ofNat n) := by rw [Bool.eq_iff_iff, Nat.beq_eq, beq_iff_eq]; exact Int.ofNat_inj.symm
    rw [this]; rfl
  case lss => congr 2; rw [blt, decide_eq_decide]; exact Int.ofNat_lt.symm
  case leq => congr 2; rw [Bool.eq_iff_iff, Nat.ble_eq, decide_eq_true_iff]; exact Int.ofNat_le.symm
  case gtr => congr 2; rw [blt, decide_eq_decide]; exact Int.ofNat_lt.symm
  case geq => congr 2; rw [Bool.eq_iff_iff, Nat.ble_eq, decide_eq_true_iff]; exact Int.ofNat_le.symm
theorem binQ_eq (E : Env) (h : Hp) (op : BinOp) (t : TypeId) (xo yo : Operand) (x y : Value) : binQ E h op t xo yo x y = binX E h op t xo yo x y := by
  unfold binQ
  split
  · split
    · rename_i m n
      rw [natBin_eq]
      cases hs : isShift op with
      | true => rfl
      | false => simp only [cond_false, binX, hs, kindEq, cond_true]
    · rfl
  · rfl

theorem readG_eq (E : Env) (tm : Tr Value) (o : Oper) (h : Hp) : readG E (ev tm) o h = readX E tm o h := by
  obtain ⟨dst, op, ty, pos, af, gd⟩ := o
  cases op with
  | load t a =>
    show rg_load E (ev tm) h t a = (match ev tm a with | .pointer (some a) => loadX E t a h | _ => none)
    unfold rg_load
    simp only [loadQ_eq]
    rfl
  | binOp op t x y ty => exact binQ_eq _ _ _ _ _ _ _ _
  | call c =>
    obtain ⟨callee, args, ts⟩ := c
    cases callee <;> rfl
  | _ => rfl

/-! Temporaries -/
theorem get_on (tm : Tr Value) : ∀ (a : As) (t : Nat), (a.on tm).get t = getQ a tm t
  | .nil, _ => rfl
  | .cons i v r, t => by
    show ((r.on tm).set (i + 1) i v).get t = _
    rw [get_set _ _ _ _ _ (Nat.lt_succ_self i), get_on tm r t]
    show _ = (match cond (Nat.beq i t) (some v) (r.get t) with | some v => some v | none => tm.get t)
    by_cases e : i = t
    · subst e; rw [if_pos rfl, Nat.beq_refl]; rfl
    · rw [if_neg e]
      have : Nat.beq i t = false := by
        cases hb : Nat.beq i t with
        | false => rfl
        | true => exact absurd (Nat.eq_of_beq_eq_true hb) e
      rw [this]; rfl
theorem opd_eq (x : Operand) (a : As) (tm : Tr Value) : opd x a tm = ev (a.on tm) x := by
  cases x with
  | tmp t => simp only [opd, ev, get_on]; rfl
  | _ => rfl
theorem evQ_eq (a : As) (tm : Tr Value) : evQ a tm = ev (a.on tm) := funext fun x => opd_eq x a tm
theorem putQ_on (nt : Nat) (a : As) (tm : Tr Value) (d : Option Nat) (v : Value) : (putQ nt a d v).on tm = putT nt (a.on tm) d v := by
  cases d with
  | none => rfl
  | some d =>
    simp only [putQ, putT, setT]
    cases Nat.blt d nt <;> rfl

theorem want_eq (ops : Array Oper) (o : Oper) (a : As) (tm : Tr Value) : wantC ops o a tm = wantedX ops (a.on tm) o := by
  unfold wantC wantedX
  cases o.guard with
  | none => rfl
  | some gw =>
    obtain ⟨g, want⟩ := gw
    simp only [nthO_eq, show ops.toList[g]? = ops[g]? by simp]
    cases ops[g]? with
    | none => rfl
    | some og =>
      simp only
      cases og.dst with
      | none => rfl
      | some d => simp only [get_on]; rfl

/-- What is done of an operation: X does it. -/
theorem opC_oper (E : Env) {wr : Bool} {o : Oper} {a : As} {tm : Tr Value} {h h' : Hp} {v : Value} (e : opC E wr o a tm h = some (v, h')) :
    (cls E o = 0 ∧ readX E (a.on tm) o h = some v ∧ h' = h) ∨ (cls E o = 1 ∧ ∃ b f, allocX E (a.on tm) o = some (b, f) ∧ v = f h.n ∧ h' = h.alloc b) ∨
      (wr = true ∧ cls E o = 2 ∧ writeX E (a.on tm) o h = some (.skip h') ∧ v = undef) := by
  have gen : opQ E (evQ a tm) o h = some (v, h') → (cls E o = 0 ∧ readX E (a.on tm) o h = some v ∧ h' = h) ∨ (cls E o = 1 ∧ ∃ b f, allocX E (a.on tm) o = some (b, f) ∧ v = f h.n ∧ h' = h.alloc b) := by
    intro e
    rw [evQ_eq] at e
    unfold opQ at e
    split at e
    · rename_i hc
      rw [readG_eq] at e
      split at e
      · rename_i hv
        cases e
        exact .inl ⟨hc, hv, rfl⟩
      · cases e
    · rename_i hc
      rw [allocG_eq] at e
      split at e
      · rename_i hv
        cases e
        exact .inr ⟨hc, _, _, hv, rfl, rfl⟩
      · cases e
    · cases e
  have rd : ∀ {u : Option Value}, cls E o = 0 → readX E (a.on tm) o h = u → both u h = some (v, h') → (cls E o = 0 ∧ readX E (a.on tm) o h = some v ∧ h' = h) := by
    intro u hc hu e
    cases u with
    | none => cases e
    | some u => cases e; exact ⟨hc, hu, rfl⟩
  obtain ⟨dst, op, ty, pos, af, gd⟩ := o
  cases op with
  | move x =>
    have e : some (opd x a tm, h) = some (v, h') := e
    rw [opd_eq] at e
    cases e
    exact .inl ⟨rfl, rfl, rfl⟩
  | assign x =>
    have e : some (opd x a tm, h) = some (v, h') := e
    rw [opd_eq] at e
    cases e
    exact .inl ⟨rfl, rfl, rfl⟩
  | load t x =>
    have e : (match opd x a tm with | .pointer (some p) => both (loadQ E t p h) h | _ => none) = some (v, h') := e
    rw [opd_eq] at e
    refine .inl ?_
    split at e
    · rename_i p hp
      rw [loadQ_eq] at e
      exact rd rfl (by simp only [readX, hp]) e
    · cases e
  | binOp op t x y _ =>
    have e : both (binQ E h op t x y (opd x a tm) (opd y a tm)) h = some (v, h') := e
    rw [opd_eq, opd_eq, binQ_eq] at e
    exact .inl (rd rfl rfl e)
  | fieldAddr t x i =>
    have e : both (fieldAddrX E t (opd x a tm) i) h = some (v, h') := e
    rw [opd_eq] at e
    exact .inl (rd rfl rfl e)
  | indexAddr t x i =>
    have e : both (indexAddrX E t (opd x a tm) (opd i a tm)) h = some (v, h') := e
    rw [opd_eq, opd_eq] at e
    exact .inl (rd rfl rfl e)
  | pick c x y =>
    have e : (match opd c a tm with | .bool t => some (cond t (opd x a tm) (opd y a tm), h) | _ => none) = some (v, h') := e
    rw [opd_eq, opd_eq, opd_eq] at e
    refine .inl ?_
    split at e
    · rename_i t hc
      cases e
      exact ⟨rfl, by simp only [readX, hc], rfl⟩
    · cases e
  | store t x y =>
    cases wr with
    | false => cases (show (none : Option (Value × Hp)) = some (v, h') from e)
    | true =>
      have e : (match opd x a tm with
        | .pointer (some p) => (match storeQ E t p (opd y a tm) h with
          | some h' => some (undef, h')
          | none => none)
        | _ => none) = some (v, h') := e
      rw [opd_eq, opd_eq] at e
      split at e
      · rename_i p hp
        rw [storeQ_eq] at e
        split at e
        · rename_i h2 hs
          cases e
          exact .inr (.inr ⟨rfl, rfl, by simp only [writeX, hp, hs], rfl⟩)
        · cases e
      · cases e
  | _ => exact (gen e).elim .inl fun q => .inr (.inl q)

section
variable {E : Env} {fn : FuncId} {nt : Nat} {tm : Tr Value} {df : List Deferred} {kd : CallKind} {ro : Option Nat} {cs : List Fr} {k : List It} {ops : Array Oper}

theorem ci_some {wr : Bool} {i : Nat} {o : Oper} (ho : ops[i]? = some o) : ci E wr ops i = ⟨wantC ops o, opC E wr o, o.dst⟩ := by
  unfold ci
  rw [nthO_eq, show ops.toList[i]? = ops[i]? by simp, ho]
theorem ci_none {wr : Bool} {i : Nat} (ho : ops[i]? = none) : ci E wr ops i = ⟨fun _ _ => none, fun _ _ _ => none, none⟩ := by
  unfold ci
  rw [nthO_eq, show ops.toList[i]? = ops[i]? by simp, ho]

theorem regQ_cons {wr : Bool} {i : Nat} {l : List Nat} {a : As} {h : Hp} : regQ E wr ops nt tm (i :: l) a h = (match ci E wr ops i with
    | ⟨w, r, d⟩ => (match w a tm with
      | none => ⟨i :: l, a, h⟩
      | some false => regQ E wr ops nt tm l (putQ nt a d undef) h
      | some true => (match r a tm h with
        | some (v, h') => regQ E wr ops nt tm l (putQ nt a d v) h'
        | none => ⟨i :: l, a, h⟩))) := rfl

theorem reg_runs : ∀ (l : List Nat) (a : As) (h : Hp), Runs E ⟨⟨fn, nt, a.on tm, .inRegion ops l :: k, df, .run, kd, ro⟩, cs, h⟩
    ⟨⟨fn, nt, (regQ E true ops nt tm l a h).a.on tm, .inRegion ops (regQ E true ops nt tm l a h).rest :: k, df, .run, kd, ro⟩, cs, (regQ E true ops nt tm l a h).h⟩
  | [], a, h => .refl _ _
  | i :: l, a, h => by
    rw [regQ_cons]
    cases ho : ops[i]? with
    | none => rw [ci_none ho]; exact .refl _ _
    | some o =>
      rw [ci_some ho]
      simp only [want_eq]
      cases hw : wantedX ops (a.on tm) o with
      | none => exact .refl _ _
      | some b =>
        cases b with
        | false =>
          refine Runs.step ?_ (reg_runs l (putQ nt a o.dst undef) h)
          simp only [stepX, execX, ho, hw, putQ_on]
        | true =>
          simp only
          cases he : opC E true o a tm h with
          | none => exact .refl _ _
          | some r =>
            obtain ⟨v, h'⟩ := r
            refine Runs.step ?_ (reg_runs l (putQ nt a o.dst v) h')
            rw [putQ_on]
            rcases opC_oper E he with ⟨hc, hv, rfl⟩ | ⟨hc, b, f, hv, rfl, rfl⟩ | ⟨_, hc, hv, rfl⟩
            · simp only [stepX, execX, ho, hw, operX, hc, hv, nextX, finishX]
            · simp only [stepX, execX, ho, hw, operX, hc, hv, nextX, finishX]
            · simp only [stepX, execX, ho, hw, operX, hc, hv, nextX, finishX]

theorem draw_runs : ∀ (l : List Nat) (a : As) (h : Hp), Runs E ⟨⟨fn, nt, a.on tm, .draw ops l :: k, df, .run, kd, ro⟩, cs, h⟩
    ⟨⟨fn, nt, (regQ E false ops nt tm l a h).a.on tm, .draw ops (regQ E false ops nt tm l a h).rest :: k, df, .run, kd, ro⟩, cs, (regQ E false ops nt tm l a h).h⟩
  | [], a, h => .refl _ _
  | i :: l, a, h => by
    rw [regQ_cons]
    cases ho : ops[i]? with
    | none => rw [ci_none ho]; exact .refl _ _
    | some o =>
      rw [ci_some ho]
      simp only [want_eq]
      cases hw : wantedX ops (a.on tm) o with
      | none => exact .refl _ _
      | some b =>
        cases b with
        | false =>
          refine Runs.step ?_ (draw_runs l (putQ nt a o.dst undef) h)
          simp only [stepX, execX, drawX, ho, hw, putQ_on]
        | true =>
          simp only
          cases he : opC E false o a tm h with
          | none => exact .refl _ _
          | some r =>
            obtain ⟨v, h'⟩ := r
            refine Runs.step ?_ (draw_runs l (putQ nt a o.dst v) h')
            rw [putQ_on]
            rcases opC_oper E he with ⟨hc, hv, rfl⟩ | ⟨hc, b, f, hv, rfl, rfl⟩ | ⟨hf, _⟩
            · simp only [stepX, execX, drawX, ho, hw, hc, hv]
            · simp only [stepX, execX, drawX, ho, hw, hc, hv]
            · cases hf

theorem code_step {c : Code} {a : As} {h : Hp} {k' : List It} (e : codeQ E c a tm k = some k') :
    stepX E ⟨⟨fn, nt, a.on tm, .code c :: k, df, .run, kd, ro⟩, cs, h⟩ = some ⟨⟨fn, nt, a.on tm, k', df, .run, kd, ro⟩, cs, h⟩ := by
  cases c with
  | skip => cases (show some k = some k' from e); rfl
  | label _ => cases (show some k = some k' from e); rfl
  | seq x y => cases (show some (.code x :: .code y :: k) = some k' from e); rfl
  | cond c x y =>
    have e : (match opd c a tm with | .bool t => some (.code (cond t x y) :: k) | _ => none) = some k' := e
    rw [opd_eq] at e
    split at e
    · rename_i hc
      cases e
      simp only [stepX, execX, hc]
    · cases e
  | block id b => cases (show some (.code b :: .inBlock id :: k) = some k' from e); rfl
  | loop b => cases (show some (.code b :: .inLoop b :: k) = some k' from e); rfl
  | exit id =>
    have e : exitToX id k = some k' := e
    simp only [stepX, execX, e]
  | region id ops dr =>
    simp only [codeQ] at e
    cases h1 : constsOk ops with
    | false => rw [h1] at e; cases (show (none : Option (List It)) = some k' from e)
    | true =>
      rw [h1, cond_true] at e
      cases dr with
      | false => cases (show some (.inRegion ops (List.range ops.size) :: k) = some k' from e); simp only [stepX, execX, h1, cond_true, cond_false]
      | true =>
        rw [cond_true] at e
        cases h2 : regionOk E ops with
        | false => rw [h2] at e; cases (show (none : Option (List It)) = some k' from e)
        | true =>
          rw [h2, cond_true] at e
          cases (show some (.draw ops (canon E ops) :: k) = some k' from e)
          simp only [stepX, execX, h1, h2, cond_true]
  | _ => cases (show (none : Option (List It)) = some k' from e)

theorem frame_runs : ∀ (n : Nat) (l : List It) (a : As) (h : Hp), Runs E ⟨⟨fn, nt, a.on tm, l, df, .run, kd, ro⟩, cs, h⟩
    ⟨⟨fn, nt, (frameQ E nt tm n l a h).a.on tm, (frameQ E nt tm n l a h).todo, df, .run, kd, ro⟩, cs, (frameQ E nt tm n l a h).h⟩
  | 0, _, _, _ => .refl _ _
  | n + 1, [], _, _ => .refl _ _
  | n + 1, i :: k, a, h => by
    cases i with
    | code c =>
      cases e : codeQ E c a tm k with
      | none =>
        have : frameQ E nt tm (n + 1) (.code c :: k) a h = ⟨.code c :: k, a, h⟩ := by
          show (match codeQ E c a tm k with | some k' => frameQ E nt tm n k' a h | none => ⟨.code c :: k, a, h⟩ : Fq) = _
          rw [e]
        rw [this]; exact .refl _ _
      | some k' =>
        have : frameQ E nt tm (n + 1) (.code c :: k) a h = frameQ E nt tm n k' a h := by
          show (match codeQ E c a tm k with | some k' => frameQ E nt tm n k' a h | none => ⟨.code c :: k, a, h⟩ : Fq) = _
          rw [e]
        rw [this]
        exact Runs.step (code_step e) (frame_runs n k' a h)
    | inBlock _ => exact Runs.step rfl (frame_runs n k a h)
    | inLoop b => exact Runs.step rfl (frame_runs n (.code b :: .inLoop b :: k) a h)
    | inRegion ops l =>
      have hr := reg_runs (E := E) (fn := fn) (nt := nt) (tm := tm) (df := df) (kd := kd) (ro := ro) (cs := cs) (k := k) (ops := ops) l a h
      have hq : frameQ E nt tm (n + 1) (.inRegion ops l :: k) a h = (match regQ E true ops nt tm l a h with
        | ⟨[], a, h⟩ => frameQ E nt tm n k a h
        | ⟨i :: rest, a, h⟩ => ⟨.inRegion ops (i :: rest) :: k, a, h⟩) := rfl
      rw [hq]
      generalize regQ E true ops nt tm l a h = r at hr
      obtain ⟨rest, a', h'⟩ := r
      cases rest with
      | nil => exact hr.trans (Runs.step rfl (frame_runs n k a' h'))
      | cons i rest => exact hr
    | draw ops l =>
      have hr := draw_runs (E := E) (fn := fn) (nt := nt) (tm := tm) (df := df) (kd := kd) (ro := ro) (cs := cs) (k := k) (ops := ops) l a h
      have hq : frameQ E nt tm (n + 1) (.draw ops l :: k) a h = (match regQ E false ops nt tm l a h with
        | ⟨[], a, h⟩ => frameQ E nt tm n k a h
        | ⟨i :: rest, a, h⟩ => ⟨.draw ops (i :: rest) :: k, a, h⟩) := rfl
      rw [hq]
      generalize regQ E false ops nt tm l a h = r at hr
      obtain ⟨rest, a', h'⟩ := r
      cases rest with
      | nil => exact hr.trans (Runs.step rfl (frame_runs n k a' h'))
      | cons i rest => exact hr
    | _ => exact .refl _ _
end

theorem step_runs {E : Env} {s s' : St} (e : stepQ E s = some s') : Runs E s s' := by
  obtain ⟨⟨fn, nt, tm, todo, df, md, kd, ro⟩, cs, h⟩ := s
  cases md with
  | run =>
    have hr := frame_runs (E := E) (fn := fn) (nt := nt) (tm := tm) (df := df) (kd := kd) (ro := ro) (cs := cs) 24 todo .nil h
    have hq : stepQ E ⟨⟨fn, nt, tm, todo, df, .run, kd, ro⟩, cs, h⟩ = (match frameQ E nt tm 24 todo .nil h with
      | ⟨todo', a, h'⟩ => execX E fn nt (a.on tm) todo' df kd ro cs h') := by unfold stepQ; rfl
    rw [hq] at e
    generalize frameQ E nt tm 24 todo .nil h = r at hr e
    obtain ⟨todo', a, h'⟩ := r
    exact hr.trans (Runs.step e (.refl _ _))
  | returning => exact Runs.step e (.refl _ _)
  | panicking c => exact Runs.step e (.refl _ _)
theorem run_runs {E : Env} : ∀ (n : Nat) (s : St), Runs E s (runQ E n s)
  | 0, s => .refl _ _
  | n + 1, s => by
    have hq : runQ E (n + 1) s = (match stepQ E s with | some s' => runQ E n s' | none => s) := rfl
    rw [hq]
    cases e : stepQ E s with
    | none => exact .refl _ _
    | some s' => exact (step_runs e).trans (run_runs n s')

theorem truthQ_from {E : Env} {f : FuncId} {n : Nat} {h : Hp} (e : truthQ E f n h = true) : ∃ m, truthFrom E f m h = true := by
  unfold truthQ at e
  split at e
  · rename_i s hs
    obtain ⟨m, hm⟩ := run_runs (E := E) n s
    refine ⟨m, ?_⟩
    unfold truthFrom
    rw [hs]
    simp only [hm]
    exact e
  · cases e
theorem truthQ_X {E : Env} {f : FuncId} {n : Nat} (e : truthQ E f n Hp.empty = true) : ∃ m, truthX E f m = true := by
  obtain ⟨m, hm⟩ := truthQ_from e
  exact ⟨m, hm⟩

end Go.X
