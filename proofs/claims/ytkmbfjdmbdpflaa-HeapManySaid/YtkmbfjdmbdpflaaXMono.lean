/- What X reads it reads in a bigger memory too. Conditions: none. -/
import Derived.Test.YtkmbfjdmbdpflaaXTr
namespace Go.X

def HLe (h h' : Hp) : Prop := ∀ i o, h.get i = some o → h'.get i = some o

theorem HLe.refl (h : Hp) : HLe h h := fun _ _ e => e
theorem HLe.alloc {h : Hp} (o : AObj) (hf : h.get h.n = none) : HLe h (h.alloc o) := by
  intro i x hx
  rw [Hp.get_alloc]
  split
  · rename_i e; subst e; rw [hf] at hx; cases hx
  · exact hx

section
variable {E : Env} {h h' : Hp} (L : HLe h h')
include L

theorem rowOf_mono {a : Addr} {n : Nat} {l : List Value} (hr : rowOf h a n = some l) : rowOf h' a n = some l := by
  unfold rowOf at *
  split at hr
  · cases hr
  · rename_i hs
    split at hr
    · rename_i hg; simp only [L _ _ hg]; exact hr
    · cases hr

theorem loadX_mono {t : TypeId} {a : Addr} {v : Value} (hr : loadX E t a h = some v) : loadX E t a h' = some v := by
  unfold loadX at *
  split at hr
  · cases hr
  · rename_i d hd
    (try simp only [hd])
    split at hr
    · rename_i ha
      split at hr
      · cases hr
      · rename_i n hn
        split at hr
        · cases hr
        · rename_i l hl
          (try simp only [rowOf_mono L hl]); exact hr
    · rename_i ha
      split at hr
      · rename_i hl
        (try simp only [rowOf_mono L hl]); exact hr
      · cases hr

theorem equalX_mono {n : Nat} {t : TypeId} {x y : Value} {r : Bool} (hr : equalX E h n t x y = some r) : equalX E h' n t x y = some r := by
  cases n with
  | zero => simp [equalX] at hr
  | succ n =>
    simp only [equalX] at hr ⊢
    split at hr
    · cases hr
    · rename_i d hd
      (try simp only [hd])
      split at hr <;> first | exact hr | (cases hr; done) | skip
      split at hr
      · rename_i h1 h2 h3
        (try simp only [h1, L _ _ h2, L _ _ h3]); exact hr
      · cases hr

theorem structEq_mono {xs ys : Array Value} : ∀ {fs : List Field} {r : Bool}, structEq E h xs ys fs = some r → structEq E h' xs ys fs = some r
  | [], r, hr => hr
  | f :: fs, r, hr => by
    unfold structEq at *
    cases hn : f.name == "_" with
    | true => (try rw [hn] at hr); rw [cond_true] at hr; cases hr
    | false =>
      (try rw [hn] at hr); rw [cond_false] at hr ⊢
      split at hr
      · rename_i a b ha hb
        (try simp only [ha, hb])
        split at hr
        · rename_i he; (try simp only [equalX_mono L he]); exact structEq_mono hr
        · rename_i he; (try simp only [equalX_mono L he]); exact hr
        · cases hr
      · cases hr

theorem binX_mono {op : BinOp} {t : TypeId} {xo yo : Operand} {x y : Value} {v : Value} (hr : binX E h op t xo yo x y = some v) : binX E h' op t xo yo x y = some v := by
  unfold binX at *
  split at hr <;> first | exact hr | (cases hr; done) | skip
  · split at hr
    · rename_i fs hf
      (try simp only [hf])
      cases hc : (E.P.eqGuardType E.P.depth t || E.P.stoodInHeld t) with
      | true => (try rw [hc] at hr); rw [cond_true] at hr; cases hr
      | false =>
        (try rw [hc] at hr); rw [cond_false] at hr ⊢
        split at hr
        · rename_i he; (try simp only [structEq_mono L he]); exact hr
        · rename_i he; (try simp only [structEq_mono L he]); exact hr
        · cases hr
    · cases hr
  · split at hr
    · split at hr
      · rename_i he; (try simp only [equalX_mono L he]); exact hr
      · cases hr
    · split at hr
      · rename_i he; (try simp only [equalX_mono L he]); exact hr
      · cases hr
    · cases hr

theorem convertX_mono {s d : TypeId} {x v : Value} (hr : convertX E h s d x = some v) : convertX E h' s d x = some v := by
  unfold convertX at *
  split at hr
  · rename_i s' d' hs hd
    (try simp only [hs, hd])
    split at hr <;> first | exact hr | (cases hr; done) | skip
    split at hr
    · rename_i he
      (try simp only [he])
      split at hr
      · rename_i hl; (try simp only [rowOf_mono L hl]); exact hr
      · cases hr
    · cases hr
  · cases hr

theorem modeOf_mono {a : Addr} {m : Nat} (hr : modeOf h a = some m) : modeOf h' a = some m := by
  unfold modeOf at *
  split at hr
  · rename_i hg; (try simp only [L _ _ hg]); exact hr
  · cases hr

theorem sliceX_mono {t : TypeId} {x : Value} {lo hi mx : Option Value} {v : Value} (hr : sliceX E h t x lo hi mx = some v) : sliceX E h' t x lo hi mx = some v := by
  unfold sliceX at *
  split at hr
  · rename_i hu; (try simp only [hu]); exact hr
  · rename_i hu
    (try simp only [hu])
    split at hr
    · rename_i hz; (try simp only [hz]); exact hr
    · rename_i hz
      (try simp only [hz])
      split at hr
      · rename_i h1 h2 h3; (try simp only [h1, h2, modeOf_mono L h3]); exact hr
      · rename_i hno h1 h2 h3
        (try simp only [h1, h2, modeOf_mono L h3])
        exact hr
      · cases hr
    · cases hr
  · rename_i hu
    (try simp only [hu])
    split at hr
    · rename_i hz
      (try simp only [hz])
      split at hr
      · rename_i h1 h2 h3; (try simp only [modeOf_mono L h1, h2, h3]); exact hr
      · cases hr
    · cases hr
  · cases hr

theorem keyEqX_mono {kt : TypeId} {k k' : Value} {r : Bool} (hr : keyEqX E h kt k k' = some r) : keyEqX E h' kt k k' = some r := by
  unfold keyEqX at *
  split at hr
  · rename_i hu
    (try simp only [hu])
    split at hr
    · cases hc : E.P.stoodInHeld kt with
      | true => (try rw [hc] at hr); rw [cond_true] at hr; cases hr
      | false =>
        (try rw [hc] at hr); rw [cond_false] at hr ⊢
        split at hr
        · rename_i he; (try simp only [structEq_mono L he]); exact hr
        · rename_i he; (try simp only [structEq_mono L he]); exact hr
        · cases hr
    · cases hr
  · exact hr
  · cases hr

theorem findX_mono {kt : TypeId} {k : Value} : ∀ {es : List MapEntry} {i : Nat} {r : Option (Nat × Value)}, findX E h kt k es i = some r → findX E h' kt k es i = some r
  | [], _, _, hr => hr
  | e :: es, i, r, hr => by
    unfold findX at *
    split at hr
    · rename_i he; (try simp only [keyEqX_mono L he]); exact hr
    · rename_i he; (try simp only [keyEqX_mono L he]); exact findX_mono hr
    · cases hr

theorem mapOf_mono {m : Value} {es : List MapEntry} (hr : mapOf h m = some es) : mapOf h' m = some es := by
  unfold mapOf at *
  split at hr
  · exact hr
  · split at hr
    · rename_i hg; (try simp only [L _ _ hg]); exact hr
    · cases hr
  · cases hr

theorem lookupX_mono {t : TypeId} {m k : Value} {ok : Bool} {v : Value} (hr : lookupX E h t m k ok = some v) : lookupX E h' t m k ok = some v := by
  unfold lookupX at *
  split at hr
  · rename_i hu hm
    (try simp only [hu, mapOf_mono L hm])
    cases hk : keyOkX E _ k with
    | false => (try rw [hk] at hr); rw [cond_false] at hr; cases hr
    | true =>
      (try rw [hk] at hr); rw [cond_true] at hr ⊢
      split at hr
      · rename_i he; (try simp only [findX_mono L he]); exact hr
      · rename_i he; (try simp only [findX_mono L he]); exact hr
      · cases hr
  · cases hr

theorem lenX_mono {t : TypeId} {x v : Value} (hr : lenX E h t x = some v) : lenX E h' t x = some v := by
  unfold lenX at *
  split at hr <;> first | (rename_i hu; (try simp only [hu]); exact hr) | (cases hr; done) | skip
  split at hr
  · rename_i hm; rw [mapOf_mono L hm]; exact hr
  · cases hr

theorem readX_mono {tm : Tr Value} {o : Oper} {v : Value} (hr : readX E tm o h = some v) : readX E tm o h' = some v := by
  obtain ⟨dst, op, type, pos, after, guard⟩ := o
  cases op <;> simp only [readX] at hr ⊢ <;> (try exact hr)
  case load t a =>
    split at hr
    · exact loadX_mono L hr
    · cases hr
  case binOp => exact binX_mono L hr
  case convert => exact convertX_mono L hr
  case slice => exact sliceX_mono L hr
  case lookup => exact lookupX_mono L hr
  case call c =>
    obtain ⟨callee, args, argTypes⟩ := c
    cases callee with
    | builtin b =>
      simp only at hr ⊢
      split at hr
      · rename_i h1 h2; (try simp only [h1, h2]); exact lenX_mono L hr
      · rename_i h1; (try simp only [h1]); exact hr
      · rename_i h1; (try simp only [h1]); exact hr
      · cases hr
    | value f => cases hr
    | invoke r m => cases hr

end
end Go.X
