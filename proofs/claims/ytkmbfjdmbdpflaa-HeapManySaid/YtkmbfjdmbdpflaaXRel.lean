/- How X's values, memory and frames stand to the model's: the relation, and that it stays. Conditions: none. -/
import Derived.Test.YtkmbfjdmbdpflaaXTr
namespace Go.X

/-- Where X's blocks lie: block, first cell, how many cells the block has; which numbers are known; 0: a capacity is what it says, s + 1: it grew, of elements of s cells. -/
structure Mp where
  ρ : Nat → Option (Nat × Nat × Nat)
  K : Nat → Prop
  md : Nat → Nat

def AddrRel (M : Mp) (a a' : Addr) : Prop := M.K a.block ∧ ∀ b δ S, M.ρ a.block = some (b, δ, S) → a' = ⟨b, δ + a.off, a.spot⟩
def IdRel (M : Mp) (r r' : Nat) : Prop := M.K r ∧ ∀ b δ S, M.ρ r = some (b, δ, S) → r' = b
def SlOk (M : Mp) (a a' : Addr) (l c c' b δ S : Nat) : Prop :=
  (M.md a.block = 0 ∧ a' = ⟨b, δ + a.off, a.spot⟩ ∧ c' = c) ∨
  (∃ s, M.md a.block = s + 1 ∧ ((a' = ⟨b, δ + a.off, a.spot⟩ ∧ c ≤ c' ∧ δ + a.off + c' * s ≤ S) ∨ (l = 0 ∧ c' = 0 ∧ c = 0)))
def SlRel (M : Mp) (a a' : Addr) (l c c' : Nat) : Prop := M.K a.block ∧ ∀ b δ S, M.ρ a.block = some (b, δ, S) → SlOk M a a' l c c' b δ S
def FnRel (M : Mp) (f f' : Fn) : Prop :=
  match f, f' with
  | .yield l, .yield l' => IdRel M l l'
  | .yield _, _ => False
  | f, f' => f = f'

/-- One cell. -/
def Cell1 : Value → Prop
  | .agg _ => False
  | .tuple _ => False
  | _ => True

theorem Cell1.cells {v : Value} (h : Cell1 v) : v.cells = #[v] := by cases v <;> first | rfl | exact h.elim

inductive VRel (M : Mp) : Value → Value → Prop
  /-- What X does not look at. -/
  | junk (r) {w} (h : Cell1 w) : VRel M (.chan (some r)) w
  | bool (b) : VRel M (.bool b) (.bool b)
  | int (k n) : VRel M (.int k n) (.int k n)
  | float (k n) : VRel M (.float k n) (.float k n)
  | complex (k a b) : VRel M (.complex k a b) (.complex k a b)
  | string (s) : VRel M (.string s) (.string s)
  | nilp : VRel M (.pointer none) (.pointer none)
  | ptr {a a'} (h : AddrRel M a a') : VRel M (.pointer (some a)) (.pointer (some a'))
  | nils (l c) : VRel M (.slice none l c) (.slice none l c)
  | sl {a a' l c c'} (h : SlRel M a a' l c c') : VRel M (.slice (some a) l c) (.slice (some a') l c')
  | nilm : VRel M (.map none) (.map none)
  | map {r r'} (h : IdRel M r r') : VRel M (.map (some r)) (.map (some r'))
  | nilc : VRel M (.chan none) (.chan none)
  | func {f f' a b c d} (h : FnRel M f f') (ha : a.toList.length = c.toList.length) (hb : b.toList.length = d.toList.length)
      (ka : ∀ (i : Nat) (v w : Value), a.toList[i]? = some v → c.toList[i]? = some w → VRel M v w)
      (kb : ∀ (i : Nat) (v w : Value), b.toList[i]? = some v → d.toList[i]? = some w → VRel M v w) : VRel M (.func f a b) (.func f' c d)
  | nilFunc : VRel M .nilFunc .nilFunc
  | iface {t v w} (h : VRel M v w) : VRel M (.iface t v) (.iface t w)
  | nilIface : VRel M .nilIface .nilIface
  | agg {a c} (ha : a.toList.length = c.toList.length) (ka : ∀ (i : Nat) (v w : Value), a.toList[i]? = some v → c.toList[i]? = some w → VRel M v w) : VRel M (.agg a) (.agg c)
  | tuple {a c} (ha : a.toList.length = c.toList.length) (ka : ∀ (i : Nat) (v w : Value), a.toList[i]? = some v → c.toList[i]? = some w → VRel M v w) : VRel M (.tuple a) (.tuple c)

def VsRel (M : Mp) (l m : List Value) : Prop := l.length = m.length ∧ ∀ (i : Nat) (v w : Value), l[i]? = some v → m[i]? = some w → VRel M v w

theorem VRel.undef (M : Mp) : VRel M undef undef := .tuple rfl (by intro i v w h; simp at h)

/-- A later placing: what was known is known, and lies where it lay, or nowhere. -/
structure Ev (M M' : Mp) : Prop where
  known : ∀ i, M.K i → M'.K i
  place : ∀ i x, M.K i → M'.ρ i = some x → M.ρ i = some x
  mode : ∀ i, M.K i → M'.md i = M.md i

theorem Ev.refl (M : Mp) : Ev M M := ⟨fun _ h => h, fun _ _ _ h => h, fun _ _ => rfl⟩
theorem Ev.trans {M M' M'' : Mp} (h : Ev M M') (k : Ev M' M'') : Ev M M'' :=
  ⟨fun i hi => k.known i (h.known i hi), fun i x hi hx => h.place i x hi (k.place i x (h.known i hi) hx),
    fun i hi => (k.mode i (h.known i hi)).trans (h.mode i hi)⟩

theorem AddrRel.mono {M M' : Mp} (e : Ev M M') {a a' : Addr} (h : AddrRel M a a') : AddrRel M' a a' :=
  ⟨e.known _ h.1, fun b δ S hb => h.2 b δ S (e.place _ _ h.1 hb)⟩
theorem IdRel.mono {M M' : Mp} (e : Ev M M') {a a' : Nat} (h : IdRel M a a') : IdRel M' a a' :=
  ⟨e.known _ h.1, fun b δ S hb => h.2 b δ S (e.place _ _ h.1 hb)⟩
theorem SlRel.mono {M M' : Mp} (e : Ev M M') {a a' : Addr} {l c c' : Nat} (h : SlRel M a a' l c c') : SlRel M' a a' l c c' :=
  ⟨e.known _ h.1, fun b δ S hb => by
    have := h.2 b δ S (e.place _ _ h.1 hb)
    unfold SlOk at *
    rw [e.mode _ h.1]; exact this⟩
theorem FnRel.mono {M M' : Mp} (e : Ev M M') {f f' : Fn} (h : FnRel M f f') : FnRel M' f f' := by
  cases f <;> cases f' <;> simp only [FnRel] at h ⊢ <;> first | exact h | exact IdRel.mono e h

theorem VRel.mono {M M' : Mp} (e : Ev M M') {v w : Value} (h : VRel M v w) : VRel M' v w := by
  induction h with
  | junk r h => exact .junk r h
  | bool => exact .bool _
  | int => exact .int _ _
  | float => exact .float _ _
  | complex => exact .complex _ _ _
  | string => exact .string _
  | nilp => exact .nilp
  | ptr h => exact .ptr (h.mono e)
  | nils => exact .nils _ _
  | sl h => exact .sl (h.mono e)
  | nilm => exact .nilm
  | map h => exact .map (h.mono e)
  | nilc => exact .nilc
  | func h ha hb _ _ ika ikb => exact .func (h.mono e) ha hb ika ikb
  | nilFunc => exact .nilFunc
  | iface _ ih => exact .iface ih
  | nilIface => exact .nilIface
  | agg ha _ ih => exact .agg ha ih
  | tuple ha _ ih => exact .tuple ha ih

theorem VsRel.mono {M M' : Mp} (e : Ev M M') {l m : List Value} (h : VsRel M l m) : VsRel M' l m :=
  ⟨h.1, fun i v w hv hw => (h.2 i v w hv hw).mono e⟩
theorem VsRel.nil (M : Mp) : VsRel M [] [] := ⟨rfl, by intro i v w h; simp at h⟩
theorem VsRel.cons {M : Mp} {v w : Value} {l m : List Value} (h : VRel M v w) (k : VsRel M l m) : VsRel M (v :: l) (w :: m) := by
  refine ⟨by simp [k.1], fun i a b ha hb => ?_⟩
  cases i with
  | zero => simp at ha hb; subst ha hb; exact h
  | succ i => simp at ha hb; exact k.2 i a b ha hb
theorem VsRel.uncons {M : Mp} {v w : Value} {l m : List Value} (h : VsRel M (v :: l) (w :: m)) : VRel M v w ∧ VsRel M l m :=
  ⟨h.2 0 v w rfl rfl, by have := h.1; simpa using this, fun i a b ha hb => h.2 (i + 1) a b (by simpa using ha) (by simpa using hb)⟩
theorem VsRel.append {M : Mp} : ∀ {l m l' m' : List Value}, VsRel M l m → VsRel M l' m' → VsRel M (l ++ l') (m ++ m')
  | [], [], _, _, _, k => k
  | [], _ :: _, _, _, h, _ => by have := h.1; simp at this
  | _ :: _, [], _, _, h, _ => by have := h.1; simp at this
  | _ :: _, _ :: _, _, _, h, k => .cons h.uncons.1 (VsRel.append h.uncons.2 k)
theorem VsRel.map {M : Mp} {α : Type} (f g : α → Value) (l : List α) (h : ∀ x, x ∈ l → VRel M (f x) (g x)) : VsRel M (l.map f) (l.map g) := by
  induction l with
  | nil => exact .nil M
  | cons x l ih => exact .cons (h x (by simp)) (ih fun y hy => h y (by simp [hy]))
theorem VsRel.take {M : Mp} {l m : List Value} (h : VsRel M l m) (n : Nat) : VsRel M (l.take n) (m.take n) :=
  ⟨by simp [h.1], fun i v w hv hw => by
    rw [List.getElem?_take] at hv hw
    split at hv
    · rw [if_pos ‹_›] at hw; exact h.2 i v w hv hw
    · cases hv⟩
theorem VsRel.drop {M : Mp} {l m : List Value} (h : VsRel M l m) (n : Nat) : VsRel M (l.drop n) (m.drop n) :=
  ⟨by simp [h.1], fun i v w hv hw => by
    rw [List.getElem?_drop] at hv hw
    exact h.2 _ v w hv hw⟩
theorem VRel.agg' {M : Mp} {a c : Array Value} (h : VsRel M a.toList c.toList) : VRel M (.agg a) (.agg c) := .agg h.1 h.2
theorem VRel.tuple' {M : Mp} {a c : Array Value} (h : VsRel M a.toList c.toList) : VRel M (.tuple a) (.tuple c) := .tuple h.1 h.2
theorem VRel.func' {M : Mp} {f f' : Fn} {a b c d : Array Value} (h : FnRel M f f') (ha : VsRel M a.toList c.toList) (hb : VsRel M b.toList d.toList) : VRel M (.func f a b) (.func f' c d) :=
  .func h ha.1 hb.1 ha.2 hb.2

theorem VRel.cells {M : Mp} {v w : Value} (h : VRel M v w) : VsRel M v.cells.toList w.cells.toList := by
  cases h with
  | agg ha ka => exact ⟨ha, ka⟩
  | bool => exact .cons (.bool _) (.nil M)
  | int => exact .cons (.int _ _) (.nil M)
  | float => exact .cons (.float _ _) (.nil M)
  | complex => exact .cons (.complex _ _ _) (.nil M)
  | string => exact .cons (.string _) (.nil M)
  | nilp => exact .cons .nilp (.nil M)
  | ptr h => exact .cons (.ptr h) (.nil M)
  | nils => exact .cons (.nils _ _) (.nil M)
  | sl h => exact .cons (.sl h) (.nil M)
  | nilm => exact .cons .nilm (.nil M)
  | map h => exact .cons (.map h) (.nil M)
  | nilc => exact .cons .nilc (.nil M)
  | junk r h => rw [h.cells]; exact .cons (.junk r h) (.nil M)
  | func h ha hb ka kb => exact .cons (.func h ha hb ka kb) (.nil M)
  | nilFunc => exact .cons .nilFunc (.nil M)
  | iface h => exact .cons (.iface h) (.nil M)
  | nilIface => exact .cons .nilIface (.nil M)
  | tuple ha ka => exact .cons (.tuple ha ka) (.nil M)

/-! Frames' parts -/

def ERel (M : Mp) (e e' : MapEntry) : Prop := VRel M e.key e'.key ∧ VRel M e.val e'.val ∧ e'.born = e.born
def EsRel (M : Mp) (l m : List MapEntry) : Prop := l.length = m.length ∧ ∀ (i : Nat) (e e' : MapEntry), l[i]? = some e → m[i]? = some e' → ERel M e e'
def TRel (M : Mp) (tm : Tr Value) (tmps : Array Value) : Prop := ∀ t, VRel M (ev tm (.tmp t)) (tmps.getD t undef)
def LRel (M : Mp) (l : Lp) (r : Loop) : Prop :=
  r.state = l.state ∧ r.pending = l.pending ∧ r.fn = l.fn ∧ r.tmps.size = l.nt ∧ TRel M l.tm r.tmps ∧ r.params = l.params ∧ r.assign = l.assign ∧ r.body = l.body ∧ IdRel M l.defers r.defers
def TgRel (M : Mp) (t t' : Target) : Prop :=
  match t, t' with
  | .fn f a, .fn f' a' => FnRel M f f' ∧ VsRel M a.toList a'.toList
  | .collected r, .collected r' => IdRel M r r'
  | .builtin b ts t cs, .builtin b' ts' t' cs' => b = b' ∧ ts = ts' ∧ t = t' ∧ cs = cs'
  | .nil, .nil => True
  | _, _ => False
def DRel (M : Mp) (d d' : Deferred) : Prop := TgRel M d.target d'.target ∧ VsRel M d.args.toList d'.args.toList
def DsRel (M : Mp) : List Deferred → List Deferred → Prop
  | [], [] => True
  | d :: l, d' :: l' => DRel M d d' ∧ DsRel M l l'
  | _, _ => False

theorem ERel.mono {M M' : Mp} (e : Ev M M') {x y : MapEntry} (h : ERel M x y) : ERel M' x y := ⟨h.1.mono e, h.2.1.mono e, h.2.2⟩
theorem EsRel.mono {M M' : Mp} (e : Ev M M') {x y : List MapEntry} (h : EsRel M x y) : EsRel M' x y := ⟨h.1, fun i a b ha hb => (h.2 i a b ha hb).mono e⟩
theorem TRel.mono {M M' : Mp} (e : Ev M M') {x : Tr Value} {y : Array Value} (h : TRel M x y) : TRel M' x y := fun t => (h t).mono e
theorem LRel.mono {M M' : Mp} (e : Ev M M') {x : Lp} {y : Loop} (h : LRel M x y) : LRel M' x y := by
  obtain ⟨h1, h2, h3, h4, h5, h6, h7, h8, h9⟩ := h
  exact ⟨h1, h2, h3, h4, h5.mono e, h6, h7, h8, h9.mono e⟩
theorem TgRel.mono {M M' : Mp} (e : Ev M M') {x y : Target} (h : TgRel M x y) : TgRel M' x y := by
  cases x <;> cases y <;> simp only [TgRel] at h ⊢ <;> first | exact h | exact ⟨h.1.mono e, h.2.mono e⟩ | exact IdRel.mono e h
theorem DRel.mono {M M' : Mp} (e : Ev M M') {x y : Deferred} (h : DRel M x y) : DRel M' x y := ⟨h.1.mono e, h.2.mono e⟩
theorem DsRel.mono {M M' : Mp} (e : Ev M M') : ∀ {x y : List Deferred}, DsRel M x y → DsRel M' x y
  | [], [], _ => trivial
  | [], _ :: _, h => h.elim
  | _ :: _, [], h => h.elim
  | _ :: _, _ :: _, h => ⟨h.1.mono e, DsRel.mono e h.2⟩
theorem DsRel.append {M : Mp} : ∀ {a b c d : List Deferred}, DsRel M a b → DsRel M c d → DsRel M (a ++ c) (b ++ d)
  | [], [], _, _, _, k => k
  | [], _ :: _, _, _, h, _ => h.elim
  | _ :: _, [], _, _, h, _ => h.elim
  | _ :: _, _ :: _, _, _, h, k => ⟨h.1, DsRel.append h.2 k⟩

/-! Memory -/

/-- An object of X's, and the model's: where it begins, and how many cells it has. -/
def ORel (M : Mp) (i : Nat) (o : AObj) (δ S : Nat) (x : Obj) : Prop :=
  match o with
  | .cells c e m => ∃ c' fr, x = .cells c' e fr ∧ S = c'.size ∧ δ + c.length ≤ S ∧
      (∀ j v, c[j]? = some v → ∃ w, c'[δ + j]? = some w ∧ VRel M v w) ∧
      ((m = 0 ∧ M.md i = 0 ∧ δ = 0 ∧ S = c.length ∧ fr = (0, 0)) ∨ (m = 1 ∧ M.md i = 0 ∧ δ = 0 ∧ S = c.length) ∨
        ((∃ s, m = s + 2 ∧ M.md i = s + 1) ∧ ∀ j, j < S → ¬(fr.1 ≤ j ∧ j < fr.2)))
  | .map es cl => δ = 0 ∧ ∃ es', x = .map es' cl ∧ EsRel M es es'.toList
  | .str s p => δ = 0 ∧ x = .stringIter s p
  | .loop l => δ = 0 ∧ ∃ r, x = .loop r ∧ LRel M l r
  | .deferred none => δ = 0 ∧ x = .deferred none
  | .deferred (some ds) => δ = 0 ∧ ∃ ds', x = .deferred (some ds') ∧ DsRel M ds ds'
  | .dead => False

theorem ORel.mono {M M' : Mp} (e : Ev M M') {i : Nat} (hi : M.K i) {o : AObj} {δ S : Nat} {x : Obj} (h : ORel M i o δ S x) : ORel M' i o δ S x := by
  cases o with
  | cells c t m =>
    obtain ⟨c', fr, h1, h2, h3, h4, h5⟩ := h
    refine ⟨c', fr, h1, h2, h3, fun j v hv => ?_, ?_⟩
    · obtain ⟨w, a, b⟩ := h4 j v hv; exact ⟨w, a, b.mono e⟩
    · rw [e.mode i hi]; exact h5
  | map es cl => obtain ⟨h0, es', h1, h2⟩ := h; exact ⟨h0, es', h1, h2.mono e⟩
  | str s p => exact h
  | loop l => obtain ⟨h0, r, h1, h2⟩ := h; exact ⟨h0, r, h1, h2.mono e⟩
  | deferred ds =>
    cases ds with
    | none => exact h
    | some ds => obtain ⟨h0, r, h1, h2⟩ := h; exact ⟨h0, r, h1, h2.mono e⟩
  | dead => exact h

/-- X only reads it. -/
def RO (h : Hp) (i : Nat) : Prop := ∃ c e, h.get i = some (.cells c e 1)

/-- Package-level variables lie where they lie. -/
def Gl (M : Mp) : Prop := ∀ i, i ≤ 255 → M.K i ∧ ∀ b δ S, M.ρ i = some (b, δ, S) → b = i ∧ δ = 0

theorem Gl.mono {M M' : Mp} (e : Ev M M') (g : Gl M) : Gl M' := fun i h2 =>
  ⟨e.known i (g i h2).1, fun b δ S h => (g i h2).2 b δ S (e.place i _ (g i h2).1 h)⟩

theorem Gl.ptr {M : Mp} (g : Gl M) {i : Nat} (h : Nat.blt i 255 = true) : VRel M (.pointer (some ⟨i, 0, none⟩)) (.pointer (some ⟨i, 0, none⟩)) := by
  have hi := (blt_iff _ _).1 h
  refine .ptr ⟨(g i (by omega)).1, fun b δ S hb => ?_⟩
  obtain ⟨rfl, rfl⟩ := (g i (by omega)).2 b δ S hb
  rfl

/-- The memories: `W`: the world at the beginning; `B`: those of its blocks that X has. -/
structure HRel (W : World) (B : Nat → Prop) (M : Mp) (h : Hp) (w : World) : Prop where
  obj : ∀ i b δ S, M.ρ i = some (b, δ, S) → M.K i ∧ ∃ o x, h.get i = some o ∧ w.heap[b]? = some x ∧ ORel M i o δ S x
  inj : ∀ i j b δ S δ' S', M.ρ i = some (b, δ, S) → M.ρ j = some (b, δ', S') → i = j ∨ RO h i
  kn : ∀ i, M.K i → i < h.n
  fresh : ∀ i, h.n ≤ i → h.get i = none
  live : ∀ i, M.K i → M.ρ i = none → h.get i = none ∨ h.get i = some .dead
  os : w.os = W.os
  tape : w.tape = W.tape
  output : w.output = W.output
  size : W.heap.size ≤ w.heap.size
  old : ∀ b, b < W.heap.size → ¬ B b → w.heap[b]? = W.heap[b]?
  own : ∀ i b δ S, M.ρ i = some (b, δ, S) → b < W.heap.size → B b ∨ RO h i
  glob : Gl M

/-- X's blocks that nobody knows stay as they are. -/
def Keep (M : Mp) (h : Hp) (M' : Mp) (h' : Hp) (X : Nat → Prop) : Prop :=
  h.n ≤ h'.n ∧ ∀ i, i < h.n → ¬ M.K i → ¬ X i → ¬ M'.K i ∧ h'.get i = h.get i

theorem Keep.refl (M : Mp) (h : Hp) (X : Nat → Prop) : Keep M h M h X := ⟨Nat.le_refl _, fun _ _ hk _ => ⟨hk, rfl⟩⟩
theorem Keep.trans {M M' M'' : Mp} {h h' h'' : Hp} {X : Nat → Prop} (a : Keep M h M' h' X) (b : Keep M' h' M'' h'' X) : Keep M h M'' h'' X :=
  ⟨Nat.le_trans a.1 b.1, fun i hi hk hx => by
    obtain ⟨p, q⟩ := a.2 i hi hk hx
    obtain ⟨r, s⟩ := b.2 i (Nat.lt_of_lt_of_le hi a.1) p hx
    exact ⟨r, s.trans q⟩⟩

theorem World.drew_HRel {W : World} {B : Nat → Prop} {M : Mp} {h : Hp} {w : World} (H : HRel W B M h w) (n : Nat) : HRel W B M h { w with drawn := n } :=
  ⟨H.obj, H.inj, H.kn, H.fresh, H.live, H.os, H.tape, H.output, H.size, H.old, H.own, H.glob⟩

/-- A block of X's that nobody knows yet. -/
theorem HRel.allocX {W : World} {B : Nat → Prop} {M : Mp} {h : Hp} {w : World} (H : HRel W B M h w) (o : AObj) : HRel W B M (h.alloc o) w := by
  refine ⟨fun i b δ S hi => ?_, fun i j b δ S δ' S' hi hj => ?_, fun i hi => ?_, fun i hi => ?_, fun i hk hi => ?_, H.os, H.tape, H.output, H.size, H.old, fun i b δ S hi hb => ?_, H.glob⟩
  · obtain ⟨hk, o', x, h1, h2, h3⟩ := H.obj i b δ S hi
    refine ⟨hk, o', x, ?_, h2, h3⟩
    rw [Hp.get_alloc, if_neg (by have := H.kn i hk; omega)]; exact h1
  · rcases H.inj i j b δ S δ' S' hi hj with h1 | ⟨c, e, h1⟩
    · exact .inl h1
    · have := H.kn i (H.obj i b δ S hi).1
      exact .inr ⟨c, e, by rw [Hp.get_alloc, if_neg (by omega)]; exact h1⟩
  · have := H.kn i hi; rw [Hp.n_alloc]; omega
  · rw [Hp.n_alloc] at hi
    rw [Hp.get_alloc, if_neg (by omega)]; exact H.fresh i (by omega)
  · rw [Hp.get_alloc, if_neg (by have := H.kn i hk; omega)]; exact H.live i hk hi
  · rcases H.own i b δ S hi hb with h1 | ⟨c, e, h1⟩
    · exact .inl h1
    · have := H.kn i (H.obj i b δ S hi).1
      exact .inr ⟨c, e, by rw [Hp.get_alloc, if_neg (by omega)]; exact h1⟩

/-- Placing one more: known from now on. -/
def Mp.add (M : Mp) (i b δ S m : Nat) : Mp :=
  { ρ := fun j => if j = i then some (b, δ, S) else M.ρ j, K := fun j => j = i ∨ M.K j, md := fun j => if j = i then m else M.md j }

theorem Mp.add_ev (M : Mp) (i b δ S m : Nat) (hi : ¬ M.K i) : Ev M (M.add i b δ S m) := by
  refine ⟨fun j hj => .inr hj, fun j x hj hx => ?_, fun j hj => ?_⟩
  · have : j ≠ i := fun e => hi (e ▸ hj)
    simpa [Mp.add, this] using hx
  · have : j ≠ i := fun e => hi (e ▸ hj)
    simp [Mp.add, this]

/-- The model makes a block; X has it, and nobody knew it. -/
theorem HRel.push {W : World} {B : Nat → Prop} {M : Mp} {h : Hp} {w : World} (H : HRel W B M h w) {i : Nat} {o : AObj} {x : Obj} {S m : Nat}
    (hi : ¬ M.K i) (hlt : i < h.n) (hg : h.get i = some o) (hx : ORel (M.add i w.heap.size 0 S m) i o 0 S x) :
    HRel W B (M.add i w.heap.size 0 S m) h { w with heap := w.heap.push x } := by
  have he := Mp.add_ev M i w.heap.size 0 S m hi
  have hlow : ∀ j b δ S, M.ρ j = some (b, δ, S) → b < w.heap.size := fun j b δ S hj => by
    obtain ⟨_, _, x, _, h2, _⟩ := H.obj j b δ S hj
    exact (Array.getElem?_eq_some_iff.1 h2).1
  refine ⟨fun j b δ S' hj => ?_, fun j k b δ S1 δ' S2 hj hk => ?_, fun j hj => ?_, H.fresh, fun j hk hj => ?_, H.os, H.tape, H.output, ?_, fun b hb hB => ?_, fun j b δ S' hj hb => ?_, H.glob.mono he⟩
  · by_cases e : j = i
    · subst e
      simp only [Mp.add, if_true, Option.some.injEq, Prod.mk.injEq] at hj
      obtain ⟨rfl, rfl, rfl⟩ := hj
      exact ⟨.inl rfl, o, x, hg, by simp, hx⟩
    · simp only [Mp.add, if_neg e] at hj
      obtain ⟨hk, o', x', h1, h2, h3⟩ := H.obj j b δ S' hj
      refine ⟨.inr hk, o', x', h1, ?_, h3.mono he hk⟩
      rw [Array.getElem?_push, if_neg (by have := hlow j b δ S' hj; omega)]; exact h2
  · by_cases e : j = i <;> by_cases e' : k = i
    · exact .inl (by rw [e, e'])
    · simp only [Mp.add, if_pos e, if_neg e', Option.some.injEq, Prod.mk.injEq] at hj hk
      have := hlow k b δ' S2 hk; omega
    · simp only [Mp.add, if_neg e, if_pos e', Option.some.injEq, Prod.mk.injEq] at hj hk
      have := hlow j b δ S1 hj; omega
    · simp only [Mp.add, if_neg e, if_neg e'] at hj hk
      exact H.inj j k b δ S1 δ' S2 hj hk
  · rcases hj with rfl | hj
    · exact hlt
    · exact H.kn j hj
  · by_cases e : j = i
    · simp [Mp.add, e] at hj
    · simp only [Mp.add, if_neg e] at hj
      exact H.live j (hk.resolve_left e) hj
  · simp; have := H.size; omega
  · rw [Array.getElem?_push, if_neg (by have := H.size; omega)]; exact H.old b hb hB
  · by_cases e : j = i
    · simp only [Mp.add, if_pos e, Option.some.injEq, Prod.mk.injEq] at hj
      have := H.size; omega
    · simp only [Mp.add, if_neg e] at hj
      exact H.own j b δ S' hj hb

/-- An object is another one from now on, here and there. -/
theorem HRel.put {W : World} {B : Nat → Prop} {M : Mp} {h : Hp} {w w' : World} (H : HRel W B M h w) {i b δ S : Nat} {o : AObj} {x : Obj}
    (hi : M.ρ i = some (b, δ, S)) (hnr : ¬ RO h i) (hos : w'.os = w.os) (htape : w'.tape = w.tape) (hout : w'.output = w.output) (hsz : w'.heap.size = w.heap.size)
    (hb : w'.heap[b]? = some x) (hother : ∀ c, c ≠ b → w'.heap[c]? = w.heap[c]?) (hx : ORel M i o δ S x) : HRel W B M (h.put i o) w' := by
  have hro : ∀ j, RO h j → RO (h.put i o) j := fun j ⟨cc, ee, h1⟩ => by
    have hne : i ≠ j := fun e => hnr (e ▸ ⟨cc, ee, h1⟩)
    exact ⟨cc, ee, by rw [Hp.get_put, if_neg hne]; exact h1⟩
  refine ⟨fun j c δ' S' hj => ?_, fun j k c δ1 S1 δ2 S2 hj hk => (H.inj j k c δ1 S1 δ2 S2 hj hk).imp (fun h => h) (hro j), fun j hj => ?_, fun j hj => ?_, fun j hk hj => ?_, hos.trans H.os, htape.trans H.tape, hout.trans H.output, by rw [hsz]; exact H.size, fun c hc hB => ?_, fun j c δ' S' hj hc => ?_, H.glob⟩
  · by_cases e : j = i
    · subst e
      rw [hi, Option.some.injEq, Prod.mk.injEq, Prod.mk.injEq] at hj
      obtain ⟨rfl, rfl, rfl⟩ := hj
      exact ⟨(H.obj j b δ S hi).1, o, x, by rw [Hp.get_put, if_pos rfl], hb, hx⟩
    · obtain ⟨hk, o', x', h1, h2, h3⟩ := H.obj j c δ' S' hj
      have hne : c ≠ b := fun e' => e ((H.inj i j b δ S δ' S' hi (e' ▸ hj)).resolve_right hnr).symm
      exact ⟨hk, o', x', by rw [Hp.get_put, if_neg (fun e' => e e'.symm)]; exact h1, by rw [hother c hne]; exact h2, h3⟩
  · rw [Hp.n_put]; exact H.kn j hj
  · rw [Hp.n_put] at hj
    have hk := H.kn i (H.obj i b δ S hi).1
    rw [Hp.get_put, if_neg (by omega)]; exact H.fresh j hj
  · have e : i ≠ j := fun e => by subst e; rw [hi] at hj; cases hj
    rw [Hp.get_put, if_neg e]; exact H.live j hk hj
  · by_cases e : c = b
    · subst e; exact absurd ((H.own i c δ S hi hc).resolve_right hnr) hB
    · rw [hother c e]; exact H.old c hc hB
  · rcases H.own j c δ' S' hj hc with h1 | ⟨cc, ee, h1⟩
    · exact .inl h1
    · have hne : i ≠ j := fun e => hnr (e ▸ ⟨cc, ee, h1⟩)
      exact .inr ⟨cc, ee, by rw [Hp.get_put, if_neg hne]; exact h1⟩

end Go.X
