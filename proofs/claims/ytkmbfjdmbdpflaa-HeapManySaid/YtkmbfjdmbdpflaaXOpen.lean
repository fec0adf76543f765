/- A start with arguments: blocks of the old world that X only reads. Conditions: none. -/
import Derived.Test.YtkmbfjdmbdpflaaXNil
namespace Go.X
open Go.RowKit

section
variable {W : World} {B : Nat → Prop} {M : Mp} {h : Hp} {w : World}

/-- One more block of the old world, that X only reads. -/
theorem HRel.addArg (H : HRel W B M h w) {b : Nat} {cs : List Value} {cs' : Array Value} {e : TypeId} {fr : Nat × Nat} (hb : w.heap[b]? = some (.cells cs' e fr))
    (hv : VsRel (M.add h.n b 0 cs'.size 0) cs cs'.toList) (hro : ∀ j δ S, M.ρ j = some (b, δ, S) → RO h j) :
    HRel W B (M.add h.n b 0 cs'.size 0) (h.alloc (.cells cs e 1)) w ∧ Ev M (M.add h.n b 0 cs'.size 0) := by
  have hnk : ¬ M.K h.n := fun hk => by have := H.kn _ hk; omega
  have hev := Mp.add_ev M h.n b 0 cs'.size 0 hnk
  have hnew : RO (h.alloc (.cells cs e 1)) h.n := ⟨cs, e, by rw [Hp.get_alloc, if_pos rfl]⟩
  have hold : ∀ j, M.K j → (h.alloc (.cells cs e 1)).get j = h.get j := fun j hj => by
    have := H.kn j hj
    rw [Hp.get_alloc, if_neg (by omega)]
  have hrold : ∀ j, M.K j → RO h j → RO (h.alloc (.cells cs e 1)) j := fun j hj ⟨c, e', h1⟩ => ⟨c, e', by rw [hold j hj]; exact h1⟩
  refine ⟨⟨fun j c δ S hj => ?_, fun j k c δ S δ' S' hj hk => ?_, fun j hj => ?_, fun j hj => ?_, fun j hk hj => ?_, H.os, H.tape, H.output, H.size, H.old, fun j c δ S hj hc => ?_, H.glob.mono hev⟩, hev⟩
  · by_cases ej : j = h.n
    · subst ej
      simp only [Mp.add, if_true, Option.some.injEq, Prod.mk.injEq] at hj
      obtain ⟨rfl, rfl, rfl⟩ := hj
      have hl : cs.length = cs'.size := by have := hv.1; simpa using this
      refine ⟨.inl rfl, .cells cs e 1, _, by rw [Hp.get_alloc, if_pos rfl], hb, cs', fr, rfl, rfl, by omega, fun j v hj => ?_, .inr (.inl ⟨rfl, by simp [Mp.add], rfl, hl.symm⟩)⟩
      have hlt : j < cs'.size := by rw [← hl]; exact (List.getElem?_eq_some_iff.1 hj).1
      refine ⟨cs'[j], by simp [hlt], hv.2 j v _ hj (by simp [hlt])⟩
    · simp only [Mp.add, if_neg ej] at hj
      obtain ⟨h1, o, x, h2, h3, h4⟩ := H.obj j c δ S hj
      exact ⟨.inr h1, o, x, by rw [hold j h1]; exact h2, h3, h4.mono hev h1⟩
  · by_cases ej : j = h.n
    · subst ej; exact .inr hnew
    · by_cases ek : k = h.n
      · simp only [Mp.add, if_neg ej, if_pos ek, Option.some.injEq, Prod.mk.injEq] at hj hk
        obtain ⟨rfl, _, _⟩ := hk
        exact .inr (hrold j (H.obj j _ δ S hj).1 (hro j δ S hj))
      · simp only [Mp.add, if_neg ej, if_neg ek] at hj hk
        exact (H.inj j k c δ S δ' S' hj hk).imp (fun h => h) (hrold j (H.obj j c δ S hj).1)
  · rw [Hp.n_alloc]
    rcases hj with rfl | hj
    · omega
    · have := H.kn j hj; omega
  · rw [Hp.n_alloc] at hj
    rw [Hp.get_alloc, if_neg (by omega)]; exact H.fresh j (by omega)
  · by_cases ej : j = h.n
    · simp [Mp.add, ej] at hj
    · simp only [Mp.add, if_neg ej] at hj
      have hk' : M.K j := hk.resolve_left ej
      rw [hold j hk']; exact H.live j hk' hj
  · by_cases ej : j = h.n
    · subst ej; exact .inr hnew
    · simp only [Mp.add, if_neg ej] at hj
      exact (H.own j c δ S hj hc).imp (fun h => h) (hrold j (H.obj j c δ S hj).1)

end

/-- X's run of a call with arguments, as a contract. -/
theorem run_below (E : Env) (hm : E.P.follows .mixedOrders = true) {f : FuncId} {n : Nat} {args : List Value} {args' : Array Value} {M0 : Mp} {h0 : Hp} {w : World} {s0 : St}
    (H0 : HRel w (fun _ => False) M0 h0 w) (hv : VsRel M0 args args'.toList) (hs : startX E f args h0 = some s0) (he : endX E f (runX E n s0) = some (.bool true)) :
    Calls E.P f args' w fun e w' => e = .returned (.bool true) ∧ Below w.heap.size w w' :=
  (run_calls E hm rfl H0 hv hs he).mono fun _ _ ⟨h1, h2, h3, h4, h5, h6⟩ => ⟨h1, ⟨h2, h3, h4, h5, h6⟩⟩

end Go.X
