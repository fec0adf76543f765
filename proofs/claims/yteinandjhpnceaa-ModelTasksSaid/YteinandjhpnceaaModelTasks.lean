/- ModelTasks: the call answers true, whatever the world and the tape; the arguments read as they read before. Conditions: none. -/
import Derived.Test.YteinandjhpnceaaLh
namespace Go.Proofs.Yteinandjhpnceaa
open Go.ChangeShapes Go.WideShapes Go.ChangeAt Go.RowKit Go.Deep Go.X Go.May Go.Mac
set_option maxRecDepth 100000
theorem Q0L (os:Os) (started:os.Started) (H:Type) (enc:TypeId×Value->H):
 ReturnsInHanded {} Try.checked os 5 .any (Rows.modelTasksSpec.pre6 enc Try.prog Try.f5 Rows.modelTasksRow.domain false) (Rows.modelTasksSpec.post enc Try.prog Try.f5 false true false false):=by
 refine JZ (C:=Try.checked) QaU started (by kernel_rfl) Try.func5
  (ChangeSpec.witness6 (enc:=enc) (C:=Try.checked) false ⟨#[],#[.agg #[.slice none 0 0,.slice none 0 0,.slice none 0 0,.slice none 0 0,.slice none 0 0,.slice none 0 0,.int .i64 0,.slice none 0 0],.slice none 0 0],[]⟩ 8 (by kernel_rfl) (by kernel_rfl) (by kernel_rfl) (by kernel_rfl)) ?_
 intro W base args ds gs before hval0 hW hz;have hW':=hW;obtain⟨p,q,hA,hV,hp,hfz,hnd⟩:=hW';obtain⟨v0,v1,d0,d1,p0,p1,rfl,rfl,rfl,h0,h1⟩:=trodAll_two hA
 have hw0: ∀n,n∈d0.weights Try.prog 55->n<=140737488351232:=fun n hn=>by
  have:=List.all_eq_true.1 hz n (DataW.weights_mem_each (j:=0) (t:=55) (d:=d0) (by kernel_rfl) rfl n hn);exact of_decide_eq_true this
 have hw1: ∀n,n∈d1.weights Try.prog 56->n<=140737488351232:=fun n hn=>by
  have:=List.all_eq_true.1 hz n (DataW.weights_mem_each (j:=1) (t:=56) (d:=d1) (by kernel_rfl) rfl n hn);exact of_decide_eq_true this
 obtain⟨P,lo,cl,gl,fu,co,ev,si,rfl,r0,x0⟩:=Q7T (hval0 0 55 v0 (by kernel_rfl) rfl) h0 hw0;obtain⟨l,r1,x1⟩:=QbU (hval0 1 56 v1 (by kernel_rfl) rfl) h1 hw1
 exact(Q3e modE Q2b (args:=[QcD P lo cl gl fu co ev si,v1]) (VsRel.cons r0 (VsRel.cons r1 (.nil _))) (t5 x0 x1)).mono fun e W' ⟨he,hb⟩=>
  ⟨_,he,Q5o Q88 (by kernel_rfl) rfl rfl Q89 (fun ds hds=>by
   match ds,hds with
   | [_,_],_=>exact⟨rfl,rfl,rfl⟩) hW hb⟩
theorem modelTasks_holds:Rows.ModelTasksSaid:=
 OpenClaim.holds_of_wide 5 Try.f5 rfl rfl rfl rfl rfl rfl rfl ⟨rfl,rfl,rfl,rfl,rfl⟩ rfl rfl rfl rfl rfl (by kernel_rfl) Try.func5 (by kernel_rfl)
  (of_decide_eq_true (by kernel_rfl)) (by unfold Func.isWrapper;first|(rw[if_pos (by decide+kernel)];kernel_rfl)|(rw[if_neg (by decide+kernel)];exact⟨rfl,rfl⟩))
  (fun os started H enc _=>Q0L os started H enc)
end Go.Proofs.Yteinandjhpnceaa
