/- OnlineCopies: the call answers true, whatever the world and the tape; the arguments read as they read before. Conditions: none. -/
import Derived.Test.YtljpajcmdjmeaaaGreatLh
import Derived.Test.YtljpajcmdjmeaaaGreatLi
open List renaming all_eq_true → v0u
namespace Go.Proofs.YtljpajcmdjmeaaaGreat
open Go.ChangeShapes Go.WideShapes Go.ChangeAt Go.RowKit Go.Deep Go.X Go.May Go.Mac
set_option maxRecDepth 100000
theorem JF (os:Os) (started:os.Started) (H:Type) (enc:TypeId×Value->H):
 ReturnsInHanded {} Tryz.checked os 4 .any (Rows.onlineCopiesSpec.pre6 enc Tryz.prog Tryz.f4 Rows.onlineCopiesRow.domain false) (Rows.onlineCopiesSpec.post enc Tryz.prog Tryz.f4 false true false false):=by
 refine Q3H (C:=Tryz.checked) QeG started (by kernel_rfl) Tryz.func4
  (ChangeSpec.witness6 (enc:=enc) (C:=Tryz.checked) false ⟨#[],#[.agg #[.slice none 0 0,.slice none 0 0,.slice none 0 0,.slice none 0 0,.slice none 0 0,.slice none 0 0,.int .i64 0,.slice none 0 0],.slice none 0 0,.int .i64 0],[]⟩ 8 (by kernel_rfl) (by kernel_rfl) (by kernel_rfl) (by kernel_rfl)) ?_
 intro W base args ds gs before gS hW hz;have hW':=hW;obtain⟨p,q,hA,hV,hp,nG,fp⟩:=hW';obtain⟨v0,v1,v2,d0,d1,d2,p0,p1,p2,rfl,rfl,rfl,h0,h1,h2⟩:=trodAll_three hA
 have jf: ∀n,n∈d0.weights Tryz.prog 30->n<=140737488351232:=fun n hn=>by
  have:=v0u.1 hz n (DataW.weights_mem_each (j:=0) (t:=30) (d:=d0) (by kernel_rfl) rfl n hn);exact of_decide_eq_true this
 have cp: ∀n,n∈d1.weights Tryz.prog 31->n<=140737488351232:=fun n hn=>by
  have:=v0u.1 hz n (DataW.weights_mem_each (j:=1) (t:=31) (d:=d1) (by kernel_rfl) rfl n hn);exact of_decide_eq_true this
 obtain⟨P,lo,cl,gl,fu,co,ev,si,rfl,r0,x0⟩:=Qca (gS 0 30 v0 (by kernel_rfl) rfl) h0 jf;obtain⟨l,r1,x1⟩:=Qfl (gS 1 31 v1 (by kernel_rfl) rfl) h1 cp;obtain⟨pa,rfl,_,_⟩:=QfQ Q6y (gS 2 3 v2 (by kernel_rfl) rfl) h2
 exact(Q8x modE Q5d (args:=[Qds P lo cl gl fu co ev si,v1,iV pa]) (VsRel.cons r0 (VsRel.cons r1 (VsRel.cons (.int _ _) (.nil _)))) (o4 x0 x1 pa)).mono fun e W' ⟨he,hb⟩=>
  ⟨_,he,Q9J Qcs (by kernel_rfl) rfl rfl Qct (fun ds j8=>by
   match ds,j8 with
   | [_,_,_],_=>exact⟨rfl,rfl,rfl⟩) hW hb⟩
theorem onlineCopies_holds:Rows.OnlineCopiesSaid:=
 OpenClaim.holds_of_wide 4 Tryz.f4 rfl rfl rfl rfl rfl rfl rfl ⟨rfl,rfl,rfl,rfl,rfl⟩ rfl rfl rfl rfl rfl (by kernel_rfl) Tryz.func4 (by kernel_rfl)
  (of_decide_eq_true (by kernel_rfl)) (by unfold Func.isWrapper;first|(rw[if_pos (by decide+kernel)];kernel_rfl)|(rw[if_neg (by decide+kernel)];exact⟨rfl,rfl⟩))
  (fun os started H enc _=>JF os started H enc)
end Go.Proofs.YtljpajcmdjmeaaaGreat
