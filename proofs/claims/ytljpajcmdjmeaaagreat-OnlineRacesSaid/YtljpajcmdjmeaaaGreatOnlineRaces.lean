/- OnlineRaces: the call answers true, whatever the world and the tape; the arguments read as they read before. Conditions: none. -/
import Derived.Test.YtljpajcmdjmeaaaGreatLh
open List renaming all_eq_true → v0v
namespace Go.Proofs.YtljpajcmdjmeaaaGreat
open Go.ChangeShapes Go.WideShapes Go.ChangeAt Go.RowKit Go.Deep Go.X Go.May Go.Mac
set_option maxRecDepth 100000
theorem Q0a (os:Os) (started:os.Started) (H:Type) (enc:TypeId×Value->H):
 ReturnsInHanded {} Tryz.checked os 3 .any (Rows.onlineRacesSpec.pre6 enc Tryz.prog Tryz.f3 Rows.onlineRacesRow.domain false) (Rows.onlineRacesSpec.post enc Tryz.prog Tryz.f3 false true false false):=by
 refine Q3K (C:=Tryz.checked) Qfv started (by kernel_rfl) Tryz.func3
  (ChangeSpec.witness6 (enc:=enc) (C:=Tryz.checked) false ⟨#[],#[.agg #[.slice none 0 0,.slice none 0 0,.slice none 0 0,.slice none 0 0,.slice none 0 0,.slice none 0 0,.int .i64 0,.slice none 0 0],.slice none 0 0],[]⟩ 8 (by kernel_rfl) (by kernel_rfl) (by kernel_rfl) (by kernel_rfl)) ?_
 intro W base args ds gs before jN hW hz;have hW':=hW;obtain⟨p,q,hA,hV,hp,nP,fE⟩:=hW';obtain⟨v0,v1,d0,d1,p0,p1,rfl,rfl,rfl,h0,h1⟩:=trodAll_two hA
 have iY: ∀n,n∈d0.weights Tryz.prog 30->n<=140737488351232:=fun n hn=>by
  have:=v0v.1 hz n (DataW.weights_mem_each (j:=0) (t:=30) (d:=d0) (by kernel_rfl) rfl n hn);exact of_decide_eq_true this
 have cz: ∀n,n∈d1.weights Tryz.prog 31->n<=140737488351232:=fun n hn=>by
  have:=v0v.1 hz n (DataW.weights_mem_each (j:=1) (t:=31) (d:=d1) (by kernel_rfl) rfl n hn);exact of_decide_eq_true this
 obtain⟨P,lo,cl,gl,fu,co,ev,si,rfl,r0,x0⟩:=QcM (jN 0 30 v0 (by kernel_rfl) rfl) h0 iY;obtain⟨l,r1,x1⟩:=Qga (jN 1 31 v1 (by kernel_rfl) rfl) h1 cz
 exact(Q8N modE Q5s (args:=[Qed P lo cl gl fu co ev si,v1]) (VsRel.cons r0 (VsRel.cons r1 (.nil _))) (o3 x0 x1)).mono fun e W' ⟨he,hb⟩=>
  ⟨_,he,Qae Qd4 (by kernel_rfl) rfl rfl Qd5 (fun ds j8=>by
   match ds,j8 with
   | [_,_],_=>exact⟨rfl,rfl,rfl⟩) hW hb⟩
theorem onlineRaces_holds:Rows.OnlineRacesSaid:=
 OpenClaim.holds_of_wide 3 Tryz.f3 rfl rfl rfl rfl rfl rfl rfl ⟨rfl,rfl,rfl,rfl,rfl⟩ rfl rfl rfl rfl rfl (by kernel_rfl) Tryz.func3 (by kernel_rfl)
  (of_decide_eq_true (by kernel_rfl)) (by unfold Func.isWrapper;first|(rw[if_pos (by decide+kernel)];kernel_rfl)|(rw[if_neg (by decide+kernel)];exact⟨rfl,rfl⟩))
  (fun os started H enc _=>Q0a os started H enc)
end Go.Proofs.YtljpajcmdjmeaaaGreat
