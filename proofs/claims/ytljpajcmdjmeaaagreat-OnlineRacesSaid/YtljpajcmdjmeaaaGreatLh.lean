/- The walks and the laws, part Lh. Conditions: none. -/
import Derived.Test.YtljpajcmdjmeaaaGreatLg
import Derived.Test.YtljpajcmdjmeaaaGreatLb
import Derived.Test.YtljpajcmdjmeaaaGreatLa
import Derived.Test.YtljpajcmdjmeaaaGreatXd
import Derived.Test.YtljpajcmdjmeaaaGreatXc
set_option maxHeartbeats 16000000
open List renaming mem_cons_of_mem → v0E, length_range → v15, mem_iff_getElem → v0J, map_append → v0P, append_nil → v0k, range → v0o, filter_append → v1C, filter_cons → v1S, length_append → v0j, length_map → v0s, length_filter_le → v08, getElem?_eq_getElem → v0c, count_cons → v1d, count_nil → v1u, count_append → v1t, not_mem_nil → v1m, take_zero → v1j, map_nil → v1h, getElem?_map → v0y, length_modify → v0l, drop_succ_cons → v1E, drop_zero → v0R, take_succ_cons → v1F, cons → v1c, mem_cons → v0w, map_cons → v0G
open Nat renaming lt_or_ge → v1w, zero_add → v0f, mul_one → v0x, le_refl → v0b, zero_le → v0t, le_trans → v0p
open Int renaming toNat_natCast → v0e, toNat → v0g, eq_ofNat_of_zero_le → v1D
open Bool renaming and_eq_true → v0h, or_eq_true → v0H, or_eq_false_iff → v0Y, eq_iff_iff → v1H
open Option renaming some → v0i
namespace Go.Proofs.YtljpajcmdjmeaaaGreat
open Go.X Go.May Go.Mac Go.Model
def Q6c (T:List MTask) (M:List MMark) (F:FB):Prop:= ∀a i,F a i=true->HB T M a i
def LeF (F F2:FB):Prop:= ∀a i,F a i=true->F2 a i=true
def NextI (M:List MMark) (j:Nat) (F:FB):Prop:= ∀i k:Nat,i <j->i <k->k <M.length->(mkI M i).task=(mkI M k).task->(∀q:Nat,i <q->q <k->(mkI M q).task≠(mkI M k).task)->F i k=true
def JoinF (M:List MMark) (j:Nat) (F:FB):Prop:= ∀i:Nat,i <j->(mkI M i).kind=6->0<=eIx M (mkI M i).other->F (eIx M (mkI M i).other).toNat i=true
def MadeF (T:List MTask) (M:List MMark) (j:Nat) (F:FB):Prop:= ∀id:Int,1<=id->id<=j->(0<=(tkT T id).mark->0<=bIx M id->F (tkT T id).mark.toNat (bIx M id).toNat=true)/\(0 <(tkT T id).prev->0<=eIx M (tkT T id).prev->0<=bIx M id->F (eIx M (tkT T id).prev).toNat (bIx M id).toNat=true)
section
variable {T:List MTask} {M:List MMark} {F F2:FB} {a b:Int} {j:Nat}
theorem YI:LeF F (orF F a b):=fun x y h=>by unfold orF;rw[h];rfl
theorem Q3b (ha:0<=a) (hb:0<=b):orF F a b a.toNat b.toNat=true:=by
 unfold orF;have e1:((a.toNat:Nat):Int)=a:=by omega
 have e2:((b.toNat:Nat):Int)=b:=by omega
 rw[e1,e2];simp
theorem Q2a (hs:Q6c T M F) (hh:0<=a->0<=b->HB T M a.toNat b.toNat):Q6c T M (orF F a b):=fun x y h=>by
 unfold orF at h;rcases orT h with h|h
 · exact hs x y h
 simp only[v0h,decide_eq_true_eq]at h;have:=hh (by omega) (by omega);rwa[show a.toNat=x by omega,show b.toNat=y by omega]at this
theorem NextI.le (h:NextI M j F) (l:LeF F F2):NextI M j F2:=fun i k x a b c d=>l i k (h i k x a b c d)
theorem JoinF.le (h:JoinF M j F) (l:LeF F F2):JoinF M j F2:=fun i a b c=>l _ _ (h i a b c)
theorem MadeF.le (h:MadeF T M j F) (l:LeF F F2):MadeF T M j F2:=fun id a b=>⟨fun c d=>l _ _ ((h id a b).1 c d),fun c d e=>l _ _ ((h id a b).2 c d e)⟩
theorem NextI.none (h:NextI M j F) (hn: ∀k:Nat,j <k->k <M.length->(mkI M k).task≠(mkI M j).task):NextI M (j+1) F:=fun i k x a b c d=>by
 rcases v1w i j with e|e
 · exact h i k e a b c d
 have e:i=j:=by omega
 subst e;exact absurd c.symm (hn k a b)
theorem NextI.some {o:Nat} (h:NextI M j F) (ho:j <o) (ht:(mkI M o).task=(mkI M j).task) (hl: ∀k:Nat,j <k->k <o->(mkI M k).task≠(mkI M j).task) (hb:F j o=true):NextI M (j+1) F:=fun i k x a b c d=>by
 rcases v1w i j with e|e
 · exact h i k e a b c d
 have e:i=j:=by omega
 subst e;rcases Nat.lt_trichotomy k o with f|f|f
 · exact absurd c.symm (hl k a f)
 · rw[f];exact hb
 exact absurd (ht.trans c) (d o ho f)
theorem JoinF.step (h:JoinF M j F) (hj:(mkI M j).kind=6->0<=eIx M (mkI M j).other->F (eIx M (mkI M j).other).toNat j=true):JoinF M (j+1) F:=fun i a b c=>by
 rcases v1w i j with e|e
 · exact h i e b c
 have e:i=j:=by omega
 subst e;exact hj b c
theorem MadeF.step (h:MadeF T M j F) (h1:0<=(tkT T (j+1)).mark->0<=bIx M (j+1)->F (tkT T (j+1)).mark.toNat (bIx M (j+1)).toNat=true) (h2:0 <(tkT T (j+1)).prev->0<=eIx M (tkT T (j+1)).prev->0<=bIx M (j+1)->F (eIx M (tkT T (j+1)).prev).toNat (bIx M (j+1)).toNat=true):MadeF T M (j+1) F:=fun id a b=>by
 by_cases e:id<=j
 · exact h id a e
 have e:id=j+1:=by omega
 subst e;exact⟨h1,h2⟩
end
section
variable {h0 h:Hp} {ds bs:List Nat} {k tb tc:Nat} {ma:Option Addr} {mc:Nat} {T:List MTask} {M:List MMark} {F:FB}
theorem Q9i (p:Held (Jb k tb tc ma mc T M F bs) h): ∃w:OW,w.c.length=M.length/\h.get k=some (.cells [tsV tb tc T,msV ma mc M,w.ov,w.bv,w.ev] 113 0)/\SlC 3 0 h w.bv (ixL M T.length 1) (T.length+1) w.bb/\SlC 3 0 h w.ev (ixL M T.length 2) (T.length+1) w.be/\SlC 94 0 h w.ov (w.c.map (slB M.length)) M.length w.ob:=by
 obtain⟨w,hw,hp,hl⟩:=Q3V p;exact⟨w,hw,hp (cR k _) (by simp[Q0S]),hp (slR 3 0 w.bv (ixL M T.length 1) (T.length+1) w.bb) (by simp[Q0S]),hp (slR 3 0 w.ev (ixL M T.length 2) (T.length+1) w.be) (by simp[Q0S]),hp (slR 94 0 w.ov (w.c.map (slB M.length)) M.length w.ob) (by simp[Q0S,mtL])⟩
theorem Q49 {v:Value} {n:Nat} {q id:Int} {bs:List Nat} (x:SlC 3 0 h v (ixL M n q) (n+1) bs) (h0:0<=id) (h1:id<=n): ∃b c cs m,v=.slice (some ⟨b,0,none⟩) (n+1) c/\h.get b=some (.cells cs 3 m)/\cs[0+id.toNat*1]?=some (iV (Qw M id q)):=by
 obtain⟨b,m,c,r,hv,hg,_⟩:=x.at (by omega);refine⟨b,c,_,m,hv,hg,?_⟩;rw[List.getElem?_append_left (by rw[K7];omega)];exact YL h0 h1
theorem t62 (S0:SH h0 [] [Jb k tb tc ma mc T M F bs] h) (R:RnAt h0 tb tc ma mc T M) (ok:RunOk T M) (hn:M.length<=1200) (hF: ∀x y,F x y=false):C modE 68 [Qn k] h fun _ g'=> ∃aa F',SH h bs [Jb k tb tc ma mc T M F' aa] g'/\Q6c T M F'/\BaseP T M fun x y=>F' x y=true:=by
 have SE:=S0.enter;have SE:SH h bs [Jb k tb tc ma mc T M F bs] h:=SE;have ai: ∀i,i∈bs->h0.n<=i:=S0.own0;have hT:=ok.t;have old: ∀ {g:Hp} {A:List Res},SH h bs A g->RnAt g tb tc ma mc T M:=fun S=>R.ext (S0.all0 ai S);have oget: ∀ {g:Hp} {A:List Res} {b:Nat} {o:AObj},SH h bs A g->h0.get b=some o->b <h0.n->g.get b=some o:=fun S e l=>((S0.all0 ai S).get _ l).trans e;refine Q9 (fu:=Tryz.f68) (by kernel_rfl) rfl ?_;have S:=SE;refine Q5<|Q6<|I2 rfl<|Q0<|Q7 ?_
 refine Ql [(2,_)] [(0,_)] (fun kk lv hh=> ∃(i:Nat) (F:FB) (b:List Nat),lv=[(2,iV i)]/\kk=M.length -i/\i<=M.length/\SH h bs [Jb k tb tc ma mc T M F b] hh/\Q6c T M F/\NextI M i F/\JoinF M i F) (n:=M.length) ?_ fun kk lv hh hI=>?_
 · exact⟨0,F,bs,rfl,rfl,by omega,S,fun a i hb=>(by rw[hF]at hb;cases hb),fun i k x=>by omega,fun i a=>by omega⟩
 obtain⟨i,F,b,rfl,hk,hi,S,hV,iU,gX⟩:=hI;refine Q5<|Q5 ?_;obtain⟨w,hw,aw,dY,aZ,ax⟩:=Q9i (S.held 0 rfl);refine Q2 (by kernel_rfl)<|I1 rfl<|I1 rfl<|I6 rfl<|I0 0 rfl<|I0 1 rfl<|I4 rfl aw rfl<|I7 rfl<|Il rfl rfl<|Q0<|Q3 rfl (fun hb=>?_) fun hb=>?_
 · skip
   refine Q4 ?_;have hi:i <M.length:=by simpa using hb
   obtain⟨mb,mcs,mm,fk,mg,mln,mll,mlr,mlf⟩:=R.mk' (j:=(i:Int)) (by omega) (by omega);have cg:=ok.lk i hi;rw[<-Z7 hi]at cg;refine Q5<|Q7<|Q6<|I1 rfl<|I6 rfl<|I0 0 rfl<|I0 1 rfl<|I4 rfl aw rfl<|I1 rfl ?_;rw[fk];refine I5o 8 rfl rfl ?_;rw[<-fk];refine I3 8 rfl (oget S mg mln) mll ?_;rw[mlr];refine Qq (zv:=.agg #[iV 0,iV 0,iV 0,iV 0,iV 0,iV 0,iV 0,.bool false]) S gn rfl (by kernel_rfl) fun b1 g aF S=>?_;refine Qg (n:=8) 0 S gn rfl rfl (by kernel_rfl) (by kernel_rfl) rfl rfl (by decide) rfl (fun g S=>ag0) fun g S=>?_;refine Q0 ?_
   refine ZH [(0,Qn k),(2,iV i),(3,Qn b1)] (fun lv hh=>lv=[]/\ ∃(F:FB) (b:List Nat),SH h bs [cR b1 (.cells (mkV (mkI M i)) 68 0),Jb k tb tc ma mc T M F b] hh/\Q6c T M F/\NextI M (i+1) F/\JoinF M i F) ?_ fun lv hh hJ=>?_
   · skip
     refine Q6<|I1 rfl<|Iao rfl rfl<|I2 rfl<|Q0<|Q7<|Ql [(4,_)] [(0,_),(2,_),(3,_),(7,_),(8,_),(9,_),(10,_),(11,_),(12,_),(13,_),(14,_),(17,_),(18,_),(19,_),(20,_),(21,_),(22,_),(23,_),(24,_),(25,_),(26,_)] (fun kk lv hh=> ∃p:Nat,lv=[(4,iV p)]/\kk=M.length -p/\i <p/\p<=M.length/\SH h bs [cR b1 (.cells (mkV (mkI M i)) 68 0),Jb k tb tc ma mc T M F b] hh/\ ∀q:Nat,i <q->q <p->(mkI M q).task≠(mkI M i).task) (n:=(M.length - (i+1))) ?_ fun kk lv hh hI=>?_
     · exact⟨i+1,rfl,rfl,by omega,by omega,S,fun q a b=>by omega⟩
     obtain⟨p,rfl,gQ,hip,hp,S,hq⟩:=hI;refine Q5<|Q5 ?_;obtain⟨w,hw,aw,dY,aZ,ax⟩:=Q9i (S.held 1 rfl);refine Q2 (by kernel_rfl)<|I1 rfl<|I1 rfl<|I6 rfl<|I0 0 rfl<|I0 1 rfl<|I4 rfl aw rfl<|I7 rfl<|Il rfl rfl<|Q0<|Q3 rfl (fun hb=>?_) fun hb=>?_
     · skip
       refine Q4 ?_;have hp:p <M.length:=by simpa using hb
       obtain⟨nb,ncs,nm,fj,ng,nln,nll,nlr,nlf⟩:=R.mk' (j:=(p:Int)) (by omega) (by omega);have n1:=nlf 1 _ (by omega) rfl;refine Q5<|Q7<|Q5<|I9<|I1 rfl<|I6 rfl<|I0 0 rfl<|I0 1 rfl<|I4 rfl aw rfl<|I1 rfl ?_;rw[fj];refine I5o 8 rfl rfl ?_;rw[<-fj];refine I0 1 rfl<|I4 rfl (oget S ng nln) n1<|I0 1 rfl<|I4 rfl (S.cel 0 rfl) rfl<|Ie rfl rfl<|Q0<|Q3 rfl (fun hb=>?_) fun hb=>?_
       · skip
         refine Q5 ?_;have lE:(mkI M p).task=(mkI M i).task:=of_decide_eq_true hb;have lF: ∀q:Nat,i <q->q <p->(mkI M q).task≠(mkI M p).task:=fun q a b=>by rw[lE];exact hq q a b
         refine Q2 (by kernel_rfl)<|I1 rfl<|I1 rfl<|I1 rfl<|Ic [_,_,_] rfl rfl (C.mono (t81 (a:=(i:Int)) (b:=(p:Int)) (SH.sub1 S0 ai S 1 rfl) (by omega) (by omega)) ?_);rintro v g ⟨b2,S2⟩;have S:=S.ret 1 rfl S2;refine⟨ag0,?_⟩;refine Q0<|Qp<|Q3u (by decide)<|Qc<|Qe<|Qo ?_
         exact Zu [] (p:=⟨rfl,orF F i p,b2,S,Q2a hV (fun _ _=>by rw[v0e,v0e];exact hb_clo.base.next i p hip hp lE.symm lF),(iU.le YI).some hip lE (fun q a b=>hq q a b) (by have:=Q3b (F:=F) (a:=(i:Int)) (b:=(p:Int)) (by omega) (by omega);rwa[v0e,v0e]at this),gX.le YI⟩)
       refine Q4<|Q2 (by kernel_rfl)<|I1 rfl<|Iao rfl rfl<|I2 rfl<|Q0 ?_
       exact ZC (M.length - (p+1)) [(4,_)] (p:=⟨p+1,rfl,rfl,by omega,by omega,S,fun q a b=>by
        rcases v1w q p with e|e
        · exact hq q a e
        have e:q=p:=by omega
        subst e
        exact of_decide_eq_false hb⟩)
     refine Qp<|Qc<|Qe<|Qo ?_;exact Zu [] (p:=⟨rfl,F,b,S,hV,iU.none (fun q a c=>hq q a (by simp at hb;omega)),gX⟩)
   obtain⟨rfl,F,b,S,hV,iU,gX⟩:=hJ;refine Q6<|I0 0 rfl<|I4 rfl (S.cel 0 rfl) rfl<|Ie rfl rfl<|Q0<|Q3 rfl (fun hb=>?_) fun hb=>?_
   · skip
     have h6:(mkI M i).kind=6:=of_decide_eq_true hb;obtain⟨⟨o1,o2⟩,_,_⟩:=KT cg h6;obtain⟨w,hw,aw,dY,aZ,ax⟩:=Q9i (S.held 1 rfl);obtain⟨eb,ec,ecs,em,dS,iC,hex⟩:=Q49 aZ (id:=(mkI M i).other) (by omega) (by omega);refine I9<|I1 rfl<|I1 rfl<|I6 rfl<|I0 4 rfl<|I4 rfl aw rfl<|I0 2 rfl<|I4 rfl (S.cel 0 rfl) rfl ?_;rw[dS];refine I5o 1 rfl rfl ?_;rw[<-dS];refine I4 rfl iC hex<|I1 rfl<|Ic [_,_,_] rfl rfl (C.mono (t81 (a:=Qw M (mkI M i).other 2) (b:=(i:Int)) (SH.sub1 S0 ai S 1 rfl) QW (by omega)) ?_);rintro v g ⟨b2,S2⟩;have S:=S.ret 1 rfl S2
     refine⟨ag0,?_⟩;refine Q0<|Q2 (by kernel_rfl)<|I1 rfl<|Iao rfl rfl<|I2 rfl<|Q0 ?_;exact ZC (M.length - (i+1)) [(2,_)] (p:=⟨i+1,_,b2,rfl,rfl,by omega,S.drop,Q2a hV (fun h0 _=>by rw[v0e];exact hb_clo.base.join i hi h6 h0),iU.le YI,(gX.le YI).step fun _ h0=>by have:=Q3b (F:=F) (a:=Qw M (mkI M i).other 2) (b:=(i:Int)) h0 (by omega);rwa[v0e]at this⟩)
   refine Q4<|Q2 (by kernel_rfl)<|I1 rfl<|Iao rfl rfl<|I2 rfl<|Q0 ?_;exact ZC (M.length - (i+1)) [(2,_)] (p:=⟨i+1,F,b,rfl,rfl,by omega,S.drop,hV,iU,gX.step fun h6=>absurd h6 (of_decide_eq_false hb)⟩)
 refine Qp<|Qc<|Qe<|Qo<|Q5 ?_;obtain rfl:i=M.length:=by simp at hb;omega
 refine Q2 (by kernel_rfl)<|I2 rfl<|Q0<|Q7<|Ql [(5,_)] [(0,_)] (fun kk lv hh=> ∃(i:Nat) (F:FB) (b:List Nat),lv=[(5,iV ((i:Int)+1))]/\kk=T.length -i/\i<=T.length/\SH h bs [Jb k tb tc ma mc T M F b] hh/\Q6c T M F/\NextI M M.length F/\JoinF M M.length F/\MadeF T M i F) (n:=T.length) ?_ fun kk lv hh hI=>?_
 · exact⟨0,F,b,rfl,rfl,by omega,S,hV,iU,gX,fun id a c=>by omega⟩
 obtain⟨i,F,b,rfl,hk,hi,S,hV,iU,gX,hMd⟩:=hI;refine Q5<|Q5 ?_;obtain⟨w,hw,aw,dY,aZ,ax⟩:=Q9i (S.held 0 rfl);refine Q2 (by kernel_rfl)<|I1 rfl<|I1 rfl<|I6 rfl<|I0 0 rfl<|I0 0 rfl<|I4 rfl aw rfl<|I7 rfl<|Im rfl rfl<|Q0<|Q3 rfl (fun hb=>?_) fun hb=>?_
 · skip
   refine Q4 ?_;have hi:i <T.length:=by simp at hb;omega
   obtain⟨tcs,tm,ttg,ttl,ttr,ttf⟩:=R.tk (id:=(i:Int)+1) (by omega) (by omega);have aH:=Q6R ok (id:=(i:Int)+1) (by omega) (by omega);have fV:=ok.tk.fol (i+1) (by omega) (by omega);refine Q5<|Q7<|Q6<|I1 rfl<|I6 rfl<|I0 0 rfl<|I0 0 rfl<|I4 rfl aw rfl<|I1 rfl<|Iso rfl rfl<|I5o 15 rfl rfl<|I3 15 rfl (oget S ttg R.tl) ttl ?_;rw[ttr];refine Qq (zv:=.agg #[iV 0,iV 0,iV 0,iV 0,iV 0,iV 0,iV 0,.bool false,iV 0,iV 0,iV 0,iV 0,iV 0,iV 0,iV 0]) S gn rfl (by kernel_rfl) fun b2 g bL S=>?_
   refine Qg (n:=15) 0 S gn rfl rfl (by kernel_rfl) (by kernel_rfl) rfl rfl (by decide) rfl (fun g S=>ag0) fun g S=>?_;refine Q0<|Q5 ?_;obtain⟨w,hw,aw,dY,aZ,ax⟩:=Q9i (S.held 1 rfl);obtain⟨eb,ec,ecs,em,dS,iC,hex⟩:=Q49 dY (id:=(i:Int)+1) (by omega) (by omega);refine I9<|I1 rfl<|I0 13 rfl<|I4 rfl (S.cel 0 rfl) rfl<|I1 rfl<|I6 rfl<|I0 3 rfl<|I4 rfl aw rfl<|I1 rfl ?_;rw[dS];refine I5o 1 rfl rfl ?_;rw[<-dS];refine I4 rfl iC hex<|Ic [_,_,_] rfl rfl (C.mono (t81 (a:=(tkT T (i+1)).mark) (b:=Qw M (i+1) 1) (SH.sub1 S0 ai S 1 rfl) aH QW) ?_)
   rintro v g ⟨b2,S2⟩;have S:=S.ret 1 rfl S2;have hVs:=Q2a (a:=(tkT T (i+1)).mark) (b:=Qw M (i+1) 1) hV (fun h1 h2=>hb_clo.base.made (i+1) (by omega) (by omega) h1 h2);refine⟨ag0,?_⟩;refine QG<|I0 14 rfl<|I4 rfl (S.cel 0 rfl) rfl<|Ig rfl rfl<|Q0<|Q3 rfl (fun hb=>?_) fun hb=>?_
   · skip
     have hp0:0 <(tkT T (i+1)).prev:=of_decide_eq_true hb;obtain⟨f1,f2⟩:=(fV.resolve_left (by omega)).1;obtain⟨w,hw,aw,dY,aZ,ax⟩:=Q9i (S.held 1 rfl);obtain⟨eb,ec,ecs,em,dS,iC,hex⟩:=Q49 aZ (id:=(tkT T (i+1)).prev) (by omega) (by omega);obtain⟨ub,uc,ucs,um,fO,jP,hux⟩:=Q49 dY (id:=(i:Int)+1) (by omega) (by omega);refine I9<|I1 rfl<|I1 rfl<|I6 rfl<|I0 4 rfl<|I4 rfl aw rfl<|I0 14 rfl<|I4 rfl (S.cel 0 rfl) rfl ?_;rw[dS];refine I5o 1 rfl rfl ?_;rw[<-dS];refine I4 rfl iC hex<|I1 rfl<|I6 rfl<|I0 3 rfl<|I4 rfl aw rfl ?_
     refine I1 rfl ?_;rw[fO];refine I5o 1 rfl rfl ?_;rw[<-fO];refine I4 rfl jP hux<|Ic [_,_,_] rfl rfl (C.mono (t81 (a:=Qw M (tkT T (i+1)).prev 2) (b:=Qw M (i+1) 1) (SH.sub1 S0 ai S 1 rfl) QW QW) ?_);rintro v g ⟨b3,S3⟩;have S:=S.ret 1 rfl S3;refine⟨ag0,?_⟩;refine Q0<|Q2 (by kernel_rfl)<|I1 rfl<|Iao rfl rfl<|I2 rfl<|Q0 ?_;exact ZC (T.length - (i+1)) [(5,_)] (p:=⟨i+1,_,b3,rfl,rfl,by omega,S.drop,Q2a hVs (fun h1 h2=>hb_clo.base.fol (i+1) (by omega) (by omega) hp0 h1 h2),(iU.le YI).le YI,(gX.le YI).le YI,((hMd.le YI).le YI).step (fun a b=>YI _ _ (Q3b a b)) fun _ a b=>Q3b a b⟩)
   refine Q4<|Q2 (by kernel_rfl)<|I1 rfl<|Iao rfl rfl<|I2 rfl<|Q0 ?_;exact ZC (T.length - (i+1)) [(5,_)] (p:=⟨i+1,_,b2,rfl,rfl,by omega,S.drop,hVs,iU.le YI,gX.le YI,(hMd.le YI).step (fun a b=>Q3b a b) fun h0=>absurd h0 (of_decide_eq_false hb)⟩)
 refine Qp<|Qc<|Qe<|Qo ?_;refine⟨.inr rfl,_,rfl,?_⟩;exact⟨b,F,S,hV,⟨fun i k a b=>iU i k (by omega) a b,gX,fun id a c=>(hMd id a (by simp at hb;omega)).1,fun id a c=>(hMd id a (by simp at hb;omega)).2⟩⟩
end
def TrF (k:Nat) (F:FB):Prop:= ∀j a b,j <k->F a j=true->F j b=true->F a b=true
def RdF (W:FB) (k a b:Nat) (F:FB):Prop:= ∀x y,F x y=true↔W x y=true\/(W x k=true/\W k y=true/\(x <a\/(x=a/\y <b)))
section
variable {T:List MTask} {M:List MMark} {W F:FB} {k a b:Nat}
theorem RdF.col (h:RdF W k a b F) {x:Nat}:F x k=true↔W x k=true:=by rw[h];exact⟨fun e=>e.elim id fun e=>e.1,.inl⟩
theorem RdF.row (h:RdF W k a b F) {y:Nat}:F k y=true↔W k y=true:=by rw[h];exact⟨fun e=>e.elim id fun e=>e.2.1,.inl⟩
theorem RdF.skip (h:RdF W k a 0 F) (hk:W a k=false):RdF W k (a+1) 0 F:=fun x y=>by
 rw[h];refine⟨fun e=>e.imp id fun⟨e1,e2,e3⟩=>⟨e1,e2,by omega⟩,fun e=>e.imp id fun⟨e1,e2,e3⟩=>⟨e1,e2,?_⟩⟩;have:x≠a:=fun q=>by rw[q,hk]at e1;cases e1
 omega
theorem RdF.no (h:RdF W k a b F) (hk:W k b=false):RdF W k a (b+1) F:=fun x y=>by
 rw[h];refine⟨fun e=>e.imp id fun⟨e1,e2,e3⟩=>⟨e1,e2,by omega⟩,fun e=>e.imp id fun⟨e1,e2,e3⟩=>⟨e1,e2,?_⟩⟩;have:y≠b:=fun q=>by rw[q,hk]at e2;cases e2
 omega
theorem RdF.set (h:RdF W k a b F) (ha:W a k=true) (hk:W k b=true):RdF W k a (b+1) (orF F a b):=fun x y=>by
 unfold orF;rw[v0H,h];simp only[v0h,decide_eq_true_eq];constructor
 · rintro((e| ⟨e1,e2,e3⟩)| ⟨e1,e2⟩)
   · exact .inl e
   · exact .inr ⟨e1,e2,by omega⟩
   have e1:x=a:=by omega
   have e2:y=b:=by omega
   subst e1;subst e2;exact .inr ⟨ha,hk,by omega⟩
 rintro(e| ⟨e1,e2,e3⟩)
 · exact .inl (.inl e)
 by_cases q:x=a/\y=b
 · exact .inr ⟨by omega,by omega⟩
 exact .inl (.inr ⟨e1,e2,by omega⟩)
theorem RdF.next (ok:RunOk T M) (hs:Q6c T M W) (h:RdF W k a M.length F):RdF W k (a+1) 0 F:=fun x y=>by
 rw[h];refine⟨fun e=>e.imp id fun⟨e1,e2,e3⟩=>⟨e1,e2,by omega⟩,fun e=>e.imp id fun⟨e1,e2,e3⟩=>⟨e1,e2,?_⟩⟩;have:=(Q2r ok (hs k y e2)).2;omega
theorem RdF.snd (hs:Q6c T M W) (h:RdF W k a b F):Q6c T M F:=fun x y e=>by
 rcases (h x y).1 e with e| ⟨e1,e2,_⟩
 · exact hs x y e
 exact hb_clo.trans x k y (hs x k e1) (hs k y e2)
theorem RdF.done (ok:RunOk T M) (hs:Q6c T M W) (ht:TrF k W) (h:RdF W k M.length 0 F):TrF (k+1) F:=fun j p q hj h1 h2=>by
 have hx: ∀x y,F x y=true↔W x y=true\/(W x k=true/\W k y=true):=fun x y=>by
  rw[h];refine⟨fun e=>e.imp id fun e=>⟨e.1,e.2.1⟩,fun e=>e.imp id fun⟨e1,e2⟩=>⟨e1,e2,.inl ?_⟩⟩;have:=Q2r ok (hs x k e1);omega
 rw[hx]at h1 h2 ⊢;rcases v1w j k with e|e
 · rcases h1 with a1| ⟨a1,a2⟩<;>rcases h2 with b1| ⟨b1,b2⟩
   · exact .inl (ht j p q e a1 b1)
   · exact .inr ⟨ht j p k e a1 b1,b2⟩
   · exact .inr ⟨a1,ht j k q e a2 b1⟩
   exact .inr ⟨a1,b2⟩
 have e:j=k:=by omega
 subst e;have c1:W p j=true:=h1.elim id fun e=>e.1;have c2:W j q=true:=h2.elim id fun e=>e.2;exact .inr ⟨c1,c2⟩
theorem RdF.start:RdF F k 0 0 F:=fun x y=>⟨.inl,fun e=>e.elim id fun⟨_,_,e⟩=>by omega⟩
end
section
variable {h0 h:Hp} {ds bs:List Nat} {k tb tc:Nat} {ma:Option Addr} {mc:Nat} {T:List MTask} {M:List MMark} {F:FB}
theorem Qad (p:Held (Jb k tb tc ma mc T M F bs) h) {x y:Nat} (hx:x <M.length) (hy:y <M.length): ∃(w:OW) (ab ac:Nat) (cs:List Value) (m rb:Nat),h.get k=some (.cells [tsV tb tc T,msV ma mc M,w.ov,w.bv,w.ev] 113 0)/\w.ov=.slice (some ⟨ab,0,none⟩) M.length ac/\h.get ab=some (.cells cs 94 m)/\cs[0+v0g (x:Int)*1]?=some (slB M.length rb)/\h.get rb=some (.cells (Q0C F M.length x) 4 0)/\(Q0C F M.length x)[0+v0g (y:Int)*1]?=some (.bool (F x y)):=by
 obtain⟨w,hw,hp,hl⟩:=Q3V p;obtain⟨ab,ac,cs,cm,rb,ax,cI,dx,gU,bY⟩:=Qd0 (a:=x) (fun r hr=>hp r (by unfold Q0S;exact v0E _ (v0E _ (v0E _ hr)))) hw hx;refine⟨w,ab,ac,cs,cm,rb,hp (cR k _) (by simp[Q0S]),ax,cI,dx,bY,?_⟩;rw[v0f,v0x,v0e];exact Q6z hy
theorem t63 (S0:SH h0 [] [Jb k tb tc ma mc T M F bs] h) (ok:RunOk T M) (hn:M.length<=1200) (hF:Q6c T M F):C modE 69 [Qn k] h fun _ g'=> ∃aa F',SH h bs [Jb k tb tc ma mc T M F' aa] g'/\Q6c T M F'/\LeF F F'/\TrF M.length F':=by
 have SE:=S0.enter;have SE:SH h bs [Jb k tb tc ma mc T M F bs] h:=SE;obtain⟨F0,hF0⟩: ∃F0,F0=F:=⟨_,rfl⟩;refine Q9 (fu:=Tryz.f69) (by kernel_rfl) rfl ?_;have S:=SE;refine Q5 ?_;obtain⟨w,hw,aw,dY,aZ,ax⟩:=Q9i (S.held 0 rfl);obtain⟨va,vc,hva⟩:=Qa ax;refine Q2 (by kernel_rfl)<|I1 rfl<|I6 rfl<|I0 2 rfl<|I4 rfl aw rfl ?_;rw[hva];refine I7 rfl<|I2 rfl<|QG<|I2 rfl<|Q0<|Q7 ?_
 refine Ql [(3,_)] [(0,_),(2,_)] (fun kk lv hh=> ∃(q:Nat) (W:FB) (b:List Nat),lv=[(3,iV q)]/\kk=M.length -q/\q<=M.length/\SH h bs [Jb k tb tc ma mc T M W b] hh/\Q6c T M W/\LeF F W/\TrF q W) (n:=M.length) ?_ fun kk lv hh hI=>?_
 · exact⟨0,F,bs,rfl,rfl,by omega,S,hF,fun _ _ h=>h,fun j a b hj=>by omega⟩
 obtain⟨q,W,b,rfl,hk,hq,S,hV,hL,hT⟩:=hI;refine Q5<|Q6<|I1 rfl<|I1 rfl<|Il rfl rfl<|Q0<|Q3 rfl (fun hb=>?_) fun hb=>?_
 · skip
   refine Q4 ?_;have hq:q <M.length:=by simpa using hb
   refine Q5<|Q7<|Q6<|I2 rfl<|Q0<|Q7<|Ql [(4,_)] [(0,_),(2,_),(3,_)] (fun kk lv hh=> ∃(a:Nat) (F1:FB) (b:List Nat),lv=[(4,iV a)]/\kk=M.length -a/\a<=M.length/\SH h bs [Jb k tb tc ma mc T M F1 b] hh/\RdF W q a 0 F1) (n:=M.length) ?_ fun kk lv hh hI=>?_
   · exact⟨0,W,b,rfl,rfl,by omega,S,RdF.start⟩
   obtain⟨a,F1,b,rfl,gQ,ha,S,hR⟩:=hI;refine Q5<|Q6<|I1 rfl<|I1 rfl<|Il rfl rfl<|Q0<|Q3 rfl (fun hb=>?_) fun hb=>?_
   · skip
     refine Q4 ?_;have ha:a <M.length:=by simpa using hb
     obtain⟨w,ab,ac,cs,cm,rb,aw,ax,cI,dx,bY,ia⟩:=Qad (S.held 0 rfl) ha hq;refine Q5<|Q7<|Q5<|Q6<|I1 rfl<|I6 rfl<|I0 2 rfl<|I4 rfl aw rfl<|I1 rfl ?_;rw[ax];refine I5o 1 rfl rfl ?_;rw[<-ax];refine I4 rfl cI dx<|I1 rfl<|I5o 1 rfl rfl<|I4 rfl bY ia<|Ib rfl<|Q0<|Q3 rfl (fun hb=>?_) fun hb=>?_
     · skip
       refine Qp<|Qc<|Qo<|Q2 (by kernel_rfl)<|I1 rfl<|Iao rfl rfl<|I2 rfl<|Q0 ?_
       exact ZC (M.length - (a+1)) [(4,_)] (p:=⟨a+1,F1,b,rfl,rfl,by omega,S,hR.skip (by
        have hb:(!F1 a q)=true:=hb;cases e:W a q with
        |false=>rfl
        |true=>rw[hR.col.2 e]at hb;exact absurd hb (by decide))⟩)
     refine Q4<|Q5 ?_;have haq:W a q=true:=hR.col.1 (by simpa using hb);refine Q2 (by kernel_rfl)<|I2 rfl<|Q0<|Q7<|Ql [(5,_)] [(0,_),(2,_),(3,_),(4,_)] (fun kk lv hh=> ∃(y:Nat) (F1:FB) (b:List Nat),lv=[(5,iV y)]/\kk=M.length -y/\y<=M.length/\SH h bs [Jb k tb tc ma mc T M F1 b] hh/\RdF W q a y F1) (n:=M.length) ?_ fun kk lv hh hI=>?_
     · exact⟨0,F1,b,rfl,rfl,by omega,S,hR⟩
     obtain⟨y,F1,b,rfl,hk3,hy,S,hR⟩:=hI;refine Q5<|Q6<|I1 rfl<|I1 rfl<|Il rfl rfl<|Q0<|Q3 rfl (fun hb=>?_) fun hb=>?_
     · skip
       refine Q4 ?_;have hy:y <M.length:=by simpa using hb
       obtain⟨w,ab,ac,cs,cm,rb,aw,ax,cI,dx,bY,ia⟩:=Qad (S.held 0 rfl) hq hy;refine Q5<|Q7<|Q6<|I1 rfl<|I6 rfl<|I0 2 rfl<|I4 rfl aw rfl<|I1 rfl ?_;rw[ax];refine I5o 1 rfl rfl ?_;rw[<-ax];refine I4 rfl cI dx<|I1 rfl<|I5o 1 rfl rfl<|I4 rfl bY ia<|Q0<|Q3 rfl (fun hb=>?_) fun hb=>?_
       · skip
         have hqy:W q y=true:=hR.row.1 hb;obtain⟨w,hw,ai,S⟩:=Q6E S;obtain⟨ab,ac,cs,cm,rb,ax,cI,dx,gU,bY⟩:=Qah S hw ha;refine Q2 (by kernel_rfl)<|I1 rfl<|I6 rfl<|I0 2 rfl<|I4 rfl (S.cel 0 rfl) rfl<|I1 rfl ?_;rw[ax];refine I5o 1 rfl rfl ?_;rw[<-ax];refine I4 rfl cI dx<|I1 rfl<|I5o 1 rfl rfl ?_;refine Qj (a+4) S gn rfl rfl rfl (by kernel_rfl) (Qfd gU) (by decide) (by rw[Q3J];omega) (fun g S=>ag0) fun g S=>?_;obtain⟨b2,S⟩:=Q29 (Qac gU hy S) hw;refine Q0<|Q2 (by kernel_rfl)<|I1 rfl<|Iao rfl rfl<|I2 rfl<|Q0 ?_
         exact ZC (M.length - (y+1)) [(5,_)] (p:=⟨y+1,_,b2,rfl,rfl,by omega,S,hR.set haq hqy⟩)
       refine Q4<|Q2 (by kernel_rfl)<|I1 rfl<|Iao rfl rfl<|I2 rfl<|Q0 ?_
       exact ZC (M.length - (y+1)) [(5,_)] (p:=⟨y+1,F1,b,rfl,rfl,by omega,S,hR.no (by
        cases e:W q y with
        |false=>rfl
        |true=>exact absurd (hR.row.2 e) (by rw[show F1 q y=false from hb];decide))⟩)
     refine Qp<|Qc<|Qe<|Qo ?_;obtain rfl:y=M.length:=by simp at hb;omega
     refine Q2 (by kernel_rfl)<|I1 rfl<|Iao rfl rfl<|I2 rfl<|Q0 ?_;exact ZC (M.length - (a+1)) [(4,_)] (p:=⟨a+1,F1,b,rfl,rfl,by omega,S,hR.next ok hV⟩)
   refine Qp<|Qc<|Qe<|Qo ?_;obtain rfl:a=M.length:=by simp at hb;omega
   refine Q2 (by kernel_rfl)<|I1 rfl<|Iao rfl rfl<|I2 rfl<|Q0 ?_;exact ZC (M.length - (q+1)) [(3,_)] (p:=⟨q+1,F1,b,rfl,rfl,by omega,S,hR.snd hV,fun x y e=>(hR x y).2 (.inl (hL x y e)),hR.done ok hV hT⟩)
 refine Qp<|Qc<|Qe<|Qo ?_;refine⟨.inr rfl,_,rfl,?_⟩
 exact⟨b,W,S,hV,hL,by
  have:q=M.length:=by simp at hb;omega
  rw[<-this];exact hT⟩
end
abbrev RF (F:FB) (x y:Nat):Prop:=F x y=true
def Qe1 (T:List MTask) (a b a' b':Int):Prop:=(1<=a'/\a'<=T.length)/\(1<=b'/\b'<=T.length)/\(a' <a\/(a'=a/\b' <b))
def QdZ (T:List MTask) (M:List MMark) (F:FB) (a b:Int):Prop:=Q8p T M a b->Q68 T (RF F) a b\/rel (RF F) (bIx M a) (bIx M b)->F (eIx M a).toNat (bIx M b).toNat=true
structure SwF (T:List MTask) (M:List MMark) (F0 F:FB) (ch:Bool) (a b:Int):Prop where
 w:Q6c T M F
 le:LeF F0 F
 t:ch=true-> ∃x y,x <M.length/\y <M.length/\F x y=true/\F0 x y=false
 f:ch=false->F=F0/\ ∀a' b',Qe1 T a b a' b'->QdZ T M F0 a' b'
def Q8t (T:List MTask) (M:List MMark) (F:FB) (a b:Int):Bool:=((((decide (a=b)||decide ((tkT T a).looper <0))|| !decide ((tkT T a).looper=(tkT T b).looper))||decide (Qw M a 2 <0))||decide (Qw M b 1 <0))||F (Qw M a 2).toNat (Qw M b 1).toNat
def Q52 (T:List MTask) (M:List MMark) (F:FB) (a b:Int):Bool:=((((decide ((tkT T a).kind=4)&&decide ((tkT T b).kind=4))&&decide (Qw M a 2 <Qw M b 1))&&Ko F (tkT T a).mark (tkT T b).mark)&& !(tkT T b).front)&&((tkT T a).front||decide ((tkT T a).delay<=(tkT T b).delay))
section
variable {T:List MTask} {M:List MMark} {F0 F:FB} {ch:Bool} {a b:Int}
theorem Q5T {x y:Int} (h:Ko F x y=true):rel (RF F) x y:=by
 unfold Ko at h;simp only[v0h,decide_eq_true_eq]at h;exact⟨h.1.1,h.1.2,h.2⟩
theorem Q59 {x y:Int} (h:rel (RF F) x y):Ko F x y=true:=by
 unfold Ko;rw[decide_eq_true h.1,decide_eq_true h.2.1,h.2.2];rfl
theorem SwF.step (s:SwF T M F0 F ch a b) (h:QdZ T M F a b):SwF T M F0 F ch a (b+1):=by
 refine⟨s.w,s.le,s.t,fun hc=>⟨(s.f hc).1,fun a' b' hd=>?_⟩⟩;obtain⟨h1,h2,h3⟩:=hd;by_cases e:a'=a/\b'=b
 · obtain⟨rfl,rfl⟩:=e;rw[(s.f hc).1]at h;exact h
 exact(s.f hc).2 a' b' ⟨h1,h2,by omega⟩
theorem Q9T (h:Q8t T M F a b=true):QdZ T M F a b:=fun hA _=>by
 obtain⟨h1,h2,h3,h4,h5⟩:=hA;have h4:0<=Qw M a 2:=h4;have h5:Qw M a 2 <Qw M b 1:=h5;unfold Q8t at h;rw[decide_eq_false h1,decide_eq_false (by omega),decide_eq_true h3,decide_eq_false (by omega),decide_eq_false (by omega)]at h;exact h
theorem QeZ (h:(Q52 T M F a b||Ko F (Qw M a 1) (Qw M b 1))=false):QdZ T M F a b:=fun hA hr=>by
 obtain⟨h1,h2,h3,h4,h5⟩:=hA;have h5:Qw M a 2 <Qw M b 1:=h5;rw[v0Y]at h;rcases hr with⟨f1,f2,f3,f4,f5⟩|hr
 · refine absurd h.1 ?_;unfold Q52;rw[decide_eq_true f1,decide_eq_true f2,decide_eq_true h5,Q59 f5,f3];rcases f4 with f4|f4
   · rw[f4];simp
   rw[decide_eq_true f4];simp
 exact absurd h.2 (by rw[Q59 hr];decide)
theorem SwF.add (s:SwF T M F0 F ch a b) (ok:RunOk T M) (a1:1<=a) (a2:a<=T.length) (b1:1<=b) (b2:b<=T.length) (hs:Q8t T M F a b=false) (h:(Q52 T M F a b||Ko F (Qw M a 1) (Qw M b 1))=true):SwF T M F0 (orF F (Qw M a 2) (Qw M b 1)) true a (b+1):=by
 unfold Q8t at hs;simp only[v0Y,decide_eq_false_iff_not,Bool.not_eq_false',decide_eq_true_eq]at hs;obtain⟨⟨⟨⟨⟨h1,h2⟩,h3⟩,h4⟩,h5⟩,h6⟩:=hs
 have hh:Qw M a 2 <Qw M b 1/\HB T M (Qw M a 2).toNat (Qw M b 1).toNat:=by
  rcases orT h with h|h
  · unfold Q52 at h;simp only[v0h,decide_eq_true_eq,Bool.not_eq_true',v0H]at h;obtain⟨⟨⟨⟨⟨k1,k2⟩,k3⟩,k4⟩,k5⟩,k6⟩:=h;have hr:=Q5T k4;exact⟨k3,hb_clo.seven a b a1 a2 b1 b2 ⟨h1,by omega,h3,by show 0<=Qw M a 2;omega,k3⟩ ⟨k1,k2,k5,k6,hr.1,hr.2.1,s.w _ _ hr.2.2⟩⟩
  have hr:=Q5T h;have hb:HB T M (Qw M a 1).toNat (Qw M b 1).toNat:=s.w _ _ hr.2.2;have hu:=Q2r ok hb;have r1:=hr.1;have r2:=hr.2.1;have oy:=QdR ok (a:=a) (b:=b) (by omega) h3 r1 (by show Qw M a 1 <Qw M b 1;omega);exact⟨oy.2,hb_clo.eight a b a1 a2 b1 b2 ⟨h1,by omega,h3,oy.1,oy.2⟩ ⟨hr.1,hr.2.1,hb⟩⟩
 have hu:=Q2r ok hh.2;refine⟨Q2a s.w fun _ _=>hh.2,fun x y e=>YI _ _ (s.le x y e),fun _=>⟨(Qw M a 2).toNat,(Qw M b 1).toNat,by omega,hu.2,Q3b (by omega) (by omega),?_⟩,fun h=>by cases h⟩;cases e:F0 (Qw M a 2).toNat (Qw M b 1).toNat with
 |false=>rfl
 |true=>rw[s.le _ _ e]at h6;cases h6
theorem SwF.mv {a2 b2:Int} (s:SwF T M F0 F ch a b) (h: ∀a' b',Qe1 T a2 b2 a' b'->Qe1 T a b a' b'):SwF T M F0 F ch a2 b2:=⟨s.w,s.le,s.t,fun hc=>⟨(s.f hc).1,fun a' b' hd=>(s.f hc).2 a' b' (h a' b' hd)⟩⟩
end
section
variable {h0 h:Hp} {ds bs:List Nat} {k tb tc:Nat} {ma:Option Addr} {mc:Nat} {T:List MTask} {M:List MMark} {F:FB}
theorem Q8L (p:Held (Jb k tb tc ma mc T M F bs) h): ∃w:OW,h.get k=some (.cells [tsV tb tc T,msV ma mc M,w.ov,w.bv,w.ev] 113 0)/\SlC 3 0 h w.bv (ixL M T.length 1) (T.length+1) w.bb/\SlC 3 0 h w.ev (ixL M T.length 2) (T.length+1) w.be/\
 ∀x y:Int,0<=x->x <M.length->0<=y->y <M.length-> ∃(ab ac:Nat) (cs:List Value) (m rb:Nat),w.ov=.slice (some ⟨ab,0,none⟩) M.length ac/\h.get ab=some (.cells cs 94 m)/\cs[0+v0g x*1]?=some (slB M.length rb)/\h.get rb=some (.cells (Q0C F M.length x.toNat) 4 0)/\(Q0C F M.length x.toNat)[0+v0g y*1]?=some (.bool (F x.toNat y.toNat)):=by
 obtain⟨w,hw,hp,hl⟩:=Q3V p;refine⟨w,hp (cR k _) (by simp[Q0S]),hp (slR 3 0 w.bv (ixL M T.length 1) (T.length+1) w.bb) (by simp[Q0S]),hp (slR 3 0 w.ev (ixL M T.length 2) (T.length+1) w.be) (by simp[Q0S]),fun x y x0 hx y0 hy=>?_⟩;obtain⟨x',rfl⟩:=v1D x0;obtain⟨y',rfl⟩:=v1D y0;obtain⟨ab,ac,cs,cm,rb,ax,cI,dx,gU,bY⟩:=Qd0 (a:=x') (fun r hr=>hp r (by unfold Q0S;exact v0E _ (v0E _ (v0E _ hr)))) hw (by omega);refine⟨ab,ac,cs,cm,rb,ax,cI,dx,bY,?_⟩;rw[v0f,v0x,v0e,v0e];exact Q6z (by omega)
theorem t64 (S0:SH h0 [] [Jb k tb tc ma mc T M F bs] h) (R:RnAt h0 tb tc ma mc T M) (ok:RunOk T M) (hn:M.length<=1200) (hF:Q6c T M F):C modE 70 [Qn k] h fun v g'=> ∃aa F' ch,v=.bool ch/\SH h bs [Jb k tb tc ma mc T M F' aa] g'/\SwF T M F F' ch (T.length+1) 1:=by
 have SE:=S0.enter;have SE:SH h bs [Jb k tb tc ma mc T M F bs] h:=SE;have ai: ∀i,i∈bs->h0.n<=i:=S0.own0;have hT:=ok.t;have oget: ∀ {g:Hp} {A:List Res} {b:Nat} {o:AObj},SH h bs A g->h0.get b=some o->b <h0.n->g.get b=some o:=fun S e l=>((S0.all0 ai S).get _ l).trans e;refine Q9 (fu:=Tryz.f70) (by kernel_rfl) rfl ?_;have S:=SE;refine Q6<|I2 rfl<|QG<|I2 rfl<|Z5<|I2 rfl<|Q0<|Q7 ?_
 refine Ql [(3,_),(4,_)] [(0,_)] (fun kk lv hh=> ∃(a:Nat) (ch:Bool) (F1:FB) (u:List Nat),lv=[(3,.bool ch),(4,iV a)]/\kk=T.length+1 -a/\1<=a/\a<=T.length+1/\SH h bs [Jb k tb tc ma mc T M F1 u] hh/\SwF T M F F1 ch a 1) (n:=T.length) ?_ fun kk lv hh hI=>?_
 · exact⟨1,false,F,bs,rfl,by omega,by omega,by omega,S,⟨hF,fun _ _ h=>h,fun h=>(by cases h),fun _=>⟨rfl,fun a' b' hd=>absurd hd (by unfold Qe1;omega)⟩⟩⟩
 obtain⟨a,ch,F1,u,rfl,hk,ha,mA,S,hs⟩:=hI;refine Q5<|Q5 ?_;obtain⟨w,hw,aw,dY,aZ,ax⟩:=Q9i (S.held 0 rfl);refine Q2 (by kernel_rfl)<|I1 rfl<|I1 rfl<|I6 rfl<|I0 0 rfl<|I0 0 rfl<|I4 rfl aw rfl<|I7 rfl<|Im rfl rfl<|Q0<|Q3 rfl (fun hb=>?_) fun hb=>?_
 · skip
   refine Q4 ?_;have mA:a<=T.length:=by simp at hb;omega
   refine Q5<|Q7<|Q6<|I2 rfl<|Q0<|Q7<|Ql [(3,_),(5,_)] [(0,_),(4,_)] (fun kk lv hh=> ∃(b:Nat) (ch:Bool) (F1:FB) (u:List Nat),lv=[(3,.bool ch),(5,iV b)]/\kk=T.length+1 -b/\1<=b/\b<=T.length+1/\SH h bs [Jb k tb tc ma mc T M F1 u] hh/\SwF T M F F1 ch a b) (n:=T.length) ?_ fun kk lv hh hI=>?_
   · exact⟨1,ch,F1,u,rfl,by omega,by omega,by omega,S,hs⟩
   obtain⟨b,ch,F1,u,rfl,hk,jF,hb2,S,hs⟩:=hI;refine Q5<|Q5 ?_;obtain⟨w,hw,aw,dY,aZ,ax⟩:=Q9i (S.held 0 rfl);refine Q2 (by kernel_rfl)<|I1 rfl<|I1 rfl<|I6 rfl<|I0 0 rfl<|I0 0 rfl<|I4 rfl aw rfl<|I7 rfl<|Im rfl rfl<|Q0<|Q3 rfl (fun hb=>?_) fun hb=>?_
   · skip
     refine Q4 ?_;have hb2:b<=T.length:=by simp at hb;omega
     obtain⟨tcs,tm,ttg,ttl,ttr,ttf⟩:=R.tk (id:=(a:Int)) (by omega) (by omega);obtain⟨ucs,um,utg,utl,utr,utf⟩:=R.tk (id:=(b:Int)) (by omega) (by omega);refine Q5<|Q7<|Q5 ?_;obtain⟨w,hw,aw,dY,aZ,ax⟩:=Q9i (S.held 0 rfl);refine ZZ [(0,[]),(1,[]),(2,[]),(3,[]),(4,[]),(5,[]),(6,[]),(7,[]),(8,[]),(9,[]),(10,[]),(11,[]),(12,[]),(13,[]),(14,[]),(15,[]),(16,[]),(17,[]),(18,[]),(19,[]),(20,[13,15,17]),(21,[])] (by kernel_rfl) (by kernel_rfl) (by kernel_rfl) (by kernel_rfl)<|I1 rfl<|I6 rfl<|I0 0 rfl<|I0 0 rfl<|I4 rfl aw rfl<|I1 rfl ?_
     refine Iso rfl rfl<|I5o 15 rfl rfl<|I3 15 rfl (oget S ttg R.tl) ttl ?_;rw[ttr];refine I1 rfl<|I6 rfl<|I0 0 rfl<|I0 0 rfl<|I4 rfl aw rfl<|I1 rfl<|Iso rfl rfl<|I5o 15 rfl rfl<|I3 15 rfl (oget S utg R.tl) utl ?_;rw[utr];refine Qq (zv:=.agg #[iV 0,iV 0,iV 0,iV 0,iV 0,iV 0,iV 0,.bool false,iV 0,iV 0,iV 0,iV 0,iV 0,iV 0,iV 0]) S gn rfl (by kernel_rfl) fun b1 g aF S=>?_;refine Qq (zv:=.agg #[iV 0,iV 0,iV 0,iV 0,iV 0,iV 0,iV 0,.bool false,iV 0,iV 0,iV 0,iV 0,iV 0,iV 0,iV 0]) S gn rfl (by kernel_rfl) fun b2 g bL S=>?_
     refine Qg (n:=15) 1 S gn rfl rfl (by kernel_rfl) (by kernel_rfl) rfl rfl (by decide) rfl (fun g S=>(ag1 (by obtain⟨w3,cN,kX,_⟩:=Q9i (S.held 2 rfl);exact Yg gn rfl (by kernel_rfl) kX rfl rfl Ya) (ag1 (ag_sub gn rfl rfl (by omega) (by omega) rfl) (ag1 (Q0A (n:=15) gn rfl (by kernel_rfl) (by kernel_rfl) (oget S utg R.tl) utl (by rw[utr];rfl) (by rw[utr];exact Q9s _)) ag0)))) fun g S=>?_;refine Qg (n:=15) 0 S gn rfl rfl (by kernel_rfl) (by kernel_rfl) rfl rfl (by decide) rfl (fun g S=>ag0) fun g S=>?_;refine Q0<|Q5<|Q5 ?_;obtain⟨w,aw,dY,aZ,jo⟩:=Q8L (S.held 2 rfl)
     obtain⟨eb,ec,ecs,em,dS,iC,mn⟩:=Q49 aZ (id:=(a:Int)) (by omega) (by omega);obtain⟨ub,uc,ucs,um,fO,jP,kI⟩:=Q49 dY (id:=(b:Int)) (by omega) (by omega);obtain⟨ub2,uc2,ucs2,um2,mH,hug2,hua⟩:=Q49 dY (id:=(a:Int)) (by omega) (by omega);refine I9<|I1 rfl<|I1 rfl<|Ie rfl rfl<|I1 rfl ?_
     refine QS (n:=3) rfl rfl rfl gn rfl (fun hb=>by
      refine D0 4 hb rfl<|D4 hb rfl (S.cel 1 rfl) rfl<|Dl hb rfl rfl ?_
      exact Q0 ⟨rfl,rfl,3,rfl,rfl⟩) ?_
     refine I1 rfl ?_
     refine QS (n:=5) rfl rfl rfl gn rfl (fun hb=>by
      refine D0 4 hb rfl<|D4 hb rfl (S.cel 1 rfl) rfl<|D0 4 hb rfl<|D4 hb rfl (S.cel 0 rfl) rfl<|Dn hb rfl rfl ?_
      exact Q0 ⟨rfl,rfl,5,rfl,rfl⟩) ?_
     refine I1 rfl ?_
     refine QS (n:=8) rfl rfl rfl gn rfl (fun hb=>by
      refine D1 hb rfl<|D6 hb rfl<|D0 4 hb rfl<|D4 hb rfl aw rfl<|D1 hb rfl ?_;rw[dS];refine D5o 1 hb rfl rfl ?_;rw[<-dS];refine D4 hb rfl iC mn<|Dl hb rfl rfl ?_
      exact Q0 ⟨rfl,rfl,8,rfl,rfl⟩) ?_
     refine I1 rfl ?_
     refine QS (n:=8) rfl rfl rfl gn rfl (fun hb=>by
      refine D1 hb rfl<|D6 hb rfl<|D0 3 hb rfl<|D4 hb rfl aw rfl<|D1 hb rfl ?_;rw[fO];refine D5o 1 hb rfl rfl ?_;rw[<-fO];refine D4 hb rfl jP kI<|Dl hb rfl rfl ?_
      exact Q0 ⟨rfl,rfl,8,rfl,rfl⟩) ?_
     refine I1 rfl ?_
     refine QS (n:=22) (B:=F1 (Qw M a 2).toNat (Qw M b 1).toNat) rfl rfl rfl gn rfl (fun hb=>by
      have q0:0<=Qw M a 2/\0<=Qw M b 1:=by simp at hb;omega
      have k8:=QW (L:=M) (id:=(a:Int)) (k:=2);have fl:=QW (L:=M) (id:=(b:Int)) (k:=1);obtain⟨ab,ac,cs,cm,rb,eG,cI,dx,bY,ia⟩:=jo (Qw M a 2) (Qw M b 1) q0.1 QW q0.2 QW;refine D1 hb rfl<|D6 hb rfl<|D0 2 hb rfl<|D4 hb rfl aw rfl<|D1 hb rfl<|D6 hb rfl<|D0 4 hb rfl<|D4 hb rfl aw rfl<|D1 hb rfl ?_;rw[dS];refine D5o 1 hb rfl rfl ?_;rw[<-dS];refine D4 hb rfl iC mn ?_;rw[eG];refine D5o 1 hb rfl rfl ?_;rw[<-eG];refine D4 hb rfl cI dx<|D1 hb rfl<|D6 hb rfl<|D0 3 hb rfl<|D4 hb rfl aw rfl<|D1 hb rfl ?_
      rw[fO];refine D5o 1 hb rfl rfl ?_;rw[<-fO];refine D4 hb rfl jP kI<|D5o 1 hb rfl rfl<|D4 hb rfl bY ia ?_
      exact Q0 ⟨rfl,rfl,22,rfl,rfl⟩) ?_
     refine Q0<|Q3 rfl (fun hb=>?_) fun hb=>?_
     · skip
       refine Qp<|Qc<|Qo<|Q2 (by kernel_rfl)<|I1 rfl<|Iao rfl rfl<|I2 rfl<|Q0 ?_;exact ZC (T.length+1 - (b+1)) [(3,_),(5,_)] (p:=⟨b+1,ch,F1,u,rfl,rfl,by omega,by omega,S.drop.drop,hs.step (Q9T hb)⟩)
     refine Q4<|Q5 ?_;have je:Q8t T M F1 a b=false:=hb;refine I9<|I0 0 rfl<|I4 rfl (S.cel 1 rfl) rfl<|Ie rfl rfl<|I1 rfl ?_
     refine Qt (n:=3) rfl rfl rfl gn rfl (fun hb=>by
      refine D0 0 hb rfl<|D4 hb rfl (S.cel 0 rfl) rfl<|De hb rfl rfl ?_
      exact Q0 ⟨rfl,rfl,3,rfl,rfl⟩) ?_
     refine I1 rfl ?_
     refine Qt (n:=15) rfl rfl rfl gn rfl (fun hb=>by
      refine D1 hb rfl<|D6 hb rfl<|D0 4 hb rfl<|D4 hb rfl aw rfl<|D1 hb rfl ?_;rw[dS];refine D5o 1 hb rfl rfl ?_;rw[<-dS];refine D4 hb rfl iC mn<|D1 hb rfl<|D6 hb rfl<|D0 3 hb rfl<|D4 hb rfl aw rfl<|D1 hb rfl ?_;rw[fO];refine D5o 1 hb rfl rfl ?_;rw[<-fO];refine D4 hb rfl jP kI<|Dl hb rfl rfl ?_
      exact Q0 ⟨rfl,rfl,15,rfl,rfl⟩) ?_
     refine I1 rfl ?_
     refine Qt (n:=6) rfl rfl rfl gn rfl (fun hb=>by
      refine D1 hb rfl<|D0 13 hb rfl<|D4 hb rfl (S.cel 1 rfl) rfl<|D0 13 hb rfl<|D4 hb rfl (S.cel 0 rfl) rfl<|Dc hb [_,_,_] rfl rfl (Qm (t82 (S.held 2 rfl) (Q6R ok (by omega) (by omega)) (Q6R ok (by omega) (by omega))) ⟨ag0,?_⟩)
      exact Q0 ⟨rfl,rfl,6,rfl,rfl⟩) ?_
     refine I1 rfl ?_
     refine Qt (n:=3) rfl rfl rfl gn rfl (fun hb=>by
      refine D0 7 hb rfl<|D4 hb rfl (S.cel 0 rfl) rfl<|Db hb rfl ?_
      exact Q0 ⟨rfl,rfl,3,rfl,rfl⟩) ?_
     refine I1 rfl ?_
     refine Qt (n:=9) rfl rfl rfl gn rfl (fun hb=>by
      refine D0 7 hb rfl<|D4 hb rfl (S.cel 1 rfl) rfl<|D1 hb rfl ?_
      refine QS (n:=5) rfl rfl rfl (gy rfl rfl rfl hb) rfl (fun hb=>by
       refine D0 8 hb rfl<|D4 hb rfl (S.cel 1 rfl) rfl<|D0 8 hb rfl<|D4 hb rfl (S.cel 0 rfl) rfl<|Dm hb rfl rfl ?_
       exact Q0 ⟨rfl,rfl,5,rfl,rfl⟩) ?_
      exact Q0 ⟨rfl,rfl,4,rfl,rfl⟩) ?_
     refine I2 rfl<|Q0<|Q5<|I9<|I1 rfl<|I1 rfl ?_
     refine QS (n:=16) rfl rfl rfl gn rfl (fun hb=>by
      refine D1 hb rfl<|D1 hb rfl<|D6 hb rfl<|D0 3 hb rfl<|D4 hb rfl aw rfl<|D1 hb rfl ?_;rw[mH];refine D5o 1 hb rfl rfl ?_;rw[<-mH];refine D4 hb rfl hug2 hua<|D1 hb rfl<|D6 hb rfl<|D0 3 hb rfl<|D4 hb rfl aw rfl<|D1 hb rfl ?_;rw[fO];refine D5o 1 hb rfl rfl ?_;rw[<-fO];refine D4 hb rfl jP kI<|Dc hb [_,_,_] rfl rfl (Qm (t82 (S.held 2 rfl) QW QW) ⟨ag0,?_⟩)
      exact Q0 ⟨rfl,rfl,16,rfl,rfl⟩) ?_
     refine Q0<|Q3 rfl (fun hb=>?_) fun hb=>?_
     · skip
       refine Q5 ?_
       have q0:0<=Qw M a 2/\0<=Qw M b 1:=by
        unfold Q8t at je;simp at je;omega
       have hsb:(Q52 T M F1 a b||Ko F1 (Qw M a 1) (Qw M b 1))=true:=hb;have aL:=hs.add ok (by omega) (by omega) (by omega) (by omega) je hsb;obtain⟨x,hx⟩:=v1D q0.1;obtain⟨y,hy⟩:=v1D q0.2;have fy:=QW (L:=M) (id:=(a:Int)) (k:=2);have hyl:=QW (L:=M) (id:=(b:Int)) (k:=1);obtain⟨w,hw,m8,S⟩:=Q6E (SH.drop (SH.drop S));obtain⟨eb,ec,ecs,em,dS,iC,mn⟩:=Q49 (S.sl 2 rfl) (id:=(a:Int)) (by omega) (by omega);obtain⟨ub,uc,ucs,um,fO,jP,kI⟩:=Q49 (S.sl 1 rfl) (id:=(b:Int)) (by omega) (by omega);rw[hx]at mn;rw[hy]at kI
       obtain⟨ab,ac,cs,cm,rb,ax,cI,dx,gU,bY⟩:=Qah S hw (x:=x) (by omega);refine I9<|I1 rfl<|I6 rfl<|I0 2 rfl<|I4 rfl (S.cel 0 rfl) rfl<|I1 rfl<|I6 rfl<|I0 4 rfl<|I4 rfl (S.cel 0 rfl) rfl<|I1 rfl ?_;rw[dS];refine I5o 1 rfl rfl ?_;rw[<-dS];refine I4 rfl iC mn ?_;rw[ax];refine I5o 1 rfl rfl ?_;rw[<-ax];refine I4 rfl cI dx<|I1 rfl<|I6 rfl<|I0 3 rfl<|I4 rfl (S.cel 0 rfl) rfl<|I1 rfl ?_;rw[fO];refine I5o 1 rfl rfl ?_;rw[<-fO];refine I4 rfl jP kI<|I5o 1 rfl rfl ?_
       refine Qj (x+4) S gn rfl rfl rfl (by kernel_rfl) (Qfd gU) (by decide) (by rw[Q3J];omega) (fun g S=>ag0) fun g S=>?_;obtain⟨u2,S⟩:=Q29 (Qac gU (y:=y) (by omega) S) hw;rw[<-hx,<-hy]at S;refine Q0<|Q2 (by kernel_rfl)<|I2 rfl<|Q0<|Q2 (by kernel_rfl)<|I1 rfl<|Iao rfl rfl<|I2 rfl<|Q0 ?_;exact ZC (T.length+1 - (b+1)) [(3,_),(5,_)] (p:=⟨b+1,true,_,u2,rfl,rfl,by omega,by omega,S,aL⟩)
     refine Q4<|Q2 (by kernel_rfl)<|I1 rfl<|Iao rfl rfl<|I2 rfl<|Q0 ?_;exact ZC (T.length+1 - (b+1)) [(3,_),(5,_)] (p:=⟨b+1,ch,F1,u,rfl,rfl,by omega,by omega,S.drop.drop,hs.step (QeZ hb)⟩)
   refine Qp<|Qc<|Qe<|Qo ?_;obtain rfl:b=T.length+1:=by simp at hb;omega
   refine Q2 (by kernel_rfl)<|I1 rfl<|Iao rfl rfl<|I2 rfl<|Q0 ?_;exact ZC (T.length+1 - (a+1)) [(3,_),(4,_)] (p:=⟨a+1,ch,F1,u,rfl,rfl,by omega,by omega,S,hs.mv fun a' b' ⟨h1,h2,h3⟩=>⟨h1,h2,by omega⟩⟩)
 refine Qp<|Qc<|Qe<|Qo<|Q6<|I1 rfl<|I2 rfl<|Q0<|Q8 ?_;refine⟨.inl rfl,_,rfl,?_⟩
 exact⟨u,F1,ch,rfl,S,by
  have:a=T.length+1:=by simp at hb;omega
  rw[this]at hs
  exact hs⟩
end
theorem Q8E {n i:Nat}:Qi [.bool false] n=Q0C (fun _ _=>false) n i:=by
 rw[Q0L];unfold Q0C;rw[List.map_const',v15]
theorem QaT {T:List MTask} {M:List MMark} (ok:RunOk T M) {k:Int}:ixL M 0 k=[iV (-1)]:=by
 have:Qw M ((0:Nat):Int) k= -1:=by
  refine Q83 ?_;unfold Qw
  have:M.findIdx? (fun x=>decide (x.task=((0:Nat):Int))&&decide (x.kind=k))=none:=by
   rw[List.findIdx?_eq_none_iff];intro x hx;obtain⟨i,hi,rfl⟩:=v0J.1 hx;have:=(ok.lk i hi).t.1;have an: ¬(M[i]).task=0:=by omega
   simp[an]
  rw[this];show(-1:Int)<0;omega
 show[iV (Qw M ((0:Nat):Int) k)]=_;rw[this]
theorem QaU {M:List MMark} {i:Nat} {k:Int}:ixL M (i+1) k=ixL M i k++[iV (Qw M ((i:Int)+1) k)]:=by
 unfold ixL;rw[List.range_succ,v0P];rfl
def JV (n:Nat) (F:FB):Nat:=((Qab n).filter fun p=> !F p.1 p.2).length
theorem Q9k {n:Nat} {V V2:FB} (h:LeF V V2) (hw: ∃a i,a <n/\i <n/\V2 a i=true/\V a i=false):JV n V2 <JV n V:=by
 obtain⟨a,i,h1,h2,h3,h4⟩:=hw;refine filter_lt (x:=(a,i)) (fun x _ hx=>?_) (Q8T h1 h2) (by rw[h4];rfl) (by rw[h3];rfl);cases e:V x.1 x.2 with
 |false=>rfl
 |true=>rw[h _ _ e]at hx;exact absurd hx (by decide)
theorem Q9l {n:Nat} {V V2:FB} (h:LeF V V2):JV n V2<=JV n V:=by
 refine Q2u (fun x _ hx=>?_);cases e:V x.1 x.2 with
 |false=>rfl
 |true=>rw[h _ _ e]at hx;exact absurd hx (by decide)
theorem Q4B {T:List MTask} {M:List MMark} {F F2:FB} (hB:BaseP T M (RF F)) (l:LeF F F2):BaseP T M (RF F2):=
 ⟨fun i k a b c d=>l _ _ (hB.next i k a b c d),fun i a b c=>l _ _ (hB.join i a b c),fun id a b c d=>l _ _ (hB.made id a b c d),fun id a b c d e=>l _ _ (hB.fol id a b c d e)⟩
theorem Q9b {T:List MTask} {M:List MMark} {F F1:FB} (ok:RunOk T M) (s:SwF T M F F1 false (T.length+1) 1) (hB:BaseP T M (RF F)) (hT:TrF M.length F): ∀x y,x <M.length->y <M.length->(F1 x y=true↔HB T M x y):=by
 obtain⟨rfl,hd⟩:=s.f rfl;intro x y _ _;refine⟨s.w x y,fun h=>?_⟩;exact h (RF F1) ⟨hB,fun p q w h1 h2=>hT q p w (by have:=Q2r ok (s.w q w h2);omega) h1 h2,fun p q p1 p2 q1 q2 hA hF=>hd p q ⟨⟨p1,p2⟩,⟨q1,q2⟩,by omega⟩ hA (.inl hF),fun p q p1 p2 q1 q2 hA hF=>hd p q ⟨⟨p1,p2⟩,⟨q1,q2⟩,by omega⟩ hA (.inr hF)⟩
section
variable {h:Hp} {tb tc:Nat} {ma:Option Addr} {mc:Nat} {T:List MTask} {M:List MMark} {k:Int}
theorem t32 (R:RnAt h tb tc ma mc T M) (ok:RunOk T M) (hn:M.length<=1200):C modE 28 [.agg #[tsV tb tc T,msV ma mc M]] h fun v h'=> ∃(kb:Nat) (F:FB) (bs:List Nat),v=Qn kb/\SH h [] [Jb kb tb tc ma mc T M F bs] h'/\ ∀a b,a <M.length->b <M.length->(F a b=true↔HB T M a b):=by
 have hT:=ok.t;refine Q9 (fu:=Tryz.f28) (by kernel_rfl) rfl ?_;have S:=SH.start h;refine Q6 ?_;refine QV S gn rfl rfl fun b1 g aF S=>?_;refine I2 rfl<|QG<|I3 2 rfl (S.cel 0 rfl) (v0b _) ?_;refine Qd (cs:= #[iV (-1)]) (e:=3) (z:=0) (zv:=.int .i64 0) [(0,_)] S gn rfl (by kernel_rfl) (by kernel_rfl) (by kernel_rfl) (by kernel_rfl) rfl (by kernel_rfl) fun b2 g bL S=>?_;refine Qd (cs:= #[iV (-1)]) (e:=3) (z:=0) (zv:=.int .i64 0) [(0,_)] S gn rfl (by kernel_rfl) (by kernel_rfl) (by kernel_rfl) (by kernel_rfl) rfl (by kernel_rfl) fun b3 g fq S=>?_
 refine Qs (zv:=.agg #[.slice none 0 0,.slice none 0 0,.slice none 0 0,.slice none 0 0,.slice none 0 0]) (pl:=[(0,2),(2,1),(3,1),(4,1)]) [(0,_),(2,_),(3,_)] gn rfl (by kernel_rfl) (by kernel_rfl) rfl (by rfl) ?_;refine QV S gn rfl rfl fun b4 g kx S=>?_;refine I2 rfl<|Z5<|I2 rfl<|Q0<|Q7 ?_
 refine Ql [(4,_)] [(1,_),(3,_)] (fun kk lv hh=> ∃(i:Nat) (ov:Value) (ob c:List Nat),lv=[(4,iV i)]/\kk=M.length -i/\i<=M.length/\c.length=i/\SH h [] (cR b4 (.cells [tsV tb tc T,msV ma mc M,ov,.slice (some ⟨b2,0,none⟩) 1 1,.slice (some ⟨b3,0,none⟩) 1 1] 113 0)::slR 3 0 (.slice (some ⟨b3,0,none⟩) 1 1) [iV (-1)] 1 [b3]::slR 3 0 (.slice (some ⟨b2,0,none⟩) 1 1) [iV (-1)] 1 [b2]::cR b1 (.cells [tsV tb tc T,msV ma mc M] 52 0)::slR 94 0 ov (c.map (slB M.length)) i ob::mrP (Q0C (fun _ _=>false) M.length) c 0) hh) (n:=M.length) ?_ fun kk lv hh hI=>?_
 · exact⟨0,_,[],[],rfl,rfl,by omega,rfl,(by
   have S:=S.toSl (n:=1) (z:=0) 2 rfl (.inl rfl) rfl;have S:=S.toSl (n:=1) (z:=0) 1 rfl (.inl rfl) rfl
   exact SH.comm (A:=[_]) (S.nilSl 94 0))⟩
 obtain⟨i,ov,ob,c,rfl,hk,hi,hc,S⟩:=hI;refine Q5<|Q6<|I1 rfl<|I0 1 rfl<|I4 rfl (S.cel 3 rfl) rfl<|I7 rfl<|Il rfl rfl<|Q0<|Q3 rfl (fun hb=>?_) fun hb=>?_
 · skip
   refine Q4 ?_;have hi:i <M.length:=by simpa using hb
   refine Q5<|Q7<|I9<|I1 rfl<|I1 rfl<|I6 rfl<|I0 2 rfl<|I4 rfl (S.cel 0 rfl) rfl<|I0 1 rfl<|I4 rfl (S.cel 3 rfl) rfl<|I7 rfl ?_;refine Yb (e:=4) (z:=0) (zv:=.bool false) (by':=1) S gn rfl rfl rfl (by kernel_rfl) (by kernel_rfl) (by kernel_rfl) (by kernel_rfl) (by decide) (by omega) (by omega) (by omega) (by omega) fun b5 g nb5 S=>?_;rw[v0e]at S ⊢;refine Qd (e:=94) (z:=0) (zv:=.slice none 0 0) [(0,_)] S gn rfl (by kernel_rfl) (by kernel_rfl) (by kernel_rfl) (by kernel_rfl) rfl (by rfl) fun b6 g nb6 S=>?_
   refine QD (e:=94) (z:=0) (by':=23) 6 0 S el78 gn rfl rfl rfl rfl rfl rfl (by rfl) (by omega) (fun s' aa g S=>ag0) fun s' aa g S=>?_;refine I6 rfl<|I0 2 rfl ?_;have bR:cellV s'=true:=(S.sl 6 rfl).cellV;refine Qj 2 S gn rfl rfl bR (by kernel_rfl) rfl (by decide) (by simp) (fun g S=>ag0) fun g S=>?_;refine Q0<|Q2 (by kernel_rfl)<|I1 rfl<|Iao rfl rfl<|I2 rfl<|Q0 ?_
   exact ZC (M.length - (i+1)) [(4,_)] (p:=⟨i+1,s',aa,c++[b5],rfl,rfl,by omega,by simp[hc],by
    have S:=S.drop;rw[Q7P,v0f,hc,v0P,<-Q8E];have S:=SH.mid (A:=cR b4 _::slR 3 0 (.slice (some ⟨b3,0,none⟩) 1 1) [iV (-1)] 1 [b3]::slR 3 0 (.slice (some ⟨b2,0,none⟩) 1 1) [iV (-1)] 1 [b2]::cR b1 (.cells [tsV tb tc T,msV ma mc M] 52 0)::slR 94 0 s' (c.map (slB M.length)++[slB M.length b5]) (i+1) aa::mrP (Q0C (fun _ _=>false) M.length) c 0) (B:=[]) (by rw[v0k];exact S)
    exact S⟩)
 refine Qp<|Qc<|Qe<|Qo<|Q5<|Q5 ?_;obtain rfl:i=M.length:=by simp at hb;omega
 refine Q2 (by kernel_rfl)<|I2 rfl<|Q0<|Q7<|Ql [(5,_)] [(1,_),(3,_)] (fun kk lv hh=> ∃(i:Nat) (bv ev:Value) (bb be:List Nat),lv=[(5,iV ((i:Int)+1))]/\kk=T.length -i/\i<=T.length/\SH h [] (cR b4 (.cells [tsV tb tc T,msV ma mc M,ov,bv,ev] 113 0)::slR 3 0 ev (ixL M i 2) (i+1) be::slR 3 0 bv (ixL M i 1) (i+1) bb::cR b1 (.cells [tsV tb tc T,msV ma mc M] 52 0)::slR 94 0 ov (c.map (slB M.length)) M.length ob::mrP (Q0C (fun _ _=>false) M.length) c 0) hh) (n:=T.length) ?_ fun kk lv hh hI=>?_
 · exact⟨0,_,_,_,_,rfl,rfl,by omega,by rw[QaT ok,QaT ok];exact S⟩
 obtain⟨i,bv,ev,bb,be,rfl,hk,hi,S⟩:=hI;refine Q5<|Q6<|I1 rfl<|I0 0 rfl<|I4 rfl (S.cel 3 rfl) rfl<|I7 rfl<|Im rfl rfl<|Q0<|Q3 rfl (fun hb=>?_) fun hb=>?_
 · skip
   refine Q4 ?_;have hi:i <T.length:=by simp at hb;omega
   obtain⟨ba,bc,rfl⟩:=Qa (S.sl 2 rfl);obtain⟨ea,ec,rfl⟩:=Qa (S.sl 1 rfl);refine Q5<|Q7<|Q5<|ZZ [(0,[]),(1,[]),(2,[]),(3,[]),(4,[]),(5,[]),(6,[]),(7,[4]),(8,[]),(9,[]),(10,[]),(11,[]),(12,[])] (by kernel_rfl) (by kernel_rfl) (by kernel_rfl) (by kernel_rfl)<|I1 rfl<|I1 rfl<|I6 rfl<|I0 3 rfl<|I4 rfl (S.cel 0 rfl) rfl<|I3 2 rfl (S.cel 3 rfl) (v0b _)<|I1 rfl<|Ic [_,_] rfl rfl (C.mono (t16 (id:=(i:Int)+1) (R.ext S.e0) ok.m) ?_);rintro v g ⟨rfl,x⟩;have S:=S.grow x
   refine⟨(ag1 (Yg gn rfl (by kernel_rfl) (S.cel 0 rfl) rfl rfl Ya) ag0),?_⟩;refine Qd (e:=3) (z:=0) (zv:=.int .i64 0) [(0,_)] S gn rfl (by kernel_rfl) (by kernel_rfl) (by kernel_rfl) (by kernel_rfl) rfl (by rfl) fun b7 g nb7 S=>?_;refine QD (e:=3) (z:=0) (by':=7) 3 0 S el63 gn rfl rfl rfl rfl rfl rfl (by rfl) (by omega) (fun s' aa g S=>ag0) fun s' aa g S=>?_;refine I6 rfl<|I0 3 rfl ?_;have bR:cellV s'=true:=(S.sl 3 rfl).cellV;refine Qj 1 S gn rfl rfl bR (by kernel_rfl) rfl (by decide) (by simp) (fun g S=>ag0) fun g S=>?_;refine Q0 ?_
   refine ZZ [(0,[]),(1,[]),(2,[]),(3,[]),(4,[]),(5,[]),(6,[]),(7,[4]),(8,[]),(9,[]),(10,[]),(11,[]),(12,[])] (by kernel_rfl) (by kernel_rfl) (by kernel_rfl) (by kernel_rfl)<|I1 rfl<|I1 rfl<|I6 rfl<|I0 4 rfl<|I4 rfl (S.cel 1 rfl) rfl<|I3 2 rfl (S.cel 4 rfl) (v0b _)<|I1 rfl<|Ic [_,_] rfl rfl (C.mono (t61 (id:=(i:Int)+1) (R.ext S.e0) ok.m) ?_);rintro v g ⟨rfl,x⟩;have S:=S.grow x;refine⟨(ag1 (Yg gn rfl (by kernel_rfl) (S.cel 1 rfl) rfl rfl Ya) ag0),?_⟩
   refine Qd (e:=3) (z:=0) (zv:=.int .i64 0) [(0,_)] S gn rfl (by kernel_rfl) (by kernel_rfl) (by kernel_rfl) (by kernel_rfl) rfl (by rfl) fun b8 g nb8 S=>?_;refine QD (e:=3) (z:=0) (by':=7) 3 0 S el63 gn rfl rfl rfl rfl rfl rfl (by rfl) (by omega) (fun s' aa g S=>ag0) fun s2 bt g S=>?_;refine I6 rfl<|I0 4 rfl ?_;have gH:cellV s2=true:=(S.sl 3 rfl).cellV;refine Qj 2 S gn rfl rfl gH (by kernel_rfl) rfl (by decide) (by simp) (fun g S=>ag0) fun g S=>?_;refine Q0<|Q2 (by kernel_rfl)<|I1 rfl<|Iao rfl rfl<|I2 rfl<|Q0 ?_
   exact ZC (T.length - (i+1)) [(5,_)] (p:=⟨i+1,s',s2,aa,bt,rfl,rfl,by omega,by
    rw[QaU,QaU];exact S.drop.drop⟩)
 refine Qp<|Qc<|Qe<|Qo<|Q5 ?_;obtain rfl:i=T.length:=by simp at hb;omega
 have S:=SH.unmid (A:=[_,_]) S;have S:=SH.mid (A:=[_]) (B:=slR 3 0 ev _ _ _::cR b1 _::_) S;have S:=SH.drop (SH.unmid (A:=[_,_,_]) S);obtain⟨u0,S⟩:=Q29 (w:=⟨ov,bv,ev,ob,bb,be,c⟩) (F:=fun _ _=>false) S hc;refine Q2 (by kernel_rfl)<|I1 rfl<|Ic [_] rfl rfl (C.mono (t62 S R ok hn (fun _ _=>rfl)) ?_);rintro v g ⟨u1,F1,S2,aU,hB1⟩;have S:=S.ret 0 rfl S2;refine⟨ag0,?_⟩;refine QG<|I1 rfl<|Ic [_] rfl rfl (C.mono (t63 S ok hn aU) ?_);rintro v g ⟨u2,F2,S2,aL,hL2,hT2⟩;have S:=S.ret 0 rfl S2;refine⟨ag0,?_⟩;refine Q0<|Q5<|Q7 ?_
 refine Ql [] [(3,_)] (fun kk lv hh=> ∃(F:FB) (u:List Nat),lv=[]/\kk=JV M.length F/\SH h [] [Jb b4 tb tc ma mc T M F u] hh/\Q6c T M F/\TrF M.length F/\BaseP T M (RF F)) (n:=(JV M.length F2)) ?_ fun kk lv hh hI=>?_
 · exact⟨F2,u2,rfl,rfl,S,aL,hT2,Q4B hB1 hL2⟩
 obtain⟨F,u,rfl,hk,S,hs,hT,hB⟩:=hI;refine Q5<|Q6<|I1 rfl<|Ic [_] rfl rfl (C.mono (t64 S R ok hn hs) ?_);rintro v g ⟨u3,F3,ch,rfl,S2,cN⟩;have S:=S.ret 0 rfl S2;refine⟨ag0,?_⟩;refine Q0<|Q3 rfl (fun hb=>?_) fun hb=>?_
 · skip
   refine Q4<|Q7 ?_;obtain rfl:ch=true:=hb;refine Q2 (by kernel_rfl)<|I1 rfl<|Ic [_] rfl rfl (C.mono (t63 S ok hn cN.w) ?_);rintro v g ⟨u4,F4,S2,jR,hL4,hT4⟩;have S:=S.ret 0 rfl S2;have hz:JV M.length F4 <JV M.length F:=Nat.lt_of_le_of_lt (Q9l hL4) (Q9k cN.le (cN.t rfl));refine⟨ag0,?_⟩;refine Q0<|Qk ?_;exact ZC (JV M.length F4) [] (p:=⟨F4,u4,rfl,rfl,S,jR,hT4,Q4B (Q4B hB cN.le) hL4⟩)
 refine Qp<|Qc<|Qe<|Qo<|Q5 ?_;obtain rfl:ch=false:=hb;refine Q2 (by kernel_rfl)<|I1 rfl<|I2 rfl<|Q0<|Q8 ⟨.inl rfl,_,rfl,⟨b4,F3,u3,rfl,S,Q9b ok cN hB hT⟩⟩
end
theorem Qfy (t:MMark):sameV 20 (.agg (mkV t).toArray) (.agg (mkV t).toArray)=true:=by simp[sameV,sameV.sameL,mkV,Z8]
theorem QdG (M:List MMark) (a b:Nat):((((decide ((mkI M a).kind=3)&&decide ((mkI M b).kind=3))&& !decide ((mkI M a).task=(mkI M b).task))&&(decide ((ZR (mkI M a)).1=(ZR (mkI M b)).1)&&(decide ((ZR (mkI M a)).2.1=(ZR (mkI M b)).2.1)&&(decide ((ZR (mkI M a)).2.2=(ZR (mkI M b)).2.2)&&true))))&&((mkI M a).acc.write||(mkI M b).acc.write))=Yp M a b:=by
 unfold Yp atB QgI;rw[v1H];simp[Prod.ext_iff]
 grind
noncomputable def fs82:Array Field:=match modE.und 90 with|some (.struct fs)=>fs|_=> #[]
theorem und82:modE.und 90=some (.struct fs82):=by kernel_rfl
theorem len82:fs82.toList.length=2:=by kernel_rfl
theorem row82:fs82.toList=[fs82.toList[0]'(by rw[len82];omega),fs82.toList[1]'(by rw[len82];omega)]:=by kernel_rfl
theorem eq82 (h:Hp) (a b:Nat×Nat):Zo modE h #[iV (a.1:Int),iV (a.2:Int)] #[iV (b.1:Int),iV (b.2:Int)] fs82.toList=some (decide ((a.1:Int)=b.1)&&(decide ((a.2:Int)=b.2)&&true)):=by
 rw[row82];exact Ze (u:=iV (a.1:Int)) (w:=iV (b.1:Int)) (by kernel_rfl) (by kernel_rfl) (by kernel_rfl) (by kernel_rfl) (Ze (u:=iV (a.2:Int)) (w:=iV (b.2:Int)) (by kernel_rfl) (by kernel_rfl) (by kernel_rfl) (by kernel_rfl) rfl)
def Q9g (F:FB) (M:List MMark) (b a:Nat):List (Nat×Nat):=Q3N F (K8 M b)++((v0o a).filter fun k=>(Yp M k b&& !F k b)&& !F b k).map fun k=>(k,b)
theorem Q9Z {F:FB} {M:List MMark} {b:Nat}:Q9g F M b 0=Q3N F (K8 M b):=by simp[Q9g]
theorem Q5d {F:FB} {M:List MMark} {b a:Nat}:Q9g F M b (a+1)=if((Yp M a b&& !F a b)&& !F b a)=true then Q9g F M b a++[(a,b)]else Q9g F M b a:=by
 unfold Q9g;rw[List.range_succ,v1C,v1S]
 split
 · simp
 simp
theorem QcK {F:FB} {M:List MMark} {b:Nat}:Q9g F M b b=Q3N F (K8 M (b+1)):=by
 unfold Q9g Q3N;rw[Q1a,v1C,List.filter_map,List.filter_filter]
 congr 2
 refine List.filter_congr fun k _=>?_;simp only[Function.comp,Qbf];cases Yp M k b<;>cases F k b<;>cases F b k<;>rfl
theorem QcJ {F:FB} {M:List MMark} {b a:Nat}:(Q9g F M b a).length<=b*b+a:=by
 unfold Q9g Q3N;rw[v0j,v0s];have h1:=v08 (Qbf F) (K8 M b);have h3:=Q0s (M:=M) b;have h2:=v08 (fun k=>(Yp M k b&& !F k b)&& !F b k) (v0o a);rw[v15]at h2;omega
section
variable {h h0:Hp} {tb tc:Nat} {ma:Option Addr} {mc:Nat} {T:List MTask} {M:List MMark} {k:Int}
theorem t65 (R:RnAt h tb tc ma mc T M) (hn:M.length<=1200) {a b:Nat} (ha:a <M.length) (bk:b <M.length):C modE 32 [.agg #[tsV tb tc T,msV ma mc M],iV a,iV b] h fun v h'=>v=.bool (Yp M a b)/\Ext h h':=by
 obtain⟨mb,mcs,mm,fk,mg,mln,mll,mlr,mlf⟩:=R.mk' (j:=(a:Int)) (by omega) (by omega);obtain⟨nb,ncs,nm,fj,ng,nln,nll,nlr,nlf⟩:=R.mk' (j:=(b:Int)) (by omega) (by omega);refine Q9 (fu:=Tryz.f32) (by kernel_rfl) rfl ?_;have S:=SH.start h;refine Q6 ?_;refine QV S gn rfl rfl fun b1 g aF S=>?_;refine I2 rfl<|Q0<|Q5<|ZZ [(0,[]),(1,[]),(2,[]),(3,[]),(4,[]),(5,[]),(6,[]),(7,[]),(8,[]),(9,[]),(10,[]),(11,[]),(12,[6,9]),(13,[])] (by kernel_rfl) (by kernel_rfl) (by kernel_rfl) (by kernel_rfl)<|I0 1 rfl<|I4 rfl (S.cel 0 rfl) rfl<|I1 rfl ?_;rw[fk];refine I5o 8 rfl rfl ?_
 rw[<-fk];refine I3 8 rfl (S.old0 mg mln) mll ?_;rw[mlr];refine I0 1 rfl<|I4 rfl (S.cel 0 rfl) rfl<|I1 rfl ?_;rw[fj];refine I5o 8 rfl rfl ?_;rw[<-fj];refine I3 8 rfl (S.old0 ng nln) nll ?_;rw[nlr];refine Qq (zv:=.agg #[iV 0,iV 0,iV 0,iV 0,iV 0,iV 0,iV 0,.bool false]) S gn rfl (by kernel_rfl) fun b2 g bL S=>?_;refine Qq (zv:=.agg #[iV 0,iV 0,iV 0,iV 0,iV 0,iV 0,iV 0,.bool false]) S gn rfl (by kernel_rfl) fun b3 g fq S=>?_
 refine Qg (n:=8) 1 S gn rfl rfl (by kernel_rfl) (by kernel_rfl) rfl rfl (by decide) rfl (fun g S=>(ag1 (Yg gn rfl (by kernel_rfl) (S.cel 2 rfl) rfl rfl Ya) (ag1 (Q0A (n:=8) gn rfl (by kernel_rfl) (by kernel_rfl) (S.old0 ng nln) nll (by rw[nlr];rfl) (by rw[nlr];exact Qfy _)) ag0))) fun g S=>?_;refine Qg (n:=8) 0 S gn rfl rfl (by kernel_rfl) (by kernel_rfl) rfl rfl (by decide) rfl (fun g S=>ag0) fun g S=>?_;refine QG<|I0 0 rfl<|I4 rfl (S.cel 1 rfl) rfl<|Ie rfl rfl<|I1 rfl ?_
 refine Qt (n:=3) rfl rfl rfl gn rfl (fun hb=>by
  refine D0 0 hb rfl<|D4 hb rfl (S.cel 0 rfl) rfl<|De hb rfl rfl ?_
  exact Q0 ⟨rfl,rfl,3,rfl,rfl⟩) ?_
 refine I1 rfl ?_
 refine Qt (n:=5) rfl rfl rfl gn rfl (fun hb=>by
  refine D0 1 hb rfl<|D4 hb rfl (S.cel 1 rfl) rfl<|D0 1 hb rfl<|D4 hb rfl (S.cel 0 rfl) rfl<|Dn hb rfl rfl ?_
  exact Q0 ⟨rfl,rfl,5,rfl,rfl⟩) ?_
 refine I1 rfl ?_
 refine Qt (n:=7) rfl rfl rfl gn rfl (fun hb=>by
  refine D0 3 hb rfl<|D0 1 hb rfl<|QY (n:=3) (gy rfl rfl rfl hb) rfl rfl (by kernel_rfl) (by kernel_rfl) (S.cel 1 rfl) (by rw[Q42];decide)<|D0 3 hb rfl<|D0 1 hb rfl<|QY (n:=3) (gy rfl rfl rfl hb) rfl rfl (by kernel_rfl) (by kernel_rfl) (S.cel 0 rfl) (by rw[Q42];decide)<|Qfo (gy rfl rfl rfl hb) rfl rfl rfl (QdQ und32 (by kernel_rfl) (eq32 _ (ZR (mkI M a)) (ZR (mkI M b)))) ?_
  exact Q0 ⟨rfl,rfl,7,rfl,rfl⟩) ?_
 refine I1 rfl ?_
 refine Qt (n:=8) rfl rfl rfl gn rfl (fun hb=>by
  refine D0 3 hb rfl<|D0 4 hb rfl<|D4 hb rfl (S.cel 1 rfl) rfl<|D1 hb rfl ?_
  refine QS (n:=3) rfl rfl rfl (gy rfl rfl rfl hb) rfl (fun hb=>by
   refine D0 3 hb rfl<|D0 4 hb rfl<|D4 hb rfl (S.cel 0 rfl) rfl ?_
   exact Q0 ⟨rfl,rfl,3,rfl,rfl⟩) ?_
  exact Q0 ⟨rfl,rfl,5,rfl,rfl⟩) ?_
 refine I2 rfl<|Q0<|Q8 ⟨.inl rfl,_,rfl,⟨congrArg Value.bool (QdG M a b),S.e0⟩⟩
theorem t34 {kb:Nat} {F:FB} {bs:List Nat} (p:Held (Jb kb tb tc ma mc T M F bs) h) (R:RnAt h tb tc ma mc T M) (hn:M.length<=1200):C modE 30 [Qn kb] h fun v h'=> ∃aa,SH h [] [slR 90 1 v (prC (Q3N F (K8 M M.length))) (Q3N F (K8 M M.length)).length aa] h':=by
 refine Q9 (fu:=Tryz.f30) (by kernel_rfl) rfl ?_;have S:=SH.start h;refine Q6<|I2 rfl<|QG<|I2 rfl<|Z5<|I2 rfl<|Q0<|Q7<|Ql [(3,_),(4,_)] [(0,_)] (fun kk lv hh=> ∃(b:Nat) (s:Value) (u:List Nat),lv=[(3,s),(4,iV b)]/\kk=M.length -b/\b<=M.length/\SH h [] [slR 90 1 s (prC (Q3N F (K8 M b))) (Q3N F (K8 M b)).length u] hh) (n:=M.length) ?_ fun kk lv hh hI=>?_
 · exact⟨0,_,[],rfl,rfl,by omega,S.nilSl 90 1⟩
 obtain⟨b,s,u,rfl,hk,lF,S⟩:=hI;refine Q5<|Q5 ?_;obtain⟨w,hw,aw,dY,aZ,ax⟩:=Q9i (p.ext S.e0);obtain⟨va,vc,hva⟩:=Qa ax;refine Q2 (by kernel_rfl)<|I1 rfl<|I1 rfl<|I6 rfl<|I0 2 rfl<|I4 rfl aw rfl ?_;rw[hva];refine I7 rfl<|Il rfl rfl<|Q0<|Q3 rfl (fun hb=>?_) fun hb=>?_
 · skip
   refine Q4 ?_;have lF:b <M.length:=by simpa using hb
   refine Q5<|Q7<|Q6<|I2 rfl<|Q0<|Q7<|Ql [(3,_),(5,_)] [(0,_),(4,_)] (fun kk lv hh=> ∃(a:Nat) (s:Value) (u:List Nat),lv=[(3,s),(5,iV a)]/\kk=b -a/\a<=b/\SH h [] [slR 90 1 s (prC (Q9g F M b a)) (Q9g F M b a).length u] hh) (n:=b) ?_ fun kk lv hh hI=>?_
   · exact⟨0,s,u,rfl,rfl,by omega,by rw[Q9Z];exact S⟩
   obtain⟨a,s,u,rfl,gQ,cy,S⟩:=hI;refine Q5<|Q6<|I1 rfl<|I1 rfl<|Il rfl rfl<|Q0<|Q3 rfl (fun hb=>?_) fun hb=>?_
   · skip
     refine Q4 ?_;have cy:a <b:=by simp at hb;omega
     have hln:=QcJ (F:=F) (M:=M) (b:=b) (a:=a);have hj2:b*b<=1200*1200:=Nat.mul_le_mul (by omega) (by omega);refine Q5<|Q7<|Q5 ?_;obtain⟨w,aw,dY,aZ,jo⟩:=Q8L (p.ext S.e0);refine Q2 (by kernel_rfl)<|I1 rfl<|I6 rfl<|I0 0 rfl<|I3 2 rfl aw (by simp)<|I1 rfl<|I1 rfl<|Ic [_,_,_] rfl rfl (C.mono (t65 (a:=a) (b:=b) (R.ext S.e0) hn (by omega) (by omega)) ?_);rintro v g ⟨rfl,x⟩;have S:=S.grow x;refine⟨ag0,?_⟩;refine I1 rfl ?_;obtain⟨w,aw,dY,aZ,jo⟩:=Q8L (p.ext S.e0)
     obtain⟨ab,ac,cs,cm,rb,ax,cI,dx,bY,ia⟩:=jo (a:Int) (b:Int) (by omega) (by omega) (by omega) (by omega);obtain⟨fY,ac2,cJ,cm2,rb2,eG,lK,lI,ji,jg⟩:=jo (b:Int) (a:Int) (by omega) (by omega) (by omega) (by omega)
     refine Qt (n:=11) rfl rfl rfl gn rfl (fun hb=>by
      refine D1 hb rfl<|D6 hb rfl<|D0 2 hb rfl<|D4 hb rfl aw rfl<|D1 hb rfl ?_;rw[ax];refine D5o 1 hb rfl rfl ?_;rw[<-ax];refine D4 hb rfl cI dx<|D1 hb rfl<|D5o 1 hb rfl rfl<|D4 hb rfl bY ia<|Db hb rfl ?_
      exact Q0 ⟨rfl,rfl,11,rfl,rfl⟩) ?_
     refine I1 rfl ?_
     refine Qt (n:=11) rfl rfl rfl gn rfl (fun hb=>by
      refine D1 hb rfl<|D6 hb rfl<|D0 2 hb rfl<|D4 hb rfl aw rfl<|D1 hb rfl ?_;rw[eG];refine D5o 1 hb rfl rfl ?_;rw[<-eG];refine D4 hb rfl lK lI<|D1 hb rfl<|D5o 1 hb rfl rfl<|D4 hb rfl ji jg<|Db hb rfl ?_
      exact Q0 ⟨rfl,rfl,11,rfl,rfl⟩) ?_
     refine Q0<|Q3 rfl (fun hb=>?_) fun hb=>?_
     · skip
       refine Q2 (by kernel_rfl)<|I1 rfl<|I1 rfl<|I1 rfl<|Qs (zv:=.agg #[iV 0,iV 0]) (pl:=[(0,1),(1,1)]) [(0,_),(1,_)] gn rfl (by kernel_rfl) (by kernel_rfl) rfl (by rfl) ?_;refine Qd (e:=90) (z:=1) (zv:=.agg #[iV 0,iV 0]) [(0,_)] S gn rfl (by kernel_rfl) (by kernel_rfl) (by kernel_rfl) (by kernel_rfl) rfl (by rfl) fun b1 g aF S=>?_;refine QD (e:=90) (z:=1) (by':=15) 1 0 S el82 gn rfl rfl rfl rfl rfl rfl (by rfl) (by omega) (fun s' aa g S=>ag0) fun s' aa g S=>?_;refine I2 rfl<|Q0<|Q2 (by kernel_rfl)<|I1 rfl<|Iao rfl rfl<|I2 rfl<|Q0 ?_
       exact ZC (b - (a+1)) [(3,_),(5,_)] (p:=⟨a+1,s',aa,rfl,rfl,by omega,by
        have hb:((Yp M a b&& !F a b)&& !F b a)=true:=hb
        rw[Q5d,if_pos hb,Q7F,v0j];exact S.drop⟩)
     refine Q4<|Q2 (by kernel_rfl)<|I1 rfl<|Iao rfl rfl<|I2 rfl<|Q0 ?_
     exact ZC (b - (a+1)) [(3,_),(5,_)] (p:=⟨a+1,s,u,rfl,rfl,by omega,by
      have hb:((Yp M a b&& !F a b)&& !F b a)=false:=hb
      rw[Q5d,if_neg (by rw[hb];decide)];exact S⟩)
   refine Qp<|Qc<|Qe<|Qo ?_;obtain rfl:a=b:=by simp at hb;omega
   rw[QcK]at S;refine Q2 (by kernel_rfl)<|I1 rfl<|Iao rfl rfl<|I2 rfl<|Q0 ?_;exact ZC (M.length - (a+1)) [(3,_),(4,_)] (p:=⟨a+1,s,u,rfl,rfl,by omega,S⟩)
 refine Qp<|Qc<|Qe<|Qo<|Q5 ?_;obtain rfl:b=M.length:=by simp at hb;omega
 refine Q2 (by kernel_rfl)<|I1 rfl<|I2 rfl<|Q0<|Q8 ⟨.inl rfl,_,rfl,⟨u,S⟩⟩
theorem t33 {v1 v2:Value} {l:List (Nat×Nat)} {u1 u2:List Nat} (h1:SlC 90 1 h v1 (prC l) l.length u1) (h2:SlC 90 1 h v2 (prC l) l.length u2) (hl:l.length<=2000000):C modE 29 [v1,v2] h fun v h'=>v=.bool true/\Ext h h':=by
 obtain⟨a1,c1,rfl⟩:=Qa h1;obtain⟨a2,c2,rfl⟩:=Qa h2;refine Q9 (fu:=Tryz.f29) (by kernel_rfl) rfl ?_;have S:=SH.start h;refine Q6<|I2 rfl<|Z5<|I1 rfl<|I7 rfl<|I1 rfl<|I7 rfl<|In rfl rfl<|Q0<|Q3 rfl (fun hb=>?_) fun hb=>?_
 · skip
   refine Q5 ?_;exact absurd hb (by simp)
 refine Q4<|Q5<|Q6<|I2 rfl<|Q0<|Q7<|Ql [(5,_)] [(0,_),(1,_)] (fun kk lv hh=> ∃i:Nat,lv=[(5,iV i)]/\kk=l.length -i/\i<=l.length/\SH h [] [] hh) (n:=l.length) ?_ fun kk lv hh hI=>?_
 · exact⟨0,rfl,rfl,by omega,S⟩
 obtain⟨i,rfl,hk,hi,S⟩:=hI;refine Q5<|Q6<|I1 rfl<|I1 rfl<|I7 rfl<|Il rfl rfl<|Q0<|Q3 rfl (fun hb=>?_) fun hb=>?_
 · skip
   refine Q4 ?_;have hi:i <l.length:=by simpa using hb
   obtain⟨qb,qm,qc,qr,cA,dJ,cE⟩:=h1.at (by omega);cases cA;obtain⟨tb2,tm,mB,tr,bp,gZ,htl⟩:=h2.at (by omega);cases bp;obtain⟨o,ho⟩: ∃o,l[i]?=some o:=⟨_,v0c hi⟩;have e1:=Qee qr ho;have e2:=Qee tr ho;refine Q5<|Q7<|Q5<|I9<|I1 rfl<|I1 rfl<|I5o 2 rfl rfl<|QY (n:=2) gn rfl rfl (by kernel_rfl) (by kernel_rfl) (S.old0 dJ cE.2.1) (by rw[v0j,Qa6,v0e];omega) ?_;rw[v0f,v0e,e1];refine I1 rfl<|I1 rfl<|I5o 2 rfl rfl ?_
   refine QY (n:=2) gn rfl rfl (by kernel_rfl) (by kernel_rfl) (S.old0 gZ htl.2.1) (by rw[v0j,Qa6,v0e];omega) ?_;rw[v0f,v0e,e2];refine Qfo gn rfl rfl rfl (Q8l und82 (by kernel_rfl) (eq82 _ o o))<|Q0<|Q3 rfl (fun hb=>?_) fun hb=>?_
   · skip
     refine Q5 ?_;exact absurd hb (by simp)
   refine Q4<|Q2 (by kernel_rfl)<|I1 rfl<|Iao rfl rfl<|I2 rfl<|Q0 ?_;exact ZC (l.length - (i+1)) [(5,_)] (p:=⟨i+1,rfl,rfl,by omega,S⟩)
 refine Qp<|Qc<|Qe<|Qo<|Q6<|I2 rfl<|Q0<|Q8 ⟨.inl rfl,_,rfl,⟨rfl,S.e0⟩⟩
end
theorem QdU {h h0:Hp} {ds:List Nat} {a b c d e:Res} (S:SH h0 ds [a,b,c,d,e] h):SH h0 ds ([c,d]++[a,b,e]) h:=SH.prm S (Z9 fun _ x=>by
 simp only[v1d,v1u,v1t];omega)
theorem QdT {h h0:Hp} {ds:List Nat} {a b c d e f:Res} (S:SH h0 ds ([a,b,c]++[d,e,f]) h):SH h0 ds [e,a,b,c,f] h:=S.sub (B:=[d]) (Z9 fun _ x=>by
 simp only[v1d,v1u,v1t];omega)
theorem QdS {h h0:Hp} {ds:List Nat} {a b c d e:Res} (S:SH h0 ds [a,b,c,d,e] h):SH h0 ds [a,c,d,e] h:=S.sub (B:=[b]) (Z9 fun _ x=>by
 simp only[v1d,v1u,v1t];omega)
theorem Qfq {h h0:Hp} {ds:List Nat} {X1 X2 Xt Xs Xo Xk Xr Xl:Res} (S:SH h0 ds [X2,Xs,Xo,Xt,Xl,Xr,Xk,X1] h):SH h0 ds [X1,X2,Xt,Xs,Xo,Xk,Xr,Xl] h:=SH.prm S (Z9 fun d x=>by
 simp only[v1d,v1u];omega)
section
variable {h h0:Hp} {tb tc mc:Nat} {ma:Option Addr} {T:List MTask} {M:List MMark}
theorem k33:C modE 33 [] h fun v g'=> ∃hb,v=Qn hb/\SH h [] [cR hb (.cells [.slice none 0 0] 171 0)] g':=by
 refine Q9 (fu:=Tryz.f33) (by kernel_rfl) rfl ?_;have S:=SH.start h;refine Q6<|I2 rfl<|QG<|Qs (zv:=.agg #[.slice none 0 0]) (pl:=[(0,1)]) [] gn rfl (by kernel_rfl) (by kernel_rfl) rfl (by rfl) ?_;refine QV S gn rfl rfl fun b1 g aF S=>?_;refine I2 rfl<|Q0<|Q8 ⟨.inl rfl,_,rfl,⟨_,rfl,S⟩⟩
theorem k12:C modE 12 [] h fun v g'=> ∃(cb:Nat) (bs pbs:List Nat),v=Qn cb/\SH h [] [ckR cb ck0 bs,plR [] pbs] g':=by
 refine Q9 (fu:=Tryz.f12) (by kernel_rfl) rfl ?_;have S:=SH.start h;refine Q6<|I2 rfl<|QG<|Ic [] rfl rfl (C.mono (k33) ?_);rintro v g ⟨hb,rfl,S⟩
 skip
 refine⟨ag0,?_⟩;refine KP S gn rfl fun b1 g aF S=>?_;refine KP S gn rfl fun b2 g bL S=>?_;refine KP S gn rfl fun b3 g fq S=>?_;refine Qs (zv:=.agg #[.pointer none,.slice none 0 0,.map none,.map none,.slice none 0 0,.map none,iV 0]) (pl:=[(0,1),(1,1),(2,1),(3,1),(4,1),(5,1),(6,1)]) [(0,_),(2,_),(3,_),(5,_)] gn rfl (by kernel_rfl) (by kernel_rfl) rfl (by rfl) ?_;refine QV S gn rfl rfl fun b4 g kx S=>?_;refine I2 rfl<|Q0<|Q8 ?_;refine⟨.inl rfl,_,rfl,?_⟩
 exact(by
  have S1:=Qfq (((S.nilSl 3 0).nilSl 126 1).nilSl 174 1);have S2:SH h [] (ckL b4 ck0 ⟨hb,b1,b2,b3,.slice none 0 0,.slice none 0 0,.slice none 0 0,[],[],[],[],0,[],0,[],0,[],fun _=>0,fun _=>0,fun _=>[],fun _=>.slice none 0 0,fun _=>[]⟩++(plL [] (fun _=>[])++[])) _:=S1;obtain⟨bs,pbs,S3⟩:=Q4y S2 ⟨OkK.nil _,fun m=>rfl,OkK.nil _,fun a=>rfl,fun a=>⟨fun⟨r,h⟩=>absurd h (by simp[ck0]),fun h=>(v1m h).elim⟩,MlOk.nil _,fun q _=>rfl⟩
  exact⟨b4,bs,pbs,rfl,S3⟩)
theorem k20 (R:RnAt h tb tc ma mc T M) (ok:RunOk T M) (hM:M.length<=200) {F:FB} (hF: ∀a b,a <M.length->b <M.length->(F a b=true↔HB T M a b)):
 C modE 20 [.agg #[tsV tb tc T,msV ma mc M]] h fun v g'=> ∃(rv:Value) (bs:List Nat),v=.tuple #[rv,iV 0]/\SH h [] [slR 90 1 rv (prC (Q3N F (K8 M M.length))) (Q3N F (K8 M M.length)).length bs] g':=by
 refine Q9 (fu:=Tryz.f20) (by kernel_rfl) rfl ?_;have S:=SH.start h;refine Q6 ?_;refine QV S gn rfl rfl fun b1 g aF S=>?_;refine I2 rfl<|I2 rfl<|Z5<|I3 2 rfl (S.cel 0 rfl) (v0b 2)<|Ic [_] rfl rfl (C.mono (t36 (R.ext S.e0) ok) ?_);rintro v g ⟨rfl,x⟩;have S:=S.grow x;refine⟨ag0,?_⟩;refine Ib rfl<|Q0<|Q3 rfl (fun hb=>?_) fun hb=>?_
 · skip
   refine Q5 ?_;exact absurd hb (by decide)
 refine Q4<|Q6<|Ic [] rfl rfl (C.mono (k12) ?_);rintro v g ⟨cb,bs0,ku,rfl,S2⟩;have S:=SH.retL (A:=[]) S S2;refine⟨ag0,?_⟩;refine I2 rfl<|QG<|I2 rfl<|Z5<|I0 1 rfl<|I4 rfl (S.cel 2 rfl) rfl<|I7 rfl<|I1 rfl<|Q0<|Q7 ?_
 refine Ql [(5,_),(19,_)] [(1,_),(4,_),(17,_),(18,_)] (fun kk lv hh=> ∃(j:Nat) (s:CkS) (pl:List (Nat×(Int->Int))) (l:Value) (bs pbs lbs:List Nat),lv=[(5,l),(19,iV j)]/\kk=M.length -j/\j<=M.length/\CkI T M j s/\(∀m p,s.K m=some p->p∈pl)/\SH h [] [slR 90 1 l (prC (Q3N F (K8 M j))) (Q3N F (K8 M j)).length lbs,ckR cb s bs,plR pl pbs,cR b1 (.cells [tsV tb tc T,msV ma mc M] 52 0)] hh) (n:=M.length) ?_ fun kk lv hh hI=>?_
 · exact⟨0,ck0,[],_,bs0,ku,[],rfl,rfl,v0t _,Qez,fun m p h=>absurd h (by simp[ck0]),S.nilSl 90 1⟩
 obtain⟨j,s,pl,l,bs,pbs,lbs,rfl,hk,hj,I,HP,S⟩:=hI;refine Q6<|Il rfl rfl<|Q0<|Q5<|Q3 rfl (fun hb=>?_) fun hb=>?_
 · skip
   refine Q4 ?_;have hj:j <M.length:=by simpa using hb
   obtain⟨nb,ncs,nm,fj,ng,nln,nll,nlr,nlf⟩:=R.mk' (j:=(j:Int)) (by omega) (by omega);refine Q5<|Q7<|Q6<|I1 rfl ?_;rw[fj];refine I5o 8 rfl rfl ?_;rw[<-fj];refine I3 8 rfl (S.old0 ng nln) nll ?_;rw[nlr];refine Qq (zv:=.agg #[iV 0,iV 0,iV 0,iV 0,iV 0,iV 0,iV 0,.bool false]) S gn rfl (by kernel_rfl) fun b2 g bL S=>?_;refine I2 rfl ?_;refine Qg (n:=8) 0 S gn rfl rfl (by kernel_rfl) (by kernel_rfl) rfl rfl (by decide) rfl (fun g S=>ag0) fun g S=>?_;refine QG<|I1 rfl<|I3 8 rfl (S.cel 0 rfl) (v0b 8)<|I0 0 rfl<|I4 rfl (S.cel 4 rfl) rfl ?_;have S3:=QdU S
   refine Ic [_,_,_] rfl rfl (C.mono (k14 (h0:=h) ok I hj hM (SH.fst S3) R HP) ?_);rintro v g ⟨sT,rs,rv,plT,bsT,pbsT,rbs,rfl,hT,HP',_,S4⟩;have S:=QdT (SH.retL S3 S4);obtain⟨ra,rc,bX⟩:=Qa (S.sl 1 rfl);subst bX;have dV:=Q9A ok I hj hT hF;obtain⟨L0,hL0⟩: ∃L0:List Nat,L0=(v0o j).filter fun a=>Yp M a j&& !F a j:=⟨_,rfl⟩;rw[<-hL0]at dV;have hL0l:L0.length<=j:=by rw[hL0];exact v0p (v08 _ _) (by rw[v15];omega)
   have bq:rs.length=L0.length:=by rw[dV,v0s]
   obtain⟨X,hX⟩: ∃X,X=Q3N F (K8 M j):=⟨_,rfl⟩;rw[<-hX]at S
   have hXl:X.length<=40000:=by
    rw[hX];exact v0p (v08 _ _) (v0p (Q0s _) (Nat.mul_le_mul (show j<=200 by omega) (show j<=200 by omega)))
   refine⟨ag0,?_⟩;refine I1 rfl<|Ix rfl rfl<|Ix rfl rfl<|I2 rfl<|I2 rfl<|Z5<|I1 rfl<|In rfl rfl<|Q0<|Q3 rfl (fun hb=>?_) fun hb=>?_
   · skip
     refine Q5 ?_;exact absurd hb (by decide)
   refine Q4<|Q6<|I1 rfl<|I7 rfl<|I1 rfl<|Q0<|Q7<|Ql [(5,_),(37,_)] [(1,_),(4,_),(6,_),(17,_),(18,_),(19,_),(35,_),(36,_)] (fun kk lv hh=> ∃(i:Nat) (l':Value) (kB:List Nat),lv=[(5,l'),(37,iV i)]/\kk=rs.length -i/\i<=rs.length/\SH h [] [slR 90 1 l' (prC (X++(L0.take i).map fun k=>(k,j))) (X++(L0.take i).map fun k=>(k,j)).length kB,slR 3 0 (.slice ra rs.length rc) (isV rs) rs.length rbs,ckR cb sT bsT,plR plT pbsT,cR b1 (.cells [tsV tb tc T,msV ma mc M] 52 0)] hh) (n:=rs.length) ?_ fun kk lv hh hI=>?_
   · exact⟨0,l,lbs,rfl,rfl,v0t _,by rw[v1j,v1h,v0k];exact S⟩
   obtain⟨i,l',kB,rfl,gQ,hi,S⟩:=hI;refine Q6<|Il rfl rfl<|Q0<|Q5<|Q3 rfl (fun hb=>?_) fun hb=>?_
   · skip
     refine Q4 ?_;have hi:i <rs.length:=by simpa using hb
     obtain⟨qb,qm,qc,qr,cA,dJ,_⟩:=(S.sl 1 rfl).at (by omega);cases cA;obtain⟨k,eX⟩: ∃k,L0[i]?=some k:=⟨_,v0c (by omega)⟩;have hri:rs[i]?=some (k:Int):=by rw[dV,v0y,eX];rfl
     have hYl:(X++(L0.take i).map fun k=>(k,j)).length<=50000:=by rw[v0j,v0s,List.length_take];omega
     refine Q5<|Q7<|Q6<|I5o 1 rfl rfl<|I4 rfl dJ (QaX qr hri)<|I2 rfl<|Q0<|Q2 (by kernel_rfl)<|I1 rfl<|I1 rfl<|I1 rfl<|Qs (cs:= #[iV (k:Int),iV (j:Int)]) (zv:=.agg #[iV 0,iV 0]) (pl:=[(0,1),(1,1)]) [(0,_),(1,_)] gn rfl (by kernel_rfl) (by kernel_rfl) rfl (by kernel_rfl) ?_;refine Qd (cs:= #[iV (k:Int),iV (j:Int)]) (e:=90) (z:=1) (zv:=.agg #[iV 0,iV 0]) [(0,_)] S gn rfl (by kernel_rfl) (by kernel_rfl) (by kernel_rfl) (by kernel_rfl) rfl (by kernel_rfl) fun b3 g fq S=>?_
     refine QD (e:=90) (z:=1) (by':=15) 1 0 S el82 gn rfl rfl rfl rfl rfl rfl (by rfl) (by omega) (fun s' aa g S=>ag0) fun s' aa g S=>?_;refine I2 rfl<|Q0<|Q2 (by kernel_rfl)<|Iao rfl rfl<|I1 rfl<|Q0 ?_
     exact ZC (rs.length - (i+1)) [(5,_),(37,_)] (p:=⟨i+1,s',aa,rfl,rfl,by omega,by
      rw[List.take_add_one,eX,Option.toList_some,v0P,<-List.append_assoc];show SH h [] [slR 90 1 _ (prC (_++[(k,j)])) (_++[(k,j)]).length _,_,_,_,_] _;rw[Q7F,v0j]
      exact S.drop⟩)
   refine Qp<|Qc<|Qe<|Qo ?_;obtain rfl:i=rs.length:=by simp at hb;omega
   rw[bq,List.take_length,hX,hL0,<-Q9Y ok hF hj]at S;refine Q2 (by kernel_rfl)<|Iao rfl rfl<|I1 rfl<|Q0 ?_;exact ZC (M.length - (j+1)) [(5,_),(19,_)] (p:=⟨j+1,sT,plT,l',bsT,pbsT,kB,rfl,rfl,by omega,Q3A ok I hj hT,HP',QdS S⟩)
 refine Qp<|Qc<|Qe<|Qo<|Q5 ?_;obtain rfl:j=M.length:=by simp at hb;omega
 refine Q2 (by kernel_rfl)<|I1 rfl<|I2 rfl<|I2 rfl<|Q0<|Q8 ⟨.inl rfl,_,rfl,⟨l,lbs,rfl,SH.fst (A:=[_]) S⟩⟩
end
theorem Q9N {h h0:Hp} {ds:List Nat} {a b c d e f:Res} (S:SH h0 ds ([a,b]++[c,d,e,f]) h):SH h0 ds [a,b,e,f] h:=S.sub (B:=[c,d]) (Z9 fun _ x=>by
 simp only[v1d,v1u,v1t];omega)
theorem Q94 {p:Nat->Bool}: ∀(n a:Nat),a <n->p a=true->((v0o n).filter p)[((v0o a).filter p).length]?=some a:=by
 intro n a ha hp;obtain⟨m,rfl⟩: ∃m,n=a+(m+1):=⟨n -a -1,by omega⟩;rw[List.range_add,v1C,List.getElem?_append_right (v0b _),Nat.sub_self,List.range_succ_eq_map];simp[hp]
theorem Q3o {p:Nat->Bool} (a:Nat):((v0o (a+1)).filter p).length=((v0o a).filter p).length+(if p a=true then 1 else 0):=by
 rw[List.range_succ,v1C,v0j,v1S]
 split<;>simp
section
variable {h h0:Hp} {tb tc mc:Nat} {ma:Option Addr} {T:List MTask} {M:List MMark} {cb N:Nat} {s:CkS}
theorem QdM {A:List Res} {ds bs:List Nat} (S:SH h0 ds A h) (hm:ckR cb s bs∈A): ∃w,CkG h cb s w:=by
 obtain⟨L,⟨w,rfl,ok⟩,ho,hp⟩:=S.hold _ hm;refine⟨w,fun r hr=>⟨hp r hr,fun i hi=>S.lt i (QO hm ?_)⟩,ok⟩;show i∈bs;rw[<-ho];exact QO hr hi
theorem Qc4 (ok:RunOk T M) (I:CkI T M (N+1) s) {i:Int}:QgL s i=true↔0<=i/\i<=N/\HBe T M N i.toNat:=by
 obtain⟨r,hr,hp⟩:=I.before ok;unfold QgL;rw[hr];show hasB s.S (some r.A) i=true↔_;rw[Q85 (fun j hj=>(I.k.st j hj).2.1) I.n hp];constructor
 · rintro⟨a,b,c⟩;exact⟨a,by omega,c⟩
 rintro⟨a,b,c⟩;exact⟨a,by omega,c⟩
theorem k10 (R:RnAt h tb tc ma mc T M) (ok:RunOk T M) (hM:M.length<=200):C modE 10 [.agg #[tsV tb tc T,msV ma mc M]] h fun v g'=>v=.bool true/\Ext h g':=by
 have hn:M.length<=1200:=by omega
 have hhT:=ok.t;refine Q9 (fu:=Tryz.f10) (by kernel_rfl) rfl ?_;have S:=SH.start h;refine Q6 ?_;refine QV S gn rfl rfl fun b1 g aF S=>?_;refine I2 rfl<|QG<|I3 2 rfl (S.cel 0 rfl) (v0b 2)<|Ic [_] rfl rfl (C.mono (t32 (R.ext S.e0) ok hn) ?_);rintro v g ⟨kb,F,u1,rfl,S2,hF⟩;have S:=SH.retL (A:=[]) (B:=[_]) S S2;refine⟨ag0,?_⟩;refine I2 rfl<|QG<|I3 2 rfl (S.cel 1 rfl) (v0b 2)<|Ic [_] rfl rfl (C.mono (k20 (R.ext S.e0) ok hM hF) ?_);rintro v g ⟨rv,u2,rfl,S2⟩;have S:=SH.retL (A:=[]) (B:=[_,_]) S S2
 have bq:(Q3N F (K8 M M.length)).length<=2000000:=v0p (v08 _ _) (v0p (Q0s _) (v0p (Nat.mul_le_mul hn hn) (by decide)));refine⟨ag0,?_⟩;refine I1 rfl<|Ix rfl rfl<|Ix rfl rfl<|I2 rfl<|I2 rfl<|Z5<|I1 rfl<|In rfl rfl<|I1 rfl<|Z1 (dc:=22) rfl (fun e9=>?_) fun e9=>?_
 · skip
   exact absurd e9 (by simp)
 refine D1 e9 rfl<|D1 e9 rfl<|Dc e9 [_] rfl rfl (C.mono (t34 (S.held 1 rfl) (R.ext S.e0) hn) ?_);rintro v3 g ⟨u3,S2⟩;have S:=SH.retL (A:=[]) (B:=[_,_,_]) S S2;refine⟨ag0,?_⟩;refine Dc e9 [_,_] rfl rfl (C.mono (t33 (l:=Q3N F (K8 M M.length)) (S.sl 1 rfl) (S.sl 0 rfl) bq) ?_);rintro v g ⟨rfl,x⟩;have S:=S.grow x;refine⟨ag0,?_⟩;refine Db e9 rfl<|Iu rfl e9 rfl<|Q0<|Q3 rfl (fun hb=>?_) fun hb=>?_
 · skip
   refine Q5 ?_;exact absurd hb (by decide)
 refine Q4<|Q6<|Ic [] rfl rfl (C.mono (k12) ?_);rintro v g ⟨cb,bs0,ku,rfl,S2⟩;have S:=Q9N (SH.retL (A:=[]) (B:=[_,_,_,_]) S S2);refine⟨ag0,?_⟩;refine I2 rfl<|Z5<|I2 rfl<|Q0<|Q7<|Ql [(7,_)] [(1,_),(3,_),(6,_)] (fun kk lv hh=> ∃(j:Nat) (s:CkS) (pl:List (Nat×(Int->Int))) (bs pbs:List Nat),lv=[(7,iV j)]/\kk=M.length -j/\j<=M.length/\CkI T M j s/\(∀m p,s.K m=some p->p∈pl)/\SH h [] [ckR cb s bs,plR pl pbs,Jb kb tb tc ma mc T M F u1,cR b1 (.cells [tsV tb tc T,msV ma mc M] 52 0)] hh) (n:=M.length) ?_ fun kk lv hh hI=>?_
 · exact⟨0,ck0,[],bs0,ku,rfl,rfl,v0t _,Qez,fun m p h=>absurd h (by simp[ck0]),S⟩
 obtain⟨j,s,pl,bs,pbs,rfl,hk,hj,I,HP,S⟩:=hI;refine Q5<|Q6<|I1 rfl<|I0 1 rfl<|I4 rfl (S.cel 3 rfl) rfl<|I7 rfl<|Il rfl rfl<|Q0<|Q3 rfl (fun hb=>?_) fun hb=>?_
 · skip
   refine Q4 ?_;have hj:j <M.length:=by simpa using hb
   obtain⟨nb,ncs,nm,fj,ng,nln,nll,nlr,nlf⟩:=R.mk' (j:=(j:Int)) (by omega) (by omega);refine Q5<|Q7<|Q5<|I9<|I1 rfl<|I0 1 rfl<|I4 rfl (S.cel 3 rfl) rfl<|I1 rfl ?_;rw[fj];refine I5o 8 rfl rfl ?_;rw[<-fj];refine I3 8 rfl (S.old0 ng nln) nll ?_;rw[nlr];refine I0 0 rfl<|I4 rfl (S.cel 3 rfl) rfl<|Ic [_,_,_] rfl rfl (C.mono (k14 (h0:=h) ok I hj hM (SH.fst (A:=[_,_]) S) R HP) ?_);rintro v g ⟨sT,rs,rv2,plT,bsT,pbsT,rbs,rfl,hT,HP',_,S4⟩;have S:=SH.retL (A:=[_,_]) S S4
   have S:SH h [] [slR 3 0 rv2 (isV rs) rs.length rbs,ckR cb sT bsT,plR plT pbsT,Jb kb tb tc ma mc T M F u1,cR b1 (.cells [tsV tb tc T,msV ma mc M] 52 0)] g:=S;obtain⟨ra,rc,bX⟩:=Qa (S.sl 0 rfl);subst bX;have dV:=Q9A ok I hj hT hF;have I':=Q3A ok I hj hT;obtain⟨p,hp⟩: ∃p:Nat->Bool,p=fun a=>Yp M a j&& !F a j:=⟨_,rfl⟩;rw[<-hp]at dV;have jh:rs.length=((v0o j).filter p).length:=by rw[dV,v0s]
   have hrlj:rs.length<=j:=by rw[jh];exact v0p (v08 _ _) (by rw[v15];omega)
   have hIn:=I'.n;have lA:=I'.chains;have mq:=I'.some_chain (by omega);obtain⟨w,G⟩:=QdM (cb:=cb) (s:=sT) (bs:=bsT) S (by simp);refine⟨ag0,?_⟩;refine I1 rfl<|Ix rfl rfl<|Ix rfl rfl<|I2 rfl<|I2 rfl<|Q0<|Q5<|Q5<|ZZ [(0,[]),(1,[]),(2,[]),(3,[]),(5,[]),(6,[]),(4,[6]),(7,[]),(8,[]),(9,[]),(10,[]),(11,[]),(12,[]),(13,[]),(14,[]),(15,[]),(17,[]),(18,[]),(19,[]),(16,[18,19]),(20,[]),(21,[])] (by kernel_rfl) (by kernel_rfl) (by kernel_rfl) (by kernel_rfl)<|I1 rfl<|In rfl rfl<|I1 rfl ?_
   refine QS (n:=5) rfl rfl rfl gn rfl (fun hb=>by
    refine D1 hb rfl<|D1 hb rfl<|Dao hb rfl rfl<|Dc hb [_] rfl rfl (Qm (k15 G) ⟨(ag1 (QeC (gy rfl rfl rfl hb) rfl rfl (by omega) (by omega) rfl) ag0),?_⟩);refine Dn hb rfl rfl ?_
    exact Q0 ⟨rfl,rfl,5,rfl,rfl⟩) ?_
   refine I1 rfl ?_
   refine QS (n:=3) rfl rfl rfl gn rfl (fun hb=>by
    refine D1 hb rfl<|Dc hb [_] rfl rfl (Qm (k16 G) ⟨ag0,?_⟩);refine Dl hb rfl rfl ?_
    exact Q0 ⟨rfl,rfl,3,rfl,rfl⟩) ?_
   refine I1 rfl ?_
   refine QS (n:=6) rfl rfl rfl gn rfl (fun hb=>by
    refine D1 hb rfl<|D0 0 hb rfl<|D4 hb rfl (S.cel 4 rfl) rfl<|D7 hb rfl<|Dc hb [_] rfl rfl (Qm (k16 G) ⟨(ag1 (Yg (gy rfl rfl rfl hb) rfl (by kernel_rfl) (S.cel 4 rfl) rfl rfl Ya) (ag1 (ag_len (gy rfl rfl rfl hb) rfl (by kernel_rfl) rfl) ag0)),?_⟩);refine Dg hb rfl rfl ?_
    exact Q0 ⟨rfl,rfl,6,rfl,rfl⟩) ?_
   refine Q0<|Q3 rfl (fun hb=>?_) fun hb=>?_
   · skip
     refine Q5 ?_;exact absurd hb (by simp<;>omega)
   refine Q4<|Q6<|I2 rfl<|Z5<|I2 rfl<|Q0<|Q7<|Ql [(10,_),(11,_)] [(1,_),(3,_),(6,_),(7,_),(8,_)] (fun kk lv hh=> ∃a:Nat,lv=[(10,iV ((((v0o (min a j)).filter p).length:Nat):Int)),(11,iV a)]/\kk=j+1 -a/\a<=j+1/\SH h [] [slR 3 0 (.slice ra rs.length rc) (isV rs) rs.length rbs,ckR cb sT bsT,plR plT pbsT,Jb kb tb tc ma mc T M F u1,cR b1 (.cells [tsV tb tc T,msV ma mc M] 52 0)] hh) (n:=j+1) ?_ fun kk lv hh hI=>?_
   · exact⟨0,by rw[Nat.zero_min];rfl,rfl,v0t _,S⟩
   obtain⟨a,rfl,gQ,ha,S⟩:=hI;refine Q5<|Q6<|I1 rfl<|I1 rfl<|Im rfl rfl<|Q0<|Q3 rfl (fun hb=>?_) fun hb=>?_
   · skip
     refine Q4 ?_;have ha:a<=j:=by simp at hb;omega
     obtain⟨wo,aw,dY,aZ,jo⟩:=Q8L (S.held 3 rfl);obtain⟨fY,ac2,cJ,cm2,rb2,ax,lK,lI,ji,jg⟩:=jo (a:Int) (j:Int) (by omega) (by omega) (by omega) (by omega);rw[v0e,v0e]at jg;rw[v0e]at ji
     have eb:QgL sT (a:Int)=(decide ((a:Int)=(j:Int))||F a j):=by
      rw[v1H,Qc4 ok I',v0H,decide_eq_true_eq,hF a j (by omega) hj,v0e];constructor
      · rintro⟨_,_,e|e⟩
        · exact .inl (by omega)
        exact .inr e
      rintro(e|e)
      · exact⟨by omega,by omega,.inl (by omega)⟩
      exact⟨by omega,by omega,.inr e⟩
     refine Q5<|Q7<|Q6<|I1 rfl<|I1 rfl<|Ie rfl rfl<|I1 rfl ?_
     refine QS (n:=10) rfl rfl rfl gn rfl (fun hb=>by
      refine D1 hb rfl<|D6 hb rfl<|D0 2 hb rfl<|D4 hb rfl aw rfl<|D1 hb rfl ?_;rw[ax];refine D5o 1 hb rfl rfl ?_;rw[<-ax];refine D4 hb rfl lK lI<|D1 hb rfl<|D5o 1 hb rfl rfl<|D4 hb rfl ji jg ?_
      exact Q0 ⟨rfl,rfl,10,rfl,rfl⟩) ?_
     refine I2 rfl<|Z5<|I1 rfl<|I1 rfl ?_;obtain⟨w2,G2⟩:=QdM (cb:=cb) (s:=sT) (bs:=bsT) S (by simp);refine Ic [_,_] rfl rfl (C.mono (k31 G2) ?_);rintro v g ⟨rfl,x⟩;have S:=S.grow x;refine⟨ag0,?_⟩;refine I1 rfl<|QcW gn rfl rfl rfl (by kernel_rfl)<|Q0<|Q3 rfl (fun hb=>?_) fun hb=>?_
     · skip
       refine Q5 ?_;exact absurd hb (by rw[eb];simp)
     refine Q4<|Q6<|I1 rfl<|I1 rfl<|Il rfl rfl<|I1 rfl ?_;obtain⟨wo3,kX,_,_,hmt3⟩:=Q8L (S.held 3 rfl);obtain⟨ab3,ac3,iN,cm3,rb3,nh,hag3,hax3,mV,mR⟩:=hmt3 (a:Int) (j:Int) (by omega) (by omega) (by omega) (by omega);rw[v0e,v0e]at mR;rw[v0e]at mV;refine Z1 (dc:=99) rfl (fun dw=>?_) fun dw=>?_
     · skip
       refine D3 2 dw rfl (S.cel 4 rfl) (v0b 2)<|D1 dw rfl<|D1 dw rfl<|Dc dw [_,_,_] rfl rfl (C.mono (t65 (R.ext S.e0) hn (a:=a) (b:=j) (by omega) hj) ?_);rintro v g ⟨rfl,x⟩;have S:=S.grow x;refine⟨ag0,?_⟩;obtain⟨wo4,hok4,_,_,hmt4⟩:=Q8L (S.held 3 rfl);obtain⟨ab4,ac4,cs4,cm4,rb4,nf,hag4,hax4,mU,mQ⟩:=hmt4 (a:Int) (j:Int) (by omega) (by omega) (by omega) (by omega);rw[v0e,v0e]at mQ;rw[v0e]at mU;have haj:a <j:=by simp at dw;omega
       have k7:min a j=a:=by omega
       refine IT rfl dw rfl<|I1 rfl ?_
       refine Qt (n:=11) rfl rfl rfl gn rfl (fun hb=>by
        refine D1 hb rfl<|D6 hb rfl<|D0 2 hb rfl<|D4 hb rfl hok4 rfl<|D1 hb rfl ?_;rw[nf];refine D5o 1 hb rfl rfl ?_;rw[<-nf];refine D4 hb rfl hag4 hax4<|D1 hb rfl<|D5o 1 hb rfl rfl<|D4 hb rfl mU mQ<|Db hb rfl ?_
        exact Q0 ⟨rfl,rfl,11,rfl,rfl⟩) ?_
       refine Q0<|Q3 rfl (fun hb=>?_) fun hb=>?_
       · skip
         refine Q5<|Q5 ?_;have hpa:p a=true:=by rw[hp];exact hb
         have bB:rs[((v0o (min a j)).filter p).length]?=some (a:Int):=by rw[k7,dV,v0y,Q94 j a haj hpa];rfl
         have fT:((v0o (min a j)).filter p).length <rs.length:=(List.getElem?_eq_some_iff.1 bB).1;obtain⟨qb,qm,qc,qr,cA,dJ,_⟩:=(S.sl 0 rfl).at (by omega);cases cA;refine Q2 (by kernel_rfl)<|I1 rfl<|I1 rfl<|I7 rfl<|Ih rfl rfl<|I1 rfl ?_
         refine QS (n:=6) rfl rfl rfl gn rfl (fun hb=>by
          refine D1 hb rfl<|D1 hb rfl<|D5o 1 hb rfl rfl<|D4 hb rfl dJ (QaX qr bB)<|D1 hb rfl<|Dn hb rfl rfl ?_
          exact Q0 ⟨rfl,rfl,6,rfl,rfl⟩) ?_
         refine Q0<|Q3 rfl (fun hb=>?_) fun hb=>?_
         · skip
           refine Q5 ?_;exact absurd hb (by simp;omega)
         refine Q4<|Q2 (by kernel_rfl)<|I1 rfl<|Iao rfl rfl<|I2 rfl<|Q0<|Q2 (by kernel_rfl)<|I1 rfl<|Iao rfl rfl<|I2 rfl<|Q0 ?_;exact ZC (j+1 - (a+1)) [(10,_),(11,_)] (p:=⟨a+1,by rw[show min (a+1) j=a+1 by omega,Q3o,if_pos hpa,k7];rfl,rfl,by omega,S⟩)
       refine Q4<|Q2 (by kernel_rfl)<|I1 rfl<|Iao rfl rfl<|I2 rfl<|Q0 ?_
       exact ZC (j+1 - (a+1)) [(10,_),(11,_)] (p:=⟨a+1,by
        have hpa:p a=false:=by rw[hp];exact hb
        rw[show min (a+1) j=a+1 by omega,Q3o,if_neg (by rw[hpa];decide),k7];rfl,rfl,by omega,S⟩)
     refine ZD (n:=4) (dc:=99) (w:=true) rfl dw rfl<|Iu rfl dw rfl<|I1 rfl ?_
     refine Qt (n:=11) rfl rfl rfl gn rfl (fun hb=>by
      refine D1 hb rfl<|D6 hb rfl<|D0 2 hb rfl<|D4 hb rfl kX rfl<|D1 hb rfl ?_;rw[nh];refine D5o 1 hb rfl rfl ?_;rw[<-nh];refine D4 hb rfl hag3 hax3<|D1 hb rfl<|D5o 1 hb rfl rfl<|D4 hb rfl mV mR<|Db hb rfl ?_
      exact Q0 ⟨rfl,rfl,11,rfl,rfl⟩) ?_
     refine Q0<|Q3 rfl (fun hb=>?_) fun hb=>?_
     · skip
       refine Q5<|Q5 ?_;exact absurd hb (by simp)
     refine Q4<|Q2 (by kernel_rfl)<|I1 rfl<|Iao rfl rfl<|I2 rfl<|Q0 ?_
     exact ZC (j+1 - (a+1)) [(10,_),(11,_)] (p:=⟨a+1,by
      have haj: ¬a <j:=by simp at dw;omega
      rw[show min (a+1) j=min a j by omega];rfl,rfl,by omega,S⟩)
   refine Qp<|Qc<|Qe<|Qo<|Q5 ?_;have mA:a=j+1:=by simp at hb;omega
   rw[show min a j=j by omega,<-jh];refine Q2 (by kernel_rfl)<|I1 rfl<|I1 rfl<|I7 rfl<|In rfl rfl<|I1 rfl<|Z1 (dc:=136) rfl (fun cY=>?_) fun cY=>?_
   · skip
     exact absurd cY (by simp)
   refine D1 cY rfl<|D1 cY rfl<|Dao cY rfl rfl ?_;obtain⟨w3,G3⟩:=QdM (cb:=cb) (s:=sT) (bs:=bsT) S (by simp);refine Dc cY [_,_] rfl rfl (C.mono (k31 G3) ?_);rintro v g ⟨rfl,x⟩;have S:=S.grow x;refine⟨ag0,?_⟩;refine Iu rfl cY rfl<|I1 rfl<|Z1 (dc:=142) rfl (fun ff=>?_) fun ff=>?_
   · skip
     exact absurd ff (by
      intro q;have:=(Qc4 ok I').1 q
      omega)
   refine D1 ff rfl ?_;obtain⟨w4,G4⟩:=QdM (cb:=cb) (s:=sT) (bs:=bsT) S (by simp);refine Dc ff [_,_] rfl rfl (C.mono (k31 G4) ?_);rintro v g ⟨rfl,x⟩;have S:=S.grow x;refine⟨ag0,?_⟩;refine Iu rfl ff rfl<|Q0<|Q3 rfl (fun hb=>?_) fun hb=>?_
   · skip
     refine Q5 ?_
     exact absurd hb (by
      intro q;have:=(Qc4 ok I').1 q
      omega)
   refine Q4<|Q2 (by kernel_rfl)<|I1 rfl<|Iao rfl rfl<|I2 rfl<|Q0 ?_;exact ZC (M.length - (j+1)) [(7,_)] (p:=⟨j+1,sT,plT,bsT,pbsT,rfl,rfl,by omega,I',HP',S.drop⟩)
 refine Qp<|Qc<|Qe<|Qo<|Q6<|I2 rfl<|Q0<|Q8 ⟨.inl rfl,_,rfl,⟨rfl,S.e0⟩⟩
end
theorem do_T {P:Prg} {s s':MS} {q a n r:Int} (h:DoR P s q a n r s'):s.T.length<=s'.T.length:=by
 have fol: ∀t,s.T.length<=(Q4n P s t).T.length:=fun t=>by
  unfold Q4n
  split
  · exact v0b _
  unfold Y7
  split
  · exact v0b _
  show _<=(s.T++[_]).length;simp
 have beg: ∀(s1:MS) (id:Int),s1.T.length=s.T.length->s.T.length<=(JS s1 id).T.length:=fun s1 id e=>by
  have:(JS s1 id).T=s1.T.modify (id -1).toNat fun t=> {t with state:=2}:=by unfold JS;split<;>rfl
  rw[this,v0l,e];exact v0b _
 have stp: ∀(s1:MS) (id e:Int) (b:Bool) (s2:MS),s1.T.length=s.T.length->Q9e P s1 id b e s2->s.T.length<=s2.T.length:=fun s1 id e b s2 e1 hx=>by
  obtain⟨a,e0,T',H',x,h⟩:=hx;have hD:=(Q6l (P:=P) (s:=stT s1 id a T' H') (id:=id) (a:=a)).1;have hT:(stT s1 id a T' H').T.length=s1.T.length:=rfl;rcases h with⟨_,_,_,rfl⟩| ⟨_,_,_,_,_,rfl⟩| ⟨_,_,_,h⟩
  · exact Nat.le_of_eq e1.symm
  · have:=(Q2C (P:=P) (s:=stT s1 id a T' H') (id:=id) (a:=a)).1;omega
  rcases h with⟨_,_,_,rfl⟩| ⟨_,_,rfl⟩
  · omega
  have e3: ∀(s3:MS) k,(Q18 s3 id k).T.length=s3.T.length:=fun s3 k=>by
   show((s3.T.modify _ _).modify _ _).length=_;rw[v0l,v0l]
  rw[e3];omega
 rcases h with⟨_,h⟩| ⟨_,h⟩| ⟨_,h⟩| ⟨_,h⟩| ⟨_,h⟩| ⟨_,rfl⟩
 · rcases h with⟨_,_,rfl⟩| ⟨_,rfl⟩| ⟨_,rfl⟩| ⟨_,_,_,h⟩
   · exact v0b _
   · exact v0b _
   · exact v0b _
   rcases h with⟨_,_,rfl⟩| ⟨_,b,s2,hx,rfl⟩
   · exact beg _ _ rfl
   have:=stp (upS s) _ _ _ _ rfl hx;unfold ovrR
   split<;>exact this
 · rcases h with⟨_,_,rfl⟩| ⟨_,rfl⟩| ⟨_,rfl⟩| ⟨_,_,_,h⟩
   · exact v0b _
   · exact v0b _
   · exact v0b _
   rcases h with⟨_,_,rfl⟩| ⟨_,b,hx⟩
   · exact beg _ _ rfl
   exact stp (upS s) _ _ _ _ rfl hx
 · rcases h with⟨_,_,rfl⟩| ⟨_,rfl⟩| ⟨_,_,_,_,rfl⟩<;>exact v0b _
 · rcases h with⟨_,_,rfl⟩| ⟨_,rfl⟩| ⟨_,_,_,_,_,rfl⟩
   · exact v0b _
   · exact v0b _
   exact fol _
 · rcases h with⟨_,_,rfl⟩| ⟨_,rfl⟩| ⟨_,_,_,_,_,h⟩
   · exact v0b _
   · exact v0b _
   rcases h with⟨_,_,_,rfl⟩| ⟨_,s1,h,rfl⟩
   · exact fol _
   rcases h with⟨_,rfl⟩| ⟨_,_,rfl⟩
   · exact v0b _
   exact fol _
 exact v0b _
structure Ent where
 q:Int
 a:Int
 n:Int
def EntD (cs:List Value) (e:Ent):Prop:=cs=[iV e.q,iV e.a,iV e.n]
section
variable {h0 h:Hp} {P:Prg} {V:PrV} {mb ph:Nat} {s:MS} {tp bs:List Nat}
theorem QfG (p:Held (mcR mb ph P V s tp bs) h): ∃(a:Option Addr) (c:Nat) (w:MW),h.get mb=some (.cells (pvL P V++[Qn ph,Qn w.lb,w.qv,w.rv,w.tv,w.hv,w.gv,w.lv,.slice a s.M.length c,w.ov,iV s.now,iV s.steps,.bool s.full]) 45 0):=by
 obtain⟨⟨_,⟨w,hw,rfl⟩,ho,hp⟩,hl⟩:=p;have hm:SlC 68 7 h w.mv (mkC s.M) s.M.length w.mvb:=hp (slR 68 7 w.mv (mkC s.M) s.M.length w.mvb) (by simp[mcL,mcH]);obtain⟨a,c,e⟩:=Qa hm;have:=hp (cR mb (.cells (pvL P V++[Qn ph,Qn w.lb,w.qv,w.rv,w.tv,w.hv,w.gv,w.lv,w.mv,w.ov,iV s.now,iV s.steps,.bool s.full]) 45 0)) (by simp[mcL,mcH]);rw[e]at this;exact⟨a,c,w,this⟩
end
section
variable {h:Hp} {P:Prg} {lo cl gl fu co ev si ev2:Value} {l:List Ent}
theorem o3 (X:PrgAt h P lo cl gl fu co ev si) (E:RowP 3 EntD h ev2 l):C modE 3 [Qed P lo cl gl fu co ev si,ev2] h fun v _=>v=.bool true:=by
 obtain⟨ea,ec,rfl⟩:=E.val;refine Q9 (fu:=Tryz.f3) (by kernel_rfl) rfl ?_;have S:=SH.start h;refine Q6 ?_;refine QV S gn rfl rfl fun b1 g aF S=>?_;refine I2 rfl<|Z5<|I3 8 rfl (S.cel 0 rfl) (v0b _)<|Ic [_] rfl rfl (C.mono (c4 (X.ext S.e0)) ?_);rintro v g ⟨⟨mu,rfl⟩,x⟩;have S:=S.grow x;refine⟨ag0,?_⟩;refine I1 rfl<|Z1 (dc:=9) rfl (fun lG=>?_) fun lG=>?_
 · skip
   refine ZD (n:=3) (dc:=9) (w:=false) rfl lG rfl<|IT rfl lG rfl<|I1 rfl ?_
   refine QS (n:=3) rfl rfl rfl gn rfl (fun hb=>by
    refine D1 hb rfl<|D7 hb rfl<|Dg hb rfl rfl ?_
    exact Q0 ⟨rfl,rfl,3,rfl,rfl⟩) ?_
   refine Q0<|Q3 rfl (fun hb=>?_) fun hb=>?_
   · skip
     refine Q6<|Qfk (f:=7) (v:=.bool true) gn rfl (by kernel_rfl) (by kernel_rfl) ag0<|I2 rfl<|Q0<|Q8 ⟨.inl rfl,_,rfl,(rfl)⟩
   refine Q4<|Q5 ?_;exact absurd hb (by simp)
 refine D3 8 lG rfl (S.cel 0 rfl) (v0b _)<|Dc lG [_] rfl rfl (C.mono (c5 (X.ext S.e0)) ?_);rintro v g ⟨rfl,x⟩;have S:=S.grow x;refine⟨ag0,?_⟩;refine Db lG rfl<|Iu rfl lG rfl<|I1 rfl ?_
 refine QS (n:=3) rfl rfl rfl gn rfl (fun hb=>by
  refine D1 hb rfl<|D7 hb rfl<|Dg hb rfl rfl ?_
  exact Q0 ⟨rfl,rfl,3,rfl,rfl⟩) ?_
 refine Q0<|Q3 rfl (fun hb=>?_) fun hb=>?_
 · skip
   refine Q6<|Qfk (f:=7) (v:=.bool true) gn rfl (by kernel_rfl) (by kernel_rfl) ag0<|I2 rfl<|Q0<|Q8 ⟨.inl rfl,_,rfl,(rfl)⟩
 refine Q4<|Q6 ?_;have hM:ZM P=true/\l.length<=120:=⟨by simp at hb;exact hb.1,by simp at hb;have:=hb.2;omega⟩;refine I3 8 rfl (S.cel 0 rfl) (v0b _)<|Ic [_] rfl rfl (C.mono (m11 (V:=⟨lo,cl,gl,fu,co,ev,si⟩) (X.ext S.e0) hM.1) ?_);rintro v g ⟨mb,ph,E0,ae,tp,u0,rfl,hE0,S2⟩;have S:=SH.retL (A:=[]) (B:=[_]) S S2;have hR0:=Qfr hM.1 hE0;have hM0:(Qek P E0).M.length=0:=rfl;have hT0:(Qek P E0).T.length=1:=rfl;refine⟨ag0,?_⟩;refine I2 rfl<|Z5<|I2 rfl<|Q0<|Q7 ?_
 refine Ql [(6,_)] [(1,_),(5,_)] (fun kk lv hh=> ∃(i:Nat) (s:MS) (ae tp u:List Nat),lv=[(6,iV i)]/\kk=l.length -i/\i<=l.length/\SH h [] [hpR ph s.H ae,mcR mb ph P ⟨lo,cl,gl,fu,co,ev,si⟩ s tp u,cR b1 (.cells [lo,cl,gl,fu,co,ev,iV P.main,si] 30 0)] hh/\RInv P s/\1<=s.T.length/\s.M.length<=160) (n:=l.length) ?_ fun kk lv hh hI=>?_
 · exact⟨0,Qek P E0,ae,tp,u0,rfl,rfl,by omega,S,hR0,by rw[hT0];exact v0b _,by rw[hM0];exact v0t _⟩
 obtain⟨i,s,ae,tp,u,rfl,hk,hi,S,hR,hT,hMl⟩:=hI;refine Q5<|Q5 ?_;obtain⟨ka,kc,kw,aH⟩:=QfG (S.held 1 rfl);refine Q2 (by kernel_rfl)<|I1 rfl<|I1 rfl<|I7 rfl<|Il rfl rfl<|I1 rfl ?_
 refine Qt (n:=6) rfl rfl rfl gn rfl (fun hb=>by
  refine D1 hb rfl<|D6 hb rfl<|D0 16 hb rfl<|D4 hb rfl aH rfl<|D7 hb rfl<|Dl hb rfl rfl ?_
  exact Q0 ⟨rfl,rfl,6,rfl,rfl⟩) ?_
 refine Q0<|Q3 rfl (fun hb=>?_) fun hb=>?_
 · skip
   refine Q4 ?_;have hi:i <l.length/\s.M.length <155:=by simp at hb;omega
   obtain⟨vb,vo,vc,vcs,ve,vm,aZ,kG,mI,hvn,fz⟩:=E.at (by omega);cases aZ;have hent:(vcs.drop (vo+i*3)).take 3=[iV l[i].q,iV l[i].a,iV l[i].n]:=fz i hi.1;have hvb:=Nat.mul_le_mul_right 3 (show i+1<=l.length from hi.1);refine Q5<|Q7<|Q2 (by kernel_rfl)<|I1 rfl<|I1 rfl<|I1 rfl<|I5o 3 rfl rfl<|QY (n:=3) gn rfl rfl (by kernel_rfl) (by kernel_rfl) (S.old0 kG mI) (by rw[v0e];omega) ?_;rw[v0e,hent]
   refine Ic [_,_] rfl rfl (C.mono (m12 (q:=l[i].q) (a:=l[i].a) (n:=l[i].n) (SH.subL (A:=[_,_]) (B:=[_]) (SH.start h) (by simp) S) X hM.1 hR.run (by omega)) ?_);rintro v g ⟨r,s2,aP,tl,u2,rfl,hD,S2⟩;have S:=SH.retL (A:=[_,_]) (B:=[_]) S S2;have oC:=do_inv hR hM.1 (by omega) hD;have hT2:=do_T hD;refine⟨ag0,?_⟩;refine Q0<|Q2 (by kernel_rfl)<|I1 rfl<|Iao rfl rfl<|I2 rfl<|Q0 ?_;exact ZC (l.length - (i+1)) [(6,_)] (p:=⟨i+1,s2,aP,_,u2,rfl,rfl,by omega,S,oC.1,by omega,by have:=oC.2;omega⟩)
 refine Qp<|Qc<|Qe<|Qo<|Q6<|I1 rfl<|Ic [_] rfl rfl (C.mono (m14 (SH.sub1 (SH.start h) (by simp) S 1 rfl)) ?_);rintro v g ⟨tv,mv,k1,k2,rfl,q1,q2,q3,q4,x⟩;obtain⟨tb,tc,ma,mc,rfl,rfl,hrn⟩:=RnAt.of q1 q2 (by omega);have S:=S.grow x;refine⟨ag0,?_⟩;refine Ic [_] rfl rfl (C.mono (k10 (hrn.ext x) (hR.ok (by omega)) (by omega)) ?_);rintro v g ⟨rfl,x⟩;have S:=S.grow x;refine⟨ag0,?_⟩;refine I1 rfl ?_
 refine Qt (n:=1) rfl rfl rfl gn rfl (fun hb=>by
  refine Qfk (f:=7) (v:=.bool true) (gy rfl rfl rfl hb) rfl (by kernel_rfl) (by kernel_rfl) ag0 ?_
  exact Q0 ⟨rfl,rfl,1,rfl,rfl⟩) ?_
 refine I2 rfl<|Q0<|Q8 ⟨.inl rfl,_,rfl,(rfl)⟩
end
end Go.Proofs.YtljpajcmdjmeaaaGreat
namespace Go.May
open Go.ChangeShapes Go.WideShapes Go.ChangeAt Go.RowKit Go.Deep Go.X
def RS (P:Program) (h:Hp) (t:TypeId) (cs:List Value):Prop:=Rd P h t cs/\Sz P h 140737488351232 t cs
structure St (P:Program) (s:TypeId) (n:Nat) (L:List (Nat×Nat)):Prop where
 und: ∃fs,P.underlying s=some (.struct fs)/\fs.toList.map (fun f=>(f.type,f.offset))=L
 cells:P.cellsOf s=n
section
variable {P:Program} {h:Hp} {s t e:TypeId} {cs:List Value} {n w:Nat} {L:List (Nat×Nat)}
theorem St.len (z:St P s n L) (x:RS P h s cs):cs.length=n:=by
 obtain⟨fs,h1,_⟩:=z.und;rw[<-z.cells];exact(x.1.inv_struct h1).1
theorem St.fld (z:St P s n L) (x:RS P h s cs) (i:Nat) {o:Nat} (hL:L[i]?=some (t,o)) (ht:P.cellsOf t=w):RS P h t ((cs.drop o).take w):=by
 obtain⟨fs,h1,h2⟩:=z.und;have h3:(fs.toList[i]?).map (fun f=>(f.type,f.offset))=some (t,o):=by rw[<-v0y,h2,hL]
 cases hf:fs.toList[i]? with
 |none=>rw[hf]at h3;cases h3
 | some f=>
   rw[hf]at h3;simp only[Option.map_some,v0i.injEq,Prod.mk.injEq]at h3;have dp:fs[i]?=some f:=by rw[<-Array.getElem?_toList];exact hf
   rw[<-ht];exact⟨x.1.fld h1 i o t dp h3,x.2.fld h1 i o t dp h3⟩
theorem Y3 (ht:P.underlying t=some (.int .i64)) (x:RS P h t cs): ∃n,cs=[iV n]/\I64 n:=by
 obtain⟨k,e,h1,h2⟩:=x.1.inv_int ht;exact⟨k,e,h1,h2⟩
theorem Q7v (ht:P.underlying t=some .string) (x:RS P h t cs): ∃s,cs=[.string s]:=by
 obtain⟨k,e,_⟩:=x.1.inv_string ht;exact⟨k,e⟩
theorem Qf0 (ht:P.underlying t=some .bool) (x:RS P h t cs): ∃b,cs=[.bool b]:=x.1.inv_bool ht
theorem KG {α:Type} {by':Nat} {D:List Value->α->Prop} (ht:P.underlying t=some (.slice e)) (hc:P.cellsOf e=w) (hw:0 <w) (hb:P.bytesOf e=by') (hD: ∀cs,RS P h e cs-> ∃a,D cs a) (x:RS P h t cs):
 ∃v l,cs=[v]/\RowP w D h v l/\l.length*by'<=140737488351232/\l.length<=9223372036854775807:=by
 obtain⟨x1,x2⟩:=x;obtain⟨a,n,c,rfl,hn,mq,_,_,ao⟩:=x1.inv_slice ht (by rw[hc];exact hw);obtain⟨z1,z2⟩:=x2.inv ht;rw[hb]at z1
 have hm : n ≤ 9223372036854775807 := by have:maxLen=9223372036854775807:=by decide
                                         omega
 rcases ao with rfl| ⟨b,o,xs,u,rfl,hb,hg,hl,hr⟩
 · exact⟨_,[],rfl,.inl ⟨rfl,a,c,rfl⟩,by simp,by simp⟩
 have z3:=z2 b o xs u 1 rfl hg;rw[hc]at hl hr z3;obtain⟨l,cT,hlq⟩:=Qf1 (Q:=fun i (k:α)=>D ((xs.drop (o+i*w)).take w) k) fun i hi=>hD _ ⟨hr i hi,z3 i hi⟩;exact⟨_,l,rfl,.inr ⟨b,o,c,xs,u,1,by rw[cT],hg,hb,by rw[cT];exact hl,hlq⟩,by rw[cT];exact z1,by rw[cT];exact hm⟩
theorem QcE {v:Value} {l:List Int} (x:RowP 1 (fun c (k:Int)=>c=[iV k]) h v l):RowV h v (isV l):=by
 rcases x with⟨rfl,a,c,rfl⟩| ⟨b,o,c,cs,e,m,h1,h2,h3,h4,h5⟩
 · exact .inl ⟨rfl,a,c,rfl⟩
 refine .inr ⟨b,o,c,cs,e,m,by rw[v0s];exact h1,h2,h3,fun i hi=>?_⟩;have aY:i <l.length:=by simpa using hi
 have:=one_at (h5 i aY);rw[v0x]at this;rw[this,List.getElem_map]
end
structure PrgTy (P:Program) (tP tStrs tCls tCl tGls tGl tFns tFn tCode tIns tCos tCo tArr tEvs tEv tSis tSi tInt tI64 tOp tStr tBool tInts tTys:Nat) (L1 L2 L3 L4 L5 L6 L7:List (Nat×Nat)):Prop where
 prg:St P tP 8 L1
 l1:L1=[(tStrs,0),(tCls,1),(tGls,2),(tFns,3),(tCos,4),(tEvs,5),(tInt,6),(tSis,7)]
 cls:St P tCl 3 L2
 l2:L2=[(tStr,0),(tStrs,1),(tTys,2)]
 fn:St P tFn 4 L3
 l3:L3=[(tStr,0),(tInt,1),(tInt,2),(tCode,3)]
 ins:St P tIns 8 L4
 l4:L4=[(tOp,0),(tInt,1),(tInt,2),(tInt,3),(tI64,4),(tInts,5),(tInt,6),(tInt,7)]
 co:St P tCo 6 L5
 l5:L5=[(tStr,0),(tInt,1),(tArr,2)]
 ev:St P tEv 4 L6
 l6:L6=[(tStr,0),(tInt,1),(tBool,2),(tInt,3)]
 si:St P tSi 2 L7
 l7:L7=[(tInt,0),(tInt,1)]
 uStrs:P.underlying tStrs=some (.slice tStr)/\P.cellsOf tStrs=1
 uCls:P.underlying tCls=some (.slice tCl)/\P.cellsOf tCls=1
 uGls:P.underlying tGls=some (.slice tGl)/\P.cellsOf tGls=1
 uFns:P.underlying tFns=some (.slice tFn)/\P.cellsOf tFns=1
 uCode:P.underlying tCode=some (.slice tIns)/\P.cellsOf tCode=1
 uCos:P.underlying tCos=some (.slice tCo)/\P.cellsOf tCos=1
 uEvs:P.underlying tEvs=some (.slice tEv)/\P.cellsOf tEvs=1
 uSis:P.underlying tSis=some (.slice tSi)/\P.cellsOf tSis=1
 uInts:P.underlying tInts=some (.slice tInt)/\P.cellsOf tInts=1
 uTys:(∃e,P.underlying tTys=some (.slice e)/\P.cellsOf e=1)/\P.cellsOf tTys=1
 uArr:P.underlying tArr=some (.array 4 tInt)/\P.cellsOf tArr=4
 uInt:P.underlying tInt=some (.int .i64)/\P.cellsOf tInt=1
 uI64:P.underlying tI64=some (.int .i64)/\P.cellsOf tI64=1
 uOp:P.underlying tOp=some (.int .i64)/\P.cellsOf tOp=1
 uStr:P.underlying tStr=some .string/\P.cellsOf tStr=1
 uBool:P.underlying tBool=some .bool/\P.cellsOf tBool=1
 bInt:P.bytesOf tInt=8
 gl:P.cellsOf tGl=2
section
variable {P:Program} {h:Hp} {cs:List Value} {tP tStrs tCls tCl tGls tGl tFns tFn tCode tIns tCos tCo tArr tEvs tEv tSis tSi tInt tI64 tOp tStr tBool tInts tTys:Nat} {L1 L2 L3 L4 L5 L6 L7:List (Nat×Nat)}
variable (Y:PrgTy P tP tStrs tCls tCl tGls tGl tFns tFn tCode tIns tCos tCo tArr tEvs tEv tSis tSi tInt tI64 tOp tStr tBool tInts tTys L1 L2 L3 L4 L5 L6 L7)
include Y
theorem PrgTy.rd_ins (x:RS P h tIns cs): ∃a,InsD h cs a:=by
 have hl:=Y.ins.len x;have hL:=Y.l4;subst hL;obtain⟨n0,e0,r0⟩:=Y3 Y.uOp.1 (Y.ins.fld x 0 (t:=tOp) (o:=0) rfl Y.uOp.2);obtain⟨n1,e1,r1⟩:=Y3 Y.uInt.1 (Y.ins.fld x 1 (t:=tInt) (o:=1) rfl Y.uInt.2);obtain⟨n2,e2,r2⟩:=Y3 Y.uInt.1 (Y.ins.fld x 2 (t:=tInt) (o:=2) rfl Y.uInt.2);obtain⟨n3,e3,r3⟩:=Y3 Y.uInt.1 (Y.ins.fld x 3 (t:=tInt) (o:=3) rfl Y.uInt.2);obtain⟨n4,e4,r4⟩:=Y3 Y.uI64.1 (Y.ins.fld x 4 (t:=tI64) (o:=4) rfl Y.uI64.2)
 obtain⟨v,l,e5,r5,z5,_⟩:=KG (D:=fun c (k:Int)=>c=[iV k]/\I64 k) Y.uInts.1 Y.uInt.2 (by omega) Y.bInt (fun cs y=>by obtain⟨k,e,r⟩:=Y3 Y.uInt.1 y;exact⟨k,e,r⟩) (Y.ins.fld x 5 (t:=tInts) (o:=5) rfl Y.uInts.2);obtain⟨n6,e6,r6⟩:=Y3 Y.uInt.1 (Y.ins.fld x 6 (t:=tInt) (o:=6) rfl Y.uInt.2);obtain⟨n7,e7,_⟩:=Y3 Y.uInt.1 (Y.ins.fld x 7 (t:=tInt) (o:=7) rfl Y.uInt.2)
 match cs,hl with
 | [c0,c1,c2,c3,c4,c5,c6,c7],_=>
   simp only[v1E,v0R,v1F,v1j,v1c.injEq,and_true]at e0 e1 e2 e3 e4 e5 e6 e7;subst e0;subst e1;subst e2;subst e3;subst e4;subst e5;subst e6;subst e7;refine⟨⟨n0,n1,n2,n3,n4,l,n6⟩,⟨c5,n7,rfl,QcE (r5.ext (.refl _) fun _ _ d=>d.1)⟩,r0,r1,r2,r3,r4,by show l.length<=_;omega,fun k hk=>?_,r6⟩;obtain⟨i,hi,rfl⟩:=v0J.1 hk;obtain⟨_,_,_,_,_,_,_,_,_,_,hd⟩:=r5.at (by have lh:i <l.length:=hi;omega);exact(hd i hi).2
theorem PrgTy.rd_fn (x:RS P h tFn cs): ∃a,FunD h cs a:=by
 have hl:=Y.fn.len x;have hL:=Y.l3;subst hL;obtain⟨s,e0⟩:=Q7v Y.uStr.1 (Y.fn.fld x 0 (t:=tStr) (o:=0) rfl Y.uStr.2);obtain⟨n1,e1,r1⟩:=Y3 Y.uInt.1 (Y.fn.fld x 1 (t:=tInt) (o:=1) rfl Y.uInt.2);obtain⟨n2,e2,r2⟩:=Y3 Y.uInt.1 (Y.fn.fld x 2 (t:=tInt) (o:=2) rfl Y.uInt.2);obtain⟨v,l,e3,r3,_,z3⟩:=KG Y.uCode.1 Y.ins.cells (by omega) rfl (fun cs y=>Y.rd_ins y) (Y.fn.fld x 3 (t:=tCode) (o:=3) rfl Y.uCode.2)
 match cs,hl with
 | [c0,c1,c2,c3],_=>
   simp only[v1E,v0R,v1F,v1j,v1c.injEq,and_true]at e0 e1 e2 e3;subst e0;subst e1;subst e2;subst e3;exact⟨⟨n1,n2,l⟩,⟨s,c3,rfl,r3⟩,r1,r2,z3⟩
theorem PrgTy.rd_cl (x:RS P h tCl cs): ∃a,ClassD cs a:=by
 have hl:=Y.cls.len x;have hL:=Y.l2;subst hL;obtain⟨s,e0⟩:=Q7v Y.uStr.1 (Y.cls.fld x 0 (t:=tStr) (o:=0) rfl Y.uStr.2);obtain⟨v1,l1,e1,r1,_,z1⟩:=KG (D:=fun c (_:Unit)=>True) Y.uStrs.1 Y.uStr.2 (by omega) rfl (fun cs y=>⟨(),trivial⟩) (Y.cls.fld x 1 (t:=tStrs) (o:=1) rfl Y.uStrs.2);obtain⟨⟨te,ue,ce⟩,ct⟩:=Y.uTys;obtain⟨v2,l2,e2,r2,_,z2⟩:=KG (D:=fun c (_:Unit)=>True) ue ce (by omega) rfl (fun cs y=>⟨(),trivial⟩) (Y.cls.fld x 2 (t:=tTys) (o:=2) rfl ct);obtain⟨a1,c1',rfl⟩:=r1.val;obtain⟨a2,c2',rfl⟩:=r2.val
 match cs,hl with
 | [c0,c1,c2],_=>
   simp only[v1E,v0R,v1F,v1j,v1c.injEq,and_true]at e0 e1 e2;subst e0;subst e1;subst e2;exact⟨(l1.length,l2.length),⟨s,a1,c1',a2,c2',rfl⟩,z1,z2⟩
theorem PrgTy.rd_co (x:RS P h tCo cs): ∃a,CompD cs a:=by
 have hl:=Y.co.len x;have hL:=Y.l5;subst hL;obtain⟨s,e0⟩:=Q7v Y.uStr.1 (Y.co.fld x 0 (t:=tStr) (o:=0) rfl Y.uStr.2);obtain⟨n1,e1,r1⟩:=Y3 Y.uInt.1 (Y.co.fld x 1 (t:=tInt) (o:=1) rfl Y.uInt.2);have x2:=(Y.co.fld x 2 (t:=tArr) (o:=2) rfl Y.uArr.2).1
 match cs,hl with
 | [c0,c1,c2,c3,c4,c5],_=>
   simp only[v1E,v0R,v1F,v1j,v1c.injEq,and_true]at e0 e1;subst e0;subst e1;have h4:=(x2.inv_array Y.uArr.1).2
   have f: ∀i,i <4-> ∃n,((([c2,c3,c4,c5]:List Value).drop (i*1)).take 1)=[iV n]/\I64 n:=fun i hi=>by
    have:=h4 i hi;rw[Y.uInt.2]at this;obtain⟨k,e,q1,q2⟩:=this.inv_int Y.uInt.1;exact⟨k,e,q1,q2⟩
   obtain⟨f0,g0,q0⟩:=f 0 (by omega);obtain⟨f1,g1,q1⟩:=f 1 (by omega);obtain⟨f2,g2,q2⟩:=f 2 (by omega);obtain⟨f3,g3,q3⟩:=f 3 (by omega);simp only[v0x,v1E,v0R,v1F,v1j,v1c.injEq,and_true]at g0 g1 g2 g3;subst g0;subst g1;subst g2;subst g3;refine⟨(n1,[f0,f1,f2,f3]),⟨s,f0,f1,f2,f3,rfl,rfl⟩,r1,fun k hk=>?_⟩;simp only[v0w,v1m,or_false]at hk;rcases hk with rfl|rfl|rfl|rfl<;>assumption
theorem PrgTy.rd_ev (x:RS P h tEv cs): ∃a,EventD cs a:=by
 have hl:=Y.ev.len x;have hL:=Y.l6;subst hL;obtain⟨s,e0⟩:=Q7v Y.uStr.1 (Y.ev.fld x 0 (t:=tStr) (o:=0) rfl Y.uStr.2);obtain⟨n1,e1,r1⟩:=Y3 Y.uInt.1 (Y.ev.fld x 1 (t:=tInt) (o:=1) rfl Y.uInt.2);obtain⟨b2,e2⟩:=Qf0 Y.uBool.1 (Y.ev.fld x 2 (t:=tBool) (o:=2) rfl Y.uBool.2);obtain⟨n3,e3,r3⟩:=Y3 Y.uInt.1 (Y.ev.fld x 3 (t:=tInt) (o:=3) rfl Y.uInt.2)
 match cs,hl with
 | [c0,c1,c2,c3],_=>
   simp only[v1E,v0R,v1F,v1j,v1c.injEq,and_true]at e0 e1 e2 e3;subst e0;subst e1;subst e2;subst e3;exact⟨(n1,n3),⟨s,b2,rfl⟩,r1,r3⟩
theorem PrgTy.rd_si (x:RS P h tSi cs): ∃a,SiteD cs a:=by
 have hl:=Y.si.len x;have hL:=Y.l7;subst hL;obtain⟨n0,e0,r0⟩:=Y3 Y.uInt.1 (Y.si.fld x 0 (t:=tInt) (o:=0) rfl Y.uInt.2);obtain⟨n1,e1,r1⟩:=Y3 Y.uInt.1 (Y.si.fld x 1 (t:=tInt) (o:=1) rfl Y.uInt.2)
 match cs,hl with
 | [c0,c1],_=>
   simp only[v1E,v0R,v1F,v1j,v1c.injEq,and_true]at e0 e1;subst e0;subst e1;exact⟨(n0,n1),rfl,r0,r1⟩
theorem PrgTy.rd (x:RS P h tP cs): ∃p lo cl gl fu co ev si,cs=Q9h p lo cl gl fu co ev si/\PrgAt h p lo cl gl fu co ev si:=by
 have hl:=Y.prg.len x;have hL:=Y.l1;subst hL;obtain⟨v0,l0,e0,r0,_,z0⟩:=KG (D:=fun c (_:Unit)=>True) Y.uStrs.1 Y.uStr.2 (by omega) rfl (fun cs y=>⟨(),trivial⟩) (Y.prg.fld x 0 (t:=tStrs) (o:=0) rfl Y.uStrs.2);obtain⟨v1,l1,e1,r1,_,z1⟩:=KG Y.uCls.1 Y.cls.cells (by omega) rfl (fun cs y=>Y.rd_cl y) (Y.prg.fld x 1 (t:=tCls) (o:=1) rfl Y.uCls.2);obtain⟨v2,l2,e2,r2,_,z2⟩:=KG (D:=fun c (_:Unit)=>True) Y.uGls.1 Y.gl (by omega) rfl (fun cs y=>⟨(),trivial⟩) (Y.prg.fld x 2 (t:=tGls) (o:=2) rfl Y.uGls.2)
 obtain⟨v3,l3,e3,r3,_,z3⟩:=KG Y.uFns.1 Y.fn.cells (by omega) rfl (fun cs y=>Y.rd_fn y) (Y.prg.fld x 3 (t:=tFns) (o:=3) rfl Y.uFns.2);obtain⟨v4,l4,e4,r4,_,z4⟩:=KG Y.uCos.1 Y.co.cells (by omega) rfl (fun cs y=>Y.rd_co y) (Y.prg.fld x 4 (t:=tCos) (o:=4) rfl Y.uCos.2);obtain⟨v5,l5,e5,r5,_,z5⟩:=KG Y.uEvs.1 Y.ev.cells (by omega) rfl (fun cs y=>Y.rd_ev y) (Y.prg.fld x 5 (t:=tEvs) (o:=5) rfl Y.uEvs.2);obtain⟨n6,e6,r6⟩:=Y3 Y.uInt.1 (Y.prg.fld x 6 (t:=tInt) (o:=6) rfl Y.uInt.2);obtain⟨v7,l7,e7,r7,_,z7⟩:=KG Y.uSis.1 Y.si.cells (by omega) rfl (fun cs y=>Y.rd_si y) (Y.prg.fld x 7 (t:=tSis) (o:=7) rfl Y.uSis.2)
 obtain⟨a0,c0',rfl⟩:=r0.val;obtain⟨a2,c2',rfl⟩:=r2.val
 match cs,hl with
 | [c0,c1,c2,c3,c4,c5,c6,c7],_=>
   simp only[v1E,v0R,v1F,v1j,v1c.injEq,and_true]at e0 e1 e2 e3 e4 e5 e6 e7;subst e0;subst e1;subst e2;subst e3;subst e4;subst e5;subst e6;subst e7;exact⟨⟨l0.length,l1,l2.length,l3,l4,l5,n6,l7⟩,_,_,_,_,_,_,_,rfl,⟨⟨a0,c0',rfl⟩,r1,⟨a2,c2',rfl⟩,r3,r4,r5,r7,r6,z0,z1,z2,z3,z4,z5,z7⟩⟩
end
end Go.May
namespace Go.Proofs.YtljpajcmdjmeaaaGreat
open Go.ChangeShapes Go.WideShapes Go.ChangeAt Go.RowKit Go.Deep Go.X Go.May Go.Mac
set_option maxRecDepth 100000
theorem Qd5:Tryz.prog.underlying 4=some .bool:=by kernel_rfl
theorem Qfv:ownKnob Tryz.prog.godebug=none:=by kernel_rfl
theorem Qd4:laidOutB Tryz.prog=true:=by kernel_rfl
theorem mod_ct:Tryz.prog.cellTypes Tryz.prog.depth 30=some [22,23,24,25,26,27,3,28]:=by kernel_rfl
theorem Qfw:Tryz.prog.cellsOf 30=8:=by kernel_rfl
theorem Qax:Tryz.prog.underlying 3=some (.int .i64):=by kernel_rfl
noncomputable def fsA (s:Nat):Array Field:=match Tryz.prog.underlying s with|some (.struct fs)=>fs|_=> #[]
theorem mod_ty:PrgTy Tryz.prog 30 22 23 148 24 275 25 73 71 76 26 151 149 27 96 28 80 3 2 74 9 4 39 146 [(22,0),(23,1),(24,2),(25,3),(26,4),(27,5),(3,6),(28,7)] [(9,0),(22,1),(146,2)] [(9,0),(3,1),(3,2),(71,3)] [(74,0),(3,1),(3,2),(3,3),(2,4),(39,5),(3,6),(3,7)] [(9,0),(3,1),(149,2)] [(9,0),(3,1),(4,2),(3,3)] [(3,0),(3,1)] where
 prg:=⟨⟨fsA 30,by kernel_rfl,by kernel_rfl⟩,by kernel_rfl⟩
 l1:=rfl
 cls:=⟨⟨fsA 148,by kernel_rfl,by kernel_rfl⟩,by kernel_rfl⟩
 l2:=rfl
 fn:=⟨⟨fsA 73,by kernel_rfl,by kernel_rfl⟩,by kernel_rfl⟩
 l3:=rfl
 ins:=⟨⟨fsA 76,by kernel_rfl,by kernel_rfl⟩,by kernel_rfl⟩
 l4:=rfl
 co:=⟨⟨fsA 151,by kernel_rfl,by kernel_rfl⟩,by kernel_rfl⟩
 l5:=rfl
 ev:=⟨⟨fsA 96,by kernel_rfl,by kernel_rfl⟩,by kernel_rfl⟩
 l6:=rfl
 si:=⟨⟨fsA 80,by kernel_rfl,by kernel_rfl⟩,by kernel_rfl⟩
 l7:=rfl
 uStrs:=⟨by kernel_rfl,by kernel_rfl⟩
 uCls:=⟨by kernel_rfl,by kernel_rfl⟩
 uGls:=⟨by kernel_rfl,by kernel_rfl⟩
 uFns:=⟨by kernel_rfl,by kernel_rfl⟩
 uCode:=⟨by kernel_rfl,by kernel_rfl⟩
 uCos:=⟨by kernel_rfl,by kernel_rfl⟩
 uEvs:=⟨by kernel_rfl,by kernel_rfl⟩
 uSis:=⟨by kernel_rfl,by kernel_rfl⟩
 uInts:=⟨by kernel_rfl,by kernel_rfl⟩
 uTys:=⟨⟨273,by kernel_rfl,by kernel_rfl⟩,by kernel_rfl⟩
 uArr:=⟨by kernel_rfl,by kernel_rfl⟩
 uInt:=⟨by kernel_rfl,by kernel_rfl⟩
 uI64:=⟨by kernel_rfl,by kernel_rfl⟩
 uOp:=⟨by kernel_rfl,by kernel_rfl⟩
 uStr:=⟨by kernel_rfl,by kernel_rfl⟩
 uBool:=⟨by kernel_rfl,by kernel_rfl⟩
 bInt:=by kernel_rfl
 gl:=by kernel_rfl
section
variable {H:Type} {enc:TypeId×Value->H} {W:World} {r:Reach} {base:Nat} {v:Value}
theorem ok_int {t:TypeId} {k:IntKind} (ht:Tryz.prog.underlying t=some (.int k)) (h:Value.okWide Tryz.prog W r base t v): ∃k' n,v=.int k' n:=by
 simp only[Value.okWide,ht,Cell.okWide]at h;cases v<;>simp only[Cell.ok,ht]at h<;>first|exact h.elim|exact⟨_,_,rfl⟩
theorem Q5k {t e:TypeId} (ht:Tryz.prog.underlying t=some (.slice e)) (h:Value.okWide Tryz.prog W r base t v):VRel (Mp.all W) v v/\Q6C v<=Q3x W:=by
 rcases Qag ht h with rfl| ⟨a,len,cap,rfl,hb⟩
 · exact⟨.nils 0 0,by simp[Q6C]⟩
 refine⟨Qc7 (w:=W) a len cap hb,?_⟩;have:=JZ W;simp only[Q6C];omega
theorem QcM {d:DataW H} {ps:List MemPlace} (aw:Value.okWide Tryz.prog W r base 30 v) (ht:DataW.Trod enc Tryz.prog W 0 (fun _=>true) true 30 v d ps) (hB: ∀n,n∈d.weights Tryz.prog 30->n<=140737488351232):
 ∃P lo cl gl fu co ev si,v=Qed P lo cl gl fu co ev si/\VRel (Mp.all W) v v/\PrgAt (Hp.all W) P lo cl gl fu co ev si:=by
 obtain⟨fs,av,_⟩:=mod_ty.prg.und;simp only[Value.okWide,av]at aw;obtain⟨cs,rfl,cO,ts,hts,_,hc⟩:=aw;rw[mod_ct,v0i.injEq]at hts;subst hts;rw[Qfw]at cO;obtain⟨cs⟩:=cs
 match cs,cO with
 | [f0,f1,f2,f3,f4,f5,f6,f7],_=>
   obtain⟨_,e0,h0⟩:=hc 0 f0 rfl;obtain⟨_,e1,h1⟩:=hc 1 f1 rfl;obtain⟨_,e2,h2⟩:=hc 2 f2 rfl;obtain⟨_,e3,h3⟩:=hc 3 f3 rfl;obtain⟨_,e4,h4⟩:=hc 4 f4 rfl;obtain⟨_,e5,h5⟩:=hc 5 f5 rfl;obtain⟨_,e6,h6⟩:=hc 6 f6 rfl;obtain⟨_,e7,h7⟩:=hc 7 f7 rfl;simp at e0 e1 e2 e3 e4 e5 e6 e7;subst e0;subst e1;subst e2;subst e3;subst e4;subst e5;subst e6;subst e7;have q0:=Q5k mod_ty.uStrs.1 (v:=f0) (by simp only[Value.okWide,mod_ty.uStrs.1];exact h0);have q1:=Q5k mod_ty.uCls.1 (v:=f1) (by simp only[Value.okWide,mod_ty.uCls.1];exact h1);have q2:=Q5k mod_ty.uGls.1 (v:=f2) (by simp only[Value.okWide,mod_ty.uGls.1];exact h2)
   have q3:=Q5k mod_ty.uFns.1 (v:=f3) (by simp only[Value.okWide,mod_ty.uFns.1];exact h3);have q4:=Q5k mod_ty.uCos.1 (v:=f4) (by simp only[Value.okWide,mod_ty.uCos.1];exact h4);have q5:=Q5k mod_ty.uEvs.1 (v:=f5) (by simp only[Value.okWide,mod_ty.uEvs.1];exact h5);have q7:=Q5k mod_ty.uSis.1 (v:=f7) (by simp only[Value.okWide,mod_ty.uSis.1];exact h7);obtain⟨k6,n6,rfl⟩:=ok_int Qax (v:=f6) (by simp only[Value.okWide,Qax];exact h6)
   have hv:VsRel (Mp.all W) [f0,f1,f2,f3,f4,f5,.int k6 n6,f7] [f0,f1,f2,f3,f4,f5,.int k6 n6,f7]:=
    .cons q0.1 (.cons q1.1 (.cons q2.1 (.cons q3.1 (.cons q4.1 (.cons q5.1 (.cons (.int _ _) (.cons q7.1 (.nil _))))))))
   obtain⟨fuel,hf⟩:=ht;have cK:(Value.agg #[f0,f1,f2,f3,f4,f5,.int k6 n6,f7]).cells.toList=[f0,f1,f2,f3,f4,f5,.int k6 n6,f7]:=rfl;have hf:DataW.trod enc Tryz.prog W 0 (fun _=>true) true fuel 30 [f0,f1,f2,f3,f4,f5,.int k6 n6,f7]=some (d,ps):=hf
   have ic: ∀v,v∈[f0,f1,f2,f3,f4,f5,.int k6 n6,f7]->Q6C v<=Q3x W:=fun v hm=>by
    simp only[v0w,v1m,or_false]at hm;rcases hm with rfl|rfl|rfl|rfl|rfl|rfl|rfl|rfl
    · exact q0.2
    · exact q1.2
    · exact q2.2
    · exact q3.2
    · exact q4.2
    · exact q5.2
    · simp[Q6C]
    exact q7.2
   have hZ:([f0,f1,f2,f3,f4,f5,.int k6 n6,f7]:List Value).map (JC (Mp.all W))=[f0,f1,f2,f3,f4,f5,.int k6 n6,f7]:=by
    simp only[v0G,v1h,Yj q0.1,Yj q1.1,Yj q2.1,Yj q3.1,Yj q4.1,Yj q5.1,Yj q7.1,Yj (.int k6 n6:VRel (Mp.all W) (.int k6 n6) (.int k6 n6))]
   have hr:=Kc fuel 30 _ _ ic hf;have hz:=J5 (B:=140737488351232) fuel 30 _ _ ic hB hf;rw[hZ]at hr hz;obtain⟨P,lo,cl,gl,fu,co,ev,si,ee,X⟩:=mod_ty.rd ⟨hr,hz⟩;simp only[Q9h,v1c.injEq,and_true]at ee;obtain⟨rfl,rfl,rfl,rfl,rfl,rfl,e6,rfl⟩:=ee;exact⟨P,_,_,_,_,_,_,_,by rw[e6],.agg' hv,X⟩
theorem ent_st:St Tryz.prog 49 3 [(47,0),(3,1),(2,2)]:=⟨⟨fsA 49,by kernel_rfl,by kernel_rfl⟩,by kernel_rfl⟩
theorem Q2z:Tryz.prog.underlying 31=some (.slice 49)/\Tryz.prog.cellsOf 49=3/\Tryz.prog.bytesOf 49=24:=⟨by kernel_rfl,by kernel_rfl,by kernel_rfl⟩
theorem Qew:Tryz.prog.underlying 47=some (.int .i64)/\Tryz.prog.cellsOf 47=1:=⟨by kernel_rfl,by kernel_rfl⟩
theorem rd_ent {h:Hp} {cs:List Value} (x:RS Tryz.prog h 49 cs): ∃a:Ent,EntD cs a:=by
 have hl:=ent_st.len x;obtain⟨n0,e0,_⟩:=Y3 Qew.1 (ent_st.fld x 0 (t:=47) (o:=0) rfl Qew.2);obtain⟨n1,e1,_⟩:=Y3 mod_ty.uInt.1 (ent_st.fld x 1 (t:=3) (o:=1) rfl mod_ty.uInt.2);obtain⟨n2,e2,_⟩:=Y3 mod_ty.uI64.1 (ent_st.fld x 2 (t:=2) (o:=2) rfl mod_ty.uI64.2)
 match cs,hl with
 | [c0,c1,c2],_=>
   simp only[v1E,v0R,v1F,v1j,v1c.injEq,and_true]at e0 e1 e2;subst e0;subst e1;subst e2;exact⟨⟨n0,n1,n2⟩,rfl⟩
theorem Qga {d:DataW H} {ps:List MemPlace} (aw:Value.okWide Tryz.prog W r base 31 v) (ht:DataW.Trod enc Tryz.prog W 0 (fun _=>true) true 31 v d ps) (hB: ∀n,n∈d.weights Tryz.prog 31->n<=140737488351232):
 ∃l:List Ent,VRel (Mp.all W) v v/\RowP 3 EntD (Hp.all W) v l:=by
 have q0:=Q5k Q2z.1 (v:=v) aw;obtain⟨fuel,hf⟩:=ht
 obtain⟨a,n,c,rfl⟩: ∃a n c,v=.slice a n c:=by
  rcases Qag Q2z.1 aw with rfl| ⟨a,len,cap,rfl,_⟩
  · exact⟨_,_,_,rfl⟩
  exact⟨_,_,_,rfl⟩
 have hf:DataW.trod enc Tryz.prog W 0 (fun _=>true) true fuel 31 [.slice a n c]=some (d,ps):=hf
 have ic: ∀v,v∈[Value.slice a n c]->Q6C v<=Q3x W:=fun v hm=>by
  rw[List.mem_singleton]at hm;subst hm;exact q0.2
 have hZ:([Value.slice a n c]:List Value).map (JC (Mp.all W))=[.slice a n c]:=by
  simp only[v0G,v1h,Yj q0.1]
 have hr:=Kc fuel 31 _ _ ic hf;have hz:=J5 (B:=140737488351232) fuel 31 _ _ ic hB hf;rw[hZ]at hr hz;obtain⟨v',l,ee,ao,_⟩:=KG Q2z.1 Q2z.2.1 (by omega) Q2z.2.2 (fun cs x=>rd_ent x) ⟨hr,hz⟩;simp only[v1c.injEq,and_true]at ee;subst ee;exact⟨l,q0.1,ao⟩
theorem Q3K {a:Assume} {C:Checked} {os:Os} {f:FuncId} {fn:Func} {s:ChangeSpec} {conds:List PathCond} {apart fresh handsOn again:Bool}
 (own:ownKnob C.prog.godebug=none) (started:os.Started) (noInit:C.prog.inits.idxOf? f=none) (hfn:C.prog.funcs[f]?=some fn)
 (witness: ∃(w:World) (tape:Tape) (i:Input),w.os=os/\(w.forCall tape i).Shaped C.prog/\i.vars=[]/\Input.okWide C.prog (w.forCall tape i) .any w.heap.size f i/\
  s.pre6 enc C.prog fn conds apart (w.forCall tape i).memory i.args/\a.holds C.prog (lone (Frame.enter C.prog f i.args .normal) [] (w.forCall tape i)))
 (contract: ∀(W:World) (base:Nat) (args:Array Value) (ds gs:List (DataW H)) (before:List MemPlace),
  (∀(j:Nat) t v,fn.params[j]?=some t->args[j]?=some v->Value.okWide C.prog W .any base t v)->
  DataW.Whole enc C.prog fn.params.toList s.vars apart W args.toList ds gs before->
  (DataW.weightsEach C.prog (fn.params.toList++s.plain.varTypes C.prog) (ds++gs)).all (· <=reachBytes)=true->
  Calls C.prog f args W fun e W'=> ∃v,e=.returned v/\s.post enc C.prog fn apart fresh handsOn again W args v W'):
 ReturnsInHanded a C os f .any (s.pre6 enc C.prog fn conds apart) (s.post enc C.prog fn apart fresh handsOn again):=by
 refine returnsInHanded_of_calls own started noInit witness ?_;intro w tape i _ _ _ aw hpre hholds;obtain⟨_,_,_,jJ,hfn',_,_,_,_,hval⟩:=aw;have e:jJ=fn:=v0i.inj (hfn'.symm.trans hfn);subst e;obtain⟨⟨ds,gs,before,hw,hc⟩,hz⟩:=hpre;have iZ:=DataW.Whole.of_heap (w':=w.forCall tape i) (by rfl) hw;refine(contract (w.forCall tape i) w.heap.size i.args ds gs before hval iZ (hz.weights hw)).mono fun e W' ⟨v,he,hp⟩=>?_;subst he;exact ChangeSpec.post_blind hp
end
end Go.Proofs.YtljpajcmdjmeaaaGreat
