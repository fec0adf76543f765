/- The walks and the laws, part Lc. Conditions: none. -/
import Derived.Test.YtljpajcmdjmeaaaGreatLb
import Derived.Test.YtljpajcmdjmeaaaGreatLa
set_option maxHeartbeats 16000000
open List renaming length_map → v0s, length_append → v0j, getElem?_eq_getElem → v0c, length_modify → v0l, getElem?_modify_eq → v2z, getElem?_append_left → v0C, length_take → v0D, take_append_drop → v00, drop_eq_getElem_cons → v1K, append_assoc → v0B, flatMap_cons → v14, length_cons → v1f, getElem?_cons_zero → v0S, set_append_right → v2y, modify_succ_cons → v07, flatMap_append → v2A, set_cons_succ → v1N, ext_getElem? → v09, getElem?_set → v18, getElem?_map → v0y, getElem?_eq_none → v02, getElem?_eq_some_iff → v0z, length_set → v0q, append_nil → v0k, map_append → v0P, mem_of_getElem? → v0m, perm_append_comm_assoc → v2t
open Nat renaming zero_le → v0t, le_refl → v0b, zero_add → v0f, add_sub_cancel → v2s, le_trans → v0p, lt_of_lt_of_le → v0u, add_mul → v1a, mul_one → v0x
open Int renaming toNat → v0g
open Option renaming some → v0i
namespace Go.Proofs.YtljpajcmdjmeaaaGreat
open Go.X Go.May Go.Mac
def acV (a:MAcc):List Value:=[iV a.site,iV a.kind,iV a.a,iV a.b,.bool a.write]
def acC (A:List MAcc):List Value:=A.flatMap acV
def TV (x:Ins) (T T':MThr):Prop:=(∃k,k≠0/\T'= {T with trap:=k})\/ ∃T1,(T1=T\/ ∃n,T1=setT T x.a n)/\T'=onT T1 0
section
variable {h0 h:Hp} {P:Prg} {V:PrV} {tb ph:Nat} {T:MThr} {w:ThW} {H:List MObj} {ae:List Nat}
theorem m88 {x:Ins} {sv:Value} {v:Value×List Nat} {ln kind lk id i n:Int} {wrt:Bool} (S0:SH h0 [] (hpR ph H ae::thL tb (pvL P V) T w) h) (hM:ZM P=true) (hw:w.vs.length=T.F.length) (hT:Kr P T) (hl:0 <T.F.length) (dx:wrt=false->0<=x.a/\x.a <(Qz P (QB T).fn).regs) (hv:w.vs[T.F.length -1]?=some v) (hs:cellV sv=true) (hH:H.length<=1024):C modE 108 [Qn tb,Qn ph,QfV x sv ln,iV kind,iV lk,iV id,iV i,.bool wrt,iV n,v.1] h fun r g'=> ∃(A:List MAcc) (ab:List Nat) (T':MThr) (H':List MObj) (ah:List Nat),A.length<=1/\TV x T T'/\H'.length<=1024/\SH h (owns (hpR ph H ae::thL tb (pvL P V) T w)) (slR 66 4 r (acC A) A.length ab::hpR ph H' ah::thL tb (pvL P V) T' w) g':=by
 have SE:=S0.enterL;have aJ:=Y8 hl;have bq:=(hT.2 _ (Y0 hl)).r;obtain⟨v1,vb⟩:=v;have gj:(thL tb (pvL P V) T w)[2+(T.F.length -1)]?=some (slR 2 0 v1 (isV (QB T).regs) (QB T).regs.length vb):=Q31 aJ hv;have kT:(hpR ph H ae::thL tb (pvL P V) T w)[2+(T.F.length -1)+1]?=some (slR 2 0 v1 (isV (QB T).regs) (QB T).regs.length vb):=gj;obtain⟨ra,rc,rfl⟩:=Qa (SE.sl _ kT);have jH:H.length<=1000000:=by omega
 refine Q9 (fu:=Tryz.f108) (by kernel_rfl) rfl ?_;have S:=SE;refine Q6 ?_;refine QV S gn rfl rfl fun b1 g aF S=>?_;have S:SH h (owns (hpR ph H ae::thL tb (pvL P V) T w)) (bxR b1 x sv ln::hpR ph H ae::thL tb (pvL P V) T w) g:=S;refine I2 rfl<|Z5<|I1 rfl<|I1 rfl<|I1 rfl<|Ic [_,_,_] rfl rfl (Qm (m89 (S.res 1 rfl) jH) ⟨ag0,?_⟩);refine Ib rfl<|Q0<|Q3 rfl (fun hb=>?_) fun hb=>?_
 · skip
   refine Q6<|I1 rfl<|I6 rfl<|I0 9 rfl ?_;refine Qj 2 S gn rfl rfl rfl (by kernel_rfl) rfl (by decide) (by simp) (fun g S=>ag0) fun g S=>?_;refine QG<|I2 rfl<|Q0<|Q8 ⟨.inl rfl,_,rfl,⟨[],[],{T with trap:=1},H,ae,v0t _,.inl ⟨1,by decide,rfl⟩,hH,SH.nilSl S.drop 66 4⟩⟩
 refine Q4<|Q5<|Q6<|I1 rfl<|Il rfl rfl<|I1 rfl ?_
 refine QS (n:=5) rfl rfl rfl gn rfl (fun hb=>by
  refine D1 hb rfl<|D1 hb rfl<|D1 hb rfl<|Dc hb [_,_] rfl rfl (Qm (m90 (S.res 1 rfl) jH) ⟨ag0,?_⟩);refine Dh hb rfl rfl ?_
  exact Q0 ⟨rfl,rfl,5,rfl,rfl⟩) ?_
 refine Q0<|Q3 rfl (fun hb=>?_) fun hb=>?_
 · skip
   refine Q6<|I1 rfl<|I6 rfl<|I0 9 rfl ?_;refine Qj 2 S gn rfl rfl rfl (by kernel_rfl) rfl (by decide) (by simp) (fun g S=>ag0) fun g S=>?_;refine Q0<|ZH [] (fun lv hh=> ∃k:Int,lv=[]/\k≠0/\SH h (owns (hpR ph H ae::thL tb (pvL P V) T w)) (bxR b1 x sv ln::hpR ph H ae::thL tb (pvL P V) {T with trap:=k} w) hh) ?_ fun lv hh hJ=>?_
   · skip
     refine Q6<|I1 rfl<|Ie rfl rfl<|Q0<|Q3 rfl (fun hb=>?_) fun hb=>?_
     · skip
       refine Q2 (by kernel_rfl)<|I1 rfl<|I6 rfl<|I0 9 rfl ?_;refine Qj 2 S gn rfl rfl rfl (by kernel_rfl) rfl (by decide) (by simp) (fun g S=>ag0) fun g S=>?_;refine Q0 ?_;exact Zu [] (p:=⟨2,rfl,by decide,S⟩)
     refine Q4 ?_;exact Zu [] (p:=⟨1,rfl,by decide,S⟩)
   obtain⟨k,rfl,hk,S⟩:=hJ;refine Q6<|I2 rfl<|Q0<|Q8 ⟨.inl rfl,_,rfl,⟨[],[],{T with trap:=k},H,ae,v0t _,.inl ⟨k,hk,rfl⟩,hH,SH.nilSl S.drop 66 4⟩⟩
 refine Q4<|ZH [(0,Qn tb),(4,iV lk),(5,iV id),(6,iV i),(7,.bool wrt),(12,Qn b1)] (fun lv hh=> ∃(T1:MThr) (H':List MObj) (ah:List Nat),lv=[]/\(T1=T\/ ∃n,T1=setT T x.a n)/\H'.length<=1024/\SH h (owns (hpR ph H ae::thL tb (pvL P V) T w)) (bxR b1 x sv ln::hpR ph H' ah::thL tb (pvL P V) T1 w) hh) ?_ fun lv hh hJ=>?_
 · skip
   refine Q6<|I1 rfl<|Q0<|Q3 rfl (fun hb=>?_) fun hb=>?_
   · skip
     refine Q2 (by kernel_rfl)<|I1 rfl<|I1 rfl<|I1 rfl<|I1 rfl<|Ic [_,_,_,_] rfl rfl (C.mono (m100 (SH.sub1 S0 S0.own0L S 1 rfl) jH) ?_);rintro v g ⟨rfl,ah,S2⟩;have S:=S.ret 1 rfl S2;refine⟨ag0,?_⟩;refine Q0 ?_;exact Zu [] (p:=⟨T,_,ah,rfl,.inl rfl,Qcz hH,S⟩)
   refine ZZ [(0,[]),(1,[]),(2,[]),(3,[]),(4,[]),(5,[]),(6,[2]),(7,[]),(8,[]),(9,[]),(10,[]),(11,[])] (by kernel_rfl) (by kernel_rfl) (by kernel_rfl) (by kernel_rfl) ?_;have ha:=dx hb
   have ha':0<=x.a/\x.a <((isV (QB T).regs).length:Nat):=by
    rw[v0s,bq];exact ha
   have aK:(bxR b1 x sv ln::hpR ph H ae::thL tb (pvL P V) T w)[2+(T.F.length -1)+1+1]?=some (slR 2 0 (.slice ra (QB T).regs.length rc) (isV (QB T).regs) (QB T).regs.length vb):=gj;obtain⟨b2,cJ,m2,rfl,dM,k2⟩:=Q2N (a:=x.a) (S.sl _ aK) ha.1 (by rw[bq];exact ha.2);refine I1 rfl<|I0 1 rfl<|I4 rfl (S.cel 0 rfl) rfl<|I1 rfl<|I1 rfl<|I1 rfl<|Ic [_,_,_] rfl rfl (Qm (m101 (S.res 1 rfl) jH) ⟨(ag1 (Yg gn rfl (by kernel_rfl) (S.cel 0 rfl) rfl rfl Q1C) ag0),?_⟩);refine I1 rfl<|Ix rfl rfl<|Ix rfl rfl<|I5o 1 rfl rfl ?_
   refine Zq (2+(T.F.length -1)+1+1) S gn rfl rfl rfl (by kernel_rfl) aK rfl (by omega) (fun g S=>ag0) fun g S=>?_;refine Q0 ?_
   exact Zu [] (p:=⟨setT T x.a (getV H id i),H,ae,rfl,.inr ⟨_,rfl⟩,hH,by
    have S2:SH h (owns (hpR ph H ae::thL tb (pvL P V) T w)) (bxR b1 x sv ln::hpR ph H ae::(thL tb (pvL P V) T w).set (2+(T.F.length -1)) (slR 2 0 _ ((isV (QB T).regs).set (0+x.a.toNat*1) (iV (getV H id i))) _ vb)) g:=S;rw[Q1S aJ hv]at S2
    exact S2⟩)
 obtain⟨T1,H',ah,rfl,cC,kl,S⟩:=hJ
 have bQ:Kr P T1/\T1.F.length=T.F.length:=by
  rcases cC with rfl| ⟨n,rfl⟩
  · exact⟨hT,rfl⟩
  exact Q01 hT
 have S3:SH h (owns (hpR ph H ae::thL tb (pvL P V) T w)) (thL tb (pvL P V) T1 w++[bxR b1 x sv ln,hpR ph H' ah]) hh:=SH.comm (A:=[_,_]) S;refine Q6<|I1 rfl ?_;refine QZ [_,_] gn rfl rfl (by kernel_rfl) rfl (C.mono (m91 (k:=0) (P:=P) (V:=V) (T:=T1) (w:=w) (h0:=h0) (SH.subL S0 S0.own0L S3) (by rw[bQ.2];exact hw) bQ.1 (by omega) (fun y hy=>(KA hM (bQ.1.2 y hy)).1)) ?_);intro v g S2;have S:=SH.comm (B:=[_,_]) (SH.retL S3 S2);refine⟨ag0,?_⟩;refine QG<|I0 6 rfl<|I4 rfl (S.cel 0 rfl) rfl<|I1 rfl<|I1 rfl<|I1 rfl ?_
 refine Qs (cs:= #[iV lk,iV id,iV i]) (zv:=.agg #[iV 0,iV 0,iV 0]) (pl:=[(0,1),(1,1),(2,1)]) [(0,_),(1,_),(2,_)] gn rfl (by kernel_rfl) (by kernel_rfl) rfl (by kernel_rfl)<|I1 rfl<|Qs (cs:= #[iV x.site,iV lk,iV id,iV i,.bool wrt]) (zv:=.agg #[iV 0,iV 0,iV 0,iV 0,.bool false]) (pl:=[(0,1),(1,3),(4,1)]) [(0,_),(1,_),(2,_)] gn rfl (by kernel_rfl) (by kernel_rfl) rfl (by kernel_rfl) ?_
 refine Qd (cs:= #[iV x.site,iV lk,iV id,iV i,.bool wrt]) (e:=66) (z:=4) (zv:=.agg #[iV 0,iV 0,iV 0,iV 0,.bool false]) [(0,_)] S gn rfl (by kernel_rfl) (by kernel_rfl) (by kernel_rfl) (by kernel_rfl) rfl (by kernel_rfl) fun b2 g bL S=>?_;refine I2 rfl<|Q0<|Q8 ?_;refine⟨.inl rfl,_,rfl,?_⟩
 exact⟨[⟨x.site,lk,id,i,wrt⟩],[b2],onT T1 0,H',ah,v0b _,.inr ⟨T1,cC,rfl⟩,kl,by
  have S:=S.toSl (z:=4) (n:=1) 0 rfl (.inl rfl) rfl
  exact SH.drop (SH.swap S)⟩
end
section
variable {h:Hp} {hb:Nat} {H:List MObj} {oa:Option Addr} {oc:Nat} {w:HpW} {id k:Int}
theorem Q4f (e:isO H id k=true):hasB H id=true:=by
 unfold isO at e;rw[Bool.and_eq_true]at e;exact e.1
theorem HpG.at (G:HpG h hb H oa oc w) (e:hasB H id=true): ∃b cs m va vc vb,oa=some ⟨b,0,none⟩/\h.get b=some (.cells cs 233 m)/\cs[0+v0g (id -1)*6+1]?=some (iV (QT H id).of)/\cs[0+v0g (id -1)*6+2]?=some (.slice va (QT H id).vals.length vc)/\SlC 2 0 h (.slice va (QT H id).vals.length vc) (isV (QT H id).vals) (QT H id).vals.length vb/\1<=id/\id<=H.length:=by
 obtain⟨j,o,bU,hj,ho,bK⟩:=Q3j e;obtain⟨b,cs,m,v,vb,cQ,hg,hv,hc,hl,bH⟩:=G.obj hj;obtain⟨va,vc,rfl⟩:=Qa bH;rw[ho,show v0g (id -1)=j by omega,v0f];exact⟨b,cs,m,va,vc,vb,cQ,hg,Qv hc (by omega) rfl,Qv hc (by omega) rfl,bH,by omega,by omega⟩
def TC (P:Prg) (T T':MThr):Prop:=(∃k,k≠0/\T'= {T with trap:=k})\/ ∃(f:Int) (cells:List Int),0<=f/\f <P.funs.length/\(cells.length:Int)<=(Qz P f).regs/\T.F.length <32/\T'=onT {T with F:=T.F++[Ye P f cells]} 1
theorem Q7a {P:Prg} {T:MThr} {f:Int} {cells:List Int} (hM:ZM P=true) (hT:Kr P T) (f0:0<=f) (f1:f <P.funs.length) (hc:(cells.length:Int)<=(Qz P f).regs) (hl:T.F.length <32):Kr P {T with F:=T.F++[Ye P f cells]}:=by
 refine⟨by simp;omega,fun x hx=>?_⟩;rcases List.mem_append.1 hx with hx|hx
 · exact hT.2 x hx
 rw[List.mem_singleton]at hx;subst hx;have:=Yz hM f0 f1;refine⟨f0,f1,Int.le_refl _,by show(0:Int)<_;show(0:Int)<((Qz P f).code.length:Nat);omega,?_⟩;show((cells++List.replicate ((Qz P f).regs.toNat -cells.length) 0).length:Int)=(Qz P f).regs;simp;omega
end
section
variable {h0 h:Hp} {P:Prg} {V:PrV} {tb ph:Nat} {T:MThr} {w:ThW} {H:List MObj} {ae:List Nat}
theorem m92 {id:Int} (S0:SH h0 [] (hpR ph H ae::thL tb (pvL P V) T w) h) (X0:Q1r h0 P V) (hM:ZM P=true) (hw:w.vs.length=T.F.length) (hT:Kr P T) (hl:0 <T.F.length) (hH:H.length<=1024):C modE 112 [Qn tb,Qn ph,iV id] h fun _ g'=> ∃(T':MThr) (w':ThW),w'.vs.length=T'.F.length/\TC P T T'/\SH h (owns (hpR ph H ae::thL tb (pvL P V) T w)) (hpR ph H ae::thL tb (pvL P V) T' w') g':=by
 have SE:=S0.enterL;obtain⟨fv,fb,vs⟩:=w;obtain⟨fa,fc,fU⟩:=Qa (SE.sl 2 rfl);have fU:fv=.slice fa T.F.length fc:=fU;subst fU;have hw:vs.length=T.F.length:=hw;have jH:H.length<=1000000:=by omega
 have h32:=hT.1;obtain⟨oa,oc,w,G⟩:=Q2p (SE.res 0 rfl);have X:Q1r h P V:=X0.ext (S0.all0 S0.own0L SE);obtain⟨_,_,_,⟨fua,fuc,iz⟩,_⟩:=X.vals;refine Q9 (fu:=Tryz.f112) (by kernel_rfl) rfl ?_;have S:=SE;refine Q5<|Q5<|I9<|I1 rfl<|I1 rfl<|Ic [_,_,_] rfl rfl (Qm (m89 (S.res 0 rfl) jH) ⟨ag0,?_⟩);refine Ib rfl<|I1 rfl ?_
 refine QS (n:=17) rfl rfl rfl gn rfl (fun hb=>by
  have fG:isO H id 4=true:=by simpa using hb
  obtain⟨b,cs,m,va,vc,vb,cQ,hg,k1,k2,bH,i0,i1⟩:=G.at (Q4f fG);refine D1 hb rfl<|D6 hb rfl<|D0 0 hb rfl<|D4 hb rfl G.cel rfl<|D1 hb rfl<|Dso hb rfl rfl ?_;rw[cQ];refine D5o 6 hb rfl rfl ?_;rw[<-cQ];refine D0 1 hb rfl<|D4 hb rfl hg k1<|D1 hb rfl<|D6 hb rfl<|D0 0 hb rfl<|D0 3 hb rfl<|D4 hb rfl (S.cel 1 rfl) rfl ?_;rw[iz];refine D7 hb rfl ?_;rw[<-iz];refine Dc hb [_,_] rfl rfl (Qm (c18) ⟨ag0,?_⟩);refine Db hb rfl ?_
  exact Q0 ⟨rfl,rfl,17,rfl,rfl⟩) ?_
 refine I1 rfl ?_
 refine QS (n:=28) rfl rfl rfl gn rfl (fun hb=>by
  have cq:isO H id 4=true/\inB (QT H id).of P.funs.length=true:=by simpa using hb
  obtain⟨b,cs,m,va,vc,vb,cQ,hg,k1,k2,bH,i0,i1⟩:=G.at (Q4f cq.1);obtain⟨f0,f1⟩:=Zb.1 cq.2;obtain⟨fb',fo',fc',fcs,fe,fm,da,gF,fV,hfn,s,cv,iA,fp⟩:=PrgAt.fun X f0 f1;have kf:fcs[fo'+v0g (QT H id).of*4+1]?=some (iV (Qz P (QT H id).of).caps):=Qv iA (by omega) rfl;refine D1 hb rfl<|D6 hb rfl<|D0 0 hb rfl<|D4 hb rfl G.cel rfl<|D1 hb rfl<|Dso hb rfl rfl ?_;rw[cQ];refine D5o 6 hb rfl rfl ?_;rw[<-cQ];refine D0 2 hb rfl<|D4 hb rfl hg k2<|D7 hb rfl<|D1 hb rfl<|D6 hb rfl<|D0 0 hb rfl<|D0 3 hb rfl ?_
  refine D4 hb rfl (S.cel 1 rfl) rfl<|D1 hb rfl<|D6 hb rfl<|D0 0 hb rfl<|D4 hb rfl G.cel rfl<|D1 hb rfl<|Dso hb rfl rfl ?_;rw[cQ];refine D5o 6 hb rfl rfl ?_;rw[<-cQ];refine D0 1 hb rfl<|D4 hb rfl hg k1 ?_;rw[da];refine D5o 4 hb rfl rfl ?_;rw[<-da];refine D0 1 hb rfl<|D4 hb rfl gF kf<|Dn hb rfl rfl ?_
  exact Q0 ⟨rfl,rfl,28,rfl,rfl⟩) ?_
 refine Q0<|Q3 rfl (fun hb=>?_) fun hb=>?_
 · skip
   refine Q6<|I1 rfl<|I6 rfl<|I0 9 rfl ?_;refine Qj 1 S gn rfl rfl rfl (by kernel_rfl) rfl (by decide) (by simp) (fun g S=>ag0) fun g S=>?_;refine Q0<|Q8 ⟨.inl rfl,_,rfl,⟨{T with trap:=1},_,hw,.inl ⟨1,by decide,rfl⟩,S⟩⟩
 refine Q4<|Q5<|Q6 ?_;have cq:(isO H id 4=true/\inB (QT H id).of P.funs.length=true)/\((QT H id).vals.length:Int)=(Qz P (QT H id).of).caps:=by simpa using hb
 obtain⟨⟨fG,hinO⟩,oe⟩:=cq;obtain⟨b,cs,m,va,vc,vb,rfl,hg,k1,k2,bH,i0,i1⟩:=G.at (Q4f fG);obtain⟨f0,f1⟩:=Zb.1 hinO;have ck:=Yz hM f0 f1;refine I1 rfl<|I6 rfl<|I0 8 rfl<|I4 rfl (S.cel 1 rfl) rfl<|I7 rfl<|Ih rfl rfl<|Q0<|Q3 rfl (fun hb=>?_) fun hb=>?_
 · skip
   refine Q6<|I1 rfl<|I6 rfl<|I0 9 rfl ?_;refine Qj 1 S gn rfl rfl rfl (by kernel_rfl) rfl (by decide) (by simp) (fun g S=>ag0) fun g S=>?_;refine Q0<|Q8 ⟨.inl rfl,_,rfl,⟨{T with trap:=4},_,hw,.inl ⟨4,by decide,rfl⟩,S⟩⟩
 refine Q4<|Q5<|ZZ [(0,[]),(1,[]),(2,[]),(3,[]),(4,[]),(5,[]),(6,[]),(7,[]),(8,[]),(9,[]),(10,[]),(11,[]),(12,[]),(13,[]),(14,[]),(15,[]),(16,[]),(17,[]),(18,[]),(19,[]),(20,[]),(21,[]),(22,[]),(23,[]),(24,[]),(25,[]),(26,[]),(27,[4]),(28,[]),(29,[]),(30,[]),(31,[]),(32,[])] (by kernel_rfl) (by kernel_rfl) (by kernel_rfl) (by kernel_rfl) ?_;have nB:T.F.length <32:=by simp at hb;omega
 refine I1 rfl<|I1 rfl<|I6 rfl<|I0 8 rfl<|I4 rfl (S.cel 1 rfl) rfl<|I1 rfl<|I6 rfl<|I0 0 rfl<|I3 8 rfl (S.cel 1 rfl) (by simp)<|I1 rfl<|I6 rfl<|I0 0 rfl<|I4 rfl G.cel rfl<|I1 rfl<|Iso rfl rfl<|I5o 6 rfl rfl ?_;refine I0 1 rfl<|I4 rfl hg k1<|I1 rfl<|I6 rfl<|I0 0 rfl<|I4 rfl G.cel rfl<|I1 rfl<|Iso rfl rfl<|I5o 6 rfl rfl<|I0 2 rfl<|I4 rfl hg k2<|Ic [_,_,_] rfl rfl (C.mono (m70 X hM f0 f1 bH.row (by omega)) ?_)
 rintro v g ⟨rv,rb,rfl,S2⟩;have S:=SH.retL (A:=[]) S S2;obtain⟨ra,rc,rfl⟩:=Qa (S.sl 0 rfl);refine⟨(ag1 (Yg gn rfl (by kernel_rfl) (S.cel 2 rfl) rfl rfl Ya) ag0),?_⟩;refine Qd (cs:= #[iV (QT H id).of,iV 0,.slice ra (Ye P (QT H id).of (QT H id).vals).regs.length rc]) (e:=192) (z:=2) (zv:=.agg #[iV 0,iV 0,.slice none 0 0]) [(0,_)] S gn rfl (by kernel_rfl) (by kernel_rfl) (by kernel_rfl) (by kernel_rfl) rfl (by kernel_rfl) fun b1 g aF S=>?_;refine QD (e:=192) (z:=2) (by':=39) 4 0 S el162 gn rfl rfl rfl rfl rfl rfl (by rfl) (by omega) (fun s' aa g S=>ag0) fun s' aa g S=>?_;have bR:cellV s'=true:=(S.sl 4 rfl).cellV;refine I6 rfl ?_
 refine I0 8 rfl ?_;refine Qj 3 S gn rfl rfl bR (by kernel_rfl) rfl (by decide) (by simp) (fun g S=>ag0) fun g S=>?_;have S2:SH h (owns (hpR ph H ae::thL tb (pvL P V) T ⟨.slice fa T.F.length fc,fb,vs⟩)) ([slR 2 0 (.slice ra (Ye P (QT H id).of (QT H id).vals).regs.length rc) (isV (Ye P (QT H id).of (QT H id).vals).regs) (Ye P (QT H id).of (QT H id).vals).regs.length rb]++(hpR ph H ae::cR tb (.cells (pvL P V++[s',iV T.trap]) 196 0)::slR 192 2 s' (frC T.F vs++[iV (QT H id).of,iV 0,.slice ra (Ye P (QT H id).of (QT H id).vals).regs.length rc]) (T.F.length+1) aa::frP T.F vs)) g:=S.drop;have cC:=Q7a (cells:=(QT H id).vals) hM hT f0 f1 (by omega) nB
 have cz:(vs++[(Value.slice ra (Ye P (QT H id).of (QT H id).vals).regs.length rc,rb)]).length=(T.F++[Ye P (QT H id).of (QT H id).vals]).length:=by simp[hw]
 have S3:SH h (owns (hpR ph H ae::thL tb (pvL P V) T ⟨.slice fa T.F.length fc,fb,vs⟩)) (thL tb (pvL P V) {T with F:=T.F++[Ye P (QT H id).of (QT H id).vals]} ⟨s',aa,vs++[(.slice ra (Ye P (QT H id).of (QT H id).vals).regs.length rc,rb)]⟩++[hpR ph H ae]) g:=by
  have S3a:=SH.comm (A:=[_]) S2;have S3b:SH h (owns (hpR ph H ae::thL tb (pvL P V) T ⟨.slice fa T.F.length fc,fb,vs⟩)) ([hpR ph H ae]++((cR tb (.cells (pvL P V++[s',iV T.trap]) 196 0)::slR 192 2 s' (frC T.F vs++[iV (QT H id).of,iV 0,.slice ra (Ye P (QT H id).of (QT H id).vals).regs.length rc]) (T.F.length+1) aa::frP T.F vs)++[slR 2 0 (.slice ra (Ye P (QT H id).of (QT H id).vals).regs.length rc) (isV (Ye P (QT H id).of (QT H id).vals).regs) (Ye P (QT H id).of (QT H id).vals).regs.length rb])) g:=S3a;have S3:=SH.comm S3b;unfold thL
  show SH h _ (cR tb (.cells (pvL P V++[s',iV T.trap]) 196 0)::slR 192 2 s' (frC (T.F++[Ye P (QT H id).of (QT H id).vals]) (vs++[(.slice ra (Ye P (QT H id).of (QT H id).vals).regs.length rc,rb)])) (T.F++[Ye P (QT H id).of (QT H id).vals]).length aa::frP (T.F++[Ye P (QT H id).of (QT H id).vals]) (vs++[(.slice ra (Ye P (QT H id).of (QT H id).vals).regs.length rc,rb)])++[hpR ph H ae]) g;rw[Q89 _ _ _ _ hw,Q4m _ _ _ _ hw,v0j];exact S3
 refine Q0<|Q2 (by kernel_rfl)<|I1 rfl ?_;refine QZ [_,_] gn rfl rfl (by kernel_rfl) rfl (C.mono (m91 (k:=1) (P:=P) (V:=V) (T:= {T with F:=T.F++[Ye P (QT H id).of (QT H id).vals]}) (w:=⟨s',aa,vs++[(.slice ra (Ye P (QT H id).of (QT H id).vals).regs.length rc,rb)]⟩) (h0:=h0) (SH.subL S0 S0.own0L S3) cz cC (by simp;omega) (fun y hy=>(KA hM (cC.2 y hy)).1)) ?_);intro v g S4;have S:=SH.comm (B:=[_]) (SH.retL S3 S4);refine⟨ag0,?_⟩;refine Q0 ?_;refine⟨.inr rfl,_,rfl,?_⟩
 exact⟨onT {T with F:=T.F++[Ye P (QT H id).of (QT H id).vals]} 1,⟨s',aa,vs++[(Value.slice ra (Ye P (QT H id).of (QT H id).vals).regs.length rc,rb)]⟩,by unfold onT;show _=(QfZ _ _).length;rw[Q4j];exact cz,.inr ⟨(QT H id).of,(QT H id).vals,f0,f1,by omega,nB,rfl⟩,S⟩
end
section
variable {P:Prg} {T T':MThr} {x:Ins}
theorem QaB {f:Int} (hM:ZM P=true) (h0:0<=f) (h1:f <P.funs.length):Q48 (Qz P f)=true:=by
 have hj:f.toNat <P.funs.length:=by omega
 have e1:P.funs[f.toNat]=Qz P f:=by
  have:=Jg h0 h1;rw[v0c hj]at this;exact v0i.inj this
 cases hh:Q48 (Qz P f)with
 |true=>rfl
 |false=>rw[<-e1]at hh;rw[Q7Q hj hh]at hM;cases hM
theorem at_ok {y:MFrm} (hM:ZM P=true) (ok:FrOk P y) (h1:(Q13 P y.fn y.at').op≠31) (h2:(Q13 P y.fn y.at').op≠33):y.at'+1 <(Qz P y.fn).code.length:=by
 have a0:=ok.a0;have a1:=ok.a1;refine Classical.byContradiction fun hc=>?_;have hl:=QaB hM ok.f0 ok.f1;unfold Q48 at hl;rw[last_at (by omega)]at hl
 have e:(Qz P y.fn).code[(Qz P y.fn).code.length -1]'(by omega)=Q13 P y.fn y.at':=by
  have:=Q4i ok;rw[v0c (by omega)]at this;have:=v0i.inj this;rw[<-this]
  congr 1;omega
 rw[e]at hl;simp only[Bool.or_eq_true,decide_eq_true_eq]at hl;exact hl.elim h2 h1
theorem Qem {k:Nat} {f:MFrm->MFrm} (hT:Kr P T) (hf: ∀y,T.F[k]?=some y->FrOk P y->FrOk P (f y)):Kr P {T with F:=T.F.modify k f}:=by
 refine⟨by show(T.F.modify k f).length<=32;rw[v0l];exact hT.1,fun y hy=>?_⟩;have hy:y∈T.F.modify k f:=hy;obtain⟨i,hi,rfl⟩:=List.mem_iff_getElem.1 hy;have aY:i <T.F.length:=by rw[v0l]at hi;exact hi
 have k':=hT.2 _ (List.getElem_mem aY);rw[List.getElem_modify]
 split
 · rename_i e;subst e;exact hf _ (v0c aY) k'
 exact k'
theorem Qfg {y:MFrm} {a:Nat} (hT:Kr P T) (hy:T.F[T.F.length -1 -a]?=some y) (h:y.at'+1 <(Qz P y.fn).code.length):Kr P (onT T a):=by
 refine Qem hT fun z hz ok=>?_;rw[hy]at hz;cases hz;have:=ok.a0;exact⟨ok.f0,ok.f1,by show 0<=y.at'+1;omega,h,ok.r⟩
theorem Qc5 {k:Nat} {n:Int} {y:MFrm} (hT:Kr P T) (hy:T.F[k]?=some y) (h0:0<=n) (h:n <(Qz P y.fn).code.length):Kr P {T with F:=atF T.F k n}:=by
 refine Qem hT fun z hz ok=>?_;rw[hy]at hz;cases hz;exact⟨ok.f0,ok.f1,h0,h,ok.r⟩
theorem QeU {a n:Int} (hl:0 <T.F.length):(setT T a n).F[(setT T a n).F.length -1]?=some {QB T with regs:=(QB T).regs.set a.toNat n}:=by
 show(Q37 T.F (T.F.length -1) a n)[(Q37 T.F (T.F.length -1) a n).length -1]?=_;rw[Q7A];unfold Q37;rw[v2z,Y8 hl];rfl
structure OnH (P:Prg) (T:MThr):Prop where
 m:ZM P=true
 t:Kr P T
 l:0 <T.F.length
 o1:(Qb P T).op≠31
 o2:(Qb P T).op≠33
theorem OnH.at (h:OnH P T):(QB T).at'+1 <(Qz P (QB T).fn).code.length:=at_ok h.m (h.t.2 _ (Y0 h.l)) h.o1 h.o2
theorem OnH.on0 (h:OnH P T):Kr P (onT T 0):=Qfg h.t (Y8 h.l) h.at
theorem OnH.on1 {a n:Int} (h:OnH P T):Kr P (onT (setT T a n) 0):=Qfg (Q01 h.t).1 (QeU h.l) h.at
theorem Q2b {a:Nat}:(onT T a).F.length=T.F.length:=Q4j _ _
theorem Q9d (h:OnH P T) (hv:TV x T T'):Kr P T'/\T'.F.length=T.F.length:=by
 rcases hv with⟨k,_,rfl⟩| ⟨T1,h1,rfl⟩
 · exact⟨h.t,rfl⟩
 rcases h1 with rfl| ⟨n,rfl⟩
 · exact⟨h.on0,Q2b⟩
 exact⟨h.on1,by rw[Q2b];exact(Q01 h.t).2⟩
theorem TS_ok (h:OnH P T) (hv:TS x T T'):Kr P T'/\T'.F.length=T.F.length:=by
 rcases hv with rfl| ⟨k,_,rfl⟩| ⟨n,rfl⟩
 · exact⟨h.t,rfl⟩
 · exact⟨h.t,rfl⟩
 exact⟨h.on1,by rw[Q2b];exact(Q01 h.t).2⟩
theorem TC_ok (h:OnH P T) (hv:TC P T T'):Kr P T':=by
 rcases hv with⟨k,_,rfl⟩| ⟨f,cells,f0,f1,hc,hl,rfl⟩
 · exact h.t
 refine Qfg (y:=QB T) (Q7a h.m h.t f0 f1 hc hl) ?_ h.at;show(T.F++[_])[(T.F++[Ye P f cells]).length -1 -1]?=_;rw[v0j,List.length_singleton,v2s,v0C (by have:=h.l;omega)];exact Y8 h.l
theorem QcG {it:Int} (h:OnH P T):Kr P (Q6D x T it)/\(Q6D x T it).F.length=T.F.length:=by
 cases e:ZV x (QB T).regs it with
 |none=>rw[Q0M e];exact⟨h.t,rfl⟩
 |some n=>rw[Q38 e];exact⟨h.on1,by rw[Q2b];exact(Q01 h.t).2⟩
theorem pop_ok (hT:Kr P T):Kr P {T with F:=T.F.take (T.F.length -1)}:=
 ⟨v0p (by show(T.F.take _).length<=_;rw[v0D];omega) hT.1,fun y hy=>hT.2 y (List.mem_of_mem_take hy)⟩
theorem Q1I {F:Fun} (hi:Z2 P F x=true) (ho:x.op=31\/x.op=32):0<=x.n/\x.n <F.code.length:=by
 have hn:=Q0i hi;unfold Q1j at hn;rw[if_neg (by omega),if_neg (by omega),if_neg (by omega),if_neg (by omega),if_neg (by omega),if_neg (by omega),if_pos ho]at hn;exact Zb.1 hn
end
section
variable {h0 h:Hp} {ds:List Nat} {A B:List Res} {tb:Nat} {pv:List Value} {T:MThr}
theorem Q1B {w:ThW} (S:SH h0 ds (A++thL tb pv T w) h) (hw:w.vs.length=T.F.length): ∃aa,SH h0 ds (A++[thR tb pv T aa]) h:=⟨_,KF S ⟨w,hw,rfl⟩⟩
theorem Q06 {ra:Option Addr} {n c:Nat} {R:List Int} {vb:List Nat} (x:SlC 2 0 h (.slice ra n c) (isV R) R.length vb) (hp:0 <R.length): ∃b cs m,ra=some ⟨b,0,none⟩/\h.get b=some (.cells cs 2 m)/\ ∀a:Int,0<=a->a <R.length->cs[0+v0g a*1]?=some (iV (reg R a)):=by
 obtain⟨b,cs,m,rfl,hg,_⟩:=Q2N x (Int.le_refl 0) (by omega);refine⟨b,cs,m,rfl,hg,fun a h0 h1=>?_⟩;obtain⟨b',cs',m',e,iy,hc⟩:=Q2N x h0 h1;cases e;rw[hg]at iy;cases iy;exact hc
theorem Q88: ∀(l:List MFrm) (c:List (Value×List Nat)) (k:Nat),c.length=l.length->(frC l c).take (k*3)=frC (l.take k) (c.take k)
 | [],[],k,_=>by simp[frC]
 | [],_::_,_,h=>by simp at h
 |_::_,[],_,h=>by simp at h
 |o::l,v::c,0,_=>by simp[frC]
 | o::l,v::c,k+1,h=>by
   show([iV o.fn,iV o.at',v.1]++frC l c).take ((k+1)*3)=[iV o.fn,iV o.at',v.1]++frC (l.take k) (c.take k);rw[<-Q88 l c k (by simpa using h),show(k+1)*3=3+k*3 by omega,List.take_append];have:([iV o.fn,iV o.at',v.1]:List Value).length=3:=rfl;rw[this,Nat.add_sub_cancel_left,List.take_of_length_le (by rw[this];omega)]
theorem th_pop {b c:Nat} {fb:List Nat} {vs:List (Value×List Nat)} (hw:vs.length=T.F.length) (hl:0 <T.F.length) (S:SH h0 ds (cR tb (.cells (pv++[.slice (some ⟨b,0,none⟩) (T.F.length -1) c,iV T.trap]) 196 0)::slR 192 2 (.slice (some ⟨b,0,none⟩) T.F.length c) (frC T.F vs) T.F.length fb::(frP T.F vs++B)) h):SH h0 ds (thL tb pv {T with F:=T.F.take (T.F.length -1)} ⟨.slice (some ⟨b,0,none⟩) (T.F.length -1) c,fb,vs.take (T.F.length -1)⟩++B) h:=by
 have x:=S.sl 1 rfl;have x':=x.first (k:=T.F.length -1) (by omega)
 rw[Q88 _ _ _ hw]at x';have S1:=S.upd (r':=slR 192 2 (.slice (some ⟨b,0,none⟩) (T.F.length -1) c) (frC (T.F.take (T.F.length -1)) (vs.take (T.F.length -1))) (T.F.length -1) fb) 1 rfl (ExtB.refl _ _) x' (fun j hj=>S.lt j (by simp[owns,cR,slR]at hj ⊢;exact .inr (.inl hj))) (fun j hj=>.inl hj) x.nodup
 have eF:T.F=T.F.take (T.F.length -1)++[T.F[T.F.length -1]'(by omega)]:=by
  have:=v00 (T.F.length -1) T.F;rw[v1K (by omega),List.drop_of_length_le (by omega)]at this;exact this.symm
 have eV:vs=vs.take (T.F.length -1)++[vs[T.F.length -1]'(by omega)]:=by
  have:=v00 (T.F.length -1) vs;rw[v1K (by omega),List.drop_of_length_le (by omega)]at this;exact this.symm
 have eP:frP T.F vs=frP (T.F.take (T.F.length -1)) (vs.take (T.F.length -1))++[slR 2 0 (vs[T.F.length -1]'(by omega)).1 (isV (T.F[T.F.length -1]'(by omega)).regs) (T.F[T.F.length -1]'(by omega)).regs.length (vs[T.F.length -1]'(by omega)).2]:=by
  conv=>lhs;rw[eF,eV]
  rw[Q4m _ _ _ _ (by simp[hw])]
 have el:(T.F.take (T.F.length -1)).length=T.F.length -1:=by simp
 have S2:SH h0 ds ((thL tb pv {T with F:=T.F.take (T.F.length -1)} ⟨.slice (some ⟨b,0,none⟩) (T.F.length -1) c,fb,vs.take (T.F.length -1)⟩)++slR 2 0 (vs[T.F.length -1]'(by omega)).1 (isV (T.F[T.F.length -1]'(by omega)).regs) (T.F[T.F.length -1]'(by omega)).regs.length (vs[T.F.length -1]'(by omega)).2::B) h:=by
  have S1:SH h0 ds (cR tb (.cells (pv++[.slice (some ⟨b,0,none⟩) (T.F.length -1) c,iV T.trap]) 196 0)::slR 192 2 (.slice (some ⟨b,0,none⟩) (T.F.length -1) c) (frC (T.F.take (T.F.length -1)) (vs.take (T.F.length -1))) (T.F.length -1) fb::(frP T.F vs++B)) h:=S1;rw[eP,v0B]at S1;unfold thL;show SH h0 ds (cR tb (.cells (pv++[.slice (some ⟨b,0,none⟩) (T.F.length -1) c,iV T.trap]) 196 0)::slR 192 2 (.slice (some ⟨b,0,none⟩) (T.F.length -1) c) (frC (T.F.take (T.F.length -1)) (vs.take (T.F.length -1))) (T.F.take (T.F.length -1)).length fb::(frP (T.F.take (T.F.length -1)) (vs.take (T.F.length -1))++_)) h;rw[el];exact S1
 exact S2.unmid.drop
end
section
variable {h0 h:Hp} {P:Prg} {V:PrV} {tb:Nat} {T:MThr} {bs:List Nat} {o:Int}
theorem m73z (X0:Q1r h0 P V) (e0:Ext h0 h) (p:Held (thR tb (pvL P V) T bs) h) (hT:Kr P T) (hl:0 <T.F.length):C modE 88 [Qn tb] h fun v h'=>(∃lv ln,v=QfV (Qb P T) lv ln/\RowV h0 lv (isV (Qb P T).l))/\Ext h h':=by
 obtain⟨a,c,w,hw,_,hq,cE,hr,dW,bX⟩:=Q1T p;obtain⟨b,r,m,rfl,bN,j6,_⟩:=Q91 hr hl;have dZ:=dW b (by rw[j6];simp);have aJ:=Y8 hl;have ok:=hT.2 _ (Y0 hl);have h32:=hT.1;obtain⟨v,hv⟩: ∃v,w.vs[T.F.length -1]?=some v:=⟨_,v0c (by omega)⟩
 have k0:((frC T.F w.vs++r).drop (0+v0g ((T.F.length:Int) -1)*3)).take 3=[iV (QB T).fn,iV (QB T).at',v.1]:=by
  rw[v0f,show v0g ((T.F.length:Int) -1)=T.F.length -1 by omega];exact Q0k _ _ _ _ _ _ aJ hv
 obtain⟨fb,fo,fc,fcs,fe,fm,da,hfg0,nQ,hfn,s,cv,iA,fp⟩:=PrgAt.fun X0 ok.f0 ok.f1;have gF:=(e0.get _ nQ).trans hfg0;have fV:=v0u nQ e0.n;obtain⟨cb,co,cc,ccs,ce,cm,rfl,hcg0,nY,jD,iG⟩:=fp.at (by have:=ok.a0;have:=ok.a1;omega);have nZ:=(e0.get _ nY).trans hcg0;have cK:=v0u nY e0.n;have f0:=ok.f0;have f1:=ok.f1;have a0:=ok.a0;have a1:=ok.a1;have hj:(QB T).at'.toNat <(Qz P (QB T).fn).code.length:=by omega
 have kf:fcs[fo+v0g (QB T).fn*4+3]?=some (.slice (some ⟨cb,co,none⟩) (Qz P (QB T).fn).code.length cc):=Qv iA (by omega) rfl;obtain⟨⟨lv,ln,nM,gP⟩,_⟩:=iG _ hj
 have ei:(Qz P (QB T).fn).code[(QB T).at'.toNat]=Qb P T:=by
  have:=Q4i ok;rw[v0c hj]at this;exact v0i.inj this
 rw[ei]at nM gP;obtain⟨lva,lvc,rfl⟩:=gP.valM;refine YX (fu:=Tryz.f88) (by kernel_rfl) rfl ?_;have S:=SH.start h;refine Q6 ?_;refine Qq (zv:=.agg #[iV 0,iV 0,iV 0,iV 0,iV 0,.slice none 0 0,iV 0,iV 0]) S gn rfl (by kernel_rfl) fun b1 g aF S=>?_;refine Q0<|Q5<|I9<|I1 rfl<|I6 rfl<|I0 8 rfl<|I4 rfl (S.old0 hq cE) rfl<|I1 rfl<|I6 rfl<|I0 8 rfl<|I4 rfl (S.old0 hq cE) rfl<|I7 rfl<|Iso rfl rfl<|I5o 3 rfl rfl<|QY (n:=3) gn rfl rfl (by kernel_rfl) (by kernel_rfl) (S.old0 bN dZ) (by rw[v0j,JP _ _ hw];omega) ?_
 rw[k0];refine Qq (zv:=.agg #[iV 0,iV 0,.slice none 0 0]) S gn rfl (by kernel_rfl) fun b2 g bL S=>?_;refine Qg (n:=3) 0 S gn rfl rfl (Qbg (bX _ _ _ aJ hv).cellV) (by kernel_rfl) rfl rfl (by decide) rfl (fun g S=>ag0) fun g S=>?_;refine Q0<|Q5<|I9<|I1 rfl<|I6 rfl<|I0 0 rfl<|I0 3 rfl<|I4 rfl (S.old0 hq cE) rfl<|I0 0 rfl<|I4 rfl (S.cel 0 rfl) rfl ?_;rw[da];refine I5o 4 rfl rfl ?_;rw[<-da];refine I0 3 rfl<|I4 rfl (S.old0 gF fV) kf<|I0 1 rfl<|I4 rfl (S.cel 0 rfl) rfl<|I5o 8 rfl rfl<|I3 8 rfl (S.old0 nZ cK) (by omega) ?_
 rw[nM];refine Qg (n:=8) 1 S gn rfl rfl (by kernel_rfl) (by kernel_rfl) rfl rfl (by decide) rfl (fun g S=>ag0) fun g S=>?_;refine Q0<|Q8 ?_;refine⟨.inl rfl,_,(Zr rfl (by kernel_rfl) (by kernel_rfl) (S.cel 1 rfl) rfl rfl),?_⟩;exact⟨⟨_,ln,rfl,gP⟩,S.e0⟩
end
structure StepP (P:Prg) (T:MThr) (H:List MObj) (a:MAsk) (e:Int) (T':MThr) (H':List MObj):Prop where
 t:Kr P T'
 h:H'.length<=1024
 acc:a.acc.length<=1
 ask:a.op≠0->e=0/\T'=T/\H'=H/\a=Q4C (Qb P T) (QB T).regs/\K3 (Qb P T).op=true
 over:Yc T=true->e≠0
abbrev asN (A:List MAcc):MAsk:=⟨0,0,0,0,0,A⟩
theorem Q1E {T:MThr} (h:Yc T=false):0 <T.F.length:=by
 unfold Yc at h;simp at h;exact Nat.pos_of_ne_zero fun e=>h.1 (List.eq_nil_of_length_eq_zero e)
theorem Q8w {o:Int} (h:K3 o=false):o≠9/\o≠10/\ ¬(23<=o/\o<=30):=by
 unfold K3 at h;simp only[Bool.or_eq_false_iff,decide_eq_false_iff_not,Bool.and_eq_false_iff]at h;refine⟨h.1.1,h.1.2,fun k=>?_⟩;rcases h.2 with h|h
 · exact h k.1
 exact h k.2
theorem SH.nilTo {h0 h:Hp} {ds:List Nat} {L:List Res} (S:SH h0 ds L h):SH h0 ds (slR 66 4 (.slice none 0 0) (acC []) 0 []::L) h:=S.nilSl 66 4
section
variable {h0 h:Hp} {P:Prg} {V:PrV} {tb ph:Nat} {T:MThr} {H:List MObj} {ae bs:List Nat}
theorem m77 {task it:Int} (S0:SH h0 [] [hpR ph H ae,thR tb (pvL P V) T bs] h) (X0:Q1r h0 P V) (hM:ZM P=true) (hT:Kr P T) (hH:H.length<=1024):C modE 92 [Qn tb,Qn ph,iV task,iV it] h fun r g'=> ∃(a:MAsk) (e:Int) (sv:Value) (ab:List Nat) (T':MThr) (H':List MObj) (aa ah:List Nat),r=.tuple #[askV a sv,iV e]/\StepP P T H a e T' H'/\SH h (owns [hpR ph H ae,thR tb (pvL P V) T bs]) [slR 66 4 sv (acC a.acc) a.acc.length ab,hpR ph H' ah,thR tb (pvL P V) T' aa] g':=by
 have SE:=S0.enterL;have h32:=hT.1;have jH:H.length<=1000000:=by omega
 refine YX (fu:=Tryz.f92) (by kernel_rfl) rfl ?_;have S:=SE;refine Q6 ?_;refine Qq (zv:=.agg #[iV 0,iV 0,iV 0,iV 0,iV 0,.slice none 0 0]) S gn rfl (by kernel_rfl) fun b1 g aF S=>?_;refine I2 rfl<|Z5<|I1 rfl<|Ic [_] rfl rfl (Qm (m79 (S.held 2 rfl)) ⟨ag0,?_⟩);refine Q0<|Q3 rfl (fun hb=>?_) fun hb=>?_
 · skip
   refine Q6<|Qs (zv:=.agg #[iV 0,iV 0,iV 0,iV 0,iV 0,.slice none 0 0]) (pl:=[(0,1),(1,1),(2,1),(3,1),(4,1),(5,1)]) [] gn rfl (by kernel_rfl) (by kernel_rfl) rfl (by rfl) ?_;refine Qg (n:=6) 0 S gn rfl rfl rfl (by kernel_rfl) rfl rfl (by decide) rfl (fun g S=>ag0) fun g S=>?_;refine I2 rfl<|Q0<|Q8 ?_;refine⟨.inl rfl,_,(Zr rfl (by kernel_rfl) (by kernel_rfl) (S.cel 0 rfl) rfl (Yw rfl rfl)),?_⟩;exact⟨asN [],13,.slice none 0 0,[],T,H,bs,ae,rfl,⟨hT,hH,v0t _,fun e=>absurd rfl e,fun _=>by decide⟩,SH.nilTo S.drop⟩
 refine Q4<|Q6 ?_;have ax:Yc T=false:=hb;have hl:=Q1E ax;refine I1 rfl<|Ic [_] rfl rfl (C.mono (m73z X0 (S0.all0 S0.own0L S) (S.held 2 rfl) hT hl) ?_);rintro v g ⟨⟨lv,ln,rfl,ju⟩,x⟩;have S:=S.grow x;obtain⟨lva,lvc,rfl⟩:=ju.valM;refine⟨ag0,?_⟩;refine Qq (zv:=.agg #[iV 0,iV 0,iV 0,iV 0,iV 0,.slice none 0 0,iV 0,iV 0]) S gn rfl (by kernel_rfl) fun b2 g bL S=>?_;refine Qg (n:=8) 0 S gn rfl rfl rfl (by kernel_rfl) rfl rfl (by decide) rfl (fun g S=>ag0) fun g S=>?_
 have S:SH h (owns [hpR ph H ae,thR tb (pvL P V) T bs]) ([bxR b2 (Qb P T) (.slice lva (Qb P T).l.length lvc) ln,cR b1 (.cells [iV 0,iV 0,iV 0,iV 0,iV 0,.slice none 0 0] 202 0),hpR ph H ae]++[thR tb (pvL P V) T bs]) g:=S;obtain⟨⟨fv,wb,vs⟩,hw,ai,S⟩:=Q9y S;have hw:vs.length=T.F.length:=hw;have S:SH h (owns [hpR ph H ae,thR tb (pvL P V) T bs]) (bxR b2 (Qb P T) (.slice lva (Qb P T).l.length lvc) ln::cR b1 (.cells [iV 0,iV 0,iV 0,iV 0,iV 0,.slice none 0 0] 202 0)::hpR ph H ae::thL tb (pvL P V) T ⟨fv,wb,vs⟩) g:=S;obtain⟨fa,fc,fU⟩:=Qa (S.sl 4 rfl);have fU:fv=.slice fa T.F.length fc:=fU;subst fU
 have ao:SlC 192 2 g (.slice fa T.F.length fc) (frC T.F vs) T.F.length wb:=S.sl 4 rfl;obtain⟨fb,r,m,rfl,bN,j6,hm5⟩:=Q91 ao hl;have aJ:=Y8 hl;have ok:=hT.2 _ (Y0 hl);have bq:=ok.r;have hi:=Q86 hM ok;have hi:Z2 P (Qz P (QB T).fn) (Qb P T)=true:=hi;obtain⟨⟨v1,vb⟩,hv⟩: ∃v,vs[T.F.length -1]?=some v:=⟨_,v0c (by omega)⟩;have gR:v0g ((T.F.length:Int) -1)=T.F.length -1:=by omega
 have k0:(frC T.F vs++r)[0+v0g ((T.F.length:Int) -1)*3+2]?=some v1:=by rw[gR,v0f];exact Qv (Q0k _ _ _ _ _ _ aJ hv) (by omega) rfl
 have k1:(frC T.F vs++r)[0+v0g ((T.F.length:Int) -1)*3+1]?=some (iV (QB T).at'):=by rw[gR,v0f];exact Qv (Q0k _ _ _ _ _ _ aJ hv) (by omega) rfl
 have gj:(thL tb (pvL P V) T ⟨.slice (some ⟨fb,0,none⟩) T.F.length fc,wb,vs⟩)[2+(T.F.length -1)]?=some (slR 2 0 v1 (isV (QB T).regs) (QB T).regs.length vb):=Q31 (v:=(v1,vb)) aJ hv;have aK:(bxR b2 (Qb P T) (.slice lva (Qb P T).l.length lvc) ln::cR b1 (.cells [iV 0,iV 0,iV 0,iV 0,iV 0,.slice none 0 0] 202 0)::hpR ph H ae::thL tb (pvL P V) T ⟨.slice (some ⟨fb,0,none⟩) T.F.length fc,wb,vs⟩)[2+(T.F.length -1)+1+1+1]?=some (slR 2 0 v1 (isV (QB T).regs) (QB T).regs.length vb):=gj;obtain⟨ra,rc,rfl⟩:=Qa (S.sl _ aK);refine Q0<|Q5<|I9<|I1 rfl<|I6 rfl<|I0 8 rfl ?_
 refine I4 rfl (S.cel 3 rfl) rfl<|I1 rfl<|I6 rfl<|I0 8 rfl<|I4 rfl (S.cel 3 rfl) rfl<|I7 rfl<|Iso rfl rfl<|I5o 3 rfl rfl<|I2 rfl<|QG<|I1 rfl<|I6 rfl<|I0 2 rfl<|I4 rfl bN k0<|I2 rfl<|Z5 ?_;refine I0 0 rfl<|I4 rfl (S.cel 0 rfl) rfl<|Ic [_] rfl rfl (Qm (m84) ⟨ag0,?_⟩);refine Q0<|Q3 rfl (fun hb=>?_) fun hb=>?_
 · skip
   refine Q6<|I1 rfl<|I3 8 rfl (S.cel 0 rfl) (v0b _)<|I1 rfl<|Ic [_,_,_] rfl rfl (C.mono (m85 (S.sl _ aK).row bq rfl hi) ?_);rintro v g ⟨rfl,x⟩;have S:=S.grow x;refine⟨ag0,?_⟩;refine Qg (n:=6) 1 S gn rfl rfl rfl (by kernel_rfl) rfl rfl (by decide) rfl (fun g S=>ag0) fun g S=>?_;refine I2 rfl<|Q0<|Q8 ?_;refine⟨.inl rfl,_,(Zr rfl (by kernel_rfl) (by kernel_rfl) (S.cel 1 rfl) rfl (Yw rfl rfl)),?_⟩
   exact(by
    obtain⟨aa,S⟩:=Q1B (A:=[_]) (SH.nilTo S.drop.drop).drop hw
    exact⟨Q4C (Qb P T) (QB T).regs,0,.slice none 0 0,[],T,H,aa,ae,rfl,⟨hT,hH,v0t _,fun _=>⟨rfl,rfl,rfl,rfl,hb⟩,fun e=>by rw[ax]at e;cases e⟩,SH.nilTo S⟩)
 refine Q4<|Q5<|Q6 ?_;have fS:=Q8w hb;have S3:SH h (owns [hpR ph H ae,thR tb (pvL P V) T bs]) (thL tb (pvL P V) T ⟨.slice (some ⟨fb,0,none⟩) T.F.length fc,wb,vs⟩++[bxR b2 (Qb P T) (.slice lva (Qb P T).l.length lvc) ln,cR b1 (.cells [iV 0,iV 0,iV 0,iV 0,iV 0,.slice none 0 0] 202 0),hpR ph H ae]) g:=SH.comm (A:=[_,_,_]) S;refine I1 rfl<|I3 8 rfl (S.cel 0 rfl) (v0b _)<|I1 rfl<|I1 rfl<|Ic [_,_,_,_] rfl rfl (C.mono (m86 (v:=(_,vb)) (SH.subL S0 S0.own0L S3) hM hw hT hl hi hv rfl) ?_);rintro v g ⟨rfl,S2⟩;have S:=SH.comm (B:=[_,_,_]) (SH.retL S3 S2);refine⟨ag0,?_⟩;refine Q0 ?_
 refine Q3 rfl (fun hb=>?_) fun hb=>?_
 · skip
   refine Q6<|Qs (zv:=.agg #[iV 0,iV 0,iV 0,iV 0,iV 0,.slice none 0 0]) (pl:=[(0,1),(1,1),(2,1),(3,1),(4,1),(5,1)]) [] gn rfl (by kernel_rfl) (by kernel_rfl) rfl (by rfl) ?_;refine Qg (n:=6) 1 S gn rfl rfl rfl (by kernel_rfl) rfl rfl (by decide) rfl (fun g S=>ag0) fun g S=>?_;refine I2 rfl<|Q0<|Q8 ?_;refine⟨.inl rfl,_,(Zr rfl (by kernel_rfl) (by kernel_rfl) (S.cel 1 rfl) rfl (Yw rfl rfl)),?_⟩
   exact(by
    have hr8:1<=(Qb P T).op/\(Qb P T).op<=8:=by
     obtain⟨n,hn⟩:=Option.isSome_iff_exists.1 (show(ZV (Qb P T) (QB T).regs it).isSome=true from hb);exact reckR hn
    have jW:OnH P T:=⟨hM,hT,hl,by omega,by omega⟩;have hk:=QcG (x:=Qb P T) (it:=it) jW;obtain⟨aa,S⟩:=Q1B (A:=[_]) S.drop.drop (hw.trans hk.2.symm)
    exact⟨asN [],0,.slice none 0 0,[],_,H,aa,ae,rfl,⟨hk.1,hH,v0t _,fun e=>absurd rfl e,fun e=>by rw[ax]at e;cases e⟩,SH.nilTo S⟩)
 refine Q4<|Q5<|Q6 ?_
 have hrn:ZV (Qb P T) (QB T).regs it=none:=by
  cases e:ZV (Qb P T) (QB T).regs it with
  |none=>rfl
  |some n=>rw[e]at hb;cases hb
 rw[Q0M hrn]at S;have Sd:SH h (owns [hpR ph H ae,thR tb (pvL P V) T bs]) ((hpR ph H ae::thL tb (pvL P V) T ⟨.slice (some ⟨fb,0,none⟩) T.F.length fc,wb,vs⟩)++[bxR b2 (Qb P T) (.slice lva (Qb P T).l.length lvc) ln,cR b1 (.cells [iV 0,iV 0,iV 0,iV 0,iV 0,.slice none 0 0] 202 0)]) g:=SH.comm (A:=[_,_]) S;refine I1 rfl<|I1 rfl<|I3 8 rfl (S.cel 0 rfl) (v0b _)<|I1 rfl<|I1 rfl<|Ic [_,_,_,_,_] rfl rfl (C.mono (m87 (v:=(_,vb)) (SH.subL S0 S0.own0L Sd) X0 hM hw hT hl hi hv ju hH) ?_);rintro v g ⟨mb,me,T',H',ah,rfl,hmf,jo,hTS,kl,S2⟩;have S:=SH.comm (B:=[_,_]) (SH.retL Sd S2)
 refine⟨ag0,?_⟩;refine I1 rfl<|Ix rfl rfl<|Ix rfl rfl<|I2 rfl<|I2 rfl<|QG<|I1 rfl<|Q0<|Q3 rfl (fun hb=>?_) fun hb=>?_
 · skip
   refine Q6<|Qs (zv:=.agg #[iV 0,iV 0,iV 0,iV 0,iV 0,.slice none 0 0]) (pl:=[(0,1),(1,1),(2,1),(3,1),(4,1),(5,1)]) [] gn rfl (by kernel_rfl) (by kernel_rfl) rfl (by rfl)<|I1 rfl ?_;refine Qg (n:=6) 1 S gn rfl rfl rfl (by kernel_rfl) rfl rfl (by decide) rfl (fun g S=>ag0) fun g S=>?_;refine I2 rfl<|Q0<|Q8 ?_;refine⟨.inl rfl,_,(Zr rfl (by kernel_rfl) (by kernel_rfl) (S.cel 1 rfl) rfl (Yw rfl rfl)),?_⟩
   exact(by
    have aH:=jo hb;have jW:OnH P T:=⟨hM,hT,hl,by rcases aH with e|e|e|e<;>omega,by rcases aH with e|e|e|e<;>omega⟩;have hk:=TS_ok jW hTS;obtain⟨aa,S⟩:=Q1B (A:=[_]) S.drop.drop (hw.trans hk.2.symm)
    exact⟨asN [],me,.slice none 0 0,[],_,H',aa,ah,rfl,⟨hk.1,kl,v0t _,fun e=>absurd rfl e,fun e=>by rw[ax]at e;cases e⟩,SH.nilTo S⟩)
 refine Q4<|Q6 ?_;obtain⟨lL,hHH,dA⟩:=hmf hb;have S:SH h (owns [hpR ph H ae,thR tb (pvL P V) T bs]) (bxR b2 (Qb P T) (.slice lva (Qb P T).l.length lvc) ln::cR b1 (.cells [iV 0,iV 0,iV 0,iV 0,iV 0,.slice none 0 0] 202 0)::hpR ph H' ah::thL tb (pvL P V) T' ⟨.slice (some ⟨fb,0,none⟩) T.F.length fc,wb,vs⟩) g:=S;rw[lL,hHH]at S;clear aK
 have aK:(bxR b2 (Qb P T) (.slice lva (Qb P T).l.length lvc) ln::cR b1 (.cells [iV 0,iV 0,iV 0,iV 0,iV 0,.slice none 0 0] 202 0)::hpR ph H ah::thL tb (pvL P V) T ⟨.slice (some ⟨fb,0,none⟩) T.F.length fc,wb,vs⟩)[2+(T.F.length -1)+1+1+1]?=some (slR 2 0 (.slice ra (QB T).regs.length rc) (isV (QB T).regs) (QB T).regs.length vb):=gj;refine I2 rfl<|Q0 ?_
 refine ZH [(8,Qn b1)] (fun lv hh=> ∃(s:Value) (A:List MAcc) (ab:List Nat) (T':MThr) (w':ThW) (H':List MObj) (ah:List Nat),lv=[(15,s)]/\w'.vs.length=T'.F.length/\Kr P T'/\H'.length<=1024/\A.length<=1/\SH h (owns [hpR ph H ae,thR tb (pvL P V) T bs]) ((slR 66 4 s (acC A) A.length ab::hpR ph H' ah::thL tb (pvL P V) T' w')++[bxR b2 (Qb P T) (.slice lva (Qb P T).l.length lvc) ln,cR b1 (.cells [iV 0,iV 0,iV 0,iV 0,iV 0,.slice none 0 0] 202 0)]) hh) ?_ fun lv hh hJ=>?_
 · skip
   refine Q6<|I0 0 rfl<|I4 rfl (S.cel 0 rfl) rfl<|Q0<|Q7<|Q6<|Ie rfl rfl<|I2 rfl<|Q0<|Q3 rfl (fun hb=>?_) fun hb=>?_
   · skip
     refine I9 ?_;have ho:(Qb P T).op=12:=of_decide_eq_true hb
     have cM:0<=(Qb P T).b/\(Qb P T).b <(QB T).regs.length:=by
      rw[bq];exact Q23 hi (by rw[ho];decide)
     obtain⟨b3,iN,m3,rfl,cu,aT⟩:=Q06 (S.sl _ aK) (by omega);have kb:=aT _ cM.1 cM.2;refine I1 rfl<|I1 rfl<|I3 8 rfl (S.cel 0 rfl) (v0b _)<|I1 rfl<|I0 2 rfl<|I4 rfl (S.cel 0 rfl) rfl<|I5o 1 rfl rfl<|I4 rfl cu kb<|I1 rfl ?_;have Sd:SH h (owns [hpR ph H ae,thR tb (pvL P V) T bs]) ((hpR ph H ah::thL tb (pvL P V) T ⟨.slice (some ⟨fb,0,none⟩) T.F.length fc,wb,vs⟩)++[bxR b2 (Qb P T) (.slice lva (Qb P T).l.length lvc) ln,cR b1 (.cells [iV 0,iV 0,iV 0,iV 0,iV 0,.slice none 0 0] 202 0)]) g:=SH.comm (A:=[_,_]) S
     refine QZ [_,_,_,_,_,_,_,_,_,_] gn rfl rfl (by kernel_rfl) rfl (C.mono (m88 (v:=(_,vb)) (SH.subL S0 S0.own0L Sd) hM hw hT hl (fun _=>Q08 hi (by rw[ho];decide)) hv rfl hH) ?_);rintro v g ⟨A2,fY,T2,H2,aP,fJ,iJ,iK,S2⟩;have S:=SH.retL Sd S2;have hk:=Q9d ⟨hM,hT,hl,by omega,by omega⟩ iJ;refine⟨ag0,?_⟩;refine I2 rfl<|Q0<|Qk ?_;exact Zu [(15,_)] (p:=⟨v,A2,fY,T2,⟨.slice (some ⟨fb,0,none⟩) T.F.length fc,wb,vs⟩,H2,aP,rfl,hw.trans hk.2.symm,hk.1,iK,fJ,S⟩)
   refine Q6<|Ie rfl rfl<|I2 rfl<|Q0<|Q3 rfl (fun hb=>?_) fun hb=>?_
   · skip
     refine I9 ?_;have ho:(Qb P T).op=13:=of_decide_eq_true hb
     have dG:0<=(Qb P T).a/\(Qb P T).a <(QB T).regs.length:=by
      rw[bq];exact Q08 hi (by rw[ho];decide)
     have cM:0<=(Qb P T).b/\(Qb P T).b <(QB T).regs.length:=by
      rw[bq];exact Q23 hi (by rw[ho];decide)
     obtain⟨b3,iN,m3,rfl,cu,aT⟩:=Q06 (S.sl _ aK) (by omega);have ka:=aT _ dG.1 dG.2;have kb:=aT _ cM.1 cM.2;refine I1 rfl<|I1 rfl<|I3 8 rfl (S.cel 0 rfl) (v0b _)<|I1 rfl<|I0 1 rfl<|I4 rfl (S.cel 0 rfl) rfl<|I5o 1 rfl rfl<|I4 rfl cu ka<|I1 rfl<|I0 2 rfl<|I4 rfl (S.cel 0 rfl) rfl<|I5o 1 rfl rfl<|I4 rfl cu kb<|I1 rfl ?_
     have Sd:SH h (owns [hpR ph H ae,thR tb (pvL P V) T bs]) ((hpR ph H ah::thL tb (pvL P V) T ⟨.slice (some ⟨fb,0,none⟩) T.F.length fc,wb,vs⟩)++[bxR b2 (Qb P T) (.slice lva (Qb P T).l.length lvc) ln,cR b1 (.cells [iV 0,iV 0,iV 0,iV 0,iV 0,.slice none 0 0] 202 0)]) g:=SH.comm (A:=[_,_]) S;refine Ic [_,_,_,_,_,_,_,_,_,_] rfl rfl (C.mono (m88 (v:=(_,vb)) (SH.subL S0 S0.own0L Sd) hM hw hT hl (fun e=>by cases e) hv rfl hH) ?_);rintro v g ⟨A2,fY,T2,H2,aP,fJ,iJ,iK,S2⟩;have S:=SH.retL Sd S2;have hk:=Q9d ⟨hM,hT,hl,by omega,by omega⟩ iJ;refine⟨ag0,?_⟩;refine I2 rfl<|Q0<|Qk ?_
     exact Zu [(15,_)] (p:=⟨v,A2,fY,T2,⟨.slice (some ⟨fb,0,none⟩) T.F.length fc,wb,vs⟩,H2,aP,rfl,hw.trans hk.2.symm,hk.1,iK,fJ,S⟩)
   refine Q6<|Ie rfl rfl<|I2 rfl<|Q0<|Q3 rfl (fun hb=>?_) fun hb=>?_
   · skip
     refine I9 ?_;have ho:(Qb P T).op=15:=of_decide_eq_true hb
     have cM:0<=(Qb P T).b/\(Qb P T).b <(QB T).regs.length:=by
      rw[bq];exact Q23 hi (by rw[ho];decide)
     obtain⟨b3,iN,m3,rfl,cu,aT⟩:=Q06 (S.sl _ aK) (by omega);have kb:=aT _ cM.1 cM.2;refine I1 rfl<|I1 rfl<|I3 8 rfl (S.cel 0 rfl) (v0b _)<|I1 rfl<|I0 2 rfl<|I4 rfl (S.cel 0 rfl) rfl<|I5o 1 rfl rfl<|I4 rfl cu kb<|I0 4 rfl<|I4 rfl (S.cel 0 rfl) rfl<|I1 rfl ?_;have Sd:SH h (owns [hpR ph H ae,thR tb (pvL P V) T bs]) ((hpR ph H ah::thL tb (pvL P V) T ⟨.slice (some ⟨fb,0,none⟩) T.F.length fc,wb,vs⟩)++[bxR b2 (Qb P T) (.slice lva (Qb P T).l.length lvc) ln,cR b1 (.cells [iV 0,iV 0,iV 0,iV 0,iV 0,.slice none 0 0] 202 0)]) g:=SH.comm (A:=[_,_]) S
     refine QZ [_,_,_,_,_,_,_,_,_,_] gn rfl rfl (by kernel_rfl) rfl (C.mono (m88 (v:=(_,vb)) (SH.subL S0 S0.own0L Sd) hM hw hT hl (fun _=>Q08 hi (by rw[ho];decide)) hv rfl hH) ?_);rintro v g ⟨A2,fY,T2,H2,aP,fJ,iJ,iK,S2⟩;have S:=SH.retL Sd S2;have hk:=Q9d ⟨hM,hT,hl,by omega,by omega⟩ iJ;refine⟨ag0,?_⟩;refine I2 rfl<|Q0<|Qk ?_;exact Zu [(15,_)] (p:=⟨v,A2,fY,T2,⟨.slice (some ⟨fb,0,none⟩) T.F.length fc,wb,vs⟩,H2,aP,rfl,hw.trans hk.2.symm,hk.1,iK,fJ,S⟩)
   refine Q6<|Ie rfl rfl<|I2 rfl<|Q0<|Q3 rfl (fun hb=>?_) fun hb=>?_
   · skip
     refine I9 ?_;have ho:(Qb P T).op=16:=of_decide_eq_true hb
     have dG:0<=(Qb P T).a/\(Qb P T).a <(QB T).regs.length:=by
      rw[bq];exact Q08 hi (by rw[ho];decide)
     have cM:0<=(Qb P T).b/\(Qb P T).b <(QB T).regs.length:=by
      rw[bq];exact Q23 hi (by rw[ho];decide)
     obtain⟨b3,iN,m3,rfl,cu,aT⟩:=Q06 (S.sl _ aK) (by omega);have ka:=aT _ dG.1 dG.2;have kb:=aT _ cM.1 cM.2;refine I1 rfl<|I1 rfl<|I3 8 rfl (S.cel 0 rfl) (v0b _)<|I1 rfl<|I0 1 rfl<|I4 rfl (S.cel 0 rfl) rfl<|I5o 1 rfl rfl<|I4 rfl cu ka<|I0 4 rfl<|I4 rfl (S.cel 0 rfl) rfl<|I1 rfl<|I0 2 rfl<|I4 rfl (S.cel 0 rfl) rfl<|I5o 1 rfl rfl<|I4 rfl cu kb<|I1 rfl ?_
     have Sd:SH h (owns [hpR ph H ae,thR tb (pvL P V) T bs]) ((hpR ph H ah::thL tb (pvL P V) T ⟨.slice (some ⟨fb,0,none⟩) T.F.length fc,wb,vs⟩)++[bxR b2 (Qb P T) (.slice lva (Qb P T).l.length lvc) ln,cR b1 (.cells [iV 0,iV 0,iV 0,iV 0,iV 0,.slice none 0 0] 202 0)]) g:=SH.comm (A:=[_,_]) S;refine Ic [_,_,_,_,_,_,_,_,_,_] rfl rfl (C.mono (m88 (v:=(_,vb)) (SH.subL S0 S0.own0L Sd) hM hw hT hl (fun e=>by cases e) hv rfl hH) ?_);rintro v g ⟨A2,fY,T2,H2,aP,fJ,iJ,iK,S2⟩;have S:=SH.retL Sd S2;have hk:=Q9d ⟨hM,hT,hl,by omega,by omega⟩ iJ;refine⟨ag0,?_⟩;refine I2 rfl<|Q0<|Qk ?_
     exact Zu [(15,_)] (p:=⟨v,A2,fY,T2,⟨.slice (some ⟨fb,0,none⟩) T.F.length fc,wb,vs⟩,H2,aP,rfl,hw.trans hk.2.symm,hk.1,iK,fJ,S⟩)
   refine Q6<|Ie rfl rfl<|I2 rfl<|Q0<|Q3 rfl (fun hb=>?_) fun hb=>?_
   · skip
     refine I9 ?_;have ho:(Qb P T).op=18:=of_decide_eq_true hb
     have cM:0<=(Qb P T).b/\(Qb P T).b <(QB T).regs.length:=by
      rw[bq];exact Q23 hi (by rw[ho];decide)
     have mF:0<=(Qb P T).c/\(Qb P T).c <(QB T).regs.length:=by
      rw[bq];exact Qf5 hi (by rw[ho];decide)
     obtain⟨b3,iN,m3,rfl,cu,aT⟩:=Q06 (S.sl _ aK) (by omega);have kb:=aT _ cM.1 cM.2;have kc:=aT _ mF.1 mF.2;refine I1 rfl<|I1 rfl<|I3 8 rfl (S.cel 0 rfl) (v0b _)<|I1 rfl<|I0 2 rfl<|I4 rfl (S.cel 0 rfl) rfl<|I5o 1 rfl rfl<|I4 rfl cu kb<|I1 rfl<|I0 3 rfl<|I4 rfl (S.cel 0 rfl) rfl<|I5o 1 rfl rfl<|I4 rfl cu kc<|I1 rfl ?_
     have Sd:SH h (owns [hpR ph H ae,thR tb (pvL P V) T bs]) ((hpR ph H ah::thL tb (pvL P V) T ⟨.slice (some ⟨fb,0,none⟩) T.F.length fc,wb,vs⟩)++[bxR b2 (Qb P T) (.slice lva (Qb P T).l.length lvc) ln,cR b1 (.cells [iV 0,iV 0,iV 0,iV 0,iV 0,.slice none 0 0] 202 0)]) g:=SH.comm (A:=[_,_]) S;refine QZ [_,_,_,_,_,_,_,_,_,_] gn rfl rfl (by kernel_rfl) rfl (C.mono (m88 (v:=(_,vb)) (SH.subL S0 S0.own0L Sd) hM hw hT hl (fun _=>Q08 hi (by rw[ho];decide)) hv rfl hH) ?_);rintro v g ⟨A2,fY,T2,H2,aP,fJ,iJ,iK,S2⟩;have S:=SH.retL Sd S2;have hk:=Q9d ⟨hM,hT,hl,by omega,by omega⟩ iJ;refine⟨ag0,?_⟩;refine I2 rfl<|Q0 ?_
     refine Qk ?_;exact Zu [(15,_)] (p:=⟨v,A2,fY,T2,⟨.slice (some ⟨fb,0,none⟩) T.F.length fc,wb,vs⟩,H2,aP,rfl,hw.trans hk.2.symm,hk.1,iK,fJ,S⟩)
   refine Q6<|Ie rfl rfl<|I2 rfl<|Q0<|Q3 rfl (fun hb=>?_) fun hb=>?_
   · skip
     refine I9 ?_;have ho:(Qb P T).op=19:=of_decide_eq_true hb
     have dG:0<=(Qb P T).a/\(Qb P T).a <(QB T).regs.length:=by
      rw[bq];exact Q08 hi (by rw[ho];decide)
     have cM:0<=(Qb P T).b/\(Qb P T).b <(QB T).regs.length:=by
      rw[bq];exact Q23 hi (by rw[ho];decide)
     have mF:0<=(Qb P T).c/\(Qb P T).c <(QB T).regs.length:=by
      rw[bq];exact Qf5 hi (by rw[ho];decide)
     obtain⟨b3,iN,m3,rfl,cu,aT⟩:=Q06 (S.sl _ aK) (by omega);have ka:=aT _ dG.1 dG.2;have kb:=aT _ cM.1 cM.2;have kc:=aT _ mF.1 mF.2;refine I1 rfl<|I1 rfl<|I3 8 rfl (S.cel 0 rfl) (v0b _)<|I1 rfl<|I0 1 rfl<|I4 rfl (S.cel 0 rfl) rfl<|I5o 1 rfl rfl<|I4 rfl cu ka<|I1 rfl<|I0 2 rfl<|I4 rfl (S.cel 0 rfl) rfl<|I5o 1 rfl rfl<|I4 rfl cu kb<|I1 rfl<|I0 3 rfl<|I4 rfl (S.cel 0 rfl) rfl ?_;refine I5o 1 rfl rfl<|I4 rfl cu kc<|I1 rfl ?_
     have Sd:SH h (owns [hpR ph H ae,thR tb (pvL P V) T bs]) ((hpR ph H ah::thL tb (pvL P V) T ⟨.slice (some ⟨fb,0,none⟩) T.F.length fc,wb,vs⟩)++[bxR b2 (Qb P T) (.slice lva (Qb P T).l.length lvc) ln,cR b1 (.cells [iV 0,iV 0,iV 0,iV 0,iV 0,.slice none 0 0] 202 0)]) g:=SH.comm (A:=[_,_]) S;refine Ic [_,_,_,_,_,_,_,_,_,_] rfl rfl (C.mono (m88 (v:=(_,vb)) (SH.subL S0 S0.own0L Sd) hM hw hT hl (fun e=>by cases e) hv rfl hH) ?_);rintro v g ⟨A2,fY,T2,H2,aP,fJ,iJ,iK,S2⟩;have S:=SH.retL Sd S2;have hk:=Q9d ⟨hM,hT,hl,by omega,by omega⟩ iJ;refine⟨ag0,?_⟩;refine I2 rfl<|Q0<|Qk ?_
     exact Zu [(15,_)] (p:=⟨v,A2,fY,T2,⟨.slice (some ⟨fb,0,none⟩) T.F.length fc,wb,vs⟩,H2,aP,rfl,hw.trans hk.2.symm,hk.1,iK,fJ,S⟩)
   refine Q6<|Ie rfl rfl<|I2 rfl<|Q0<|Q3 rfl (fun hb=>?_) fun hb=>?_
   · skip
     refine Q5<|Q6 ?_;have ho:(Qb P T).op=20:=of_decide_eq_true hb
     have dG:0<=(Qb P T).a/\(Qb P T).a <(QB T).regs.length:=by
      rw[bq];exact Q08 hi (by rw[ho];decide)
     have cM:0<=(Qb P T).b/\(Qb P T).b <(QB T).regs.length:=by
      rw[bq];exact Q23 hi (by rw[ho];decide)
     obtain⟨b3,iN,m3,rfl,cu,aT⟩:=Q06 (S.sl _ aK) (by omega);have ka:=aT _ dG.1 dG.2;have kb:=aT _ cM.1 cM.2;refine I1 rfl<|I1 rfl<|I0 2 rfl<|I4 rfl (S.cel 0 rfl) rfl<|I5o 1 rfl rfl<|I4 rfl cu kb<|Ic [_,_,_] rfl rfl (Qm (m89 (S.res 2 rfl) jH) ⟨ag0,?_⟩);refine Ib rfl<|Q0<|Q3 rfl (fun hb=>?_) fun hb=>?_
     · skip
       refine Q6<|I1 rfl<|I6 rfl<|I0 9 rfl ?_;refine Qj 3 S gn rfl rfl rfl (by kernel_rfl) rfl (by decide) (by simp) (fun g S=>ag0) fun g S=>?_;refine Q0<|Qp<|Qc<|Qo ?_;exact Zu [(15,_)] (p:=⟨.slice none 0 0,[],[],{T with trap:=1},⟨.slice (some ⟨fb,0,none⟩) T.F.length fc,wb,vs⟩,H,ah,rfl,hw,hT,hH,v0t _,SH.nilTo (SH.comm (A:=[_,_]) S)⟩)
     refine Q4<|Q5<|ZZ [(0,[]),(1,[]),(2,[]),(3,[]),(4,[]),(5,[]),(6,[]),(7,[]),(8,[]),(9,[2]),(10,[]),(11,[])] (by kernel_rfl) (by kernel_rfl) (by kernel_rfl) (by kernel_rfl) ?_
     have hxa':0<=(Qb P T).a/\(Qb P T).a <((isV (QB T).regs).length:Nat):=by
      rw[v0s];exact dG
     refine I1 rfl<|I0 1 rfl<|I4 rfl (S.cel 0 rfl) rfl<|I1 rfl<|I1 rfl<|I0 2 rfl<|I4 rfl (S.cel 0 rfl) rfl<|I5o 1 rfl rfl<|I4 rfl cu kb<|Ic [_,_] rfl rfl (Qm (m90 (S.res 2 rfl) jH) ⟨(ag1 (Yg gn rfl (by kernel_rfl) (S.cel 0 rfl) rfl rfl Q1C) ag0),?_⟩);refine I5o 1 rfl rfl<|Zq (2+(T.F.length -1)+1+1+1) S gn rfl rfl rfl (by kernel_rfl) aK rfl (by omega) (fun g S=>ag0) fun g S=>?_
     have S5:SH h (owns [hpR ph H ae,thR tb (pvL P V) T bs]) ([bxR b2 (Qb P T) (.slice lva (Qb P T).l.length lvc) ln,cR b1 (.cells [iV 0,iV 0,iV 0,iV 0,iV 0,.slice none 0 0] 202 0),hpR ph H ah]++thL tb (pvL P V) (setT T (Qb P T).a (Q6b H (reg (QB T).regs (Qb P T).b))) ⟨.slice (some ⟨fb,0,none⟩) T.F.length fc,wb,vs⟩) g:=by
      have e:=Q1S (tb:=tb) (pv:=pvL P V) (T:=T) (w:=⟨.slice (some ⟨fb,0,none⟩) T.F.length fc,wb,vs⟩) (v:=(.slice (some ⟨b3,0,none⟩) (QB T).regs.length rc,vb)) (a:=(Qb P T).a) (n:=Q6b H (reg (QB T).regs (Qb P T).b)) aJ hv;show SH h _ (_::_::_::thL tb (pvL P V) {T with F:=Q37 T.F (T.F.length -1) (Qb P T).a (Q6b H (reg (QB T).regs (Qb P T).b))} ⟨.slice (some ⟨fb,0,none⟩) T.F.length fc,wb,vs⟩) g;rw[<-e];exact S
     have S6:=SH.comm S5;have cC:=Q01 (a:=(Qb P T).a) (n:=Q6b H (reg (QB T).regs (Qb P T).b)) hT;refine Q0<|Q2 (by kernel_rfl)<|I1 rfl ?_;refine QZ [_,_] gn rfl rfl (by kernel_rfl) rfl (C.mono (m91 (k:=0) (P:=P) (V:=V) (T:=setT T (Qb P T).a (Q6b H (reg (QB T).regs (Qb P T).b))) (w:=⟨.slice (some ⟨fb,0,none⟩) T.F.length fc,wb,vs⟩) (h0:=h0) (SH.subL S0 S0.own0L S6) (by rw[cC.2];exact hw) cC.1 (by omega) (fun y hy=>(KA hM (cC.1.2 y hy)).1)) ?_);intro v g S2;have S:=SH.comm (B:=[_,_,_]) (SH.retL S6 S2);have jW:OnH P T:=⟨hM,hT,hl,by omega,by omega⟩;refine⟨ag0,?_⟩;refine Q0<|Qk ?_
     exact Zu [(15,_)] (p:=⟨.slice none 0 0,[],[],onT (setT T (Qb P T).a (Q6b H (reg (QB T).regs (Qb P T).b))) 0,⟨.slice (some ⟨fb,0,none⟩) T.F.length fc,wb,vs⟩,H,ah,rfl,by rw[Q2b,cC.2];exact hw,jW.on1,hH,v0t _,SH.nilTo (SH.comm (A:=[_,_]) S)⟩)
   refine Q6<|Ie rfl rfl<|I2 rfl<|Q0<|Q3 rfl (fun hb=>?_) fun hb=>?_
   · skip
     refine Q2 (by kernel_rfl) ?_;have ho:(Qb P T).op=22:=of_decide_eq_true hb
     have dG:0<=(Qb P T).a/\(Qb P T).a <(QB T).regs.length:=by
      rw[bq];exact Q08 hi (by rw[ho];decide)
     obtain⟨b3,iN,m3,rfl,cu,aT⟩:=Q06 (S.sl _ aK) (by omega);have ka:=aT _ dG.1 dG.2;refine I1 rfl<|I1 rfl<|I1 rfl<|I0 1 rfl<|I4 rfl (S.cel 0 rfl) rfl<|I5o 1 rfl rfl<|I4 rfl cu ka ?_;have Sd:SH h (owns [hpR ph H ae,thR tb (pvL P V) T bs]) ((hpR ph H ah::thL tb (pvL P V) T ⟨.slice (some ⟨fb,0,none⟩) T.F.length fc,wb,vs⟩)++[bxR b2 (Qb P T) (.slice lva (Qb P T).l.length lvc) ln,cR b1 (.cells [iV 0,iV 0,iV 0,iV 0,iV 0,.slice none 0 0] 202 0)]) g:=SH.comm (A:=[_,_]) S;refine Ic [_,_,_] rfl rfl (C.mono (m92 (SH.subL S0 S0.own0L Sd) X0 hM hw hT hl hH) ?_);rintro v g ⟨T2,w2,aI,hTC,S2⟩
     have S:=SH.retL Sd S2;refine⟨ag0,?_⟩;refine Q0<|Qk ?_;exact Zu [(15,_)] (p:=⟨.slice none 0 0,[],[],T2,w2,H,ah,rfl,aI,TC_ok ⟨hM,hT,hl,by omega,by omega⟩ hTC,hH,v0t _,SH.nilTo S⟩)
   refine Q6<|Ie rfl rfl<|I2 rfl<|Q0<|Q3 rfl (fun hb=>?_) fun hb=>?_
   · skip
     refine I9 ?_;have ho:(Qb P T).op=33:=of_decide_eq_true hb;obtain⟨vs2,m2,dM,hm2,mq⟩:=Q9I (S.sl 4 rfl);refine I1 rfl<|I1 rfl<|I6 rfl<|I0 8 rfl<|I4 rfl (S.cel 3 rfl) rfl<|I1 rfl<|I6 rfl<|I0 8 rfl<|I4 rfl (S.cel 3 rfl) rfl<|I7 rfl<|Iso rfl rfl<|Q3c el162 gn rfl rfl rfl dM hm2 (by omega) (by omega) ?_;rw[gR];refine I6 rfl<|I0 8 rfl ?_;refine Qj 3 S gn rfl rfl rfl (by kernel_rfl) rfl (by decide) (by simp) (fun g S=>ag0) fun g S=>?_
     have S5:SH h (owns [hpR ph H ae,thR tb (pvL P V) T bs]) ([bxR b2 (Qb P T) (.slice lva (Qb P T).l.length lvc) ln,cR b1 (.cells [iV 0,iV 0,iV 0,iV 0,iV 0,.slice none 0 0] 202 0),hpR ph H ah]++(cR tb (.cells (pvL P V++[.slice (some ⟨fb,0,none⟩) (T.F.length -1) fc,iV T.trap]) 196 0)::slR 192 2 (.slice (some ⟨fb,0,none⟩) T.F.length fc) (frC T.F vs) T.F.length wb::frP T.F vs)) g:=S;have S6:=SH.comm (B:=[_,_,_]) (th_pop hw hl (SH.comm S5));refine Q0<|Qk ?_
     exact Zu [(15,_)] (p:=⟨.slice none 0 0,[],[],_,_,H,ah,rfl,by show(vs.take _).length=(T.F.take _).length;rw[v0D,v0D,hw],pop_ok hT,hH,v0t _,SH.nilTo (SH.comm (A:=[_,_]) S6)⟩)
   refine Q6<|Ie rfl rfl<|I2 rfl<|Q0<|Q3 rfl (fun hb=>?_) fun hb=>?_
   · skip
     refine Q2 (by kernel_rfl) ?_;have ho:(Qb P T).op=31:=of_decide_eq_true hb;refine I1 rfl<|I0 4 rfl<|I4 rfl (S.cel 0 rfl) rfl<|I6 rfl<|I0 1 rfl<|Zq 4 S gn rfl rfl rfl (by kernel_rfl) rfl rfl (by rw[JP _ _ hw];omega) (fun g S=>ag0) fun g S=>?_
     have S5:SH h (owns [hpR ph H ae,thR tb (pvL P V) T bs]) (bxR b2 (Qb P T) (.slice lva (Qb P T).l.length lvc) ln::cR b1 (.cells [iV 0,iV 0,iV 0,iV 0,iV 0,.slice none 0 0] 202 0)::hpR ph H ah::thL tb (pvL P V) {T with F:=atF T.F (T.F.length -1) (Qb P T).n} ⟨.slice (some ⟨fb,0,none⟩) T.F.length fc,wb,vs⟩) g:=by
      have e:=Qcu (tb:=tb) (pv:=pvL P V) (T:=T) (k:=T.F.length -1) (n:=(Qb P T).n) (w:=⟨.slice (some ⟨fb,0,none⟩) T.F.length fc,wb,vs⟩) hw;rw[gR]at S;rw[<-e];exact S
     refine Q0<|Qk ?_;exact Zu [(15,_)] (p:=⟨.slice none 0 0,[],[],{T with F:=atF T.F (T.F.length -1) (Qb P T).n},⟨.slice (some ⟨fb,0,none⟩) T.F.length fc,wb,vs⟩,H,ah,rfl,by show _=(atF _ _ _).length;rw[Q1c];exact hw,Qc5 hT aJ (Q1I hi (.inl ho)).1 (Q1I hi (.inl ho)).2,hH,v0t _,SH.nilTo (SH.comm (A:=[_,_]) S5)⟩)
   refine Q6<|Ie rfl rfl<|I2 rfl<|Q0<|Q3 rfl (fun hb=>?_) fun hb=>?_
   · skip
     refine Q6 ?_;have ho:(Qb P T).op=32:=of_decide_eq_true hb;obtain⟨r2,m2,dM⟩:=Q51 (S.sl 4 rfl);have aX:=KA hM ok;have hat0:=ok.a0;have jW:OnH P T:=⟨hM,hT,hl,by omega,by omega⟩;have k2:(frC T.F vs++r2)[0+v0g ((T.F.length:Int) -1)*3+1]?=some (iV (QB T).at'):=by rw[gR,v0f];exact Qv (Q0k _ _ _ _ _ _ aJ hv) (by omega) rfl
     refine I1 rfl<|I6 rfl<|I0 1 rfl<|I4 rfl dM k2<|Iao rfl rfl<|I6 rfl<|I0 1 rfl<|Zq 4 S gn rfl rfl rfl (by kernel_rfl) rfl rfl (by rw[JP _ _ hw];omega) (fun g S=>ag0) fun g S=>?_
     have S5:SH h (owns [hpR ph H ae,thR tb (pvL P V) T bs]) (bxR b2 (Qb P T) (.slice lva (Qb P T).l.length lvc) ln::cR b1 (.cells [iV 0,iV 0,iV 0,iV 0,iV 0,.slice none 0 0] 202 0)::hpR ph H ah::thL tb (pvL P V) {T with F:=atF T.F (T.F.length -1) ((QB T).at'+1)} ⟨.slice (some ⟨fb,0,none⟩) T.F.length fc,wb,vs⟩) g:=by
      have e:=Qcu (tb:=tb) (pv:=pvL P V) (T:=T) (k:=T.F.length -1) (n:=((QB T).at'+1)) (w:=⟨.slice (some ⟨fb,0,none⟩) T.F.length fc,wb,vs⟩) hw;rw[gR]at S;rw[<-e];exact S
     have S:=S5
     have jQ:(atF T.F (T.F.length -1) ((QB T).at'+1))[T.F.length -1]?=some {QB T with at':=(QB T).at'+1}:=by
      unfold atF;rw[v2z,Y8 hl];rfl
     have cz:vs.length=(atF T.F (T.F.length -1) ((QB T).at'+1)).length:=by rw[Q1c];exact hw
     have cC:Kr P {T with F:=atF T.F (T.F.length -1) ((QB T).at'+1)}:=Qc5 hT aJ (by omega) jW.at;have hpT1:(thL tb (pvL P V) {T with F:=atF T.F (T.F.length -1) ((QB T).at'+1)} ⟨.slice (some ⟨fb,0,none⟩) T.F.length fc,wb,vs⟩)[2+(T.F.length -1)]?=some (slR 2 0 (.slice ra (QB T).regs.length rc) (isV (QB T).regs) (QB T).regs.length vb):=Q31 (x:= {QB T with at':=(QB T).at'+1}) (v:=(_,vb)) jQ hv
     have hpj1:(bxR b2 (Qb P T) (.slice lva (Qb P T).l.length lvc) ln::cR b1 (.cells [iV 0,iV 0,iV 0,iV 0,iV 0,.slice none 0 0] 202 0)::hpR ph H ah::thL tb (pvL P V) {T with F:=atF T.F (T.F.length -1) ((QB T).at'+1)} ⟨.slice (some ⟨fb,0,none⟩) T.F.length fc,wb,vs⟩)[2+(T.F.length -1)+1+1+1]?=some (slR 2 0 (.slice ra (QB T).regs.length rc) (isV (QB T).regs) (QB T).regs.length vb):=hpT1
     have dG:0<=(Qb P T).a/\(Qb P T).a <(QB T).regs.length:=by
      rw[bq];exact Q08 hi (by rw[ho];decide)
     obtain⟨b3,iN,m3,rfl,cu,aT⟩:=Q06 (S.sl _ hpj1) (by omega);have ka:=aT _ dG.1 dG.2;refine QG<|I1 rfl<|I0 1 rfl<|I4 rfl (S.cel 0 rfl) rfl<|I5o 1 rfl rfl<|I4 rfl cu ka<|Ie rfl rfl<|Q0<|Q3 rfl (fun hb=>?_) fun hb=>?_
     · skip
       refine Q2 (by kernel_rfl)<|I1 rfl<|I0 4 rfl<|I4 rfl (S.cel 0 rfl) rfl<|I6 rfl<|I0 1 rfl<|Zq 4 S gn rfl rfl rfl (by kernel_rfl) rfl (show(Value.slice (some ⟨fb,0,none⟩) T.F.length fc)=Value.slice (some ⟨fb,0,none⟩) (atF T.F (T.F.length -1) ((QB T).at'+1)).length fc by rw[Q1c]) (by rw[JP _ _ cz,Q1c];omega) (fun g S=>ag0) fun g S=>?_
       have S5:SH h (owns [hpR ph H ae,thR tb (pvL P V) T bs]) (bxR b2 (Qb P T) (.slice lva (Qb P T).l.length lvc) ln::cR b1 (.cells [iV 0,iV 0,iV 0,iV 0,iV 0,.slice none 0 0] 202 0)::hpR ph H ah::thL tb (pvL P V) {T with F:=atF (atF T.F (T.F.length -1) ((QB T).at'+1)) (T.F.length -1) (Qb P T).n} ⟨.slice (some ⟨fb,0,none⟩) T.F.length fc,wb,vs⟩) g:=by
        have e:=Qcu (tb:=tb) (pv:=pvL P V) (T:= {T with F:=atF T.F (T.F.length -1) ((QB T).at'+1)}) (k:=T.F.length -1) (n:=(Qb P T).n) (w:=⟨.slice (some ⟨fb,0,none⟩) T.F.length fc,wb,vs⟩) cz;rw[gR]at S;rw[<-e];exact S
       refine Q0<|Qk ?_;exact Zu [(15,_)] (p:=⟨.slice none 0 0,[],[],{T with F:=atF (atF T.F (T.F.length -1) ((QB T).at'+1)) (T.F.length -1) (Qb P T).n},⟨.slice (some ⟨fb,0,none⟩) T.F.length fc,wb,vs⟩,H,ah,rfl,by show _=(atF _ _ _).length;rw[Q1c];exact cz,Qc5 cC jQ (Q1I hi (.inr ho)).1 (Q1I hi (.inr ho)).2,hH,v0t _,SH.nilTo (SH.comm (A:=[_,_]) S5)⟩)
     refine Q4<|Qk ?_;exact Zu [(15,_)] (p:=⟨.slice none 0 0,[],[],{T with F:=atF T.F (T.F.length -1) ((QB T).at'+1)},⟨.slice (some ⟨fb,0,none⟩) T.F.length fc,wb,vs⟩,H,ah,rfl,cz,cC,hH,v0t _,SH.nilTo (SH.comm (A:=[_,_]) S)⟩)
   refine Q4<|Qk ?_;exact Zu [(15,_)] (p:=⟨.slice none 0 0,[],[],T,⟨.slice (some ⟨fb,0,none⟩) T.F.length fc,wb,vs⟩,H,ah,rfl,hw,hT,hH,v0t _,SH.nilTo (SH.comm (A:=[_,_]) S)⟩)
 obtain⟨s,A,ab,T',w',H',hbs'',rfl,iZ,hok',kl,hA,S⟩:=hJ;refine Q6 ?_;have S:=SH.comm (B:=[_,_]) S;obtain⟨sa,sc,rfl⟩:=Qa (S.sl 2 rfl);refine I1 rfl<|Qs (cs:= #[iV 0,iV 0,iV 0,iV 0,iV 0,.slice sa A.length sc]) (zv:=.agg #[iV 0,iV 0,iV 0,iV 0,iV 0,.slice none 0 0]) (pl:=[(0,1),(1,1),(2,1),(3,1),(4,1),(5,1)]) [(5,_)] gn rfl (by kernel_rfl) (by kernel_rfl) rfl (by kernel_rfl) ?_;refine Qg (n:=6) 1 S gn rfl rfl rfl (by kernel_rfl) rfl rfl (by decide) rfl (fun g S=>ag0) fun g S=>?_;refine I2 rfl<|Q0<|Q8 ?_;refine⟨.inl rfl,_,(Zr rfl (by kernel_rfl) (by kernel_rfl) (S.cel 1 rfl) rfl (Yw rfl rfl)),?_⟩
 exact(by
  obtain⟨aa,S⟩:=Q1B (A:=[_,_]) S.drop.drop iZ
  exact⟨asN A,0,.slice sa A.length sc,ab,T',H',aa,hbs'',rfl,⟨hok',kl,hA,fun e=>absurd rfl e,fun e=>by rw[ax]at e;cases e⟩,S⟩)
end
theorem Q1m {α:Type} (f:α->List Value) (w:Nat) (hf: ∀a,(f a).length=w): ∀l:List α,(l.flatMap f).length=l.length*w
 | []=>by simp
 | a::l=>by
   rw[v14,v0j,hf,Q1m f w hf l,v1f,v1a,Nat.one_mul,Nat.add_comm]
theorem Q5S {α:Type} (f:α->List Value) (w:Nat) (hf: ∀a,(f a).length=w) (rest:List Value): ∀(l:List α) (j:Nat) (o:α),l[j]?=some o->((l.flatMap f++rest).drop (j*w)).take w=f o
 | a::l,0,o,h=>by
   simp only[v0S,v0i.injEq]at h;subst h;rw[Nat.zero_mul,List.drop_zero,v14,v0B,List.take_left' (hf a)]
 | a::l,j+1,o,h=>by
   rw[v14,v0B,show(j+1)*w=w+j*w by rw[v1a,Nat.one_mul,Nat.add_comm],<-List.drop_drop,List.drop_left' (hf a)];exact Q5S f w hf rest l j o (by simpa using h)
 | [],_,_,h=>by simp at h
theorem Q5R {α:Type} (f:α->List Value) (w k:Nat) (g:α->α) (v:Value) (hf: ∀a,(f a).length=w) (hk:k <w): ∀(l:List α) (j:Nat) (o:α),l[j]?=some o->(f o).set k v=f (g o)->(l.flatMap f).set (j*w+k) v=(l.modify j g).flatMap f
 | a::l,0,o,h,e=>by
   simp only[v0S,v0i.injEq]at h;subst h;rw[Nat.zero_mul,v0f,v14,List.set_append_left _ _ (by rw[hf];exact hk),e,List.modify_zero_cons,v14]
 | a::l,j+1,o,h,e=>by
   rw[v14,show(j+1)*w+k=w+(j*w+k) by rw[v1a,Nat.one_mul];omega,v2y _ _ (by rw[hf];omega),hf,Nat.add_sub_cancel_left,Q5R f w k g v hf hk l j o (by simpa using h) e,v07,v14]
 | [],_,_,h,_=>by simp at h
def tkV (t:MTask):List Value:=[iV t.kind,iV t.of',iV t.which,iV t.fn,iV t.looper,iV t.by',iV t.nth,.bool t.front,iV t.delay,iV t.due,iV t.payload,iV t.state,iV t.trap,iV t.mark,iV t.prev]
def mkV (x:MMark):List Value:=[iV x.kind,iV x.task,iV x.other,iV x.acc.site,iV x.acc.kind,iV x.acc.a,iV x.acc.b,.bool x.acc.write]
def tkC (l:List MTask):List Value:=l.flatMap tkV
def mkC (l:List MMark):List Value:=l.flatMap mkV
theorem ZL (t:MTask):(tkV t).length=15:=rfl
theorem Q42 (t:MMark):(mkV t).length=8:=rfl
theorem Q1R (l:List MTask):(tkC l).length=l.length*15:=Q1m tkV 15 ZL l
theorem QfA (l:List MMark):(mkC l).length=l.length*8:=Q1m mkV 8 Q42 l
theorem Q4Q {l:List MTask} {j:Nat} {o:MTask} (rest:List Value) (h:l[j]?=some o):((tkC l++rest).drop (j*15)).take 15=tkV o:=Q5S tkV 15 ZL rest l j o h
theorem mkC_at {l:List MMark} {j:Nat} {o:MMark} (rest:List Value) (h:l[j]?=some o):((mkC l++rest).drop (j*8)).take 8=mkV o:=Q5S mkV 8 Q42 rest l j o h
theorem Qct (l:List MTask) (t:MTask):tkC (l++[t])=tkC l++tkV t:=by
 unfold tkC;rw[v2A];simp
theorem Q43 (l:List MMark) (t:MMark):mkC (l++[t])=mkC l++mkV t:=by
 unfold mkC;rw[v2A];simp
def qpP:List (List MItem)->List (Nat×List Nat)->List Res
 |L::l,v::c=>quR v.1 L v.2::qpP l c
 |_,_=>[]
def tpP (pv:List Value):List MThr->List (Nat×List Nat)->List Res
 |T::l,v::c=>thR v.1 pv T v.2::tpP pv l c
 |_,_=>[]
abbrev ptC (c:List (Nat×List Nat)):List Value:=c.map fun x=>Qn x.1
structure MW where
 lb:Nat
 lbs:List Nat
 qv:Value
 qvb:List Nat
 rv:Value
 rvb:List Nat
 tv:Value
 tvb:List Nat
 hv:Value
 hvb:List Nat
 gv:Value
 gvb:List Nat
 lv:Value
 lvb:List Nat
 mv:Value
 mvb:List Nat
 ov:Value
 ovb:List Nat
 qs:List (Nat×List Nat)
 ths:List (Nat×List Nat)
def mcH (mb ph:Nat) (P:Prg) (V:PrV) (s:MS) (w:MW):List Res:=
 [cR mb (.cells (pvL P V++[Qn ph,Qn w.lb,w.qv,w.rv,w.tv,w.hv,w.gv,w.lv,w.mv,w.ov,iV s.now,iV s.steps,.bool s.full]) 45 0),
  lvR w.lb s.K s.E w.lbs,slR 98 0 w.qv (ptC w.qs) s.Q.length w.qvb,slR 3 0 w.rv (isV s.runs) s.runs.length w.rvb,
  slR 85 14 w.tv (tkC s.T) s.T.length w.tvb,slR 156 0 w.hv (ptC w.ths) s.Th.length w.hvb,slR 2 0 w.gv (isV s.G) s.G.length w.gvb,slR 2 0 w.lv (isV s.log) s.log.length w.lvb,
  slR 68 7 w.mv (mkC s.M) s.M.length w.mvb,slR 3 0 w.ov (isV s.on) s.on.length w.ovb]
def mcT (P:Prg) (V:PrV) (s:MS) (w:MW):List Res:=qpP s.Q w.qs++tpP (pvL P V) s.Th w.ths
def mcL (mb ph:Nat) (P:Prg) (V:PrV) (s:MS) (w:MW):List Res:=mcH mb ph P V s w++mcT P V s w
def mcR (mb ph:Nat) (P:Prg) (V:PrV) (s:MS) (tp bs:List Nat):Res:=Q2U (fun L=> ∃w:MW,((w.qs.length=s.Q.length/\w.ths.length=s.Th.length)/\w.ths.map Prod.fst=tp)/\L=mcL mb ph P V s w) bs
theorem Qa4: ∀(l:List (List MItem)) (c:List (Nat×List Nat)) (j:Nat) (o:List MItem) (v:Nat×List Nat),l[j]?=some o->c[j]?=some v->(qpP l c)[j]?=some (quR v.1 o v.2)
 | o::l,v::c,0,o',v',h1,h2=>by
   simp only[v0S,v0i.injEq]at h1 h2;subst h1;subst h2;rfl
 |o::l,v::c,j+1,o',v',h1,h2=>Qa4 l c j o' v' (by simpa using h1) (by simpa using h2)
 | [],_,_,_,_,h1,_=>by simp at h1
 |_::_,[],_,_,_,_,h2=>by simp at h2
theorem Qe4 (pv:List Value): ∀(l:List MThr) (c:List (Nat×List Nat)) (j:Nat) (o:MThr) (v:Nat×List Nat),l[j]?=some o->c[j]?=some v->(tpP pv l c)[j]?=some (thR v.1 pv o v.2)
 | o::l,v::c,0,o',v',h1,h2=>by
   simp only[v0S,v0i.injEq]at h1 h2;subst h1;subst h2;rfl
 |o::l,v::c,j+1,o',v',h1,h2=>Qe4 pv l c j o' v' (by simpa using h1) (by simpa using h2)
 | [],_,_,_,_,h1,_=>by simp at h1
 |_::_,[],_,_,_,_,h2=>by simp at h2
theorem Q28: ∀(l:List (List MItem)) (c:List (Nat×List Nat)),c.length=l.length->(qpP l c).length=l.length
 | [],_,_=>rfl
 |_::_,[],h=>by simp at h
 | o::l,v::c,h=>by
   show(_::qpP l c).length=_;rw[v1f,Q28 l c (by simpa using h),v1f]
theorem Qa3 (g:List MItem->List MItem) (aa:List Nat): ∀(l:List (List MItem)) (c:List (Nat×List Nat)) (j:Nat) (o:List MItem) (v:Nat×List Nat),l[j]?=some o->c[j]?=some v->(qpP l c).set j (quR v.1 (g o) aa)=qpP (l.modify j g) (c.set j (v.1,aa))
 | o::l,v::c,0,o',v',h1,h2=>by
   simp only[v0S,v0i.injEq]at h1 h2;subst h1;subst h2;rfl
 | o::l,v::c,j+1,o',v',h1,h2=>by
   rw[v07,v1N];show _::(qpP l c).set j _=_::qpP _ _;rw[Qa3 g aa l c j o' v' (by simpa using h1) (by simpa using h2)]
 | [],_,_,_,_,h1,_=>by simp at h1
 |_::_,[],_,_,_,_,h2=>by simp at h2
theorem Q9q (pv:List Value) (T':MThr) (aa:List Nat): ∀(l:List MThr) (c:List (Nat×List Nat)) (j:Nat) (v:Nat×List Nat),j <l.length->c[j]?=some v->(tpP pv l c).set j (thR v.1 pv T' aa)=tpP pv (l.set j T') (c.set j (v.1,aa))
 | o::l,v::c,0,v',h1,h2=>by
   simp only[v0S,v0i.injEq]at h2;subst h2;rfl
 | o::l,v::c,j+1,v',h1,h2=>by
   rw[v1N,v1N];show _::(tpP pv l c).set j _=_::tpP pv _ _;rw[Q9q pv T' aa l c j v' (by simpa using h1) (by simpa using h2)]
 | [],_,_,_,h1,_=>by simp at h1
 |_::_,[],_,_,_,h2=>by simp at h2
theorem Q7j (pv:List Value): ∀(l:List MThr) (c:List (Nat×List Nat)) (o:MThr) (v:Nat×List Nat),c.length=l.length->tpP pv (l++[o]) (c++[v])=tpP pv l c++[thR v.1 pv o v.2]
 | [],[],_,_,_=>rfl
 | [],_::_,_,_,h=>by simp at h
 |_::_,[],_,_,h=>by simp at h
 | o::l,v::c,o',v',h=>by
   show _::tpP pv (l++[o']) (c++[v'])=_;rw[Q7j pv l c o' v' (by simpa using h)];rfl
theorem Qa5 {c:List (Nat×List Nat)} {j:Nat} {v:Nat×List Nat} {aa:List Nat} (h:c[j]?=some v):ptC (c.set j (v.1,aa))=ptC c:=by
 unfold ptC;rw[List.map_set];refine v09 fun i=>?_;rw[v18]
 split
 · rename_i e;subst e
   split
   · rw[v0y,h];rfl
   rename_i h2;rw[v02 (by omega)]
 rfl
section
variable {h0 h:Hp} {ds:List Nat} {A B:List Res} {mb ph:Nat} {P:Prg} {V:PrV} {s:MS} {tp bs:List Nat}
theorem QJ (S:SH h0 ds (A++[mcR mb ph P V s tp bs]) h): ∃w:MW,(w.qs.length=s.Q.length/\w.ths.length=s.Th.length)/\w.ths.map Prod.fst=tp/\owns (mcL mb ph P V s w)=bs/\SH h0 ds (A++mcL mb ph P V s w) h:=by
 obtain⟨L,⟨w,hw,rfl⟩,h2,h3⟩:=Jk S;exact⟨w,hw.1,hw.2,h2,h3⟩
theorem Qr {w:MW} (S:SH h0 ds (A++mcL mb ph P V s w) h) (hw:w.qs.length=s.Q.length/\w.ths.length=s.Th.length) (ht:w.ths.map Prod.fst=tp): ∃aa,SH h0 ds (A++[mcR mb ph P V s tp aa]) h:=⟨_,KF S ⟨w,⟨hw,ht⟩,rfl⟩⟩
end
theorem Qar {c:List (Nat×List Nat)} {j:Nat} {v:Nat×List Nat} {aa:List Nat} (h:c[j]?=some v):(c.set j (v.1,aa)).map Prod.fst=c.map Prod.fst:=by
 rw[List.map_set];refine v09 fun i=>?_;rw[v18]
 split
 · rename_i e;subst e
   split
   · rw[v0y,h];rfl
   rename_i h2;rw[v02 (by omega)]
 rfl
section
variable {mb ph:Nat} {P:Prg} {V:PrV} {s:MS} {w:MW} {j:Nat} {v:Nat×List Nat}
theorem mc_q {L:List MItem} (hj:s.Q[j]?=some L) (hv:w.qs[j]?=some v):(mcL mb ph P V s w)[j+10]?=some (quR v.1 L v.2):=by
 have e:=Qa4 s.Q w.qs j L v hj hv;show(qpP s.Q w.qs++tpP (pvL P V) s.Th w.ths)[j]?=_;rw[v0C (v0z.1 e).1];exact e
theorem Q6P {L:List MItem} (g:List MItem->List MItem) (aa:List Nat) (hj:s.Q[j]?=some L) (hv:w.qs[j]?=some v):(mcL mb ph P V s w).set (j+10) (quR v.1 (g L) aa)=mcL mb ph P V {s with Q:=s.Q.modify j g} {w with qs:=w.qs.set j (v.1,aa)}:=by
 have e:=Qa4 s.Q w.qs j L v hj hv;show mcH mb ph P V s w++(qpP s.Q w.qs++tpP (pvL P V) s.Th w.ths).set j _=mcH mb ph P V _ _++(qpP (s.Q.modify j g) (w.qs.set j (v.1,aa))++tpP (pvL P V) s.Th w.ths);rw[List.set_append_left _ _ (v0z.1 e).1,Qa3 g aa _ _ _ _ _ hj hv]
 congr 1
 show[_,_,_,_,_,_,_,_,_,_]=[_,_,slR 98 0 w.qv (ptC (w.qs.set j (v.1,aa))) (s.Q.modify j g).length w.qvb,_,_,_,_,_,_,_];rw[Qa5 hv,v0l]
theorem QgF {T:MThr} (hq:w.qs.length=s.Q.length) (hj:s.Th[j]?=some T) (hv:w.ths[j]?=some v):(mcL mb ph P V s w)[j+s.Q.length+10]?=some (thR v.1 (pvL P V) T v.2):=by
 have e:=Qe4 (pvL P V) s.Th w.ths j T v hj hv;show(qpP s.Q w.qs++tpP (pvL P V) s.Th w.ths)[j+s.Q.length]?=_;rw[List.getElem?_append_right (by rw[Q28 _ _ hq];omega),Q28 _ _ hq,v2s];exact e
theorem Q6O {T':MThr} (aa:List Nat) (hq:w.qs.length=s.Q.length) (hj:j <s.Th.length) (hv:w.ths[j]?=some v):(mcL mb ph P V s w).set (j+s.Q.length+10) (thR v.1 (pvL P V) T' aa)=mcL mb ph P V {s with Th:=s.Th.set j T'} {w with ths:=w.ths.set j (v.1,aa)}:=by
 show mcH mb ph P V s w++(qpP s.Q w.qs++tpP (pvL P V) s.Th w.ths).set (j+s.Q.length) _=mcH mb ph P V _ _++(qpP s.Q w.qs++tpP (pvL P V) (s.Th.set j T') (w.ths.set j (v.1,aa)));rw[v2y _ _ (by rw[Q28 _ _ hq];omega),Q28 _ _ hq,v2s,Q9q _ _ _ _ _ _ _ hj hv]
 congr 1
 show[_,_,_,_,_,_,_,_,_,_]=[_,_,_,_,_,slR 156 0 w.hv (ptC (w.ths.set j (v.1,aa))) (s.Th.set j T').length w.hvb,_,_,_,_];rw[Qa5 hv,v0q]
end
theorem el36:ElN modE 43 68 7 63:=⟨by kernel_rfl,by kernel_rfl,by kernel_rfl,.agg #[.int .i64 0,.int .i64 0,.int .i64 0,.int .i64 0,.int .i64 0,.int .i64 0,.int .i64 0,.bool false],by kernel_rfl,rfl⟩
theorem el27:ElN modE 40 85 14 119:=⟨by kernel_rfl,by kernel_rfl,by kernel_rfl,.agg #[.int .i64 0,.int .i64 0,.int .i64 0,.int .i64 0,.int .i64 0,.int .i64 0,.int .i64 0,.bool false,.int .i64 0,.int .i64 0,.int .i64 0,.int .i64 0,.int .i64 0,.int .i64 0,.int .i64 0],by kernel_rfl,rfl⟩
theorem el139:ElN modE 41 156 0 7:=⟨by kernel_rfl,by kernel_rfl,by kernel_rfl,.pointer none,by kernel_rfl,rfl⟩
section
variable {h0 h:Hp} {P:Prg} {V:PrV} {mb ph:Nat} {s:MS} {tp bs:List Nat}
theorem m75 {k task other:Int} (S0:SH h0 [] [mcR mb ph P V s tp bs] h) (hm:s.M.length<=100000):C modE 90 [Qn mb,iV k,iV task,iV other] h fun _ g'=> ∃aa,SH h bs [mcR mb ph P V (Yn s k task other) tp aa] g':=by
 have SE:=S0.enter;obtain⟨w,hw,bm,ai,SE⟩:=QJ (A:=[]) SE;have SE:SH h bs (mcL mb ph P V s w) h:=SE;obtain⟨ma,mc,jn⟩:=Qa (SE.sl 8 rfl);refine Q9 (fu:=Tryz.f90) (by kernel_rfl) rfl ?_;have S:=SE;refine Q2 (by kernel_rfl)<|I1 rfl<|I1 rfl<|I6 rfl<|I0 16 rfl<|I4 rfl (S.cel 0 rfl) rfl<|I1 rfl<|I1 rfl<|I1 rfl<|Qs (cs:= #[iV k,iV task,iV other,iV 0,iV 0,iV 0,iV 0,.bool false]) (zv:=.agg #[iV 0,iV 0,iV 0,iV 0,iV 0,iV 0,iV 0,.bool false]) (pl:=[(0,1),(1,1),(2,1),(3,5)]) [(0,_),(1,_),(2,_)] gn rfl (by kernel_rfl) (by kernel_rfl) rfl (by kernel_rfl) ?_
 refine Qd (cs:= #[iV k,iV task,iV other,iV 0,iV 0,iV 0,iV 0,.bool false]) (e:=68) (z:=7) (zv:=.agg #[iV 0,iV 0,iV 0,iV 0,iV 0,iV 0,iV 0,.bool false]) [(0,_)] S gn rfl (by kernel_rfl) (by kernel_rfl) (by kernel_rfl) (by kernel_rfl) rfl (by kernel_rfl) fun b1 g aF S=>?_;refine QD (e:=68) (z:=7) (by':=63) 9 0 S el36 gn rfl rfl rfl rfl rfl rfl (by rfl) (by omega) (fun s' aa g S=>ag0) fun s' aa g S=>?_;refine I6 rfl<|I0 16 rfl ?_;have bR:cellV s'=true:=(S.sl 9 rfl).cellV;refine Qj 1 S gn rfl rfl bR (by kernel_rfl) rfl (by decide) (by simp) (fun g S=>ag0) fun g S=>?_;refine Q0 ?_;refine⟨.inr rfl,_,rfl,?_⟩
 exact(by
  have e:mkC (Yn s k task other).M=mkC s.M++mkV ⟨k,task,other,Q6K⟩:=Q43 _ _;have e2:(Yn s k task other).M.length=s.M.length+1:=by simp[Yn]
  refine Qr (A:=[]) (w:= {w with mv:=s',mvb:=aa}) ?_ hw bm;show SH h bs (mcL mb ph P V (Yn s k task other) {w with mv:=s',mvb:=aa}) _;unfold mcL mcH
  rw[e,e2];exact S.drop)
theorem m76 {task site k a:Int} {wrt:Bool} (S0:SH h0 [] [mcR mb ph P V s tp bs] h) (hm:s.M.length<=100000):C modE 91 [Qn mb,iV task,iV site,iV k,iV a,.bool wrt] h fun _ g'=> ∃aa,SH h bs [mcR mb ph P V (Jm s task site k a wrt) tp aa] g':=by
 have SE:=S0.enter;obtain⟨w,hw,bm,ai,SE⟩:=QJ (A:=[]) SE;have SE:SH h bs (mcL mb ph P V s w) h:=SE;refine Q9 (fu:=Tryz.f91) (by kernel_rfl) rfl ?_;have S:=SE;refine Q2 (by kernel_rfl)<|I1 rfl<|I1 rfl<|I6 rfl<|I0 16 rfl<|I4 rfl (S.cel 0 rfl) rfl<|I1 rfl<|I1 rfl<|I1 rfl<|I1 rfl<|Qs (cs:= #[iV k,iV a,iV 0]) (zv:=.agg #[iV 0,iV 0,iV 0]) (pl:=[(0,1),(1,1),(2,1)]) [(0,_),(1,_)] gn rfl (by kernel_rfl) (by kernel_rfl) rfl (by kernel_rfl)<|I1 rfl ?_
 refine Qs (cs:= #[iV site,iV k,iV a,iV 0,.bool wrt]) (zv:=.agg #[iV 0,iV 0,iV 0,iV 0,.bool false]) (pl:=[(0,1),(1,3),(4,1)]) [(0,_),(1,_),(2,_)] gn rfl (by kernel_rfl) (by kernel_rfl) rfl (by kernel_rfl)<|Qs (cs:= #[iV 3,iV task,iV 0,iV site,iV k,iV a,iV 0,.bool wrt]) (zv:=.agg #[iV 0,iV 0,iV 0,iV 0,iV 0,iV 0,iV 0,.bool false]) (pl:=[(0,1),(1,1),(2,1),(3,5)]) [(0,_),(1,_),(3,_)] gn rfl (by kernel_rfl) (by kernel_rfl) rfl (by kernel_rfl) ?_
 refine Qd (cs:= #[iV 3,iV task,iV 0,iV site,iV k,iV a,iV 0,.bool wrt]) (e:=68) (z:=7) (zv:=.agg #[iV 0,iV 0,iV 0,iV 0,iV 0,iV 0,iV 0,.bool false]) [(0,_)] S gn rfl (by kernel_rfl) (by kernel_rfl) (by kernel_rfl) (by kernel_rfl) rfl (by kernel_rfl) fun b1 g aF S=>?_;refine QD (e:=68) (z:=7) (by':=63) 9 0 S el36 gn rfl rfl rfl rfl rfl rfl (by rfl) (by omega) (fun s' aa g S=>ag0) fun s' aa g S=>?_;refine I6 rfl<|I0 16 rfl ?_;have bR:cellV s'=true:=(S.sl 9 rfl).cellV;refine Qj 1 S gn rfl rfl bR (by kernel_rfl) rfl (by decide) (by simp) (fun g S=>ag0) fun g S=>?_;refine Q0 ?_;refine⟨.inr rfl,_,rfl,?_⟩
 exact(by
  have e:mkC (Jm s task site k a wrt).M=mkC s.M++mkV ⟨3,task,0,⟨site,k,a,0,wrt⟩⟩:=Q43 _ _;have e2:(Jm s task site k a wrt).M.length=s.M.length+1:=by simp[Jm]
  refine Qr (A:=[]) (w:= {w with mv:=s',mvb:=aa}) ?_ hw bm;show SH h bs (mcL mb ph P V (Jm s task site k a wrt) {w with mv:=s',mvb:=aa}) _;unfold mcL mcH
  rw[e,e2];exact S.drop)
theorem m53 (S0:SH h0 [] [mcR mb ph P V s tp bs] h):C modE 58 [Qn mb] h fun v g'=>v=iV 11/\ ∃aa,SH h bs [mcR mb ph P V {s with full:=true} tp aa] g':=by
 have SE:=S0.enter;obtain⟨w,hw,bm,ai,SE⟩:=QJ (A:=[]) SE;have SE:SH h bs (mcL mb ph P V s w) h:=SE;refine Q9 (fu:=Tryz.f58) (by kernel_rfl) rfl ?_;have S:=SE;refine Q6<|I2 rfl<|QG<|I1 rfl<|I6 rfl<|I0 20 rfl ?_;refine Qj 0 S gn rfl rfl rfl (by kernel_rfl) rfl (by decide) (by simp) (fun g S=>ag0) fun g S=>?_;refine QG<|I2 rfl<|Q0<|Q8 ⟨.inl rfl,_,rfl,⟨rfl,Qr (A:=[]) (w:=w) (s:= {s with full:=true}) S hw bm⟩⟩
end
section
variable {h0 h:Hp} {P:Prg} {V:PrV} {mb ph:Nat} {s:MS} {tp bs:List Nat}
theorem m26 {t:MTask} {cells:List Int} {cv:Value} (S0:SH h0 [] [mcR mb ph P V s tp bs] h) (X0:Q1r h0 P V) (hM:ZM P=true) (k:MOk P s) (f0:0<=t.fn) (f1:t.fn <P.funs.length) (ak:t.looper <P.loopers) (hd:0<=t.delay/\t.delay<=1000000000) (hc: ∀g,ExtB bs h g->RowV g cv (isV cells)) (hlen:(cells.length:Int)=(Qz P t.fn).caps):C modE 22 [Qn mb,.agg (tkV t).toArray,cv] h fun v g'=>v=iV (Qcj s)/\ ∃tl aa,SH h bs [mcR mb ph P V (Y7 P s t cells) (tp++tl) aa] g':=by
 have SE:=S0.enter;obtain⟨w,hw,bm,ai,SE⟩:=QJ (A:=[]) SE;have SE:SH h bs (mcL mb ph P V s w) h:=SE;obtain⟨ta,tc,bp⟩:=Qa (SE.sl 4 rfl);obtain⟨np,nk⟩:=k.now;obtain⟨hd0,hd1⟩:=hd;have hk:=k.t;have fA:=k.th;refine Q9 (fu:=Tryz.f22) (by kernel_rfl) rfl ?_;have S:=SE;refine Q6 ?_;refine QV S gn rfl rfl fun b1 g aF S=>?_;have S:SH h bs (cR b1 (.cells (tkV t) 85 0)::mcL mb ph P V s w) g:=S;refine I2 rfl<|Z5<|I1 rfl<|I6 rfl<|I0 12 rfl<|I4 rfl (S.cel 1 rfl) rfl ?_;rw[bp];refine I7 rfl ?_;rw[<-bp];refine Ih rfl rfl<|Q0<|Q3 rfl (fun hb=>?_) fun hb=>?_
 · skip
   refine Q6<|I2 rfl<|Q0<|Q8 ?_;refine⟨.inl rfl,_,rfl,?_⟩
   exact(by
    have hf:256<=s.T.length:=by simp at hb;omega
    refine⟨by unfold Qcj;rw[if_pos hf];rfl,?_⟩;unfold Y7;rw[if_pos hf]
    exact⟨[],by rw[v0k];exact Qr (A:=[]) S.drop hw bm⟩)
 refine Q4<|Q6 ?_;have hf: ¬256<=s.T.length:=by simp at hb;omega
 have hl255:s.T.length <256:=by omega
 refine I0 11 rfl ?_;refine Qj 0 S gn rfl rfl rfl (by kernel_rfl) rfl (by decide) (show 11 <(tkV t).length by rw[ZL];decide) (fun g S=>ag0) fun g S=>?_;refine Q0<|Q5<|I9<|I1 rfl<|I6 rfl<|I0 18 rfl<|I4 rfl (S.cel 1 rfl) rfl<|I0 8 rfl<|I4 rfl (S.cel 0 rfl) rfl<|Iao rfl rfl<|I0 9 rfl ?_;refine Qj 0 S gn rfl rfl rfl (by kernel_rfl) rfl (by decide) (show 9 <((tkV t).set 11 (iV 1)).length by rw[v0q,ZL];decide) (fun g S=>ag0) fun g S=>?_;refine Q0<|Q5<|I9 ?_;have S:SH h bs (cR b1 (.cells (tkV (Yq s t)) 85 0)::mcL mb ph P V s w) g:=S
 refine I1 rfl<|I1 rfl<|I6 rfl<|I0 12 rfl<|I4 rfl (S.cel 1 rfl) rfl<|I3 15 rfl (S.cel 0 rfl) (v0b _) ?_;refine Qd (cs:=(tkV (Yq s t)).toArray) (e:=85) (z:=14) (zv:=.agg #[iV 0,iV 0,iV 0,iV 0,iV 0,iV 0,iV 0,.bool false,iV 0,iV 0,iV 0,iV 0,iV 0,iV 0,iV 0]) [(0,_)] S gn rfl (by kernel_rfl) (by kernel_rfl) (by kernel_rfl) (by kernel_rfl) rfl (by kernel_rfl) fun b2 g bL S=>?_;refine QD (e:=85) (z:=14) (by':=119) 6 0 S el27 gn rfl rfl rfl rfl rfl rfl (by rfl) (by omega) (fun s' aa g S=>ag0) fun s' aa g S=>?_;refine I6 rfl<|I0 12 rfl ?_;have bR:cellV s'=true:=(S.sl 6 rfl).cellV
 refine Qj 2 S gn rfl rfl bR (by kernel_rfl) rfl (by decide) (by simp) (fun g S=>ag0) fun g S=>?_
 have S1:SH h bs (cR b1 (.cells (tkV (Yq s t)) 85 0)::mcL mb ph P V {s with T:=s.T++[Yq s t]} {w with tv:=s',tvb:=aa}) g:=by
  have S1:=SH.drop S;unfold mcL mcH;show SH h bs (_::([_,_,_,_,slR 85 14 s' (tkC (s.T++[Yq s t])) (s.T++[Yq s t]).length aa,_,_,_,_,_]++mcT P V s w)) g;rw[Qct,v0j];exact S1
 have S:=S1;refine Q0<|Q5<|I9<|I1 rfl<|I6 rfl<|I0 0 rfl<|I3 8 rfl (S.cel 1 rfl) (by simp)<|I0 3 rfl<|I4 rfl (S.cel 0 rfl) rfl<|I1 rfl<|Ic [_,_,_] rfl rfl (C.mono (m49 (X0.ext (S0.all0 S0.own0 S)) hM f0 f1 (hc _ S.ext) hlen) ?_);rintro v g ⟨tb,tbs,rfl,S2⟩;have S:=SH.retL (A:=[]) S S2;have S:SH h bs (thR tb (pvL P V) ⟨[Ye P t.fn cells],0⟩ tbs::cR b1 (.cells (tkV (Yq s t)) 85 0)::mcL mb ph P V {s with T:=s.T++[Yq s t]} {w with tv:=s',tvb:=aa}) g:=S;refine⟨ag0,?_⟩;refine I1 rfl<|Ix rfl rfl<|Ix rfl rfl<|I2 rfl ?_
 refine I2 rfl<|QG<|I1 rfl<|I1 rfl<|I6 rfl<|I0 13 rfl<|I4 rfl (S.cel 2 rfl) rfl<|I1 rfl ?_;refine Qd (cs:= #[Qn tb]) (e:=156) (z:=0) (zv:=.pointer none) [(0,_)] S gn rfl (by kernel_rfl) (by kernel_rfl) (by kernel_rfl) (by kernel_rfl) rfl (by kernel_rfl) fun b3 g fq S=>?_;refine QD (e:=156) (z:=0) (by':=7) 8 0 S el139 gn rfl rfl rfl rfl rfl rfl (by rfl) (by show(s.Th.length+1)*(7+1)<=1099511627776;omega) (fun s' aa g S=>ag0) fun s2' dR g S=>?_;refine I6 rfl<|I0 13 rfl ?_;have gH:cellV s2'=true:=(S.sl 8 rfl).cellV
 refine Qj 3 S gn rfl rfl gH (by kernel_rfl) rfl (by decide) (by simp) (fun g S=>ag0) fun g S=>?_
 have S3:SH h bs (thR tb (pvL P V) ⟨[Ye P t.fn cells],0⟩ tbs::(cR b1 (.cells (tkV (Yq s t)) 85 0)::(mcH mb ph P V {s with T:=s.T++[Yq s t],Th:=s.Th++[⟨[Ye P t.fn cells],0⟩]} {w with tv:=s',tvb:=aa,hv:=s2',hvb:=dR,ths:=w.ths++[(tb,tbs)]}++(qpP s.Q w.qs++tpP (pvL P V) s.Th w.ths)))) g:=by
  have S3:=SH.drop S;unfold mcH;show SH h bs (_::_::([_,_,_,_,_,slR 156 0 s2' (ptC (w.ths++[(tb,tbs)])) (s.Th++[(⟨[Ye P t.fn cells],0⟩:MThr)]).length dR,_,_,_,_]++(qpP s.Q w.qs++tpP (pvL P V) s.Th w.ths))) g;rw[show ptC (w.ths++[(tb,tbs)])=ptC w.ths++[Qn tb] from v0P ..,show(s.Th++[(⟨[Ye P t.fn cells],0⟩:MThr)]).length=s.Th.length+1 from v0j];exact S3
 have S4:=SH.comm (A:=[_]) S3;obtain⟨s2,aL⟩: ∃s2:MS,s2= {s with T:=s.T++[Yq s t],Th:=s.Th++[⟨[Ye P t.fn cells],0⟩]}:=⟨_,rfl⟩;have q1:s2.T.length=s.T.length+1:=by rw[aL];simp
 have q2:s2.Q=s.Q:=by rw[aL]
 have q3:s2.Th.length=s.Th.length+1:=by rw[aL];simp
 obtain⟨w2,aI,aN,S⟩: ∃w2:MW,(w2.qs.length=s2.Q.length/\w2.ths.length=s2.Th.length)/\w2.ths.map Prod.fst=tp++[tb]/\SH h bs (cR b1 (.cells (tkV (Yq s t)) 85 0)::mcL mb ph P V s2 w2) g:=⟨{w with tv:=s',tvb:=aa,hv:=s2',hvb:=dR,ths:=w.ths++[(tb,tbs)]},by
  refine⟨by rw[q2];exact hw.1,?_⟩;rw[q3];show(w.ths++[(tb,tbs)]).length=_;rw[v0j,hw.2];rfl,by
  show(w.ths++[(tb,tbs)]).map Prod.fst=_;rw[v0P,bm];rfl,by
  rw[aL];unfold mcL mcT;show SH h bs (_::(mcH mb ph P V _ _++(qpP s.Q w.qs++tpP (pvL P V) (s.Th++[⟨[Ye P t.fn cells],0⟩]) (w.ths++[(tb,tbs)])))) g;rw[Q7j _ _ _ _ _ hw.2,<-v0B (qpP s.Q w.qs),<-v0B (mcH mb ph P V _ _)]
  exact S4⟩
 obtain⟨ta2,mB,bn⟩:=Qa (S.sl 5 rfl);refine Z5<|I0 4 rfl<|I4 rfl (S.cel 0 rfl) rfl<|Ih rfl rfl<|Q0<|Q3 rfl (fun hb=>?_) fun hb=>?_
 · skip
   refine I9 ?_
   have gu:0<=t.looper:=by
    have h':0<=(Yq s t).looper:=by simpa using hb
    exact h'
   have hQl:=k.q;have dW:(Yq s t).looper=t.looper:=rfl;have bK:t.looper.toNat <s2.Q.length:=by rw[q2];omega
   obtain⟨L,lM⟩: ∃L,s2.Q[t.looper.toNat]?=some L:=⟨_,v0c bK⟩;obtain⟨qv,gN⟩: ∃v,w2.qs[t.looper.toNat]?=some v:=⟨_,v0c (by rw[aI.1];exact bK)⟩;have oD:L.length<=256:=v0p (k.ql L (by rw[<-q2];exact v0m lM)) (by omega);obtain⟨qb,qm,qc,qr,cA,dJ,_⟩:=(S.sl 3 rfl).at (by omega)
   have iR:(ptC w2.qs++qr)[0+v0g t.looper*1]?=some (Qn qv.1):=by
    rw[v0f,v0x,v0C (by rw[v0s,aI.1];exact bK),v0y,gN];rfl
   have dz:(cR b1 (.cells (tkV (Yq s t)) 85 0)::mcL mb ph P V s2 w2)[t.looper.toNat+10+1]?=some (quR qv.1 L qv.2):=mc_q (mb:=mb) (ph:=ph) lM gN;refine I1 rfl<|I6 rfl<|I0 10 rfl<|I4 rfl (S.cel 1 rfl) rfl<|I0 4 rfl<|I4 rfl (S.cel 0 rfl) rfl ?_;rw[cA];refine I5o 1 rfl rfl ?_;rw[<-cA];refine I4 rfl dJ iR<|I1 rfl<|I6 rfl<|I0 12 rfl<|I4 rfl (S.cel 1 rfl) rfl ?_;rw[bn];refine I7 rfl ?_;rw[<-bn];refine I0 7 rfl<|I4 rfl (S.cel 0 rfl) rfl<|I0 9 rfl<|I4 rfl (S.cel 0 rfl) rfl ?_
   refine Qs (cs:= #[iV (s2.T.length:Nat),.bool t.front,iV (s.now+t.delay)]) (zv:=.agg #[iV 0,.bool false,iV 0]) (pl:=[(0,1),(1,1),(2,1)]) [(0,_),(1,_),(2,_)] gn rfl (by kernel_rfl) (by kernel_rfl) rfl (by kernel_rfl)<|Ic [_,_] rfl rfl (C.mono (m50 (x:=⟨(s2.T.length:Nat),t.front,s.now+t.delay⟩) (SH.sub1 S0 S0.own0 S _ dz) (by omega)) ?_);rintro v g ⟨rfl,bF,S2⟩;have S:=S.ret _ dz S2
   obtain⟨w3,cN,di,mJ,S⟩: ∃w3:MW,(w3.qs.length=s2.Q.length/\w3.ths.length=s2.Th.length)/\w3.ths.map Prod.fst=tp++[tb]/\w3.tv=w2.tv/\SH h bs (cR b1 (.cells (tkV (Yq s t)) 85 0)::mcL mb ph P V {s2 with Q:=s2.Q.modify t.looper.toNat fun L=>Q4I L ⟨(s2.T.length:Nat),t.front,s.now+t.delay⟩} w3) g:=⟨{w2 with qs:=w2.qs.set t.looper.toNat (qv.1,bF)},⟨by
    show(w2.qs.set _ _).length=_
    rw[v0q];exact aI.1,aI.2⟩,aN,rfl,by
    have e:=Q6P (mb:=mb) (ph:=ph) (P:=P) (V:=V) (s:=s2) (w:=w2) (fun L=>Q4I L ⟨(s2.T.length:Nat),t.front,s.now+t.delay⟩) bF lM gN
    rw[<-e];exact S⟩
   refine⟨ag0,?_⟩;refine QG<|I1 rfl<|I6 rfl<|I0 12 rfl<|I4 rfl (S.cel 1 rfl) rfl ?_;rw[mJ,bn];refine I7 rfl ?_;rw[<-bn,<-mJ];refine I2 rfl<|Q0<|Q8 ?_;refine⟨.inl rfl,_,rfl,?_⟩
   exact(by
    have e:Y7 P s t cells= {s2 with Q:=s2.Q.modify t.looper.toNat fun L=>Q4I L ⟨(s2.T.length:Nat),t.front,s.now+t.delay⟩}:=by
     rw[q1,aL];unfold Y7;rw[if_neg hf,if_pos gu];simp
    refine⟨by unfold Qcj;rw[if_neg hf,q1];simp[oneOf],?_⟩;rw[e]
    exact⟨[tb],Qr (A:=[]) S.drop ⟨by rw[cN.1];exact(v0l ..).symm,cN.2⟩ di⟩)
 refine Q4<|Q6<|I1 rfl<|I6 rfl<|I0 12 rfl<|I4 rfl (S.cel 1 rfl) rfl ?_;rw[bn];refine I7 rfl ?_;rw[<-bn];refine I2 rfl<|Q0<|Q8 ?_;refine⟨.inl rfl,_,rfl,?_⟩
 exact(by
  have gu: ¬0<=t.looper:=by
   have h':(Yq s t).looper <0:=by simpa using hb
   have h'':t.looper <0:=h';omega
  have e:Y7 P s t cells=s2:=by
   rw[aL];unfold Y7;rw[if_neg hf,if_neg gu]
  refine⟨by unfold Qcj;rw[if_neg hf,q1];simp[oneOf],?_⟩;rw[e]
  exact⟨[tb],Qr (A:=[]) S.drop aI aN⟩)
end
theorem Q30 {s:MS} {id:Int} (h1:1<=id) (h2:id<=s.T.length):s.T[(id -1).toNat]?=some (ZF s id):=by
 unfold ZF;rw[v0c (by omega)];rfl
theorem Q1P {h:Hp} {s:MS} {tv:Value} {bs:List Nat} {id:Int} (x:SlC 85 14 h tv (tkC s.T) s.T.length bs) (h1:1<=id) (h2:id<=s.T.length): ∃b c cs m,tv=.slice (some ⟨b,0,none⟩) s.T.length c/\h.get b=some (.cells cs 85 m)/\ ∀f v,f <15->(tkV (ZF s id))[f]?=some v->cs[0+v0g (id -1)*15+f]?=some v:=by
 obtain⟨b,m,c,r,hv,hg,_⟩:=x.at (by omega);refine⟨b,c,_,m,hv,hg,fun f v hf hv=>?_⟩;rw[v0f];exact Qv (Q4Q r (Q30 h1 h2)) hf hv
def trM (s:MS) (id k:Int):MS:= {s with T:=s.T.modify (id -1).toNat fun t=> {t with trap:=k}}
section
variable {mb ph:Nat} {P:Prg} {V:PrV} {s:MS} {w:MW} {id k:Int}
theorem QfF (h1:1<=id) (h2:id<=s.T.length):(mcL mb ph P V s w).set 4 (slR 85 14 w.tv ((tkC s.T).set (0+v0g (id -1)*15+11) (iV k)) s.T.length w.tvb)=mcL mb ph P V (stM s id k) w:=by
 have e:(tkC s.T).set (0+v0g (id -1)*15+11) (iV k)=tkC (stM s id k).T:=by
  rw[v0f];exact Q5R tkV 15 11 (fun t=> {t with state:=k}) (iV k) ZL (by omega) _ _ _ (Q30 h1 h2) rfl
 have e2:s.T.length=(stM s id k).T.length:=(v0l ..).symm;rw[e,e2];rfl
theorem mc_tr (h1:1<=id) (h2:id<=s.T.length):(mcL mb ph P V s w).set 4 (slR 85 14 w.tv ((tkC s.T).set (0+v0g (id -1)*15+12) (iV k)) s.T.length w.tvb)=mcL mb ph P V (trM s id k) w:=by
 have e:(tkC s.T).set (0+v0g (id -1)*15+12) (iV k)=tkC (trM s id k).T:=by
  rw[v0f];exact Q5R tkV 15 12 (fun t=> {t with trap:=k}) (iV k) ZL (by omega) _ _ _ (Q30 h1 h2) rfl
 have e2:s.T.length=(trM s id k).T.length:=(v0l ..).symm;rw[e,e2];rfl
end
section
variable {h0 h:Hp} {P:Prg} {V:PrV} {mb ph:Nat} {s:MS} {tp bs:List Nat}
theorem m55 {id:Int} (S0:SH h0 [] [mcR mb ph P V s tp bs] h) (k:MOk P s) (h1:1<=id) (h2:id<=s.T.length) (hm:s.M.length<=99990):C modE 60 [Qn mb,iV id] h fun _ g'=> ∃aa,SH h bs [mcR mb ph P V (JS s id) tp aa] g':=by
 have SE:=S0.enter;obtain⟨w,hw,bm,ai,SE⟩:=QJ (A:=[]) SE;have SE:SH h bs (mcL mb ph P V s w) h:=SE;have hk:=k.t;obtain⟨tb,tc,cs,m,bp,hg,aX⟩:=Q1P (SE.sl 4 rfl) h1 h2;refine Q9 (fu:=Tryz.f60) (by kernel_rfl) rfl ?_;have S:=SE;refine Q6<|I1 rfl<|I6 rfl<|I0 12 rfl<|I4 rfl (S.cel 0 rfl) rfl<|I1 rfl<|Iso rfl rfl ?_;rw[bp];refine I5o 15 rfl rfl ?_;rw[<-bp];refine I0 11 rfl<|Zq 4 S gn rfl rfl rfl (by kernel_rfl) rfl bp (by rw[Q1R];omega) (fun g S=>ag0) fun g S=>?_;rw[QfF h1 h2]at S;obtain⟨bD,S⟩:=Qr (A:=[]) (s:=stM s id 2) (w:=w) S ⟨hw.1,hw.2⟩ bm
 have S:SH h bs [mcR mb ph P V (stM s id 2) tp bD] g:=S;refine QG<|I1 rfl<|I1 rfl ?_;refine QZ [_,_,_,_] gn rfl rfl (by kernel_rfl) rfl (C.mono (m75 (SH.sub1 S0 S0.own0 S 0 rfl) (by show s.M.length<=100000;omega)) ?_);rintro v g ⟨bt,S2⟩;have S:=S.ret 0 rfl S2;have S:SH h bs [mcR mb ph P V (Yn (stM s id 2) 1 id 0) tp bt] g:=S;refine⟨ag0,?_⟩;refine QG ?_;obtain⟨w2,aI,aN,m8,S⟩:=QJ (A:=[]) S;have S:SH h bs (mcL mb ph P V (Yn (stM s id 2) 1 id 0) w2) _:=S;have h2':id<=(Yn (stM s id 2) 1 id 0).T.length:=by show id<=((s.T.modify _ _).length:Nat);rw[v0l];exact h2
 have aS:((Yn (stM s id 2) 1 id 0).T.length:Nat)=s.T.length:=v0l ..;obtain⟨tb2,mB,cJ,m2,bn,dM,fg⟩:=Q1P (S.sl 4 rfl) h1 h2'
 have etk:ZF (Yn (stM s id 2) 1 id 0) id= {ZF s id with state:=2}:=by
  have e:=Q30 h1 h2;show((s.T.modify (id -1).toNat _)[(id -1).toNat]?).getD default=_;rw[v2z,e];rfl
 rw[etk]at fg;refine I1 rfl<|I6 rfl<|I0 12 rfl<|I4 rfl (S.cel 0 rfl) rfl<|I1 rfl<|Iso rfl rfl ?_;rw[bn];refine I5o 15 rfl rfl ?_;rw[<-bn];refine I0 0 rfl<|I4 rfl dM (fg 0 _ (by decide) rfl)<|Ie rfl rfl<|Q0<|Q3 rfl (fun hb=>?_) fun hb=>?_
 · skip
   refine Q2 (by kernel_rfl)<|I1 rfl<|I1 rfl<|I1 rfl<|I6 rfl<|I0 12 rfl<|I4 rfl (S.cel 0 rfl) rfl<|I1 rfl<|Iso rfl rfl ?_;rw[bn];refine I5o 15 rfl rfl ?_;rw[<-bn];refine I0 1 rfl<|I4 rfl dM (fg 1 _ (by decide) rfl)<|I1 rfl ?_;obtain⟨bF,S⟩:=Qr (A:=[]) (s:=Yn (stM s id 2) 1 id 0) (w:=w2) S aI aN;have S:SH h bs [mcR mb ph P V (Yn (stM s id 2) 1 id 0) tp bF] _:=S;refine QZ [_,_,_,_,_,_] gn rfl rfl (by kernel_rfl) rfl (C.mono (m76 (SH.sub1 S0 S0.own0 S 0 rfl) (by show(s.M++[_]).length<=100000;rw[v0j];simp;omega)) ?_)
   rintro v g ⟨fM,S2⟩;have S:=S.ret 0 rfl S2;refine⟨ag0,?_⟩;refine Q0 ?_;refine⟨.inr rfl,_,rfl,?_⟩
   exact(by
    have k9:(ZF s id).kind=4:=by simpa using hb
    unfold JS;rw[if_pos k9]
    exact⟨_,S⟩)
 refine Q4 ?_;refine⟨.inr rfl,_,rfl,?_⟩
 exact(by
  have k9: ¬(ZF s id).kind=4:=by simpa using hb
  unfold JS;rw[if_neg k9]
  exact Qr (A:=[]) S aI aN)
theorem m94 {n k:Int} (S0:SH h0 [] [mcR mb ph P V s tp bs] h) (kk:MOk P s):CP modE 114 [Qn mb,iV n,iV k] h (iV (if 1<=n/\n<=s.T.length/\(ZF s n).kind=k then n else 0)):=by
 have SE:=S0.enter;obtain⟨w,hw,bm,ai,S⟩:=QJ (A:=[]) SE;have S:SH h bs (mcL mb ph P V s w) h:=S;have hk:=kk.t;obtain⟨ta,tc0,dh⟩:=Qa (S.sl 4 rfl);refine Q9 (fu:=Tryz.f114) (by kernel_rfl) rfl ?_;refine Q6<|I2 rfl<|Z5<|I1 rfl<|Il rfl rfl<|I1 rfl ?_
 refine QS (n:=7) rfl rfl rfl gn rfl (fun hb=>by
  refine D1 hb rfl<|D1 hb rfl<|D6 hb rfl<|D0 12 hb rfl<|D4 hb rfl (S.cel 0 rfl) rfl ?_;rw[dh];refine D7 hb rfl ?_;rw[<-dh];refine Dg hb rfl rfl ?_
  exact Q0 ⟨rfl,rfl,7,rfl,rfl⟩) ?_
 refine I1 rfl ?_
 refine QS (n:=11) rfl rfl rfl gn rfl (fun hb=>by
  have cq:1<=n/\n<=s.T.length:=by simp at hb;omega
  obtain⟨tb,tc,cs,m,bp,hg,aX⟩:=Q1P (S.sl 4 rfl) cq.1 cq.2;refine D1 hb rfl<|D6 hb rfl<|D0 12 hb rfl<|D4 hb rfl (S.cel 0 rfl) rfl<|D1 hb rfl<|Dso hb rfl rfl ?_;rw[bp];refine D5o 15 hb rfl rfl ?_;rw[<-bp];refine D0 0 hb rfl<|D4 hb rfl hg (aX 0 _ (by decide) rfl)<|D1 hb rfl<|Dn hb rfl rfl ?_
  exact Q0 ⟨rfl,rfl,11,rfl,rfl⟩) ?_
 refine Q0<|Q3 rfl (fun hb=>?_) fun hb=>?_
 · skip
   refine Q6<|I2 rfl<|Q0<|Q8 ?_;refine⟨.inl rfl,_,rfl,?_⟩
   exact⟨by
    have: ¬(1<=n/\n<=s.T.length/\(ZF s n).kind=k):=by
     rintro⟨a,b,c⟩;simp at hb;rcases hb with hb|hb
     · omega
     exact hb c
    rw[if_neg this];rfl,rfl⟩
 refine Q4<|Q6<|I1 rfl<|I2 rfl<|Q0<|Q8 ?_;refine⟨.inl rfl,_,rfl,?_⟩
 exact⟨by
  have:1<=n/\n<=s.T.length/\(ZF s n).kind=k:=by
   simp at hb;exact⟨by omega,by omega,hb.2⟩
  rw[if_pos this];rfl,rfl⟩
end
def Q2T (s:MS) (id site of':Int):MS:=if(ZF s of').state=1 then {stM (Jm s id site 5 of' true) of' 4 with Q:=s.Q.modify (ZF s of').looper.toNat fun L=>Q3s L of'}else Jm s id site 5 of' true
theorem tk_st {s:MS} {id k:Int} (h1:1<=id) (h2:id<=s.T.length):ZF (stM s id k) id= {ZF s id with state:=k}:=by
 have e:=Q30 h1 h2;show((s.T.modify (id -1).toNat _)[(id -1).toNat]?).getD default=_;rw[v2z,e];rfl
section
variable {h0 h:Hp} {P:Prg} {V:PrV} {mb ph:Nat} {s:MS} {tp bs:List Nat}
theorem m95 {id site of':Int} (S0:SH h0 [] [mcR mb ph P V s tp bs] h) (k:MOk P s) (h1:1<=of') (h2:of'<=s.T.length) (ak:(ZF s of').state=1->0<=(ZF s of').looper/\(ZF s of').looper <P.loopers) (hm:s.M.length<=99990):C modE 115 [Qn mb,iV id,iV site,iV of'] h fun _ g'=> ∃aa,SH h bs [mcR mb ph P V (Q2T s id site of') tp aa] g':=by
 have SE:=S0.enter;have SE:SH h bs [mcR mb ph P V s tp bs] h:=SE;have hk:=k.t;refine Q9 (fu:=Tryz.f115) (by kernel_rfl) rfl ?_;have S:=SE;refine Q6<|I1 rfl<|I1 rfl<|I1 rfl<|I1 rfl<|Ic [_,_,_,_,_,_] rfl rfl (C.mono (m76 (SH.sub1 S0 S0.own0 S 0 rfl) (by omega)) ?_);rintro v g ⟨bD,S2⟩;have S:=S.ret 0 rfl S2;have S:SH h bs [mcR mb ph P V (Jm s id site 5 of' true) tp bD] g:=S;refine⟨ag0,?_⟩;refine QG ?_;obtain⟨w,hw,bm,ai,S⟩:=QJ (A:=[]) S;obtain⟨s1,aU⟩: ∃s1,s1=Jm s id site 5 of' true:=⟨_,rfl⟩;rw[<-aU]at hw;have S:SH h bs (mcL mb ph P V s1 w) g:=by rw[aU];exact S
 have eT:s1.T=s.T:=by rw[aU];rfl
 have eQ:s1.Q=s.Q:=by rw[aU];rfl
 have eA:ZF s1 of'=ZF s of':=by unfold ZF;rw[eT]
 have h2':of'<=s1.T.length:=by rw[eT];exact h2
 have bQ:s1.T.length<=256:=by rw[eT];exact hk
 obtain⟨tb,tc,cs,m,bp,hg,aX⟩:=Q1P (S.sl 4 rfl) h1 h2';refine I1 rfl<|I6 rfl<|I0 12 rfl<|I4 rfl (S.cel 0 rfl) rfl<|I1 rfl<|Iso rfl rfl ?_;rw[bp];refine I5o 15 rfl rfl ?_;rw[<-bp];refine I0 11 rfl<|I4 rfl hg (aX 11 _ (by decide) rfl)<|Ie rfl rfl<|Q0<|Q3 rfl (fun hb=>?_) fun hb=>?_
 · skip
   refine Q6 ?_;have av:(ZF s of').state=1:=by rw[<-eA];simpa using hb
   obtain⟨gz,k8⟩:=ak av;refine I1 rfl<|I6 rfl<|I0 12 rfl<|I4 rfl (S.cel 0 rfl) rfl<|I1 rfl<|Iso rfl rfl ?_;rw[bp];refine I5o 15 rfl rfl ?_;rw[<-bp];refine I0 11 rfl<|Zq 4 S gn rfl rfl rfl (by kernel_rfl) rfl bp (by rw[Q1R];omega) (fun g S=>ag0) fun g S=>?_;rw[QfF h1 h2']at S;obtain⟨s2,aL⟩: ∃s2,s2=stM s1 of' 4:=⟨_,rfl⟩;rw[<-aL]at S;have eT2:s2.T.length=s.T.length:=by rw[aL];show(s1.T.modify _ _).length=_;rw[v0l,eT]
   have eQ2:s2.Q=s.Q:=by rw[aL];exact eQ
   have eA2:ZF s2 of'= {ZF s of' with state:=4}:=by rw[aL,tk_st h1 h2',eA]
   have aI:w.qs.length=s2.Q.length/\w.ths.length=s2.Th.length:=by rw[aL];exact hw
   obtain⟨tb2,mB,cJ,m2,bn,dM,fg⟩:=Q1P (s:=s2) (S.sl 4 rfl) h1 (by omega);rw[eA2]at fg;have hat4:cJ[0+v0g (of' -1)*15+4]?=some (iV (ZF s of').looper):=fg 4 _ (by decide) rfl;have hQl:=k.q;have bK:(ZF s of').looper.toNat <s2.Q.length:=by rw[eQ2];omega
   obtain⟨L,lM⟩: ∃L,s2.Q[(ZF s of').looper.toNat]?=some L:=⟨_,v0c bK⟩;obtain⟨qv,gN⟩: ∃v,w.qs[(ZF s of').looper.toNat]?=some v:=⟨_,v0c (by rw[aI.1];exact bK)⟩;have oD:L.length<=256:=v0p (k.ql L (by rw[<-eQ2];exact v0m lM)) (by omega);obtain⟨qb,qm,qc,qr,cA,dJ,_⟩:=(S.sl 2 rfl).at (by omega)
   have iR:(ptC w.qs++qr)[0+v0g (ZF s of').looper*1]?=some (Qn qv.1):=by
    rw[v0f,v0x,v0C (by rw[v0s,aI.1];exact bK),v0y,gN];rfl
   have dz:(mcL mb ph P V s2 w)[(ZF s of').looper.toNat+10]?=some (quR qv.1 L qv.2):=mc_q lM gN;refine Q0<|I9<|I1 rfl<|I6 rfl<|I0 10 rfl<|I4 rfl (S.cel 0 rfl) rfl<|I1 rfl<|I6 rfl<|I0 12 rfl<|I4 rfl (S.cel 0 rfl) rfl<|I1 rfl<|Iso rfl rfl ?_;rw[bn];refine I5o 15 rfl rfl ?_;rw[<-bn];refine I0 4 rfl<|I4 rfl dM hat4 ?_;rw[cA];refine I5o 1 rfl rfl ?_;rw[<-cA];refine I4 rfl dJ iR<|I1 rfl<|Ic [_,_] rfl rfl (C.mono (m74 (SH.sub1 S0 S0.own0 S _ dz) (by omega)) ?_);rintro v g ⟨rfl,bF,S2⟩;have S:=S.ret _ dz S2
   rw[Q6P (fun L=>Q3s L of') bF lM gN]at S;refine⟨ag0,?_⟩;refine Q0 ?_;refine⟨.inr rfl,_,rfl,?_⟩
   exact(by
    have e:Q2T s id site of'= {s2 with Q:=s2.Q.modify (ZF s of').looper.toNat fun L=>Q3s L of'}:=by
     unfold Q2T;rw[if_pos av,eQ2,aL,aU]
    rw[e]
    exact Qr (A:=[]) (w:= {w with qs:=w.qs.set (ZF s of').looper.toNat (qv.1,bF)}) S ⟨by show(w.qs.set _ _).length=(s2.Q.modify _ _).length;rw[v0q,v0l];exact aI.1,aI.2⟩ bm)
 refine Q4 ?_;refine⟨.inr rfl,_,rfl,?_⟩
 exact(by
  have av: ¬(ZF s of').state=1:=by rw[<-eA];simpa using hb
  unfold Q2T;rw[if_neg av,<-aU]
  exact Qr (A:=[]) S hw bm)
end
theorem Q9u {h:Hp} {s:MS} {tv:Value} {bs:List Nat} {id:Int} (x:SlC 85 14 h tv (tkC s.T) s.T.length bs) (h1:1<=id) (h2:id<=s.T.length): ∃b c cs m,tv=.slice (some ⟨b,0,none⟩) s.T.length c/\h.get b=some (.cells cs 85 m)/\b <h.n/\ ∀f v,f <15->(tkV (ZF s id))[f]?=some v->cs[0+v0g (id -1)*15+f]?=some v:=by
 obtain⟨b,m,c,r,hv,hg,_,hl,_⟩:=x.at (by omega);refine⟨b,c,_,m,hv,hg,hl,fun f v hf hv=>?_⟩;rw[v0f];exact Qv (Q4Q r (Q30 h1 h2)) hf hv
theorem Jr {s:MS} {id:Int} (h1:1<=id) (h2:id<=s.Th.length):s.Th[(id -1).toNat]?=some (Zx s id):=by
 unfold Zx;rw[v0c (by omega)];rfl
theorem Qco {h:Hp} {s:MS} {w:MW} {hv:Value} {bs:List Nat} {id:Int} (x:SlC 156 0 h hv (ptC w.ths) s.Th.length bs) (hw:w.ths.length=s.Th.length) (h1:1<=id) (h2:id<=s.Th.length): ∃b c cs m v,hv=.slice (some ⟨b,0,none⟩) s.Th.length c/\h.get b=some (.cells cs 156 m)/\b <h.n/\w.ths[(id -1).toNat]?=some v/\cs[0+v0g (id -1)*1]?=some (Qn v.1):=by
 obtain⟨b,m,c,r,hv,hg,_,hl,_⟩:=x.at (by omega);obtain⟨v,gh⟩: ∃v,w.ths[(id -1).toNat]?=some v:=⟨_,v0c (by omega)⟩;refine⟨b,c,_,m,v,hv,hg,hl,gh,?_⟩;rw[v0f,v0x,v0C (by rw[v0s];omega),v0y,gh];rfl
def Q4N (P:Prg) (s:MS) (id:Int):Int:=reg (QB (Zx s id)).regs (Qb P (Zx s id)).a
def Q1M (P:Prg) (s:MS) (id:Int):Bool:=(((decide (1<=Q4N P s id)&&decide (Q4N P s id<=s.T.length))&&decide ((ZF s (Q4N P s id)).kind=5))&& !decide ((ZF s (Q4N P s id)).state=3))
def Q1u (s:MS) (id:Int):Bool:=decide (1<=id)&&decide (id<=s.T.length)&&decide ((ZF s id).state=2)
def Jo (P:Prg) (s:MS) (id:Int):Int:=if Q1u s id=true/\(Qb P (Zx s id)).op=29/\Q1M P s id=true then Q4N P s id else 0
section
variable {h0 h:Hp} {P:Prg} {V:PrV} {mb ph:Nat} {s:MS} {tp bs:List Nat}
theorem m52 {id:Int} (S0:SH h0 [] [mcR mb ph P V s tp bs] h) (X0:Q1r h0 P V) (hM:ZM P=true) (k:MOk P s) (hR:Q1u s id=true->Yc (Zx s id)=false):C modE 57 [Qn mb,iV id] h fun v g'=>v=iV (Jo P s id)/\Ext h g':=by
 have SE:=S0.enter;obtain⟨w,hw,bm,ai,SE⟩:=QJ (A:=[]) SE;have SE:SH h bs (mcL mb ph P V s w) h:=SE;have hk:=k.t;have fA:=k.th;have jr:=SE.cel 0 rfl;have jq:mb <h.n:=SE.lt1 0 rfl;obtain⟨ta,tc0,dh⟩:=Qa (SE.sl 4 rfl);refine Q9 (fu:=Tryz.f57) (by kernel_rfl) rfl ?_;have S:=SH.start h;refine Q6<|I2 rfl<|Z5<|I1 rfl<|Il rfl rfl<|I1 rfl ?_
 refine QS (n:=7) rfl rfl rfl gn rfl (fun hb=>by
  refine D1 hb rfl<|D1 hb rfl<|D6 hb rfl<|D0 12 hb rfl<|D4 hb rfl (S.old0 jr jq) rfl ?_;rw[dh];refine D7 hb rfl ?_;rw[<-dh];refine Dg hb rfl rfl ?_
  exact Q0 ⟨rfl,rfl,7,rfl,rfl⟩) ?_
 refine I1 rfl ?_
 refine QS (n:=10) rfl rfl rfl gn rfl (fun hb=>by
  have cq:1<=id/\id<=s.T.length:=by simp at hb;omega
  obtain⟨tb,tc,cs,m,bp,hg,eZ,aX⟩:=Q9u (SE.sl 4 rfl) cq.1 cq.2;refine D1 hb rfl<|D6 hb rfl<|D0 12 hb rfl<|D4 hb rfl (S.old0 jr jq) rfl<|D1 hb rfl<|Dso hb rfl rfl ?_;rw[bp];refine D5o 15 hb rfl rfl ?_;rw[<-bp];refine D0 11 hb rfl<|D4 hb rfl (S.old0 hg eZ) (aX 11 _ (by decide) rfl)<|Dn hb rfl rfl ?_
  exact Q0 ⟨rfl,rfl,10,rfl,rfl⟩) ?_
 refine Q0<|Q3 rfl (fun hb=>?_) fun hb=>?_
 · skip
   refine Q6<|I2 rfl<|Q0<|Q8 ?_;refine⟨.inl rfl,_,rfl,?_⟩
   exact⟨by
    have: ¬(Q1u s id=true/\(Qb P (Zx s id)).op=29/\Q1M P s id=true):=by
     rintro⟨a,_⟩;unfold Q1u at a;simp at a hb;rcases hb with hb|hb
     · omega
     exact hb a.2
    unfold Jo;rw[if_neg this];rfl,S.e0⟩
 refine Q4<|Q6 ?_
 have aB:Q1u s id=true:=by
  unfold Q1u;simp at hb ⊢;exact⟨⟨by omega,by omega⟩,hb.2⟩
 have cq:1<=id/\id<=s.T.length:=by simp at hb;omega
 obtain⟨pb,pc,pcs,pm,pv,gi,jl,cf,aK,dj⟩:=Qco (SE.sl 5 rfl) hw.2 cq.1 (by omega);have hp:Held (thR pv.1 (pvL P V) (Zx s id) pv.2) h:=SE.held _ (QgF hw.1 (Jr cq.1 (by omega)) aK);have ax:=hR aB;have hl:=Q1E ax;have hT:=k.tok _ (v0m (Jr cq.1 (by omega)));refine I1 rfl<|I6 rfl<|I0 13 rfl<|I4 rfl (S.old0 jr jq) rfl<|I1 rfl<|Iso rfl rfl ?_;rw[gi];refine I5o 1 rfl rfl ?_;rw[<-gi];refine I4 rfl (S.old0 jl cf) dj<|I2 rfl<|QG<|I1 rfl<|Ic [_] rfl rfl (C.mono (m73z X0 (S0.all0 S0.own0 (S0.enter)) hp hT hl) ?_);rintro v g ⟨⟨lv,ln,rfl,ju⟩,x⟩
 have S:=S.grow x;obtain⟨lva,lvc,rfl⟩:=ju.valM;refine⟨ag0,?_⟩;refine Qq (zv:=.agg #[iV 0,iV 0,iV 0,iV 0,iV 0,.slice none 0 0,iV 0,iV 0]) S gn rfl (by kernel_rfl) fun b1 g aF S=>?_;refine Qg (n:=8) 0 S gn rfl rfl rfl (by kernel_rfl) rfl rfl (by decide) rfl (fun g S=>ag0) fun g S=>?_;have S:SH h [] [bxR b1 (Qb P (Zx s id)) (.slice lva (Qb P (Zx s id)).l.length lvc) ln] g:=S;refine Z5<|I0 0 rfl<|I4 rfl (S.cel 0 rfl) rfl<|In rfl rfl<|Q0<|Q3 rfl (fun hb=>?_) fun hb=>?_
 · skip
   refine Q6<|I2 rfl<|Q0<|Q8 ?_;refine⟨.inl rfl,_,rfl,?_⟩
   exact⟨by
    have: ¬(Q1u s id=true/\(Qb P (Zx s id)).op=29/\Q1M P s id=true):=by
     rintro⟨_,a,_⟩;simp at hb;exact hb a
    unfold Jo;rw[if_neg this];rfl,S.e0⟩
 refine Q4<|Q5<|I9 ?_;have dK:(Qb P (Zx s id)).op=29:=by simpa using hb
 obtain⟨fa,fc,tw,htw,_,hq,cE,hr,dW,bX⟩:=Q1T hp;obtain⟨fb,fr,fm,rfl,bN,j6,_⟩:=Q91 hr hl;have dZ:=dW fb (by rw[j6];simp);have aJ:=Y8 hl;have ok:=hT.2 _ (Y0 hl);have h32:=hT.1;obtain⟨v,hv⟩: ∃v,tw.vs[(Zx s id).F.length -1]?=some v:=⟨_,v0c (by omega)⟩
 have k0:(frC (Zx s id).F tw.vs++fr)[0+v0g (((Zx s id).F.length:Int) -1)*3+2]?=some v.1:=by
  rw[v0f,show v0g (((Zx s id).F.length:Int) -1)=(Zx s id).F.length -1 by omega];exact Qv (Q0k _ _ _ _ _ _ aJ hv) (by omega) rfl
 have bq:=ok.r
 have dG:0<=(Qb P (Zx s id)).a/\(Qb P (Zx s id)).a <(QB (Zx s id)).regs.length:=by
  rw[bq];exact Q08 (Q86 hM ok) (by rw[dK];decide)
 obtain⟨rb,ro,rc,rcs,re,rm,mS,bY,hrlt,hrat⟩:=(bX _ _ _ aJ hv).row.atM (by omega)
 have ka:rcs[ro+v0g (Qb P (Zx s id)).a*1]?=some (iV (reg (QB (Zx s id)).regs (Qb P (Zx s id)).a)):=by
  have:=hrat (Qb P (Zx s id)).a.toNat (by omega);rw[v0x,this];unfold reg;rw[v0c (by omega)];rfl
 obtain⟨n,hn⟩: ∃n,n=reg (QB (Zx s id)).regs (Qb P (Zx s id)).a:=⟨_,rfl⟩;rw[<-hn]at ka;have hwn:Q4N P s id=n:=hn.symm;refine I1 rfl<|I6 rfl<|I0 8 rfl<|I4 rfl (S.old0 hq cE) rfl<|I1 rfl<|I6 rfl<|I0 8 rfl<|I4 rfl (S.old0 hq cE) rfl<|I7 rfl<|Iso rfl rfl<|I5o 3 rfl rfl<|I0 2 rfl<|I4 rfl (S.old0 bN dZ) k0<|I0 1 rfl<|I4 rfl (S.cel 0 rfl) rfl ?_;rw[mS];refine I5o 1 rfl rfl ?_;rw[<-mS];refine I4 rfl (S.old0 bY hrlt) ka<|I2 rfl<|Z5<|I1 rfl<|Ih rfl rfl<|I1 rfl ?_
 refine Qt (n:=7) rfl rfl rfl gn rfl (fun hb=>by
  refine D1 hb rfl<|D1 hb rfl<|D6 hb rfl<|D0 12 hb rfl<|D4 hb rfl (S.old0 jr jq) rfl ?_;rw[dh];refine D7 hb rfl ?_;rw[<-dh];refine Dm hb rfl rfl ?_
  exact Q0 ⟨rfl,rfl,7,rfl,rfl⟩) ?_
 refine I1 rfl ?_
 refine Qt (n:=10) rfl rfl rfl gn rfl (fun hb=>by
  have iH:1<=n/\n<=s.T.length:=by simp at hb;omega
  obtain⟨tb,tc,cs,m,bp,hg,eZ,aX⟩:=Q9u (SE.sl 4 rfl) iH.1 iH.2;refine D1 hb rfl<|D6 hb rfl<|D0 12 hb rfl<|D4 hb rfl (S.old0 jr jq) rfl<|D1 hb rfl<|Dso hb rfl rfl ?_;rw[bp];refine D5o 15 hb rfl rfl ?_;rw[<-bp];refine D0 0 hb rfl<|D4 hb rfl (S.old0 hg eZ) (aX 0 _ (by decide) rfl)<|De hb rfl rfl ?_
  exact Q0 ⟨rfl,rfl,10,rfl,rfl⟩) ?_
 refine I1 rfl ?_
 refine Qt (n:=10) rfl rfl rfl gn rfl (fun hb=>by
  have iH:1<=n/\n<=s.T.length:=by simp at hb;omega
  obtain⟨tb,tc,cs,m,bp,hg,eZ,aX⟩:=Q9u (SE.sl 4 rfl) iH.1 iH.2;refine D1 hb rfl<|D6 hb rfl<|D0 12 hb rfl<|D4 hb rfl (S.old0 jr jq) rfl<|D1 hb rfl<|Dso hb rfl rfl ?_;rw[bp];refine D5o 15 hb rfl rfl ?_;rw[<-bp];refine D0 11 hb rfl<|D4 hb rfl (S.old0 hg eZ) (aX 11 _ (by decide) rfl)<|Dn hb rfl rfl ?_
  exact Q0 ⟨rfl,rfl,10,rfl,rfl⟩) ?_
 refine Q0<|Q3 rfl (fun hb=>?_) fun hb=>?_
 · skip
   refine Q6<|I1 rfl<|I2 rfl<|Q0<|Q8 ?_;refine⟨.inl rfl,_,rfl,?_⟩
   exact⟨by
    have:Q1u s id=true/\(Qb P (Zx s id)).op=29/\Q1M P s id=true:=⟨aB,dK,by unfold Q1M;rw[hwn];exact hb⟩
    unfold Jo;rw[if_pos this,hwn];rfl,S.e0⟩
 refine Q4<|Q6<|I2 rfl<|Q0<|Q8 ?_;refine⟨.inl rfl,_,rfl,?_⟩
 exact⟨by
  have: ¬(Q1u s id=true/\(Qb P (Zx s id)).op=29/\Q1M P s id=true):=by
   rintro⟨_,_,a⟩;unfold Q1M at a;rw[hwn]at a;exact Bool.noConfusion (a.symm.trans hb)
  unfold Jo;rw[if_neg this];rfl,S.e0⟩
end
section
variable {h0 h g:Hp} {ds bs:List Nat} {B L:List Res} {ph:Nat} {H:List MObj} {ae:List Nat} {id:Int}
theorem QcD {r:Res} {v:Value} {cs:List Value} {n e:Nat} {vb:List Nat} (S:SH h0 ds (r::L) g) (hm:slR e 0 v cs n vb∈L): ∀g',ExtB r.own g g'->RowV g' v cs:=by
 intro g' x;have hp:SlC e 0 g v cs n vb:=S.hold _ (List.mem_cons_of_mem _ hm);rcases hp with⟨rfl,rfl,rfl,rfl⟩| ⟨b,m,c,rest,rfl,hg,hm0,aj,rfl,h1,h2,h3⟩
 · exact RowV.nil
 have hb:b∈owns L:=QO hm (by simp[slR]);have fE:=S.nd;rw[Z4,List.nodup_append]at fE;have dB:b∉r.own:=fun hr=>fE.2.2 b hr b hb rfl;have h':SlC e 0 g' (.slice (some ⟨b,0,none⟩) n c) cs n [b]:=.inr ⟨b,m,c,rest,rfl,(x.get b aj dB).trans hg,hm0,v0u aj x.n,rfl,h1,h2,h3⟩;exact h'.row
theorem Qg0 (S:SH h0 ds (hpR ph H ae::B) g) (e:hasB H id=true): ∃(RH:List Res) (va:Option Addr) (vc:Nat) (vb:List Nat) (b c m:Nat) (cs:List Value),g.get ph=some (.cells [.slice (some ⟨b,0,none⟩) H.length c] 93 0)/\g.get b=some (.cells cs 233 m)/\0+v0g (id -1)*6+6<=cs.length/\(cs.drop (0+v0g (id -1)*6)).take 6=[iV (QT H id).kind,iV (QT H id).of,.slice va (QT H id).vals.length vc,iV (QT H id).site,iV (QT H id).by',iV (QT H id).nth]/\1<=id/\id<=H.length/\SH h0 ds (slR 2 0 (.slice va (QT H id).vals.length vc) (isV (QT H id).vals) (QT H id).vals.length vb::(RH++B)) g/\ ∀(h0:Hp) (ds:List Nat) (B:List Res) (g:Hp),SH h0 ds (slR 2 0 (.slice va (QT H id).vals.length vc) (isV (QT H id).vals) (QT H id).vals.length vb::(RH++B)) g-> ∃ah,SH h0 ds (hpR ph H ah::B) g:=by
 obtain⟨Ls,⟨w,hw,rfl⟩,_,S1⟩:=Q2I S;obtain⟨j,o,bU,hj,ho,bK⟩:=Q3j e;obtain⟨⟨v,vb⟩,hv⟩: ∃v,w.vs[j]?=some v:=⟨_,v0c (by rw[hw];exact bK)⟩;have S1:SH h0 ds (cR ph (.cells [w.ov] 93 0)::slR 233 5 w.ov (obC H w.vs) H.length w.ob::(obP H w.vs++B)) g:=S1;have h1:g.get ph=some (.cells [w.ov] 93 0):=S1.cel 0 rfl;obtain⟨b,m,c,r,ax,hg,_,_,_,hl,_⟩:=(S1.sl 1 rfl).at (by omega);have hP:=Q7K H w.vs j o (v,vb) hj hv
 have hx:SlC 2 0 g v (isV o.vals) o.vals.length vb:=S1.hold (slR 2 0 v (isV o.vals) o.vals.length vb) (by
  have:=v0m hP
  simp[this])
 obtain⟨va,vc,rfl⟩:=Qa hx;have hjt:v0g (id -1)=j:=by omega
 have hjP:=(v0z.1 hP).1;refine⟨cR ph (.cells [w.ov] 93 0)::slR 233 5 w.ov (obC H w.vs) H.length w.ob::(obP H w.vs).eraseIdx j,va,vc,vb,b,c,m,_,by rw[<-ax];exact h1,hg,?_,?_,by omega,by omega,?_,?_⟩
 · rw[hjt,v0j,hl];omega
 · rw[hjt,v0f,ho];exact Q5l _ _ _ _ _ _ hj hv
 · rw[ho]
   have S2:SH h0 ds (obP H w.vs++(cR ph (.cells [w.ov] 93 0)::slR 233 5 w.ov (obC H w.vs) H.length w.ob::B)) g:=by
    refine S1.sub (B:=[]) ?_;rw[v0k];refine(v2t (obP H w.vs) [cR ph (.cells [w.ov] 93 0),slR 233 5 w.ov (obC H w.vs) H.length w.ob] B).trans ?_;exact List.Perm.refl _
   have S3:=S2.outAt hP;refine S3.sub (B:=[]) ?_;rw[v0k];refine List.Perm.cons _ ?_;exact v2t [cR ph (.cells [w.ov] 93 0),slR 233 5 w.ov (obC H w.vs) H.length w.ob] ((obP H w.vs).eraseIdx j) B
 intro h0 ds B g S;rw[ho]at S
 have S2:SH h0 ds (slR 2 0 (.slice va o.vals.length vc) (isV o.vals) o.vals.length vb::((obP H w.vs).eraseIdx j++(cR ph (.cells [w.ov] 93 0)::slR 233 5 w.ov (obC H w.vs) H.length w.ob::B))) g:=by
  refine S.sub (B:=[]) ?_;rw[v0k];refine List.Perm.cons _ ?_;exact v2t ((obP H w.vs).eraseIdx j) [cR ph (.cells [w.ov] 93 0),slR 233 5 w.ov (obC H w.vs) H.length w.ob] B
 have S3:=S2.inAt hjP
 have e1:(obP H w.vs).set j (slR 2 0 (.slice va o.vals.length vc) (isV o.vals) o.vals.length vb)=obP H w.vs:=by
  have:=(v0z.1 hP).2;refine v09 fun i=>?_;rw[v18]
  split
  · rename_i e;subst e;rw[hP]
  rfl
 rw[e1]at S3
 have S4:SH h0 ds (hpL ph H w++B) g:=by
  refine S3.sub (B:=[]) ?_;rw[v0k];exact v2t [cR ph (.cells [w.ov] 93 0),slR 233 5 w.ov (obC H w.vs) H.length w.ob] (obP H w.vs) B
 exact⟨_,J3 S4 ⟨w,hw,rfl⟩⟩
end
end Go.Proofs.YtljpajcmdjmeaaaGreat
