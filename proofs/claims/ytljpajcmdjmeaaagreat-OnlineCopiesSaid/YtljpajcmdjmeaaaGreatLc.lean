/- The walks and the laws, part Lc. Conditions: none. -/
import Derived.Test.YtljpajcmdjmeaaaGreatLb
import Derived.Test.YtljpajcmdjmeaaaGreatLa
set_option maxHeartbeats 16000000
open List renaming length_map → v0v, length_append → v0j, getElem?_eq_getElem → v0c, length_modify → v0l, getElem?_modify_eq → v2o, getElem?_append_left → v0z, length_take → v0E, take_append_drop → v01, drop_eq_getElem_cons → v1J, append_assoc → v0F, flatMap_cons → v1T, length_cons → v07, getElem?_cons_zero → v0W, modify_succ_cons → v1d, ext_getElem? → v1f, getElem?_set → v1X, getElem?_map → v0D, getElem?_eq_none → v02, getElem?_eq_some_iff → v0y, length_set → v0q, append_nil → v0k, map_append → v0G, mem_of_getElem? → v0m, perm_append_comm_assoc → v2i
open Nat renaming zero_le → v0s, le_refl → v0b, zero_add → v0e, add_sub_cancel → v2h, le_trans → v0t, lt_of_lt_of_le → v0p, add_mul → v1j, mul_one → v0A
open Int renaming toNat → v0f
open Option renaming some → v0h
namespace Go.Proofs.YtljpajcmdjmeaaaGreat
open Go.X Go.May Go.Mac
def acV (a:MAcc):List Value:=[iV a.site,iV a.kind,iV a.a,iV a.b,.bool a.write]
def acC (A:List MAcc):List Value:=A.flatMap acV
def TV (x:Ins) (T T':MThr):Prop:=(∃k,k≠0/\T'= {T with trap:=k})\/ ∃T1,(T1=T\/ ∃n,T1=setT T x.a n)/\T'=onT T1 0
section
variable {h0 h:Hp} {P:Prg} {V:PrV} {tb ph:Nat} {T:MThr} {w:ThW} {H:List MObj} {ae:List Nat}
theorem m88 {x:Ins} {sv:Value} {v:Value×List Nat} {ln kind lk id i n:Int} {wrt:Bool} (S0:SH h0 [] (hpR ph H ae::thL tb (pvL P V) T w) h) (hM:ZL P=true) (hw:w.vs.length=T.F.length) (hT:Kl P T) (hl:0 <T.F.length) (hax:wrt=false->0<=x.a/\x.a <(Qt P (Qv T).fn).regs) (hv:w.vs[T.F.length -1]?=some v) (hs:cellV sv=true) (hH:H.length<=1024):C modE 108 [Qk tb,Qk ph,Qf6 x sv ln,iV kind,iV lk,iV id,iV i,.bool wrt,iV n,v.1] h fun r g'=> ∃(A:List MAcc) (ab:List Nat) (T':MThr) (H':List MObj) (ah:List Nat),A.length<=1/\TV x T T'/\H'.length<=1024/\SH h (owns (hpR ph H ae::thL tb (pvL P V) T w)) (slR 66 4 r (acC A) A.length ab::hpR ph H' ah::thL tb (pvL P V) T' w) g':=by
 have SE:=S0.enterL;have aE:=Ya hl;have bm:=(hT.2 _ (ZZ hl)).r;obtain⟨v1,vb⟩:=v;have fZ:(thL tb (pvL P V) T w)[2+(T.F.length -1)]?=some (slR 2 0 v1 (isV (Qv T).regs) (Qv T).regs.length vb):=Q2X aE hv;have kS:(hpR ph H ae::thL tb (pvL P V) T w)[2+(T.F.length -1)+1]?=some (slR 2 0 v1 (isV (Qv T).regs) (Qv T).regs.length vb):=fZ;obtain⟨ra,rc,rfl⟩:=Q6 (SE.sl _ kS);have jH:H.length<=1000000:=by omega
 refine Q9 (fu:=Tryz.f108) (by kernel_rfl) rfl ?_;have S:=SE;refine Q7 ?_;refine Z9 S gn rfl rfl fun b1 g aJ S=>?_;have S:SH h (owns (hpR ph H ae::thL tb (pvL P V) T w)) (bxR b1 x sv ln::hpR ph H ae::thL tb (pvL P V) T w) g:=S;refine I2 rfl<|Z8<|I1 rfl<|I1 rfl<|I1 rfl<|Ic [_,_,_] rfl rfl (Ql (m89 (S.res 1 rfl) jH) ⟨ag0,?_⟩);refine Ib rfl<|Q0<|Q2 rfl (fun hb=>?_) fun hb=>?_
 · skip
   refine Q7<|I1 rfl<|I6 rfl<|I0 9 rfl ?_;refine Qg 2 S gn rfl rfl rfl (by kernel_rfl) rfl (by decide) (by simp) (fun g S=>ag0) fun g S=>?_;refine QP<|I2 rfl<|Q0<|Q8 ⟨.inl rfl,_,rfl,⟨[],[],{T with trap:=1},H,ae,v0s _,.inl ⟨1,by decide,rfl⟩,hH,SH.nilSl S.drop 66 4⟩⟩
 refine Q4<|Q5<|Q7<|I1 rfl<|Il rfl rfl<|I1 rfl ?_
 refine Z4 (n:=5) rfl rfl rfl gn rfl (fun hb=>by
  refine D1 hb rfl<|D1 hb rfl<|D1 hb rfl<|Dc hb [_,_] rfl rfl (Ql (m90 (S.res 1 rfl) jH) ⟨ag0,?_⟩);refine Dh hb rfl rfl ?_
  exact Q0 ⟨rfl,rfl,5,rfl,rfl⟩) ?_
 refine Q0<|Q2 rfl (fun hb=>?_) fun hb=>?_
 · skip
   refine Q7<|I1 rfl<|I6 rfl<|I0 9 rfl ?_;refine Qg 2 S gn rfl rfl rfl (by kernel_rfl) rfl (by decide) (by simp) (fun g S=>ag0) fun g S=>?_;refine Q0<|ZF [] (fun lv hh=> ∃k:Int,lv=[]/\k≠0/\SH h (owns (hpR ph H ae::thL tb (pvL P V) T w)) (bxR b1 x sv ln::hpR ph H ae::thL tb (pvL P V) {T with trap:=k} w) hh) ?_ fun lv hh hJ=>?_
   · skip
     refine Q7<|I1 rfl<|Ie rfl rfl<|Q0<|Q2 rfl (fun hb=>?_) fun hb=>?_
     · skip
       refine Q3 (by kernel_rfl)<|I1 rfl<|I6 rfl<|I0 9 rfl ?_;refine Qg 2 S gn rfl rfl rfl (by kernel_rfl) rfl (by decide) (by simp) (fun g S=>ag0) fun g S=>?_;refine Q0 ?_;exact Zr [] (p:=⟨2,rfl,by decide,S⟩)
     refine Q4 ?_;exact Zr [] (p:=⟨1,rfl,by decide,S⟩)
   obtain⟨k,rfl,hk,S⟩:=hJ;refine Q7<|I2 rfl<|Q0<|Q8 ⟨.inl rfl,_,rfl,⟨[],[],{T with trap:=k},H,ae,v0s _,.inl ⟨k,hk,rfl⟩,hH,SH.nilSl S.drop 66 4⟩⟩
 refine Q4<|ZF [(0,Qk tb),(4,iV lk),(5,iV id),(6,iV i),(7,.bool wrt),(12,Qk b1)] (fun lv hh=> ∃(T1:MThr) (H':List MObj) (ah:List Nat),lv=[]/\(T1=T\/ ∃n,T1=setT T x.a n)/\H'.length<=1024/\SH h (owns (hpR ph H ae::thL tb (pvL P V) T w)) (bxR b1 x sv ln::hpR ph H' ah::thL tb (pvL P V) T1 w) hh) ?_ fun lv hh hJ=>?_
 · skip
   refine Q7<|I1 rfl<|Q0<|Q2 rfl (fun hb=>?_) fun hb=>?_
   · skip
     refine Q3 (by kernel_rfl)<|I1 rfl<|I1 rfl<|I1 rfl<|I1 rfl<|Ic [_,_,_,_] rfl rfl (C.mono (m100 (SH.sub1 S0 S0.own0L S 1 rfl) jH) ?_);rintro v g ⟨rfl,ah,S2⟩;have S:=S.ret 1 rfl S2;refine⟨ag0,?_⟩;refine Q0 ?_;exact Zr [] (p:=⟨T,_,ah,rfl,.inl rfl,QbY hH,S⟩)
   refine Yq [(0,[]),(1,[]),(2,[]),(3,[]),(4,[]),(5,[]),(6,[2]),(7,[]),(8,[]),(9,[]),(10,[]),(11,[])] (by kernel_rfl) (by kernel_rfl) (by kernel_rfl) (by kernel_rfl) ?_;have ha:=hax hb
   have ha':0<=x.a/\x.a <((isV (Qv T).regs).length:Nat):=by
    rw[v0v,bm];exact ha
   have aF:(bxR b1 x sv ln::hpR ph H ae::thL tb (pvL P V) T w)[2+(T.F.length -1)+1+1]?=some (slR 2 0 (.slice ra (Qv T).regs.length rc) (isV (Qv T).regs) (Qv T).regs.length vb):=fZ;obtain⟨b2,cY,m2,rfl,da,k2⟩:=Q2J (a:=x.a) (S.sl _ aF) ha.1 (by rw[bm];exact ha.2);refine I1 rfl<|I0 1 rfl<|I4 rfl (S.cel 0 rfl) rfl<|I1 rfl<|I1 rfl<|I1 rfl<|Ic [_,_,_] rfl rfl (Ql (m101 (S.res 1 rfl) jH) ⟨(ag1 (ZO gn rfl (by kernel_rfl) (S.cel 0 rfl) rfl rfl Kr) ag0),?_⟩);refine I1 rfl<|Ix rfl rfl<|Ix rfl rfl<|I5o 1 rfl rfl ?_
   refine Zm (2+(T.F.length -1)+1+1) S gn rfl rfl rfl (by kernel_rfl) aF rfl (by omega) (fun g S=>ag0) fun g S=>?_;refine Q0 ?_
   exact Zr [] (p:=⟨setT T x.a (getV H id i),H,ae,rfl,.inr ⟨_,rfl⟩,hH,by
    have S2:SH h (owns (hpR ph H ae::thL tb (pvL P V) T w)) (bxR b1 x sv ln::hpR ph H ae::(thL tb (pvL P V) T w).set (2+(T.F.length -1)) (slR 2 0 _ ((isV (Qv T).regs).set (0+x.a.toNat*1) (iV (getV H id i))) _ vb)) g:=S;rw[Q1O aE hv]at S2
    exact S2⟩)
 obtain⟨T1,H',ah,rfl,cz,kq,S⟩:=hJ
 have bP:Kl P T1/\T1.F.length=T.F.length:=by
  rcases cz with rfl| ⟨n,rfl⟩
  · exact⟨hT,rfl⟩
  exact Q04 hT
 have S3:SH h (owns (hpR ph H ae::thL tb (pvL P V) T w)) (thL tb (pvL P V) T1 w++[bxR b1 x sv ln,hpR ph H' ah]) hh:=SH.comm (A:=[_,_]) S;refine Q7<|I1 rfl ?_;refine QZ [_,_] gn rfl rfl (by kernel_rfl) rfl (C.mono (m91 (k:=0) (P:=P) (V:=V) (T:=T1) (w:=w) (h0:=h0) (SH.subL S0 S0.own0L S3) (by rw[bP.2];exact hw) bP.1 (by omega) (fun y hy=>(Kx hM (bP.1.2 y hy)).1)) ?_);intro v g S2;have S:=SH.comm (B:=[_,_]) (SH.retL S3 S2);refine⟨ag0,?_⟩;refine QP<|I0 6 rfl<|I4 rfl (S.cel 0 rfl) rfl<|I1 rfl<|I1 rfl<|I1 rfl ?_
 refine Qq (cs:= #[iV lk,iV id,iV i]) (zv:=.agg #[iV 0,iV 0,iV 0]) (pl:=[(0,1),(1,1),(2,1)]) [(0,_),(1,_),(2,_)] gn rfl (by kernel_rfl) (by kernel_rfl) rfl (by kernel_rfl)<|I1 rfl<|Qq (cs:= #[iV x.site,iV lk,iV id,iV i,.bool wrt]) (zv:=.agg #[iV 0,iV 0,iV 0,iV 0,.bool false]) (pl:=[(0,1),(1,3),(4,1)]) [(0,_),(1,_),(2,_)] gn rfl (by kernel_rfl) (by kernel_rfl) rfl (by kernel_rfl) ?_
 refine Qc (cs:= #[iV x.site,iV lk,iV id,iV i,.bool wrt]) (e:=66) (z:=4) (zv:=.agg #[iV 0,iV 0,iV 0,iV 0,.bool false]) [(0,_)] S gn rfl (by kernel_rfl) (by kernel_rfl) (by kernel_rfl) (by kernel_rfl) rfl (by kernel_rfl) fun b2 g bK S=>?_;refine I2 rfl<|Q0<|Q8 ?_;refine⟨.inl rfl,_,rfl,?_⟩
 exact⟨[⟨x.site,lk,id,i,wrt⟩],[b2],onT T1 0,H',ah,v0b _,.inr ⟨T1,cz,rfl⟩,kq,by
  have S:=S.toSl (z:=4) (n:=1) 0 rfl (.inl rfl) rfl
  exact SH.drop (SH.swap S)⟩
end
section
variable {h:Hp} {hb:Nat} {H:List MObj} {oa:Option Addr} {oc:Nat} {w:HpW} {id k:Int}
theorem Q47 (e:isO H id k=true):hasB H id=true:=by
 unfold isO at e;rw[Bool.and_eq_true]at e;exact e.1
theorem HpG.at (G:HpG h hb H oa oc w) (e:hasB H id=true): ∃b cs m va vc vb,oa=some ⟨b,0,none⟩/\h.get b=some (.cells cs 233 m)/\cs[0+v0f (id -1)*6+1]?=some (iV (QR H id).of)/\cs[0+v0f (id -1)*6+2]?=some (.slice va (QR H id).vals.length vc)/\SlC 2 0 h (.slice va (QR H id).vals.length vc) (isV (QR H id).vals) (QR H id).vals.length vb/\1<=id/\id<=H.length:=by
 obtain⟨j,o,bU,hj,ho,bH⟩:=Q3i e;obtain⟨b,cs,m,v,vb,cO,hg,hv,hc,hl,bE⟩:=G.obj hj;obtain⟨va,vc,rfl⟩:=Q6 bE;rw[ho,show v0f (id -1)=j by omega,v0e];exact⟨b,cs,m,va,vc,vb,cO,hg,Qs hc (by omega) rfl,Qs hc (by omega) rfl,bE,by omega,by omega⟩
def TC (P:Prg) (T T':MThr):Prop:=(∃k,k≠0/\T'= {T with trap:=k})\/ ∃(f:Int) (cells:List Int),0<=f/\f <P.funs.length/\(cells.length:Int)<=(Qt P f).regs/\T.F.length <32/\T'=onT {T with F:=T.F++[Yd P f cells]} 1
theorem Q71 {P:Prg} {T:MThr} {f:Int} {cells:List Int} (hM:ZL P=true) (hT:Kl P T) (f0:0<=f) (f1:f <P.funs.length) (hc:(cells.length:Int)<=(Qt P f).regs) (hl:T.F.length <32):Kl P {T with F:=T.F++[Yd P f cells]}:=by
 refine⟨by simp;omega,fun x hx=>?_⟩;rcases List.mem_append.1 hx with hx|hx
 · exact hT.2 x hx
 rw[List.mem_singleton]at hx;subst hx;have:=Yz hM f0 f1;refine⟨f0,f1,Int.le_refl _,by show(0:Int)<_;show(0:Int)<((Qt P f).code.length:Nat);omega,?_⟩;show((cells++List.replicate ((Qt P f).regs.toNat -cells.length) 0).length:Int)=(Qt P f).regs;simp;omega
end
section
variable {h0 h:Hp} {P:Prg} {V:PrV} {tb ph:Nat} {T:MThr} {w:ThW} {H:List MObj} {ae:List Nat}
theorem m92 {id:Int} (S0:SH h0 [] (hpR ph H ae::thL tb (pvL P V) T w) h) (X0:Q1m h0 P V) (hM:ZL P=true) (hw:w.vs.length=T.F.length) (hT:Kl P T) (hl:0 <T.F.length) (hH:H.length<=1024):C modE 112 [Qk tb,Qk ph,iV id] h fun _ g'=> ∃(T':MThr) (w':ThW),w'.vs.length=T'.F.length/\TC P T T'/\SH h (owns (hpR ph H ae::thL tb (pvL P V) T w)) (hpR ph H ae::thL tb (pvL P V) T' w') g':=by
 have SE:=S0.enterL;obtain⟨fv,fb,vs⟩:=w;obtain⟨fa,fc,fN⟩:=Q6 (SE.sl 2 rfl);have fN:fv=.slice fa T.F.length fc:=fN;subst fN;have hw:vs.length=T.F.length:=hw;have jH:H.length<=1000000:=by omega
 have h32:=hT.1;obtain⟨oa,oc,w,G⟩:=Q2n (SE.res 0 rfl);have X:Q1m h P V:=X0.ext (S0.all0 S0.own0L SE);obtain⟨_,_,_,⟨fua,fuc,iv⟩,_⟩:=X.vals;refine Q9 (fu:=Tryz.f112) (by kernel_rfl) rfl ?_;have S:=SE;refine Q5<|Q5<|I9<|I1 rfl<|I1 rfl<|Ic [_,_,_] rfl rfl (Ql (m89 (S.res 0 rfl) jH) ⟨ag0,?_⟩);refine Ib rfl<|I1 rfl ?_
 refine Z4 (n:=17) rfl rfl rfl gn rfl (fun hb=>by
  have fx:isO H id 4=true:=by simpa using hb
  obtain⟨b,cs,m,va,vc,vb,cO,hg,k1,k2,bE,i0,i1⟩:=G.at (Q47 fx);refine D1 hb rfl<|D6 hb rfl<|D0 0 hb rfl<|D4 hb rfl G.cel rfl<|D1 hb rfl<|Dso hb rfl rfl ?_;rw[cO];refine D5o 6 hb rfl rfl ?_;rw[<-cO];refine D0 1 hb rfl<|D4 hb rfl hg k1<|D1 hb rfl<|D6 hb rfl<|D0 0 hb rfl<|D0 3 hb rfl<|D4 hb rfl (S.cel 1 rfl) rfl ?_;rw[iv];refine D7 hb rfl ?_;rw[<-iv];refine Dc hb [_,_] rfl rfl (Ql (c18) ⟨ag0,?_⟩);refine Db hb rfl ?_
  exact Q0 ⟨rfl,rfl,17,rfl,rfl⟩) ?_
 refine I1 rfl ?_
 refine Z4 (n:=28) rfl rfl rfl gn rfl (fun hb=>by
  have cr:isO H id 4=true/\inB (QR H id).of P.funs.length=true:=by simpa using hb
  obtain⟨b,cs,m,va,vc,vb,cO,hg,k1,k2,bE,i0,i1⟩:=G.at (Q47 cr.1);obtain⟨f0,f1⟩:=Z5.1 cr.2;obtain⟨fb',fo',fc',fcs,fe,fm,cG,gu,gM,hfn,s,cv,iw,ew⟩:=PrgAt.fun X f0 f1;have kf:fcs[fo'+v0f (QR H id).of*4+1]?=some (iV (Qt P (QR H id).of).caps):=Qs iw (by omega) rfl;refine D1 hb rfl<|D6 hb rfl<|D0 0 hb rfl<|D4 hb rfl G.cel rfl<|D1 hb rfl<|Dso hb rfl rfl ?_;rw[cO];refine D5o 6 hb rfl rfl ?_;rw[<-cO];refine D0 2 hb rfl<|D4 hb rfl hg k2<|D7 hb rfl<|D1 hb rfl<|D6 hb rfl<|D0 0 hb rfl<|D0 3 hb rfl ?_
  refine D4 hb rfl (S.cel 1 rfl) rfl<|D1 hb rfl<|D6 hb rfl<|D0 0 hb rfl<|D4 hb rfl G.cel rfl<|D1 hb rfl<|Dso hb rfl rfl ?_;rw[cO];refine D5o 6 hb rfl rfl ?_;rw[<-cO];refine D0 1 hb rfl<|D4 hb rfl hg k1 ?_;rw[cG];refine D5o 4 hb rfl rfl ?_;rw[<-cG];refine D0 1 hb rfl<|D4 hb rfl gu kf<|Dn hb rfl rfl ?_
  exact Q0 ⟨rfl,rfl,28,rfl,rfl⟩) ?_
 refine Q0<|Q2 rfl (fun hb=>?_) fun hb=>?_
 · skip
   refine Q7<|I1 rfl<|I6 rfl<|I0 9 rfl ?_;refine Qg 1 S gn rfl rfl rfl (by kernel_rfl) rfl (by decide) (by simp) (fun g S=>ag0) fun g S=>?_;refine Q0<|Q8 ⟨.inl rfl,_,rfl,⟨{T with trap:=1},_,hw,.inl ⟨1,by decide,rfl⟩,S⟩⟩
 refine Q4<|Q5<|Q7 ?_;have cr:(isO H id 4=true/\inB (QR H id).of P.funs.length=true)/\((QR H id).vals.length:Int)=(Qt P (QR H id).of).caps:=by simpa using hb
 obtain⟨⟨fx,hinO⟩,nX⟩:=cr;obtain⟨b,cs,m,va,vc,vb,rfl,hg,k1,k2,bE,i0,i1⟩:=G.at (Q47 fx);obtain⟨f0,f1⟩:=Z5.1 hinO;have cg:=Yz hM f0 f1;refine I1 rfl<|I6 rfl<|I0 8 rfl<|I4 rfl (S.cel 1 rfl) rfl<|I7 rfl<|Ih rfl rfl<|Q0<|Q2 rfl (fun hb=>?_) fun hb=>?_
 · skip
   refine Q7<|I1 rfl<|I6 rfl<|I0 9 rfl ?_;refine Qg 1 S gn rfl rfl rfl (by kernel_rfl) rfl (by decide) (by simp) (fun g S=>ag0) fun g S=>?_;refine Q0<|Q8 ⟨.inl rfl,_,rfl,⟨{T with trap:=4},_,hw,.inl ⟨4,by decide,rfl⟩,S⟩⟩
 refine Q4<|Q5<|Yq [(0,[]),(1,[]),(2,[]),(3,[]),(4,[]),(5,[]),(6,[]),(7,[]),(8,[]),(9,[]),(10,[]),(11,[]),(12,[]),(13,[]),(14,[]),(15,[]),(16,[]),(17,[]),(18,[]),(19,[]),(20,[]),(21,[]),(22,[]),(23,[]),(24,[]),(25,[]),(26,[]),(27,[4]),(28,[]),(29,[]),(30,[]),(31,[]),(32,[])] (by kernel_rfl) (by kernel_rfl) (by kernel_rfl) (by kernel_rfl) ?_;have nk:T.F.length <32:=by simp at hb;omega
 refine I1 rfl<|I1 rfl<|I6 rfl<|I0 8 rfl<|I4 rfl (S.cel 1 rfl) rfl<|I1 rfl<|I6 rfl<|I0 0 rfl<|I3 8 rfl (S.cel 1 rfl) (by simp)<|I1 rfl<|I6 rfl<|I0 0 rfl<|I4 rfl G.cel rfl<|I1 rfl<|Iso rfl rfl<|I5o 6 rfl rfl ?_;refine I0 1 rfl<|I4 rfl hg k1<|I1 rfl<|I6 rfl<|I0 0 rfl<|I4 rfl G.cel rfl<|I1 rfl<|Iso rfl rfl<|I5o 6 rfl rfl<|I0 2 rfl<|I4 rfl hg k2<|Ic [_,_,_] rfl rfl (C.mono (m70 X hM f0 f1 bE.row (by omega)) ?_)
 rintro v g ⟨rv,rb,rfl,S2⟩;have S:=SH.retL (A:=[]) S S2;obtain⟨ra,rc,rfl⟩:=Q6 (S.sl 0 rfl);refine⟨(ag1 (ZO gn rfl (by kernel_rfl) (S.cel 2 rfl) rfl rfl K8) ag0),?_⟩;refine Qc (cs:= #[iV (QR H id).of,iV 0,.slice ra (Yd P (QR H id).of (QR H id).vals).regs.length rc]) (e:=192) (z:=2) (zv:=.agg #[iV 0,iV 0,.slice none 0 0]) [(0,_)] S gn rfl (by kernel_rfl) (by kernel_rfl) (by kernel_rfl) (by kernel_rfl) rfl (by kernel_rfl) fun b1 g aJ S=>?_;refine QM (e:=192) (z:=2) (by':=39) 4 0 S el162 gn rfl rfl rfl rfl rfl rfl (by rfl) (by omega) (fun s' aa g S=>ag0) fun s' aa g S=>?_;have bZ:cellV s'=true:=(S.sl 4 rfl).cellV;refine I6 rfl ?_
 refine I0 8 rfl ?_;refine Qg 3 S gn rfl rfl bZ (by kernel_rfl) rfl (by decide) (by simp) (fun g S=>ag0) fun g S=>?_;have S2:SH h (owns (hpR ph H ae::thL tb (pvL P V) T ⟨.slice fa T.F.length fc,fb,vs⟩)) ([slR 2 0 (.slice ra (Yd P (QR H id).of (QR H id).vals).regs.length rc) (isV (Yd P (QR H id).of (QR H id).vals).regs) (Yd P (QR H id).of (QR H id).vals).regs.length rb]++(hpR ph H ae::cR tb (.cells (pvL P V++[s',iV T.trap]) 196 0)::slR 192 2 s' (frC T.F vs++[iV (QR H id).of,iV 0,.slice ra (Yd P (QR H id).of (QR H id).vals).regs.length rc]) (T.F.length+1) aa::frP T.F vs)) g:=S.drop;have cz:=Q71 (cells:=(QR H id).vals) hM hT f0 f1 (by omega) nk
 have cp:(vs++[(Value.slice ra (Yd P (QR H id).of (QR H id).vals).regs.length rc,rb)]).length=(T.F++[Yd P (QR H id).of (QR H id).vals]).length:=by simp[hw]
 have S3:SH h (owns (hpR ph H ae::thL tb (pvL P V) T ⟨.slice fa T.F.length fc,fb,vs⟩)) (thL tb (pvL P V) {T with F:=T.F++[Yd P (QR H id).of (QR H id).vals]} ⟨s',aa,vs++[(.slice ra (Yd P (QR H id).of (QR H id).vals).regs.length rc,rb)]⟩++[hpR ph H ae]) g:=by
  have S3a:=SH.comm (A:=[_]) S2;have S3b:SH h (owns (hpR ph H ae::thL tb (pvL P V) T ⟨.slice fa T.F.length fc,fb,vs⟩)) ([hpR ph H ae]++((cR tb (.cells (pvL P V++[s',iV T.trap]) 196 0)::slR 192 2 s' (frC T.F vs++[iV (QR H id).of,iV 0,.slice ra (Yd P (QR H id).of (QR H id).vals).regs.length rc]) (T.F.length+1) aa::frP T.F vs)++[slR 2 0 (.slice ra (Yd P (QR H id).of (QR H id).vals).regs.length rc) (isV (Yd P (QR H id).of (QR H id).vals).regs) (Yd P (QR H id).of (QR H id).vals).regs.length rb])) g:=S3a;have S3:=SH.comm S3b;unfold thL
  show SH h _ (cR tb (.cells (pvL P V++[s',iV T.trap]) 196 0)::slR 192 2 s' (frC (T.F++[Yd P (QR H id).of (QR H id).vals]) (vs++[(.slice ra (Yd P (QR H id).of (QR H id).vals).regs.length rc,rb)])) (T.F++[Yd P (QR H id).of (QR H id).vals]).length aa::frP (T.F++[Yd P (QR H id).of (QR H id).vals]) (vs++[(.slice ra (Yd P (QR H id).of (QR H id).vals).regs.length rc,rb)])++[hpR ph H ae]) g;rw[Q7Y _ _ _ _ hw,Q4f _ _ _ _ hw,v0j];exact S3
 refine Q0<|Q3 (by kernel_rfl)<|I1 rfl ?_;refine QZ [_,_] gn rfl rfl (by kernel_rfl) rfl (C.mono (m91 (k:=1) (P:=P) (V:=V) (T:= {T with F:=T.F++[Yd P (QR H id).of (QR H id).vals]}) (w:=⟨s',aa,vs++[(.slice ra (Yd P (QR H id).of (QR H id).vals).regs.length rc,rb)]⟩) (h0:=h0) (SH.subL S0 S0.own0L S3) cp cz (by simp;omega) (fun y hy=>(Kx hM (cz.2 y hy)).1)) ?_);intro v g S4;have S:=SH.comm (B:=[_]) (SH.retL S3 S4);refine⟨ag0,?_⟩;refine Q0 ?_;refine⟨.inr rfl,_,rfl,?_⟩
 exact⟨onT {T with F:=T.F++[Yd P (QR H id).of (QR H id).vals]} 1,⟨s',aa,vs++[(Value.slice ra (Yd P (QR H id).of (QR H id).vals).regs.length rc,rb)]⟩,by unfold onT;show _=(Qfa _ _).length;rw[Q4b];exact cp,.inr ⟨(QR H id).of,(QR H id).vals,f0,f1,by omega,nk,rfl⟩,S⟩
end
section
variable {P:Prg} {T T':MThr} {x:Ins}
theorem Qa2 {f:Int} (hM:ZL P=true) (h0:0<=f) (h1:f <P.funs.length):Q40 (Qt P f)=true:=by
 have hj:f.toNat <P.funs.length:=by omega
 have e1:P.funs[f.toNat]=Qt P f:=by
  have:=Jb h0 h1;rw[v0c hj]at this;exact v0h.inj this
 cases hh:Q40 (Qt P f)with
 |true=>rfl
 |false=>rw[<-e1]at hh;rw[Q7I hj hh]at hM;cases hM
theorem at_ok {y:MFrm} (hM:ZL P=true) (ok:FrOk P y) (h1:(Q0Z P y.fn y.at').op≠31) (h2:(Q0Z P y.fn y.at').op≠33):y.at'+1 <(Qt P y.fn).code.length:=by
 have a0:=ok.a0;have a1:=ok.a1;refine Classical.byContradiction fun hc=>?_;have hl:=Qa2 hM ok.f0 ok.f1;unfold Q40 at hl;rw[last_at (by omega)]at hl
 have e:(Qt P y.fn).code[(Qt P y.fn).code.length -1]'(by omega)=Q0Z P y.fn y.at':=by
  have:=Q4a ok;rw[v0c (by omega)]at this;have:=v0h.inj this;rw[<-this]
  congr 1;omega
 rw[e]at hl;simp only[Bool.or_eq_true,decide_eq_true_eq]at hl;exact hl.elim h2 h1
theorem QdB {k:Nat} {f:MFrm->MFrm} (hT:Kl P T) (hf: ∀y,T.F[k]?=some y->FrOk P y->FrOk P (f y)):Kl P {T with F:=T.F.modify k f}:=by
 refine⟨by show(T.F.modify k f).length<=32;rw[v0l];exact hT.1,fun y hy=>?_⟩;have hy:y∈T.F.modify k f:=hy;obtain⟨i,hi,rfl⟩:=List.mem_iff_getElem.1 hy;have aX:i <T.F.length:=by rw[v0l]at hi;exact hi
 have k':=hT.2 _ (List.getElem_mem aX);rw[List.getElem_modify]
 split
 · rename_i e;subst e;exact hf _ (v0c aX) k'
 exact k'
theorem Qet {y:MFrm} {a:Nat} (hT:Kl P T) (hy:T.F[T.F.length -1 -a]?=some y) (h:y.at'+1 <(Qt P y.fn).code.length):Kl P (onT T a):=by
 refine QdB hT fun z hz ok=>?_;rw[hy]at hz;cases hz;have:=ok.a0;exact⟨ok.f0,ok.f1,by show 0<=y.at'+1;omega,h,ok.r⟩
theorem Qbr {k:Nat} {n:Int} {y:MFrm} (hT:Kl P T) (hy:T.F[k]?=some y) (h0:0<=n) (h:n <(Qt P y.fn).code.length):Kl P {T with F:=atF T.F k n}:=by
 refine QdB hT fun z hz ok=>?_;rw[hy]at hz;cases hz;exact⟨ok.f0,ok.f1,h0,h,ok.r⟩
theorem Qe9 {a n:Int} (hl:0 <T.F.length):(setT T a n).F[(setT T a n).F.length -1]?=some {Qv T with regs:=(Qv T).regs.set a.toNat n}:=by
 show(Q34 T.F (T.F.length -1) a n)[(Q34 T.F (T.F.length -1) a n).length -1]?=_;rw[Q7v];unfold Q34;rw[v2o,Ya hl];rfl
structure OnH (P:Prg) (T:MThr):Prop where
 m:ZL P=true
 t:Kl P T
 l:0 <T.F.length
 o1:(Qa P T).op≠31
 o2:(Qa P T).op≠33
theorem OnH.at (h:OnH P T):(Qv T).at'+1 <(Qt P (Qv T).fn).code.length:=at_ok h.m (h.t.2 _ (ZZ h.l)) h.o1 h.o2
theorem OnH.on0 (h:OnH P T):Kl P (onT T 0):=Qet h.t (Ya h.l) h.at
theorem OnH.on1 {a n:Int} (h:OnH P T):Kl P (onT (setT T a n) 0):=Qet (Q04 h.t).1 (Qe9 h.l) h.at
theorem Q27 {a:Nat}:(onT T a).F.length=T.F.length:=Q4b _ _
theorem Q8S (h:OnH P T) (hv:TV x T T'):Kl P T'/\T'.F.length=T.F.length:=by
 rcases hv with⟨k,_,rfl⟩| ⟨T1,h1,rfl⟩
 · exact⟨h.t,rfl⟩
 rcases h1 with rfl| ⟨n,rfl⟩
 · exact⟨h.on0,Q27⟩
 exact⟨h.on1,by rw[Q27];exact(Q04 h.t).2⟩
theorem TS_ok (h:OnH P T) (hv:TS x T T'):Kl P T'/\T'.F.length=T.F.length:=by
 rcases hv with rfl| ⟨k,_,rfl⟩| ⟨n,rfl⟩
 · exact⟨h.t,rfl⟩
 · exact⟨h.t,rfl⟩
 exact⟨h.on1,by rw[Q27];exact(Q04 h.t).2⟩
theorem TC_ok (h:OnH P T) (hv:TC P T T'):Kl P T':=by
 rcases hv with⟨k,_,rfl⟩| ⟨f,cells,f0,f1,hc,hl,rfl⟩
 · exact h.t
 refine Qet (y:=Qv T) (Q71 h.m h.t f0 f1 hc hl) ?_ h.at;show(T.F++[_])[(T.F++[Yd P f cells]).length -1 -1]?=_;rw[v0j,List.length_singleton,v2h,v0z (by have:=h.l;omega)];exact Ya h.l
theorem Qc6 {it:Int} (h:OnH P T):Kl P (Q6m x T it)/\(Q6m x T it).F.length=T.F.length:=by
 cases e:ZS x (Qv T).regs it with
 |none=>rw[Q0K e];exact⟨h.t,rfl⟩
 |some n=>rw[Q35 e];exact⟨h.on1,by rw[Q27];exact(Q04 h.t).2⟩
theorem pop_ok (hT:Kl P T):Kl P {T with F:=T.F.take (T.F.length -1)}:=
 ⟨v0t (by show(T.F.take _).length<=_;rw[v0E];omega) hT.1,fun y hy=>hT.2 y (List.mem_of_mem_take hy)⟩
theorem Q1D {F:Fun} (hi:Z0 P F x=true) (ho:x.op=31\/x.op=32):0<=x.n/\x.n <F.code.length:=by
 have hn:=Q0h hi;unfold Q1f at hn;rw[if_neg (by omega),if_neg (by omega),if_neg (by omega),if_neg (by omega),if_neg (by omega),if_neg (by omega),if_pos ho]at hn;exact Z5.1 hn
end
section
variable {h0 h:Hp} {ds:List Nat} {A B:List Res} {tb:Nat} {pv:List Value} {T:MThr}
theorem Q1w {w:ThW} (S:SH h0 ds (A++thL tb pv T w) h) (hw:w.vs.length=T.F.length): ∃aa,SH h0 ds (A++[thR tb pv T aa]) h:=⟨_,Jg S ⟨w,hw,rfl⟩⟩
theorem Q07 {ra:Option Addr} {n c:Nat} {R:List Int} {vb:List Nat} (x:SlC 2 0 h (.slice ra n c) (isV R) R.length vb) (hp:0 <R.length): ∃b cs m,ra=some ⟨b,0,none⟩/\h.get b=some (.cells cs 2 m)/\ ∀a:Int,0<=a->a <R.length->cs[0+v0f a*1]?=some (iV (reg R a)):=by
 obtain⟨b,cs,m,rfl,hg,_⟩:=Q2J x (Int.le_refl 0) (by omega);refine⟨b,cs,m,rfl,hg,fun a h0 h1=>?_⟩;obtain⟨b',cs',m',e,iu,hc⟩:=Q2J x h0 h1;cases e;rw[hg]at iu;cases iu;exact hc
theorem Q7X: ∀(l:List MFrm) (c:List (Value×List Nat)) (k:Nat),c.length=l.length->(frC l c).take (k*3)=frC (l.take k) (c.take k)
 | [],[],k,_=>by simp[frC]
 | [],_::_,_,h=>by simp at h
 |_::_,[],_,h=>by simp at h
 |o::l,v::c,0,_=>by simp[frC]
 | o::l,v::c,k+1,h=>by
   show([iV o.fn,iV o.at',v.1]++frC l c).take ((k+1)*3)=[iV o.fn,iV o.at',v.1]++frC (l.take k) (c.take k);rw[<-Q7X l c k (by simpa using h),show(k+1)*3=3+k*3 by omega,List.take_append];have:([iV o.fn,iV o.at',v.1]:List Value).length=3:=rfl;rw[this,Nat.add_sub_cancel_left,List.take_of_length_le (by rw[this];omega)]
theorem th_pop {b c:Nat} {fb:List Nat} {vs:List (Value×List Nat)} (hw:vs.length=T.F.length) (hl:0 <T.F.length) (S:SH h0 ds (cR tb (.cells (pv++[.slice (some ⟨b,0,none⟩) (T.F.length -1) c,iV T.trap]) 196 0)::slR 192 2 (.slice (some ⟨b,0,none⟩) T.F.length c) (frC T.F vs) T.F.length fb::(frP T.F vs++B)) h):SH h0 ds (thL tb pv {T with F:=T.F.take (T.F.length -1)} ⟨.slice (some ⟨b,0,none⟩) (T.F.length -1) c,fb,vs.take (T.F.length -1)⟩++B) h:=by
 have x:=S.sl 1 rfl;have x':=x.first (k:=T.F.length -1) (by omega)
 rw[Q7X _ _ _ hw]at x';have S1:=S.upd (r':=slR 192 2 (.slice (some ⟨b,0,none⟩) (T.F.length -1) c) (frC (T.F.take (T.F.length -1)) (vs.take (T.F.length -1))) (T.F.length -1) fb) 1 rfl (ExtB.refl _ _) x' (fun j hj=>S.lt j (by simp[owns,cR,slR]at hj ⊢;exact .inr (.inl hj))) (fun j hj=>.inl hj) x.nodup
 have eF:T.F=T.F.take (T.F.length -1)++[T.F[T.F.length -1]'(by omega)]:=by
  have:=v01 (T.F.length -1) T.F;rw[v1J (by omega),List.drop_of_length_le (by omega)]at this;exact this.symm
 have eV:vs=vs.take (T.F.length -1)++[vs[T.F.length -1]'(by omega)]:=by
  have:=v01 (T.F.length -1) vs;rw[v1J (by omega),List.drop_of_length_le (by omega)]at this;exact this.symm
 have eP:frP T.F vs=frP (T.F.take (T.F.length -1)) (vs.take (T.F.length -1))++[slR 2 0 (vs[T.F.length -1]'(by omega)).1 (isV (T.F[T.F.length -1]'(by omega)).regs) (T.F[T.F.length -1]'(by omega)).regs.length (vs[T.F.length -1]'(by omega)).2]:=by
  conv=>lhs;rw[eF,eV]
  rw[Q4f _ _ _ _ (by simp[hw])]
 have el:(T.F.take (T.F.length -1)).length=T.F.length -1:=by simp
 have S2:SH h0 ds ((thL tb pv {T with F:=T.F.take (T.F.length -1)} ⟨.slice (some ⟨b,0,none⟩) (T.F.length -1) c,fb,vs.take (T.F.length -1)⟩)++slR 2 0 (vs[T.F.length -1]'(by omega)).1 (isV (T.F[T.F.length -1]'(by omega)).regs) (T.F[T.F.length -1]'(by omega)).regs.length (vs[T.F.length -1]'(by omega)).2::B) h:=by
  have S1:SH h0 ds (cR tb (.cells (pv++[.slice (some ⟨b,0,none⟩) (T.F.length -1) c,iV T.trap]) 196 0)::slR 192 2 (.slice (some ⟨b,0,none⟩) (T.F.length -1) c) (frC (T.F.take (T.F.length -1)) (vs.take (T.F.length -1))) (T.F.length -1) fb::(frP T.F vs++B)) h:=S1;rw[eP,v0F]at S1;unfold thL;show SH h0 ds (cR tb (.cells (pv++[.slice (some ⟨b,0,none⟩) (T.F.length -1) c,iV T.trap]) 196 0)::slR 192 2 (.slice (some ⟨b,0,none⟩) (T.F.length -1) c) (frC (T.F.take (T.F.length -1)) (vs.take (T.F.length -1))) (T.F.take (T.F.length -1)).length fb::(frP (T.F.take (T.F.length -1)) (vs.take (T.F.length -1))++_)) h;rw[el];exact S1
 exact S2.unmid.drop
end
section
variable {h0 h:Hp} {P:Prg} {V:PrV} {tb:Nat} {T:MThr} {bs:List Nat} {o:Int}
theorem m73z (X0:Q1m h0 P V) (e0:Ext h0 h) (p:Held (thR tb (pvL P V) T bs) h) (hT:Kl P T) (hl:0 <T.F.length):C modE 88 [Qk tb] h fun v h'=>(∃lv ln,v=Qf6 (Qa P T) lv ln/\RowV h0 lv (isV (Qa P T).l))/\Ext h h':=by
 obtain⟨a,c,w,hw,_,hq,cM,hr,dy,bX⟩:=Q1P p;obtain⟨b,r,m,rfl,bC,j7,_⟩:=Q8K hr hl;have dR:=dy b (by rw[j7];simp);have aE:=Ya hl;have ok:=hT.2 _ (ZZ hl);have h32:=hT.1;obtain⟨v,hv⟩: ∃v,w.vs[T.F.length -1]?=some v:=⟨_,v0c (by omega)⟩
 have k0:((frC T.F w.vs++r).drop (0+v0f ((T.F.length:Int) -1)*3)).take 3=[iV (Qv T).fn,iV (Qv T).at',v.1]:=by
  rw[v0e,show v0f ((T.F.length:Int) -1)=T.F.length -1 by omega];exact Q0k _ _ _ _ _ _ aE hv
 obtain⟨fb,fo,fc,fcs,fe,fm,cG,hfg0,nH,hfn,s,cv,iw,ew⟩:=PrgAt.fun X0 ok.f0 ok.f1;have gu:=(e0.get _ nH).trans hfg0;have gM:=v0p nH e0.n;obtain⟨cb,co,cc,ccs,ce,cm,rfl,hcg0,nV,jD,iD⟩:=ew.at (by have:=ok.a0;have:=ok.a1;omega);have nW:=(e0.get _ nV).trans hcg0;have cK:=v0p nV e0.n;have f0:=ok.f0;have f1:=ok.f1;have a0:=ok.a0;have a1:=ok.a1;have hj:(Qv T).at'.toNat <(Qt P (Qv T).fn).code.length:=by omega
 have kf:fcs[fo+v0f (Qv T).fn*4+3]?=some (.slice (some ⟨cb,co,none⟩) (Qt P (Qv T).fn).code.length cc):=Qs iw (by omega) rfl;obtain⟨⟨lv,ln,nz,fM⟩,_⟩:=iD _ hj
 have ei:(Qt P (Qv T).fn).code[(Qv T).at'.toNat]=Qa P T:=by
  have:=Q4a ok;rw[v0c hj]at this;exact v0h.inj this
 rw[ei]at nz fM;obtain⟨lva,lvc,rfl⟩:=fM.valM;refine YW (fu:=Tryz.f88) (by kernel_rfl) rfl ?_;have S:=SH.start h;refine Q7 ?_;refine Qx (zv:=.agg #[iV 0,iV 0,iV 0,iV 0,iV 0,.slice none 0 0,iV 0,iV 0]) S gn rfl (by kernel_rfl) fun b1 g aJ S=>?_;refine Q0<|Q5<|I9<|I1 rfl<|I6 rfl<|I0 8 rfl<|I4 rfl (S.old0 hq cM) rfl<|I1 rfl<|I6 rfl<|I0 8 rfl<|I4 rfl (S.old0 hq cM) rfl<|I7 rfl<|Iso rfl rfl<|I5o 3 rfl rfl<|Zb (n:=3) gn rfl rfl (by kernel_rfl) (by kernel_rfl) (S.old0 bC dR) (by rw[v0j,JS _ _ hw];omega) ?_
 rw[k0];refine Qx (zv:=.agg #[iV 0,iV 0,.slice none 0 0]) S gn rfl (by kernel_rfl) fun b2 g bK S=>?_;refine Qi (n:=3) 0 S gn rfl rfl (QaE (bX _ _ _ aE hv).cellV) (by kernel_rfl) rfl rfl (by decide) rfl (fun g S=>ag0) fun g S=>?_;refine Q0<|Q5<|I9<|I1 rfl<|I6 rfl<|I0 0 rfl<|I0 3 rfl<|I4 rfl (S.old0 hq cM) rfl<|I0 0 rfl<|I4 rfl (S.cel 0 rfl) rfl ?_;rw[cG];refine I5o 4 rfl rfl ?_;rw[<-cG];refine I0 3 rfl<|I4 rfl (S.old0 gu gM) kf<|I0 1 rfl<|I4 rfl (S.cel 0 rfl) rfl<|I5o 8 rfl rfl<|I3 8 rfl (S.old0 nW cK) (by omega) ?_
 rw[nz];refine Qi (n:=8) 1 S gn rfl rfl (by kernel_rfl) (by kernel_rfl) rfl rfl (by decide) rfl (fun g S=>ag0) fun g S=>?_;refine Q0<|Q8 ?_;refine⟨.inl rfl,_,(Zn rfl (by kernel_rfl) (by kernel_rfl) (S.cel 1 rfl) rfl rfl),?_⟩;exact⟨⟨_,ln,rfl,fM⟩,S.e0⟩
end
structure StepP (P:Prg) (T:MThr) (H:List MObj) (a:MAsk) (e:Int) (T':MThr) (H':List MObj):Prop where
 t:Kl P T'
 h:H'.length<=1024
 acc:a.acc.length<=1
 ask:a.op≠0->e=0/\T'=T/\H'=H/\a=Q4u (Qa P T) (Qv T).regs/\K0 (Qa P T).op=true
 over:Yc T=true->e≠0
abbrev asN (A:List MAcc):MAsk:=⟨0,0,0,0,0,A⟩
theorem Q1z {T:MThr} (h:Yc T=false):0 <T.F.length:=by
 unfold Yc at h;simp at h;exact Nat.pos_of_ne_zero fun e=>h.1 (List.eq_nil_of_length_eq_zero e)
theorem Q8j {o:Int} (h:K0 o=false):o≠9/\o≠10/\ ¬(23<=o/\o<=30):=by
 unfold K0 at h;simp only[Bool.or_eq_false_iff,decide_eq_false_iff_not,Bool.and_eq_false_iff]at h;refine⟨h.1.1,h.1.2,fun k=>?_⟩;rcases h.2 with h|h
 · exact h k.1
 exact h k.2
theorem SH.nilTo {h0 h:Hp} {ds:List Nat} {L:List Res} (S:SH h0 ds L h):SH h0 ds (slR 66 4 (.slice none 0 0) (acC []) 0 []::L) h:=S.nilSl 66 4
section
variable {h0 h:Hp} {P:Prg} {V:PrV} {tb ph:Nat} {T:MThr} {H:List MObj} {ae bs:List Nat}
theorem m77 {task it:Int} (S0:SH h0 [] [hpR ph H ae,thR tb (pvL P V) T bs] h) (X0:Q1m h0 P V) (hM:ZL P=true) (hT:Kl P T) (hH:H.length<=1024):C modE 92 [Qk tb,Qk ph,iV task,iV it] h fun r g'=> ∃(a:MAsk) (e:Int) (sv:Value) (ab:List Nat) (T':MThr) (H':List MObj) (aa ah:List Nat),r=.tuple #[askV a sv,iV e]/\StepP P T H a e T' H'/\SH h (owns [hpR ph H ae,thR tb (pvL P V) T bs]) [slR 66 4 sv (acC a.acc) a.acc.length ab,hpR ph H' ah,thR tb (pvL P V) T' aa] g':=by
 have SE:=S0.enterL;have h32:=hT.1;have jH:H.length<=1000000:=by omega
 refine YW (fu:=Tryz.f92) (by kernel_rfl) rfl ?_;have S:=SE;refine Q7 ?_;refine Qx (zv:=.agg #[iV 0,iV 0,iV 0,iV 0,iV 0,.slice none 0 0]) S gn rfl (by kernel_rfl) fun b1 g aJ S=>?_;refine I2 rfl<|Z8<|I1 rfl<|Ic [_] rfl rfl (Ql (m79 (S.held 2 rfl)) ⟨ag0,?_⟩);refine Q0<|Q2 rfl (fun hb=>?_) fun hb=>?_
 · skip
   refine Q7<|Qq (zv:=.agg #[iV 0,iV 0,iV 0,iV 0,iV 0,.slice none 0 0]) (pl:=[(0,1),(1,1),(2,1),(3,1),(4,1),(5,1)]) [] gn rfl (by kernel_rfl) (by kernel_rfl) rfl (by rfl) ?_;refine Qi (n:=6) 0 S gn rfl rfl rfl (by kernel_rfl) rfl rfl (by decide) rfl (fun g S=>ag0) fun g S=>?_;refine I2 rfl<|Q0<|Q8 ?_;refine⟨.inl rfl,_,(Zn rfl (by kernel_rfl) (by kernel_rfl) (S.cel 0 rfl) rfl (Yv rfl rfl)),?_⟩;exact⟨asN [],13,.slice none 0 0,[],T,H,bs,ae,rfl,⟨hT,hH,v0s _,fun e=>absurd rfl e,fun _=>by decide⟩,SH.nilTo S.drop⟩
 refine Q4<|Q7 ?_;have aW:Yc T=false:=hb;have hl:=Q1z aW;refine I1 rfl<|Ic [_] rfl rfl (C.mono (m73z X0 (S0.all0 S0.own0L S) (S.held 2 rfl) hT hl) ?_);rintro v g ⟨⟨lv,ln,rfl,jt⟩,x⟩;have S:=S.grow x;obtain⟨lva,lvc,rfl⟩:=jt.valM;refine⟨ag0,?_⟩;refine Qx (zv:=.agg #[iV 0,iV 0,iV 0,iV 0,iV 0,.slice none 0 0,iV 0,iV 0]) S gn rfl (by kernel_rfl) fun b2 g bK S=>?_;refine Qi (n:=8) 0 S gn rfl rfl rfl (by kernel_rfl) rfl rfl (by decide) rfl (fun g S=>ag0) fun g S=>?_
 have S:SH h (owns [hpR ph H ae,thR tb (pvL P V) T bs]) ([bxR b2 (Qa P T) (.slice lva (Qa P T).l.length lvc) ln,cR b1 (.cells [iV 0,iV 0,iV 0,iV 0,iV 0,.slice none 0 0] 202 0),hpR ph H ae]++[thR tb (pvL P V) T bs]) g:=S;obtain⟨⟨fv,wb,vs⟩,hw,aj,S⟩:=Q98 S;have hw:vs.length=T.F.length:=hw;have S:SH h (owns [hpR ph H ae,thR tb (pvL P V) T bs]) (bxR b2 (Qa P T) (.slice lva (Qa P T).l.length lvc) ln::cR b1 (.cells [iV 0,iV 0,iV 0,iV 0,iV 0,.slice none 0 0] 202 0)::hpR ph H ae::thL tb (pvL P V) T ⟨fv,wb,vs⟩) g:=S;obtain⟨fa,fc,fN⟩:=Q6 (S.sl 4 rfl);have fN:fv=.slice fa T.F.length fc:=fN;subst fN
 have aq:SlC 192 2 g (.slice fa T.F.length fc) (frC T.F vs) T.F.length wb:=S.sl 4 rfl;obtain⟨fb,r,m,rfl,bC,j7,hm5⟩:=Q8K aq hl;have aE:=Ya hl;have ok:=hT.2 _ (ZZ hl);have bm:=ok.r;have hi:=Q7V hM ok;have hi:Z0 P (Qt P (Qv T).fn) (Qa P T)=true:=hi;obtain⟨⟨v1,vb⟩,hv⟩: ∃v,vs[T.F.length -1]?=some v:=⟨_,v0c (by omega)⟩;have gL:v0f ((T.F.length:Int) -1)=T.F.length -1:=by omega
 have k0:(frC T.F vs++r)[0+v0f ((T.F.length:Int) -1)*3+2]?=some v1:=by rw[gL,v0e];exact Qs (Q0k _ _ _ _ _ _ aE hv) (by omega) rfl
 have k1:(frC T.F vs++r)[0+v0f ((T.F.length:Int) -1)*3+1]?=some (iV (Qv T).at'):=by rw[gL,v0e];exact Qs (Q0k _ _ _ _ _ _ aE hv) (by omega) rfl
 have fZ:(thL tb (pvL P V) T ⟨.slice (some ⟨fb,0,none⟩) T.F.length fc,wb,vs⟩)[2+(T.F.length -1)]?=some (slR 2 0 v1 (isV (Qv T).regs) (Qv T).regs.length vb):=Q2X (v:=(v1,vb)) aE hv;have aF:(bxR b2 (Qa P T) (.slice lva (Qa P T).l.length lvc) ln::cR b1 (.cells [iV 0,iV 0,iV 0,iV 0,iV 0,.slice none 0 0] 202 0)::hpR ph H ae::thL tb (pvL P V) T ⟨.slice (some ⟨fb,0,none⟩) T.F.length fc,wb,vs⟩)[2+(T.F.length -1)+1+1+1]?=some (slR 2 0 v1 (isV (Qv T).regs) (Qv T).regs.length vb):=fZ;obtain⟨ra,rc,rfl⟩:=Q6 (S.sl _ aF);refine Q0<|Q5<|I9<|I1 rfl<|I6 rfl<|I0 8 rfl ?_
 refine I4 rfl (S.cel 3 rfl) rfl<|I1 rfl<|I6 rfl<|I0 8 rfl<|I4 rfl (S.cel 3 rfl) rfl<|I7 rfl<|Iso rfl rfl<|I5o 3 rfl rfl<|I2 rfl<|QP<|I1 rfl<|I6 rfl<|I0 2 rfl<|I4 rfl bC k0<|I2 rfl<|Z8 ?_;refine I0 0 rfl<|I4 rfl (S.cel 0 rfl) rfl<|Ic [_] rfl rfl (Ql (m84) ⟨ag0,?_⟩);refine Q0<|Q2 rfl (fun hb=>?_) fun hb=>?_
 · skip
   refine Q7<|I1 rfl<|I3 8 rfl (S.cel 0 rfl) (v0b _)<|I1 rfl<|Ic [_,_,_] rfl rfl (C.mono (m85 (S.sl _ aF).row bm rfl hi) ?_);rintro v g ⟨rfl,x⟩;have S:=S.grow x;refine⟨ag0,?_⟩;refine Qi (n:=6) 1 S gn rfl rfl rfl (by kernel_rfl) rfl rfl (by decide) rfl (fun g S=>ag0) fun g S=>?_;refine I2 rfl<|Q0<|Q8 ?_;refine⟨.inl rfl,_,(Zn rfl (by kernel_rfl) (by kernel_rfl) (S.cel 1 rfl) rfl (Yv rfl rfl)),?_⟩
   exact(by
    obtain⟨aa,S⟩:=Q1w (A:=[_]) (SH.nilTo S.drop.drop).drop hw
    exact⟨Q4u (Qa P T) (Qv T).regs,0,.slice none 0 0,[],T,H,aa,ae,rfl,⟨hT,hH,v0s _,fun _=>⟨rfl,rfl,rfl,rfl,hb⟩,fun e=>by rw[aW]at e;cases e⟩,SH.nilTo S⟩)
 refine Q4<|Q5<|Q7 ?_;have fL:=Q8j hb;have S3:SH h (owns [hpR ph H ae,thR tb (pvL P V) T bs]) (thL tb (pvL P V) T ⟨.slice (some ⟨fb,0,none⟩) T.F.length fc,wb,vs⟩++[bxR b2 (Qa P T) (.slice lva (Qa P T).l.length lvc) ln,cR b1 (.cells [iV 0,iV 0,iV 0,iV 0,iV 0,.slice none 0 0] 202 0),hpR ph H ae]) g:=SH.comm (A:=[_,_,_]) S;refine I1 rfl<|I3 8 rfl (S.cel 0 rfl) (v0b _)<|I1 rfl<|I1 rfl<|Ic [_,_,_,_] rfl rfl (C.mono (m86 (v:=(_,vb)) (SH.subL S0 S0.own0L S3) hM hw hT hl hi hv rfl) ?_);rintro v g ⟨rfl,S2⟩;have S:=SH.comm (B:=[_,_,_]) (SH.retL S3 S2);refine⟨ag0,?_⟩;refine Q0 ?_
 refine Q2 rfl (fun hb=>?_) fun hb=>?_
 · skip
   refine Q7<|Qq (zv:=.agg #[iV 0,iV 0,iV 0,iV 0,iV 0,.slice none 0 0]) (pl:=[(0,1),(1,1),(2,1),(3,1),(4,1),(5,1)]) [] gn rfl (by kernel_rfl) (by kernel_rfl) rfl (by rfl) ?_;refine Qi (n:=6) 1 S gn rfl rfl rfl (by kernel_rfl) rfl rfl (by decide) rfl (fun g S=>ag0) fun g S=>?_;refine I2 rfl<|Q0<|Q8 ?_;refine⟨.inl rfl,_,(Zn rfl (by kernel_rfl) (by kernel_rfl) (S.cel 1 rfl) rfl (Yv rfl rfl)),?_⟩
   exact(by
    have hr8:1<=(Qa P T).op/\(Qa P T).op<=8:=by
     obtain⟨n,hn⟩:=Option.isSome_iff_exists.1 (show(ZS (Qa P T) (Qv T).regs it).isSome=true from hb);exact reckR hn
    have jV:OnH P T:=⟨hM,hT,hl,by omega,by omega⟩;have hk:=Qc6 (x:=Qa P T) (it:=it) jV;obtain⟨aa,S⟩:=Q1w (A:=[_]) S.drop.drop (hw.trans hk.2.symm)
    exact⟨asN [],0,.slice none 0 0,[],_,H,aa,ae,rfl,⟨hk.1,hH,v0s _,fun e=>absurd rfl e,fun e=>by rw[aW]at e;cases e⟩,SH.nilTo S⟩)
 refine Q4<|Q5<|Q7 ?_
 have lJ:ZS (Qa P T) (Qv T).regs it=none:=by
  cases e:ZS (Qa P T) (Qv T).regs it with
  |none=>rfl
  |some n=>rw[e]at hb;cases hb
 rw[Q0K lJ]at S;have Sd:SH h (owns [hpR ph H ae,thR tb (pvL P V) T bs]) ((hpR ph H ae::thL tb (pvL P V) T ⟨.slice (some ⟨fb,0,none⟩) T.F.length fc,wb,vs⟩)++[bxR b2 (Qa P T) (.slice lva (Qa P T).l.length lvc) ln,cR b1 (.cells [iV 0,iV 0,iV 0,iV 0,iV 0,.slice none 0 0] 202 0)]) g:=SH.comm (A:=[_,_]) S;refine I1 rfl<|I1 rfl<|I3 8 rfl (S.cel 0 rfl) (v0b _)<|I1 rfl<|I1 rfl<|Ic [_,_,_,_,_] rfl rfl (C.mono (m87 (v:=(_,vb)) (SH.subL S0 S0.own0L Sd) X0 hM hw hT hl hi hv jt hH) ?_);rintro v g ⟨mb,me,T',H',ah,rfl,hmf,hmt,hTS,kq,S2⟩;have S:=SH.comm (B:=[_,_]) (SH.retL Sd S2)
 refine⟨ag0,?_⟩;refine I1 rfl<|Ix rfl rfl<|Ix rfl rfl<|I2 rfl<|I2 rfl<|QP<|I1 rfl<|Q0<|Q2 rfl (fun hb=>?_) fun hb=>?_
 · skip
   refine Q7<|Qq (zv:=.agg #[iV 0,iV 0,iV 0,iV 0,iV 0,.slice none 0 0]) (pl:=[(0,1),(1,1),(2,1),(3,1),(4,1),(5,1)]) [] gn rfl (by kernel_rfl) (by kernel_rfl) rfl (by rfl)<|I1 rfl ?_;refine Qi (n:=6) 1 S gn rfl rfl rfl (by kernel_rfl) rfl rfl (by decide) rfl (fun g S=>ag0) fun g S=>?_;refine I2 rfl<|Q0<|Q8 ?_;refine⟨.inl rfl,_,(Zn rfl (by kernel_rfl) (by kernel_rfl) (S.cel 1 rfl) rfl (Yv rfl rfl)),?_⟩
   exact(by
    have aG:=hmt hb;have jV:OnH P T:=⟨hM,hT,hl,by rcases aG with e|e|e|e<;>omega,by rcases aG with e|e|e|e<;>omega⟩;have hk:=TS_ok jV hTS;obtain⟨aa,S⟩:=Q1w (A:=[_]) S.drop.drop (hw.trans hk.2.symm)
    exact⟨asN [],me,.slice none 0 0,[],_,H',aa,ah,rfl,⟨hk.1,kq,v0s _,fun e=>absurd rfl e,fun e=>by rw[aW]at e;cases e⟩,SH.nilTo S⟩)
 refine Q4<|Q7 ?_;obtain⟨fR,hHH,dY⟩:=hmf hb;have S:SH h (owns [hpR ph H ae,thR tb (pvL P V) T bs]) (bxR b2 (Qa P T) (.slice lva (Qa P T).l.length lvc) ln::cR b1 (.cells [iV 0,iV 0,iV 0,iV 0,iV 0,.slice none 0 0] 202 0)::hpR ph H' ah::thL tb (pvL P V) T' ⟨.slice (some ⟨fb,0,none⟩) T.F.length fc,wb,vs⟩) g:=S;rw[fR,hHH]at S;clear aF
 have aF:(bxR b2 (Qa P T) (.slice lva (Qa P T).l.length lvc) ln::cR b1 (.cells [iV 0,iV 0,iV 0,iV 0,iV 0,.slice none 0 0] 202 0)::hpR ph H ah::thL tb (pvL P V) T ⟨.slice (some ⟨fb,0,none⟩) T.F.length fc,wb,vs⟩)[2+(T.F.length -1)+1+1+1]?=some (slR 2 0 (.slice ra (Qv T).regs.length rc) (isV (Qv T).regs) (Qv T).regs.length vb):=fZ;refine I2 rfl<|Q0 ?_
 refine ZF [(8,Qk b1)] (fun lv hh=> ∃(s:Value) (A:List MAcc) (ab:List Nat) (T':MThr) (w':ThW) (H':List MObj) (ah:List Nat),lv=[(15,s)]/\w'.vs.length=T'.F.length/\Kl P T'/\H'.length<=1024/\A.length<=1/\SH h (owns [hpR ph H ae,thR tb (pvL P V) T bs]) ((slR 66 4 s (acC A) A.length ab::hpR ph H' ah::thL tb (pvL P V) T' w')++[bxR b2 (Qa P T) (.slice lva (Qa P T).l.length lvc) ln,cR b1 (.cells [iV 0,iV 0,iV 0,iV 0,iV 0,.slice none 0 0] 202 0)]) hh) ?_ fun lv hh hJ=>?_
 · skip
   refine Q7<|I0 0 rfl<|I4 rfl (S.cel 0 rfl) rfl<|Q0<|Qb<|Q7<|Ie rfl rfl<|I2 rfl<|Q0<|Q2 rfl (fun hb=>?_) fun hb=>?_
   · skip
     refine I9 ?_;have ho:(Qa P T).op=12:=of_decide_eq_true hb
     have cL:0<=(Qa P T).b/\(Qa P T).b <(Qv T).regs.length:=by
      rw[bm];exact Q21 hi (by rw[ho];decide)
     obtain⟨b3,iU,m3,rfl,cw,aS⟩:=Q07 (S.sl _ aF) (by omega);have kb:=aS _ cL.1 cL.2;refine I1 rfl<|I1 rfl<|I3 8 rfl (S.cel 0 rfl) (v0b _)<|I1 rfl<|I0 2 rfl<|I4 rfl (S.cel 0 rfl) rfl<|I5o 1 rfl rfl<|I4 rfl cw kb<|I1 rfl ?_;have Sd:SH h (owns [hpR ph H ae,thR tb (pvL P V) T bs]) ((hpR ph H ah::thL tb (pvL P V) T ⟨.slice (some ⟨fb,0,none⟩) T.F.length fc,wb,vs⟩)++[bxR b2 (Qa P T) (.slice lva (Qa P T).l.length lvc) ln,cR b1 (.cells [iV 0,iV 0,iV 0,iV 0,iV 0,.slice none 0 0] 202 0)]) g:=SH.comm (A:=[_,_]) S
     refine QZ [_,_,_,_,_,_,_,_,_,_] gn rfl rfl (by kernel_rfl) rfl (C.mono (m88 (v:=(_,vb)) (SH.subL S0 S0.own0L Sd) hM hw hT hl (fun _=>Q08 hi (by rw[ho];decide)) hv rfl hH) ?_);rintro v g ⟨A2,gP,T2,H2,aM,fB,iH,iI,S2⟩;have S:=SH.retL Sd S2;have hk:=Q8S ⟨hM,hT,hl,by omega,by omega⟩ iH;refine⟨ag0,?_⟩;refine I2 rfl<|Q0<|Qf ?_;exact Zr [(15,_)] (p:=⟨v,A2,gP,T2,⟨.slice (some ⟨fb,0,none⟩) T.F.length fc,wb,vs⟩,H2,aM,rfl,hw.trans hk.2.symm,hk.1,iI,fB,S⟩)
   refine Q7<|Ie rfl rfl<|I2 rfl<|Q0<|Q2 rfl (fun hb=>?_) fun hb=>?_
   · skip
     refine I9 ?_;have ho:(Qa P T).op=13:=of_decide_eq_true hb
     have dE:0<=(Qa P T).a/\(Qa P T).a <(Qv T).regs.length:=by
      rw[bm];exact Q08 hi (by rw[ho];decide)
     have cL:0<=(Qa P T).b/\(Qa P T).b <(Qv T).regs.length:=by
      rw[bm];exact Q21 hi (by rw[ho];decide)
     obtain⟨b3,iU,m3,rfl,cw,aS⟩:=Q07 (S.sl _ aF) (by omega);have ka:=aS _ dE.1 dE.2;have kb:=aS _ cL.1 cL.2;refine I1 rfl<|I1 rfl<|I3 8 rfl (S.cel 0 rfl) (v0b _)<|I1 rfl<|I0 1 rfl<|I4 rfl (S.cel 0 rfl) rfl<|I5o 1 rfl rfl<|I4 rfl cw ka<|I1 rfl<|I0 2 rfl<|I4 rfl (S.cel 0 rfl) rfl<|I5o 1 rfl rfl<|I4 rfl cw kb<|I1 rfl ?_
     have Sd:SH h (owns [hpR ph H ae,thR tb (pvL P V) T bs]) ((hpR ph H ah::thL tb (pvL P V) T ⟨.slice (some ⟨fb,0,none⟩) T.F.length fc,wb,vs⟩)++[bxR b2 (Qa P T) (.slice lva (Qa P T).l.length lvc) ln,cR b1 (.cells [iV 0,iV 0,iV 0,iV 0,iV 0,.slice none 0 0] 202 0)]) g:=SH.comm (A:=[_,_]) S;refine Ic [_,_,_,_,_,_,_,_,_,_] rfl rfl (C.mono (m88 (v:=(_,vb)) (SH.subL S0 S0.own0L Sd) hM hw hT hl (fun e=>by cases e) hv rfl hH) ?_);rintro v g ⟨A2,gP,T2,H2,aM,fB,iH,iI,S2⟩;have S:=SH.retL Sd S2;have hk:=Q8S ⟨hM,hT,hl,by omega,by omega⟩ iH;refine⟨ag0,?_⟩;refine I2 rfl<|Q0<|Qf ?_
     exact Zr [(15,_)] (p:=⟨v,A2,gP,T2,⟨.slice (some ⟨fb,0,none⟩) T.F.length fc,wb,vs⟩,H2,aM,rfl,hw.trans hk.2.symm,hk.1,iI,fB,S⟩)
   refine Q7<|Ie rfl rfl<|I2 rfl<|Q0<|Q2 rfl (fun hb=>?_) fun hb=>?_
   · skip
     refine I9 ?_;have ho:(Qa P T).op=15:=of_decide_eq_true hb
     have cL:0<=(Qa P T).b/\(Qa P T).b <(Qv T).regs.length:=by
      rw[bm];exact Q21 hi (by rw[ho];decide)
     obtain⟨b3,iU,m3,rfl,cw,aS⟩:=Q07 (S.sl _ aF) (by omega);have kb:=aS _ cL.1 cL.2;refine I1 rfl<|I1 rfl<|I3 8 rfl (S.cel 0 rfl) (v0b _)<|I1 rfl<|I0 2 rfl<|I4 rfl (S.cel 0 rfl) rfl<|I5o 1 rfl rfl<|I4 rfl cw kb<|I0 4 rfl<|I4 rfl (S.cel 0 rfl) rfl<|I1 rfl ?_;have Sd:SH h (owns [hpR ph H ae,thR tb (pvL P V) T bs]) ((hpR ph H ah::thL tb (pvL P V) T ⟨.slice (some ⟨fb,0,none⟩) T.F.length fc,wb,vs⟩)++[bxR b2 (Qa P T) (.slice lva (Qa P T).l.length lvc) ln,cR b1 (.cells [iV 0,iV 0,iV 0,iV 0,iV 0,.slice none 0 0] 202 0)]) g:=SH.comm (A:=[_,_]) S
     refine QZ [_,_,_,_,_,_,_,_,_,_] gn rfl rfl (by kernel_rfl) rfl (C.mono (m88 (v:=(_,vb)) (SH.subL S0 S0.own0L Sd) hM hw hT hl (fun _=>Q08 hi (by rw[ho];decide)) hv rfl hH) ?_);rintro v g ⟨A2,gP,T2,H2,aM,fB,iH,iI,S2⟩;have S:=SH.retL Sd S2;have hk:=Q8S ⟨hM,hT,hl,by omega,by omega⟩ iH;refine⟨ag0,?_⟩;refine I2 rfl<|Q0<|Qf ?_;exact Zr [(15,_)] (p:=⟨v,A2,gP,T2,⟨.slice (some ⟨fb,0,none⟩) T.F.length fc,wb,vs⟩,H2,aM,rfl,hw.trans hk.2.symm,hk.1,iI,fB,S⟩)
   refine Q7<|Ie rfl rfl<|I2 rfl<|Q0<|Q2 rfl (fun hb=>?_) fun hb=>?_
   · skip
     refine I9 ?_;have ho:(Qa P T).op=16:=of_decide_eq_true hb
     have dE:0<=(Qa P T).a/\(Qa P T).a <(Qv T).regs.length:=by
      rw[bm];exact Q08 hi (by rw[ho];decide)
     have cL:0<=(Qa P T).b/\(Qa P T).b <(Qv T).regs.length:=by
      rw[bm];exact Q21 hi (by rw[ho];decide)
     obtain⟨b3,iU,m3,rfl,cw,aS⟩:=Q07 (S.sl _ aF) (by omega);have ka:=aS _ dE.1 dE.2;have kb:=aS _ cL.1 cL.2;refine I1 rfl<|I1 rfl<|I3 8 rfl (S.cel 0 rfl) (v0b _)<|I1 rfl<|I0 1 rfl<|I4 rfl (S.cel 0 rfl) rfl<|I5o 1 rfl rfl<|I4 rfl cw ka<|I0 4 rfl<|I4 rfl (S.cel 0 rfl) rfl<|I1 rfl<|I0 2 rfl<|I4 rfl (S.cel 0 rfl) rfl<|I5o 1 rfl rfl<|I4 rfl cw kb<|I1 rfl ?_
     have Sd:SH h (owns [hpR ph H ae,thR tb (pvL P V) T bs]) ((hpR ph H ah::thL tb (pvL P V) T ⟨.slice (some ⟨fb,0,none⟩) T.F.length fc,wb,vs⟩)++[bxR b2 (Qa P T) (.slice lva (Qa P T).l.length lvc) ln,cR b1 (.cells [iV 0,iV 0,iV 0,iV 0,iV 0,.slice none 0 0] 202 0)]) g:=SH.comm (A:=[_,_]) S;refine Ic [_,_,_,_,_,_,_,_,_,_] rfl rfl (C.mono (m88 (v:=(_,vb)) (SH.subL S0 S0.own0L Sd) hM hw hT hl (fun e=>by cases e) hv rfl hH) ?_);rintro v g ⟨A2,gP,T2,H2,aM,fB,iH,iI,S2⟩;have S:=SH.retL Sd S2;have hk:=Q8S ⟨hM,hT,hl,by omega,by omega⟩ iH;refine⟨ag0,?_⟩;refine I2 rfl<|Q0<|Qf ?_
     exact Zr [(15,_)] (p:=⟨v,A2,gP,T2,⟨.slice (some ⟨fb,0,none⟩) T.F.length fc,wb,vs⟩,H2,aM,rfl,hw.trans hk.2.symm,hk.1,iI,fB,S⟩)
   refine Q7<|Ie rfl rfl<|I2 rfl<|Q0<|Q2 rfl (fun hb=>?_) fun hb=>?_
   · skip
     refine I9 ?_;have ho:(Qa P T).op=18:=of_decide_eq_true hb
     have cL:0<=(Qa P T).b/\(Qa P T).b <(Qv T).regs.length:=by
      rw[bm];exact Q21 hi (by rw[ho];decide)
     have my:0<=(Qa P T).c/\(Qa P T).c <(Qv T).regs.length:=by
      rw[bm];exact Qek hi (by rw[ho];decide)
     obtain⟨b3,iU,m3,rfl,cw,aS⟩:=Q07 (S.sl _ aF) (by omega);have kb:=aS _ cL.1 cL.2;have kc:=aS _ my.1 my.2;refine I1 rfl<|I1 rfl<|I3 8 rfl (S.cel 0 rfl) (v0b _)<|I1 rfl<|I0 2 rfl<|I4 rfl (S.cel 0 rfl) rfl<|I5o 1 rfl rfl<|I4 rfl cw kb<|I1 rfl<|I0 3 rfl<|I4 rfl (S.cel 0 rfl) rfl<|I5o 1 rfl rfl<|I4 rfl cw kc<|I1 rfl ?_
     have Sd:SH h (owns [hpR ph H ae,thR tb (pvL P V) T bs]) ((hpR ph H ah::thL tb (pvL P V) T ⟨.slice (some ⟨fb,0,none⟩) T.F.length fc,wb,vs⟩)++[bxR b2 (Qa P T) (.slice lva (Qa P T).l.length lvc) ln,cR b1 (.cells [iV 0,iV 0,iV 0,iV 0,iV 0,.slice none 0 0] 202 0)]) g:=SH.comm (A:=[_,_]) S;refine QZ [_,_,_,_,_,_,_,_,_,_] gn rfl rfl (by kernel_rfl) rfl (C.mono (m88 (v:=(_,vb)) (SH.subL S0 S0.own0L Sd) hM hw hT hl (fun _=>Q08 hi (by rw[ho];decide)) hv rfl hH) ?_);rintro v g ⟨A2,gP,T2,H2,aM,fB,iH,iI,S2⟩;have S:=SH.retL Sd S2;have hk:=Q8S ⟨hM,hT,hl,by omega,by omega⟩ iH;refine⟨ag0,?_⟩;refine I2 rfl<|Q0 ?_
     refine Qf ?_;exact Zr [(15,_)] (p:=⟨v,A2,gP,T2,⟨.slice (some ⟨fb,0,none⟩) T.F.length fc,wb,vs⟩,H2,aM,rfl,hw.trans hk.2.symm,hk.1,iI,fB,S⟩)
   refine Q7<|Ie rfl rfl<|I2 rfl<|Q0<|Q2 rfl (fun hb=>?_) fun hb=>?_
   · skip
     refine I9 ?_;have ho:(Qa P T).op=19:=of_decide_eq_true hb
     have dE:0<=(Qa P T).a/\(Qa P T).a <(Qv T).regs.length:=by
      rw[bm];exact Q08 hi (by rw[ho];decide)
     have cL:0<=(Qa P T).b/\(Qa P T).b <(Qv T).regs.length:=by
      rw[bm];exact Q21 hi (by rw[ho];decide)
     have my:0<=(Qa P T).c/\(Qa P T).c <(Qv T).regs.length:=by
      rw[bm];exact Qek hi (by rw[ho];decide)
     obtain⟨b3,iU,m3,rfl,cw,aS⟩:=Q07 (S.sl _ aF) (by omega);have ka:=aS _ dE.1 dE.2;have kb:=aS _ cL.1 cL.2;have kc:=aS _ my.1 my.2;refine I1 rfl<|I1 rfl<|I3 8 rfl (S.cel 0 rfl) (v0b _)<|I1 rfl<|I0 1 rfl<|I4 rfl (S.cel 0 rfl) rfl<|I5o 1 rfl rfl<|I4 rfl cw ka<|I1 rfl<|I0 2 rfl<|I4 rfl (S.cel 0 rfl) rfl<|I5o 1 rfl rfl<|I4 rfl cw kb<|I1 rfl<|I0 3 rfl<|I4 rfl (S.cel 0 rfl) rfl ?_;refine I5o 1 rfl rfl<|I4 rfl cw kc<|I1 rfl ?_
     have Sd:SH h (owns [hpR ph H ae,thR tb (pvL P V) T bs]) ((hpR ph H ah::thL tb (pvL P V) T ⟨.slice (some ⟨fb,0,none⟩) T.F.length fc,wb,vs⟩)++[bxR b2 (Qa P T) (.slice lva (Qa P T).l.length lvc) ln,cR b1 (.cells [iV 0,iV 0,iV 0,iV 0,iV 0,.slice none 0 0] 202 0)]) g:=SH.comm (A:=[_,_]) S;refine Ic [_,_,_,_,_,_,_,_,_,_] rfl rfl (C.mono (m88 (v:=(_,vb)) (SH.subL S0 S0.own0L Sd) hM hw hT hl (fun e=>by cases e) hv rfl hH) ?_);rintro v g ⟨A2,gP,T2,H2,aM,fB,iH,iI,S2⟩;have S:=SH.retL Sd S2;have hk:=Q8S ⟨hM,hT,hl,by omega,by omega⟩ iH;refine⟨ag0,?_⟩;refine I2 rfl<|Q0<|Qf ?_
     exact Zr [(15,_)] (p:=⟨v,A2,gP,T2,⟨.slice (some ⟨fb,0,none⟩) T.F.length fc,wb,vs⟩,H2,aM,rfl,hw.trans hk.2.symm,hk.1,iI,fB,S⟩)
   refine Q7<|Ie rfl rfl<|I2 rfl<|Q0<|Q2 rfl (fun hb=>?_) fun hb=>?_
   · skip
     refine Q5<|Q7 ?_;have ho:(Qa P T).op=20:=of_decide_eq_true hb
     have dE:0<=(Qa P T).a/\(Qa P T).a <(Qv T).regs.length:=by
      rw[bm];exact Q08 hi (by rw[ho];decide)
     have cL:0<=(Qa P T).b/\(Qa P T).b <(Qv T).regs.length:=by
      rw[bm];exact Q21 hi (by rw[ho];decide)
     obtain⟨b3,iU,m3,rfl,cw,aS⟩:=Q07 (S.sl _ aF) (by omega);have ka:=aS _ dE.1 dE.2;have kb:=aS _ cL.1 cL.2;refine I1 rfl<|I1 rfl<|I0 2 rfl<|I4 rfl (S.cel 0 rfl) rfl<|I5o 1 rfl rfl<|I4 rfl cw kb<|Ic [_,_,_] rfl rfl (Ql (m89 (S.res 2 rfl) jH) ⟨ag0,?_⟩);refine Ib rfl<|Q0<|Q2 rfl (fun hb=>?_) fun hb=>?_
     · skip
       refine Q7<|I1 rfl<|I6 rfl<|I0 9 rfl ?_;refine Qg 3 S gn rfl rfl rfl (by kernel_rfl) rfl (by decide) (by simp) (fun g S=>ag0) fun g S=>?_;refine Q0<|QF<|Qh<|QE ?_;exact Zr [(15,_)] (p:=⟨.slice none 0 0,[],[],{T with trap:=1},⟨.slice (some ⟨fb,0,none⟩) T.F.length fc,wb,vs⟩,H,ah,rfl,hw,hT,hH,v0s _,SH.nilTo (SH.comm (A:=[_,_]) S)⟩)
     refine Q4<|Q5<|Yq [(0,[]),(1,[]),(2,[]),(3,[]),(4,[]),(5,[]),(6,[]),(7,[]),(8,[]),(9,[2]),(10,[]),(11,[])] (by kernel_rfl) (by kernel_rfl) (by kernel_rfl) (by kernel_rfl) ?_
     have hxa':0<=(Qa P T).a/\(Qa P T).a <((isV (Qv T).regs).length:Nat):=by
      rw[v0v];exact dE
     refine I1 rfl<|I0 1 rfl<|I4 rfl (S.cel 0 rfl) rfl<|I1 rfl<|I1 rfl<|I0 2 rfl<|I4 rfl (S.cel 0 rfl) rfl<|I5o 1 rfl rfl<|I4 rfl cw kb<|Ic [_,_] rfl rfl (Ql (m90 (S.res 2 rfl) jH) ⟨(ag1 (ZO gn rfl (by kernel_rfl) (S.cel 0 rfl) rfl rfl Kr) ag0),?_⟩);refine I5o 1 rfl rfl<|Zm (2+(T.F.length -1)+1+1+1) S gn rfl rfl rfl (by kernel_rfl) aF rfl (by omega) (fun g S=>ag0) fun g S=>?_
     have S5:SH h (owns [hpR ph H ae,thR tb (pvL P V) T bs]) ([bxR b2 (Qa P T) (.slice lva (Qa P T).l.length lvc) ln,cR b1 (.cells [iV 0,iV 0,iV 0,iV 0,iV 0,.slice none 0 0] 202 0),hpR ph H ah]++thL tb (pvL P V) (setT T (Qa P T).a (Q5W H (reg (Qv T).regs (Qa P T).b))) ⟨.slice (some ⟨fb,0,none⟩) T.F.length fc,wb,vs⟩) g:=by
      have e:=Q1O (tb:=tb) (pv:=pvL P V) (T:=T) (w:=⟨.slice (some ⟨fb,0,none⟩) T.F.length fc,wb,vs⟩) (v:=(.slice (some ⟨b3,0,none⟩) (Qv T).regs.length rc,vb)) (a:=(Qa P T).a) (n:=Q5W H (reg (Qv T).regs (Qa P T).b)) aE hv;show SH h _ (_::_::_::thL tb (pvL P V) {T with F:=Q34 T.F (T.F.length -1) (Qa P T).a (Q5W H (reg (Qv T).regs (Qa P T).b))} ⟨.slice (some ⟨fb,0,none⟩) T.F.length fc,wb,vs⟩) g;rw[<-e];exact S
     have S6:=SH.comm S5;have cz:=Q04 (a:=(Qa P T).a) (n:=Q5W H (reg (Qv T).regs (Qa P T).b)) hT;refine Q0<|Q3 (by kernel_rfl)<|I1 rfl ?_;refine QZ [_,_] gn rfl rfl (by kernel_rfl) rfl (C.mono (m91 (k:=0) (P:=P) (V:=V) (T:=setT T (Qa P T).a (Q5W H (reg (Qv T).regs (Qa P T).b))) (w:=⟨.slice (some ⟨fb,0,none⟩) T.F.length fc,wb,vs⟩) (h0:=h0) (SH.subL S0 S0.own0L S6) (by rw[cz.2];exact hw) cz.1 (by omega) (fun y hy=>(Kx hM (cz.1.2 y hy)).1)) ?_);intro v g S2;have S:=SH.comm (B:=[_,_,_]) (SH.retL S6 S2);have jV:OnH P T:=⟨hM,hT,hl,by omega,by omega⟩;refine⟨ag0,?_⟩;refine Q0<|Qf ?_
     exact Zr [(15,_)] (p:=⟨.slice none 0 0,[],[],onT (setT T (Qa P T).a (Q5W H (reg (Qv T).regs (Qa P T).b))) 0,⟨.slice (some ⟨fb,0,none⟩) T.F.length fc,wb,vs⟩,H,ah,rfl,by rw[Q27,cz.2];exact hw,jV.on1,hH,v0s _,SH.nilTo (SH.comm (A:=[_,_]) S)⟩)
   refine Q7<|Ie rfl rfl<|I2 rfl<|Q0<|Q2 rfl (fun hb=>?_) fun hb=>?_
   · skip
     refine Q3 (by kernel_rfl) ?_;have ho:(Qa P T).op=22:=of_decide_eq_true hb
     have dE:0<=(Qa P T).a/\(Qa P T).a <(Qv T).regs.length:=by
      rw[bm];exact Q08 hi (by rw[ho];decide)
     obtain⟨b3,iU,m3,rfl,cw,aS⟩:=Q07 (S.sl _ aF) (by omega);have ka:=aS _ dE.1 dE.2;refine I1 rfl<|I1 rfl<|I1 rfl<|I0 1 rfl<|I4 rfl (S.cel 0 rfl) rfl<|I5o 1 rfl rfl<|I4 rfl cw ka ?_;have Sd:SH h (owns [hpR ph H ae,thR tb (pvL P V) T bs]) ((hpR ph H ah::thL tb (pvL P V) T ⟨.slice (some ⟨fb,0,none⟩) T.F.length fc,wb,vs⟩)++[bxR b2 (Qa P T) (.slice lva (Qa P T).l.length lvc) ln,cR b1 (.cells [iV 0,iV 0,iV 0,iV 0,iV 0,.slice none 0 0] 202 0)]) g:=SH.comm (A:=[_,_]) S;refine Ic [_,_,_] rfl rfl (C.mono (m92 (SH.subL S0 S0.own0L Sd) X0 hM hw hT hl hH) ?_);rintro v g ⟨T2,w2,aC,hTC,S2⟩
     have S:=SH.retL Sd S2;refine⟨ag0,?_⟩;refine Q0<|Qf ?_;exact Zr [(15,_)] (p:=⟨.slice none 0 0,[],[],T2,w2,H,ah,rfl,aC,TC_ok ⟨hM,hT,hl,by omega,by omega⟩ hTC,hH,v0s _,SH.nilTo S⟩)
   refine Q7<|Ie rfl rfl<|I2 rfl<|Q0<|Q2 rfl (fun hb=>?_) fun hb=>?_
   · skip
     refine I9 ?_;have ho:(Qa P T).op=33:=of_decide_eq_true hb;obtain⟨vs2,m2,da,lM,ki⟩:=Q9i (S.sl 4 rfl);refine I1 rfl<|I1 rfl<|I6 rfl<|I0 8 rfl<|I4 rfl (S.cel 3 rfl) rfl<|I1 rfl<|I6 rfl<|I0 8 rfl<|I4 rfl (S.cel 3 rfl) rfl<|I7 rfl<|Iso rfl rfl<|Q39 el162 gn rfl rfl rfl da lM (by omega) (by omega) ?_;rw[gL];refine I6 rfl<|I0 8 rfl ?_;refine Qg 3 S gn rfl rfl rfl (by kernel_rfl) rfl (by decide) (by simp) (fun g S=>ag0) fun g S=>?_
     have S5:SH h (owns [hpR ph H ae,thR tb (pvL P V) T bs]) ([bxR b2 (Qa P T) (.slice lva (Qa P T).l.length lvc) ln,cR b1 (.cells [iV 0,iV 0,iV 0,iV 0,iV 0,.slice none 0 0] 202 0),hpR ph H ah]++(cR tb (.cells (pvL P V++[.slice (some ⟨fb,0,none⟩) (T.F.length -1) fc,iV T.trap]) 196 0)::slR 192 2 (.slice (some ⟨fb,0,none⟩) T.F.length fc) (frC T.F vs) T.F.length wb::frP T.F vs)) g:=S;have S6:=SH.comm (B:=[_,_,_]) (th_pop hw hl (SH.comm S5));refine Q0<|Qf ?_
     exact Zr [(15,_)] (p:=⟨.slice none 0 0,[],[],_,_,H,ah,rfl,by show(vs.take _).length=(T.F.take _).length;rw[v0E,v0E,hw],pop_ok hT,hH,v0s _,SH.nilTo (SH.comm (A:=[_,_]) S6)⟩)
   refine Q7<|Ie rfl rfl<|I2 rfl<|Q0<|Q2 rfl (fun hb=>?_) fun hb=>?_
   · skip
     refine Q3 (by kernel_rfl) ?_;have ho:(Qa P T).op=31:=of_decide_eq_true hb;refine I1 rfl<|I0 4 rfl<|I4 rfl (S.cel 0 rfl) rfl<|I6 rfl<|I0 1 rfl<|Zm 4 S gn rfl rfl rfl (by kernel_rfl) rfl rfl (by rw[JS _ _ hw];omega) (fun g S=>ag0) fun g S=>?_
     have S5:SH h (owns [hpR ph H ae,thR tb (pvL P V) T bs]) (bxR b2 (Qa P T) (.slice lva (Qa P T).l.length lvc) ln::cR b1 (.cells [iV 0,iV 0,iV 0,iV 0,iV 0,.slice none 0 0] 202 0)::hpR ph H ah::thL tb (pvL P V) {T with F:=atF T.F (T.F.length -1) (Qa P T).n} ⟨.slice (some ⟨fb,0,none⟩) T.F.length fc,wb,vs⟩) g:=by
      have e:=QbT (tb:=tb) (pv:=pvL P V) (T:=T) (k:=T.F.length -1) (n:=(Qa P T).n) (w:=⟨.slice (some ⟨fb,0,none⟩) T.F.length fc,wb,vs⟩) hw;rw[gL]at S;rw[<-e];exact S
     refine Q0<|Qf ?_;exact Zr [(15,_)] (p:=⟨.slice none 0 0,[],[],{T with F:=atF T.F (T.F.length -1) (Qa P T).n},⟨.slice (some ⟨fb,0,none⟩) T.F.length fc,wb,vs⟩,H,ah,rfl,by show _=(atF _ _ _).length;rw[Q19];exact hw,Qbr hT aE (Q1D hi (.inl ho)).1 (Q1D hi (.inl ho)).2,hH,v0s _,SH.nilTo (SH.comm (A:=[_,_]) S5)⟩)
   refine Q7<|Ie rfl rfl<|I2 rfl<|Q0<|Q2 rfl (fun hb=>?_) fun hb=>?_
   · skip
     refine Q7 ?_;have ho:(Qa P T).op=32:=of_decide_eq_true hb;obtain⟨r2,m2,da⟩:=Q4S (S.sl 4 rfl);have aP:=Kx hM ok;have hat0:=ok.a0;have jV:OnH P T:=⟨hM,hT,hl,by omega,by omega⟩;have k2:(frC T.F vs++r2)[0+v0f ((T.F.length:Int) -1)*3+1]?=some (iV (Qv T).at'):=by rw[gL,v0e];exact Qs (Q0k _ _ _ _ _ _ aE hv) (by omega) rfl
     refine I1 rfl<|I6 rfl<|I0 1 rfl<|I4 rfl da k2<|Iao rfl rfl<|I6 rfl<|I0 1 rfl<|Zm 4 S gn rfl rfl rfl (by kernel_rfl) rfl rfl (by rw[JS _ _ hw];omega) (fun g S=>ag0) fun g S=>?_
     have S5:SH h (owns [hpR ph H ae,thR tb (pvL P V) T bs]) (bxR b2 (Qa P T) (.slice lva (Qa P T).l.length lvc) ln::cR b1 (.cells [iV 0,iV 0,iV 0,iV 0,iV 0,.slice none 0 0] 202 0)::hpR ph H ah::thL tb (pvL P V) {T with F:=atF T.F (T.F.length -1) ((Qv T).at'+1)} ⟨.slice (some ⟨fb,0,none⟩) T.F.length fc,wb,vs⟩) g:=by
      have e:=QbT (tb:=tb) (pv:=pvL P V) (T:=T) (k:=T.F.length -1) (n:=((Qv T).at'+1)) (w:=⟨.slice (some ⟨fb,0,none⟩) T.F.length fc,wb,vs⟩) hw;rw[gL]at S;rw[<-e];exact S
     have S:=S5
     have jO:(atF T.F (T.F.length -1) ((Qv T).at'+1))[T.F.length -1]?=some {Qv T with at':=(Qv T).at'+1}:=by
      unfold atF;rw[v2o,Ya hl];rfl
     have cp:vs.length=(atF T.F (T.F.length -1) ((Qv T).at'+1)).length:=by rw[Q19];exact hw
     have cz:Kl P {T with F:=atF T.F (T.F.length -1) ((Qv T).at'+1)}:=Qbr hT aE (by omega) jV.at;have hpT1:(thL tb (pvL P V) {T with F:=atF T.F (T.F.length -1) ((Qv T).at'+1)} ⟨.slice (some ⟨fb,0,none⟩) T.F.length fc,wb,vs⟩)[2+(T.F.length -1)]?=some (slR 2 0 (.slice ra (Qv T).regs.length rc) (isV (Qv T).regs) (Qv T).regs.length vb):=Q2X (x:= {Qv T with at':=(Qv T).at'+1}) (v:=(_,vb)) jO hv
     have hpj1:(bxR b2 (Qa P T) (.slice lva (Qa P T).l.length lvc) ln::cR b1 (.cells [iV 0,iV 0,iV 0,iV 0,iV 0,.slice none 0 0] 202 0)::hpR ph H ah::thL tb (pvL P V) {T with F:=atF T.F (T.F.length -1) ((Qv T).at'+1)} ⟨.slice (some ⟨fb,0,none⟩) T.F.length fc,wb,vs⟩)[2+(T.F.length -1)+1+1+1]?=some (slR 2 0 (.slice ra (Qv T).regs.length rc) (isV (Qv T).regs) (Qv T).regs.length vb):=hpT1
     have dE:0<=(Qa P T).a/\(Qa P T).a <(Qv T).regs.length:=by
      rw[bm];exact Q08 hi (by rw[ho];decide)
     obtain⟨b3,iU,m3,rfl,cw,aS⟩:=Q07 (S.sl _ hpj1) (by omega);have ka:=aS _ dE.1 dE.2;refine QP<|I1 rfl<|I0 1 rfl<|I4 rfl (S.cel 0 rfl) rfl<|I5o 1 rfl rfl<|I4 rfl cw ka<|Ie rfl rfl<|Q0<|Q2 rfl (fun hb=>?_) fun hb=>?_
     · skip
       refine Q3 (by kernel_rfl)<|I1 rfl<|I0 4 rfl<|I4 rfl (S.cel 0 rfl) rfl<|I6 rfl<|I0 1 rfl<|Zm 4 S gn rfl rfl rfl (by kernel_rfl) rfl (show(Value.slice (some ⟨fb,0,none⟩) T.F.length fc)=Value.slice (some ⟨fb,0,none⟩) (atF T.F (T.F.length -1) ((Qv T).at'+1)).length fc by rw[Q19]) (by rw[JS _ _ cp,Q19];omega) (fun g S=>ag0) fun g S=>?_
       have S5:SH h (owns [hpR ph H ae,thR tb (pvL P V) T bs]) (bxR b2 (Qa P T) (.slice lva (Qa P T).l.length lvc) ln::cR b1 (.cells [iV 0,iV 0,iV 0,iV 0,iV 0,.slice none 0 0] 202 0)::hpR ph H ah::thL tb (pvL P V) {T with F:=atF (atF T.F (T.F.length -1) ((Qv T).at'+1)) (T.F.length -1) (Qa P T).n} ⟨.slice (some ⟨fb,0,none⟩) T.F.length fc,wb,vs⟩) g:=by
        have e:=QbT (tb:=tb) (pv:=pvL P V) (T:= {T with F:=atF T.F (T.F.length -1) ((Qv T).at'+1)}) (k:=T.F.length -1) (n:=(Qa P T).n) (w:=⟨.slice (some ⟨fb,0,none⟩) T.F.length fc,wb,vs⟩) cp;rw[gL]at S;rw[<-e];exact S
       refine Q0<|Qf ?_;exact Zr [(15,_)] (p:=⟨.slice none 0 0,[],[],{T with F:=atF (atF T.F (T.F.length -1) ((Qv T).at'+1)) (T.F.length -1) (Qa P T).n},⟨.slice (some ⟨fb,0,none⟩) T.F.length fc,wb,vs⟩,H,ah,rfl,by show _=(atF _ _ _).length;rw[Q19];exact cp,Qbr cz jO (Q1D hi (.inr ho)).1 (Q1D hi (.inr ho)).2,hH,v0s _,SH.nilTo (SH.comm (A:=[_,_]) S5)⟩)
     refine Q4<|Qf ?_;exact Zr [(15,_)] (p:=⟨.slice none 0 0,[],[],{T with F:=atF T.F (T.F.length -1) ((Qv T).at'+1)},⟨.slice (some ⟨fb,0,none⟩) T.F.length fc,wb,vs⟩,H,ah,rfl,cp,cz,hH,v0s _,SH.nilTo (SH.comm (A:=[_,_]) S)⟩)
   refine Q4<|Qf ?_;exact Zr [(15,_)] (p:=⟨.slice none 0 0,[],[],T,⟨.slice (some ⟨fb,0,none⟩) T.F.length fc,wb,vs⟩,H,ah,rfl,hw,hT,hH,v0s _,SH.nilTo (SH.comm (A:=[_,_]) S)⟩)
 obtain⟨s,A,ab,T',w',H',hbs'',rfl,gE,hok',kq,hA,S⟩:=hJ;refine Q7 ?_;have S:=SH.comm (B:=[_,_]) S;obtain⟨sa,sc,rfl⟩:=Q6 (S.sl 2 rfl);refine I1 rfl<|Qq (cs:= #[iV 0,iV 0,iV 0,iV 0,iV 0,.slice sa A.length sc]) (zv:=.agg #[iV 0,iV 0,iV 0,iV 0,iV 0,.slice none 0 0]) (pl:=[(0,1),(1,1),(2,1),(3,1),(4,1),(5,1)]) [(5,_)] gn rfl (by kernel_rfl) (by kernel_rfl) rfl (by kernel_rfl) ?_;refine Qi (n:=6) 1 S gn rfl rfl rfl (by kernel_rfl) rfl rfl (by decide) rfl (fun g S=>ag0) fun g S=>?_;refine I2 rfl<|Q0<|Q8 ?_;refine⟨.inl rfl,_,(Zn rfl (by kernel_rfl) (by kernel_rfl) (S.cel 1 rfl) rfl (Yv rfl rfl)),?_⟩
 exact(by
  obtain⟨aa,S⟩:=Q1w (A:=[_,_]) S.drop.drop gE
  exact⟨asN A,0,.slice sa A.length sc,ab,T',H',aa,hbs'',rfl,⟨hok',kq,hA,fun e=>absurd rfl e,fun e=>by rw[aW]at e;cases e⟩,S⟩)
end
theorem Q2r {α:Type} (f:α->List Value) (w:Nat) (hf: ∀a,(f a).length=w): ∀l:List α,(l.flatMap f).length=l.length*w
 | []=>by simp
 | a::l=>by
   rw[v1T,v0j,hf,Q2r f w hf l,v07,v1j,Nat.one_mul,Nat.add_comm]
theorem Q6N {α:Type} (f:α->List Value) (w:Nat) (hf: ∀a,(f a).length=w) (rest:List Value): ∀(l:List α) (j:Nat) (o:α),l[j]?=some o->((l.flatMap f++rest).drop (j*w)).take w=f o
 | a::l,0,o,h=>by
   simp only[v0W,v0h.injEq]at h;subst h;rw[Nat.zero_mul,List.drop_zero,v1T,v0F,List.take_left' (hf a)]
 | a::l,j+1,o,h=>by
   rw[v1T,v0F,show(j+1)*w=w+j*w by rw[v1j,Nat.one_mul,Nat.add_comm],<-List.drop_drop,List.drop_left' (hf a)];exact Q6N f w hf rest l j o (by simpa using h)
 | [],_,_,h=>by simp at h
theorem Q5C {α:Type} (f:α->List Value) (w k:Nat) (g:α->α) (v:Value) (hf: ∀a,(f a).length=w) (hk:k <w): ∀(l:List α) (j:Nat) (o:α),l[j]?=some o->(f o).set k v=f (g o)->(l.flatMap f).set (j*w+k) v=(l.modify j g).flatMap f
 | a::l,0,o,h,e=>by
   simp only[v0W,v0h.injEq]at h;subst h;rw[Nat.zero_mul,v0e,v1T,List.set_append_left _ _ (by rw[hf];exact hk),e,List.modify_zero_cons,v1T]
 | a::l,j+1,o,h,e=>by
   rw[v1T,show(j+1)*w+k=w+(j*w+k) by rw[v1j,Nat.one_mul];omega,List.set_append_right _ _ (by rw[hf];omega),hf,Nat.add_sub_cancel_left,Q5C f w k g v hf hk l j o (by simpa using h) e,v1d,v1T]
 | [],_,_,h,_=>by simp at h
def tkV (t:MTask):List Value:=[iV t.kind,iV t.of',iV t.which,iV t.fn,iV t.looper,iV t.by',iV t.nth,.bool t.front,iV t.delay,iV t.due,iV t.payload,iV t.state,iV t.trap,iV t.mark,iV t.prev]
def mkV (x:MMark):List Value:=[iV x.kind,iV x.task,iV x.other,iV x.acc.site,iV x.acc.kind,iV x.acc.a,iV x.acc.b,.bool x.acc.write]
def tkC (l:List MTask):List Value:=l.flatMap tkV
def mkC (l:List MMark):List Value:=l.flatMap mkV
theorem ZK (t:MTask):(tkV t).length=15:=rfl
theorem Q9Z (t:MMark):(mkV t).length=8:=rfl
theorem Q1N (l:List MTask):(tkC l).length=l.length*15:=Q2r tkV 15 ZK l
theorem QeK (l:List MMark):(mkC l).length=l.length*8:=Q2r mkV 8 Q9Z l
theorem Q4H {l:List MTask} {j:Nat} {o:MTask} (rest:List Value) (h:l[j]?=some o):((tkC l++rest).drop (j*15)).take 15=tkV o:=Q6N tkV 15 ZK rest l j o h
theorem mkC_at {l:List MMark} {j:Nat} {o:MMark} (rest:List Value) (h:l[j]?=some o):((mkC l++rest).drop (j*8)).take 8=mkV o:=Q6N mkV 8 Q9Z rest l j o h
theorem QbS (l:List MTask) (t:MTask):tkC (l++[t])=tkC l++tkV t:=by
 unfold tkC;rw[List.flatMap_append];simp
theorem Q3V (l:List MMark) (t:MMark):mkC (l++[t])=mkC l++mkV t:=by
 unfold mkC;rw[List.flatMap_append];simp
def qpP:List (List MItem)->List (Nat×List Nat)->List Res
 |L::l,v::c=>quR v.1 L v.2::qpP l c
 |_,_=>[]
def tpP (pv:List Value):List MThr->List (Nat×List Nat)->List Res
 |T::l,v::c=>thR v.1 pv T v.2::tpP pv l c
 |_,_=>[]
abbrev ptC (c:List (Nat×List Nat)):List Value:=c.map fun x=>Qk x.1
structure MW where
 lb:Nat
 lbs:List Nat
 qv:Value
 qvb:List Nat
 rv:Value
 rvb:List Nat
 tv:Value
 tvb:List Nat
 hv:Value
 hvb:List Nat
 gv:Value
 gvb:List Nat
 lv:Value
 lvb:List Nat
 mv:Value
 mvb:List Nat
 ov:Value
 ovb:List Nat
 qs:List (Nat×List Nat)
 ths:List (Nat×List Nat)
def mcH (mb ph:Nat) (P:Prg) (V:PrV) (s:MS) (w:MW):List Res:=
 [cR mb (.cells (pvL P V++[Qk ph,Qk w.lb,w.qv,w.rv,w.tv,w.hv,w.gv,w.lv,w.mv,w.ov,iV s.now,iV s.steps,.bool s.full]) 45 0),
  lvR w.lb s.K s.E w.lbs,slR 98 0 w.qv (ptC w.qs) s.Q.length w.qvb,slR 3 0 w.rv (isV s.runs) s.runs.length w.rvb,
  slR 85 14 w.tv (tkC s.T) s.T.length w.tvb,slR 156 0 w.hv (ptC w.ths) s.Th.length w.hvb,slR 2 0 w.gv (isV s.G) s.G.length w.gvb,slR 2 0 w.lv (isV s.log) s.log.length w.lvb,
  slR 68 7 w.mv (mkC s.M) s.M.length w.mvb,slR 3 0 w.ov (isV s.on) s.on.length w.ovb]
def mcT (P:Prg) (V:PrV) (s:MS) (w:MW):List Res:=qpP s.Q w.qs++tpP (pvL P V) s.Th w.ths
def mcL (mb ph:Nat) (P:Prg) (V:PrV) (s:MS) (w:MW):List Res:=mcH mb ph P V s w++mcT P V s w
def mcR (mb ph:Nat) (P:Prg) (V:PrV) (s:MS) (tp bs:List Nat):Res:=Q3r (fun L=> ∃w:MW,((w.qs.length=s.Q.length/\w.ths.length=s.Th.length)/\w.ths.map Prod.fst=tp)/\L=mcL mb ph P V s w) bs
theorem Q9D: ∀(l:List (List MItem)) (c:List (Nat×List Nat)) (j:Nat) (o:List MItem) (v:Nat×List Nat),l[j]?=some o->c[j]?=some v->(qpP l c)[j]?=some (quR v.1 o v.2)
 | o::l,v::c,0,o',v',h1,h2=>by
   simp only[v0W,v0h.injEq]at h1 h2;subst h1;subst h2;rfl
 |o::l,v::c,j+1,o',v',h1,h2=>Q9D l c j o' v' (by simpa using h1) (by simpa using h2)
 | [],_,_,_,_,h1,_=>by simp at h1
 |_::_,[],_,_,_,_,h2=>by simp at h2
theorem Qdk (pv:List Value): ∀(l:List MThr) (c:List (Nat×List Nat)) (j:Nat) (o:MThr) (v:Nat×List Nat),l[j]?=some o->c[j]?=some v->(tpP pv l c)[j]?=some (thR v.1 pv o v.2)
 | o::l,v::c,0,o',v',h1,h2=>by
   simp only[v0W,v0h.injEq]at h1 h2;subst h1;subst h2;rfl
 |o::l,v::c,j+1,o',v',h1,h2=>Qdk pv l c j o' v' (by simpa using h1) (by simpa using h2)
 | [],_,_,_,_,h1,_=>by simp at h1
 |_::_,[],_,_,_,_,h2=>by simp at h2
theorem Q26: ∀(l:List (List MItem)) (c:List (Nat×List Nat)),c.length=l.length->(qpP l c).length=l.length
 | [],_,_=>rfl
 |_::_,[],h=>by simp at h
 | o::l,v::c,h=>by
   show(_::qpP l c).length=_;rw[v07,Q26 l c (by simpa using h),v07]
theorem Q9C (g:List MItem->List MItem) (aa:List Nat): ∀(l:List (List MItem)) (c:List (Nat×List Nat)) (j:Nat) (o:List MItem) (v:Nat×List Nat),l[j]?=some o->c[j]?=some v->(qpP l c).set j (quR v.1 (g o) aa)=qpP (l.modify j g) (c.set j (v.1,aa))
 | o::l,v::c,0,o',v',h1,h2=>by
   simp only[v0W,v0h.injEq]at h1 h2;subst h1;subst h2;rfl
 | o::l,v::c,j+1,o',v',h1,h2=>by
   rw[v1d,List.set_cons_succ];show _::(qpP l c).set j _=_::qpP _ _;rw[Q9C g aa l c j o' v' (by simpa using h1) (by simpa using h2)]
 | [],_,_,_,_,h1,_=>by simp at h1
 |_::_,[],_,_,_,_,h2=>by simp at h2
theorem Q91 (pv:List Value) (T':MThr) (aa:List Nat): ∀(l:List MThr) (c:List (Nat×List Nat)) (j:Nat) (v:Nat×List Nat),j <l.length->c[j]?=some v->(tpP pv l c).set j (thR v.1 pv T' aa)=tpP pv (l.set j T') (c.set j (v.1,aa))
 | o::l,v::c,0,v',h1,h2=>by
   simp only[v0W,v0h.injEq]at h2;subst h2;rfl
 | o::l,v::c,j+1,v',h1,h2=>by
   rw[List.set_cons_succ,List.set_cons_succ];show _::(tpP pv l c).set j _=_::tpP pv _ _;rw[Q91 pv T' aa l c j v' (by simpa using h1) (by simpa using h2)]
 | [],_,_,_,h1,_=>by simp at h1
 |_::_,[],_,_,_,h2=>by simp at h2
theorem Q7b (pv:List Value): ∀(l:List MThr) (c:List (Nat×List Nat)) (o:MThr) (v:Nat×List Nat),c.length=l.length->tpP pv (l++[o]) (c++[v])=tpP pv l c++[thR v.1 pv o v.2]
 | [],[],_,_,_=>rfl
 | [],_::_,_,_,h=>by simp at h
 |_::_,[],_,_,h=>by simp at h
 | o::l,v::c,o',v',h=>by
   show _::tpP pv (l++[o']) (c++[v'])=_;rw[Q7b pv l c o' v' (by simpa using h)];rfl
theorem Q9E {c:List (Nat×List Nat)} {j:Nat} {v:Nat×List Nat} {aa:List Nat} (h:c[j]?=some v):ptC (c.set j (v.1,aa))=ptC c:=by
 unfold ptC;rw[List.map_set];refine v1f fun i=>?_;rw[v1X]
 split
 · rename_i e;subst e
   split
   · rw[v0D,h];rfl
   rename_i h2;rw[v02 (by omega)]
 rfl
section
variable {h0 h:Hp} {ds:List Nat} {A B:List Res} {mb ph:Nat} {P:Prg} {V:PrV} {s:MS} {tp bs:List Nat}
theorem QH (S:SH h0 ds (A++[mcR mb ph P V s tp bs]) h): ∃w:MW,(w.qs.length=s.Q.length/\w.ths.length=s.Th.length)/\w.ths.map Prod.fst=tp/\owns (mcL mb ph P V s w)=bs/\SH h0 ds (A++mcL mb ph P V s w) h:=by
 obtain⟨L,⟨w,hw,rfl⟩,h2,h3⟩:=Q0u S;exact⟨w,hw.1,hw.2,h2,h3⟩
theorem Qo {w:MW} (S:SH h0 ds (A++mcL mb ph P V s w) h) (hw:w.qs.length=s.Q.length/\w.ths.length=s.Th.length) (ht:w.ths.map Prod.fst=tp): ∃aa,SH h0 ds (A++[mcR mb ph P V s tp aa]) h:=⟨_,Jg S ⟨w,⟨hw,ht⟩,rfl⟩⟩
end
theorem Q9T {c:List (Nat×List Nat)} {j:Nat} {v:Nat×List Nat} {aa:List Nat} (h:c[j]?=some v):(c.set j (v.1,aa)).map Prod.fst=c.map Prod.fst:=by
 rw[List.map_set];refine v1f fun i=>?_;rw[v1X]
 split
 · rename_i e;subst e
   split
   · rw[v0D,h];rfl
   rename_i h2;rw[v02 (by omega)]
 rfl
section
variable {mb ph:Nat} {P:Prg} {V:PrV} {s:MS} {w:MW} {j:Nat} {v:Nat×List Nat}
theorem mc_q {L:List MItem} (hj:s.Q[j]?=some L) (hv:w.qs[j]?=some v):(mcL mb ph P V s w)[j+10]?=some (quR v.1 L v.2):=by
 have e:=Q9D s.Q w.qs j L v hj hv;show(qpP s.Q w.qs++tpP (pvL P V) s.Th w.ths)[j]?=_;rw[v0z (v0y.1 e).1];exact e
theorem Q6B {L:List MItem} (g:List MItem->List MItem) (aa:List Nat) (hj:s.Q[j]?=some L) (hv:w.qs[j]?=some v):(mcL mb ph P V s w).set (j+10) (quR v.1 (g L) aa)=mcL mb ph P V {s with Q:=s.Q.modify j g} {w with qs:=w.qs.set j (v.1,aa)}:=by
 have e:=Q9D s.Q w.qs j L v hj hv;show mcH mb ph P V s w++(qpP s.Q w.qs++tpP (pvL P V) s.Th w.ths).set j _=mcH mb ph P V _ _++(qpP (s.Q.modify j g) (w.qs.set j (v.1,aa))++tpP (pvL P V) s.Th w.ths);rw[List.set_append_left _ _ (v0y.1 e).1,Q9C g aa _ _ _ _ _ hj hv]
 congr 1
 show[_,_,_,_,_,_,_,_,_,_]=[_,_,slR 98 0 w.qv (ptC (w.qs.set j (v.1,aa))) (s.Q.modify j g).length w.qvb,_,_,_,_,_,_,_];rw[Q9E hv,v0l]
theorem Qg6 {T:MThr} (hq:w.qs.length=s.Q.length) (hj:s.Th[j]?=some T) (hv:w.ths[j]?=some v):(mcL mb ph P V s w)[j+s.Q.length+10]?=some (thR v.1 (pvL P V) T v.2):=by
 have e:=Qdk (pvL P V) s.Th w.ths j T v hj hv;show(qpP s.Q w.qs++tpP (pvL P V) s.Th w.ths)[j+s.Q.length]?=_;rw[List.getElem?_append_right (by rw[Q26 _ _ hq];omega),Q26 _ _ hq,v2h];exact e
theorem Q6A {T':MThr} (aa:List Nat) (hq:w.qs.length=s.Q.length) (hj:j <s.Th.length) (hv:w.ths[j]?=some v):(mcL mb ph P V s w).set (j+s.Q.length+10) (thR v.1 (pvL P V) T' aa)=mcL mb ph P V {s with Th:=s.Th.set j T'} {w with ths:=w.ths.set j (v.1,aa)}:=by
 show mcH mb ph P V s w++(qpP s.Q w.qs++tpP (pvL P V) s.Th w.ths).set (j+s.Q.length) _=mcH mb ph P V _ _++(qpP s.Q w.qs++tpP (pvL P V) (s.Th.set j T') (w.ths.set j (v.1,aa)));rw[List.set_append_right _ _ (by rw[Q26 _ _ hq];omega),Q26 _ _ hq,v2h,Q91 _ _ _ _ _ _ _ hj hv]
 congr 1
 show[_,_,_,_,_,_,_,_,_,_]=[_,_,_,_,_,slR 156 0 w.hv (ptC (w.ths.set j (v.1,aa))) (s.Th.set j T').length w.hvb,_,_,_,_];rw[Q9E hv,v0q]
end
theorem el36:ElN modE 43 68 7 63:=⟨by kernel_rfl,by kernel_rfl,by kernel_rfl,.agg #[.int .i64 0,.int .i64 0,.int .i64 0,.int .i64 0,.int .i64 0,.int .i64 0,.int .i64 0,.bool false],by kernel_rfl,rfl⟩
theorem el27:ElN modE 40 85 14 119:=⟨by kernel_rfl,by kernel_rfl,by kernel_rfl,.agg #[.int .i64 0,.int .i64 0,.int .i64 0,.int .i64 0,.int .i64 0,.int .i64 0,.int .i64 0,.bool false,.int .i64 0,.int .i64 0,.int .i64 0,.int .i64 0,.int .i64 0,.int .i64 0,.int .i64 0],by kernel_rfl,rfl⟩
theorem el139:ElN modE 41 156 0 7:=⟨by kernel_rfl,by kernel_rfl,by kernel_rfl,.pointer none,by kernel_rfl,rfl⟩
section
variable {h0 h:Hp} {P:Prg} {V:PrV} {mb ph:Nat} {s:MS} {tp bs:List Nat}
theorem m75 {k task other:Int} (S0:SH h0 [] [mcR mb ph P V s tp bs] h) (hm:s.M.length<=100000):C modE 90 [Qk mb,iV k,iV task,iV other] h fun _ g'=> ∃aa,SH h bs [mcR mb ph P V (Yj s k task other) tp aa] g':=by
 have SE:=S0.enter;obtain⟨w,hw,bg,aj,SE⟩:=QH (A:=[]) SE;have SE:SH h bs (mcL mb ph P V s w) h:=SE;obtain⟨ma,mc,jq⟩:=Q6 (SE.sl 8 rfl);refine Q9 (fu:=Tryz.f90) (by kernel_rfl) rfl ?_;have S:=SE;refine Q3 (by kernel_rfl)<|I1 rfl<|I1 rfl<|I6 rfl<|I0 16 rfl<|I4 rfl (S.cel 0 rfl) rfl<|I1 rfl<|I1 rfl<|I1 rfl<|Qq (cs:= #[iV k,iV task,iV other,iV 0,iV 0,iV 0,iV 0,.bool false]) (zv:=.agg #[iV 0,iV 0,iV 0,iV 0,iV 0,iV 0,iV 0,.bool false]) (pl:=[(0,1),(1,1),(2,1),(3,5)]) [(0,_),(1,_),(2,_)] gn rfl (by kernel_rfl) (by kernel_rfl) rfl (by kernel_rfl) ?_
 refine Qc (cs:= #[iV k,iV task,iV other,iV 0,iV 0,iV 0,iV 0,.bool false]) (e:=68) (z:=7) (zv:=.agg #[iV 0,iV 0,iV 0,iV 0,iV 0,iV 0,iV 0,.bool false]) [(0,_)] S gn rfl (by kernel_rfl) (by kernel_rfl) (by kernel_rfl) (by kernel_rfl) rfl (by kernel_rfl) fun b1 g aJ S=>?_;refine QM (e:=68) (z:=7) (by':=63) 9 0 S el36 gn rfl rfl rfl rfl rfl rfl (by rfl) (by omega) (fun s' aa g S=>ag0) fun s' aa g S=>?_;refine I6 rfl<|I0 16 rfl ?_;have bZ:cellV s'=true:=(S.sl 9 rfl).cellV;refine Qg 1 S gn rfl rfl bZ (by kernel_rfl) rfl (by decide) (by simp) (fun g S=>ag0) fun g S=>?_;refine Q0 ?_;refine⟨.inr rfl,_,rfl,?_⟩
 exact(by
  have e:mkC (Yj s k task other).M=mkC s.M++mkV ⟨k,task,other,Q6v⟩:=Q3V _ _;have e2:(Yj s k task other).M.length=s.M.length+1:=by simp[Yj]
  refine Qo (A:=[]) (w:= {w with mv:=s',mvb:=aa}) ?_ hw bg;show SH h bs (mcL mb ph P V (Yj s k task other) {w with mv:=s',mvb:=aa}) _;unfold mcL mcH
  rw[e,e2];exact S.drop)
theorem m76 {task site k a:Int} {wrt:Bool} (S0:SH h0 [] [mcR mb ph P V s tp bs] h) (hm:s.M.length<=100000):C modE 91 [Qk mb,iV task,iV site,iV k,iV a,.bool wrt] h fun _ g'=> ∃aa,SH h bs [mcR mb ph P V (Ji s task site k a wrt) tp aa] g':=by
 have SE:=S0.enter;obtain⟨w,hw,bg,aj,SE⟩:=QH (A:=[]) SE;have SE:SH h bs (mcL mb ph P V s w) h:=SE;refine Q9 (fu:=Tryz.f91) (by kernel_rfl) rfl ?_;have S:=SE;refine Q3 (by kernel_rfl)<|I1 rfl<|I1 rfl<|I6 rfl<|I0 16 rfl<|I4 rfl (S.cel 0 rfl) rfl<|I1 rfl<|I1 rfl<|I1 rfl<|I1 rfl<|Qq (cs:= #[iV k,iV a,iV 0]) (zv:=.agg #[iV 0,iV 0,iV 0]) (pl:=[(0,1),(1,1),(2,1)]) [(0,_),(1,_)] gn rfl (by kernel_rfl) (by kernel_rfl) rfl (by kernel_rfl)<|I1 rfl ?_
 refine Qq (cs:= #[iV site,iV k,iV a,iV 0,.bool wrt]) (zv:=.agg #[iV 0,iV 0,iV 0,iV 0,.bool false]) (pl:=[(0,1),(1,3),(4,1)]) [(0,_),(1,_),(2,_)] gn rfl (by kernel_rfl) (by kernel_rfl) rfl (by kernel_rfl)<|Qq (cs:= #[iV 3,iV task,iV 0,iV site,iV k,iV a,iV 0,.bool wrt]) (zv:=.agg #[iV 0,iV 0,iV 0,iV 0,iV 0,iV 0,iV 0,.bool false]) (pl:=[(0,1),(1,1),(2,1),(3,5)]) [(0,_),(1,_),(3,_)] gn rfl (by kernel_rfl) (by kernel_rfl) rfl (by kernel_rfl) ?_
 refine Qc (cs:= #[iV 3,iV task,iV 0,iV site,iV k,iV a,iV 0,.bool wrt]) (e:=68) (z:=7) (zv:=.agg #[iV 0,iV 0,iV 0,iV 0,iV 0,iV 0,iV 0,.bool false]) [(0,_)] S gn rfl (by kernel_rfl) (by kernel_rfl) (by kernel_rfl) (by kernel_rfl) rfl (by kernel_rfl) fun b1 g aJ S=>?_;refine QM (e:=68) (z:=7) (by':=63) 9 0 S el36 gn rfl rfl rfl rfl rfl rfl (by rfl) (by omega) (fun s' aa g S=>ag0) fun s' aa g S=>?_;refine I6 rfl<|I0 16 rfl ?_;have bZ:cellV s'=true:=(S.sl 9 rfl).cellV;refine Qg 1 S gn rfl rfl bZ (by kernel_rfl) rfl (by decide) (by simp) (fun g S=>ag0) fun g S=>?_;refine Q0 ?_;refine⟨.inr rfl,_,rfl,?_⟩
 exact(by
  have e:mkC (Ji s task site k a wrt).M=mkC s.M++mkV ⟨3,task,0,⟨site,k,a,0,wrt⟩⟩:=Q3V _ _;have e2:(Ji s task site k a wrt).M.length=s.M.length+1:=by simp[Ji]
  refine Qo (A:=[]) (w:= {w with mv:=s',mvb:=aa}) ?_ hw bg;show SH h bs (mcL mb ph P V (Ji s task site k a wrt) {w with mv:=s',mvb:=aa}) _;unfold mcL mcH
  rw[e,e2];exact S.drop)
theorem m53 (S0:SH h0 [] [mcR mb ph P V s tp bs] h):C modE 58 [Qk mb] h fun v g'=>v=iV 11/\ ∃aa,SH h bs [mcR mb ph P V {s with full:=true} tp aa] g':=by
 have SE:=S0.enter;obtain⟨w,hw,bg,aj,SE⟩:=QH (A:=[]) SE;have SE:SH h bs (mcL mb ph P V s w) h:=SE;refine Q9 (fu:=Tryz.f58) (by kernel_rfl) rfl ?_;have S:=SE;refine Q7<|I2 rfl<|QP<|I1 rfl<|I6 rfl<|I0 20 rfl ?_;refine Qg 0 S gn rfl rfl rfl (by kernel_rfl) rfl (by decide) (by simp) (fun g S=>ag0) fun g S=>?_;refine QP<|I2 rfl<|Q0<|Q8 ⟨.inl rfl,_,rfl,⟨rfl,Qo (A:=[]) (w:=w) (s:= {s with full:=true}) S hw bg⟩⟩
end
section
variable {h0 h:Hp} {P:Prg} {V:PrV} {mb ph:Nat} {s:MS} {tp bs:List Nat}
theorem m26 {t:MTask} {cells:List Int} {cv:Value} (S0:SH h0 [] [mcR mb ph P V s tp bs] h) (X0:Q1m h0 P V) (hM:ZL P=true) (k:MOk P s) (f0:0<=t.fn) (f1:t.fn <P.funs.length) (an:t.looper <P.loopers) (hd:0<=t.delay/\t.delay<=1000000000) (hc: ∀g,ExtB bs h g->RowV g cv (isV cells)) (hlen:(cells.length:Int)=(Qt P t.fn).caps):C modE 22 [Qk mb,.agg (tkV t).toArray,cv] h fun v g'=>v=iV (QbI s)/\ ∃tl aa,SH h bs [mcR mb ph P V (Y9 P s t cells) (tp++tl) aa] g':=by
 have SE:=S0.enter;obtain⟨w,hw,bg,aj,SE⟩:=QH (A:=[]) SE;have SE:SH h bs (mcL mb ph P V s w) h:=SE;obtain⟨ta,tc,br⟩:=Q6 (SE.sl 4 rfl);obtain⟨mX,mW⟩:=k.now;obtain⟨hd0,hd1⟩:=hd;have hk:=k.t;have e9:=k.th;refine Q9 (fu:=Tryz.f22) (by kernel_rfl) rfl ?_;have S:=SE;refine Q7 ?_;refine Z9 S gn rfl rfl fun b1 g aJ S=>?_;have S:SH h bs (cR b1 (.cells (tkV t) 85 0)::mcL mb ph P V s w) g:=S;refine I2 rfl<|Z8<|I1 rfl<|I6 rfl<|I0 12 rfl<|I4 rfl (S.cel 1 rfl) rfl ?_;rw[br];refine I7 rfl ?_;rw[<-br];refine Ih rfl rfl<|Q0<|Q2 rfl (fun hb=>?_) fun hb=>?_
 · skip
   refine Q7<|I2 rfl<|Q0<|Q8 ?_;refine⟨.inl rfl,_,rfl,?_⟩
   exact(by
    have hf:256<=s.T.length:=by simp at hb;omega
    refine⟨by unfold QbI;rw[if_pos hf];rfl,?_⟩;unfold Y9;rw[if_pos hf]
    exact⟨[],by rw[v0k];exact Qo (A:=[]) S.drop hw bg⟩)
 refine Q4<|Q7 ?_;have hf: ¬256<=s.T.length:=by simp at hb;omega
 have hl255:s.T.length <256:=by omega
 refine I0 11 rfl ?_;refine Qg 0 S gn rfl rfl rfl (by kernel_rfl) rfl (by decide) (show 11 <(tkV t).length by rw[ZK];decide) (fun g S=>ag0) fun g S=>?_;refine Q0<|Q5<|I9<|I1 rfl<|I6 rfl<|I0 18 rfl<|I4 rfl (S.cel 1 rfl) rfl<|I0 8 rfl<|I4 rfl (S.cel 0 rfl) rfl<|Iao rfl rfl<|I0 9 rfl ?_;refine Qg 0 S gn rfl rfl rfl (by kernel_rfl) rfl (by decide) (show 9 <((tkV t).set 11 (iV 1)).length by rw[v0q,ZK];decide) (fun g S=>ag0) fun g S=>?_;refine Q0<|Q5<|I9 ?_;have S:SH h bs (cR b1 (.cells (tkV (Ym s t)) 85 0)::mcL mb ph P V s w) g:=S
 refine I1 rfl<|I1 rfl<|I6 rfl<|I0 12 rfl<|I4 rfl (S.cel 1 rfl) rfl<|I3 15 rfl (S.cel 0 rfl) (v0b _) ?_;refine Qc (cs:=(tkV (Ym s t)).toArray) (e:=85) (z:=14) (zv:=.agg #[iV 0,iV 0,iV 0,iV 0,iV 0,iV 0,iV 0,.bool false,iV 0,iV 0,iV 0,iV 0,iV 0,iV 0,iV 0]) [(0,_)] S gn rfl (by kernel_rfl) (by kernel_rfl) (by kernel_rfl) (by kernel_rfl) rfl (by kernel_rfl) fun b2 g bK S=>?_;refine QM (e:=85) (z:=14) (by':=119) 6 0 S el27 gn rfl rfl rfl rfl rfl rfl (by rfl) (by omega) (fun s' aa g S=>ag0) fun s' aa g S=>?_;refine I6 rfl<|I0 12 rfl ?_;have bZ:cellV s'=true:=(S.sl 6 rfl).cellV
 refine Qg 2 S gn rfl rfl bZ (by kernel_rfl) rfl (by decide) (by simp) (fun g S=>ag0) fun g S=>?_
 have S1:SH h bs (cR b1 (.cells (tkV (Ym s t)) 85 0)::mcL mb ph P V {s with T:=s.T++[Ym s t]} {w with tv:=s',tvb:=aa}) g:=by
  have S1:=SH.drop S;unfold mcL mcH;show SH h bs (_::([_,_,_,_,slR 85 14 s' (tkC (s.T++[Ym s t])) (s.T++[Ym s t]).length aa,_,_,_,_,_]++mcT P V s w)) g;rw[QbS,v0j];exact S1
 have S:=S1;refine Q0<|Q5<|I9<|I1 rfl<|I6 rfl<|I0 0 rfl<|I3 8 rfl (S.cel 1 rfl) (by simp)<|I0 3 rfl<|I4 rfl (S.cel 0 rfl) rfl<|I1 rfl<|Ic [_,_,_] rfl rfl (C.mono (m49 (X0.ext (S0.all0 S0.own0 S)) hM f0 f1 (hc _ S.ext) hlen) ?_);rintro v g ⟨tb,tbs,rfl,S2⟩;have S:=SH.retL (A:=[]) S S2;have S:SH h bs (thR tb (pvL P V) ⟨[Yd P t.fn cells],0⟩ tbs::cR b1 (.cells (tkV (Ym s t)) 85 0)::mcL mb ph P V {s with T:=s.T++[Ym s t]} {w with tv:=s',tvb:=aa}) g:=S;refine⟨ag0,?_⟩;refine I1 rfl<|Ix rfl rfl<|Ix rfl rfl<|I2 rfl ?_
 refine I2 rfl<|QP<|I1 rfl<|I1 rfl<|I6 rfl<|I0 13 rfl<|I4 rfl (S.cel 2 rfl) rfl<|I1 rfl ?_;refine Qc (cs:= #[Qk tb]) (e:=156) (z:=0) (zv:=.pointer none) [(0,_)] S gn rfl (by kernel_rfl) (by kernel_rfl) (by kernel_rfl) (by kernel_rfl) rfl (by kernel_rfl) fun b3 g fV S=>?_;refine QM (e:=156) (z:=0) (by':=7) 8 0 S el139 gn rfl rfl rfl rfl rfl rfl (by rfl) (by show(s.Th.length+1)*(7+1)<=1099511627776;omega) (fun s' aa g S=>ag0) fun s2' dL g S=>?_;refine I6 rfl<|I0 13 rfl ?_;have jC:cellV s2'=true:=(S.sl 8 rfl).cellV
 refine Qg 3 S gn rfl rfl jC (by kernel_rfl) rfl (by decide) (by simp) (fun g S=>ag0) fun g S=>?_
 have S3:SH h bs (thR tb (pvL P V) ⟨[Yd P t.fn cells],0⟩ tbs::(cR b1 (.cells (tkV (Ym s t)) 85 0)::(mcH mb ph P V {s with T:=s.T++[Ym s t],Th:=s.Th++[⟨[Yd P t.fn cells],0⟩]} {w with tv:=s',tvb:=aa,hv:=s2',hvb:=dL,ths:=w.ths++[(tb,tbs)]}++(qpP s.Q w.qs++tpP (pvL P V) s.Th w.ths)))) g:=by
  have S3:=SH.drop S;unfold mcH;show SH h bs (_::_::([_,_,_,_,_,slR 156 0 s2' (ptC (w.ths++[(tb,tbs)])) (s.Th++[(⟨[Yd P t.fn cells],0⟩:MThr)]).length dL,_,_,_,_]++(qpP s.Q w.qs++tpP (pvL P V) s.Th w.ths))) g;rw[show ptC (w.ths++[(tb,tbs)])=ptC w.ths++[Qk tb] from v0G ..,show(s.Th++[(⟨[Yd P t.fn cells],0⟩:MThr)]).length=s.Th.length+1 from v0j];exact S3
 have S4:=SH.comm (A:=[_]) S3;obtain⟨s2,aK⟩: ∃s2:MS,s2= {s with T:=s.T++[Ym s t],Th:=s.Th++[⟨[Yd P t.fn cells],0⟩]}:=⟨_,rfl⟩;have q1:s2.T.length=s.T.length+1:=by rw[aK];simp
 have q2:s2.Q=s.Q:=by rw[aK]
 have q3:s2.Th.length=s.Th.length+1:=by rw[aK];simp
 obtain⟨w2,aC,aH,S⟩: ∃w2:MW,(w2.qs.length=s2.Q.length/\w2.ths.length=s2.Th.length)/\w2.ths.map Prod.fst=tp++[tb]/\SH h bs (cR b1 (.cells (tkV (Ym s t)) 85 0)::mcL mb ph P V s2 w2) g:=⟨{w with tv:=s',tvb:=aa,hv:=s2',hvb:=dL,ths:=w.ths++[(tb,tbs)]},by
  refine⟨by rw[q2];exact hw.1,?_⟩;rw[q3];show(w.ths++[(tb,tbs)]).length=_;rw[v0j,hw.2];rfl,by
  show(w.ths++[(tb,tbs)]).map Prod.fst=_;rw[v0G,bg];rfl,by
  rw[aK];unfold mcL mcT;show SH h bs (_::(mcH mb ph P V _ _++(qpP s.Q w.qs++tpP (pvL P V) (s.Th++[⟨[Yd P t.fn cells],0⟩]) (w.ths++[(tb,tbs)])))) g;rw[Q7b _ _ _ _ _ hw.2,<-v0F (qpP s.Q w.qs),<-v0F (mcH mb ph P V _ _)]
  exact S4⟩
 obtain⟨ta2,tc2,bh⟩:=Q6 (S.sl 5 rfl);refine Z8<|I0 4 rfl<|I4 rfl (S.cel 0 rfl) rfl<|Ih rfl rfl<|Q0<|Q2 rfl (fun hb=>?_) fun hb=>?_
 · skip
   refine I9 ?_
   have gh:0<=t.looper:=by
    have h':0<=(Ym s t).looper:=by simpa using hb
    exact h'
   have hQl:=k.q;have dy:(Ym s t).looper=t.looper:=rfl;have bH:t.looper.toNat <s2.Q.length:=by rw[q2];omega
   obtain⟨L,lq⟩: ∃L,s2.Q[t.looper.toNat]?=some L:=⟨_,v0c bH⟩;obtain⟨qv,gI⟩: ∃v,w2.qs[t.looper.toNat]?=some v:=⟨_,v0c (by rw[aC.1];exact bH)⟩;have oz:L.length<=256:=v0t (k.ql L (by rw[<-q2];exact v0m lq)) (by omega);obtain⟨qb,qm,qc,qr,cy,dV,_⟩:=(S.sl 3 rfl).at (by omega)
   have iP:(ptC w2.qs++qr)[0+v0f t.looper*1]?=some (Qk qv.1):=by
    rw[v0e,v0A,v0z (by rw[v0v,aC.1];exact bH),v0D,gI];rfl
   have dx:(cR b1 (.cells (tkV (Ym s t)) 85 0)::mcL mb ph P V s2 w2)[t.looper.toNat+10+1]?=some (quR qv.1 L qv.2):=mc_q (mb:=mb) (ph:=ph) lq gI;refine I1 rfl<|I6 rfl<|I0 10 rfl<|I4 rfl (S.cel 1 rfl) rfl<|I0 4 rfl<|I4 rfl (S.cel 0 rfl) rfl ?_;rw[cy];refine I5o 1 rfl rfl ?_;rw[<-cy];refine I4 rfl dV iP<|I1 rfl<|I6 rfl<|I0 12 rfl<|I4 rfl (S.cel 1 rfl) rfl ?_;rw[bh];refine I7 rfl ?_;rw[<-bh];refine I0 7 rfl<|I4 rfl (S.cel 0 rfl) rfl<|I0 9 rfl<|I4 rfl (S.cel 0 rfl) rfl ?_
   refine Qq (cs:= #[iV (s2.T.length:Nat),.bool t.front,iV (s.now+t.delay)]) (zv:=.agg #[iV 0,.bool false,iV 0]) (pl:=[(0,1),(1,1),(2,1)]) [(0,_),(1,_),(2,_)] gn rfl (by kernel_rfl) (by kernel_rfl) rfl (by kernel_rfl)<|Ic [_,_] rfl rfl (C.mono (m50 (x:=⟨(s2.T.length:Nat),t.front,s.now+t.delay⟩) (SH.sub1 S0 S0.own0 S _ dx) (by omega)) ?_);rintro v g ⟨rfl,bB,S2⟩;have S:=S.ret _ dx S2
   obtain⟨w3,ez,dh,mC,S⟩: ∃w3:MW,(w3.qs.length=s2.Q.length/\w3.ths.length=s2.Th.length)/\w3.ths.map Prod.fst=tp++[tb]/\w3.tv=w2.tv/\SH h bs (cR b1 (.cells (tkV (Ym s t)) 85 0)::mcL mb ph P V {s2 with Q:=s2.Q.modify t.looper.toNat fun L=>Q4z L ⟨(s2.T.length:Nat),t.front,s.now+t.delay⟩} w3) g:=⟨{w2 with qs:=w2.qs.set t.looper.toNat (qv.1,bB)},⟨by
    show(w2.qs.set _ _).length=_
    rw[v0q];exact aC.1,aC.2⟩,aH,rfl,by
    have e:=Q6B (mb:=mb) (ph:=ph) (P:=P) (V:=V) (s:=s2) (w:=w2) (fun L=>Q4z L ⟨(s2.T.length:Nat),t.front,s.now+t.delay⟩) bB lq gI
    rw[<-e];exact S⟩
   refine⟨ag0,?_⟩;refine QP<|I1 rfl<|I6 rfl<|I0 12 rfl<|I4 rfl (S.cel 1 rfl) rfl ?_;rw[mC,bh];refine I7 rfl ?_;rw[<-bh,<-mC];refine I2 rfl<|Q0<|Q8 ?_;refine⟨.inl rfl,_,rfl,?_⟩
   exact(by
    have e:Y9 P s t cells= {s2 with Q:=s2.Q.modify t.looper.toNat fun L=>Q4z L ⟨(s2.T.length:Nat),t.front,s.now+t.delay⟩}:=by
     rw[q1,aK];unfold Y9;rw[if_neg hf,if_pos gh];simp
    refine⟨by unfold QbI;rw[if_neg hf,q1];simp[oneOf],?_⟩;rw[e]
    exact⟨[tb],Qo (A:=[]) S.drop ⟨by rw[ez.1];exact(v0l ..).symm,ez.2⟩ dh⟩)
 refine Q4<|Q7<|I1 rfl<|I6 rfl<|I0 12 rfl<|I4 rfl (S.cel 1 rfl) rfl ?_;rw[bh];refine I7 rfl ?_;rw[<-bh];refine I2 rfl<|Q0<|Q8 ?_;refine⟨.inl rfl,_,rfl,?_⟩
 exact(by
  have gh: ¬0<=t.looper:=by
   have h':(Ym s t).looper <0:=by simpa using hb
   have h'':t.looper <0:=h';omega
  have e:Y9 P s t cells=s2:=by
   rw[aK];unfold Y9;rw[if_neg hf,if_neg gh]
  refine⟨by unfold QbI;rw[if_neg hf,q1];simp[oneOf],?_⟩;rw[e]
  exact⟨[tb],Qo (A:=[]) S.drop aC aH⟩)
end
theorem Q2W {s:MS} {id:Int} (h1:1<=id) (h2:id<=s.T.length):s.T[(id -1).toNat]?=some (ZA s id):=by
 unfold ZA;rw[v0c (by omega)];rfl
theorem Q1L {h:Hp} {s:MS} {tv:Value} {bs:List Nat} {id:Int} (x:SlC 85 14 h tv (tkC s.T) s.T.length bs) (h1:1<=id) (h2:id<=s.T.length): ∃b c cs m,tv=.slice (some ⟨b,0,none⟩) s.T.length c/\h.get b=some (.cells cs 85 m)/\ ∀f v,f <15->(tkV (ZA s id))[f]?=some v->cs[0+v0f (id -1)*15+f]?=some v:=by
 obtain⟨b,m,c,r,hv,hg,_⟩:=x.at (by omega);refine⟨b,c,_,m,hv,hg,fun f v hf hv=>?_⟩;rw[v0e];exact Qs (Q4H r (Q2W h1 h2)) hf hv
def trM (s:MS) (id k:Int):MS:= {s with T:=s.T.modify (id -1).toNat fun t=> {t with trap:=k}}
section
variable {mb ph:Nat} {P:Prg} {V:PrV} {s:MS} {w:MW} {id k:Int}
theorem QeP (h1:1<=id) (h2:id<=s.T.length):(mcL mb ph P V s w).set 4 (slR 85 14 w.tv ((tkC s.T).set (0+v0f (id -1)*15+11) (iV k)) s.T.length w.tvb)=mcL mb ph P V (stM s id k) w:=by
 have e:(tkC s.T).set (0+v0f (id -1)*15+11) (iV k)=tkC (stM s id k).T:=by
  rw[v0e];exact Q5C tkV 15 11 (fun t=> {t with state:=k}) (iV k) ZK (by omega) _ _ _ (Q2W h1 h2) rfl
 have e2:s.T.length=(stM s id k).T.length:=(v0l ..).symm;rw[e,e2];rfl
theorem mc_tr (h1:1<=id) (h2:id<=s.T.length):(mcL mb ph P V s w).set 4 (slR 85 14 w.tv ((tkC s.T).set (0+v0f (id -1)*15+12) (iV k)) s.T.length w.tvb)=mcL mb ph P V (trM s id k) w:=by
 have e:(tkC s.T).set (0+v0f (id -1)*15+12) (iV k)=tkC (trM s id k).T:=by
  rw[v0e];exact Q5C tkV 15 12 (fun t=> {t with trap:=k}) (iV k) ZK (by omega) _ _ _ (Q2W h1 h2) rfl
 have e2:s.T.length=(trM s id k).T.length:=(v0l ..).symm;rw[e,e2];rfl
end
section
variable {h0 h:Hp} {P:Prg} {V:PrV} {mb ph:Nat} {s:MS} {tp bs:List Nat}
theorem m55 {id:Int} (S0:SH h0 [] [mcR mb ph P V s tp bs] h) (k:MOk P s) (h1:1<=id) (h2:id<=s.T.length) (hm:s.M.length<=99990):C modE 60 [Qk mb,iV id] h fun _ g'=> ∃aa,SH h bs [mcR mb ph P V (JX s id) tp aa] g':=by
 have SE:=S0.enter;obtain⟨w,hw,bg,aj,SE⟩:=QH (A:=[]) SE;have SE:SH h bs (mcL mb ph P V s w) h:=SE;have hk:=k.t;obtain⟨tb,tc,cs,m,br,hg,aP⟩:=Q1L (SE.sl 4 rfl) h1 h2;refine Q9 (fu:=Tryz.f60) (by kernel_rfl) rfl ?_;have S:=SE;refine Q7<|I1 rfl<|I6 rfl<|I0 12 rfl<|I4 rfl (S.cel 0 rfl) rfl<|I1 rfl<|Iso rfl rfl ?_;rw[br];refine I5o 15 rfl rfl ?_;rw[<-br];refine I0 11 rfl<|Zm 4 S gn rfl rfl rfl (by kernel_rfl) rfl br (by rw[Q1N];omega) (fun g S=>ag0) fun g S=>?_;rw[QeP h1 h2]at S;obtain⟨bz,S⟩:=Qo (A:=[]) (s:=stM s id 2) (w:=w) S ⟨hw.1,hw.2⟩ bg
 have S:SH h bs [mcR mb ph P V (stM s id 2) tp bz] g:=S;refine QP<|I1 rfl<|I1 rfl ?_;refine QZ [_,_,_,_] gn rfl rfl (by kernel_rfl) rfl (C.mono (m75 (SH.sub1 S0 S0.own0 S 0 rfl) (by show s.M.length<=100000;omega)) ?_);rintro v g ⟨bk,S2⟩;have S:=S.ret 0 rfl S2;have S:SH h bs [mcR mb ph P V (Yj (stM s id 2) 1 id 0) tp bk] g:=S;refine⟨ag0,?_⟩;refine QP ?_;obtain⟨w2,aC,aH,hown2,S⟩:=QH (A:=[]) S;have S:SH h bs (mcL mb ph P V (Yj (stM s id 2) 1 id 0) w2) _:=S;have h2':id<=(Yj (stM s id 2) 1 id 0).T.length:=by show id<=((s.T.modify _ _).length:Nat);rw[v0l];exact h2
 have aR:((Yj (stM s id 2) 1 id 0).T.length:Nat)=s.T.length:=v0l ..;obtain⟨tb2,tc2,cY,m2,bh,da,ey⟩:=Q1L (S.sl 4 rfl) h1 h2'
 have etk:ZA (Yj (stM s id 2) 1 id 0) id= {ZA s id with state:=2}:=by
  have e:=Q2W h1 h2;show((s.T.modify (id -1).toNat _)[(id -1).toNat]?).getD default=_;rw[v2o,e];rfl
 rw[etk]at ey;refine I1 rfl<|I6 rfl<|I0 12 rfl<|I4 rfl (S.cel 0 rfl) rfl<|I1 rfl<|Iso rfl rfl ?_;rw[bh];refine I5o 15 rfl rfl ?_;rw[<-bh];refine I0 0 rfl<|I4 rfl da (ey 0 _ (by decide) rfl)<|Ie rfl rfl<|Q0<|Q2 rfl (fun hb=>?_) fun hb=>?_
 · skip
   refine Q3 (by kernel_rfl)<|I1 rfl<|I1 rfl<|I1 rfl<|I6 rfl<|I0 12 rfl<|I4 rfl (S.cel 0 rfl) rfl<|I1 rfl<|Iso rfl rfl ?_;rw[bh];refine I5o 15 rfl rfl ?_;rw[<-bh];refine I0 1 rfl<|I4 rfl da (ey 1 _ (by decide) rfl)<|I1 rfl ?_;obtain⟨bB,S⟩:=Qo (A:=[]) (s:=Yj (stM s id 2) 1 id 0) (w:=w2) S aC aH;have S:SH h bs [mcR mb ph P V (Yj (stM s id 2) 1 id 0) tp bB] _:=S;refine QZ [_,_,_,_,_,_] gn rfl rfl (by kernel_rfl) rfl (C.mono (m76 (SH.sub1 S0 S0.own0 S 0 rfl) (by show(s.M++[_]).length<=100000;rw[v0j];simp;omega)) ?_)
   rintro v g ⟨fD,S2⟩;have S:=S.ret 0 rfl S2;refine⟨ag0,?_⟩;refine Q0 ?_;refine⟨.inr rfl,_,rfl,?_⟩
   exact(by
    have kX:(ZA s id).kind=4:=by simpa using hb
    unfold JX;rw[if_pos kX]
    exact⟨_,S⟩)
 refine Q4 ?_;refine⟨.inr rfl,_,rfl,?_⟩
 exact(by
  have kX: ¬(ZA s id).kind=4:=by simpa using hb
  unfold JX;rw[if_neg kX]
  exact Qo (A:=[]) S aC aH)
theorem m94 {n k:Int} (S0:SH h0 [] [mcR mb ph P V s tp bs] h) (kk:MOk P s):CP modE 114 [Qk mb,iV n,iV k] h (iV (if 1<=n/\n<=s.T.length/\(ZA s n).kind=k then n else 0)):=by
 have SE:=S0.enter;obtain⟨w,hw,bg,aj,S⟩:=QH (A:=[]) SE;have S:SH h bs (mcL mb ph P V s w) h:=S;have hk:=kk.t;obtain⟨ta,tc0,dg⟩:=Q6 (S.sl 4 rfl);refine Q9 (fu:=Tryz.f114) (by kernel_rfl) rfl ?_;refine Q7<|I2 rfl<|Z8<|I1 rfl<|Il rfl rfl<|I1 rfl ?_
 refine Z4 (n:=7) rfl rfl rfl gn rfl (fun hb=>by
  refine D1 hb rfl<|D1 hb rfl<|D6 hb rfl<|D0 12 hb rfl<|D4 hb rfl (S.cel 0 rfl) rfl ?_;rw[dg];refine D7 hb rfl ?_;rw[<-dg];refine Dg hb rfl rfl ?_
  exact Q0 ⟨rfl,rfl,7,rfl,rfl⟩) ?_
 refine I1 rfl ?_
 refine Z4 (n:=11) rfl rfl rfl gn rfl (fun hb=>by
  have cr:1<=n/\n<=s.T.length:=by simp at hb;omega
  obtain⟨tb,tc,cs,m,br,hg,aP⟩:=Q1L (S.sl 4 rfl) cr.1 cr.2;refine D1 hb rfl<|D6 hb rfl<|D0 12 hb rfl<|D4 hb rfl (S.cel 0 rfl) rfl<|D1 hb rfl<|Dso hb rfl rfl ?_;rw[br];refine D5o 15 hb rfl rfl ?_;rw[<-br];refine D0 0 hb rfl<|D4 hb rfl hg (aP 0 _ (by decide) rfl)<|D1 hb rfl<|Dn hb rfl rfl ?_
  exact Q0 ⟨rfl,rfl,11,rfl,rfl⟩) ?_
 refine Q0<|Q2 rfl (fun hb=>?_) fun hb=>?_
 · skip
   refine Q7<|I2 rfl<|Q0<|Q8 ?_;refine⟨.inl rfl,_,rfl,?_⟩
   exact⟨by
    have: ¬(1<=n/\n<=s.T.length/\(ZA s n).kind=k):=by
     rintro⟨a,b,c⟩;simp at hb;rcases hb with hb|hb
     · omega
     exact hb c
    rw[if_neg this];rfl,rfl⟩
 refine Q4<|Q7<|I1 rfl<|I2 rfl<|Q0<|Q8 ?_;refine⟨.inl rfl,_,rfl,?_⟩
 exact⟨by
  have:1<=n/\n<=s.T.length/\(ZA s n).kind=k:=by
   simp at hb;exact⟨by omega,by omega,hb.2⟩
  rw[if_pos this];rfl,rfl⟩
end
def Q2R (s:MS) (id site of':Int):MS:=if(ZA s of').state=1 then {stM (Ji s id site 5 of' true) of' 4 with Q:=s.Q.modify (ZA s of').looper.toNat fun L=>Q3p L of'}else Ji s id site 5 of' true
theorem tk_st {s:MS} {id k:Int} (h1:1<=id) (h2:id<=s.T.length):ZA (stM s id k) id= {ZA s id with state:=k}:=by
 have e:=Q2W h1 h2;show((s.T.modify (id -1).toNat _)[(id -1).toNat]?).getD default=_;rw[v2o,e];rfl
section
variable {h0 h:Hp} {P:Prg} {V:PrV} {mb ph:Nat} {s:MS} {tp bs:List Nat}
theorem m95 {id site of':Int} (S0:SH h0 [] [mcR mb ph P V s tp bs] h) (k:MOk P s) (h1:1<=of') (h2:of'<=s.T.length) (an:(ZA s of').state=1->0<=(ZA s of').looper/\(ZA s of').looper <P.loopers) (hm:s.M.length<=99990):C modE 115 [Qk mb,iV id,iV site,iV of'] h fun _ g'=> ∃aa,SH h bs [mcR mb ph P V (Q2R s id site of') tp aa] g':=by
 have SE:=S0.enter;have SE:SH h bs [mcR mb ph P V s tp bs] h:=SE;have hk:=k.t;refine Q9 (fu:=Tryz.f115) (by kernel_rfl) rfl ?_;have S:=SE;refine Q7<|I1 rfl<|I1 rfl<|I1 rfl<|I1 rfl<|Ic [_,_,_,_,_,_] rfl rfl (C.mono (m76 (SH.sub1 S0 S0.own0 S 0 rfl) (by omega)) ?_);rintro v g ⟨bz,S2⟩;have S:=S.ret 0 rfl S2;have S:SH h bs [mcR mb ph P V (Ji s id site 5 of' true) tp bz] g:=S;refine⟨ag0,?_⟩;refine QP ?_;obtain⟨w,hw,bg,aj,S⟩:=QH (A:=[]) S;obtain⟨s1,aY⟩: ∃s1,s1=Ji s id site 5 of' true:=⟨_,rfl⟩;rw[<-aY]at hw;have S:SH h bs (mcL mb ph P V s1 w) g:=by rw[aY];exact S
 have eT:s1.T=s.T:=by rw[aY];rfl
 have eQ:s1.Q=s.Q:=by rw[aY];rfl
 have eA:ZA s1 of'=ZA s of':=by unfold ZA;rw[eT]
 have h2':of'<=s1.T.length:=by rw[eT];exact h2
 have bP:s1.T.length<=256:=by rw[eT];exact hk
 obtain⟨tb,tc,cs,m,br,hg,aP⟩:=Q1L (S.sl 4 rfl) h1 h2';refine I1 rfl<|I6 rfl<|I0 12 rfl<|I4 rfl (S.cel 0 rfl) rfl<|I1 rfl<|Iso rfl rfl ?_;rw[br];refine I5o 15 rfl rfl ?_;rw[<-br];refine I0 11 rfl<|I4 rfl hg (aP 11 _ (by decide) rfl)<|Ie rfl rfl<|Q0<|Q2 rfl (fun hb=>?_) fun hb=>?_
 · skip
   refine Q7 ?_;have av:(ZA s of').state=1:=by rw[<-eA];simpa using hb
   obtain⟨gi,lP⟩:=an av;refine I1 rfl<|I6 rfl<|I0 12 rfl<|I4 rfl (S.cel 0 rfl) rfl<|I1 rfl<|Iso rfl rfl ?_;rw[br];refine I5o 15 rfl rfl ?_;rw[<-br];refine I0 11 rfl<|Zm 4 S gn rfl rfl rfl (by kernel_rfl) rfl br (by rw[Q1N];omega) (fun g S=>ag0) fun g S=>?_;rw[QeP h1 h2']at S;obtain⟨s2,aK⟩: ∃s2,s2=stM s1 of' 4:=⟨_,rfl⟩;rw[<-aK]at S;have eT2:s2.T.length=s.T.length:=by rw[aK];show(s1.T.modify _ _).length=_;rw[v0l,eT]
   have eQ2:s2.Q=s.Q:=by rw[aK];exact eQ
   have eA2:ZA s2 of'= {ZA s of' with state:=4}:=by rw[aK,tk_st h1 h2',eA]
   have aC:w.qs.length=s2.Q.length/\w.ths.length=s2.Th.length:=by rw[aK];exact hw
   obtain⟨tb2,tc2,cY,m2,bh,da,ey⟩:=Q1L (s:=s2) (S.sl 4 rfl) h1 (by omega);rw[eA2]at ey;have hat4:cY[0+v0f (of' -1)*15+4]?=some (iV (ZA s of').looper):=ey 4 _ (by decide) rfl;have hQl:=k.q;have bH:(ZA s of').looper.toNat <s2.Q.length:=by rw[eQ2];omega
   obtain⟨L,lq⟩: ∃L,s2.Q[(ZA s of').looper.toNat]?=some L:=⟨_,v0c bH⟩;obtain⟨qv,gI⟩: ∃v,w.qs[(ZA s of').looper.toNat]?=some v:=⟨_,v0c (by rw[aC.1];exact bH)⟩;have oz:L.length<=256:=v0t (k.ql L (by rw[<-eQ2];exact v0m lq)) (by omega);obtain⟨qb,qm,qc,qr,cy,dV,_⟩:=(S.sl 2 rfl).at (by omega)
   have iP:(ptC w.qs++qr)[0+v0f (ZA s of').looper*1]?=some (Qk qv.1):=by
    rw[v0e,v0A,v0z (by rw[v0v,aC.1];exact bH),v0D,gI];rfl
   have dx:(mcL mb ph P V s2 w)[(ZA s of').looper.toNat+10]?=some (quR qv.1 L qv.2):=mc_q lq gI;refine Q0<|I9<|I1 rfl<|I6 rfl<|I0 10 rfl<|I4 rfl (S.cel 0 rfl) rfl<|I1 rfl<|I6 rfl<|I0 12 rfl<|I4 rfl (S.cel 0 rfl) rfl<|I1 rfl<|Iso rfl rfl ?_;rw[bh];refine I5o 15 rfl rfl ?_;rw[<-bh];refine I0 4 rfl<|I4 rfl da hat4 ?_;rw[cy];refine I5o 1 rfl rfl ?_;rw[<-cy];refine I4 rfl dV iP<|I1 rfl<|Ic [_,_] rfl rfl (C.mono (m74 (SH.sub1 S0 S0.own0 S _ dx) (by omega)) ?_);rintro v g ⟨rfl,bB,S2⟩;have S:=S.ret _ dx S2
   rw[Q6B (fun L=>Q3p L of') bB lq gI]at S;refine⟨ag0,?_⟩;refine Q0 ?_;refine⟨.inr rfl,_,rfl,?_⟩
   exact(by
    have e:Q2R s id site of'= {s2 with Q:=s2.Q.modify (ZA s of').looper.toNat fun L=>Q3p L of'}:=by
     unfold Q2R;rw[if_pos av,eQ2,aK,aY]
    rw[e]
    exact Qo (A:=[]) (w:= {w with qs:=w.qs.set (ZA s of').looper.toNat (qv.1,bB)}) S ⟨by show(w.qs.set _ _).length=(s2.Q.modify _ _).length;rw[v0q,v0l];exact aC.1,aC.2⟩ bg)
 refine Q4 ?_;refine⟨.inr rfl,_,rfl,?_⟩
 exact(by
  have av: ¬(ZA s of').state=1:=by rw[<-eA];simpa using hb
  unfold Q2R;rw[if_neg av,<-aY]
  exact Qo (A:=[]) S hw bg)
end
theorem Q94 {h:Hp} {s:MS} {tv:Value} {bs:List Nat} {id:Int} (x:SlC 85 14 h tv (tkC s.T) s.T.length bs) (h1:1<=id) (h2:id<=s.T.length): ∃b c cs m,tv=.slice (some ⟨b,0,none⟩) s.T.length c/\h.get b=some (.cells cs 85 m)/\b <h.n/\ ∀f v,f <15->(tkV (ZA s id))[f]?=some v->cs[0+v0f (id -1)*15+f]?=some v:=by
 obtain⟨b,m,c,r,hv,hg,_,hl,_⟩:=x.at (by omega);refine⟨b,c,_,m,hv,hg,hl,fun f v hf hv=>?_⟩;rw[v0e];exact Qs (Q4H r (Q2W h1 h2)) hf hv
theorem Jm {s:MS} {id:Int} (h1:1<=id) (h2:id<=s.Th.length):s.Th[(id -1).toNat]?=some (Zt s id):=by
 unfold Zt;rw[v0c (by omega)];rfl
theorem QbN {h:Hp} {s:MS} {w:MW} {hv:Value} {bs:List Nat} {id:Int} (x:SlC 156 0 h hv (ptC w.ths) s.Th.length bs) (hw:w.ths.length=s.Th.length) (h1:1<=id) (h2:id<=s.Th.length): ∃b c cs m v,hv=.slice (some ⟨b,0,none⟩) s.Th.length c/\h.get b=some (.cells cs 156 m)/\b <h.n/\w.ths[(id -1).toNat]?=some v/\cs[0+v0f (id -1)*1]?=some (Qk v.1):=by
 obtain⟨b,m,c,r,hv,hg,_,hl,_⟩:=x.at (by omega);obtain⟨v,fX⟩: ∃v,w.ths[(id -1).toNat]?=some v:=⟨_,v0c (by omega)⟩;refine⟨b,c,_,m,v,hv,hg,hl,fX,?_⟩;rw[v0e,v0A,v0z (by rw[v0v];omega),v0D,fX];rfl
def Q4E (P:Prg) (s:MS) (id:Int):Int:=reg (Qv (Zt s id)).regs (Qa P (Zt s id)).a
def Q1I (P:Prg) (s:MS) (id:Int):Bool:=(((decide (1<=Q4E P s id)&&decide (Q4E P s id<=s.T.length))&&decide ((ZA s (Q4E P s id)).kind=5))&& !decide ((ZA s (Q4E P s id)).state=3))
def Q1q (s:MS) (id:Int):Bool:=decide (1<=id)&&decide (id<=s.T.length)&&decide ((ZA s id).state=2)
def Jj (P:Prg) (s:MS) (id:Int):Int:=if Q1q s id=true/\(Qa P (Zt s id)).op=29/\Q1I P s id=true then Q4E P s id else 0
section
variable {h0 h:Hp} {P:Prg} {V:PrV} {mb ph:Nat} {s:MS} {tp bs:List Nat}
theorem m52 {id:Int} (S0:SH h0 [] [mcR mb ph P V s tp bs] h) (X0:Q1m h0 P V) (hM:ZL P=true) (k:MOk P s) (hR:Q1q s id=true->Yc (Zt s id)=false):C modE 57 [Qk mb,iV id] h fun v g'=>v=iV (Jj P s id)/\Ext h g':=by
 have SE:=S0.enter;obtain⟨w,hw,bg,aj,SE⟩:=QH (A:=[]) SE;have SE:SH h bs (mcL mb ph P V s w) h:=SE;have hk:=k.t;have e9:=k.th;have jr:=SE.cel 0 rfl;have gK:mb <h.n:=SE.lt1 0 rfl;obtain⟨ta,tc0,dg⟩:=Q6 (SE.sl 4 rfl);refine Q9 (fu:=Tryz.f57) (by kernel_rfl) rfl ?_;have S:=SH.start h;refine Q7<|I2 rfl<|Z8<|I1 rfl<|Il rfl rfl<|I1 rfl ?_
 refine Z4 (n:=7) rfl rfl rfl gn rfl (fun hb=>by
  refine D1 hb rfl<|D1 hb rfl<|D6 hb rfl<|D0 12 hb rfl<|D4 hb rfl (S.old0 jr gK) rfl ?_;rw[dg];refine D7 hb rfl ?_;rw[<-dg];refine Dg hb rfl rfl ?_
  exact Q0 ⟨rfl,rfl,7,rfl,rfl⟩) ?_
 refine I1 rfl ?_
 refine Z4 (n:=10) rfl rfl rfl gn rfl (fun hb=>by
  have cr:1<=id/\id<=s.T.length:=by simp at hb;omega
  obtain⟨tb,tc,cs,m,br,hg,eh,aP⟩:=Q94 (SE.sl 4 rfl) cr.1 cr.2;refine D1 hb rfl<|D6 hb rfl<|D0 12 hb rfl<|D4 hb rfl (S.old0 jr gK) rfl<|D1 hb rfl<|Dso hb rfl rfl ?_;rw[br];refine D5o 15 hb rfl rfl ?_;rw[<-br];refine D0 11 hb rfl<|D4 hb rfl (S.old0 hg eh) (aP 11 _ (by decide) rfl)<|Dn hb rfl rfl ?_
  exact Q0 ⟨rfl,rfl,10,rfl,rfl⟩) ?_
 refine Q0<|Q2 rfl (fun hb=>?_) fun hb=>?_
 · skip
   refine Q7<|I2 rfl<|Q0<|Q8 ?_;refine⟨.inl rfl,_,rfl,?_⟩
   exact⟨by
    have: ¬(Q1q s id=true/\(Qa P (Zt s id)).op=29/\Q1I P s id=true):=by
     rintro⟨a,_⟩;unfold Q1q at a;simp at a hb;rcases hb with hb|hb
     · omega
     exact hb a.2
    unfold Jj;rw[if_neg this];rfl,S.e0⟩
 refine Q4<|Q7 ?_
 have ay:Q1q s id=true:=by
  unfold Q1q;simp at hb ⊢;exact⟨⟨by omega,by omega⟩,hb.2⟩
 have cr:1<=id/\id<=s.T.length:=by simp at hb;omega
 obtain⟨pb,pc,pcs,pm,pv,fY,jo,bM,aF,di⟩:=QbN (SE.sl 5 rfl) hw.2 cr.1 (by omega);have hp:Held (thR pv.1 (pvL P V) (Zt s id) pv.2) h:=SE.held _ (Qg6 hw.1 (Jm cr.1 (by omega)) aF);have aW:=hR ay;have hl:=Q1z aW;have hT:=k.tok _ (v0m (Jm cr.1 (by omega)));refine I1 rfl<|I6 rfl<|I0 13 rfl<|I4 rfl (S.old0 jr gK) rfl<|I1 rfl<|Iso rfl rfl ?_;rw[fY];refine I5o 1 rfl rfl ?_;rw[<-fY];refine I4 rfl (S.old0 jo bM) di<|I2 rfl<|QP<|I1 rfl<|Ic [_] rfl rfl (C.mono (m73z X0 (S0.all0 S0.own0 (S0.enter)) hp hT hl) ?_);rintro v g ⟨⟨lv,ln,rfl,jt⟩,x⟩
 have S:=S.grow x;obtain⟨lva,lvc,rfl⟩:=jt.valM;refine⟨ag0,?_⟩;refine Qx (zv:=.agg #[iV 0,iV 0,iV 0,iV 0,iV 0,.slice none 0 0,iV 0,iV 0]) S gn rfl (by kernel_rfl) fun b1 g aJ S=>?_;refine Qi (n:=8) 0 S gn rfl rfl rfl (by kernel_rfl) rfl rfl (by decide) rfl (fun g S=>ag0) fun g S=>?_;have S:SH h [] [bxR b1 (Qa P (Zt s id)) (.slice lva (Qa P (Zt s id)).l.length lvc) ln] g:=S;refine Z8<|I0 0 rfl<|I4 rfl (S.cel 0 rfl) rfl<|In rfl rfl<|Q0<|Q2 rfl (fun hb=>?_) fun hb=>?_
 · skip
   refine Q7<|I2 rfl<|Q0<|Q8 ?_;refine⟨.inl rfl,_,rfl,?_⟩
   exact⟨by
    have: ¬(Q1q s id=true/\(Qa P (Zt s id)).op=29/\Q1I P s id=true):=by
     rintro⟨_,a,_⟩;simp at hb;exact hb a
    unfold Jj;rw[if_neg this];rfl,S.e0⟩
 refine Q4<|Q5<|I9 ?_;have dj:(Qa P (Zt s id)).op=29:=by simpa using hb
 obtain⟨fa,fc,tw,htw,_,hq,cM,hr,dy,bX⟩:=Q1P hp;obtain⟨fb,fr,fm,rfl,bC,j7,_⟩:=Q8K hr hl;have dR:=dy fb (by rw[j7];simp);have aE:=Ya hl;have ok:=hT.2 _ (ZZ hl);have h32:=hT.1;obtain⟨v,hv⟩: ∃v,tw.vs[(Zt s id).F.length -1]?=some v:=⟨_,v0c (by omega)⟩
 have k0:(frC (Zt s id).F tw.vs++fr)[0+v0f (((Zt s id).F.length:Int) -1)*3+2]?=some v.1:=by
  rw[v0e,show v0f (((Zt s id).F.length:Int) -1)=(Zt s id).F.length -1 by omega];exact Qs (Q0k _ _ _ _ _ _ aE hv) (by omega) rfl
 have bm:=ok.r
 have dE:0<=(Qa P (Zt s id)).a/\(Qa P (Zt s id)).a <(Qv (Zt s id)).regs.length:=by
  rw[bm];exact Q08 (Q7V hM ok) (by rw[dj];decide)
 obtain⟨rb,ro,rc,rcs,re,rm,mK,gH,hrlt,hrat⟩:=(bX _ _ _ aE hv).row.atM (by omega)
 have ka:rcs[ro+v0f (Qa P (Zt s id)).a*1]?=some (iV (reg (Qv (Zt s id)).regs (Qa P (Zt s id)).a)):=by
  have:=hrat (Qa P (Zt s id)).a.toNat (by omega);rw[v0A,this];unfold reg;rw[v0c (by omega)];rfl
 obtain⟨n,hn⟩: ∃n,n=reg (Qv (Zt s id)).regs (Qa P (Zt s id)).a:=⟨_,rfl⟩;rw[<-hn]at ka;have hwn:Q4E P s id=n:=hn.symm;refine I1 rfl<|I6 rfl<|I0 8 rfl<|I4 rfl (S.old0 hq cM) rfl<|I1 rfl<|I6 rfl<|I0 8 rfl<|I4 rfl (S.old0 hq cM) rfl<|I7 rfl<|Iso rfl rfl<|I5o 3 rfl rfl<|I0 2 rfl<|I4 rfl (S.old0 bC dR) k0<|I0 1 rfl<|I4 rfl (S.cel 0 rfl) rfl ?_;rw[mK];refine I5o 1 rfl rfl ?_;rw[<-mK];refine I4 rfl (S.old0 gH hrlt) ka<|I2 rfl<|Z8<|I1 rfl<|Ih rfl rfl<|I1 rfl ?_
 refine QY (n:=7) rfl rfl rfl gn rfl (fun hb=>by
  refine D1 hb rfl<|D1 hb rfl<|D6 hb rfl<|D0 12 hb rfl<|D4 hb rfl (S.old0 jr gK) rfl ?_;rw[dg];refine D7 hb rfl ?_;rw[<-dg];refine Dm hb rfl rfl ?_
  exact Q0 ⟨rfl,rfl,7,rfl,rfl⟩) ?_
 refine I1 rfl ?_
 refine QY (n:=10) rfl rfl rfl gn rfl (fun hb=>by
  have iF:1<=n/\n<=s.T.length:=by simp at hb;omega
  obtain⟨tb,tc,cs,m,br,hg,eh,aP⟩:=Q94 (SE.sl 4 rfl) iF.1 iF.2;refine D1 hb rfl<|D6 hb rfl<|D0 12 hb rfl<|D4 hb rfl (S.old0 jr gK) rfl<|D1 hb rfl<|Dso hb rfl rfl ?_;rw[br];refine D5o 15 hb rfl rfl ?_;rw[<-br];refine D0 0 hb rfl<|D4 hb rfl (S.old0 hg eh) (aP 0 _ (by decide) rfl)<|De hb rfl rfl ?_
  exact Q0 ⟨rfl,rfl,10,rfl,rfl⟩) ?_
 refine I1 rfl ?_
 refine QY (n:=10) rfl rfl rfl gn rfl (fun hb=>by
  have iF:1<=n/\n<=s.T.length:=by simp at hb;omega
  obtain⟨tb,tc,cs,m,br,hg,eh,aP⟩:=Q94 (SE.sl 4 rfl) iF.1 iF.2;refine D1 hb rfl<|D6 hb rfl<|D0 12 hb rfl<|D4 hb rfl (S.old0 jr gK) rfl<|D1 hb rfl<|Dso hb rfl rfl ?_;rw[br];refine D5o 15 hb rfl rfl ?_;rw[<-br];refine D0 11 hb rfl<|D4 hb rfl (S.old0 hg eh) (aP 11 _ (by decide) rfl)<|Dn hb rfl rfl ?_
  exact Q0 ⟨rfl,rfl,10,rfl,rfl⟩) ?_
 refine Q0<|Q2 rfl (fun hb=>?_) fun hb=>?_
 · skip
   refine Q7<|I1 rfl<|I2 rfl<|Q0<|Q8 ?_;refine⟨.inl rfl,_,rfl,?_⟩
   exact⟨by
    have:Q1q s id=true/\(Qa P (Zt s id)).op=29/\Q1I P s id=true:=⟨ay,dj,by unfold Q1I;rw[hwn];exact hb⟩
    unfold Jj;rw[if_pos this,hwn];rfl,S.e0⟩
 refine Q4<|Q7<|I2 rfl<|Q0<|Q8 ?_;refine⟨.inl rfl,_,rfl,?_⟩
 exact⟨by
  have: ¬(Q1q s id=true/\(Qa P (Zt s id)).op=29/\Q1I P s id=true):=by
   rintro⟨_,_,a⟩;unfold Q1I at a;rw[hwn]at a;exact Bool.noConfusion (a.symm.trans hb)
  unfold Jj;rw[if_neg this];rfl,S.e0⟩
end
section
variable {h0 h g:Hp} {ds bs:List Nat} {B L:List Res} {ph:Nat} {H:List MObj} {ae:List Nat} {id:Int}
theorem Qc3 {r:Res} {v:Value} {cs:List Value} {n e:Nat} {vb:List Nat} (S:SH h0 ds (r::L) g) (hm:slR e 0 v cs n vb∈L): ∀g',ExtB r.own g g'->RowV g' v cs:=by
 intro g' x;have hp:SlC e 0 g v cs n vb:=S.hold _ (List.mem_cons_of_mem _ hm);rcases hp with⟨rfl,rfl,rfl,rfl⟩| ⟨b,m,c,rest,rfl,hg,m7,ai,rfl,h1,h2,h3⟩
 · exact RowV.nil
 have hb:b∈owns L:=QK hm (by simp[slR]);have fp:=S.nd;rw[Z2,List.nodup_append]at fp;have dP:b∉r.own:=fun hr=>fp.2.2 b hr b hb rfl;have h':SlC e 0 g' (.slice (some ⟨b,0,none⟩) n c) cs n [b]:=.inr ⟨b,m,c,rest,rfl,(x.get b ai dP).trans hg,m7,v0p ai x.n,rfl,h1,h2,h3⟩;exact h'.row
theorem Qfb (S:SH h0 ds (hpR ph H ae::B) g) (e:hasB H id=true): ∃(RH:List Res) (va:Option Addr) (vc:Nat) (vb:List Nat) (b c m:Nat) (cs:List Value),g.get ph=some (.cells [.slice (some ⟨b,0,none⟩) H.length c] 93 0)/\g.get b=some (.cells cs 233 m)/\0+v0f (id -1)*6+6<=cs.length/\(cs.drop (0+v0f (id -1)*6)).take 6=[iV (QR H id).kind,iV (QR H id).of,.slice va (QR H id).vals.length vc,iV (QR H id).site,iV (QR H id).by',iV (QR H id).nth]/\1<=id/\id<=H.length/\SH h0 ds (slR 2 0 (.slice va (QR H id).vals.length vc) (isV (QR H id).vals) (QR H id).vals.length vb::(RH++B)) g/\ ∀(h0:Hp) (ds:List Nat) (B:List Res) (g:Hp),SH h0 ds (slR 2 0 (.slice va (QR H id).vals.length vc) (isV (QR H id).vals) (QR H id).vals.length vb::(RH++B)) g-> ∃ah,SH h0 ds (hpR ph H ah::B) g:=by
 obtain⟨Ls,⟨w,hw,rfl⟩,_,S1⟩:=Q2G S;obtain⟨j,o,bU,hj,ho,bH⟩:=Q3i e;obtain⟨⟨v,vb⟩,hv⟩: ∃v,w.vs[j]?=some v:=⟨_,v0c (by rw[hw];exact bH)⟩;have S1:SH h0 ds (cR ph (.cells [w.ov] 93 0)::slR 233 5 w.ov (obC H w.vs) H.length w.ob::(obP H w.vs++B)) g:=S1;have h1:g.get ph=some (.cells [w.ov] 93 0):=S1.cel 0 rfl;obtain⟨b,m,c,r,aW,hg,_,_,_,hl,_⟩:=(S1.sl 1 rfl).at (by omega);have hP:=Q7E H w.vs j o (v,vb) hj hv
 have hx:SlC 2 0 g v (isV o.vals) o.vals.length vb:=S1.hold (slR 2 0 v (isV o.vals) o.vals.length vb) (by
  have:=v0m hP
  simp[this])
 obtain⟨va,vc,rfl⟩:=Q6 hx;have hjt:v0f (id -1)=j:=by omega
 have hjP:=(v0y.1 hP).1;refine⟨cR ph (.cells [w.ov] 93 0)::slR 233 5 w.ov (obC H w.vs) H.length w.ob::(obP H w.vs).eraseIdx j,va,vc,vb,b,c,m,_,by rw[<-aW];exact h1,hg,?_,?_,by omega,by omega,?_,?_⟩
 · rw[hjt,v0j,hl];omega
 · rw[hjt,v0e,ho];exact Q56 _ _ _ _ _ _ hj hv
 · rw[ho]
   have S2:SH h0 ds (obP H w.vs++(cR ph (.cells [w.ov] 93 0)::slR 233 5 w.ov (obC H w.vs) H.length w.ob::B)) g:=by
    refine S1.sub (B:=[]) ?_;rw[v0k];refine(v2i (obP H w.vs) [cR ph (.cells [w.ov] 93 0),slR 233 5 w.ov (obC H w.vs) H.length w.ob] B).trans ?_;exact List.Perm.refl _
   have S3:=S2.outAt hP;refine S3.sub (B:=[]) ?_;rw[v0k];refine List.Perm.cons _ ?_;exact v2i [cR ph (.cells [w.ov] 93 0),slR 233 5 w.ov (obC H w.vs) H.length w.ob] ((obP H w.vs).eraseIdx j) B
 intro h0 ds B g S;rw[ho]at S
 have S2:SH h0 ds (slR 2 0 (.slice va o.vals.length vc) (isV o.vals) o.vals.length vb::((obP H w.vs).eraseIdx j++(cR ph (.cells [w.ov] 93 0)::slR 233 5 w.ov (obC H w.vs) H.length w.ob::B))) g:=by
  refine S.sub (B:=[]) ?_;rw[v0k];refine List.Perm.cons _ ?_;exact v2i ((obP H w.vs).eraseIdx j) [cR ph (.cells [w.ov] 93 0),slR 233 5 w.ov (obC H w.vs) H.length w.ob] B
 have S3:=S2.inAt hjP
 have e1:(obP H w.vs).set j (slR 2 0 (.slice va o.vals.length vc) (isV o.vals) o.vals.length vb)=obP H w.vs:=by
  have:=(v0y.1 hP).2;refine v1f fun i=>?_;rw[v1X]
  split
  · rename_i e;subst e;rw[hP]
  rfl
 rw[e1]at S3
 have S4:SH h0 ds (hpL ph H w++B) g:=by
  refine S3.sub (B:=[]) ?_;rw[v0k];exact v2i [cR ph (.cells [w.ov] 93 0),slR 233 5 w.ov (obC H w.vs) H.length w.ob] (obP H w.vs) B
 exact⟨_,Kj S4 ⟨w,hw,rfl⟩⟩
end
end Go.Proofs.YtljpajcmdjmeaaaGreat
