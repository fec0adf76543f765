/- Chapter 14: may a program's parts be, as the document has it. Conditions: none. Chapter 14: may a program be, as the document has it. Conditions: none. Chapter 14: a program that may not be is refused; the law. Conditions: the table of blanks. The document's threads, as they lie in the memory. Conditions: they are one's own. The document's threads: over, next, on. Conditions: they are one's own, of a program that may be. The document's threads: an instruction that is done. Conditions: they are one's own, of a program that may be. The document's threads: what is asked; frames; the beginning. Conditions: a program that may be. The document's threads: an instruction that reckons. Conditions: they are one's own, of a program that may be. The document's threads: an instruction that makes. Conditions: they are one's own, of a program that may be. The document's threads: an object's value, read or written. Conditions: they are one's own, of a program that may be. -/
import Derived.Test.YteinandjhpnceaaLa
import Derived.Test.YteinandjhpnceaaXd
namespace Go.Proofs.Yteinandjhpnceaa
open Go.X Go.May
section
variable {h:Hp} {P:Prg} {lo cl gl fu co ev si:Value}
set_option maxHeartbeats 2000000 in
theorem c8 (X:PrgAt h P lo cl gl fu co ev si):C modE 22 [QcD P lo cl gl fu co ev si] h fun v h'=>v=.bool (YU P)/\Ext h h':=by
 obtain⟨⟨oa,oc,rfl⟩,⟨ca,cc,rfl⟩,⟨ga,gc,rfl⟩,⟨fa,fc,rfl⟩,⟨pa,pc,rfl⟩,⟨ea,ec,rfl⟩,-⟩:=X.vals;have hz1:=X.zcl;have hz2:=X.zco;have hz3:=X.zev;refine Q8 (fu:=Try.f22) (by kernel_rfl) rfl ?_;have S:=SH.start h;refine Q6 ?_;refine QX S gn rfl rfl fun b1 g nb1 S=>?_;refine I2 rfl<|Z7<|I0 0 rfl<|I4 rfl (S.cel 0 rfl) rfl<|I7 rfl<|Il rfl rfl<|I1 rfl ?_
 refine QT (n:=4) rfl rfl rfl gn rfl (fun hb=>by
  refine D0 0 hb rfl<|D4 hb rfl (S.cel 0 rfl) rfl<|D7 hb rfl<|Dg hb rfl rfl ?_
  exact Q0 ⟨rfl,rfl,4,rfl,rfl⟩) ?_
 refine I1 rfl ?_
 refine QT (n:=4) rfl rfl rfl gn rfl (fun hb=>by
  refine D0 1 hb rfl<|D4 hb rfl (S.cel 0 rfl) rfl<|D7 hb rfl<|Dg hb rfl rfl ?_
  exact Q0 ⟨rfl,rfl,4,rfl,rfl⟩) ?_
 refine I1 rfl ?_
 refine QT (n:=4) rfl rfl rfl gn rfl (fun hb=>by
  refine D0 2 hb rfl<|D4 hb rfl (S.cel 0 rfl) rfl<|D7 hb rfl<|Dg hb rfl rfl ?_
  exact Q0 ⟨rfl,rfl,4,rfl,rfl⟩) ?_
 refine I1 rfl ?_
 refine QT (n:=4) rfl rfl rfl gn rfl (fun hb=>by
  refine D0 4 hb rfl<|D4 hb rfl (S.cel 0 rfl) rfl<|D7 hb rfl<|Dg hb rfl rfl ?_
  exact Q0 ⟨rfl,rfl,4,rfl,rfl⟩) ?_
 refine I1 rfl ?_
 refine QT (n:=4) rfl rfl rfl gn rfl (fun hb=>by
  refine D0 5 hb rfl<|D4 hb rfl (S.cel 0 rfl) rfl<|D7 hb rfl<|Dg hb rfl rfl ?_
  exact Q0 ⟨rfl,rfl,4,rfl,rfl⟩) ?_
 refine I1 rfl ?_
 refine QT (n:=4) rfl rfl rfl gn rfl (fun hb=>by
  refine D0 3 hb rfl<|D4 hb rfl (S.cel 0 rfl) rfl<|D7 hb rfl<|Dl hb rfl rfl ?_
  exact Q0 ⟨rfl,rfl,4,rfl,rfl⟩) ?_
 refine I1 rfl ?_
 refine QT (n:=4) rfl rfl rfl gn rfl (fun hb=>by
  refine D0 3 hb rfl<|D4 hb rfl (S.cel 0 rfl) rfl<|D7 hb rfl<|Dg hb rfl rfl ?_
  exact Q0 ⟨rfl,rfl,4,rfl,rfl⟩) ?_
 refine I1 rfl<|Ze (dc:=53) rfl (fun hb53=>?_) fun hb53=>?_
 · skip
   refine ZI (n:=5) (dc:=53) (w:=false) rfl hb53 rfl<|IT rfl hb53 rfl<|Q0<|Q2 rfl (fun hb=>?_) fun hb=>?_
   · skip
     refine Q6<|I2 rfl<|Q0<|Q7 ?_;refine⟨.inl rfl,_,rfl,?_⟩;exact⟨by rw[QeV hb53];rfl,S.e0⟩
   exact absurd hb (by decide)
 refine D3 8 hb53 rfl (S.cel 0 rfl) (Nat.le_refl _)<|D0 6 hb53 rfl<|D4 hb53 rfl (S.cel 0 rfl) rfl<|Dc hb53 [_,_] rfl rfl (C.mono (c17 (X.ext S.e0)) ?_);rintro v g ⟨rfl,x⟩;have S:=S.grow x;refine⟨ag0,?_⟩;refine Db hb53 rfl<|Iu rfl hb53 rfl<|Q0<|Q2 rfl (fun hb=>?_) fun hb=>?_
 · skip
   refine Q6<|I2 rfl<|Q0<|Q7 ?_;refine⟨.inl rfl,_,rfl,?_⟩;exact⟨by rw[Qa1 hb53 (by simpa using hb)];rfl,S.e0⟩
 refine Q4<|Q3<|Q3 ?_;have hR:=Qar hb53 (by simpa using hb);refine Q1 (by kernel_rfl)<|I2 rfl<|Q0<|Q5<|Qh [(3,_)] [(1,_)] (by repeat(first|exact trivial|refine⟨rfl,?_⟩)) (fun kk lv hh=> ∃j:Nat,lv=[(3,iV j)]/\kk=P.classes.length -j/\j<=P.classes.length/\SH h [] [cR b1 (.cells (Q9A P (.slice oa P.loopers oc) (.slice ca P.classes.length cc) (.slice ga P.globals gc) (.slice fa P.funs.length fc) (.slice pa P.comps.length pc) (.slice ea P.events.length ec) si) 55 0)] hh/\(P.classes.take j).all Q2G=true) (n:=(P.classes.length)) ?_ fun kk lv hh hI=>?_
 · exact⟨0,rfl,rfl,by omega,S,rfl⟩
 obtain⟨j,rfl,rfl,hj,S,hall⟩:=hI;refine Q3<|Q6<|I1 rfl<|I0 1 rfl<|I4 rfl (S.cel 0 rfl) rfl<|I7 rfl<|Il rfl rfl<|Q0<|Q2 rfl (fun hb=>?_) fun hb=>?_
 · skip
   refine Q4<|Q3<|Q5<|Q3 ?_;have hj1:j <P.classes.length:=by simp at hb;omega
   obtain⟨b,o,c,cs,e,m,hv,hg,hlb,hl6,hat⟩:=X.cl.at (by omega);have hta:ca=some ⟨b,o,none⟩:=by injection hv
   obtain⟨a1,a2,a3,a4,hw1,hw2⟩:=(hat j hj1).at;refine I9<|I0 1 rfl<|I4 rfl (S.cel 0 rfl) rfl<|I1 rfl ?_;rw[hta];refine I5o 3 rfl rfl<|I0 2 rfl<|Y2 gn rfl rfl (by kernel_rfl) (S.old0 hg hlb) (by rw[Int.toNat_natCast];exact hw2) ?_;rw[<-hta];refine I7 rfl<|Ig rfl rfl<|I1 rfl ?_
   refine QT (n:=15) rfl rfl rfl gn rfl (fun hb=>by
    refine D0 1 hb rfl<|D4 hb rfl (S.cel 0 rfl) rfl<|D1 hb rfl ?_;rw[hta];refine D5o 3 hb rfl rfl<|D0 1 hb rfl<|Y2 (gy rfl rfl rfl hb) rfl rfl (by kernel_rfl) (S.old0 hg hlb) (by rw[Int.toNat_natCast];exact hw1) ?_;rw[<-hta];refine D7 hb rfl<|D0 1 hb rfl<|D4 hb rfl (S.cel 0 rfl) rfl<|D1 hb rfl ?_;rw[hta];refine D5o 3 hb rfl rfl<|D0 2 hb rfl<|Y2 (gy rfl rfl rfl hb) rfl rfl (by kernel_rfl) (S.old0 hg hlb) (by rw[Int.toNat_natCast];exact hw2) ?_;rw[<-hta];refine D7 hb rfl<|Dn hb rfl rfl ?_
    exact Q0 ⟨rfl,rfl,15,rfl,rfl⟩) ?_
   refine Q0<|Q2 rfl (fun hb=>?_) fun hb=>?_
   · skip
     refine Q6<|I2 rfl<|Q0<|Q7 ?_;refine⟨.inl rfl,_,rfl,?_⟩;exact⟨by rw[hR,Jd hj1 (Qe4 hb)];rfl,S.e0⟩
   refine Q4<|Q1 (by kernel_rfl)<|I1 rfl<|Iao rfl rfl<|I2 rfl<|Q0 ?_;exact Z6 (P.classes.length - (j+1)) (by omega) [(3,_)] (by repeat(first|exact trivial|refine⟨rfl,?_⟩)) ⟨j+1,rfl,rfl,by omega,S,by rw[Q0s hj1,hall,Qch hb];rfl⟩
 refine Ql<|Q9<|Qc<|Qm<|Q3<|Q3 ?_;have hje:j=P.classes.length:=by simp at hb;omega
 rw[hje,List.take_length]at hall;rw[hall,Bool.true_and]at hR;clear hall;refine Q1 (by kernel_rfl)<|I2 rfl<|Q0<|Q5<|Qh [(4,_)] [(1,_)] (by repeat(first|exact trivial|refine⟨rfl,?_⟩)) (fun kk lv hh=> ∃j:Nat,lv=[(4,iV j)]/\kk=P.comps.length -j/\j<=P.comps.length/\SH h [] [cR b1 (.cells (Q9A P (.slice oa P.loopers oc) (.slice ca P.classes.length cc) (.slice ga P.globals gc) (.slice fa P.funs.length fc) (.slice pa P.comps.length pc) (.slice ea P.events.length ec) si) 55 0)] hh/\(P.comps.take j).all (Q7i P)=true) (n:=(P.comps.length)) ?_ fun kk lv hh hI=>?_
 · exact⟨0,rfl,rfl,by omega,S,rfl⟩
 obtain⟨j,rfl,rfl,hj,S,hall⟩:=hI;refine Q3<|Q6<|I1 rfl<|I0 4 rfl<|I4 rfl (S.cel 0 rfl) rfl<|I7 rfl<|Il rfl rfl<|Q0<|Q2 rfl (fun hb=>?_) fun hb=>?_
 · skip
   refine Q4<|Q3<|Q5<|Q3<|Q3 ?_;have hj1:j <P.comps.length:=by simp at hb;omega
   obtain⟨b,o,c,cs,e,m,hv,hg,hlb,hl6,hat⟩:=X.co.at (by omega);have hta:pa=some ⟨b,o,none⟩:=by injection hv
   have hD:=hat j hj1;have h4:=hD.len;refine Q1 (by kernel_rfl)<|I2 rfl<|Q0<|Q5<|Qh [(5,_)] [(1,_),(4,_)] (by repeat(first|exact trivial|refine⟨rfl,?_⟩)) (fun kk lv hh=> ∃k:Nat,lv=[(5,iV k)]/\kk=4 -k/\k<=4/\SH h [] [cR b1 (.cells (Q9A P (.slice oa P.loopers oc) (.slice ca P.classes.length cc) (.slice ga P.globals gc) (.slice fa P.funs.length fc) (.slice pa P.comps.length pc) (.slice ea P.events.length ec) si) 55 0)] hh/\((P.comps[j].2.take k).all fun f=> !decide (0<=f)||JX P f)=true) (n:=4) ?_ fun kk lv hh hI=>?_
   · exact⟨0,rfl,rfl,by omega,S,rfl⟩
   obtain⟨k,rfl,rfl,hk,S,hfs⟩:=hI;refine Q3<|Q6<|I1 rfl<|Il rfl rfl<|Q0<|Q2 rfl (fun hb=>?_) fun hb=>?_
   · skip
     refine Q4<|Q3<|Q5<|Q3 ?_;have hk1:k <P.comps[j].2.length:=by simp at hb;omega
     have hw:=hD.fn hk1;refine I9<|I0 4 rfl<|I4 rfl (S.cel 0 rfl) rfl<|I1 rfl<|I1 rfl ?_;rw[hta];refine I5o 6 rfl rfl<|I0 2 rfl<|QW (n:=4) (e:=3) (zz:=1) gn rfl rfl rfl (by kernel_rfl) (by omega) (by omega)<|Y2 gn rfl rfl (by kernel_rfl) (S.old0 hg hlb) (by rw[Int.toNat_natCast,Int.toNat_natCast,Nat.mul_one];exact hw) ?_;rw[<-hta];refine Ih rfl rfl<|I1 rfl<|Ze (dc:=112) rfl (fun hb112=>?_) fun hb112=>?_
     · skip
       refine D3 8 hb112 rfl (S.cel 0 rfl) (Nat.le_refl _)<|D0 4 hb112 rfl<|D4 hb112 rfl (S.cel 0 rfl) rfl<|D1 hb112 rfl<|D1 hb112 rfl ?_;rw[hta];refine D5o 6 hb112 rfl rfl<|D0 2 hb112 rfl<|QW (n:=4) (e:=3) (zz:=1) (gy rfl rfl rfl hb112) rfl rfl rfl (by kernel_rfl) (by omega) (by omega)<|Y2 (gy rfl rfl rfl hb112) rfl rfl (by kernel_rfl) (S.old0 hg hlb) (by rw[Int.toNat_natCast,Int.toNat_natCast,Nat.mul_one];exact hw) ?_;rw[<-hta];refine Dc hb112 [_,_] rfl rfl (C.mono (c17 (X.ext S.e0)) ?_);rintro v g ⟨rfl,x⟩;have S:=S.grow x;refine⟨ag0,?_⟩;refine Db hb112 rfl<|IT rfl hb112 rfl ?_
       refine Q0<|Q2 rfl (fun hb=>?_) fun hb=>?_
       · skip
         refine Q6<|I2 rfl<|Q0<|Q7 ?_;refine⟨.inl rfl,_,rfl,?_⟩;exact⟨by rw[hR,Jd hj1 (by rw[Q7i,Jd hk1 (by rw[hb112];simpa using hb),Bool.false_and])];rfl,S.e0⟩
       refine Q4<|Q1 (by kernel_rfl)<|I1 rfl<|Iao rfl rfl<|I2 rfl<|Q0 ?_;exact Z6 (4 - (k+1)) (by omega) [(5,_)] (by repeat(first|exact trivial|refine⟨rfl,?_⟩)) ⟨k+1,rfl,rfl,by omega,S,by rw[Q0s hk1,hfs,Bool.true_and];simp at hb;rw[hb];simp⟩
     refine ZI (n:=11) (dc:=112) (w:=true) rfl hb112 rfl<|Iu rfl hb112 rfl<|Q0<|Q2 rfl (fun hb=>?_) fun hb=>?_
     · skip
       refine Q3 ?_;exact absurd hb (by decide)
     refine Q4<|Q1 (by kernel_rfl)<|I1 rfl<|Iao rfl rfl<|I2 rfl<|Q0 ?_
     exact Z6 (4 - (k+1)) (by omega) [(5,_)] (by repeat(first|exact trivial|refine⟨rfl,?_⟩)) ⟨k+1,rfl,rfl,by omega,S,by
      rw[Q0s hk1,hfs,Bool.true_and];have:decide (0<=(P.comps[j]).2[k])=false:=hb112
      rw[this];rfl⟩
   refine Ql<|Q9<|Qc<|Qm<|Q3 ?_;have hke:k=4:=by simp at hb;omega
   have hfs:(P.comps[j].2.all fun f=> !decide (0<=f)||JX P f)=true:=by
    rw[hke,<-h4,List.take_length]at hfs;exact hfs
   refine I9<|I0 4 rfl<|I4 rfl (S.cel 0 rfl) rfl<|I1 rfl ?_;rw[hta];refine I5o 6 rfl rfl<|I0 1 rfl<|Y2 gn rfl rfl (by kernel_rfl) (S.old0 hg hlb) (by rw[Int.toNat_natCast];exact hD.lp) ?_;rw[<-hta];refine I0 0 rfl<|I4 rfl (S.cel 0 rfl) rfl<|I7 rfl<|Ic [_,_] rfl rfl (Qr (c18) ⟨ag0,?_⟩);refine Ib rfl<|Q0<|Q2 rfl (fun hb=>?_) fun hb=>?_
   · skip
     refine Q6<|I2 rfl<|Q0<|Q7 ?_;refine⟨.inl rfl,_,rfl,?_⟩;exact⟨by rw[hR,Jd hj1 (by rw[Q7i,hfs,Bool.true_and];simpa using hb)];rfl,S.e0⟩
   refine Q4<|Q1 (by kernel_rfl)<|I1 rfl<|Iao rfl rfl<|I2 rfl<|Q0 ?_
   exact Z6 (P.comps.length - (j+1)) (by omega) [(4,_)] (by repeat(first|exact trivial|refine⟨rfl,?_⟩)) ⟨j+1,rfl,rfl,by omega,S,by
    rw[Q0s hj1,hall,Bool.true_and,Q7i,hfs,Bool.true_and];simpa using hb⟩
 refine Ql<|Q9<|Qc<|Qm<|Q3<|Q3 ?_;have hje:j=P.comps.length:=by simp at hb;omega
 rw[hje,List.take_length]at hall;rw[hall,Bool.true_and]at hR;clear hall;refine Q1 (by kernel_rfl)<|I2 rfl<|Q0<|Q5<|Qh [(6,_)] [(1,_)] (by repeat(first|exact trivial|refine⟨rfl,?_⟩)) (fun kk lv hh=> ∃j:Nat,lv=[(6,iV j)]/\kk=P.events.length -j/\j<=P.events.length/\SH h [] [cR b1 (.cells (Q9A P (.slice oa P.loopers oc) (.slice ca P.classes.length cc) (.slice ga P.globals gc) (.slice fa P.funs.length fc) (.slice pa P.comps.length pc) (.slice ea P.events.length ec) si) 55 0)] hh/\(P.events.take j).all (Q2v P)=true) (n:=(P.events.length)) ?_ fun kk lv hh hI=>?_
 · exact⟨0,rfl,rfl,by omega,S,rfl⟩
 obtain⟨j,rfl,rfl,hj,S,hall⟩:=hI;refine Q3<|Q6<|I1 rfl<|I0 5 rfl<|I4 rfl (S.cel 0 rfl) rfl<|I7 rfl<|Il rfl rfl<|Q0<|Q2 rfl (fun hb=>?_) fun hb=>?_
 · skip
   refine Q4<|Q3<|Q5<|Q3 ?_;have hj1:j <P.events.length:=by simp at hb;omega
   obtain⟨b,o,c,cs,e,m,hv,hg,hlb,hl6,hat⟩:=X.ev.at (by omega);have hta:ea=some ⟨b,o,none⟩:=by injection hv
   obtain⟨hw1,hw3⟩:=(hat j hj1).lp;refine I9<|I0 5 rfl<|I4 rfl (S.cel 0 rfl) rfl<|I1 rfl ?_;rw[hta];refine I5o 4 rfl rfl<|I0 1 rfl<|Y2 gn rfl rfl (by kernel_rfl) (S.old0 hg hlb) (by rw[Int.toNat_natCast];exact hw1) ?_;rw[<-hta];refine I0 0 rfl<|I4 rfl (S.cel 0 rfl) rfl<|I7 rfl<|Ic [_,_] rfl rfl (Qr (c18) ⟨ag0,?_⟩);refine Ib rfl<|I1 rfl<|Ze (dc:=154) rfl (fun hb154=>?_) fun hb154=>?_
   · skip
     refine ZI (n:=9) (dc:=154) (w:=false) rfl hb154 rfl<|IT rfl hb154 rfl<|Q0<|Q2 rfl (fun hb=>?_) fun hb=>?_
     · skip
       refine Q6<|I2 rfl<|Q0<|Q7 ?_;refine⟨.inl rfl,_,rfl,?_⟩;exact⟨by rw[hR,Jd hj1 (by rw[Q2v];have:(!inB (P.events[j]).1 P.loopers)=true:=hb154;rw[Bool.not_eq_true']at this;rw[this];rfl)];rfl,S.e0⟩
     refine Q4 ?_;exact absurd hb (by decide)
   refine D3 8 hb154 rfl (S.cel 0 rfl) (Nat.le_refl _)<|D0 5 hb154 rfl<|D4 hb154 rfl (S.cel 0 rfl) rfl<|D1 hb154 rfl ?_;rw[hta];refine D5o 4 hb154 rfl rfl<|D0 3 hb154 rfl<|Y2 (gy rfl rfl rfl hb154) rfl rfl (by kernel_rfl) (S.old0 hg hlb) (by rw[Int.toNat_natCast];exact hw3) ?_;rw[<-hta];refine Dc hb154 [_,_] rfl rfl (C.mono (c17 (X.ext S.e0)) ?_);rintro v g ⟨rfl,x⟩;have S:=S.grow x;refine⟨ag0,?_⟩;refine Db hb154 rfl<|Iu rfl hb154 rfl<|Q0<|Q2 rfl (fun hb=>?_) fun hb=>?_
   · skip
     refine Q6<|I2 rfl<|Q0<|Q7 ?_;refine⟨.inl rfl,_,rfl,?_⟩;exact⟨by rw[hR,Jd hj1 (by rw[Q2v];simp only[Bool.not_eq_true']at hb;rw[hb,Bool.and_false])];rfl,S.e0⟩
   refine Q4<|Q1 (by kernel_rfl)<|I1 rfl<|Iao rfl rfl<|I2 rfl<|Q0 ?_
   exact Z6 (P.events.length - (j+1)) (by omega) [(6,_)] (by repeat(first|exact trivial|refine⟨rfl,?_⟩)) ⟨j+1,rfl,rfl,by omega,S,by
    have h1:(!inB (P.events[j]).1 P.loopers)=false:=hb154;rw[Bool.not_eq_false']at h1
    rw[Q0s hj1,hall,Bool.true_and,Q2v,h1,Bool.true_and];simpa using hb⟩
 refine Ql<|Q9<|Qc<|Qm<|Q3 ?_;have hje:j=P.events.length:=by simp at hb;omega
 rw[hje,List.take_length]at hall;refine Q1 (by kernel_rfl)<|I2 rfl<|Q0<|Q7 ?_;refine⟨.inl rfl,_,rfl,?_⟩;exact⟨by rw[hR,hall];rfl,S.e0⟩
end
end Go.Proofs.Yteinandjhpnceaa
namespace Go.Proofs.Yteinandjhpnceaa
open Go.X Go.May
noncomputable def fs46:Array Field:=match modE.und 97 with|some (.struct fs)=>fs|_=> #[]
theorem und46:modE.und 97=some (.struct fs46):=by kernel_rfl
theorem len46:fs46.toList.length=2:=by kernel_rfl
theorem row46:fs46.toList=[fs46.toList[0]'(by rw[len46];omega),fs46.toList[1]'(by rw[len46];omega)]:=by kernel_rfl
theorem eq46 {h:Hp} (a b c d:Int):Zo modE h #[iV a,iV b] #[iV c,iV d] fs46.toList=some (decide (a=c)&&(decide (b=d)&&true)):=by
 rw[row46];exact Zf (u:=iV a) (w:=iV c) (by kernel_rfl) (by kernel_rfl) (by kernel_rfl) (by kernel_rfl) (Zf (u:=iV b) (w:=iV d) (by kernel_rfl) (by kernel_rfl) (by kernel_rfl) (by kernel_rfl) rfl)
theorem neq46 {h:Hp} {x x':Operand} (a b c d:Int):Q2K modE h .neq 97 x x' (.agg #[iV a,iV b]) (.agg #[iV c,iV d])=some (.bool (!decide ((a,b)=(c,d)))):=by
 have e:decide ((a,b)=(c,d))=(decide (a=c)&&(decide (b=d)&&true)):=by
  rw[Bool.eq_iff_iff];simp
 rw[e];exact Q8D und46 (by kernel_rfl) (eq46 a b c d)
section
variable {F:Fun}
theorem QfW (h:(((((decide (F.regs <0)||decide (256 <F.regs))||decide (F.caps <0))||decide (F.regs <F.caps))||decide ((F.code.length:Int)<1))||decide ((512:Int)<F.code.length))=true):Q2o F=false:=by
 simp only[Bool.or_eq_true,decide_eq_true_eq]at h;rw[<-Bool.not_eq_true];intro h';simp only[Q2o,inB,Bool.and_eq_true,decide_eq_true_eq]at h';omega
theorem QdI (h:(((((decide (F.regs <0)||decide (256 <F.regs))||decide (F.caps <0))||decide (F.regs <F.caps))||decide ((F.code.length:Int)<1))||decide ((512:Int)<F.code.length))=false):Q2o F=true:=by
 simp only[Bool.or_eq_false_iff,decide_eq_false_iff_not]at h;simp only[Q2o,inB,Bool.and_eq_true,decide_eq_true_eq];omega
theorem QfM (h:(!decide (KS F.code=33)&& !decide (KS F.code=31))=true):Q4b F=false:=by
 rw[Q4b];simp only[Bool.and_eq_true,Bool.not_eq_true']at h;rw[h.1,h.2];rfl
theorem QdD (h:(!decide (KS F.code=33)&& !decide (KS F.code=31))=false):Q4b F=true:=by
 rw[Q4b]
 revert h
 cases decide (KS F.code=33)<;>cases decide (KS F.code=31)<;>simp
theorem QeX {l:List (Int×Int)} {z:Int} {n:Nat} {st:Int×Int} (h:((!decide (z=n)||decide ((l.length:Int)<=n))|| !decide (l[n]?=some st))=true):(¬z=n)\/l[n]?≠some st:=by
 simp only[Bool.or_eq_true,Bool.not_eq_true',decide_eq_false_iff_not,decide_eq_true_eq]at h;rcases h with(h|h)|h
 · exact .inl h
 · refine .inr ?_;rw[List.getElem?_eq_none (by omega)];intro e;cases e
 exact .inr h
theorem QeW {l:List (Int×Int)} {z:Int} {n:Nat} {st:Int×Int} (h:((!decide (z=n)||decide ((l.length:Int)<=n))|| !decide (l[n]?=some st))=false):z=n/\l[n]?=some st/\n <l.length:=by
 simp only[Bool.or_eq_false_iff,Bool.not_eq_false',decide_eq_false_iff_not,decide_eq_true_eq]at h;exact⟨h.1.1,h.2,by omega⟩
theorem neq46o {h:Hp} {x x':Operand} {a b c d:Int} {o:Option (Int×Int)} (ho:o=some (a,b)):Q2K modE h .neq 97 x x' (.agg #[iV a,iV b]) (.agg #[iV c,iV d])=some (.bool (!decide (o=some (c,d)))):=by
 subst ho;rw[neq46];simp only[Option.some.injEq]
end
section
variable {h:Hp} {P:Prg} {lo cl gl fu co ev si:Value}
set_option maxHeartbeats 2000000 in
theorem c5 (X:PrgAt h P lo cl gl fu co ev si):C modE 10 [QcD P lo cl gl fu co ev si] h fun v h'=>v=.bool (ZJ P)/\Ext h h':=by
 obtain⟨⟨oa,oc,rfl⟩,⟨ca,cc,rfl⟩,⟨ga,gc,rfl⟩,⟨fa,fc,rfl⟩,⟨pa,pc,rfl⟩,⟨ea,ec,rfl⟩,⟨sa,sc,rfl⟩⟩:=X.vals;have hzs:=X.zsi;have hzf:=X.zfu;refine Q8 (fu:=Try.f10) (by kernel_rfl) rfl ?_;have S:=SH.start h;refine Q6 ?_;refine QX S gn rfl rfl fun b1 g nb1 S=>?_;refine I2 rfl<|Z7<|I3 8 rfl (S.cel 0 rfl) (Nat.le_refl _)<|Ic [_] rfl rfl (C.mono (c8 (X.ext S.e0)) ?_);rintro v g ⟨rfl,x⟩;have S:=S.grow x;refine⟨ag0,?_⟩;refine Ib rfl<|Q0<|Q2 rfl (fun hb=>?_) fun hb=>?_
 · skip
   refine Q6<|I2 rfl<|Q0<|Q7 ?_;refine⟨.inl rfl,_,rfl,?_⟩;exact⟨by rw[QaZ (by simpa using hb)];rfl,S.e0⟩
 refine Q4<|Q3 ?_;have hparts:YU P=true:=by simpa using hb
 refine Q1 (by kernel_rfl)<|I2 rfl<|Z7<|I2 rfl<|Q0<|Q5 ?_
 refine Qh [(3,_),(4,_)] [(1,_)] (by repeat(first|exact trivial|refine⟨rfl,?_⟩)) (fun kk lv hh=> ∃i:Nat,lv=[(3,iV (cntF (P.funs.take i):Nat)),(4,iV i)]/\kk=P.funs.length -i/\i<=P.funs.length/\SH h [] [cR b1 (.cells (Q9A P (.slice oa P.loopers oc) (.slice ca P.classes.length cc) (.slice ga P.globals gc) (.slice fa P.funs.length fc) (.slice pa P.comps.length pc) (.slice ea P.events.length ec) (.slice sa P.sites.length sc)) 55 0)] hh/\Q7n P 0 (P.funs.take i)=true/\Zu 0 (P.funs.take i)=P.sites.take (cntF (P.funs.take i))/\cntF (P.funs.take i)<=P.sites.length) (n:=(P.funs.length)) ?_ fun kk lv hh hI=>?_
 · exact⟨0,rfl,rfl,by omega,S,rfl,rfl,Nat.zero_le _⟩
 obtain⟨i,rfl,rfl,hi,S,hall,hsit,hcn⟩:=hI;refine Q3<|Q6<|I1 rfl<|I0 3 rfl<|I4 rfl (S.cel 0 rfl) rfl<|I7 rfl<|Il rfl rfl<|Q0<|Q2 rfl (fun hb=>?_) fun hb=>?_
 · skip
   refine Q4<|Q3<|Q5<|Q3 ?_;have hi1:i <P.funs.length:=by simp at hb;omega
   obtain⟨b,o,c,cs,e,m,hv,hg,hlb,hl6,hat⟩:=X.fu.at (by omega);have hta:fa=some ⟨b,o,none⟩:=by injection hv
   obtain⟨⟨s,cv,hw,hcode⟩,hcap,hreg,hclen⟩:=hat i hi1;obtain⟨va,vc,rfl⟩:=hcode.val;have hw:(cs.drop (o+Int.toNat (i:Int)*4)).take 4=Qgs s P.funs[i] (.slice va (P.funs[i]).code.length vc):=by rw[Int.toNat_natCast];exact hw
   refine Q1 (by kernel_rfl)<|I0 3 rfl<|I4 rfl (S.cel 0 rfl) rfl<|I1 rfl ?_;rw[hta];refine I5o 4 rfl rfl<|Z4 (n:=4) gn rfl rfl (by kernel_rfl) (by kernel_rfl) (S.old0 hg hlb) (by rw[Int.toNat_natCast];omega) ?_;rw[hw,<-hta];refine Qo (zv:=.agg #[.string .empty,.int .i64 0,.int .i64 0,.slice none 0 0]) S gn rfl (by kernel_rfl) fun b2 g nb2 S=>?_;refine Qe (n:=4) 0 S gn rfl rfl (by kernel_rfl) (by kernel_rfl) rfl rfl (by decide) rfl (fun g S=>ag0) fun g S=>?_;refine Z7<|I0 2 rfl<|I4 rfl (S.cel 0 rfl) rfl<|Il rfl rfl<|I1 rfl ?_
   refine QT (n:=3) rfl rfl rfl gn rfl (fun hb=>by
    refine D0 2 hb rfl<|D4 hb rfl (S.cel 0 rfl) rfl<|Dg hb rfl rfl ?_
    exact Q0 ⟨rfl,rfl,3,rfl,rfl⟩) ?_
   refine I1 rfl ?_
   refine QT (n:=3) rfl rfl rfl gn rfl (fun hb=>by
    refine D0 1 hb rfl<|D4 hb rfl (S.cel 0 rfl) rfl<|Dl hb rfl rfl ?_
    exact Q0 ⟨rfl,rfl,3,rfl,rfl⟩) ?_
   refine I1 rfl ?_
   refine QT (n:=5) rfl rfl rfl gn rfl (fun hb=>by
    refine D0 1 hb rfl<|D4 hb rfl (S.cel 0 rfl) rfl<|D0 2 hb rfl<|D4 hb rfl (S.cel 0 rfl) rfl<|Dg hb rfl rfl ?_
    exact Q0 ⟨rfl,rfl,5,rfl,rfl⟩) ?_
   refine I1 rfl ?_
   refine QT (n:=4) rfl rfl rfl gn rfl (fun hb=>by
    refine D0 3 hb rfl<|D4 hb rfl (S.cel 0 rfl) rfl<|D7 hb rfl<|Dl hb rfl rfl ?_
    exact Q0 ⟨rfl,rfl,4,rfl,rfl⟩) ?_
   refine I1 rfl ?_
   refine QT (n:=4) rfl rfl rfl gn rfl (fun hb=>by
    refine D0 3 hb rfl<|D4 hb rfl (S.cel 0 rfl) rfl<|D7 hb rfl<|Dg hb rfl rfl ?_
    exact Q0 ⟨rfl,rfl,4,rfl,rfl⟩) ?_
   refine Q0<|Q2 rfl (fun hb=>?_) fun hb=>?_
   · skip
     refine Q6<|I2 rfl<|Q0<|Q7 ?_;refine⟨.inl rfl,_,rfl,?_⟩;exact⟨by rw[Q8b hi1 (QfW hb)];rfl,S.e0⟩
   refine Q4<|Q3<|Q3 ?_;have hhead:=QdI hb;have hpos:=QdJ hhead;refine Q1 (by kernel_rfl)<|I2 rfl<|Q0<|Q5 ?_
   refine Qh [(3,_),(6,_)] [(1,_),(4,_),(5,_)] (by repeat(first|exact trivial|refine⟨rfl,?_⟩)) (fun kk lv hh=> ∃k:Nat,lv=[(3,iV (cntF (P.funs.take i)+cnt ((P.funs[i]).code.take k):Nat)),(6,iV k)]/\kk=(P.funs[i]).code.length -k/\k<=(P.funs[i]).code.length/\SH h [] [cR b2 (.cells (Qgs s P.funs[i] (.slice va (P.funs[i]).code.length vc)) 90 0),cR b1 (.cells (Q9A P (.slice oa P.loopers oc) (.slice ca P.classes.length cc) (.slice ga P.globals gc) (.slice fa P.funs.length fc) (.slice pa P.comps.length pc) (.slice ea P.events.length ec) (.slice sa P.sites.length sc)) 55 0)] hh/\Q0o P P.funs[i] (cntF (P.funs.take i)) ((P.funs[i]).code.take k)=true/\Zu 0 (P.funs.take i)++Zi i 0 ((P.funs[i]).code.take k)=P.sites.take (cntF (P.funs.take i)+cnt ((P.funs[i]).code.take k))/\cntF (P.funs.take i)+cnt ((P.funs[i]).code.take k)<=P.sites.length) (n:=((P.funs[i]).code.length)) ?_ fun kk lv hh hI=>?_
   · exact⟨0,rfl,rfl,by omega,S,rfl,by rw[List.take_zero];simpa[Zi,cnt]using hsit,by simpa[cnt]using hcn⟩
   obtain⟨k,rfl,rfl,hk,S,hcode2,hsit2,hcn2⟩:=hI;refine Q3<|Q6<|I1 rfl<|I0 3 rfl<|I4 rfl (S.cel 0 rfl) rfl<|I7 rfl<|Il rfl rfl<|Q0<|Q2 rfl (fun hb=>?_) fun hb=>?_
   · skip
     refine Q4<|Q3<|Q5<|Q3 ?_;have hk1:k <(P.funs[i]).code.length:=by simp at hb;omega
     obtain⟨b',o',c',cs',e',m',hv',hg',hlb',hl8',hat'⟩:=hcode.at (by omega);have htb:va=some ⟨b',o',none⟩:=by injection hv'
     obtain⟨⟨lv,ln,hw2,hrow⟩,hr1,hr2,hr3,hr4,hr5,hr6,hr7,hr8⟩:=hat' k hk1;obtain⟨la,lc,rfl⟩:=hrow.valM;have hw2:(cs'.drop (o'+Int.toNat (k:Int)*8)).take 8=insC (P.funs[i]).code[k] (.slice la ((P.funs[i]).code[k]).l.length lc) ln:=by rw[Int.toNat_natCast];exact hw2
     refine Q1 (by kernel_rfl)<|I0 3 rfl<|I4 rfl (S.cel 0 rfl) rfl<|I1 rfl ?_;rw[htb];refine I5o 8 rfl rfl<|Z4 (n:=8) gn rfl rfl (by kernel_rfl) (by kernel_rfl) (S.old0 hg' hlb') (by rw[Int.toNat_natCast];omega) ?_;rw[hw2,<-htb];refine Qo (zv:=.agg #[.int .i64 0,.int .i64 0,.int .i64 0,.int .i64 0,.int .i64 0,.slice none 0 0,.int .i64 0,.int .i64 0]) S gn rfl (by kernel_rfl) fun b3 g nb3 S=>?_;refine Qe (n:=8) 0 S gn rfl rfl (by kernel_rfl) (by kernel_rfl) rfl rfl (by decide) rfl (fun g S=>ag0) fun g S=>?_;refine Z7<|I3 8 rfl (S.cel 2 rfl) (Nat.le_refl _)<|I3 4 rfl (S.cel 1 rfl) (Nat.le_refl _) ?_
     refine I3 8 rfl (S.cel 0 rfl) (Nat.le_refl _)<|Ic [_,_,_] rfl rfl (C.mono (c9 (X.ext S.e0) (hrow.ext S.e0) hr6 ⟨_,_,rfl⟩) ?_);rintro v g ⟨rfl,x⟩;have S:=S.grow x;refine⟨ag0,?_⟩;refine Ib rfl<|Q0<|Q2 rfl (fun hb=>?_) fun hb=>?_
     · skip
       refine Q6<|I2 rfl<|Q0<|Q7 ?_;refine⟨.inl rfl,_,rfl,?_⟩;exact⟨by rw[Q47 hi1 hk1 (by rw[okI];simp only[Bool.not_eq_true']at hb;rw[hb,Bool.false_and])];rfl,S.e0⟩
     refine Q4<|Q3<|Q3 ?_;have hins:Z2 P P.funs[i] (P.funs[i]).code[k]=true:=by simpa using hb
     refine Q1 (by kernel_rfl)<|I0 0 rfl<|I4 rfl (S.cel 0 rfl) rfl<|Ic [_] rfl rfl (Qr (c10) ⟨ag0,?_⟩);refine Ib rfl<|Q0<|Q2 rfl (fun hb=>?_) fun hb=>?_
     · skip
       refine Q3<|Q3 ?_;have hns:Q1g ((P.funs[i]).code[k]).op=false:=by simpa using hb
       refine Q1 (by kernel_rfl)<|I0 6 rfl<|I4 rfl (S.cel 0 rfl) rfl<|In rfl rfl<|Q0<|Q2 rfl (fun hb=>?_) fun hb=>?_
       · skip
         refine Q6<|I2 rfl<|Q0<|Q7 ?_;refine⟨.inl rfl,_,rfl,?_⟩;exact⟨by rw[Q47 hi1 hk1 (by rw[okI,hns,if_neg (by simp),Bool.and_eq_false_iff];right;simpa using hb)];rfl,S.e0⟩
       refine Q4<|Ql<|Q9<|Qm ?_;have hcs:cnt ((P.funs[i]).code.take (k+1))=cnt ((P.funs[i]).code.take k):=by rw[Q8x hk1,hns,if_neg (by simp),Nat.add_zero]
       have hss:Zi i 0 ((P.funs[i]).code.take (k+1))=Zi i 0 ((P.funs[i]).code.take k):=by rw[Q1S hk1,hns,if_neg (by simp),List.append_nil]
       refine Q1 (by kernel_rfl)<|I1 rfl<|Iao rfl rfl<|I2 rfl<|Q0 ?_
       exact Z6 ((P.funs[i]).code.length - (k+1)) (by omega) [(3,_),(6,_)] (by repeat(first|exact trivial|refine⟨rfl,?_⟩)) ⟨k+1,by rw[hcs];rfl,rfl,by omega,S.drop,by
        rw[Q0Z hk1,hcode2,Bool.true_and,okI,hins,Bool.true_and,hns,if_neg (by simp)];simpa using hb,by rw[hss,hcs];exact hsit2,by rw[hcs];exact hcn2⟩
     refine Q4<|Q3<|Q3 ?_;have hns:Q1g ((P.funs[i]).code[k]).op=true:=by simpa using hb
     refine Q1 (by kernel_rfl)<|I0 6 rfl<|I4 rfl (S.cel 0 rfl) rfl<|I1 rfl<|In rfl rfl<|I1 rfl ?_
     refine QT (n:=5) rfl rfl rfl gn rfl (fun hb=>by
      refine D1 hb rfl<|D0 7 hb rfl<|D4 hb rfl (S.cel 2 rfl) rfl<|D7 hb rfl<|Dh hb rfl rfl ?_
      exact Q0 ⟨rfl,rfl,5,rfl,rfl⟩) ?_
     refine I1 rfl ?_
     refine QT (B:= !decide (P.sites[cntF (P.funs.take i)+cnt ((P.funs[i]).code.take k)]?=some ((i:Int),(k:Int)))) (n:=9) rfl rfl rfl gn rfl (fun hb=>by
      refine D0 7 hb rfl<|D4 hb rfl (S.cel 2 rfl) rfl<|D1 hb rfl ?_
      have hn:cntF (P.funs.take i)+cnt ((P.funs[i]).code.take k)<P.sites.length:=by
       simp only[Bool.or_eq_false_iff,decide_eq_false_iff_not]at hb;omega
      obtain⟨b3,o3,c3,cs3,e3,m3,hv3,hg3,hlb3,hl3,hat3⟩:=X.si.at (by omega);have htc:sa=some ⟨b3,o3,none⟩:=by injection hv3
      have hw3:(cs3.drop (o3+Int.toNat ((cntF (P.funs.take i)+cnt ((P.funs[i]).code.take k):Nat):Int)*2)).take 2=[iV (P.sites[cntF (P.funs.take i)+cnt ((P.funs[i]).code.take k)]).1,iV (P.sites[cntF (P.funs.take i)+cnt ((P.funs[i]).code.take k)]).2]:=by rw[Int.toNat_natCast];exact(hat3 _ hn).row
      rw[htc];refine D5o 2 hb rfl rfl<|Z4 (n:=2) (gy rfl rfl rfl hb) rfl rfl (by kernel_rfl) (by kernel_rfl) (S.old0 hg3 hlb3) (by rw[Int.toNat_natCast];omega) ?_;rw[hw3,<-htc];refine D1 hb rfl<|D1 hb rfl<|Qz (zv:=.agg #[.int .i64 0,.int .i64 0]) (pl:=[(0,1),(1,1)]) [(0,_),(1,_)] (gy rfl rfl rfl hb) rfl (by kernel_rfl) (by kernel_rfl) rfl (by rfl)<|Qfr (gy rfl rfl rfl hb) rfl rfl rfl (neq46o (List.getElem?_eq_getElem hn)) ?_
      exact Q0 ⟨rfl,rfl,9,rfl,rfl⟩) ?_
     refine Q0<|Q2 rfl (fun hb=>?_) fun hb=>?_
     · skip
       refine Q6<|I2 rfl<|Q0<|Q7 ?_;refine⟨.inl rfl,_,rfl,?_⟩
       exact⟨by
        rcases QeX hb with h1|h1
        · rw[Q47 hi1 hk1 (by rw[okI,if_pos hns,decide_eq_false h1,Bool.and_false])];rfl
        rw[Qdw hi1 hk1 hns h1];rfl,S.e0⟩
     refine Q4 ?_;obtain⟨hz1,hz2,hz3⟩:=QeW hb;refine Q1 (by kernel_rfl)<|I1 rfl<|Iao rfl rfl<|I2 rfl<|Q0 ?_;have hcs:cnt ((P.funs[i]).code.take (k+1))=cnt ((P.funs[i]).code.take k)+1:=by rw[Q8x hk1,if_pos hns]
     have hss:Zi i 0 ((P.funs[i]).code.take (k+1))=Zi i 0 ((P.funs[i]).code.take k)++[((i:Int),(k:Int))]:=by rw[Q1S hk1,if_pos hns]
     refine Q1 (by kernel_rfl)<|I1 rfl<|Iao rfl rfl<|I2 rfl<|Q0 ?_
     exact Z6 ((P.funs[i]).code.length - (k+1)) (by omega) [(3,_),(6,_)] (by repeat(first|exact trivial|refine⟨rfl,?_⟩)) ⟨k+1,by rw[hcs,<-Nat.add_assoc];rfl,rfl,by omega,S.drop,by
      rw[Q0Z hk1,hcode2,Bool.true_and,okI,hins,Bool.true_and,if_pos hns,decide_eq_true hz1],by
      rw[hss,<-List.append_assoc,hsit2,hcs,<-Nat.add_assoc,List.take_add_one,hz2];rfl,by rw[hcs];omega⟩
   refine Ql<|Q9<|Qc<|Qm<|Q3 ?_;have hke:k=(P.funs[i]).code.length:=by simp at hb;omega
   rw[hke,List.take_length]at hcode2 hsit2 hcn2;obtain⟨b',o',c',cs',e',m',hv',hg',hlb',hl8',hat'⟩:=hcode.at (by omega);have htb:va=some ⟨b',o',none⟩:=by injection hv'
   obtain⟨⟨lv,ln,hw2,hrow⟩,-⟩:=hat' ((P.funs[i]).code.length -1) (by omega);have hlo:=last_at (F:=P.funs[i]) (by omega)
   have hw2:cs'[o'+Int.toNat (((P.funs[i]).code.length:Int) -1)*8+0]?=some (iV (KS (P.funs[i]).code)):=by
    rw[hlo,show Int.toNat (((P.funs[i]).code.length:Int) -1)=(P.funs[i]).code.length -1 by omega];exact Jr hw2 (by omega) rfl
   refine Q1 (by kernel_rfl)<|I0 3 rfl<|I4 rfl (S.cel 0 rfl) rfl<|I0 3 rfl<|I4 rfl (S.cel 0 rfl) rfl<|I7 rfl<|Iso rfl rfl ?_;rw[htb];refine I5o 8 rfl rfl<|I0 0 rfl<|I4 rfl (S.old0 hg' hlb') hw2 ?_;rw[<-htb];refine I2 rfl<|QL<|I1 rfl<|In rfl rfl<|I1 rfl ?_
   refine Qp (n:=2) rfl rfl rfl gn rfl (fun hb=>by
    refine D1 hb rfl<|Dn hb rfl rfl ?_
    exact Q0 ⟨rfl,rfl,2,rfl,rfl⟩) ?_
   refine Q0<|Q2 rfl (fun hb=>?_) fun hb=>?_
   · skip
     refine Q6<|I2 rfl<|Q0<|Q7 ?_;refine⟨.inl rfl,_,rfl,?_⟩;exact⟨by rw[Q8a hi1 (QfM hb)];rfl,S.e0⟩
   refine Q4 ?_;have hlast:=QdD hb;refine Q1 (by kernel_rfl)<|I1 rfl<|Iao rfl rfl<|I2 rfl<|Q0 ?_
   exact Z6 (P.funs.length - (i+1)) (by omega) [(3,_),(4,_)] (by repeat(first|exact trivial|refine⟨rfl,?_⟩)) ⟨i+1,by rw[Q2F hi1,hke,List.take_length];rfl,rfl,by omega,S.drop,by
    rw[Q6e hi1,hall,Bool.true_and,QeG,hhead,Bool.true_and,Nat.zero_add,hcode2,hlast];rfl,by
    rw[Q6y hi1,Q2F hi1];exact hsit2,by rw[Q2F hi1];exact hcn2⟩
 refine Ql<|Q9<|Qc<|Qm<|Q3 ?_;have hie:i=P.funs.length:=by simp at hb;omega
 rw[hie,List.take_length]at hall hsit hcn;refine Q1 (by kernel_rfl)<|I1 rfl<|I0 7 rfl<|I4 rfl (S.cel 0 rfl) rfl<|I7 rfl<|Ie rfl rfl<|I1 rfl ?_
 refine Qp (n:=2) rfl rfl rfl gn rfl (fun hb=>by
  refine D1 hb rfl<|Dm hb rfl rfl ?_
  exact Q0 ⟨rfl,rfl,2,rfl,rfl⟩) ?_
 refine I2 rfl<|Q0<|Q7 ?_;refine⟨.inl rfl,_,rfl,?_⟩
 exact⟨by
  rw[hie,List.take_length,QfG hparts hall,hsit];show Value.bool _=Value.bool _
  congr 1
  rw[Bool.eq_iff_iff];simp only[Bool.and_eq_true,decide_eq_true_eq];constructor
  · rintro⟨h1,h2⟩;have h1:cntF P.funs=P.sites.length:=by omega
    exact⟨by rw[h1,List.take_length],by omega⟩
  rintro⟨h1,h2⟩;have:=congrArg List.length h1;rw[List.length_take]at this
  omega,S.e0⟩
end
end Go.Proofs.Yteinandjhpnceaa
namespace Go.Proofs.Yteinandjhpnceaa
open Go.X Go.May
section
variable {h:Hp} {P:Prg} {lo cl gl fu co ev si:Value}
theorem c4 (X:PrgAt h P lo cl gl fu co ev si):C modE 9 [QcD P lo cl gl fu co ev si] h fun v h'=>(∃b,v=.bool b)/\Ext h h':=by
 obtain⟨⟨oa,oc,rfl⟩,⟨ca,cc,rfl⟩,⟨ga,gc,rfl⟩,⟨fa,fc,rfl⟩,⟨pa,pc,rfl⟩,⟨ea,ec,rfl⟩,⟨sa,sc,rfl⟩⟩:=X.vals;refine Q8 (fu:=Try.f9) (by kernel_rfl) rfl ?_;have S:=SH.start h;refine Q6 ?_;refine QX S gn rfl rfl fun b1 g nb1 S=>?_;refine I2 rfl<|QL<|I0 0 rfl<|I4 rfl (S.cel 0 rfl) rfl<|I7 rfl<|I0 1 rfl<|I4 rfl (S.cel 0 rfl) rfl<|I7 rfl<|Q05 gn rfl rfl rfl<|I0 2 rfl<|I4 rfl (S.cel 0 rfl) rfl<|I7 rfl<|Q05 gn rfl rfl rfl<|I0 4 rfl<|I4 rfl (S.cel 0 rfl) rfl<|I7 rfl ?_;refine Q05 gn rfl rfl rfl<|I0 5 rfl ?_
 refine I4 rfl (S.cel 0 rfl) rfl<|I7 rfl<|Q05 gn rfl rfl rfl<|I0 3 rfl<|I4 rfl (S.cel 0 rfl) rfl<|I7 rfl<|Q05 gn rfl rfl rfl<|I0 7 rfl<|I4 rfl (S.cel 0 rfl) rfl<|I7 rfl<|Q05 gn rfl rfl rfl<|I2 rfl<|Z7<|I2 rfl<|Q0<|Q5 ?_
 refine Qh [(3,_),(4,_)] [(1,_)] (by repeat(first|exact trivial|refine⟨rfl,?_⟩)) (fun kk lv hh=> ∃(i:Nat) (z:Int),lv=[(3,iV z),(4,iV i)]/\kk=P.funs.length -i/\i<=P.funs.length/\i<=200/\SH h [] [cR b1 (.cells (Q9A P (.slice oa P.loopers oc) (.slice ca P.classes.length cc) (.slice ga P.globals gc) (.slice fa P.funs.length fc) (.slice pa P.comps.length pc) (.slice ea P.events.length ec) (.slice sa P.sites.length sc)) 55 0)] hh) (n:=(P.funs.length)) ?_ fun kk lv hh hI=>?_
 · exact⟨0,_,rfl,rfl,by omega,by omega,S⟩
 obtain⟨i,z,rfl,rfl,hi,hi2,S⟩:=hI;refine Q3<|Q6<|I1 rfl<|I0 3 rfl<|I4 rfl (S.cel 0 rfl) rfl<|I7 rfl<|Il rfl rfl<|I1 rfl ?_
 refine Qp (n:=2) rfl rfl rfl gn rfl (fun hb=>by
  refine D1 hb rfl<|Dl hb rfl rfl ?_
  exact Q0 ⟨rfl,rfl,2,rfl,rfl⟩) ?_
 refine Q0<|Q2 rfl (fun hb=>?_) fun hb=>?_
 · skip
   refine Q4<|Q3<|Q5<|Q3 ?_;obtain⟨hi1,hi3⟩:i <P.funs.length/\i <200:=by simp at hb;omega
   obtain⟨b,o,c,cs,e,m,hv,hg,hlb,hl6,hat⟩:=X.fu.at (by omega);have hta:fa=some ⟨b,o,none⟩:=by injection hv
   obtain⟨⟨s,cv,hw,hcode⟩,hcap,hreg,hclen⟩:=hat i hi1;obtain⟨va,vc,rfl⟩:=hcode.val;have hw:cs[o+Int.toNat (i:Int)*4+3]?=some (.slice va (P.funs[i]).code.length vc):=by rw[Int.toNat_natCast];exact Jr hw (by omega) rfl
   refine Q1 (by kernel_rfl)<|I1 rfl<|I0 3 rfl<|I4 rfl (S.cel 0 rfl) rfl<|I1 rfl ?_;rw[hta];refine I5o 4 rfl rfl<|I0 3 rfl<|I4 rfl (S.old0 hg hlb) hw ?_;rw[<-hta];refine I7 rfl<|Q05 gn rfl rfl rfl<|I2 rfl<|QL<|I2 rfl<|Q0<|Q5 ?_
   refine Qh [(3,_),(5,_)] [(1,_),(4,_)] (by repeat(first|exact trivial|refine⟨rfl,?_⟩)) (fun kk lv hh=> ∃(k:Nat) (z:Int),lv=[(3,iV z),(5,iV k)]/\kk=(P.funs[i]).code.length -k/\k<=(P.funs[i]).code.length/\k<=3000/\SH h [] [cR b1 (.cells (Q9A P (.slice oa P.loopers oc) (.slice ca P.classes.length cc) (.slice ga P.globals gc) (.slice fa P.funs.length fc) (.slice pa P.comps.length pc) (.slice ea P.events.length ec) (.slice sa P.sites.length sc)) 55 0)] hh) (n:=((P.funs[i]).code.length)) ?_ fun kk lv hh hI=>?_
   · exact⟨0,_,rfl,rfl,by omega,by omega,S⟩
   obtain⟨k,z,rfl,rfl,hk,hk2,S⟩:=hI;refine Q3<|Q6<|I1 rfl<|I0 3 rfl<|I4 rfl (S.cel 0 rfl) rfl<|I1 rfl ?_;rw[hta];refine I5o 4 rfl rfl<|I0 3 rfl<|I4 rfl (S.old0 hg hlb) hw ?_;rw[<-hta];refine I7 rfl<|Il rfl rfl<|I1 rfl ?_
   refine Qp (n:=2) rfl rfl rfl gn rfl (fun hb=>by
    refine D1 hb rfl<|Dl hb rfl rfl ?_
    exact Q0 ⟨rfl,rfl,2,rfl,rfl⟩) ?_
   refine Q0<|Q2 rfl (fun hb=>?_) fun hb=>?_
   · skip
     refine Q4<|Q3<|Q5 ?_;obtain⟨hk1,hk3⟩:k <(P.funs[i]).code.length/\k <3000:=by simp at hb;omega
     obtain⟨b',o',c',cs',e',m',hv',hg',hlb',hl8',hat'⟩:=hcode.at (by omega);have htb:va=some ⟨b',o',none⟩:=by injection hv'
     obtain⟨⟨lv,ln,hw2,hrow⟩,-⟩:=hat' k hk1;obtain⟨la,lc,rfl⟩:=hrow.valM;have hw2:cs'[o'+Int.toNat (k:Int)*8+5]?=some (.slice la ((P.funs[i]).code[k]).l.length lc):=by rw[Int.toNat_natCast];exact Jr hw2 (by omega) rfl
     refine Q1 (by kernel_rfl)<|I1 rfl<|I0 3 rfl<|I4 rfl (S.cel 0 rfl) rfl<|I1 rfl ?_;rw[hta];refine I5o 4 rfl rfl<|I0 3 rfl<|I4 rfl (S.old0 hg hlb) hw ?_;rw[<-hta];refine I1 rfl ?_;rw[htb];refine I5o 8 rfl rfl<|I0 5 rfl<|I4 rfl (S.old0 hg' hlb') hw2 ?_;rw[<-htb];refine I7 rfl<|Q05 gn rfl rfl rfl<|I2 rfl<|Q0<|Q1 (by kernel_rfl)<|I1 rfl<|Iao rfl rfl<|I2 rfl<|Q0 ?_
     exact Z6 ((P.funs[i]).code.length - (k+1)) (by omega) [(3,_),(5,_)] (by repeat(first|exact trivial|refine⟨rfl,?_⟩)) ⟨k+1,_,rfl,rfl,by omega,by omega,S⟩
   refine Ql<|Q9<|Qc<|Qm<|Q1 (by kernel_rfl)<|I1 rfl<|Iao rfl rfl<|I2 rfl<|Q0 ?_;exact Z6 (P.funs.length - (i+1)) (by omega) [(3,_),(4,_)] (by repeat(first|exact trivial|refine⟨rfl,?_⟩)) ⟨i+1,_,rfl,rfl,by omega,by omega,S⟩
 refine Ql<|Q9<|Qc<|Qm<|Q6<|I1 rfl<|Ig rfl rfl<|I2 rfl<|Q0<|Q7 ?_;refine⟨.inl rfl,_,rfl,?_⟩;exact⟨⟨_,rfl⟩,S.e0⟩
end
end Go.Proofs.Yteinandjhpnceaa
namespace Go.Proofs.Yteinandjhpnceaa
open Go.X Go.May Go.Mac
structure ThW where
 fv:Value
 fb:List Nat
 vs:List (Value×List Nat)
def frC:List MFrm->List (Value×List Nat)->List Value
 |x::l,v::c=>[iV x.fn,iV x.at',v.1]++frC l c
 |_,_=>[]
def frP:List MFrm->List (Value×List Nat)->List Res
 |x::l,v::c=>slR 2 0 v.1 (isV x.regs) x.regs.length v.2::frP l c
 |_,_=>[]
def thL (tb:Nat) (pv:List Value) (T:MThr) (w:ThW):List Res:=cR tb (.cells (pv++[w.fv,iV T.trap]) 166 0)::slR 162 2 w.fv (frC T.F w.vs) T.F.length w.fb::frP T.F w.vs
def thR (tb:Nat) (pv:List Value) (T:MThr) (bs:List Nat):Res:=Q4E (fun L=> ∃w:ThW,w.vs.length=T.F.length/\L=thL tb pv T w) bs
theorem JE: ∀(l:List MFrm) (c:List (Value×List Nat)),c.length=l.length->(frC l c).length=l.length*3
 | [],_,_=>rfl
 |_::_,[],h=>by simp at h
 | o::l,v::c,h=>by
   show([_,_,_]++frC l c).length=_;rw[List.length_append,JE l c (by simpa using h)];simp;omega
theorem Q0g: ∀(l:List MFrm) (c:List (Value×List Nat)) (rest:List Value) (j:Nat) (o:MFrm) (v:Value×List Nat),l[j]?=some o->c[j]?=some v->((frC l c++rest).drop (j*3)).take 3=[iV o.fn,iV o.at',v.1]
 | o::l,v::c,rest,0,o',v',h1,h2=>by
   simp only[List.getElem?_cons_zero,Option.some.injEq]at h1 h2;subst h1;subst h2;rfl
 | o::l,v::c,rest,j+1,o',v',h1,h2=>by
   show(([_,_,_]++frC l c++rest).drop ((j+1)*3)).take 3=_;rw[show(j+1)*3=3+j*3 by omega,List.append_assoc,<-List.drop_drop,List.drop_left' (by rfl)];exact Q0g l c rest j o' v' (by simpa using h1) (by simpa using h2)
 | [],_,_,_,_,_,h1,_=>by simp at h1
 |_::_,[],_,_,_,_,_,h2=>by simp at h2
theorem QbC: ∀(l:List MFrm) (c:List (Value×List Nat)) (j:Nat) (o:MFrm) (v:Value×List Nat),l[j]?=some o->c[j]?=some v->(frP l c)[j]?=some (slR 2 0 v.1 (isV o.regs) o.regs.length v.2)
 | o::l,v::c,0,o',v',h1,h2=>by
   simp only[List.getElem?_cons_zero,Option.some.injEq]at h1 h2;subst h1;subst h2;rfl
 |o::l,v::c,j+1,o',v',h1,h2=>QbC l c j o' v' (by simpa using h1) (by simpa using h2)
 | [],_,_,_,_,h1,_=>by simp at h1
 |_::_,[],_,_,_,_,h2=>by simp at h2
theorem Q8t: ∀(l:List MFrm) (c:List (Value×List Nat)) (o:MFrm) (v:Value×List Nat),c.length=l.length->frC (l++[o]) (c++[v])=frC l c++[iV o.fn,iV o.at',v.1]
 | [],[],_,_,_=>rfl
 | [],_::_,_,_,h=>by simp at h
 |_::_,[],_,_,h=>by simp at h
 | o::l,v::c,o',v',h=>by
   show[_,_,_]++frC (l++[o']) (c++[v'])=_;rw[Q8t l c o' v' (by simpa using h)];rfl
theorem Q4q: ∀(l:List MFrm) (c:List (Value×List Nat)) (o:MFrm) (v:Value×List Nat),c.length=l.length->frP (l++[o]) (c++[v])=frP l c++[slR 2 0 v.1 (isV o.regs) o.regs.length v.2]
 | [],[],_,_,_=>rfl
 | [],_::_,_,_,h=>by simp at h
 |_::_,[],_,_,h=>by simp at h
 | o::l,v::c,o',v',h=>by
   show _::frP (l++[o']) (c++[v'])=_;rw[Q4q l c o' v' (by simpa using h)];rfl
theorem QbD (n:Int): ∀(l:List MFrm) (c:List (Value×List Nat)) (j:Nat),c.length=l.length->(frC l c).set (j*3+1) (iV n)=frC (atF l j n) c
 | [],[],j,_=>by cases j<;>rfl
 | [],_::_,_,h=>by simp at h
 |_::_,[],_,h=>by simp at h
 |x::l,v::c,0,_=>rfl
 | x::l,v::c,j+1,h=>by
   unfold atF;rw[List.modify_succ_cons];show([iV x.fn,iV x.at',v.1]++frC l c).set ((j+1)*3+1) (iV n)=[iV x.fn,iV x.at',v.1]++frC (atF l j n) c;rw[<-QbD n l c j (by simpa using h),show(j+1)*3+1=(j*3+1)+1+1+1 by omega];rfl
theorem QbB (n:Int): ∀(l:List MFrm) (c:List (Value×List Nat)) (j:Nat),frP (atF l j n) c=frP l c
 | [],c,j=>by cases j<;>rfl
 | x::l,[],j=>by
   unfold atF;cases j with
   |zero=>rfl
   |succ j=>rw[List.modify_succ_cons];rfl
 |x::l,v::c,0=>rfl
 | x::l,v::c,j+1=>by
   unfold atF;rw[List.modify_succ_cons];show _::frP (atF l j n) c=_::frP l c;rw[QbB n l c j]
theorem Q8u (a n:Int): ∀(l:List MFrm) (c:List (Value×List Nat)) (j:Nat),frC (Q36 l j a n) c=frC l c
 | [],c,j=>by cases j<;>rfl
 | x::l,[],j=>by
   unfold Q36;cases j with
   |zero=>rfl
   |succ j=>rw[List.modify_succ_cons];rfl
 |x::l,v::c,0=>rfl
 | x::l,v::c,j+1=>by
   unfold Q36;rw[List.modify_succ_cons];show[_,_,_]++frC (Q36 l j a n) c=[_,_,_]++frC l c;rw[Q8u a n l c j]
theorem Q8r (a n:Int): ∀(l:List MFrm) (c:List (Value×List Nat)) (j:Nat) (o:MFrm) (v:Value×List Nat),l[j]?=some o->c[j]?=some v->(frP l c).set j (slR 2 0 v.1 ((isV o.regs).set a.toNat (iV n)) o.regs.length v.2)=frP (Q36 l j a n) c
 | o::l,v::c,0,o',v',h1,h2=>by
   simp only[List.getElem?_cons_zero,Option.some.injEq]at h1 h2;subst h1;subst h2;show slR 2 0 v.1 ((isV o.regs).set a.toNat (iV n)) o.regs.length v.2::frP l c=slR 2 0 v.1 (isV (o.regs.set a.toNat n)) (o.regs.set a.toNat n).length v.2::frP l c;rw[KU,List.length_set]
 | o::l,v::c,j+1,o',v',h1,h2=>by
   unfold Q36;rw[List.modify_succ_cons];show _::(frP l c).set j _=_::frP (Q36 l j a n) c;rw[Q8r a n l c j o' v' (by simpa using h1) (by simpa using h2)]
 | [],_,_,_,_,h1,_=>by simp at h1
 |_::_,[],_,_,_,_,h2=>by simp at h2
theorem QfS {F:List MFrm} {k:Nat} {x:MFrm} (h:F[k]?=some x):QfT F k=atF F k (x.at'+1):=by
 unfold QfT atF;refine List.ext_getElem? fun i=>?_;simp only[List.getElem?_modify];by_cases e:k=i
 · subst e;rw[h];simp
 simp[e]
theorem Q10 (F:List MFrm) (k:Nat) (n:Int):(atF F k n).length=F.length:=by simp[atF]
theorem Q7N (F:List MFrm) (k:Nat) (a n:Int):(Q36 F k a n).length=F.length:=by simp[Q36]
theorem Q4n (F:List MFrm) (k:Nat):(QfT F k).length=F.length:=by simp[QfT]
theorem el162:ElN modE 164 162 2 39:=⟨by kernel_rfl,by kernel_rfl,by kernel_rfl,.agg #[.int .i64 0,.int .i64 0,.slice none 0 0],by kernel_rfl,rfl⟩
section
variable {h0 h:Hp} {ds:List Nat} {A:List Res} {tb:Nat} {pv:List Value} {T:MThr} {bs:List Nat}
theorem Q9T (S:SH h0 ds (A++[thR tb pv T bs]) h): ∃w:ThW,w.vs.length=T.F.length/\owns (thL tb pv T w)=bs/\SH h0 ds (A++thL tb pv T w) h:=by
 obtain⟨L,⟨w,hw,rfl⟩,h2,h3⟩:=Jc S;exact⟨w,hw,h2,h3⟩
theorem Q9U {w:ThW} (S:SH h0 ds (thL tb pv T w) h) (hw:w.vs.length=T.F.length): ∃bs',SH h0 ds [thR tb pv T bs'] h:=⟨_,Kz (A:=[]) S ⟨w,hw,rfl⟩⟩
theorem Q2Z {w:ThW} {k:Nat} {x:MFrm} {v:Value×List Nat} (hx:T.F[k]?=some x) (hv:w.vs[k]?=some v):(thL tb pv T w)[2+k]?=some (slR 2 0 v.1 (isV x.regs) x.regs.length v.2):=by
 rw[show 2+k=k+1+1 by omega];exact QbC _ _ _ _ _ hx hv
theorem QcU {w:ThW} {k:Nat} {n:Int} (hw:w.vs.length=T.F.length):(thL tb pv T w).set 1 (slR 162 2 w.fv ((frC T.F w.vs).set (0+k*3+1) (iV n)) T.F.length w.fb)=thL tb pv {T with F:=atF T.F k n} w:=by
 show cR tb _::slR 162 2 w.fv _ T.F.length w.fb::frP T.F w.vs=cR tb _::slR 162 2 w.fv (frC (atF T.F k n) w.vs) (atF T.F k n).length w.fb::frP (atF T.F k n) w.vs;rw[Nat.zero_add,QbD n _ _ _ hw,Q10,QbB]
theorem Q1M {w:ThW} {k:Nat} {a n:Int} {x:MFrm} {v:Value×List Nat} (hx:T.F[k]?=some x) (hv:w.vs[k]?=some v):(thL tb pv T w).set (2+k) (slR 2 0 v.1 ((isV x.regs).set (0+a.toNat*1) (iV n)) x.regs.length v.2)=thL tb pv {T with F:=Q36 T.F k a n} w:=by
 rw[show 2+k=k+1+1 by omega,Nat.zero_add,Nat.mul_one];show cR tb _::slR 162 2 w.fv _ T.F.length w.fb::(frP T.F w.vs).set k _=cR tb _::slR 162 2 w.fv (frC (Q36 T.F k a n) w.vs) (Q36 T.F k a n).length w.fb::frP (Q36 T.F k a n) w.vs;rw[Q8r a n _ _ _ _ _ hx hv,Q8u,Q7N]
end
end Go.Proofs.Yteinandjhpnceaa
namespace Go.Proofs.Yteinandjhpnceaa
open Go.X Go.May Go.Mac
structure PrV where
 lo:Value
 cl:Value
 gl:Value
 fu:Value
 co:Value
 ev:Value
 si:Value
abbrev pvL (P:Prg) (V:PrV):List Value:=[V.lo,V.cl,V.gl,V.fu,V.co,V.ev,iV P.main,V.si]
abbrev Q1f (h:Hp) (P:Prg) (V:PrV):Prop:=PrgAt h P V.lo V.cl V.gl V.fu V.co V.ev V.si
section
variable {h0 h:Hp} {ds:List Nat} {B:List Res} {tb:Nat} {pv:List Value} {T:MThr} {bs:List Nat}
theorem Q1N (p:Held (thR tb pv T bs) h): ∃(a:Option Addr) (c:Nat) (w:ThW),w.vs.length=T.F.length/\w.fv=.slice a T.F.length c/\h.get tb=some (.cells (pv++[.slice a T.F.length c,iV T.trap]) 166 0)/\tb <h.n/\SlC 162 2 h (.slice a T.F.length c) (frC T.F w.vs) T.F.length w.fb/\(∀i,i∈w.fb->i <h.n)/\ ∀(j:Nat) (x:MFrm) (v:Value×List Nat),T.F[j]?=some x->w.vs[j]?=some v->SlC 2 0 h v.1 (isV x.regs) x.regs.length v.2:=by
 obtain⟨⟨Ls,⟨w,hw,rfl⟩,ho,hp⟩,hl⟩:=p;have h1:SlC 162 2 h w.fv (frC T.F w.vs) T.F.length w.fb:=hp (slR 162 2 w.fv (frC T.F w.vs) T.F.length w.fb) (by simp[thL]);have h0:h.get tb=some (.cells (pv++[w.fv,iV T.trap]) 166 0):=hp (cR tb (.cells (pv++[w.fv,iV T.trap]) 166 0)) (by simp[thL]);obtain⟨a,c,e⟩:=Qa h1;rw[e]at h0 h1;refine⟨a,c,w,hw,e,h0,hl tb ?_,h1,fun i hi=>hl i ?_,fun j x v hx hv=>hp (slR 2 0 v.1 (isV x.regs) x.regs.length v.2) ?_⟩
 · show tb∈bs;rw[<-ho];simp[thL,owns,cR]
 · show i∈bs;rw[<-ho];simp[thL,owns,cR,slR,hi]
 have:=List.mem_of_getElem? (QbC _ _ _ _ _ hx hv);simp only[thL,List.mem_cons];exact .inr (.inr this)
theorem Q9f {a:Option Addr} {c:Nat} {F:List MFrm} {vs:List (Value×List Nat)} {fb:List Nat} (x:SlC 162 2 h (.slice a F.length c) (frC F vs) F.length fb) (hl:0 <F.length): ∃b r m,a=some ⟨b,0,none⟩/\h.get b=some (.cells (frC F vs++r) 162 m)/\fb=[b]/\(m=0\/m=5):=by
 obtain⟨b,c',hv,hb,_⟩:=JR x hl;obtain⟨rfl,rfl⟩:a=some ⟨b,0,none⟩/\c=c':=by simpa using hv
 rcases x with⟨h1,_⟩| ⟨b',m,c',r,h1,h2,h3,_⟩
 · cases h1
 cases h1;exact⟨b,r,m,rfl,h2,hb,h3⟩
end
theorem QbA {a b:Int} {v:Value} (k:cellV v=true):([iV a,iV b,v]:List Value).all cellV=true:=by
 simp only[List.all_cons,List.all_nil,k,Bool.and_true];rfl
theorem PrgAt.fun {h:Hp} {P:Prg} {V:PrV} (X:Q1f h P V) {f:Int} (h0:0<=f) (h1:f <P.funs.length): ∃b o c cs e m,V.fu=.slice (some ⟨b,o,none⟩) P.funs.length c/\h.get b=some (.cells cs e m)/\b <h.n/\o+P.funs.length*4<=cs.length/\ ∃s cv,(cs.drop (o+f.toNat*4)).take 4=Qgs s (Qt P f) cv/\RowP 8 (InsD h) h cv (Qt P f).code:=by
 obtain⟨b,o,c,cs,e,m,hv,hg,hl,hlen,hat⟩:=X.fu.at (by omega);have hj:f.toNat <P.funs.length:=by omega
 obtain⟨⟨s,cv,h2,h3⟩,_,_,_⟩:=hat _ hj
 have e1:P.funs[f.toNat]=Qt P f:=by
  have:=J9 h0 h1;rw[List.getElem?_eq_getElem hj]at this;exact Option.some.inj this
 rw[e1]at h2 h3;exact⟨b,o,c,cs,e,m,hv,hg,hl,hlen,s,cv,h2,h3⟩
section
variable {h0 h:Hp} {P:Prg} {V:PrV} {tb:Nat} {T:MThr} {bs:List Nat} {o:Int}
theorem m79 (p:Held (thR tb (pvL P V) T bs) h):CP modE 79 [Qw tb] h (.bool (Y7 T)):=by
 obtain⟨a,c,w,hw,_,hq,hql,hr,hnl,_⟩:=Q1N p;refine Q8 (fu:=Try.f79) (by kernel_rfl) rfl ?_;refine Q6<|I2 rfl<|QL<|I1 rfl<|I6 rfl<|I0 8 rfl<|I4 rfl hq rfl<|I7 rfl<|Ie rfl rfl<|I1 rfl ?_
 refine QT (n:=5) rfl rfl rfl gn rfl (fun hb=>by
  refine D1 hb rfl<|D6 hb rfl<|D0 9 hb rfl<|D4 hb rfl hq rfl<|Dn hb rfl rfl ?_
  exact Q0 ⟨rfl,rfl,5,rfl,rfl⟩) ?_
 refine I2 rfl<|Q0<|Q7 ?_;refine⟨.inl rfl,_,rfl,?_⟩
 exact⟨by
  have e:decide ((T.F.length:Int)=0)=decide (T.F.length=0):=by simp
  have e2:(!decide (T.trap=0))=decide (T.trap≠0):=by simp
  unfold Y7;rw[<-e,<-e2];rfl,rfl⟩
theorem m84:CP modE 84 [iV o] h (.bool (K6 o)):=by
 refine Q8 (fu:=Try.f84) (by kernel_rfl) rfl ?_;refine Q6<|I2 rfl<|QL<|I1 rfl<|Ie rfl rfl<|I1 rfl ?_
 refine QT (n:=2) rfl rfl rfl gn rfl (fun hb=>by
  refine D1 hb rfl<|De hb rfl rfl ?_
  exact Q0 ⟨rfl,rfl,2,rfl,rfl⟩) ?_
 refine I1 rfl ?_
 refine QT (n:=6) rfl rfl rfl gn rfl (fun hb=>by
  refine D1 hb rfl<|Dh hb rfl rfl<|D1 hb rfl ?_
  refine Qp (n:=2) rfl rfl rfl (gy rfl rfl rfl hb) rfl (fun hb=>by
   refine D1 hb rfl<|Dm hb rfl rfl ?_
   exact Q0 ⟨rfl,rfl,2,rfl,rfl⟩) ?_
  exact Q0 ⟨rfl,rfl,4,rfl,rfl⟩) ?_
 refine I2 rfl<|Q0<|Q7 ?_;refine⟨.inl rfl,_,rfl,?_⟩;exact⟨by unfold K6;rfl,rfl⟩
theorem m73 (X:Q1f h P V) (p:Held (thR tb (pvL P V) T bs) h) (hT:Km P T) (hl:0 <T.F.length):C modE 73 [Qw tb] h fun v h'=>(∃lv ln,v=QfQ (Qb P T) lv ln/\RowV h lv (isV (Qb P T).l))/\Ext h h':=by
 obtain⟨a,c,w,hw,_,hq,hql,hr,hnl,hrv⟩:=Q1N p;obtain⟨b,r,m,rfl,hgr,hfb,_⟩:=Q9f hr hl;have hbl:=hnl b (by rw[hfb];simp);have htop:=Y5 hl;have ok:=hT.2 _ (ZW hl);have h32:=hT.1;obtain⟨v,hv⟩: ∃v,w.vs[T.F.length -1]?=some v:=⟨_,List.getElem?_eq_getElem (by omega)⟩
 have k0:((frC T.F w.vs++r).drop (0+Int.toNat ((T.F.length:Int) -1)*3)).take 3=[iV (Qv T).fn,iV (Qv T).at',v.1]:=by
  rw[Nat.zero_add,show Int.toNat ((T.F.length:Int) -1)=T.F.length -1 by omega];exact Q0g _ _ _ _ _ _ htop hv
 obtain⟨fb,fo,fc,fcs,fe,fm,hfu,hfg,hfl,hfn,s,cv,hfc,hco⟩:=PrgAt.fun X ok.f0 ok.f1;obtain⟨cb,co,cc,ccs,ce,cm,rfl,hcg,hcl,hcn,hcat⟩:=hco.at (by have:=ok.a0;have:=ok.a1;omega);have f0:=ok.f0;have f1:=ok.f1;have a0:=ok.a0;have a1:=ok.a1;have hj:(Qv T).at'.toNat <(Qt P (Qv T).fn).code.length:=by omega
 have kf:fcs[fo+Int.toNat (Qv T).fn*4+3]?=some (.slice (some ⟨cb,co,none⟩) (Qt P (Qv T).fn).code.length cc):=Qs hfc (by omega) rfl;obtain⟨⟨lv,ln,hic,hlv⟩,_⟩:=hcat _ hj
 have ei:(Qt P (Qv T).fn).code[(Qv T).at'.toNat]=Qb P T:=by
  have:=Q4m ok;rw[List.getElem?_eq_getElem hj]at this;exact Option.some.inj this
 rw[ei]at hic hlv;obtain⟨lva,lvc,rfl⟩:=hlv.valM;refine YZ (fu:=Try.f73) (by kernel_rfl) rfl ?_;have S:=SH.start h;refine Q6 ?_;refine Qo (zv:=.agg #[.int .i64 0,.int .i64 0,.int .i64 0,.int .i64 0,.int .i64 0,.slice none 0 0,.int .i64 0,.int .i64 0]) S gn rfl (by kernel_rfl) fun b1 g nb1 S=>?_;refine Q0<|Q3<|I9<|I1 rfl<|I6 rfl<|I0 8 rfl<|I4 rfl (S.old0 hq hql) rfl<|I1 rfl<|I6 rfl<|I0 8 rfl<|I4 rfl (S.old0 hq hql) rfl<|I7 rfl<|Iso rfl rfl<|I5o 3 rfl rfl ?_
 refine Z4 (n:=3) gn rfl rfl (by kernel_rfl) (by kernel_rfl) (S.old0 hgr hbl) (by rw[List.length_append,JE _ _ hw];omega) ?_;rw[k0];refine Qo (zv:=.agg #[.int .i64 0,.int .i64 0,.slice none 0 0]) S gn rfl (by kernel_rfl) fun b2 g nb2 S=>?_;refine Qe (n:=3) 0 S gn rfl rfl (QbA (hrv _ _ _ htop hv).cellV) (by kernel_rfl) rfl rfl (by decide) rfl (fun g S=>ag0) fun g S=>?_;refine Q0<|Q3<|I9<|I1 rfl<|I6 rfl<|I0 0 rfl<|I0 3 rfl<|I4 rfl (S.old0 hq hql) rfl<|I0 0 rfl<|I4 rfl (S.cel 0 rfl) rfl ?_;rw[hfu];refine I5o 4 rfl rfl ?_;rw[<-hfu];refine I0 3 rfl ?_
 refine I4 rfl (S.old0 hfg hfl) kf<|I0 1 rfl<|I4 rfl (S.cel 0 rfl) rfl<|I5o 8 rfl rfl<|I3 8 rfl (S.old0 hcg hcl) (by omega) ?_;rw[hic];refine Qe (n:=8) 1 S gn rfl rfl (by kernel_rfl) (by kernel_rfl) rfl rfl (by decide) rfl (fun g S=>ag0) fun g S=>?_;refine Q0<|Q7 ?_;refine⟨.inl rfl,_,(Zp rfl (by kernel_rfl) (by kernel_rfl) (S.cel 1 rfl) rfl rfl),?_⟩;exact⟨⟨_,ln,rfl,hlv⟩,S.e0⟩
end
end Go.Proofs.Yteinandjhpnceaa
namespace Go.Proofs.Yteinandjhpnceaa
open Go.X Go.May Go.Mac
theorem QdH {x:Ins} {lv:Value} {ln:Int} (k:cellV lv=true):([iV x.op,iV x.a,iV x.b,iV x.c,iV x.n,lv,iV x.site,iV ln]:List Value).all cellV=true:=by
 simp only[List.all_cons,List.all_nil,k,Bool.and_true];rfl
theorem Qd2 {h:Hp} {v:Value} {xs:List Value} (x:RowV h v xs):cellV v=true:=by
 obtain⟨a,c,rfl⟩:=x.val;rfl
theorem QeN {o:Int} {b:Bool} (h:(((decide (o=9)||decide (o=23))||decide (o=24))||decide (o=28))=b):(o=9\/o=23\/o=24\/o=28)↔b=true:=by
 rw[<-h];simp only[Bool.or_eq_true,decide_eq_true_eq,or_assoc]
section
variable {h0 h:Hp} {P:Prg} {V:PrV} {tb:Nat} {T:MThr} {bs:List Nat} {w:ThW}
theorem m91 {k:Nat} (S0:SH h0 [] (thL tb (pvL P V) T w) h) (hw:w.vs.length=T.F.length) (hT:Km P T) (hk:k <T.F.length) (hc: ∀x,x∈T.F->x.at'<=1000000):C modE 91 [Qw tb,iV k] h fun _ g'=>SH h (owns (thL tb (pvL P V) T w)) (thL tb (pvL P V) (onT T k) w) g':=by
 have SE:=S0.enterL;have h32:=hT.1;obtain⟨a,c,hfv⟩:=Qa (SE.sl 1 rfl);have hcel:=SE.cel 0 rfl;rw[hfv]at hcel;have hrow:=SE.sl 1 rfl;rw[hfv]at hrow;obtain⟨b,r,m,rfl,hgr,hfb,_⟩:=Q9f hrow (by omega);obtain⟨x,hx⟩: ∃x,T.F[T.F.length -1 -k]?=some x:=⟨_,List.getElem?_eq_getElem (by omega)⟩;obtain⟨v,hv⟩: ∃v,w.vs[T.F.length -1 -k]?=some v:=⟨_,List.getElem?_eq_getElem (by omega)⟩;have hix:Int.toNat ((T.F.length:Int) -1 -k)=T.F.length -1 -k:=by omega
 have k0:(frC T.F w.vs++r)[0+Int.toNat ((T.F.length:Int) -1 -k)*3+1]?=some (iV x.at'):=by rw[hix,Nat.zero_add];exact Qs (Q0g _ _ _ _ _ _ hx hv) (by omega) rfl
 have hx0:=(hT.2 x (List.mem_of_getElem? hx)).a0;have hx1:=hc x (List.mem_of_getElem? hx);refine Q8 (fu:=Try.f91) (by kernel_rfl) rfl ?_;have S:=SE;refine I9<|I1 rfl<|I6 rfl<|I0 8 rfl<|I4 rfl hcel rfl<|I1 rfl<|I6 rfl<|I0 8 rfl<|I4 rfl hcel rfl<|I7 rfl<|Iso rfl rfl<|I1 rfl<|Iso rfl rfl<|I5o 3 rfl rfl<|I0 1 rfl<|I4 rfl hgr k0 ?_;refine Iao rfl rfl<|I5o 3 rfl rfl<|I0 1 rfl<|ZG 1 S gn rfl rfl rfl (by kernel_rfl) rfl hfv (by rw[JE _ _ hw];omega) (fun g S=>ag0) fun g S=>?_;refine Q0 ?_
 refine⟨.inr rfl,_,rfl,?_⟩
 exact(by
  rw[hix,QcU hw]at S
  unfold onT;rw[QfS hx];exact S)
set_option maxHeartbeats 1000000 in
theorem m97 {n:Int} (S0:SH h0 [] [thR tb (pvL P V) T bs] h) (X0:Q1f h0 P V) (hM:ZJ P=true) (hT:Km P T):C modE 97 [Qw tb,iV n] h fun v g'=>v=iV (if Q0n P T=true then 0 else 13)/\ ∃bs',SH h bs [thR tb (pvL P V) (Q1n P T n) bs'] g':=by
 have SE:=S0.enter
 have hl0:Y7 T=false->0 <T.F.length:=fun h=>by
  unfold Y7 at h;simp at h;exact Nat.pos_of_ne_zero fun e=>h.1 (List.eq_nil_of_length_eq_zero e)
 refine Q8 (fu:=Try.f97) (by kernel_rfl) rfl ?_;have S:=SE;refine Q6<|I2 rfl<|Q0<|Y1 [(0,Qw tb),(1,iV n)] (fun lv hh=>lv=[]/\SH h bs [thR tb (pvL P V) T bs] hh/\Q0n P T=true) ?_ fun lv hh hJ=>?_
 · skip
   refine Q6<|I1 rfl<|Ic [_] rfl rfl (Qr (m79 (S.held 0 rfl)) ⟨ag0,?_⟩);refine I1 rfl<|Ze (dc:=8) rfl (fun hb8=>?_) fun hb8=>?_
   · skip
     refine ZI (n:=5) (dc:=8) (w:=false) rfl hb8 rfl<|IT rfl hb8 rfl<|Q0<|Q2 rfl (fun hb=>?_) fun hb=>?_
     · skip
       refine Q6<|I2 rfl<|Q0<|Q7 ?_;refine⟨.inl rfl,_,rfl,?_⟩
       exact⟨by
        have:Q0n P T=false:=by unfold Q0n;rw[show Y7 T=true from hb8];rfl
        rw[this];rfl,by
        have:Q0n P T=false:=by unfold Q0n;rw[show Y7 T=true from hb8];rfl
        unfold Q1n;rw[this];exact⟨bs,S⟩⟩
     exact absurd hb (by decide)
   refine D1 hb8 rfl<|Dc hb8 [_] rfl rfl (C.mono (m73 (X0.ext (S0.all0 S0.own0 S)) (S.held 0 rfl) hT (hl0 hb8)) ?_);rintro v g ⟨⟨lv1,ln1,rfl,hlv1⟩,x⟩;have S:=S.grow x;refine⟨ag0,?_⟩;refine Qfp (v:=iV (Qb P T).op) (gy rfl rfl rfl hb8) rfl rfl (by kernel_rfl)<|Dc hb8 [_] rfl rfl (Qr (m84) ⟨ag0,?_⟩);refine Db hb8 rfl<|Iu rfl hb8 rfl<|Q0<|Q2 rfl (fun hb=>?_) fun hb=>?_
   · skip
     refine Q6<|I2 rfl<|Q0<|Q7 ?_;refine⟨.inl rfl,_,rfl,?_⟩
     exact⟨by
      have:Q0n P T=false:=by
       unfold Q0n;have h2:K6 (Qb P T).op=false:=by simpa using hb
       rw[h2,Bool.and_false]
      rw[this];rfl,by
      have:Q0n P T=false:=by
       unfold Q0n;have h2:K6 (Qb P T).op=false:=by simpa using hb
       rw[h2,Bool.and_false]
      unfold Q1n;rw[this];exact⟨bs,S⟩⟩
   refine Q4 ?_
   exact ZF [] (by repeat(first|exact trivial|refine⟨rfl,?_⟩)) ⟨rfl,S,by
    have h2:K6 (Qb P T).op=true:=by simpa using hb
    unfold Q0n;rw[show Y7 T=false from hb8,h2];rfl⟩
 obtain⟨rfl,S,hdo⟩:=hJ
 have hov:Y7 T=false:=by
  unfold Q0n at hdo;cases e:Y7 T with
  |false=>rfl
  |true=>rw[e]at hdo;cases hdo
 have hl:=hl0 hov;have hlk:T.F.length<=32:=hT.1;refine Q6<|I1 rfl<|Ic [_] rfl rfl (C.mono (m73 (X0.ext (S0.all0 S0.own0 S)) (S.held 0 rfl) hT hl) ?_);rintro v g ⟨⟨lv1,ln1,rfl,hlv1⟩,x⟩;have S:=S.grow x;refine⟨ag0,?_⟩;refine Qo (zv:=.agg #[.int .i64 0,.int .i64 0,.int .i64 0,.int .i64 0,.int .i64 0,.slice none 0 0,.int .i64 0,.int .i64 0]) S gn rfl (by kernel_rfl) fun b1 g nb1 S=>?_;refine Qe (n:=8) 0 S gn rfl rfl (QdH (Qd2 hlv1)) (by kernel_rfl) rfl rfl (by decide) rfl (fun g S=>ag0) fun g S=>?_
 have S:SH h bs ([cR b1 (.cells [iV (Qb P T).op,iV (Qb P T).a,iV (Qb P T).b,iV (Qb P T).c,iV (Qb P T).n,lv1,iV (Qb P T).site,iV ln1] 93 0)]++[thR tb (pvL P V) T bs]) g:=S;obtain⟨w,hw,hown,S⟩:=Q9T S;refine Q0<|Y1 [(0,Qw tb)] (fun lv hh=>lv=[]/\SH h bs (thL tb (pvL P V) (if(Qb P T).op=9\/(Qb P T).op=23\/(Qb P T).op=24\/(Qb P T).op=28 then setT T (Qb P T).a n else T) w) hh) ?_ fun lv hh hJ=>?_
 · skip
   refine Q6<|I0 0 rfl<|I4 rfl (S.cel 0 rfl) rfl<|Ie rfl rfl<|I1 rfl ?_
   refine QT (n:=3) rfl rfl rfl gn rfl (fun hb=>by
    refine D0 0 hb rfl<|D4 hb rfl (S.cel 0 rfl) rfl<|De hb rfl rfl ?_
    exact Q0 ⟨rfl,rfl,3,rfl,rfl⟩) ?_
   refine I1 rfl ?_
   refine QT (n:=3) rfl rfl rfl gn rfl (fun hb=>by
    refine D0 0 hb rfl<|D4 hb rfl (S.cel 0 rfl) rfl<|De hb rfl rfl ?_
    exact Q0 ⟨rfl,rfl,3,rfl,rfl⟩) ?_
   refine I1 rfl ?_
   refine QT (n:=3) rfl rfl rfl gn rfl (fun hb=>by
    refine D0 0 hb rfl<|D4 hb rfl (S.cel 0 rfl) rfl<|De hb rfl rfl ?_
    exact Q0 ⟨rfl,rfl,3,rfl,rfl⟩) ?_
   refine Q0<|Q2 rfl (fun hb=>?_) fun hb=>?_
   · skip
     have hin:=Q8q hM (hT.2 _ (ZW hl));have hop:=(QeN rfl).2 hb;have ha:=Q01 hin (by rcases hop with e|e|e|e<;>(rw[show(Q0U P (Qv T).fn (Qv T).at').op=_ from e];decide));obtain⟨a,c,hfv⟩:=Qa (S.sl 2 rfl);have hcel:=S.cel 1 rfl;rw[hfv]at hcel;have hrow:=S.sl 2 rfl;rw[hfv]at hrow;obtain⟨b,r,m,rfl,hgr,hfb,_⟩:=Q9f hrow hl;have htop:=Y5 hl;obtain⟨v,hv⟩: ∃v,w.vs[T.F.length -1]?=some v:=⟨_,List.getElem?_eq_getElem (by omega)⟩;have hix:Int.toNat ((T.F.length:Int) -1)=T.F.length -1:=by omega
     have hrl:=(hT.2 _ (ZW hl)).r
     have ha':0<=(Qb P T).a/\(Qb P T).a <((isV (Qv T).regs).length:Nat):=by
      rw[List.length_map,hrl];exact ha
     have hpj:([cR b1 (.cells [iV (Qb P T).op,iV (Qb P T).a,iV (Qb P T).b,iV (Qb P T).c,iV (Qb P T).n,lv1,iV (Qb P T).site,iV ln1] 93 0)]++thL tb (pvL P V) T w)[2+(T.F.length -1)+1]?=some (slR 2 0 v.1 (isV (Qv T).regs) (Qv T).regs.length v.2):=Q2Z htop hv;obtain⟨b2,c2,hv2,_,hcl2⟩:=JR (S.sl _ hpj) (by omega);have k0:(frC T.F w.vs++r)[0+Int.toNat ((T.F.length:Int) -1)*3+2]?=some v.1:=by rw[hix,Nat.zero_add];exact Qs (Q0g _ _ _ _ _ _ htop hv) (by omega) rfl
     refine I9<|I1 rfl<|I6 rfl<|I0 8 rfl<|I4 rfl hcel rfl<|I1 rfl<|I6 rfl<|I0 8 rfl<|I4 rfl hcel rfl<|I7 rfl<|Iso rfl rfl<|I5o 3 rfl rfl<|I0 2 rfl<|I4 rfl hgr k0<|I0 1 rfl<|I4 rfl (S.cel 0 rfl) rfl ?_;refine I1 rfl ?_;rw[hv2];refine I5o 1 rfl rfl ?_;rw[<-hv2];refine ZG (2+(T.F.length -1)+1) S gn rfl rfl rfl (by kernel_rfl) hpj hv2 (by omega) (fun g S=>ag0) fun g S=>?_;refine Q0 ?_
     exact ZF [] (by repeat(first|exact trivial|refine⟨rfl,?_⟩)) ⟨rfl,by
      have S2:SH h bs (cR b1 _::(thL tb (pvL P V) T w).set (2+(T.F.length -1)) _) g:=S;have S3:=S2.drop;rw[Q1M htop hv]at S3
      rw[if_pos hop];exact S3⟩
   refine Q4 ?_
   exact ZF [] (by repeat(first|exact trivial|refine⟨rfl,?_⟩)) ⟨rfl,by
    rw[if_neg (by rw[QeN rfl,hb];decide)];exact SH.drop S⟩
 obtain⟨rfl,S⟩:=hJ;refine Q3 ?_
 have hT1: ∃T1,T1=(if(Qb P T).op=9\/(Qb P T).op=23\/(Qb P T).op=24\/(Qb P T).op=28 then setT T (Qb P T).a n else T)/\Km P T1/\T1.F.length=T.F.length:=by
  refine⟨_,rfl,?_⟩
  split
  · exact JS hT
  exact⟨hT,rfl⟩
 obtain⟨T1,e1,hT1,hl1⟩:=hT1;rw[<-e1]at S;refine Q1 (by kernel_rfl)<|I1 rfl ?_;refine Z1 [_,_] gn rfl rfl (by kernel_rfl) rfl (C.mono (m91 (k:=0) (SH.subL0 S0 S0.own0 S) (by rw[hl1];exact hw) hT1 (by omega) (fun x hx=>(Kv hM (hT1.2 x hx)).1)) ?_);intro v g S2;have S:=SH.retL0 S S2;refine⟨ag0,?_⟩;refine QL<|I2 rfl<|Q0<|Q7 ?_;refine⟨.inl rfl,_,rfl,?_⟩
 exact⟨by rw[hdo];rfl,by
  unfold Q1n;rw[if_pos hdo,<-e1]
  exact Q9U S (by unfold onT;show w.vs.length=(QfT _ _).length;rw[Q4n,hl1];exact hw)⟩
end
end Go.Proofs.Yteinandjhpnceaa
namespace Go.Proofs.Yteinandjhpnceaa
open Go.X Go.May Go.Mac
abbrev YF (a:MAsk) (sv:Value):List Value:=[iV a.op,iV a.site,iV a.n,iV a.v,iV a.looper,sv]
abbrev askV (a:MAsk) (sv:Value):Value:=.agg #[iV a.op,iV a.site,iV a.n,iV a.v,iV a.looper,sv]
section
variable {h0 h:Hp} {P:Prg} {V:PrV} {tb:Nat} {x:Ins} {sv rv:Value} {ln:Int} {R:List Int}
theorem or3 {o a b c:Int} {r:Bool} (h:((decide (o=a)||decide (o=b))||decide (o=c))=r):(o=a\/o=b\/o=c)↔r=true:=by
 rw[<-h];simp only[Bool.or_eq_true,decide_eq_true_eq,or_assoc]
theorem or2 {o a b:Int} {r:Bool} (h:(decide (o=a)||decide (o=b))=r):(o=a\/o=b)↔r=true:=by
 rw[<-h];simp only[Bool.or_eq_true,decide_eq_true_eq]
theorem or4 {o a b c d:Int} {r:Bool} (h:(((decide (o=a)||decide (o=b))||decide (o=c))||decide (o=d))=r):(o=a\/o=b\/o=c\/o=d)↔r=true:=by
 rw[<-h];simp only[Bool.or_eq_true,decide_eq_true_eq,or_assoc]
theorem m85 {F:Fun} (hr:RowV h rv (isV R)) (hR:(R.length:Int)=F.regs) (hl:cellV sv=true) (hi:Z2 P F x=true):C modE 85 [Qw tb,QfQ x sv ln,rv] h fun v g'=>v=askV (Q4G x R) (.slice none 0 0)/\Ext h g':=by
 obtain⟨ra,rc,rfl⟩:=hr.valM
 have hat:0 <R.length-> ∃b o cs e m,ra=some ⟨b,o,none⟩/\h.get b=some (.cells cs e m)/\b <h.n/\ ∀a:Int,0<=a->a <R.length->cs[o+Int.toNat a*1]?=some (iV (reg R a)):=fun hp=>by
  obtain⟨b,o,c,cs,e,m,hv,hg,hb,hc⟩:=hr.atM hp;refine⟨b,o,cs,e,m,by injection hv,hg,hb,fun a h0 h1=>?_⟩;rw[Nat.mul_one,hc _ (by omega)];unfold reg;rw[List.getElem?_eq_getElem (by omega)];rfl
 refine YZ (fu:=Try.f85) (by kernel_rfl) rfl ?_;have S:=SH.start h;refine Q6 ?_;refine QX S gn rfl rfl fun b1 g nb1 S=>?_;refine Qo (zv:=.agg #[.int .i64 0,.int .i64 0,.int .i64 0,.int .i64 0,.int .i64 0,.slice none 0 0]) S gn rfl (by kernel_rfl) fun b2 g nb2 S=>?_;refine QL<|I0 0 rfl<|I4 rfl (S.cel 1 rfl) rfl<|I0 6 rfl<|I4 rfl (S.cel 1 rfl) rfl<|I0 4 rfl<|I4 rfl (S.cel 1 rfl) rfl ?_
 refine Qz (zv:=.agg #[.int .i64 0,.int .i64 0,.int .i64 0,.int .i64 0,.int .i64 0,.slice none 0 0]) (pl:=[(0,1),(1,1),(2,1),(3,1),(4,1),(5,1)]) [(0,_),(1,_),(2,_)] gn rfl (by kernel_rfl) (by kernel_rfl) rfl (by rfl) ?_;refine Qo (zv:=.agg #[.int .i64 0,.int .i64 0,.int .i64 0,.int .i64 0,.int .i64 0,.slice none 0 0]) S gn rfl (by kernel_rfl) fun b3 g nb3 S=>?_;refine Qe (n:=6) 0 S gn rfl rfl (by kernel_rfl) (by kernel_rfl) rfl rfl (by decide) rfl (fun g S=>ag0) fun g S=>?_;refine Q0 ?_
 have S:SH h [] [cR b3 (.cells [iV x.op,iV x.site,iV x.n,iV 0,iV 0,.slice none 0 0] 172 0),cR b2 (.cells [iV 0,iV 0,iV 0,iV 0,iV 0,.slice none 0 0] 172 0),cR b1 (.cells [iV x.op,iV x.a,iV x.b,iV x.c,iV x.n,sv,iV x.site,iV ln] 93 0)] g:=S;refine Y1 [(2,.slice ra R.length rc),(4,Qw b1),(6,Qw b2),(7,Qw b3)] (fun lv hh=>lv=[]/\SH h [] [cR b3 (.cells [iV x.op,iV x.site,iV x.n,iV (if x.op=23\/x.op=24\/x.op=28 then reg R x.b else 0),iV (0),.slice none 0 0] 172 0),cR b2 (.cells [iV 0,iV 0,iV 0,iV 0,iV 0,.slice none 0 0] 172 0),cR b1 (.cells [iV x.op,iV x.a,iV x.b,iV x.c,iV x.n,sv,iV x.site,iV ln] 93 0)] hh) ?_ fun lv hh hJ=>?_
 · skip
   refine Q6<|I0 0 rfl<|I4 rfl (S.cel 2 rfl) rfl<|Ie rfl rfl<|I1 rfl ?_
   refine QT (n:=3) rfl rfl rfl gn rfl (fun hb=>by
    refine D0 0 hb rfl<|D4 hb rfl (S.cel 2 rfl) rfl<|De hb rfl rfl ?_
    exact Q0 ⟨rfl,rfl,3,rfl,rfl⟩) ?_
   refine I1 rfl ?_
   refine QT (n:=3) rfl rfl rfl gn rfl (fun hb=>by
    refine D0 0 hb rfl<|D4 hb rfl (S.cel 2 rfl) rfl<|De hb rfl rfl ?_
    exact Q0 ⟨rfl,rfl,3,rfl,rfl⟩) ?_
   refine Q0<|Q2 rfl (fun hb=>?_) fun hb=>?_
   · skip
     refine Q1 (by kernel_rfl)<|I1 rfl<|I0 2 rfl<|I4 rfl (S.cel 2 rfl) rfl ?_
     have hx:0<=x.b/\x.b <R.length:=by
      rw[hR];exact Q1X hi (by rcases (or3 rfl).2 hb with e|e|e<;>(rw[e];decide))
     obtain⟨b,o,cs,e,m,rfl,hg,hlt,hc⟩:=hat (by omega);refine I5o 1 rfl rfl<|I4 rfl (S.old0 hg hlt) (hc _ hx.1 hx.2)<|I0 3 rfl ?_;refine Qi 0 S gn rfl rfl rfl (by kernel_rfl) rfl (by decide) (by simp) (fun g S=>ag0) fun g S=>?_;refine Q0 ?_;exact ZF [] (by repeat(first|exact trivial|refine⟨rfl,?_⟩)) ⟨rfl,by rw[if_pos ((or3 rfl).2 hb)];exact S⟩
   refine Q4 ?_;exact ZF [] (by repeat(first|exact trivial|refine⟨rfl,?_⟩)) ⟨rfl,by rw[if_neg (fun e=>Bool.noConfusion (((or3 rfl).1 e).symm.trans hb))];exact S⟩
 obtain⟨rfl,S⟩:=hJ;refine Y1 [(2,.slice ra R.length rc),(4,Qw b1),(6,Qw b2),(7,Qw b3)] (fun lv hh=>lv=[]/\SH h [] [cR b3 (.cells [iV x.op,iV x.site,iV x.n,iV (if x.op=23\/x.op=24\/x.op=28 then reg R x.b else 0),iV (if x.op=23\/x.op=24 then x.c else 0),.slice none 0 0] 172 0),cR b2 (.cells [iV 0,iV 0,iV 0,iV 0,iV 0,.slice none 0 0] 172 0),cR b1 (.cells [iV x.op,iV x.a,iV x.b,iV x.c,iV x.n,sv,iV x.site,iV ln] 93 0)] hh) ?_ fun lv hh hJ=>?_
 · skip
   refine Q6<|I0 0 rfl<|I4 rfl (S.cel 2 rfl) rfl<|Ie rfl rfl<|I1 rfl ?_
   refine QT (n:=3) rfl rfl rfl gn rfl (fun hb=>by
    refine D0 0 hb rfl<|D4 hb rfl (S.cel 2 rfl) rfl<|De hb rfl rfl ?_
    exact Q0 ⟨rfl,rfl,3,rfl,rfl⟩) ?_
   refine Q0<|Q2 rfl (fun hb=>?_) fun hb=>?_
   · skip
     refine Q1 (by kernel_rfl)<|I0 3 rfl<|I4 rfl (S.cel 2 rfl) rfl<|I0 4 rfl ?_;refine Qi 0 S gn rfl rfl rfl (by kernel_rfl) rfl (by decide) (by simp) (fun g S=>ag0) fun g S=>?_;refine Q0 ?_;exact ZF [] (by repeat(first|exact trivial|refine⟨rfl,?_⟩)) ⟨rfl,by rw[if_pos ((or2 rfl).2 hb)];exact S⟩
   refine Q4 ?_;exact ZF [] (by repeat(first|exact trivial|refine⟨rfl,?_⟩)) ⟨rfl,by rw[if_neg (fun e=>Bool.noConfusion (((or2 rfl).1 e).symm.trans hb))];exact S⟩
 obtain⟨rfl,S⟩:=hJ;refine Y1 [(6,Qw b2),(7,Qw b3)] (fun lv hh=>lv=[]/\SH h [] [cR b3 (.cells [iV x.op,iV x.site,iV x.n,iV (if x.op=10\/x.op=25\/x.op=29\/x.op=30 then reg R x.a else if x.op=23\/x.op=24\/x.op=28 then reg R x.b else 0),iV (if x.op=23\/x.op=24 then x.c else 0),.slice none 0 0] 172 0),cR b2 (.cells [iV 0,iV 0,iV 0,iV 0,iV 0,.slice none 0 0] 172 0),cR b1 (.cells [iV x.op,iV x.a,iV x.b,iV x.c,iV x.n,sv,iV x.site,iV ln] 93 0)] hh) ?_ fun lv hh hJ=>?_
 · skip
   refine Q6<|I0 0 rfl<|I4 rfl (S.cel 2 rfl) rfl<|Ie rfl rfl<|I1 rfl ?_
   refine QT (n:=3) rfl rfl rfl gn rfl (fun hb=>by
    refine D0 0 hb rfl<|D4 hb rfl (S.cel 2 rfl) rfl<|De hb rfl rfl ?_
    exact Q0 ⟨rfl,rfl,3,rfl,rfl⟩) ?_
   refine I1 rfl ?_
   refine QT (n:=3) rfl rfl rfl gn rfl (fun hb=>by
    refine D0 0 hb rfl<|D4 hb rfl (S.cel 2 rfl) rfl<|De hb rfl rfl ?_
    exact Q0 ⟨rfl,rfl,3,rfl,rfl⟩) ?_
   refine I1 rfl ?_
   refine QT (n:=3) rfl rfl rfl gn rfl (fun hb=>by
    refine D0 0 hb rfl<|D4 hb rfl (S.cel 2 rfl) rfl<|De hb rfl rfl ?_
    exact Q0 ⟨rfl,rfl,3,rfl,rfl⟩) ?_
   refine Q0<|Q2 rfl (fun hb=>?_) fun hb=>?_
   · skip
     refine Q1 (by kernel_rfl)<|I1 rfl<|I0 1 rfl<|I4 rfl (S.cel 2 rfl) rfl ?_
     have hx:0<=x.a/\x.a <R.length:=by
      rw[hR];exact Q01 hi (by rcases (or4 rfl).2 hb with e|e|e|e<;>(rw[e];decide))
     obtain⟨b,o,cs,e,m,rfl,hg,hlt,hc⟩:=hat (by omega);refine I5o 1 rfl rfl<|I4 rfl (S.old0 hg hlt) (hc _ hx.1 hx.2)<|I0 3 rfl ?_;refine Qi 0 S gn rfl rfl rfl (by kernel_rfl) rfl (by decide) (by simp) (fun g S=>ag0) fun g S=>?_;refine Q0 ?_;exact ZF [] (by repeat(first|exact trivial|refine⟨rfl,?_⟩)) ⟨rfl,by rw[if_pos ((or4 rfl).2 hb)];exact S⟩
   refine Q4 ?_;exact ZF [] (by repeat(first|exact trivial|refine⟨rfl,?_⟩)) ⟨rfl,by rw[if_neg (fun e=>Bool.noConfusion (((or4 rfl).1 e).symm.trans hb))];exact S⟩
 obtain⟨rfl,S⟩:=hJ;refine Q6<|I3 6 rfl (S.cel 0 rfl) (Nat.le_refl _) ?_;refine Qe (n:=6) 1 S gn rfl rfl (by kernel_rfl) (by kernel_rfl) rfl rfl (by decide) rfl (fun g S=>ag0) fun g S=>?_;refine Q0<|Q7 ?_;refine⟨.inl rfl,_,(Zp rfl (by kernel_rfl) (by kernel_rfl) (S.cel 1 rfl) rfl rfl),?_⟩;exact⟨rfl,S.e0⟩
theorem QdT {l:List Int} {n i:Nat} (hi:i <l.length) (hn:l.length<=n):(l.take i++List.replicate (n -i) 0).set i l[i]=l.take (i+1)++List.replicate (n - (i+1)) 0:=by
 rw[List.set_append_right _ _ (by rw[List.length_take];omega),List.length_take,Nat.min_eq_left (by omega),Nat.sub_self,show n -i=(n - (i+1))+1 by omega,List.replicate_succ,List.set_cons_zero,List.take_add_one,List.getElem?_eq_getElem hi];show _=(List.take i l++[l[i]])++_;rw[List.append_assoc];rfl
theorem Qf3 {R:List Int} {ra:Option Addr} {rc:Nat} (hr:RowV h (.slice ra R.length rc) (isV R)):0 <R.length-> ∃b o cs e m,ra=some ⟨b,o,none⟩/\h.get b=some (.cells cs e m)/\b <h.n/\ ∀a:Int,0<=a->a <R.length->cs[o+Int.toNat a*1]?=some (iV (reg R a)):=fun hp=>by
 obtain⟨b,o,c,cs,e,m,hv,hg,hb,hc⟩:=hr.atM hp;refine⟨b,o,cs,e,m,by injection hv,hg,hb,fun a h0 h1=>?_⟩;rw[Nat.mul_one,hc _ (by omega)];unfold reg;rw[List.getElem?_eq_getElem (by omega)];rfl
theorem Qfe (X:Q1f h P V):sameV 20 (.agg (pvL P V).toArray) (.agg (pvL P V).toArray)=true:=by
 obtain⟨⟨oa,oc,e1⟩,⟨ca,cc,e2⟩,⟨ga,gc,e3⟩,⟨fa,fc,e4⟩,⟨pa,pc,e5⟩,⟨ea,ec,e6⟩,⟨sa,sc,e7⟩⟩:=X.vals;unfold pvL;rw[e1,e2,e3,e4,e5,e6,e7];cases oa<;>cases ca<;>cases ga<;>cases fa<;>cases pa<;>cases ea<;>cases sa<;>simp[sameV,sameV.sameL,Z5]
theorem m70 {f:Int} {cells:List Int} {cv:Value} (X:Q1f h P V) (hM:ZJ P=true) (f0:0<=f) (f1:f <P.funs.length) (hc:RowV h cv (isV cells)) (hl:(cells.length:Int)<=(Qt P f).regs):C modE 70 [.agg (pvL P V).toArray,iV f,cv] h fun v g'=> ∃rv rb,v=.agg #[iV f,iV 0,rv]/\SH h [] [slR 2 0 rv (isV (Y9 P f cells).regs) (Y9 P f cells).regs.length rb] g':=by
 obtain⟨ca,cc,rfl⟩:=hc.valM;have hat:=Qf3 hc;have hcode:=Yz hM f0 f1;obtain⟨fb,fo,fc,fcs,fe,fm,hfu,hfg,hfl,hfn,s,cv,hfc,hco⟩:=PrgAt.fun X f0 f1;have kf:fcs[fo+Int.toNat f*4+2]?=some (iV (Qt P f).regs):=Qs hfc (by omega) rfl
 have hnl:(Y9 P f cells).regs.length=(Qt P f).regs.toNat:=by
  show(cells++List.replicate ((Qt P f).regs.toNat -cells.length) 0).length=_;simp;omega
 generalize hn:(Qt P f).regs.toNat=n at hnl;have hn':(Qt P f).regs=n:=by omega
 rw[hn']at kf;have hcl:cells.length<=n:=by omega
 refine YZ (fu:=Try.f70) (by kernel_rfl) rfl ?_;have S:=SH.start h;refine Q6 ?_;refine QX S gn rfl rfl fun b1 g nb1 S=>?_;refine Qo (zv:=.agg #[.int .i64 0,.int .i64 0,.slice none 0 0]) S gn rfl (by kernel_rfl) fun b2 g nb2 S=>?_;refine QL<|I1 rfl<|I0 3 rfl<|I4 rfl (S.cel 1 rfl) rfl<|I1 rfl ?_;rw[hfu];refine I5o 4 rfl rfl ?_;rw[<-hfu];refine I0 2 rfl<|I4 rfl (S.old0 hfg hfl) kf ?_;refine Z3 (e:=2) (z:=0) (zv:=.int .i64 0) (by':=8) S gn rfl rfl rfl (by kernel_rfl) (by kernel_rfl) (by kernel_rfl) (by kernel_rfl) (by decide) (by omega) (by omega) (by omega) (by omega) fun b3 g nb3 S=>?_
 have S:=S.toSl (z:=0) (n:=n) 0 rfl (.inl rfl) (by rw[show(Value.int .i64 0).cells.toList=[iV 0] from rfl,Q35];simp);rw[show(Value.int .i64 0).cells.toList=[iV 0] from rfl,Q35]at S;refine Qz (zv:=.agg #[.int .i64 0,.int .i64 0,.slice none 0 0]) (pl:=[(0,1),(1,1),(2,1)]) [(0,_),(2,_)] gn rfl (by kernel_rfl) (by kernel_rfl) rfl (by rfl) ?_;refine Qo (zv:=.agg #[.int .i64 0,.int .i64 0,.slice none 0 0]) S gn rfl (by kernel_rfl) fun b4 g nb4 S=>?_;refine Qe (n:=3) 0 S gn rfl rfl (by kernel_rfl) (by kernel_rfl) rfl rfl (by decide) rfl (fun g S=>ag0) fun g S=>?_;refine Q0<|Q3<|Q3 ?_
 have S:SH h [] [cR b4 (.cells [iV f,iV 0,.slice (some ⟨b3,0,none⟩) n n] 162 0),slR 2 0 (.slice (some ⟨b3,0,none⟩) n n) (isV (List.replicate n 0)) n [b3],cR b2 (.cells [iV 0,iV 0,.slice none 0 0] 162 0),cR b1 (.cells (pvL P V) 55 0)] g:=S;refine Q1 (by kernel_rfl)<|I2 rfl<|Q0<|Q5 ?_
 refine Qh [(8,_)] [(2,_),(6,_),(7,_)] (by repeat(first|exact trivial|refine⟨rfl,?_⟩)) (fun kk lv hh=> ∃i:Nat,lv=[(8,iV i)]/\kk=cells.length -i/\i<=cells.length/\SH h [] [cR b4 (.cells [iV f,iV 0,.slice (some ⟨b3,0,none⟩) n n] 162 0),slR 2 0 (.slice (some ⟨b3,0,none⟩) n n) (isV (cells.take i++List.replicate (n -i) 0)) n [b3],cR b2 (.cells [iV 0,iV 0,.slice none 0 0] 162 0),cR b1 (.cells (pvL P V) 55 0)] hh) (n:=cells.length) ?_ fun kk lv hh hI=>?_
 · exact⟨0,rfl,rfl,Nat.zero_le _,by simpa using S⟩
 obtain⟨i,rfl,hkk,hi,S⟩:=hI;refine Q3<|Q6<|I1 rfl<|I1 rfl<|I7 rfl<|Il rfl rfl<|Q0<|Q2 rfl (fun hb=>?_) fun hb=>?_
 · skip
   refine Q4 ?_;have hi:i <cells.length:=by simp at hb;omega
   obtain⟨b,o,cs,e,m,rfl,hg,hlt,hc⟩:=hat (by omega);have kc:=hc i (by omega) (by omega);have ei:reg cells i=cells[i]:=by unfold reg;rw[Int.toNat_natCast,List.getElem?_eq_getElem hi];rfl
   refine Q3<|Q5<|I9<|I0 2 rfl<|I4 rfl (S.cel 0 rfl) rfl<|I1 rfl<|I1 rfl<|I1 rfl<|I5o 1 rfl rfl<|I4 rfl (S.old0 hg hlt) kc<|I5o 1 rfl rfl<|ZG 1 S gn rfl rfl rfl (by kernel_rfl) rfl rfl (by simp;omega) (fun g S=>ag0) fun g S=>?_;refine Q0<|Q1 (by kernel_rfl)<|I1 rfl<|Iao rfl rfl<|I2 rfl<|Q0 ?_
   exact Z6 (cells.length - (i+1)) (by omega) [(8,_)] (by repeat(first|exact trivial|refine⟨rfl,?_⟩)) ⟨i+1,rfl,rfl,by omega,by
    have e:(isV (cells.take i++List.replicate (n -i) 0)).set (0+Int.toNat (i:Int)*1) (iV (reg cells i))=isV (cells.take (i+1)++List.replicate (n - (i+1)) 0):=by
     rw[Int.toNat_natCast,Nat.zero_add,Nat.mul_one,KU,ei,QdT hi hcl]
    rw[<-e];exact S⟩
 refine Ql<|Q9<|Qc<|Qm ?_;obtain rfl:i=cells.length:=by simp at hb;omega
 rw[List.take_length]at S;refine Q6<|I3 3 rfl (S.cel 0 rfl) (Nat.le_refl _) ?_;refine Qe (n:=3) 2 S gn rfl rfl (by kernel_rfl) (by kernel_rfl) rfl rfl (by decide) rfl (fun g S=>ag0) fun g S=>?_;refine Q0<|Q7 ?_;refine⟨.inl rfl,_,(Zp rfl (by kernel_rfl) (by kernel_rfl) (S.cel 2 rfl) rfl rfl),?_⟩
 exact⟨.slice (some ⟨b3,0,none⟩) n n,[b3],rfl,by
  rw[hnl];show SH h [] [slR 2 0 (.slice (some ⟨b3,0,none⟩) n n) (isV (cells++List.replicate ((Qt P f).regs.toNat -cells.length) 0)) n [b3]] _;rw[hn]
  exact S.pick 1 rfl⟩
theorem m49 {f:Int} {cells:List Int} {cv:Value} (X:Q1f h P V) (hM:ZJ P=true) (f0:0<=f) (f1:f <P.funs.length) (hc:RowV h cv (isV cells)) (hl:(cells.length:Int)=(Qt P f).caps):C modE 49 [.agg (pvL P V).toArray,iV f,cv] h fun v g'=> ∃tb bs,v=.tuple #[Qw tb,iV 0]/\SH h [] [thR tb (pvL P V) ⟨[Y9 P f cells],0⟩ bs] g':=by
 obtain⟨ca,cc,rfl⟩:=hc.valM;have hcode:=Yz hM f0 f1;obtain⟨fb,fo,fc,fcs,fe,fm,hfu,hfg,hfl,hfn,s,cv,hfc,hco⟩:=PrgAt.fun X f0 f1;have kf:fcs[fo+Int.toNat f*4+1]?=some (iV (Qt P f).caps):=Qs hfc (by omega) rfl;have hin:inB f P.funs.length=true:=Z9.2 ⟨f0,f1⟩;refine Q8 (fu:=Try.f49) (by kernel_rfl) rfl ?_;have S:=SH.start h;refine Q6 ?_;refine QX S gn rfl rfl fun b1 g nb1 S=>?_;have S:SH h [] [cR b1 (.cells (pvL P V) 55 0)] g:=S;refine I2 rfl<|I2 rfl<|Z7<|I1 rfl<|I0 3 rfl<|I4 rfl (S.cel 0 rfl) rfl ?_;rw[hfu];refine I7 rfl ?_;rw[<-hfu];refine Ic [_,_] rfl rfl (Qr (c18) ⟨ag0,?_⟩)
 refine Ib rfl<|I1 rfl ?_
 refine QT (n:=9) rfl rfl rfl gn rfl (fun hb=>by
  refine D1 hb rfl<|D7 hb rfl<|D0 3 hb rfl<|D4 hb rfl (S.cel 0 rfl) rfl<|D1 hb rfl ?_;rw[hfu];refine D5o 4 hb rfl rfl ?_;rw[<-hfu];refine D0 1 hb rfl<|D4 hb rfl (S.old0 hfg hfl) kf<|Dn hb rfl rfl ?_
  exact Q0 ⟨rfl,rfl,9,rfl,rfl⟩) ?_
 refine Q0<|Q2 rfl (fun hb=>?_) fun hb=>?_
 · skip
   refine Q6 ?_;rw[hin]at hb;simp at hb;omega
 refine Q4<|Q3<|Yq [(0,[]),(1,[]),(2,[]),(3,[]),(4,[0]),(5,[]),(6,[]),(7,[]),(8,[]),(9,[])] (by kernel_rfl) (by kernel_rfl) (by kernel_rfl) (by kernel_rfl)<|I3 8 rfl (S.cel 0 rfl) (Nat.le_refl _)<|I3 8 rfl (S.cel 0 rfl) (Nat.le_refl _)<|I1 rfl<|I1 rfl<|Ic [_,_,_] rfl rfl (C.mono (m70 (X.ext S.e0) hM f0 f1 (hc.ext S.e0) (by omega)) ?_);rintro v g ⟨rv,rb,rfl,S2⟩;have S:=SH.retL (A:=[]) S S2;obtain⟨ra,rc,rfl⟩:=Qa (S.sl 0 rfl);refine⟨ag1 (KA (n:=8) gn rfl (by kernel_rfl) (by kernel_rfl) (S.cel 1 rfl) (Nat.le_refl _) rfl (Qfe X)) ag0,?_⟩
 refine Qf (cs:= #[iV f,iV 0,.slice ra (Y9 P f cells).regs.length rc]) (e:=162) (z:=2) (zv:=.agg #[.int .i64 0,.int .i64 0,.slice none 0 0]) [(0,_)] S gn rfl (by kernel_rfl) (by kernel_rfl) (by kernel_rfl) (by kernel_rfl) rfl (by kernel_rfl) fun b2 g nb2 S=>?_;refine Qz (cs:= #[V.lo,V.cl,V.gl,V.fu,V.co,V.ev,iV P.main,V.si,.slice (some ⟨b2,0,none⟩) 1 1,iV 0]) (zv:=.agg #[.slice none 0 0,.slice none 0 0,.slice none 0 0,.slice none 0 0,.slice none 0 0,.slice none 0 0,.int .i64 0,.slice none 0 0,.slice none 0 0,.int .i64 0]) (pl:=[(0,8),(8,1),(9,1)]) [(0,_),(1,_)] gn rfl (by kernel_rfl) (by kernel_rfl) rfl (by kernel_rfl) ?_
 refine QX S gn rfl rfl fun b3 g nb3 S=>?_;have S:SH h [] [cR b3 (.cells (pvL P V++[.slice (some ⟨b2,0,none⟩) 1 1,iV 0]) 166 0),cR b2 (.cells [iV f,iV 0,.slice ra (Y9 P f cells).regs.length rc] 162 0),slR 2 0 (.slice ra (Y9 P f cells).regs.length rc) (isV (Y9 P f cells).regs) (Y9 P f cells).regs.length rb,cR b1 (.cells (pvL P V) 55 0)] g:=S;refine I2 rfl<|I2 rfl<|Q0<|Q7 ?_;refine⟨.inl rfl,_,rfl,?_⟩
 exact⟨b3,by
  have S:=S.toSl (z:=2) (n:=1) 1 rfl (.inl rfl) rfl;have e:thL b3 (pvL P V) ⟨[Y9 P f cells],0⟩ ⟨.slice (some ⟨b2,0,none⟩) 1 1,[b2],[(.slice ra (Y9 P f cells).regs.length rc,rb)]⟩=[cR b3 (.cells (pvL P V++[.slice (some ⟨b2,0,none⟩) 1 1,iV 0]) 166 0),slR 162 2 (.slice (some ⟨b2,0,none⟩) 1 1) [iV f,iV 0,.slice ra (Y9 P f cells).regs.length rc] 1 [b2],slR 2 0 (.slice ra (Y9 P f cells).regs.length rc) (isV (Y9 P f cells).regs) (Y9 P f cells).regs.length rb]:=rfl
  have S3:SH h [] ([cR b3 (.cells (pvL P V++[.slice (some ⟨b2,0,none⟩) 1 1,iV 0]) 166 0),slR 162 2 (.slice (some ⟨b2,0,none⟩) 1 1) [iV f,iV 0,.slice ra (Y9 P f cells).regs.length rc] 1 [b2],slR 2 0 (.slice ra (Y9 P f cells).regs.length rc) (isV (Y9 P f cells).regs) (Y9 P f cells).regs.length rb]++[cR b1 (.cells (pvL P V) 55 0)]) g:=S;obtain⟨bs',S4⟩:=Q9U (by rw[e];exact S3.fst) rfl
  exact⟨bs',rfl,S4⟩⟩
end
end Go.Proofs.Yteinandjhpnceaa
namespace Go.Proofs.Yteinandjhpnceaa
open Go.X Go.May Go.Mac
section
variable {h:Hp} {ra:Option Addr} {n c:Nat} {R:List Int} {vb:List Nat} {x:Ins} {it:Int}
theorem Q2P {a:Int} (x:SlC 2 0 h (.slice ra n c) (isV R) R.length vb) (h0:0<=a) (h1:a <R.length): ∃b cs m,ra=some ⟨b,0,none⟩/\h.get b=some (.cells cs 2 m)/\cs[0+Int.toNat a*1]?=some (iV (reg R a)):=by
 rcases x with⟨_,e,_⟩| ⟨b,m,c',r,e,hg,_⟩
 · cases R with
   |nil=>simp at h1;omega
   |cons _ _=>cases e
 cases e;refine⟨b,_,m,rfl,hg,?_⟩;rw[Nat.zero_add,Nat.mul_one,List.getElem?_append_left (by rw[List.length_map];omega),List.getElem?_map,Q7M h0 h1];rfl
theorem Q5c {a d:Int} (x:SlC 2 0 h (.slice ra n c) (isV R) R.length vb) (h0:0<=a/\a <R.length) (h1:0<=d/\d <R.length): ∃b cs m,ra=some ⟨b,0,none⟩/\h.get b=some (.cells cs 2 m)/\cs[0+Int.toNat a*1]?=some (iV (reg R a))/\cs[0+Int.toNat d*1]?=some (iV (reg R d)):=by
 obtain⟨b,cs,m,rfl,hg,hc⟩:=Q2P x h0.1 h0.2;obtain⟨b',cs',m',e,hg',hc'⟩:=Q2P x h1.1 h1.2;cases e;rw[hg]at hg';cases hg';exact⟨b,cs,m,rfl,hg,hc,hc'⟩
theorem reck1 (h:x.op=1):ZT x R it=some x.n:=by unfold ZT;rw[h];rfl
theorem reck2 (h:x.op=2):ZT x R it=some (reg R x.b):=by unfold ZT;rw[h];rfl
theorem reck3 (h:x.op=3):ZT x R it=some (wr (reg R x.b+reg R x.c)):=by unfold ZT;rw[h];rfl
theorem reck4 (h:x.op=4):ZT x R it=some (wr (reg R x.b -reg R x.c)):=by unfold ZT;rw[h];rfl
theorem reck5 (h:x.op=5):ZT x R it=some (wr (reg R x.b*reg R x.c)):=by unfold ZT;rw[h];rfl
theorem reck6 (h:x.op=6) {b:Bool} (hb:decide (reg R x.b <reg R x.c)=b):ZT x R it=some (if b then 1 else 0):=by
 unfold ZT;rw[h,<-hb];simp
theorem reck7 (h:x.op=7) {b:Bool} (hb:decide (reg R x.b=reg R x.c)=b):ZT x R it=some (if b then 1 else 0):=by
 unfold ZT;rw[h,<-hb];simp
theorem reck8 (h:x.op=8):ZT x R it=some it:=by unfold ZT;rw[h];rfl
theorem reck0 (h:x.op <1\/8 <x.op):ZT x R it=none:=by
 unfold ZT;rw[if_neg (by omega),if_neg (by omega),if_neg (by omega),if_neg (by omega),if_neg (by omega),if_neg (by omega),if_neg (by omega),if_neg (by omega)]
theorem reckR {n:Int} (h:ZT x R it=some n):1<=x.op/\x.op<=8:=by
 refine Classical.byContradiction fun e=>?_;rw[reck0 (by omega)]at h;cases h
end
section
variable {h0 h:Hp} {P:Prg} {V:PrV} {tb:Nat} {T:MThr} {w:ThW}
abbrev Q6M (x:Ins) (T:MThr) (it:Int):MThr:=match ZT x (Qv T).regs it with|some n=>onT (setT T x.a n) 0|none=>T
theorem Q37 {x:Ins} {it n:Int} (h:ZT x (Qv T).regs it=some n):Q6M x T it=onT (setT T x.a n) 0:=by unfold Q6M;rw[h]
theorem Q0E {x:Ins} {it:Int} (h:ZT x (Qv T).regs it=none):Q6M x T it=T:=by unfold Q6M;rw[h]
set_option maxHeartbeats 2000000 in
theorem m86 {x:Ins} {sv:Value} {v:Value×List Nat} {ln it:Int} (S0:SH h0 [] (thL tb (pvL P V) T w) h) (hM:ZJ P=true) (hw:w.vs.length=T.F.length) (hT:Km P T) (hl:0 <T.F.length) (hi:Z2 P (Qt P (Qv T).fn) x=true) (hv:w.vs[T.F.length -1]?=some v) (hs:cellV sv=true):C modE 86 [Qw tb,QfQ x sv ln,v.1,iV it] h fun r g'=>r=.bool (ZT x (Qv T).regs it).isSome/\SH h (owns (thL tb (pvL P V) T w)) (thL tb (pvL P V) (Q6M x T it) w) g':=by
 have SE:=S0.enterL;have htop:=Y5 hl;have hrl:=(hT.2 _ (ZW hl)).r;obtain⟨v1,vb⟩:=v;have hpT:(thL tb (pvL P V) T w)[2+(T.F.length -1)]?=some (slR 2 0 v1 (isV (Qv T).regs) (Qv T).regs.length vb):=Q2Z htop hv;obtain⟨ra,rc,rfl⟩:=Qa (SE.sl _ hpT);obtain⟨c1,hn1⟩: ∃c1:Nat,(Qv T).regs.length=c1:=⟨_,rfl⟩
 have hbc:3<=Yo x.op->(0<=x.b/\x.b <(Qv T).regs.length)/\(0<=x.c/\x.c <(Qv T).regs.length):=fun k=>by
  rw[hrl];exact⟨Q1X hi (by omega),Qfc hi k⟩
 refine Q8 (fu:=Try.f86) (by kernel_rfl) rfl ?_;have S:=SE;refine Q6 ?_;refine QX S gn rfl rfl fun b1 g nb1 S=>?_;refine I2 rfl<|QL<|I2 rfl<|Q0 ?_;have S:SH h (owns (thL tb (pvL P V) T w)) (cR b1 (.cells [iV x.op,iV x.a,iV x.b,iV x.c,iV x.n,sv,iV x.site,iV ln] 93 0)::thL tb (pvL P V) T w) g:=S;have hpj:(cR b1 (.cells [iV x.op,iV x.a,iV x.b,iV x.c,iV x.n,sv,iV x.site,iV ln] 93 0)::thL tb (pvL P V) T w)[2+(T.F.length -1)+1]?=some (slR 2 0 (.slice ra (Qv T).regs.length rc) (isV (Qv T).regs) (Qv T).regs.length vb):=hpT
 refine Y1 [(0,Qw tb),(2,.slice ra (Qv T).regs.length rc),(5,Qw b1)] (fun lv hh=> ∃n,lv=[(9,iV n)]/\ZT x (Qv T).regs it=some n/\SH h (owns (thL tb (pvL P V) T w)) (cR b1 (.cells [iV x.op,iV x.a,iV x.b,iV x.c,iV x.n,sv,iV x.site,iV ln] 93 0)::thL tb (pvL P V) T w) hh) ?_ fun lv hh hJ=>?_
 · skip
   refine Q6<|I0 0 rfl<|I4 rfl (S.cel 0 rfl) rfl<|Q0<|Q5<|Q6<|Ie rfl rfl<|I2 rfl<|Q0<|Q2 rfl (fun hb=>?_) fun hb=>?_
   · skip
     refine Q1 (by kernel_rfl)<|I0 4 rfl<|I4 rfl (S.cel 0 rfl) rfl<|I2 rfl<|Q0<|Qk ?_;exact ZF [(9,_)] (by repeat(first|exact trivial|refine⟨rfl,?_⟩)) ⟨_,rfl,reck1 (of_decide_eq_true hb),S⟩
   refine Q6<|Ie rfl rfl<|I2 rfl<|Q0<|Q2 rfl (fun hb=>?_) fun hb=>?_
   · skip
     refine Q1 (by kernel_rfl)<|I1 rfl<|I0 2 rfl<|I4 rfl (S.cel 0 rfl) rfl ?_
     have hx:0<=x.b/\x.b <(Qv T).regs.length:=by
      rw[hrl];exact Q1X hi (by rw[show x.op=2 from of_decide_eq_true hb];decide)
     obtain⟨b2,cs,m,rfl,hg,k1⟩:=Q2P (a:=x.b) (S.sl _ hpj) hx.1 hx.2;refine I5o 1 rfl rfl<|I4 rfl hg k1<|I2 rfl<|Q0<|Qk ?_;exact ZF [(9,_)] (by repeat(first|exact trivial|refine⟨rfl,?_⟩)) ⟨_,rfl,reck2 (of_decide_eq_true hb),S⟩
   refine Q6<|Ie rfl rfl<|I2 rfl<|Q0<|Q2 rfl (fun hb=>?_) fun hb=>?_
   · skip
     refine I9<|I1 rfl<|I0 2 rfl<|I4 rfl (S.cel 0 rfl) rfl ?_;have hx:=hbc (by rw[show x.op=3 from of_decide_eq_true hb];decide);obtain⟨b2,cs,m,rfl,hg,k1,k2⟩:=Q5c (S.sl _ hpj) hx.1 hx.2;refine I5o 1 rfl rfl<|I4 rfl hg k1<|I1 rfl<|I0 3 rfl<|I4 rfl (S.cel 0 rfl) rfl<|I5o 1 rfl rfl<|I4 rfl hg k2<|Q05 gn rfl rfl rfl<|I2 rfl<|Q0<|Qk ?_;exact ZF [(9,_)] (by repeat(first|exact trivial|refine⟨rfl,?_⟩)) ⟨_,rfl,reck3 (of_decide_eq_true hb),S⟩
   refine Q6<|Ie rfl rfl<|I2 rfl<|Q0<|Q2 rfl (fun hb=>?_) fun hb=>?_
   · skip
     refine I9<|I1 rfl<|I0 2 rfl<|I4 rfl (S.cel 0 rfl) rfl ?_;have hx:=hbc (by rw[show x.op=4 from of_decide_eq_true hb];decide);obtain⟨b2,cs,m,rfl,hg,k1,k2⟩:=Q5c (S.sl _ hpj) hx.1 hx.2;refine I5o 1 rfl rfl<|I4 rfl hg k1<|I1 rfl<|I0 3 rfl<|I4 rfl (S.cel 0 rfl) rfl<|I5o 1 rfl rfl<|I4 rfl hg k2<|o_subW gn rfl rfl rfl<|I2 rfl<|Q0<|Qk ?_;exact ZF [(9,_)] (by repeat(first|exact trivial|refine⟨rfl,?_⟩)) ⟨_,rfl,reck4 (of_decide_eq_true hb),S⟩
   refine Q6<|Ie rfl rfl<|I2 rfl<|Q0<|Q2 rfl (fun hb=>?_) fun hb=>?_
   · skip
     refine I9<|I1 rfl<|I0 2 rfl<|I4 rfl (S.cel 0 rfl) rfl ?_;have hx:=hbc (by rw[show x.op=5 from of_decide_eq_true hb];decide);obtain⟨b2,cs,m,rfl,hg,k1,k2⟩:=Q5c (S.sl _ hpj) hx.1 hx.2;refine I5o 1 rfl rfl<|I4 rfl hg k1<|I1 rfl<|I0 3 rfl<|I4 rfl (S.cel 0 rfl) rfl<|I5o 1 rfl rfl<|I4 rfl hg k2<|o_mulW gn rfl rfl rfl<|I2 rfl<|Q0<|Qk ?_;exact ZF [(9,_)] (by repeat(first|exact trivial|refine⟨rfl,?_⟩)) ⟨_,rfl,reck5 (of_decide_eq_true hb),S⟩
   refine Q6<|Ie rfl rfl<|I2 rfl<|Q0<|Q2 rfl (fun hb=>?_) fun hb=>?_
   · skip
     refine Q3<|I9 ?_;have ho:=of_decide_eq_true hb;refine I1 rfl<|I0 2 rfl<|I4 rfl (S.cel 0 rfl) rfl ?_;have hx:=hbc (by rw[show x.op=6 from of_decide_eq_true hb];decide);obtain⟨b2,cs,m,rfl,hg,k1,k2⟩:=Q5c (S.sl _ hpj) hx.1 hx.2;refine I5o 1 rfl rfl<|I4 rfl hg k1<|I1 rfl<|I0 3 rfl<|I4 rfl (S.cel 0 rfl) rfl<|I5o 1 rfl rfl<|I4 rfl hg k2<|Il rfl rfl<|Q0<|Q2 rfl (fun hb=>?_) fun hb=>?_
     · skip
       refine Q1 (by kernel_rfl)<|I2 rfl<|Q0<|Qk ?_;exact ZF [(9,_)] (by repeat(first|exact trivial|refine⟨rfl,?_⟩)) ⟨_,rfl,reck6 ho hb,S⟩
     refine Q4<|Qk ?_;exact ZF [(9,_)] (by repeat(first|exact trivial|refine⟨rfl,?_⟩)) ⟨_,rfl,reck6 ho hb,S⟩
   refine Q6<|Ie rfl rfl<|I2 rfl<|Q0<|Q2 rfl (fun hb=>?_) fun hb=>?_
   · skip
     refine Q3<|I9 ?_;have ho:=of_decide_eq_true hb;refine I1 rfl<|I0 2 rfl<|I4 rfl (S.cel 0 rfl) rfl ?_;have hx:=hbc (by rw[show x.op=7 from of_decide_eq_true hb];decide);obtain⟨b2,cs,m,rfl,hg,k1,k2⟩:=Q5c (S.sl _ hpj) hx.1 hx.2;refine I5o 1 rfl rfl<|I4 rfl hg k1<|I1 rfl<|I0 3 rfl<|I4 rfl (S.cel 0 rfl) rfl<|I5o 1 rfl rfl<|I4 rfl hg k2<|Ie rfl rfl<|Q0<|Q2 rfl (fun hb=>?_) fun hb=>?_
     · skip
       refine Q1 (by kernel_rfl)<|I2 rfl<|Q0<|Qk ?_;exact ZF [(9,_)] (by repeat(first|exact trivial|refine⟨rfl,?_⟩)) ⟨_,rfl,reck7 ho hb,S⟩
     refine Q4<|Qk ?_;exact ZF [(9,_)] (by repeat(first|exact trivial|refine⟨rfl,?_⟩)) ⟨_,rfl,reck7 ho hb,S⟩
   refine Q6<|Ie rfl rfl<|I2 rfl<|Q0<|Q2 rfl (fun hb=>?_) fun hb=>?_
   · skip
     refine Q1 (by kernel_rfl)<|I1 rfl<|I2 rfl<|Q0<|Qk ?_;exact ZF [(9,_)] (by repeat(first|exact trivial|refine⟨rfl,?_⟩)) ⟨_,rfl,reck8 (of_decide_eq_true hb),S⟩
   refine Q6<|I2 rfl<|Q0<|Q7 ?_;refine⟨.inl rfl,_,rfl,?_⟩
   exact(by
    have e:ZT x (Qv T).regs it=none:=by
     unfold ZT;rw[if_neg (of_decide_eq_false ‹decide (x.op=1)=false›),if_neg (of_decide_eq_false ‹decide (x.op=2)=false›),if_neg (of_decide_eq_false ‹decide (x.op=3)=false›),if_neg (of_decide_eq_false ‹decide (x.op=4)=false›),if_neg (of_decide_eq_false ‹decide (x.op=5)=false›),if_neg (of_decide_eq_false ‹decide (x.op=6)=false›),if_neg (of_decide_eq_false ‹decide (x.op=7)=false›),if_neg (of_decide_eq_false ‹decide (x.op=8)=false›)]
    rw[Q0E e,e]
    exact⟨rfl,SH.drop S⟩)
 obtain⟨n,rfl,hn,S⟩:=hJ;refine Q6<|I1 rfl<|I0 1 rfl<|I4 rfl (S.cel 0 rfl) rfl<|I1 rfl ?_;have hr:=reckR hn
 have ha:=Q01 hi (by
  obtain⟨h1,h2⟩:=hr;have:x.op=1\/x.op=2\/x.op=3\/x.op=4\/x.op=5\/x.op=6\/x.op=7\/x.op=8:=by omega
  rcases this with e|e|e|e|e|e|e|e<;>(rw[e];decide))
 have ha':0<=x.a/\x.a <((isV (Qv T).regs).length:Nat):=by
  rw[List.length_map,hrl];exact ha
 obtain⟨b2,cs2,m2,rfl,hg2,k2⟩:=Q2P (a:=x.a) (S.sl _ hpj) ha.1 (by rw[hrl];exact ha.2);refine I5o 1 rfl rfl<|ZG (2+(T.F.length -1)+1) S gn rfl rfl rfl (by kernel_rfl) hpj rfl (by omega) (fun g S=>ag0) fun g S=>?_;have S2:SH h (owns (thL tb (pvL P V) T w)) (cR b1 _::(thL tb (pvL P V) T w).set (2+(T.F.length -1)) _) g:=S;have S3:=S2.drop;rw[Q1M htop hv]at S3;have S3:SH h (owns (thL tb (pvL P V) T w)) (thL tb (pvL P V) (setT T x.a n) w) g:=S3;have hT1:=JS (a:=x.a) (n:=n) hT;refine QL<|I1 rfl ?_
 refine Z1 [_,_] gn rfl rfl (by kernel_rfl) rfl (C.mono (m91 (k:=0) (P:=P) (V:=V) (T:=setT T x.a n) (w:=w) (h0:=h0) (SH.subL0 S0 S0.own0L S3) (by rw[hT1.2];exact hw) hT1.1 (by omega) (fun y hy=>(Kv hM (hT1.1.2 y hy)).1)) ?_);intro v g S2;have S:=SH.retL0 S3 S2;refine⟨ag0,?_⟩;refine QL<|I2 rfl<|Q0<|Q7 ?_;refine⟨.inl rfl,_,rfl,?_⟩;exact⟨by rw[hn];rfl,by rw[Q37 hn];exact S⟩
end
end Go.Proofs.Yteinandjhpnceaa
namespace Go.Proofs.Yteinandjhpnceaa
open Go.X Go.May Go.Mac
section
variable {H:List MObj} {P:Prg} {F:Fun} {x:Ins}
theorem Q8H {o:MObj} (h:H.length<=1024):(Qec H o).length<=1024:=by
 unfold Qec
 split
 · exact h
 rw[List.length_append];simp;omega
theorem Q2f {k o s z b:Int} (h:H.length<=1024):(Qb7 H k o s z b).length<=1024:=by
 unfold Qb7
 split
 · exact Q8H h
 exact h
theorem Qcf {o z b:Int} {c:List Int} (h:H.length<=1024):(Qcg H o c z b).length<=1024:=by
 unfold Qcg
 split
 · exact Q8H h
 exact h
theorem QcY {id i n:Int} (h:H.length<=1024):(setH H id i n).length<=1024:=by
 unfold setH
 split
 · rw[List.length_modify];exact h
 exact h
theorem QdG (hM:ZJ P=true) (hi:Z2 P F x=true) (ho:x.op=21):x.l.length<=256:=by
 have hn:=Q0e hi;unfold Q18 at hn;rw[if_neg (by omega),if_neg (by omega),if_pos ho]at hn;simp only[Bool.and_eq_true,decide_eq_true_eq,Z9]at hn;have hc:=Yz hM hn.1.1 hn.1.2
 have e:Js P x.n=(Qt P x.n).caps:=by
  unfold Js;rw[J9 hn.1.1 hn.1.2];rfl
 omega
theorem Qbt (hi:Z2 P F x=true) (ho:x.op=14):0<=x.n/\x.n <P.classes.length:=by
 have hn:=Q0e hi;unfold Q18 at hn;rw[if_neg (by omega),if_pos ho]at hn;exact Z9.1 hn
def TS (x:Ins) (T T':MThr):Prop:=T'=T\/(∃k,k≠0/\T'= {T with trap:=k})\/ ∃n,T'=onT (setT T x.a n) 0
def mkOp (o:Int):Prop:=o=11\/o=14\/o=17\/o=21
end
section
variable {h0 h:Hp} {P:Prg} {V:PrV} {tb ph:Nat} {T:MThr} {w:ThW} {H:List MObj} {hbs:List Nat}
abbrev bxR (b:Nat) (x:Ins) (sv:Value) (ln:Int):Res:=cR b (.cells [iV x.op,iV x.a,iV x.b,iV x.c,iV x.n,sv,iV x.site,iV ln] 93 0)
set_option maxHeartbeats 4000000 in
theorem m87 {x:Ins} {sv:Value} {v:Value×List Nat} {ln task:Int} (S0:SH h0 [] (hpR ph H hbs::thL tb (pvL P V) T w) h) (X0:Q1f h0 P V) (hM:ZJ P=true) (hw:w.vs.length=T.F.length) (hT:Km P T) (hl:0 <T.F.length) (hi:Z2 P (Qt P (Qv T).fn) x=true) (hv:w.vs[T.F.length -1]?=some v) (hsl:RowV h0 sv (isV x.l)) (hH:H.length<=1024):C modE 87 [Qw tb,Qw ph,QfQ x sv ln,v.1,iV task] h fun r g'=> ∃(b:Bool) (e:Int) (T':MThr) (H':List MObj) (hbs':List Nat),r=.tuple #[.bool b,iV e]/\(b=false->T'=T/\H'=H/\ ¬mkOp x.op)/\(b=true->mkOp x.op)/\TS x T T'/\H'.length<=1024/\SH h (owns (hpR ph H hbs::thL tb (pvL P V) T w)) (hpR ph H' hbs'::thL tb (pvL P V) T' w) g':=by
 have SE:=S0.enterL;have htop:=Y5 hl;have hrl:=(hT.2 _ (ZW hl)).r;obtain⟨v1,vb⟩:=v;have hpT:(thL tb (pvL P V) T w)[2+(T.F.length -1)]?=some (slR 2 0 v1 (isV (Qv T).regs) (Qv T).regs.length vb):=Q2Z htop hv;have hpj0:(hpR ph H hbs::thL tb (pvL P V) T w)[2+(T.F.length -1)+1]?=some (slR 2 0 v1 (isV (Qv T).regs) (Qv T).regs.length vb):=hpT;obtain⟨ra,rc,rfl⟩:=Qa (SE.sl _ hpj0);obtain⟨la,lc,rfl⟩:=hsl.valM;refine Q8 (fu:=Try.f87) (by kernel_rfl) rfl ?_;have S:=SE;refine Q6 ?_;refine QX S gn rfl rfl fun b1 g nb1 S=>?_;refine I2 rfl<|I2 rfl<|QL<|I2 rfl<|I2 rfl<|Q0 ?_
 have S:SH h (owns (hpR ph H hbs::thL tb (pvL P V) T w)) (bxR b1 x (.slice la x.l.length lc) ln::hpR ph H hbs::thL tb (pvL P V) T w) g:=S;refine Y1 [(0,Qw tb),(3,.slice ra (Qv T).regs.length rc),(7,Qw b1)] (fun lv hh=> ∃(n e:Int) (H':List MObj) (hbs':List Nat),lv=[(12,iV n),(13,iV e)]/\mkOp x.op/\H'.length<=1024/\SH h (owns (hpR ph H hbs::thL tb (pvL P V) T w)) (bxR b1 x (.slice la x.l.length lc) ln::hpR ph H' hbs'::thL tb (pvL P V) T w) hh) ?_ fun lv hh hJ=>?_
 · skip
   refine Q6<|I0 0 rfl<|I4 rfl (S.cel 0 rfl) rfl<|Q0<|Q5<|Q6<|Ie rfl rfl<|I2 rfl<|Q0<|Q2 rfl (fun hb=>?_) fun hb=>?_
   · skip
     refine Q1 (by kernel_rfl)<|I1 rfl<|I0 4 rfl<|I4 rfl (S.cel 0 rfl) rfl<|I0 6 rfl<|I4 rfl (S.cel 0 rfl) rfl<|I1 rfl<|Ic [_,_,_,_,_,_] rfl rfl (C.mono (m98 (SH.sub1 S0 S0.own0L S 1 rfl)) ?_);rintro v g ⟨rfl,hbs',S2⟩;have S:=S.ret 1 rfl S2;refine⟨ag0,?_⟩;refine I1 rfl<|Ix rfl rfl<|Ix rfl rfl<|I2 rfl<|I2 rfl<|Q0<|Qk ?_;exact ZF [(12,_),(13,_)] (by repeat(first|exact trivial|refine⟨rfl,?_⟩)) ⟨_,_,_,hbs',rfl,.inl (of_decide_eq_true hb),Q2f hH,S⟩
   refine Q6<|Ie rfl rfl<|I2 rfl<|Q0<|Q2 rfl (fun hb=>?_) fun hb=>?_
   · skip
     refine I9 ?_;have hcx:=Qbt hi (of_decide_eq_true hb);obtain⟨cb,co,cc,ccs,ce,cm,hcl,hcg,hclt,hcn,hcat⟩:=(X0.ext (S0.all0 S0.own0L S)).cl.at (by omega);obtain⟨⟨cs1,ca,cb2,cd,ce2,hcr⟩,_,_⟩:=hcat x.n.toNat (by omega);refine I1 rfl<|I0 4 rfl<|I4 rfl (S.cel 0 rfl) rfl<|I1 rfl<|I6 rfl<|I0 0 rfl<|I0 1 rfl<|I4 rfl (S.cel 2 rfl) rfl<|I0 4 rfl<|I4 rfl (S.cel 0 rfl) rfl ?_;rw[hcl];refine I5o 3 rfl rfl ?_;rw[<-hcl];refine I0 2 rfl<|I4 rfl hcg (Qs hcr (by omega) rfl)<|I7 rfl<|I0 6 rfl<|I4 rfl (S.cel 0 rfl) rfl<|I1 rfl ?_
     refine Ic [_,_,_,_,_,_] rfl rfl (C.mono (m98 (SH.sub1 S0 S0.own0L S 1 rfl)) ?_);rintro v g ⟨rfl,hbs',S2⟩;have S:=S.ret 1 rfl S2;refine⟨ag0,?_⟩;refine I1 rfl<|Ix rfl rfl<|Ix rfl rfl<|I2 rfl<|I2 rfl<|Q0<|Qk ?_;exact ZF [(12,_),(13,_)] (by repeat(first|exact trivial|refine⟨rfl,?_⟩)) ⟨_,_,_,hbs',rfl,.inr (.inl (of_decide_eq_true hb)),Q2f hH,S⟩
   refine Q6<|Ie rfl rfl<|I2 rfl<|Q0<|Q2 rfl (fun hb=>?_) fun hb=>?_
   · skip
     refine Q3<|Q6 ?_;have ho:x.op=17:=of_decide_eq_true hb
     have hx:0<=x.b/\x.b <(Qv T).regs.length:=by
      rw[hrl];exact Q1X hi (by rw[ho];decide)
     have hpj:(bxR b1 x (.slice la x.l.length lc) ln::hpR ph H hbs::thL tb (pvL P V) T w)[2+(T.F.length -1)+1+1]?=some (slR 2 0 (.slice ra (Qv T).regs.length rc) (isV (Qv T).regs) (Qv T).regs.length vb):=hpT;obtain⟨b2,cs,m,rfl,hg,k1⟩:=Q2P (a:=x.b) (S.sl _ hpj) hx.1 hx.2;refine I1 rfl<|I0 2 rfl<|I4 rfl (S.cel 0 rfl) rfl<|I5o 1 rfl rfl<|I4 rfl hg k1<|Il rfl rfl<|I1 rfl ?_
     refine QT (n:=6) rfl rfl rfl gn rfl (fun hb=>by
      refine D1 hb rfl<|D0 2 hb rfl<|D4 hb rfl (S.cel 0 rfl) rfl<|D5o 1 hb rfl rfl<|D4 hb rfl hg k1<|Dg hb rfl rfl ?_
      exact Q0 ⟨rfl,rfl,6,rfl,rfl⟩) ?_
     refine Q0<|Q2 rfl (fun hb=>?_) fun hb=>?_
     · skip
       refine Q6<|I1 rfl<|I6 rfl<|I0 9 rfl ?_;refine Qi 2 S gn rfl rfl rfl (by kernel_rfl) rfl (by decide) (by simp) (fun g S=>ag0) fun g S=>?_;refine QL<|I2 rfl<|I2 rfl<|Q0<|Q7 ?_;refine⟨.inl rfl,_,rfl,?_⟩;exact⟨true,0,{T with trap:=3},H,hbs,rfl,fun e=>Bool.noConfusion e,fun _=>.inr (.inr (.inl ho)),.inr (.inl ⟨3,by decide,rfl⟩),hH,S.drop⟩
     refine Q4<|I9<|I1 rfl<|I1 rfl<|I0 2 rfl<|I4 rfl (S.cel 0 rfl) rfl<|I5o 1 rfl rfl<|I4 rfl hg k1<|I0 6 rfl<|I4 rfl (S.cel 0 rfl) rfl<|I1 rfl<|Ic [_,_,_,_,_,_] rfl rfl (C.mono (m98 (SH.sub1 S0 S0.own0L S 1 rfl)) ?_);rintro v g ⟨rfl,hbs',S2⟩;have S:=S.ret 1 rfl S2;refine⟨ag0,?_⟩;refine I1 rfl<|Ix rfl rfl<|Ix rfl rfl<|I2 rfl<|I2 rfl<|Q0<|Qk ?_;exact ZF [(12,_),(13,_)] (by repeat(first|exact trivial|refine⟨rfl,?_⟩)) ⟨_,_,_,hbs',rfl,.inr (.inr (.inl ho)),Q2f hH,S⟩
   refine Q6<|Ie rfl rfl<|I2 rfl<|Q0<|Q2 rfl (fun hb=>?_) fun hb=>?_
   · skip
     refine Q6<|I2 rfl<|Z7<|I2 rfl<|Q0 ?_;have ho:x.op=21:=of_decide_eq_true hb;have hl256:=QdG hM hi ho;refine Q5 ?_
     refine Qh [(14,_),(15,_)] [(0,_),(1,_),(2,_),(3,_),(4,_),(7,_),(10,_),(11,_),(12,_),(13,_),(16,_),(17,_),(18,_),(19,_),(30,_),(31,_),(53,_),(54,_),(85,_),(86,_)] (by repeat(first|exact trivial|refine⟨rfl,?_⟩)) (fun kk lv hh=> ∃(i:Nat) (s:Value) (sb:List Nat),lv=[(14,s),(15,iV i)]/\kk=x.l.length -i/\i<=x.l.length/\SH h (owns (hpR ph H hbs::thL tb (pvL P V) T w)) (slR 2 0 s (isV ((x.l.take i).map (reg (Qv T).regs))) i sb::bxR b1 x (.slice la x.l.length lc) ln::hpR ph H hbs::thL tb (pvL P V) T w) hh) (n:=x.l.length) ?_ fun kk lv hh hI=>?_
     · exact⟨0,.slice none 0 0,[],rfl,rfl,Nat.zero_le _,S.nilSl 2 0⟩
     obtain⟨i,s,sb,rfl,hkk,hin,S⟩:=hI;refine Q3<|Q6<|I1 rfl<|I0 5 rfl<|I4 rfl (S.cel 1 rfl) rfl<|I7 rfl<|Il rfl rfl<|Q0<|Q2 rfl (fun hb=>?_) fun hb=>?_
     · skip
       refine Q4 ?_;have hin:i <x.l.length:=by simp at hb;omega
       have hpj:(slR 2 0 s (isV ((x.l.take i).map (reg (Qv T).regs))) i sb::bxR b1 x (.slice la x.l.length lc) ln::hpR ph H hbs::thL tb (pvL P V) T w)[2+(T.F.length -1)+1+1+1]?=some (slR 2 0 (.slice ra (Qv T).regs.length rc) (isV (Qv T).regs) (Qv T).regs.length vb):=hpT;have hx:=ins_l hi x.l[i] (List.getElem_mem hin);rw[<-hrl]at hx;obtain⟨b2,cs,m,rfl,hg,k1⟩:=Q2P (a:=x.l[i]) (S.sl _ hpj) hx.1 hx.2;obtain⟨lb,lo,lc',lcs,le,lm,hlv,hlg,hlb,hlat⟩:=(hsl.ext (S0.all0 S0.own0L S)).atM (by omega);obtain⟨rfl,rfl⟩:la=some ⟨lb,lo,none⟩/\lc=lc':=by simpa using hlv
       have k2:lcs[lo+Int.toNat (i:Int)*1]?=some (iV x.l[i]):=by
        rw[Int.toNat_natCast,Nat.mul_one];exact hlat i hin
       refine Q3<|Q5<|Q1 (by kernel_rfl)<|I1 rfl<|I1 rfl<|I0 5 rfl<|I4 rfl (S.cel 1 rfl) rfl<|I1 rfl<|I5o 1 rfl rfl<|I4 rfl hlg k2<|I5o 1 rfl rfl<|I4 rfl hg k1 ?_;refine Qf (e:=2) (z:=0) (zv:=.int .i64 0) [(0,_)] S gn rfl (by kernel_rfl) (by kernel_rfl) (by kernel_rfl) (by kernel_rfl) rfl (by rfl) fun b2 g nb2 S=>?_;refine QE (e:=2) (z:=0) (by':=7) 1 0 S el2 gn rfl rfl rfl rfl rfl rfl (by rfl) (by omega) (fun s' bs' g S=>ag0) fun s' bs' g S=>?_;have S:=S.drop;refine I2 rfl<|Q0<|Q1 (by kernel_rfl)<|I1 rfl<|Iao rfl rfl ?_
       refine I2 rfl<|Q0 ?_
       exact Z6 (x.l.length - (i+1)) (by omega) [(14,_),(15,_)] (by repeat(first|exact trivial|refine⟨rfl,?_⟩)) ⟨i+1,_,_,rfl,rfl,by omega,by
        have e:isV ((x.l.take i).map (reg (Qv T).regs))++[iV (reg (Qv T).regs x.l[i])]=isV ((x.l.take (i+1)).map (reg (Qv T).regs)):=by
         rw[List.take_add_one,List.getElem?_eq_getElem hin,List.map_append,Q2l];rfl
        rw[<-e];exact S⟩
     refine Ql<|Q9<|Qc<|Qm ?_;obtain rfl:i=x.l.length:=by simp at hb;omega
     refine Q1 (by kernel_rfl)<|I1 rfl<|I0 4 rfl<|I4 rfl (S.cel 1 rfl) rfl<|I1 rfl<|I0 6 rfl<|I4 rfl (S.cel 1 rfl) rfl<|I1 rfl ?_;refine Z1 [_,_,_,_,_] gn rfl rfl (by kernel_rfl) rfl (C.mono (m99 (SH.sub1 S0 S0.own0L S 2 rfl) (S.sl 0 rfl).row (by rw[List.length_map,List.length_take];omega)) ?_);rintro v g ⟨rfl,hbs',S2⟩;have S:=S.ret 2 rfl S2;refine⟨ag0,?_⟩;refine I1 rfl<|Ix rfl rfl<|Ix rfl rfl<|I2 rfl<|I2 rfl<|Q0<|Qk ?_
     exact ZF [(12,_),(13,_)] (by repeat(first|exact trivial|refine⟨rfl,?_⟩)) ⟨_,_,_,hbs',rfl,.inr (.inr (.inr ho)),Qcf hH,S.drop⟩
   refine Q6<|I2 rfl<|I2 rfl<|Q0<|Q7 ?_;refine⟨.inl rfl,_,rfl,?_⟩
   exact⟨false,0,T,H,hbs,rfl,fun _=>⟨rfl,rfl,by
    rintro(e|e|e|e)
    · exact of_decide_eq_false ‹decide (x.op=11)=false› e
    · exact of_decide_eq_false ‹decide (x.op=14)=false› e
    · exact of_decide_eq_false ‹decide (x.op=17)=false› e
    exact of_decide_eq_false ‹decide (x.op=21)=false› e⟩,fun e=>Bool.noConfusion e,.inl rfl,hH,S.drop⟩
 obtain⟨n,e,H',hbs',rfl,ho,hH',S⟩:=hJ;refine Q3<|Q6<|I1 rfl<|In rfl rfl<|Q0<|Q2 rfl (fun hb=>?_) fun hb=>?_
 · skip
   refine Q6<|I2 rfl<|I2 rfl<|Q0<|Q7 ?_;refine⟨.inl rfl,_,rfl,?_⟩;exact⟨true,11,T,H',hbs',rfl,fun e=>Bool.noConfusion e,fun _=>ho,.inl rfl,hH',S.drop⟩
 refine Q4<|Q6 ?_;have ha:=Q01 hi (by rcases ho with e|e|e|e<;>(rw[e];decide))
 have ha':0<=x.a/\x.a <((isV (Qv T).regs).length:Nat):=by
  rw[List.length_map,hrl];exact ha
 have hpj:(bxR b1 x (.slice la x.l.length lc) ln::hpR ph H' hbs'::thL tb (pvL P V) T w)[2+(T.F.length -1)+1+1]?=some (slR 2 0 (.slice ra (Qv T).regs.length rc) (isV (Qv T).regs) (Qv T).regs.length vb):=hpT;obtain⟨b2,cs2,m2,rfl,hg2,k2⟩:=Q2P (a:=x.a) (S.sl _ hpj) ha.1 (by rw[hrl];exact ha.2);refine I1 rfl<|I0 1 rfl<|I4 rfl (S.cel 0 rfl) rfl<|I1 rfl<|I5o 1 rfl rfl<|ZG (2+(T.F.length -1)+1+1) S gn rfl rfl rfl (by kernel_rfl) hpj rfl (by omega) (fun g S=>ag0) fun g S=>?_
 have S2:SH h (owns (hpR ph H hbs::thL tb (pvL P V) T w)) (bxR b1 x (.slice _ x.l.length lc) ln::hpR ph H' hbs'::(thL tb (pvL P V) T w).set (2+(T.F.length -1)) _) g:=S;have S3:=S2.drop;rw[Q1M htop hv]at S3;have S3:SH h (owns (hpR ph H hbs::thL tb (pvL P V) T w)) (thL tb (pvL P V) (setT T x.a n) w++[hpR ph H' hbs']) g:=SH.comm (A:=[_]) S3;have hT1:=JS (a:=x.a) (n:=n) hT;refine QL<|I1 rfl ?_;refine Z1 [_,_] gn rfl rfl (by kernel_rfl) rfl (C.mono (m91 (k:=0) (P:=P) (V:=V) (T:=setT T x.a n) (w:=w) (h0:=h0) (SH.subL S0 S0.own0L S3) (by rw[hT1.2];exact hw) hT1.1 (by omega) (fun y hy=>(Kv hM (hT1.1.2 y hy)).1)) ?_);intro v g S2
 have S:=SH.comm (B:=[_]) (SH.retL S3 S2);refine⟨ag0,?_⟩;refine QL<|I2 rfl<|I2 rfl<|Q0<|Q7 ?_;refine⟨.inl rfl,_,rfl,?_⟩;exact⟨true,0,_,H',hbs',rfl,fun e=>Bool.noConfusion e,fun _=>ho,.inr (.inr ⟨n,rfl⟩),hH',S⟩
end
end Go.Proofs.Yteinandjhpnceaa
namespace Go.Proofs.Yteinandjhpnceaa
open Go.X Go.May Go.Mac
def acV (a:MAcc):List Value:=[iV a.site,iV a.kind,iV a.a,iV a.b,.bool a.write]
def acC (A:List MAcc):List Value:=A.flatMap acV
def TV (x:Ins) (T T':MThr):Prop:=(∃k,k≠0/\T'= {T with trap:=k})\/ ∃T1,(T1=T\/ ∃n,T1=setT T x.a n)/\T'=onT T1 0
section
variable {h0 h:Hp} {P:Prg} {V:PrV} {tb ph:Nat} {T:MThr} {w:ThW} {H:List MObj} {hbs:List Nat}
set_option maxHeartbeats 4000000 in
theorem m88 {x:Ins} {sv:Value} {v:Value×List Nat} {ln kind lk id i n:Int} {wrt:Bool} (S0:SH h0 [] (hpR ph H hbs::thL tb (pvL P V) T w) h) (hM:ZJ P=true) (hw:w.vs.length=T.F.length) (hT:Km P T) (hl:0 <T.F.length) (hax:wrt=false->0<=x.a/\x.a <(Qt P (Qv T).fn).regs) (hv:w.vs[T.F.length -1]?=some v) (hs:cellV sv=true) (hH:H.length<=1024):C modE 88 [Qw tb,Qw ph,QfQ x sv ln,iV kind,iV lk,iV id,iV i,.bool wrt,iV n,v.1] h fun r g'=> ∃(A:List MAcc) (ab:List Nat) (T':MThr) (H':List MObj) (hbs':List Nat),A.length<=1/\TV x T T'/\H'.length<=1024/\SH h (owns (hpR ph H hbs::thL tb (pvL P V) T w)) (slR 34 4 r (acC A) A.length ab::hpR ph H' hbs'::thL tb (pvL P V) T' w) g':=by
 have SE:=S0.enterL;have htop:=Y5 hl;have hrl:=(hT.2 _ (ZW hl)).r;obtain⟨v1,vb⟩:=v;have hpT:(thL tb (pvL P V) T w)[2+(T.F.length -1)]?=some (slR 2 0 v1 (isV (Qv T).regs) (Qv T).regs.length vb):=Q2Z htop hv;have hpj0:(hpR ph H hbs::thL tb (pvL P V) T w)[2+(T.F.length -1)+1]?=some (slR 2 0 v1 (isV (Qv T).regs) (Qv T).regs.length vb):=hpT;obtain⟨ra,rc,rfl⟩:=Qa (SE.sl _ hpj0);have hH6:H.length<=1000000:=by omega
 refine Q8 (fu:=Try.f88) (by kernel_rfl) rfl ?_;have S:=SE;refine Q6 ?_;refine QX S gn rfl rfl fun b1 g nb1 S=>?_;have S:SH h (owns (hpR ph H hbs::thL tb (pvL P V) T w)) (bxR b1 x sv ln::hpR ph H hbs::thL tb (pvL P V) T w) g:=S;refine I2 rfl<|Z7<|I1 rfl<|I1 rfl<|I1 rfl<|Ic [_,_,_] rfl rfl (Qr (m89 (S.res 1 rfl) hH6) ⟨ag0,?_⟩);refine Ib rfl<|Q0<|Q2 rfl (fun hb=>?_) fun hb=>?_
 · skip
   refine Q6<|I1 rfl<|I6 rfl<|I0 9 rfl ?_;refine Qi 2 S gn rfl rfl rfl (by kernel_rfl) rfl (by decide) (by simp) (fun g S=>ag0) fun g S=>?_;refine QL<|I2 rfl<|Q0<|Q7 ?_;refine⟨.inl rfl,_,rfl,?_⟩;exact⟨[],[],{T with trap:=1},H,hbs,Nat.zero_le _,.inl ⟨1,by decide,rfl⟩,hH,SH.nilSl S.drop 34 4⟩
 refine Q4<|Q3<|Q6<|I1 rfl<|Il rfl rfl<|I1 rfl ?_
 refine QT (n:=5) rfl rfl rfl gn rfl (fun hb=>by
  refine D1 hb rfl<|D1 hb rfl<|D1 hb rfl<|Dc hb [_,_] rfl rfl (Qr (m90 (S.res 1 rfl) hH6) ⟨ag0,?_⟩);refine Dh hb rfl rfl ?_
  exact Q0 ⟨rfl,rfl,5,rfl,rfl⟩) ?_
 refine Q0<|Q2 rfl (fun hb=>?_) fun hb=>?_
 · skip
   refine Q6<|I1 rfl<|I6 rfl<|I0 9 rfl ?_;refine Qi 2 S gn rfl rfl rfl (by kernel_rfl) rfl (by decide) (by simp) (fun g S=>ag0) fun g S=>?_;refine Q0<|Y1 [] (fun lv hh=> ∃k:Int,lv=[]/\k≠0/\SH h (owns (hpR ph H hbs::thL tb (pvL P V) T w)) (bxR b1 x sv ln::hpR ph H hbs::thL tb (pvL P V) {T with trap:=k} w) hh) ?_ fun lv hh hJ=>?_
   · skip
     refine Q6<|I1 rfl<|Ie rfl rfl<|Q0<|Q2 rfl (fun hb=>?_) fun hb=>?_
     · skip
       refine Q1 (by kernel_rfl)<|I1 rfl<|I6 rfl<|I0 9 rfl ?_;refine Qi 2 S gn rfl rfl rfl (by kernel_rfl) rfl (by decide) (by simp) (fun g S=>ag0) fun g S=>?_;refine Q0 ?_;exact ZF [] (by repeat(first|exact trivial|refine⟨rfl,?_⟩)) ⟨2,rfl,by decide,S⟩
     refine Q4 ?_;exact ZF [] (by repeat(first|exact trivial|refine⟨rfl,?_⟩)) ⟨1,rfl,by decide,S⟩
   obtain⟨k,rfl,hk,S⟩:=hJ;refine Q6<|I2 rfl<|Q0<|Q7 ?_;refine⟨.inl rfl,_,rfl,?_⟩;exact⟨[],[],{T with trap:=k},H,hbs,Nat.zero_le _,.inl ⟨k,hk,rfl⟩,hH,SH.nilSl S.drop 34 4⟩
 refine Q4<|Y1 [(0,Qw tb),(4,iV lk),(5,iV id),(6,iV i),(7,.bool wrt),(12,Qw b1)] (fun lv hh=> ∃(T1:MThr) (H':List MObj) (hbs':List Nat),lv=[]/\(T1=T\/ ∃n,T1=setT T x.a n)/\H'.length<=1024/\SH h (owns (hpR ph H hbs::thL tb (pvL P V) T w)) (bxR b1 x sv ln::hpR ph H' hbs'::thL tb (pvL P V) T1 w) hh) ?_ fun lv hh hJ=>?_
 · skip
   refine Q6<|I1 rfl<|Q0<|Q2 rfl (fun hb=>?_) fun hb=>?_
   · skip
     refine Q1 (by kernel_rfl)<|I1 rfl<|I1 rfl<|I1 rfl<|I1 rfl<|Ic [_,_,_,_] rfl rfl (C.mono (m100 (SH.sub1 S0 S0.own0L S 1 rfl) hH6) ?_);rintro v g ⟨rfl,hbs',S2⟩;have S:=S.ret 1 rfl S2;refine⟨ag0,?_⟩;refine Q0 ?_;exact ZF [] (by repeat(first|exact trivial|refine⟨rfl,?_⟩)) ⟨T,_,hbs',rfl,.inl rfl,QcY hH,S⟩
   refine Yq [(0,[]),(1,[]),(2,[]),(3,[]),(4,[]),(5,[]),(6,[2]),(7,[]),(8,[]),(9,[]),(10,[]),(11,[])] (by kernel_rfl) (by kernel_rfl) (by kernel_rfl) (by kernel_rfl) ?_;have ha:=hax hb
   have ha':0<=x.a/\x.a <((isV (Qv T).regs).length:Nat):=by
    rw[List.length_map,hrl];exact ha
   have hpj:(bxR b1 x sv ln::hpR ph H hbs::thL tb (pvL P V) T w)[2+(T.F.length -1)+1+1]?=some (slR 2 0 (.slice ra (Qv T).regs.length rc) (isV (Qv T).regs) (Qv T).regs.length vb):=hpT;obtain⟨b2,cs2,m2,rfl,hg2,k2⟩:=Q2P (a:=x.a) (S.sl _ hpj) ha.1 (by rw[hrl];exact ha.2);refine I1 rfl<|I0 1 rfl<|I4 rfl (S.cel 0 rfl) rfl<|I1 rfl<|I1 rfl<|I1 rfl<|Ic [_,_,_] rfl rfl (Qr (m101 (S.res 1 rfl) hH6) ⟨(ag1 (Kb gn rfl (by kernel_rfl) (S.cel 0 rfl) rfl rfl Q3D) ag0),?_⟩);refine I1 rfl<|Ix rfl rfl<|Ix rfl rfl<|I5o 1 rfl rfl ?_
   refine ZG (2+(T.F.length -1)+1+1) S gn rfl rfl rfl (by kernel_rfl) hpj rfl (by omega) (fun g S=>ag0) fun g S=>?_;refine Q0 ?_
   exact ZF [] (by repeat(first|exact trivial|refine⟨rfl,?_⟩)) ⟨setT T x.a (getV H id i),H,hbs,rfl,.inr ⟨_,rfl⟩,hH,by
    have S2:SH h (owns (hpR ph H hbs::thL tb (pvL P V) T w)) (bxR b1 x sv ln::hpR ph H hbs::(thL tb (pvL P V) T w).set (2+(T.F.length -1)) (slR 2 0 _ ((isV (Qv T).regs).set (0+x.a.toNat*1) (iV (getV H id i))) _ vb)) g:=S;rw[Q1M htop hv]at S2
    exact S2⟩
 obtain⟨T1,H',hbs',rfl,hT1,hH',S⟩:=hJ
 have hk1:Km P T1/\T1.F.length=T.F.length:=by
  rcases hT1 with rfl| ⟨n,rfl⟩
  · exact⟨hT,rfl⟩
  exact JS hT
 have S3:SH h (owns (hpR ph H hbs::thL tb (pvL P V) T w)) (thL tb (pvL P V) T1 w++[bxR b1 x sv ln,hpR ph H' hbs']) hh:=SH.comm (A:=[_,_]) S;refine Q6<|I1 rfl ?_;refine Z1 [_,_] gn rfl rfl (by kernel_rfl) rfl (C.mono (m91 (k:=0) (P:=P) (V:=V) (T:=T1) (w:=w) (h0:=h0) (SH.subL S0 S0.own0L S3) (by rw[hk1.2];exact hw) hk1.1 (by omega) (fun y hy=>(Kv hM (hk1.1.2 y hy)).1)) ?_);intro v g S2;have S:=SH.comm (B:=[_,_]) (SH.retL S3 S2);refine⟨ag0,?_⟩;refine QL<|I0 6 rfl<|I4 rfl (S.cel 0 rfl) rfl<|I1 rfl<|I1 rfl<|I1 rfl ?_
 refine Qz (cs:= #[iV lk,iV id,iV i]) (zv:=.agg #[.int .i64 0,.int .i64 0,.int .i64 0]) (pl:=[(0,1),(1,1),(2,1)]) [(0,_),(1,_),(2,_)] gn rfl (by kernel_rfl) (by kernel_rfl) rfl (by kernel_rfl)<|I1 rfl<|Qz (cs:= #[iV x.site,iV lk,iV id,iV i,.bool wrt]) (zv:=.agg #[.int .i64 0,.int .i64 0,.int .i64 0,.int .i64 0,.bool false]) (pl:=[(0,1),(1,3),(4,1)]) [(0,_),(1,_),(2,_)] gn rfl (by kernel_rfl) (by kernel_rfl) rfl (by kernel_rfl) ?_
 refine Qf (cs:= #[iV x.site,iV lk,iV id,iV i,.bool wrt]) (e:=34) (z:=4) (zv:=.agg #[.int .i64 0,.int .i64 0,.int .i64 0,.int .i64 0,.bool false]) [(0,_)] S gn rfl (by kernel_rfl) (by kernel_rfl) (by kernel_rfl) (by kernel_rfl) rfl (by kernel_rfl) fun b2 g nb2 S=>?_;refine I2 rfl<|Q0<|Q7 ?_;refine⟨.inl rfl,_,rfl,?_⟩
 exact⟨[⟨x.site,lk,id,i,wrt⟩],[b2],onT T1 0,H',hbs',Nat.le_refl _,.inr ⟨T1,hT1,rfl⟩,hH',by
  have S:=S.toSl (z:=4) (n:=1) 0 rfl (.inl rfl) rfl
  exact SH.drop (SH.swap S)⟩
end
end Go.Proofs.Yteinandjhpnceaa
