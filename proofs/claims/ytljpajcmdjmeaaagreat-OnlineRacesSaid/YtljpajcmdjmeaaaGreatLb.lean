/- The walks and the laws, part Lb. Conditions: none. -/
import Derived.Test.YtljpajcmdjmeaaaGreatLa
import Derived.Test.YtljpajcmdjmeaaaGreatXd
set_option maxHeartbeats 16000000
open List renaming take_length → v0V, getElem?_eq_getElem → v0c, append_assoc → v0B, take_add_one → v0U, length_take → v0D, length_append → v0j, getElem?_cons_zero → v0S, modify_succ_cons → v07, mem_of_getElem? → v0m, all_cons → v1n, length_map → v0s, replicate → v0n
open Nat renaming mul_one → v0x, zero_add → v0f, le_refl → v0b, zero_le → v0t
open Int renaming toNat_natCast → v0e, toNat → v0g
open Bool renaming true_and → v0F, false_and → v04, not_eq_true' → v0I, and_false → v0T, not_eq_false' → v2r, eq_iff_iff → v1H, or_eq_true → v0H, and_eq_true → v0h, or_eq_false_iff → v0Y, and_true → v1i, noConfusion → v1R
open Option renaming some → v0i
namespace Go.Proofs.YtljpajcmdjmeaaaGreat
open Go.X Go.May
section
variable {h:Hp} {P:Prg} {lo cl gl fu co ev si cv lv:Value} {s:ByteArray} {F:Fun} {x:Ins} {ln:Int}
theorem abc_at {a b c:Int} {j:Nat} (hj:j <3):([iV a,iV b,iV c]:List Value)[j]?=some (iV ([a,b,c][j])):=by
 match j,hj with
 |0,_=>rfl
 |1,_=>rfl
 |2,_=>rfl
theorem mem2 {a b o:Int} (h:decide (o∈[a,b])=true):o=a\/o=b:=by simpa using h
theorem QfC {a b o:Int} (h:decide (o∈[a,b])=false): ¬(o=a\/o=b):=by simpa using h
theorem l_neg {o:Int} {b:Bool} (h:(!decide (o=21)|| !b)=true):(decide (o=21)&&b)=false:=by
 cases b<;>simp_all
theorem l_pos {o:Int} {b:Bool} (h:(!decide (o=21)|| !b)=false):(decide (o=21)&&b)=true:=by
 cases b<;>simp_all
theorem c9 (X:PrgAt h P lo cl gl fu co ev si) (hx:RowV h lv (isV x.l)) (fy:x.l.length<=17592186043904) (hc: ∃a c,cv=.slice a F.code.length c):C modE 18 [Qed P lo cl gl fu co ev si,funV s F cv,QfV x lv ln] h fun v h'=>v=.bool (Z2 P F x)/\Ext h h':=by
 obtain⟨⟨oa,oc,rfl⟩,⟨ca,cc,rfl⟩,⟨ga,gc,rfl⟩,⟨fa,fc,rfl⟩,-,⟨ea,ec,rfl⟩,-⟩:=X.vals;obtain⟨va,vc,rfl⟩:=hc;obtain⟨la,lc,rfl⟩:=hx.valM;have jk:=regs3 x.op;refine Q9 (fu:=Tryz.f18) (by kernel_rfl) rfl ?_;have S:=SH.start h;refine Q6 ?_;refine QV S gn rfl rfl fun b1 g aF S=>?_;refine QV S gn rfl rfl fun b2 g bL S=>?_;refine QV S gn rfl rfl fun b3 g fq S=>?_;refine I2 rfl<|Z5<|I0 0 rfl<|I4 rfl (S.cel 0 rfl) rfl<|Il rfl rfl<|I1 rfl ?_
 refine QS (n:=3) rfl rfl rfl gn rfl (fun hb=>by
  refine D0 0 hb rfl<|D4 hb rfl (S.cel 0 rfl) rfl<|Dg hb rfl rfl ?_
  exact Q0 ⟨rfl,rfl,3,rfl,rfl⟩) ?_
 refine Q0<|Q3 rfl (fun hb=>?_) fun hb=>?_
 · skip
   refine Q6<|I2 rfl<|Q0<|Q8 ⟨.inl rfl,_,rfl,⟨by rw[Qb6 (op_out hb)];rfl,S.e0⟩⟩
 refine Q4<|Q5 ?_;have dK:=op_in hb;refine Q2 (by kernel_rfl)<|I0 1 rfl<|I4 rfl (S.cel 0 rfl) rfl<|I0 2 rfl<|I4 rfl (S.cel 0 rfl) rfl<|I0 3 rfl<|I4 rfl (S.cel 0 rfl) rfl ?_;refine Qd (e:=3) (z:=0) (zv:=.int .i64 0) [(0,_),(1,_),(2,_)] S gn rfl (by kernel_rfl) (by kernel_rfl) (by kernel_rfl) (by kernel_rfl) rfl (by rfl) fun b4 g kx S=>?_;refine I2 rfl<|Z5<|I2 rfl<|Q0<|Q7 ?_
 refine Ql [(8,_)] [(3,_),(4,_),(5,_),(7,_)] (fun kk lv hh=> ∃j:Nat,lv=[(8,iV j)]/\kk=Ys x.op -j/\j<=Ys x.op/\SH h [] [cR b4 (.cells [iV x.a,iV x.b,iV x.c] 3 0),cR b3 (.cells (insC x (.slice la x.l.length lc) ln) 76 0),cR b2 (.cells (QgJ s F (.slice va F.code.length vc)) 73 0),cR b1 (.cells (Q9h P (.slice oa P.loopers oc) (.slice ca P.classes.length cc) (.slice ga P.globals gc) (.slice fa P.funs.length fc) co (.slice ea P.events.length ec) si) 30 0)] hh/\(([x.a,x.b,x.c].take j).all fun r=>inB r F.regs)=true) (n:=(Ys x.op)) ?_ fun kk lv hh hI=>?_
 · exact⟨0,rfl,rfl,by omega,S,rfl⟩
 obtain⟨j,rfl,rfl,hj,S,aq⟩:=hI;refine Q5<|Q6<|I1 rfl<|I0 0 rfl<|I4 rfl (S.cel 1 rfl) rfl<|Ic [_] rfl rfl (Qm (c19) ⟨ag0,?_⟩);refine Il rfl rfl<|Q0<|Q3 rfl (fun hb=>?_) fun hb=>?_
 · skip
   refine Q4<|Q5<|Q7<|Q5 ?_;have cZ:j <Ys x.op:=by simp at hb;omega
   have mj:j <3:=by omega
   refine I9<|I1 rfl<|I1 rfl<|I5o 1 rfl rfl<|Kd gn rfl rfl (by kernel_rfl) (S.cel 0 rfl) (by rw[v0e,v0x,v0f];exact abc_at mj)<|I0 2 rfl<|I4 rfl (S.cel 2 rfl) rfl<|Ic [_,_] rfl rfl (Qm (c18) ⟨ag0,?_⟩);refine Ib rfl<|Q0<|Q3 rfl (fun hb=>?_) fun hb=>?_
   · skip
     refine Q6<|I2 rfl<|Q0<|Q8 ⟨.inl rfl,_,rfl,⟨by rw[Qb5 (Q9X cZ mj (by simpa using hb))];rfl,S.e0⟩⟩
   refine Q4<|Q2 (by kernel_rfl)<|I1 rfl<|Iao rfl rfl<|I2 rfl<|Q0 ?_;exact ZC (Ys x.op - (j+1)) [(8,_)] (p:=⟨j+1,rfl,rfl,by omega,S,by rw[Q9W mj,aq,v0F];simpa using hb⟩)
 refine Qp<|Qc<|Qe<|Qo<|Q5<|Q5 ?_;have jy:j=Ys x.op:=by simp at hb;omega
 subst jy;have mW:Q2O F x=true:=aq;refine Q2 (by kernel_rfl)<|I2 rfl<|Q0<|Q7 ?_
 refine Ql [(9,_)] [(3,_),(4,_),(5,_)] (fun kk lv hh=> ∃j:Nat,lv=[(9,iV j)]/\kk=x.l.length -j/\j<=x.l.length/\SH h [] [cR b4 (.cells [iV x.a,iV x.b,iV x.c] 3 0),cR b3 (.cells (insC x (.slice la x.l.length lc) ln) 76 0),cR b2 (.cells (QgJ s F (.slice va F.code.length vc)) 73 0),cR b1 (.cells (Q9h P (.slice oa P.loopers oc) (.slice ca P.classes.length cc) (.slice ga P.globals gc) (.slice fa P.funs.length fc) co (.slice ea P.events.length ec) si) 30 0)] hh/\((x.l.take j).all fun r=>decide (x.op=21)&&inB r F.regs)=true) (n:=(x.l.length)) ?_ fun kk lv hh hI=>?_
 · exact⟨0,rfl,rfl,by omega,S,rfl⟩
 obtain⟨j,rfl,rfl,hj,S,aq⟩:=hI;refine Q5<|Q6<|I1 rfl<|I0 5 rfl<|I4 rfl (S.cel 1 rfl) rfl<|I7 rfl<|Il rfl rfl<|Q0<|Q3 rfl (fun hb=>?_) fun hb=>?_
 · skip
   refine Q4<|Q5<|Q7<|Q5 ?_;have cZ:j <x.l.length:=by simp at hb;omega
   refine I9<|I0 0 rfl<|I4 rfl (S.cel 1 rfl) rfl<|In rfl rfl<|I1 rfl ?_
   refine QS (B:= !inB x.l[j] F.regs) (n:=9) rfl rfl rfl gn rfl (fun hb=>by
    refine D0 5 hb rfl<|D4 hb rfl (S.cel 1 rfl) rfl<|D1 hb rfl ?_;obtain⟨b,o,c,cs,e,m,hv,hg,bP,aX⟩:=hx.atM (by omega);have bG:la=some ⟨b,o,none⟩:=by injection hv
    rw[bG];refine D5o 1 hb rfl rfl<|Kd (gy rfl rfl rfl hb) rfl rfl (by kernel_rfl) (S.old0 hg bP) (by rw[v0e,v0x];exact aX j cZ)<|D0 2 hb rfl<|D4 hb rfl (S.cel 2 rfl) rfl ?_;rw[<-bG];refine Dc hb [_,_] rfl rfl (Qm (c18) ⟨ag0,?_⟩);refine Db hb rfl ?_
    exact Q0 ⟨rfl,rfl,9,rfl,rfl⟩) ?_
   refine Q0<|Q3 rfl (fun hb=>?_) fun hb=>?_
   · skip
     refine Q6<|I2 rfl<|Q0<|Q8 ⟨.inl rfl,_,rfl,⟨by rw[Qb4 (l_fail cZ (l_neg hb))];rfl,S.e0⟩⟩
   refine Q4<|Q2 (by kernel_rfl)<|I1 rfl<|Iao rfl rfl<|I2 rfl<|Q0 ?_;exact ZC (x.l.length - (j+1)) [(9,_)] (p:=⟨j+1,rfl,rfl,by omega,S,by rw[l_step cZ,aq,v0F];exact l_pos hb⟩)
 refine Qp<|Qc<|Qe<|Qo<|Q5<|Q5 ?_;have jy:j=x.l.length:=by simp at hb;omega
 have hl:lB F x=true:=by rw[jy,v0V]at aq;exact aq
 have hI:=Qb3 (P:=P) dK mW hl;unfold Q1j at hI;refine Q2 (by kernel_rfl)<|I0 0 rfl<|I4 rfl (S.cel 1 rfl) rfl<|Q0<|Q7<|Yh 62 [(9,64),(10,65)] [(3,_),(4,_),(5,_),(62,_)] (by kernel_rfl) rfl (by repeat(first|exact trivial|refine⟨rfl,?_⟩)) (by rfl) (fun hb=>?_) fun hb=>?_
 · skip
   refine Q6<|I0 4 rfl<|I4 rfl (S.cel 1 rfl) rfl<|I0 2 rfl<|I4 rfl (S.cel 3 rfl) rfl<|I7 rfl<|Ic [_,_] rfl rfl (Qm (c18) ⟨ag0,?_⟩);refine I2 rfl<|Q0<|Q8 ⟨.inl rfl,_,rfl,⟨by rw[hI,if_pos (mem2 hb)];rfl,S.e0⟩⟩
 refine Q5 ?_;rw[if_neg (QfC hb)]at hI;refine Q2 (by kernel_rfl)<|Ie rfl rfl<|I2 rfl<|Q0<|Q3 rfl (fun hb=>?_) fun hb=>?_
 · skip
   refine Q6<|I0 4 rfl<|I4 rfl (S.cel 1 rfl) rfl<|I0 1 rfl<|I4 rfl (S.cel 3 rfl) rfl<|I7 rfl<|Ic [_,_] rfl rfl (Qm (c18) ⟨ag0,?_⟩);refine I2 rfl<|Q0<|Q8 ⟨.inl rfl,_,rfl,⟨by rw[hI,if_pos (of_decide_eq_true hb)];rfl,S.e0⟩⟩
 refine Q5 ?_;rw[if_neg (of_decide_eq_false hb)]at hI;refine Q2 (by kernel_rfl)<|Ie rfl rfl<|I2 rfl<|Q0<|Q3 rfl (fun hb=>?_) fun hb=>?_
 · skip
   refine Q5 ?_;rw[if_pos (of_decide_eq_true hb)]at hI;refine I9<|I0 4 rfl<|I4 rfl (S.cel 1 rfl) rfl<|I0 3 rfl<|I4 rfl (S.cel 3 rfl) rfl<|I7 rfl<|Ic [_,_] rfl rfl (Qm (c18) ⟨ag0,?_⟩);refine I1 rfl ?_
   refine Qt (B:=decide (Jx P x.n=x.l.length)) (n:=11) rfl rfl rfl gn rfl (fun hb=>by
    refine D0 3 hb rfl<|D4 hb rfl (S.cel 3 rfl) rfl<|D0 4 hb rfl<|D4 hb rfl (S.cel 1 rfl) rfl ?_;obtain⟨b,o,c,cs,e,m,hv,hg,bP,gT,hf1,hw⟩:=X.caps hb;have bG:fa=some ⟨b,o,none⟩:=by injection hv
    rw[bG];refine D5o 4 hb rfl rfl<|D0 1 hb rfl<|D4 hb rfl (S.old0 hg bP) hw ?_;rw[<-bG];refine D0 5 hb rfl<|D4 hb rfl (S.cel 1 rfl) rfl<|D7 hb rfl<|De hb rfl rfl ?_
    exact Q0 ⟨rfl,rfl,11,rfl,rfl⟩) ?_
   refine I2 rfl<|Q0<|Q8 ⟨.inl rfl,_,rfl,⟨by rw[hI];rfl,S.e0⟩⟩
 refine Q5 ?_;rw[if_neg (of_decide_eq_false hb)]at hI;refine Q2 (by kernel_rfl)<|Ie rfl rfl<|I2 rfl<|Q0<|Q3 rfl (fun hb=>?_) fun hb=>?_
 · skip
   refine Q6<|I0 3 rfl<|I4 rfl (S.cel 1 rfl) rfl<|I0 0 rfl<|I4 rfl (S.cel 3 rfl) rfl<|I7 rfl<|Ic [_,_] rfl rfl (Qm (c18) ⟨ag0,?_⟩);refine I1 rfl ?_
   refine Qt (n:=3) rfl rfl rfl gn rfl (fun hb=>by
    refine D0 4 hb rfl<|D4 hb rfl (S.cel 1 rfl) rfl<|Dc hb [_,_] rfl rfl (Qm (c18) ⟨ag0,?_⟩)
    exact Q0 ⟨rfl,rfl,3,rfl,rfl⟩) ?_
   refine I2 rfl<|Q0<|Q8 ⟨.inl rfl,_,rfl,⟨by rw[hI,if_pos (of_decide_eq_true hb)];rfl,S.e0⟩⟩
 refine Q5 ?_;rw[if_neg (of_decide_eq_false hb)]at hI;refine Q2 (by kernel_rfl)<|Ie rfl rfl<|I2 rfl<|Q0<|Q3 rfl (fun hb=>?_) fun hb=>?_
 · skip
   refine Q6<|I0 3 rfl<|I4 rfl (S.cel 1 rfl) rfl<|I0 0 rfl<|I4 rfl (S.cel 3 rfl) rfl<|I7 rfl<|Ic [_,_] rfl rfl (Qm (c18) ⟨ag0,?_⟩);refine I2 rfl<|Q0<|Q8 ⟨.inl rfl,_,rfl,⟨by rw[hI,if_pos (of_decide_eq_true hb)];rfl,S.e0⟩⟩
 rw[if_neg (of_decide_eq_false hb)]at hI;refine Yh 62 [(26,123),(27,124)] [(3,_),(4,_),(5,_),(62,_)] (by kernel_rfl) rfl (by repeat(first|exact trivial|refine⟨rfl,?_⟩)) (by rfl) (fun hb=>?_) fun hb=>?_
 · skip
   refine Q6<|I0 4 rfl<|I4 rfl (S.cel 1 rfl) rfl<|I0 5 rfl<|I4 rfl (S.cel 3 rfl) rfl<|I7 rfl<|Ic [_,_] rfl rfl (Qm (c18) ⟨ag0,?_⟩);refine I2 rfl<|Q0<|Q8 ⟨.inl rfl,_,rfl,⟨by rw[hI,if_pos (mem2 hb)];rfl,S.e0⟩⟩
 rw[if_neg (QfC hb)]at hI;refine Yh 62 [(31,132),(32,133)] [(4,_),(5,_)] (by kernel_rfl) rfl (by repeat(first|exact trivial|refine⟨rfl,?_⟩)) (by rfl) (fun hb=>?_) fun hb=>?_
 · skip
   refine Q6<|I0 4 rfl<|I4 rfl (S.cel 1 rfl) rfl<|I0 3 rfl<|I4 rfl (S.cel 2 rfl) rfl<|I7 rfl<|Ic [_,_] rfl rfl (Qm (c18) ⟨ag0,?_⟩);refine I2 rfl<|Q0<|Q8 ⟨.inl rfl,_,rfl,⟨by rw[hI,if_pos (mem2 hb)];rfl,S.e0⟩⟩
 refine Q4<|Q6<|I2 rfl<|Q0<|Q8 ⟨.inl rfl,_,rfl,⟨by rw[hI,if_neg (QfC hb)];rfl,S.e0⟩⟩
end
section
variable {h:Hp} {P:Prg} {lo cl gl fu co ev si:Value}
theorem c8 (X:PrgAt h P lo cl gl fu co ev si):C modE 17 [Qed P lo cl gl fu co ev si] h fun v h'=>v=.bool (YS P)/\Ext h h':=by
 obtain⟨⟨oa,oc,rfl⟩,⟨ca,cc,rfl⟩,⟨ga,gc,rfl⟩,⟨fa,fc,rfl⟩,⟨pa,pc,rfl⟩,⟨ea,ec,rfl⟩,-⟩:=X.vals;have hz1:=X.zcl;have hz2:=X.zco;have hz3:=X.zev;refine Q9 (fu:=Tryz.f17) (by kernel_rfl) rfl ?_;have S:=SH.start h;refine Q6 ?_;refine QV S gn rfl rfl fun b1 g aF S=>?_;refine I2 rfl<|Z5<|I0 0 rfl<|I4 rfl (S.cel 0 rfl) rfl<|I7 rfl<|Il rfl rfl<|I1 rfl ?_
 refine QS (n:=4) rfl rfl rfl gn rfl (fun hb=>by
  refine D0 0 hb rfl<|D4 hb rfl (S.cel 0 rfl) rfl<|D7 hb rfl<|Dg hb rfl rfl ?_
  exact Q0 ⟨rfl,rfl,4,rfl,rfl⟩) ?_
 refine I1 rfl ?_
 refine QS (n:=4) rfl rfl rfl gn rfl (fun hb=>by
  refine D0 1 hb rfl<|D4 hb rfl (S.cel 0 rfl) rfl<|D7 hb rfl<|Dg hb rfl rfl ?_
  exact Q0 ⟨rfl,rfl,4,rfl,rfl⟩) ?_
 refine I1 rfl ?_
 refine QS (n:=4) rfl rfl rfl gn rfl (fun hb=>by
  refine D0 2 hb rfl<|D4 hb rfl (S.cel 0 rfl) rfl<|D7 hb rfl<|Dg hb rfl rfl ?_
  exact Q0 ⟨rfl,rfl,4,rfl,rfl⟩) ?_
 refine I1 rfl ?_
 refine QS (n:=4) rfl rfl rfl gn rfl (fun hb=>by
  refine D0 4 hb rfl<|D4 hb rfl (S.cel 0 rfl) rfl<|D7 hb rfl<|Dg hb rfl rfl ?_
  exact Q0 ⟨rfl,rfl,4,rfl,rfl⟩) ?_
 refine I1 rfl ?_
 refine QS (n:=4) rfl rfl rfl gn rfl (fun hb=>by
  refine D0 5 hb rfl<|D4 hb rfl (S.cel 0 rfl) rfl<|D7 hb rfl<|Dg hb rfl rfl ?_
  exact Q0 ⟨rfl,rfl,4,rfl,rfl⟩) ?_
 refine I1 rfl ?_
 refine QS (n:=4) rfl rfl rfl gn rfl (fun hb=>by
  refine D0 3 hb rfl<|D4 hb rfl (S.cel 0 rfl) rfl<|D7 hb rfl<|Dl hb rfl rfl ?_
  exact Q0 ⟨rfl,rfl,4,rfl,rfl⟩) ?_
 refine I1 rfl ?_
 refine QS (n:=4) rfl rfl rfl gn rfl (fun hb=>by
  refine D0 3 hb rfl<|D4 hb rfl (S.cel 0 rfl) rfl<|D7 hb rfl<|Dg hb rfl rfl ?_
  exact Q0 ⟨rfl,rfl,4,rfl,rfl⟩) ?_
 refine I1 rfl<|Z1 (dc:=53) rfl (fun cH=>?_) fun cH=>?_
 · skip
   refine ZD (n:=5) (dc:=53) (w:=false) rfl cH rfl<|IT rfl cH rfl<|Q0<|Q3 rfl (fun hb=>?_) fun hb=>?_
   · skip
     refine Q6<|I2 rfl<|Q0<|Q8 ⟨.inl rfl,_,rfl,⟨by rw[QeR cH];rfl,S.e0⟩⟩
   exact absurd hb (by decide)
 refine D3 8 cH rfl (S.cel 0 rfl) (v0b _)<|D0 6 cH rfl<|D4 cH rfl (S.cel 0 rfl) rfl<|Dc cH [_,_] rfl rfl (C.mono (c17 (X.ext S.e0)) ?_);rintro v g ⟨rfl,x⟩;have S:=S.grow x;refine⟨ag0,?_⟩;refine Db cH rfl<|Iu rfl cH rfl<|Q0<|Q3 rfl (fun hb=>?_) fun hb=>?_
 · skip
   refine Q6<|I2 rfl<|Q0<|Q8 ⟨.inl rfl,_,rfl,⟨by rw[Q9J cH (by simpa using hb)];rfl,S.e0⟩⟩
 refine Q4<|Q5<|Q5 ?_;have hR:=Qa9 cH (by simpa using hb);refine Q2 (by kernel_rfl)<|I2 rfl<|Q0<|Q7<|Ql [(3,_)] [(1,_)] (fun kk lv hh=> ∃j:Nat,lv=[(3,iV j)]/\kk=P.classes.length -j/\j<=P.classes.length/\SH h [] [cR b1 (.cells (Q9h P (.slice oa P.loopers oc) (.slice ca P.classes.length cc) (.slice ga P.globals gc) (.slice fa P.funs.length fc) (.slice pa P.comps.length pc) (.slice ea P.events.length ec) si) 30 0)] hh/\(P.classes.take j).all Q2G=true) (n:=(P.classes.length)) ?_ fun kk lv hh hI=>?_
 · exact⟨0,rfl,rfl,by omega,S,rfl⟩
 obtain⟨j,rfl,rfl,hj,S,aq⟩:=hI;refine Q5<|Q6<|I1 rfl<|I0 1 rfl<|I4 rfl (S.cel 0 rfl) rfl<|I7 rfl<|Il rfl rfl<|Q0<|Q3 rfl (fun hb=>?_) fun hb=>?_
 · skip
   refine Q4<|Q5<|Q7<|Q5 ?_;have cZ:j <P.classes.length:=by simp at hb;omega
   obtain⟨b,o,c,cs,e,m,hv,hg,bP,nA,aX⟩:=X.cl.at (by omega);have bG:ca=some ⟨b,o,none⟩:=by injection hv
   obtain⟨a1,a2,a3,a4,cz,aI⟩:=(aX j cZ).at;refine I9<|I0 1 rfl<|I4 rfl (S.cel 0 rfl) rfl<|I1 rfl ?_;rw[bG];refine I5o 3 rfl rfl<|I0 2 rfl<|Kd gn rfl rfl (by kernel_rfl) (S.old0 hg bP) (by rw[v0e];exact aI) ?_;rw[<-bG];refine I7 rfl<|Ig rfl rfl<|I1 rfl ?_
   refine QS (n:=15) rfl rfl rfl gn rfl (fun hb=>by
    refine D0 1 hb rfl<|D4 hb rfl (S.cel 0 rfl) rfl<|D1 hb rfl ?_;rw[bG];refine D5o 3 hb rfl rfl<|D0 1 hb rfl<|Kd (gy rfl rfl rfl hb) rfl rfl (by kernel_rfl) (S.old0 hg bP) (by rw[v0e];exact cz) ?_;rw[<-bG];refine D7 hb rfl<|D0 1 hb rfl<|D4 hb rfl (S.cel 0 rfl) rfl<|D1 hb rfl ?_;rw[bG];refine D5o 3 hb rfl rfl<|D0 2 hb rfl<|Kd (gy rfl rfl rfl hb) rfl rfl (by kernel_rfl) (S.old0 hg bP) (by rw[v0e];exact aI) ?_;rw[<-bG];refine D7 hb rfl<|Dn hb rfl rfl ?_
    exact Q0 ⟨rfl,rfl,15,rfl,rfl⟩) ?_
   refine Q0<|Q3 rfl (fun hb=>?_) fun hb=>?_
   · skip
     refine Q6<|I2 rfl<|Q0<|Q8 ⟨.inl rfl,_,rfl,⟨by rw[hR,Jl cZ (QdL hb)];rfl,S.e0⟩⟩
   refine Q4<|Q2 (by kernel_rfl)<|I1 rfl<|Iao rfl rfl<|I2 rfl<|Q0 ?_;exact ZC (P.classes.length - (j+1)) [(3,_)] (p:=⟨j+1,rfl,rfl,by omega,S,by rw[Q0z cZ,aq,QbU hb];rfl⟩)
 refine Qp<|Qc<|Qe<|Qo<|Q5<|Q5 ?_;have jy:j=P.classes.length:=by simp at hb;omega
 rw[jy,v0V]at aq;rw[aq,v0F]at hR;clear aq;refine Q2 (by kernel_rfl)<|I2 rfl<|Q0<|Q7<|Ql [(4,_)] [(1,_)] (fun kk lv hh=> ∃j:Nat,lv=[(4,iV j)]/\kk=P.comps.length -j/\j<=P.comps.length/\SH h [] [cR b1 (.cells (Q9h P (.slice oa P.loopers oc) (.slice ca P.classes.length cc) (.slice ga P.globals gc) (.slice fa P.funs.length fc) (.slice pa P.comps.length pc) (.slice ea P.events.length ec) si) 30 0)] hh/\(P.comps.take j).all (Q77 P)=true) (n:=(P.comps.length)) ?_ fun kk lv hh hI=>?_
 · exact⟨0,rfl,rfl,by omega,S,rfl⟩
 obtain⟨j,rfl,rfl,hj,S,aq⟩:=hI;refine Q5<|Q6<|I1 rfl<|I0 4 rfl<|I4 rfl (S.cel 0 rfl) rfl<|I7 rfl<|Il rfl rfl<|Q0<|Q3 rfl (fun hb=>?_) fun hb=>?_
 · skip
   refine Q4<|Q5<|Q7<|Q5<|Q5 ?_;have cZ:j <P.comps.length:=by simp at hb;omega
   obtain⟨b,o,c,cs,e,m,hv,hg,bP,nA,aX⟩:=X.co.at (by omega);have bG:pa=some ⟨b,o,none⟩:=by injection hv
   have hD:=aX j cZ;have h4:=hD.len;refine Q2 (by kernel_rfl)<|I2 rfl<|Q0<|Q7<|Ql [(5,_)] [(1,_),(4,_)] (fun kk lv hh=> ∃k:Nat,lv=[(5,iV k)]/\kk=4 -k/\k<=4/\SH h [] [cR b1 (.cells (Q9h P (.slice oa P.loopers oc) (.slice ca P.classes.length cc) (.slice ga P.globals gc) (.slice fa P.funs.length fc) (.slice pa P.comps.length pc) (.slice ea P.events.length ec) si) 30 0)] hh/\((P.comps[j].2.take k).all fun f=> !decide (0<=f)||Q05 P f)=true) (n:=4) ?_ fun kk lv hh hI=>?_
   · exact⟨0,rfl,rfl,by omega,S,rfl⟩
   obtain⟨k,rfl,rfl,hk,S,fH⟩:=hI;refine Q5<|Q6<|I1 rfl<|Il rfl rfl<|Q0<|Q3 rfl (fun hb=>?_) fun hb=>?_
   · skip
     refine Q4<|Q5<|Q7<|Q5 ?_;have bQ:k <P.comps[j].2.length:=by simp at hb;omega
     have hw:=hD.fn bQ;refine I9<|I0 4 rfl<|I4 rfl (S.cel 0 rfl) rfl<|I1 rfl<|I1 rfl ?_;rw[bG];refine I5o 6 rfl rfl<|I0 2 rfl<|YT (n:=4) (e:=3) (zz:=1) gn rfl rfl rfl (by kernel_rfl) (by omega) (by omega)<|Kd gn rfl rfl (by kernel_rfl) (S.old0 hg bP) (by rw[v0e,v0e,v0x];exact hw) ?_;rw[<-bG];refine Ih rfl rfl<|I1 rfl<|Z1 (dc:=112) rfl (fun aQ=>?_) fun aQ=>?_
     · skip
       refine D3 8 aQ rfl (S.cel 0 rfl) (v0b _)<|D0 4 aQ rfl<|D4 aQ rfl (S.cel 0 rfl) rfl<|D1 aQ rfl<|D1 aQ rfl ?_;rw[bG];refine D5o 6 aQ rfl rfl<|D0 2 aQ rfl<|YT (n:=4) (e:=3) (zz:=1) (gy rfl rfl rfl aQ) rfl rfl rfl (by kernel_rfl) (by omega) (by omega)<|Kd (gy rfl rfl rfl aQ) rfl rfl (by kernel_rfl) (S.old0 hg bP) (by rw[v0e,v0e,v0x];exact hw) ?_;rw[<-bG];refine Dc aQ [_,_] rfl rfl (C.mono (c17 (X.ext S.e0)) ?_);rintro v g ⟨rfl,x⟩;have S:=S.grow x;refine⟨ag0,?_⟩;refine Db aQ rfl<|IT rfl aQ rfl ?_
       refine Q0<|Q3 rfl (fun hb=>?_) fun hb=>?_
       · skip
         refine Q6<|I2 rfl<|Q0<|Q8 ⟨.inl rfl,_,rfl,⟨by rw[hR,Jl cZ (by rw[Q77,Jl bQ (by rw[aQ];simpa using hb),v04])];rfl,S.e0⟩⟩
       refine Q4<|Q2 (by kernel_rfl)<|I1 rfl<|Iao rfl rfl<|I2 rfl<|Q0 ?_;exact ZC (4 - (k+1)) [(5,_)] (p:=⟨k+1,rfl,rfl,by omega,S,by rw[Q0z bQ,fH,v0F];simp at hb;rw[hb];simp⟩)
     refine ZD (n:=11) (dc:=112) (w:=true) rfl aQ rfl<|Iu rfl aQ rfl<|Q0<|Q3 rfl (fun hb=>?_) fun hb=>?_
     · skip
       refine Q5 ?_;exact absurd hb (by decide)
     refine Q4<|Q2 (by kernel_rfl)<|I1 rfl<|Iao rfl rfl<|I2 rfl<|Q0 ?_
     exact ZC (4 - (k+1)) [(5,_)] (p:=⟨k+1,rfl,rfl,by omega,S,by
      rw[Q0z bQ,fH,v0F];have:decide (0<=(P.comps[j]).2[k])=false:=aQ
      rw[this];rfl⟩)
   refine Qp<|Qc<|Qe<|Qo<|Q5 ?_;have nG:k=4:=by simp at hb;omega
   have fH:(P.comps[j].2.all fun f=> !decide (0<=f)||Q05 P f)=true:=by
    rw[nG,<-h4,v0V]at fH;exact fH
   refine I9<|I0 4 rfl<|I4 rfl (S.cel 0 rfl) rfl<|I1 rfl ?_;rw[bG];refine I5o 6 rfl rfl<|I0 1 rfl<|Kd gn rfl rfl (by kernel_rfl) (S.old0 hg bP) (by rw[v0e];exact hD.lp) ?_;rw[<-bG];refine I0 0 rfl<|I4 rfl (S.cel 0 rfl) rfl<|I7 rfl<|Ic [_,_] rfl rfl (Qm (c18) ⟨ag0,?_⟩);refine Ib rfl<|Q0<|Q3 rfl (fun hb=>?_) fun hb=>?_
   · skip
     refine Q6<|I2 rfl<|Q0<|Q8 ⟨.inl rfl,_,rfl,⟨by rw[hR,Jl cZ (by rw[Q77,fH,v0F];simpa using hb)];rfl,S.e0⟩⟩
   refine Q4<|Q2 (by kernel_rfl)<|I1 rfl<|Iao rfl rfl<|I2 rfl<|Q0 ?_
   exact ZC (P.comps.length - (j+1)) [(4,_)] (p:=⟨j+1,rfl,rfl,by omega,S,by
    rw[Q0z cZ,aq,v0F,Q77,fH,v0F];simpa using hb⟩)
 refine Qp<|Qc<|Qe<|Qo<|Q5<|Q5 ?_;have jy:j=P.comps.length:=by simp at hb;omega
 rw[jy,v0V]at aq;rw[aq,v0F]at hR;clear aq;refine Q2 (by kernel_rfl)<|I2 rfl<|Q0<|Q7<|Ql [(6,_)] [(1,_)] (fun kk lv hh=> ∃j:Nat,lv=[(6,iV j)]/\kk=P.events.length -j/\j<=P.events.length/\SH h [] [cR b1 (.cells (Q9h P (.slice oa P.loopers oc) (.slice ca P.classes.length cc) (.slice ga P.globals gc) (.slice fa P.funs.length fc) (.slice pa P.comps.length pc) (.slice ea P.events.length ec) si) 30 0)] hh/\(P.events.take j).all (Q2x P)=true) (n:=(P.events.length)) ?_ fun kk lv hh hI=>?_
 · exact⟨0,rfl,rfl,by omega,S,rfl⟩
 obtain⟨j,rfl,rfl,hj,S,aq⟩:=hI;refine Q5<|Q6<|I1 rfl<|I0 5 rfl<|I4 rfl (S.cel 0 rfl) rfl<|I7 rfl<|Il rfl rfl<|Q0<|Q3 rfl (fun hb=>?_) fun hb=>?_
 · skip
   refine Q4<|Q5<|Q7<|Q5 ?_;have cZ:j <P.events.length:=by simp at hb;omega
   obtain⟨b,o,c,cs,e,m,hv,hg,bP,nA,aX⟩:=X.ev.at (by omega);have bG:ea=some ⟨b,o,none⟩:=by injection hv
   obtain⟨cz,cN⟩:=(aX j cZ).lp;refine I9<|I0 5 rfl<|I4 rfl (S.cel 0 rfl) rfl<|I1 rfl ?_;rw[bG];refine I5o 4 rfl rfl<|I0 1 rfl<|Kd gn rfl rfl (by kernel_rfl) (S.old0 hg bP) (by rw[v0e];exact cz) ?_;rw[<-bG];refine I0 0 rfl<|I4 rfl (S.cel 0 rfl) rfl<|I7 rfl<|Ic [_,_] rfl rfl (Qm (c18) ⟨ag0,?_⟩);refine Ib rfl<|I1 rfl<|Z1 (dc:=154) rfl (fun bj=>?_) fun bj=>?_
   · skip
     refine ZD (n:=9) (dc:=154) (w:=false) rfl bj rfl<|IT rfl bj rfl<|Q0<|Q3 rfl (fun hb=>?_) fun hb=>?_
     · skip
       refine Q6<|I2 rfl<|Q0<|Q8 ⟨.inl rfl,_,rfl,⟨by rw[hR,Jl cZ (by rw[Q2x];have:(!inB (P.events[j]).1 P.loopers)=true:=bj;rw[v0I]at this;rw[this];rfl)];rfl,S.e0⟩⟩
     refine Q4 ?_;exact absurd hb (by decide)
   refine D3 8 bj rfl (S.cel 0 rfl) (v0b _)<|D0 5 bj rfl<|D4 bj rfl (S.cel 0 rfl) rfl<|D1 bj rfl ?_;rw[bG];refine D5o 4 bj rfl rfl<|D0 3 bj rfl<|Kd (gy rfl rfl rfl bj) rfl rfl (by kernel_rfl) (S.old0 hg bP) (by rw[v0e];exact cN) ?_;rw[<-bG];refine Dc bj [_,_] rfl rfl (C.mono (c17 (X.ext S.e0)) ?_);rintro v g ⟨rfl,x⟩;have S:=S.grow x;refine⟨ag0,?_⟩;refine Db bj rfl<|Iu rfl bj rfl<|Q0<|Q3 rfl (fun hb=>?_) fun hb=>?_
   · skip
     refine Q6<|I2 rfl<|Q0<|Q8 ⟨.inl rfl,_,rfl,⟨by rw[hR,Jl cZ (by rw[Q2x];simp only[v0I]at hb;rw[hb,v0T])];rfl,S.e0⟩⟩
   refine Q4<|Q2 (by kernel_rfl)<|I1 rfl<|Iao rfl rfl<|I2 rfl<|Q0 ?_
   exact ZC (P.events.length - (j+1)) [(6,_)] (p:=⟨j+1,rfl,rfl,by omega,S,by
    have h1:(!inB (P.events[j]).1 P.loopers)=false:=bj;rw[v2r]at h1
    rw[Q0z cZ,aq,v0F,Q2x,h1,v0F];simpa using hb⟩)
 refine Qp<|Qc<|Qe<|Qo<|Q5 ?_;have jy:j=P.events.length:=by simp at hb;omega
 rw[jy,v0V]at aq;refine Q2 (by kernel_rfl)<|I2 rfl<|Q0<|Q8 ⟨.inl rfl,_,rfl,⟨by rw[hR,aq];rfl,S.e0⟩⟩
end
noncomputable def fs46:Array Field:=match modE.und 80 with|some (.struct fs)=>fs|_=> #[]
theorem und46:modE.und 80=some (.struct fs46):=by kernel_rfl
theorem len46:fs46.toList.length=2:=by kernel_rfl
theorem row46:fs46.toList=[fs46.toList[0]'(by rw[len46];omega),fs46.toList[1]'(by rw[len46];omega)]:=by kernel_rfl
theorem eq46 {h:Hp} (a b c d:Int):Zo modE h #[iV a,iV b] #[iV c,iV d] fs46.toList=some (decide (a=c)&&(decide (b=d)&&true)):=by
 rw[row46];exact Ze (u:=iV a) (w:=iV c) (by kernel_rfl) (by kernel_rfl) (by kernel_rfl) (by kernel_rfl) (Ze (u:=iV b) (w:=iV d) (by kernel_rfl) (by kernel_rfl) (by kernel_rfl) (by kernel_rfl) rfl)
theorem neq46 {h:Hp} {x x':Operand} (a b c d:Int):Q3v modE h .neq 80 x x' (.agg #[iV a,iV b]) (.agg #[iV c,iV d])=some (.bool (!decide ((a,b)=(c,d)))):=by
 have e:decide ((a,b)=(c,d))=(decide (a=c)&&(decide (b=d)&&true)):=by
  rw[v1H];simp
 rw[e];exact Q8l und46 (by kernel_rfl) (eq46 a b c d)
section
variable {F:Fun}
theorem Qg2 (h:(((((decide (F.regs <0)||decide (256 <F.regs))||decide (F.caps <0))||decide (F.regs <F.caps))||decide ((F.code.length:Int)<1))||decide ((512:Int)<F.code.length))=true):Q2q F=false:=by
 simp only[v0H,decide_eq_true_eq]at h;rw[<-Bool.not_eq_true];intro h';simp only[Q2q,inB,v0h,decide_eq_true_eq]at h';omega
theorem Qdo (h:(((((decide (F.regs <0)||decide (256 <F.regs))||decide (F.caps <0))||decide (F.regs <F.caps))||decide ((F.code.length:Int)<1))||decide ((512:Int)<F.code.length))=false):Q2q F=true:=by
 simp only[v0Y,decide_eq_false_iff_not]at h;simp only[Q2q,inB,v0h,decide_eq_true_eq];omega
theorem QfO (h:(!decide (KV F.code=33)&& !decide (KV F.code=31))=true):Q48 F=false:=by
 rw[Q48];simp only[v0h,v0I]at h;rw[h.1,h.2];rfl
theorem Qdf (h:(!decide (KV F.code=33)&& !decide (KV F.code=31))=false):Q48 F=true:=by
 rw[Q48]
 revert h
 cases decide (KV F.code=33)<;>cases decide (KV F.code=31)<;>simp
theorem QeT {l:List (Int×Int)} {z:Int} {n:Nat} {st:Int×Int} (h:((!decide (z=n)||decide ((l.length:Int)<=n))|| !decide (l[n]?=some st))=true):(¬z=n)\/l[n]?≠some st:=by
 simp only[v0H,v0I,decide_eq_false_iff_not,decide_eq_true_eq]at h;rcases h with(h|h)|h
 · exact .inl h
 · refine .inr ?_;rw[List.getElem?_eq_none (by omega)];intro e;cases e
 exact .inr h
theorem QeS {l:List (Int×Int)} {z:Int} {n:Nat} {st:Int×Int} (h:((!decide (z=n)||decide ((l.length:Int)<=n))|| !decide (l[n]?=some st))=false):z=n/\l[n]?=some st/\n <l.length:=by
 simp only[v0Y,v2r,decide_eq_false_iff_not,decide_eq_true_eq]at h;exact⟨h.1.1,h.2,by omega⟩
theorem neq46o {h:Hp} {x x':Operand} {a b c d:Int} {o:Option (Int×Int)} (ho:o=some (a,b)):Q3v modE h .neq 80 x x' (.agg #[iV a,iV b]) (.agg #[iV c,iV d])=some (.bool (!decide (o=some (c,d)))):=by
 subst ho;rw[neq46];simp only[v0i.injEq]
end
section
variable {h:Hp} {P:Prg} {lo cl gl fu co ev si:Value}
theorem c5 (X:PrgAt h P lo cl gl fu co ev si):C modE 6 [Qed P lo cl gl fu co ev si] h fun v h'=>v=.bool (ZM P)/\Ext h h':=by
 obtain⟨⟨oa,oc,rfl⟩,⟨ca,cc,rfl⟩,⟨ga,gc,rfl⟩,⟨fa,fc,rfl⟩,⟨pa,pc,rfl⟩,⟨ea,ec,rfl⟩,⟨sa,sc,rfl⟩⟩:=X.vals;have lV:=X.zsi;have hzf:=X.zfu;refine Q9 (fu:=Tryz.f6) (by kernel_rfl) rfl ?_;have S:=SH.start h;refine Q6 ?_;refine QV S gn rfl rfl fun b1 g aF S=>?_;refine I2 rfl<|Z5<|I3 8 rfl (S.cel 0 rfl) (v0b _)<|Ic [_] rfl rfl (C.mono (c8 (X.ext S.e0)) ?_);rintro v g ⟨rfl,x⟩;have S:=S.grow x;refine⟨ag0,?_⟩;refine Ib rfl<|Q0<|Q3 rfl (fun hb=>?_) fun hb=>?_
 · skip
   refine Q6<|I2 rfl<|Q0<|Q8 ⟨.inl rfl,_,rfl,⟨by rw[QaA (by simpa using hb)];rfl,S.e0⟩⟩
 refine Q4<|Q5 ?_;have kU:YS P=true:=by simpa using hb
 refine Q2 (by kernel_rfl)<|I2 rfl<|Z5<|I2 rfl<|Q0<|Q7<|Ql [(3,_),(4,_)] [(1,_)] (fun kk lv hh=> ∃i:Nat,lv=[(3,iV (cntF (P.funs.take i):Nat)),(4,iV i)]/\kk=P.funs.length -i/\i<=P.funs.length/\SH h [] [cR b1 (.cells (Q9h P (.slice oa P.loopers oc) (.slice ca P.classes.length cc) (.slice ga P.globals gc) (.slice fa P.funs.length fc) (.slice pa P.comps.length pc) (.slice ea P.events.length ec) (.slice sa P.sites.length sc)) 30 0)] hh/\Q7d P 0 (P.funs.take i)=true/\Zy 0 (P.funs.take i)=P.sites.take (cntF (P.funs.take i))/\cntF (P.funs.take i)<=P.sites.length) (n:=(P.funs.length)) ?_ fun kk lv hh hI=>?_
 · exact⟨0,rfl,rfl,by omega,S,rfl,rfl,v0t _⟩
 obtain⟨i,rfl,rfl,hi,S,aq,kM,jD⟩:=hI;refine Q5<|Q6<|I1 rfl<|I0 3 rfl<|I4 rfl (S.cel 0 rfl) rfl<|I7 rfl<|Il rfl rfl<|Q0<|Q3 rfl (fun hb=>?_) fun hb=>?_
 · skip
   refine Q4<|Q5<|Q7<|Q5 ?_;have cB:i <P.funs.length:=by simp at hb;omega
   obtain⟨b,o,c,cs,e,m,hv,hg,bP,nA,aX⟩:=X.fu.at (by omega);have bG:fa=some ⟨b,o,none⟩:=by injection hv
   obtain⟨⟨s,cv,hw,ck⟩,cG,jj,nX⟩:=aX i cB;obtain⟨va,vc,rfl⟩:=ck.val;have hw:(cs.drop (o+v0g (i:Int)*4)).take 4=QgJ s P.funs[i] (.slice va (P.funs[i]).code.length vc):=by rw[v0e];exact hw
   refine Q2 (by kernel_rfl)<|I0 3 rfl<|I4 rfl (S.cel 0 rfl) rfl<|I1 rfl ?_;rw[bG];refine I5o 4 rfl rfl<|QY (n:=4) gn rfl rfl (by kernel_rfl) (by kernel_rfl) (S.old0 hg bP) (by rw[v0e];omega) ?_;rw[hw,<-bG];refine Qq (zv:=.agg #[.string .empty,iV 0,iV 0,.slice none 0 0]) S gn rfl (by kernel_rfl) fun b2 g bL S=>?_;refine Qg (n:=4) 0 S gn rfl rfl (by kernel_rfl) (by kernel_rfl) rfl rfl (by decide) rfl (fun g S=>ag0) fun g S=>?_;refine Z5<|I0 2 rfl<|I4 rfl (S.cel 0 rfl) rfl<|Il rfl rfl<|I1 rfl ?_
   refine QS (n:=3) rfl rfl rfl gn rfl (fun hb=>by
    refine D0 2 hb rfl<|D4 hb rfl (S.cel 0 rfl) rfl<|Dg hb rfl rfl ?_
    exact Q0 ⟨rfl,rfl,3,rfl,rfl⟩) ?_
   refine I1 rfl ?_
   refine QS (n:=3) rfl rfl rfl gn rfl (fun hb=>by
    refine D0 1 hb rfl<|D4 hb rfl (S.cel 0 rfl) rfl<|Dl hb rfl rfl ?_
    exact Q0 ⟨rfl,rfl,3,rfl,rfl⟩) ?_
   refine I1 rfl ?_
   refine QS (n:=5) rfl rfl rfl gn rfl (fun hb=>by
    refine D0 1 hb rfl<|D4 hb rfl (S.cel 0 rfl) rfl<|D0 2 hb rfl<|D4 hb rfl (S.cel 0 rfl) rfl<|Dg hb rfl rfl ?_
    exact Q0 ⟨rfl,rfl,5,rfl,rfl⟩) ?_
   refine I1 rfl ?_
   refine QS (n:=4) rfl rfl rfl gn rfl (fun hb=>by
    refine D0 3 hb rfl<|D4 hb rfl (S.cel 0 rfl) rfl<|D7 hb rfl<|Dl hb rfl rfl ?_
    exact Q0 ⟨rfl,rfl,4,rfl,rfl⟩) ?_
   refine I1 rfl ?_
   refine QS (n:=4) rfl rfl rfl gn rfl (fun hb=>by
    refine D0 3 hb rfl<|D4 hb rfl (S.cel 0 rfl) rfl<|D7 hb rfl<|Dg hb rfl rfl ?_
    exact Q0 ⟨rfl,rfl,4,rfl,rfl⟩) ?_
   refine Q0<|Q3 rfl (fun hb=>?_) fun hb=>?_
   · skip
     refine Q6<|I2 rfl<|Q0<|Q8 ⟨.inl rfl,_,rfl,⟨by rw[Q7R cB (Qg2 hb)];rfl,S.e0⟩⟩
   refine Q4<|Q5<|Q5 ?_;have jZ:=Qdo hb;have m7:=Qdp jZ;refine Q2 (by kernel_rfl)<|I2 rfl<|Q0<|Q7 ?_
   refine Ql [(3,_),(6,_)] [(1,_),(4,_),(5,_)] (fun kk lv hh=> ∃k:Nat,lv=[(3,iV (cntF (P.funs.take i)+cnt ((P.funs[i]).code.take k):Nat)),(6,iV k)]/\kk=(P.funs[i]).code.length -k/\k<=(P.funs[i]).code.length/\SH h [] [cR b2 (.cells (QgJ s P.funs[i] (.slice va (P.funs[i]).code.length vc)) 73 0),cR b1 (.cells (Q9h P (.slice oa P.loopers oc) (.slice ca P.classes.length cc) (.slice ga P.globals gc) (.slice fa P.funs.length fc) (.slice pa P.comps.length pc) (.slice ea P.events.length ec) (.slice sa P.sites.length sc)) 30 0)] hh/\Q0t P P.funs[i] (cntF (P.funs.take i)) ((P.funs[i]).code.take k)=true/\Zy 0 (P.funs.take i)++Zi i 0 ((P.funs[i]).code.take k)=P.sites.take (cntF (P.funs.take i)+cnt ((P.funs[i]).code.take k))/\cntF (P.funs.take i)+cnt ((P.funs[i]).code.take k)<=P.sites.length) (n:=((P.funs[i]).code.length)) ?_ fun kk lv hh hI=>?_
   · exact⟨0,rfl,rfl,by omega,S,rfl,by rw[List.take_zero];simpa[Zi,cnt]using kM,by simpa[cnt]using jD⟩
   obtain⟨k,rfl,rfl,hk,S,dO,fP,lu⟩:=hI;refine Q5<|Q6<|I1 rfl<|I0 3 rfl<|I4 rfl (S.cel 0 rfl) rfl<|I7 rfl<|Il rfl rfl<|Q0<|Q3 rfl (fun hb=>?_) fun hb=>?_
   · skip
     refine Q4<|Q5<|Q7<|Q5 ?_;have bQ:k <(P.funs[i]).code.length:=by simp at hb;omega
     obtain⟨b',o',c',cs',e',m',kH,iy,iu,nz,iI⟩:=ck.at (by omega);have fB:va=some ⟨b',o',none⟩:=by injection kH
     obtain⟨⟨lv,ln,aI,ao⟩,kS,bz,jk,hr4,hr5,hr6,hr7,hr8⟩:=iI k bQ;obtain⟨la,lc,rfl⟩:=ao.valM;have aI:(cs'.drop (o'+v0g (k:Int)*8)).take 8=insC (P.funs[i]).code[k] (.slice la ((P.funs[i]).code[k]).l.length lc) ln:=by rw[v0e];exact aI
     refine Q2 (by kernel_rfl)<|I0 3 rfl<|I4 rfl (S.cel 0 rfl) rfl<|I1 rfl ?_;rw[fB];refine I5o 8 rfl rfl<|QY (n:=8) gn rfl rfl (by kernel_rfl) (by kernel_rfl) (S.old0 iy iu) (by rw[v0e];omega) ?_;rw[aI,<-fB];refine Qq (zv:=.agg #[iV 0,iV 0,iV 0,iV 0,iV 0,.slice none 0 0,iV 0,iV 0]) S gn rfl (by kernel_rfl) fun b3 g fq S=>?_;refine Qg (n:=8) 0 S gn rfl rfl (by kernel_rfl) (by kernel_rfl) rfl rfl (by decide) rfl (fun g S=>ag0) fun g S=>?_;refine Z5<|I3 8 rfl (S.cel 2 rfl) (v0b _)<|I3 4 rfl (S.cel 1 rfl) (v0b _)<|I3 8 rfl (S.cel 0 rfl) (v0b _) ?_
     refine Ic [_,_,_] rfl rfl (C.mono (c9 (X.ext S.e0) (ao.ext S.e0) hr6 ⟨_,_,rfl⟩) ?_);rintro v g ⟨rfl,x⟩;have S:=S.grow x;refine⟨ag0,?_⟩;refine Ib rfl<|Q0<|Q3 rfl (fun hb=>?_) fun hb=>?_
     · skip
       refine Q6<|I2 rfl<|Q0<|Q8 ⟨.inl rfl,_,rfl,⟨by rw[Q45 cB bQ (by rw[okI];simp only[v0I]at hb;rw[hb,v04])];rfl,S.e0⟩⟩
     refine Q4<|Q5<|Q5 ?_;have nJ:Z2 P P.funs[i] (P.funs[i]).code[k]=true:=by simpa using hb
     refine Q2 (by kernel_rfl)<|I0 0 rfl<|I4 rfl (S.cel 0 rfl) rfl<|Ic [_] rfl rfl (Qm (c10) ⟨ag0,?_⟩);refine Ib rfl<|Q0<|Q3 rfl (fun hb=>?_) fun hb=>?_
     · skip
       refine Q5<|Q5 ?_;have fS:Q1t ((P.funs[i]).code[k]).op=false:=by simpa using hb
       refine Q2 (by kernel_rfl)<|I0 6 rfl<|I4 rfl (S.cel 0 rfl) rfl<|In rfl rfl<|Q0<|Q3 rfl (fun hb=>?_) fun hb=>?_
       · skip
         refine Q6<|I2 rfl<|Q0<|Q8 ⟨.inl rfl,_,rfl,⟨by rw[Q45 cB bQ (by rw[okI,fS,if_neg (by simp),Bool.and_eq_false_iff];right;simpa using hb)];rfl,S.e0⟩⟩
       refine Q4<|Qp<|Qc<|Qo ?_;have cx:cnt ((P.funs[i]).code.take (k+1))=cnt ((P.funs[i]).code.take k):=by rw[Q8g bQ,fS,if_neg (by simp),Nat.add_zero]
       have lX:Zi i 0 ((P.funs[i]).code.take (k+1))=Zi i 0 ((P.funs[i]).code.take k):=by rw[Q20 bQ,fS,if_neg (by simp),List.append_nil]
       refine Q2 (by kernel_rfl)<|I1 rfl<|Iao rfl rfl<|I2 rfl<|Q0 ?_
       exact ZC ((P.funs[i]).code.length - (k+1)) [(3,_),(6,_)] (p:=⟨k+1,by rw[cx];rfl,rfl,by omega,S.drop,by
        rw[Q1b bQ,dO,v0F,okI,nJ,v0F,fS,if_neg (by simp)];simpa using hb,by rw[lX,cx];exact fP,by rw[cx];exact lu⟩)
     refine Q4<|Q5<|Q5 ?_;have fS:Q1t ((P.funs[i]).code[k]).op=true:=by simpa using hb
     refine Q2 (by kernel_rfl)<|I0 6 rfl<|I4 rfl (S.cel 0 rfl) rfl<|I1 rfl<|In rfl rfl<|I1 rfl ?_
     refine QS (n:=5) rfl rfl rfl gn rfl (fun hb=>by
      refine D1 hb rfl<|D0 7 hb rfl<|D4 hb rfl (S.cel 2 rfl) rfl<|D7 hb rfl<|Dh hb rfl rfl ?_
      exact Q0 ⟨rfl,rfl,5,rfl,rfl⟩) ?_
     refine I1 rfl ?_
     refine QS (B:= !decide (P.sites[cntF (P.funs.take i)+cnt ((P.funs[i]).code.take k)]?=some ((i:Int),(k:Int)))) (n:=9) rfl rfl rfl gn rfl (fun hb=>by
      refine D0 7 hb rfl<|D4 hb rfl (S.cel 2 rfl) rfl<|D1 hb rfl ?_
      have hn:cntF (P.funs.take i)+cnt ((P.funs[i]).code.take k)<P.sites.length:=by
       simp only[v0Y,decide_eq_false_iff_not]at hb;omega
      obtain⟨b3,o3,c3,iN,e3,m3,lW,cu,hlb3,hl3,aT⟩:=X.si.at (by omega);have htc:sa=some ⟨b3,o3,none⟩:=by injection lW
      have cN:(iN.drop (o3+v0g ((cntF (P.funs.take i)+cnt ((P.funs[i]).code.take k):Nat):Int)*2)).take 2=[iV (P.sites[cntF (P.funs.take i)+cnt ((P.funs[i]).code.take k)]).1,iV (P.sites[cntF (P.funs.take i)+cnt ((P.funs[i]).code.take k)]).2]:=by rw[v0e];exact(aT _ hn).row
      rw[htc];refine D5o 2 hb rfl rfl<|QY (n:=2) (gy rfl rfl rfl hb) rfl rfl (by kernel_rfl) (by kernel_rfl) (S.old0 cu hlb3) (by rw[v0e];omega) ?_;rw[cN,<-htc];refine D1 hb rfl<|D1 hb rfl<|Qs (zv:=.agg #[iV 0,iV 0]) (pl:=[(0,1),(1,1)]) [(0,_),(1,_)] (gy rfl rfl rfl hb) rfl (by kernel_rfl) (by kernel_rfl) rfl (by rfl)<|Qfo (gy rfl rfl rfl hb) rfl rfl rfl (neq46o (v0c hn)) ?_
      exact Q0 ⟨rfl,rfl,9,rfl,rfl⟩) ?_
     refine Q0<|Q3 rfl (fun hb=>?_) fun hb=>?_
     · skip
       refine Q6<|I2 rfl<|Q0<|Q8 ?_;refine⟨.inl rfl,_,rfl,?_⟩
       exact⟨by
        rcases QeT hb with h1|h1
        · rw[Q45 cB bQ (by rw[okI,if_pos fS,decide_eq_false h1,v0T])];rfl
        rw[Qd6 cB bQ fS h1];rfl,S.e0⟩
     refine Q4 ?_;obtain⟨hz1,hz2,hz3⟩:=QeS hb;refine Q2 (by kernel_rfl)<|I1 rfl<|Iao rfl rfl<|I2 rfl<|Q0 ?_;have cx:cnt ((P.funs[i]).code.take (k+1))=cnt ((P.funs[i]).code.take k)+1:=by rw[Q8g bQ,if_pos fS]
     have lX:Zi i 0 ((P.funs[i]).code.take (k+1))=Zi i 0 ((P.funs[i]).code.take k)++[((i:Int),(k:Int))]:=by rw[Q20 bQ,if_pos fS]
     refine Q2 (by kernel_rfl)<|I1 rfl<|Iao rfl rfl<|I2 rfl<|Q0 ?_
     exact ZC ((P.funs[i]).code.length - (k+1)) [(3,_),(6,_)] (p:=⟨k+1,by rw[cx,<-Nat.add_assoc];rfl,rfl,by omega,S.drop,by
      rw[Q1b bQ,dO,v0F,okI,nJ,v0F,if_pos fS,decide_eq_true hz1],by
      rw[lX,<-v0B,fP,cx,<-Nat.add_assoc,v0U,hz2];rfl,by rw[cx];omega⟩)
   refine Qp<|Qc<|Qe<|Qo<|Q5 ?_;have nG:k=(P.funs[i]).code.length:=by simp at hb;omega
   rw[nG,v0V]at dO fP lu;obtain⟨b',o',c',cs',e',m',kH,iy,iu,nz,iI⟩:=ck.at (by omega);have fB:va=some ⟨b',o',none⟩:=by injection kH
   obtain⟨⟨lv,ln,aI,ao⟩,-⟩:=iI ((P.funs[i]).code.length -1) (by omega);have ak:=last_at (F:=P.funs[i]) (by omega)
   have aI:cs'[o'+v0g (((P.funs[i]).code.length:Int) -1)*8+0]?=some (iV (KV (P.funs[i]).code)):=by
    rw[ak,show v0g (((P.funs[i]).code.length:Int) -1)=(P.funs[i]).code.length -1 by omega];exact Jw aI (by omega) rfl
   refine Q2 (by kernel_rfl)<|I0 3 rfl<|I4 rfl (S.cel 0 rfl) rfl<|I0 3 rfl<|I4 rfl (S.cel 0 rfl) rfl<|I7 rfl<|Iso rfl rfl ?_;rw[fB];refine I5o 8 rfl rfl<|I0 0 rfl<|I4 rfl (S.old0 iy iu) aI ?_;rw[<-fB];refine I2 rfl<|QG<|I1 rfl<|In rfl rfl<|I1 rfl ?_
   refine Qt (n:=2) rfl rfl rfl gn rfl (fun hb=>by
    refine D1 hb rfl<|Dn hb rfl rfl ?_
    exact Q0 ⟨rfl,rfl,2,rfl,rfl⟩) ?_
   refine Q0<|Q3 rfl (fun hb=>?_) fun hb=>?_
   · skip
     refine Q6<|I2 rfl<|Q0<|Q8 ⟨.inl rfl,_,rfl,⟨by rw[Q7Q cB (QfO hb)];rfl,S.e0⟩⟩
   refine Q4 ?_;have ny:=Qdf hb;refine Q2 (by kernel_rfl)<|I1 rfl<|Iao rfl rfl<|I2 rfl<|Q0 ?_
   exact ZC (P.funs.length - (i+1)) [(3,_),(4,_)] (p:=⟨i+1,by rw[Q2F cB,nG,v0V];rfl,rfl,by omega,S.drop,by
    rw[Q66 cB,aq,v0F,Qeu,jZ,v0F,v0f,dO,ny];rfl,by
    rw[Q6t cB,Q2F cB];exact fP,by rw[Q2F cB];exact lu⟩)
 refine Qp<|Qc<|Qe<|Qo<|Q5 ?_;have hie:i=P.funs.length:=by simp at hb;omega
 rw[hie,v0V]at aq kM jD;refine Q2 (by kernel_rfl)<|I1 rfl<|I0 7 rfl<|I4 rfl (S.cel 0 rfl) rfl<|I7 rfl<|Ie rfl rfl<|I1 rfl ?_
 refine Qt (n:=2) rfl rfl rfl gn rfl (fun hb=>by
  refine D1 hb rfl<|Dm hb rfl rfl ?_
  exact Q0 ⟨rfl,rfl,2,rfl,rfl⟩) ?_
 refine I2 rfl<|Q0<|Q8 ?_;refine⟨.inl rfl,_,rfl,?_⟩
 exact⟨by
  rw[hie,v0V,QfI kU aq,kM];show Value.bool _=Value.bool _
  congr 1
  rw[v1H];simp only[v0h,decide_eq_true_eq];constructor
  · rintro⟨h1,h2⟩;have h1:cntF P.funs=P.sites.length:=by omega
    exact⟨by rw[h1,v0V],by omega⟩
  rintro⟨h1,h2⟩;have:=congrArg List.length h1;rw[v0D]at this
  omega,S.e0⟩
end
section
variable {h:Hp} {P:Prg} {lo cl gl fu co ev si:Value}
theorem c4 (X:PrgAt h P lo cl gl fu co ev si):C modE 5 [Qed P lo cl gl fu co ev si] h fun v h'=>(∃b,v=.bool b)/\Ext h h':=by
 obtain⟨⟨oa,oc,rfl⟩,⟨ca,cc,rfl⟩,⟨ga,gc,rfl⟩,⟨fa,fc,rfl⟩,⟨pa,pc,rfl⟩,⟨ea,ec,rfl⟩,⟨sa,sc,rfl⟩⟩:=X.vals;refine Q9 (fu:=Tryz.f5) (by kernel_rfl) rfl ?_;have S:=SH.start h;refine Q6 ?_;refine QV S gn rfl rfl fun b1 g aF S=>?_;refine I2 rfl<|QG<|I0 0 rfl<|I4 rfl (S.cel 0 rfl) rfl<|I7 rfl<|I0 1 rfl<|I4 rfl (S.cel 0 rfl) rfl<|I7 rfl<|Q0b gn rfl rfl rfl<|I0 2 rfl<|I4 rfl (S.cel 0 rfl) rfl<|I7 rfl<|Q0b gn rfl rfl rfl<|I0 4 rfl<|I4 rfl (S.cel 0 rfl) rfl<|I7 rfl ?_;refine Q0b gn rfl rfl rfl<|I0 5 rfl ?_
 refine I4 rfl (S.cel 0 rfl) rfl<|I7 rfl<|Q0b gn rfl rfl rfl<|I0 3 rfl<|I4 rfl (S.cel 0 rfl) rfl<|I7 rfl<|Q0b gn rfl rfl rfl<|I0 7 rfl<|I4 rfl (S.cel 0 rfl) rfl<|I7 rfl<|Q0b gn rfl rfl rfl<|I2 rfl<|Z5<|I2 rfl<|Q0<|Q7 ?_
 refine Ql [(3,_),(4,_)] [(1,_)] (fun kk lv hh=> ∃(i:Nat) (z:Int),lv=[(3,iV z),(4,iV i)]/\kk=P.funs.length -i/\i<=P.funs.length/\i<=200/\SH h [] [cR b1 (.cells (Q9h P (.slice oa P.loopers oc) (.slice ca P.classes.length cc) (.slice ga P.globals gc) (.slice fa P.funs.length fc) (.slice pa P.comps.length pc) (.slice ea P.events.length ec) (.slice sa P.sites.length sc)) 30 0)] hh) (n:=(P.funs.length)) ?_ fun kk lv hh hI=>?_
 · exact⟨0,_,rfl,rfl,by omega,by omega,S⟩
 obtain⟨i,z,rfl,rfl,hi,lh,S⟩:=hI;refine Q5<|Q6<|I1 rfl<|I0 3 rfl<|I4 rfl (S.cel 0 rfl) rfl<|I7 rfl<|Il rfl rfl<|I1 rfl ?_
 refine Qt (n:=2) rfl rfl rfl gn rfl (fun hb=>by
  refine D1 hb rfl<|Dl hb rfl rfl ?_
  exact Q0 ⟨rfl,rfl,2,rfl,rfl⟩) ?_
 refine Q0<|Q3 rfl (fun hb=>?_) fun hb=>?_
 · skip
   refine Q4<|Q5<|Q7<|Q5 ?_;obtain⟨cB,hi3⟩:i <P.funs.length/\i <200:=by simp at hb;omega
   obtain⟨b,o,c,cs,e,m,hv,hg,bP,nA,aX⟩:=X.fu.at (by omega);have bG:fa=some ⟨b,o,none⟩:=by injection hv
   obtain⟨⟨s,cv,hw,ck⟩,cG,jj,nX⟩:=aX i cB;obtain⟨va,vc,rfl⟩:=ck.val;have hw:cs[o+v0g (i:Int)*4+3]?=some (.slice va (P.funs[i]).code.length vc):=by rw[v0e];exact Jw hw (by omega) rfl
   refine Q2 (by kernel_rfl)<|I1 rfl<|I0 3 rfl<|I4 rfl (S.cel 0 rfl) rfl<|I1 rfl ?_;rw[bG];refine I5o 4 rfl rfl<|I0 3 rfl<|I4 rfl (S.old0 hg bP) hw ?_;rw[<-bG];refine I7 rfl<|Q0b gn rfl rfl rfl<|I2 rfl<|QG<|I2 rfl<|Q0<|Q7 ?_
   refine Ql [(3,_),(5,_)] [(1,_),(4,_)] (fun kk lv hh=> ∃(k:Nat) (z:Int),lv=[(3,iV z),(5,iV k)]/\kk=(P.funs[i]).code.length -k/\k<=(P.funs[i]).code.length/\k<=3000/\SH h [] [cR b1 (.cells (Q9h P (.slice oa P.loopers oc) (.slice ca P.classes.length cc) (.slice ga P.globals gc) (.slice fa P.funs.length fc) (.slice pa P.comps.length pc) (.slice ea P.events.length ec) (.slice sa P.sites.length sc)) 30 0)] hh) (n:=((P.funs[i]).code.length)) ?_ fun kk lv hh hI=>?_
   · exact⟨0,_,rfl,rfl,by omega,by omega,S⟩
   obtain⟨k,z,rfl,rfl,hk,gQ,S⟩:=hI;refine Q5<|Q6<|I1 rfl<|I0 3 rfl<|I4 rfl (S.cel 0 rfl) rfl<|I1 rfl ?_;rw[bG];refine I5o 4 rfl rfl<|I0 3 rfl<|I4 rfl (S.old0 hg bP) hw ?_;rw[<-bG];refine I7 rfl<|Il rfl rfl<|I1 rfl ?_
   refine Qt (n:=2) rfl rfl rfl gn rfl (fun hb=>by
    refine D1 hb rfl<|Dl hb rfl rfl ?_
    exact Q0 ⟨rfl,rfl,2,rfl,rfl⟩) ?_
   refine Q0<|Q3 rfl (fun hb=>?_) fun hb=>?_
   · skip
     refine Q4<|Q5<|Q7 ?_;obtain⟨bQ,hk3⟩:k <(P.funs[i]).code.length/\k <3000:=by simp at hb;omega
     obtain⟨b',o',c',cs',e',m',kH,iy,iu,nz,iI⟩:=ck.at (by omega);have fB:va=some ⟨b',o',none⟩:=by injection kH
     obtain⟨⟨lv,ln,aI,ao⟩,-⟩:=iI k bQ;obtain⟨la,lc,rfl⟩:=ao.valM;have aI:cs'[o'+v0g (k:Int)*8+5]?=some (.slice la ((P.funs[i]).code[k]).l.length lc):=by rw[v0e];exact Jw aI (by omega) rfl
     refine Q2 (by kernel_rfl)<|I1 rfl<|I0 3 rfl<|I4 rfl (S.cel 0 rfl) rfl<|I1 rfl ?_;rw[bG];refine I5o 4 rfl rfl<|I0 3 rfl<|I4 rfl (S.old0 hg bP) hw ?_;rw[<-bG];refine I1 rfl ?_;rw[fB];refine I5o 8 rfl rfl<|I0 5 rfl<|I4 rfl (S.old0 iy iu) aI ?_;rw[<-fB];refine I7 rfl<|Q0b gn rfl rfl rfl<|I2 rfl<|Q0<|Q2 (by kernel_rfl)<|I1 rfl<|Iao rfl rfl<|I2 rfl<|Q0 ?_;exact ZC ((P.funs[i]).code.length - (k+1)) [(3,_),(5,_)] (p:=⟨k+1,_,rfl,rfl,by omega,by omega,S⟩)
   refine Qp<|Qc<|Qe<|Qo<|Q2 (by kernel_rfl)<|I1 rfl<|Iao rfl rfl<|I2 rfl<|Q0 ?_;exact ZC (P.funs.length - (i+1)) [(3,_),(4,_)] (p:=⟨i+1,_,rfl,rfl,by omega,by omega,S⟩)
 refine Qp<|Qc<|Qe<|Qo<|Q6<|I1 rfl<|Ig rfl rfl<|I2 rfl<|Q0<|Q8 ⟨.inl rfl,_,rfl,⟨⟨_,rfl⟩,S.e0⟩⟩
end
open Go.Mac
structure ThW where
 fv:Value
 fb:List Nat
 vs:List (Value×List Nat)
def frC:List MFrm->List (Value×List Nat)->List Value
 |x::l,v::c=>[iV x.fn,iV x.at',v.1]++frC l c
 |_,_=>[]
def frP:List MFrm->List (Value×List Nat)->List Res
 |x::l,v::c=>slR 2 0 v.1 (isV x.regs) x.regs.length v.2::frP l c
 |_,_=>[]
def thL (tb:Nat) (pv:List Value) (T:MThr) (w:ThW):List Res:=cR tb (.cells (pv++[w.fv,iV T.trap]) 196 0)::slR 192 2 w.fv (frC T.F w.vs) T.F.length w.fb::frP T.F w.vs
def thR (tb:Nat) (pv:List Value) (T:MThr) (bs:List Nat):Res:=Q2U (fun L=> ∃w:ThW,w.vs.length=T.F.length/\L=thL tb pv T w) bs
theorem JP: ∀(l:List MFrm) (c:List (Value×List Nat)),c.length=l.length->(frC l c).length=l.length*3
 | [],_,_=>rfl
 |_::_,[],h=>by simp at h
 | o::l,v::c,h=>by
   show([_,_,_]++frC l c).length=_;rw[v0j,JP l c (by simpa using h)];simp;omega
theorem Q0k: ∀(l:List MFrm) (c:List (Value×List Nat)) (rest:List Value) (j:Nat) (o:MFrm) (v:Value×List Nat),l[j]?=some o->c[j]?=some v->((frC l c++rest).drop (j*3)).take 3=[iV o.fn,iV o.at',v.1]
 | o::l,v::c,rest,0,o',v',h1,h2=>by
   simp only[v0S,v0i.injEq]at h1 h2;subst h1;subst h2;rfl
 | o::l,v::c,rest,j+1,o',v',h1,h2=>by
   show(([_,_,_]++frC l c++rest).drop ((j+1)*3)).take 3=_;rw[show(j+1)*3=3+j*3 by omega,v0B,<-List.drop_drop,List.drop_left' (by rfl)];exact Q0k l c rest j o' v' (by simpa using h1) (by simpa using h2)
 | [],_,_,_,_,_,h1,_=>by simp at h1
 |_::_,[],_,_,_,_,_,h2=>by simp at h2
theorem Qbi: ∀(l:List MFrm) (c:List (Value×List Nat)) (j:Nat) (o:MFrm) (v:Value×List Nat),l[j]?=some o->c[j]?=some v->(frP l c)[j]?=some (slR 2 0 v.1 (isV o.regs) o.regs.length v.2)
 | o::l,v::c,0,o',v',h1,h2=>by
   simp only[v0S,v0i.injEq]at h1 h2;subst h1;subst h2;rfl
 |o::l,v::c,j+1,o',v',h1,h2=>Qbi l c j o' v' (by simpa using h1) (by simpa using h2)
 | [],_,_,_,_,h1,_=>by simp at h1
 |_::_,[],_,_,_,_,h2=>by simp at h2
theorem Q89: ∀(l:List MFrm) (c:List (Value×List Nat)) (o:MFrm) (v:Value×List Nat),c.length=l.length->frC (l++[o]) (c++[v])=frC l c++[iV o.fn,iV o.at',v.1]
 | [],[],_,_,_=>rfl
 | [],_::_,_,_,h=>by simp at h
 |_::_,[],_,_,h=>by simp at h
 | o::l,v::c,o',v',h=>by
   show[_,_,_]++frC (l++[o']) (c++[v'])=_;rw[Q89 l c o' v' (by simpa using h)];rfl
theorem Q4m: ∀(l:List MFrm) (c:List (Value×List Nat)) (o:MFrm) (v:Value×List Nat),c.length=l.length->frP (l++[o]) (c++[v])=frP l c++[slR 2 0 v.1 (isV o.regs) o.regs.length v.2]
 | [],[],_,_,_=>rfl
 | [],_::_,_,_,h=>by simp at h
 |_::_,[],_,_,h=>by simp at h
 | o::l,v::c,o',v',h=>by
   show _::frP (l++[o']) (c++[v'])=_;rw[Q4m l c o' v' (by simpa using h)];rfl
theorem Qbj (n:Int): ∀(l:List MFrm) (c:List (Value×List Nat)) (j:Nat),c.length=l.length->(frC l c).set (j*3+1) (iV n)=frC (atF l j n) c
 | [],[],j,_=>by cases j<;>rfl
 | [],_::_,_,h=>by simp at h
 |_::_,[],_,h=>by simp at h
 |x::l,v::c,0,_=>rfl
 | x::l,v::c,j+1,h=>by
   unfold atF;rw[v07];show([iV x.fn,iV x.at',v.1]++frC l c).set ((j+1)*3+1) (iV n)=[iV x.fn,iV x.at',v.1]++frC (atF l j n) c;rw[<-Qbj n l c j (by simpa using h),show(j+1)*3+1=(j*3+1)+1+1+1 by omega];rfl
theorem Qbh (n:Int): ∀(l:List MFrm) (c:List (Value×List Nat)) (j:Nat),frP (atF l j n) c=frP l c
 | [],c,j=>by cases j<;>rfl
 | x::l,[],j=>by
   unfold atF;cases j with
   |zero=>rfl
   |succ j=>rw[v07];rfl
 |x::l,v::c,0=>rfl
 | x::l,v::c,j+1=>by
   unfold atF;rw[v07];show _::frP (atF l j n) c=_::frP l c;rw[Qbh n l c j]
theorem Q8a (a n:Int): ∀(l:List MFrm) (c:List (Value×List Nat)) (j:Nat),frC (Q37 l j a n) c=frC l c
 | [],c,j=>by cases j<;>rfl
 | x::l,[],j=>by
   unfold Q37;cases j with
   |zero=>rfl
   |succ j=>rw[v07];rfl
 |x::l,v::c,0=>rfl
 | x::l,v::c,j+1=>by
   unfold Q37;rw[v07];show[_,_,_]++frC (Q37 l j a n) c=[_,_,_]++frC l c;rw[Q8a a n l c j]
theorem Q87 (a n:Int): ∀(l:List MFrm) (c:List (Value×List Nat)) (j:Nat) (o:MFrm) (v:Value×List Nat),l[j]?=some o->c[j]?=some v->(frP l c).set j (slR 2 0 v.1 ((isV o.regs).set a.toNat (iV n)) o.regs.length v.2)=frP (Q37 l j a n) c
 | o::l,v::c,0,o',v',h1,h2=>by
   simp only[v0S,v0i.injEq]at h1 h2;subst h1;subst h2;show slR 2 0 v.1 ((isV o.regs).set a.toNat (iV n)) o.regs.length v.2::frP l c=slR 2 0 v.1 (isV (o.regs.set a.toNat n)) (o.regs.set a.toNat n).length v.2::frP l c;rw[KZ,List.length_set]
 | o::l,v::c,j+1,o',v',h1,h2=>by
   unfold Q37;rw[v07];show _::(frP l c).set j _=_::frP (Q37 l j a n) c;rw[Q87 a n l c j o' v' (by simpa using h1) (by simpa using h2)]
 | [],_,_,_,_,h1,_=>by simp at h1
 |_::_,[],_,_,_,_,h2=>by simp at h2
theorem QfY {F:List MFrm} {k:Nat} {x:MFrm} (h:F[k]?=some x):QfZ F k=atF F k (x.at'+1):=by
 unfold QfZ atF;refine List.ext_getElem? fun i=>?_;simp only[List.getElem?_modify];by_cases e:k=i
 · subst e;rw[h];simp
 simp[e]
theorem Q1c (F:List MFrm) (k:Nat) (n:Int):(atF F k n).length=F.length:=by simp[atF]
theorem Q7A (F:List MFrm) (k:Nat) (a n:Int):(Q37 F k a n).length=F.length:=by simp[Q37]
theorem Q4j (F:List MFrm) (k:Nat):(QfZ F k).length=F.length:=by simp[QfZ]
theorem el162:ElN modE 194 192 2 39:=⟨by kernel_rfl,by kernel_rfl,by kernel_rfl,.agg #[.int .i64 0,.int .i64 0,.slice none 0 0],by kernel_rfl,rfl⟩
section
variable {h0 h:Hp} {ds:List Nat} {A:List Res} {tb:Nat} {pv:List Value} {T:MThr} {bs:List Nat}
theorem Q9y (S:SH h0 ds (A++[thR tb pv T bs]) h): ∃w:ThW,w.vs.length=T.F.length/\owns (thL tb pv T w)=bs/\SH h0 ds (A++thL tb pv T w) h:=by
 obtain⟨L,⟨w,hw,rfl⟩,h2,h3⟩:=Jk S;exact⟨w,hw,h2,h3⟩
theorem Q9z {w:ThW} (S:SH h0 ds (thL tb pv T w) h) (hw:w.vs.length=T.F.length): ∃aa,SH h0 ds [thR tb pv T aa] h:=⟨_,KF (A:=[]) S ⟨w,hw,rfl⟩⟩
theorem Q31 {w:ThW} {k:Nat} {x:MFrm} {v:Value×List Nat} (hx:T.F[k]?=some x) (hv:w.vs[k]?=some v):(thL tb pv T w)[2+k]?=some (slR 2 0 v.1 (isV x.regs) x.regs.length v.2):=by
 rw[show 2+k=k+1+1 by omega];exact Qbi _ _ _ _ _ hx hv
theorem Qcu {w:ThW} {k:Nat} {n:Int} (hw:w.vs.length=T.F.length):(thL tb pv T w).set 1 (slR 192 2 w.fv ((frC T.F w.vs).set (0+k*3+1) (iV n)) T.F.length w.fb)=thL tb pv {T with F:=atF T.F k n} w:=by
 show cR tb _::slR 192 2 w.fv _ T.F.length w.fb::frP T.F w.vs=cR tb _::slR 192 2 w.fv (frC (atF T.F k n) w.vs) (atF T.F k n).length w.fb::frP (atF T.F k n) w.vs;rw[v0f,Qbj n _ _ _ hw,Q1c,Qbh]
theorem Q1S {w:ThW} {k:Nat} {a n:Int} {x:MFrm} {v:Value×List Nat} (hx:T.F[k]?=some x) (hv:w.vs[k]?=some v):(thL tb pv T w).set (2+k) (slR 2 0 v.1 ((isV x.regs).set (0+a.toNat*1) (iV n)) x.regs.length v.2)=thL tb pv {T with F:=Q37 T.F k a n} w:=by
 rw[show 2+k=k+1+1 by omega,v0f,v0x];show cR tb _::slR 192 2 w.fv _ T.F.length w.fb::(frP T.F w.vs).set k _=cR tb _::slR 192 2 w.fv (frC (Q37 T.F k a n) w.vs) (Q37 T.F k a n).length w.fb::frP (Q37 T.F k a n) w.vs;rw[Q87 a n _ _ _ _ _ hx hv,Q8a,Q7A]
end
structure PrV where
 lo:Value
 cl:Value
 gl:Value
 fu:Value
 co:Value
 ev:Value
 si:Value
abbrev pvL (P:Prg) (V:PrV):List Value:=[V.lo,V.cl,V.gl,V.fu,V.co,V.ev,iV P.main,V.si]
abbrev Q1r (h:Hp) (P:Prg) (V:PrV):Prop:=PrgAt h P V.lo V.cl V.gl V.fu V.co V.ev V.si
section
variable {h0 h:Hp} {ds:List Nat} {B:List Res} {tb:Nat} {pv:List Value} {T:MThr} {bs:List Nat}
theorem Q1T (p:Held (thR tb pv T bs) h): ∃(a:Option Addr) (c:Nat) (w:ThW),w.vs.length=T.F.length/\w.fv=.slice a T.F.length c/\h.get tb=some (.cells (pv++[.slice a T.F.length c,iV T.trap]) 196 0)/\tb <h.n/\SlC 192 2 h (.slice a T.F.length c) (frC T.F w.vs) T.F.length w.fb/\(∀i,i∈w.fb->i <h.n)/\ ∀(j:Nat) (x:MFrm) (v:Value×List Nat),T.F[j]?=some x->w.vs[j]?=some v->SlC 2 0 h v.1 (isV x.regs) x.regs.length v.2:=by
 obtain⟨⟨Ls,⟨w,hw,rfl⟩,ho,hp⟩,hl⟩:=p;have h1:SlC 192 2 h w.fv (frC T.F w.vs) T.F.length w.fb:=hp (slR 192 2 w.fv (frC T.F w.vs) T.F.length w.fb) (by simp[thL]);have h0:h.get tb=some (.cells (pv++[w.fv,iV T.trap]) 196 0):=hp (cR tb (.cells (pv++[w.fv,iV T.trap]) 196 0)) (by simp[thL]);obtain⟨a,c,e⟩:=Qa h1;rw[e]at h0 h1;refine⟨a,c,w,hw,e,h0,hl tb ?_,h1,fun i hi=>hl i ?_,fun j x v hx hv=>hp (slR 2 0 v.1 (isV x.regs) x.regs.length v.2) ?_⟩
 · show tb∈bs;rw[<-ho];simp[thL,owns,cR]
 · show i∈bs;rw[<-ho];simp[thL,owns,cR,slR,hi]
 have:=v0m (Qbi _ _ _ _ _ hx hv);simp only[thL,List.mem_cons];exact .inr (.inr this)
theorem Q91 {a:Option Addr} {c:Nat} {F:List MFrm} {vs:List (Value×List Nat)} {fb:List Nat} (x:SlC 192 2 h (.slice a F.length c) (frC F vs) F.length fb) (hl:0 <F.length): ∃b r m,a=some ⟨b,0,none⟩/\h.get b=some (.cells (frC F vs++r) 192 m)/\fb=[b]/\(m=0\/m=5):=by
 obtain⟨b,c',hv,hb,_⟩:=Q00 x hl;obtain⟨rfl,rfl⟩:a=some ⟨b,0,none⟩/\c=c':=by simpa using hv
 rcases x with⟨h1,_⟩| ⟨b',m,c',r,h1,h2,h3,_⟩
 · cases h1
 cases h1;exact⟨b,r,m,rfl,h2,hb,h3⟩
end
theorem Qbg {a b:Int} {v:Value} (k:cellV v=true):([iV a,iV b,v]:List Value).all cellV=true:=by
 simp only[v1n,List.all_nil,k,v1i];rfl
theorem PrgAt.fun {h:Hp} {P:Prg} {V:PrV} (X:Q1r h P V) {f:Int} (h0:0<=f) (h1:f <P.funs.length): ∃b o c cs e m,V.fu=.slice (some ⟨b,o,none⟩) P.funs.length c/\h.get b=some (.cells cs e m)/\b <h.n/\o+P.funs.length*4<=cs.length/\ ∃s cv,(cs.drop (o+f.toNat*4)).take 4=QgJ s (Qz P f) cv/\RowP 8 (InsD h) h cv (Qz P f).code:=by
 obtain⟨b,o,c,cs,e,m,hv,hg,hl,hlen,aX⟩:=X.fu.at (by omega);have hj:f.toNat <P.funs.length:=by omega
 obtain⟨⟨s,cv,h2,h3⟩,_,_,_⟩:=aX _ hj
 have e1:P.funs[f.toNat]=Qz P f:=by
  have:=Jg h0 h1;rw[v0c hj]at this;exact v0i.inj this
 rw[e1]at h2 h3;exact⟨b,o,c,cs,e,m,hv,hg,hl,hlen,s,cv,h2,h3⟩
section
variable {h0 h:Hp} {P:Prg} {V:PrV} {tb:Nat} {T:MThr} {bs:List Nat} {o:Int}
theorem m79 (p:Held (thR tb (pvL P V) T bs) h):CP modE 94 [Qn tb] h (.bool (Yc T)):=by
 obtain⟨a,c,w,hw,_,hq,cE,hr,dW,_⟩:=Q1T p;refine Q9 (fu:=Tryz.f94) (by kernel_rfl) rfl ?_;refine Q6<|I2 rfl<|QG<|I1 rfl<|I6 rfl<|I0 8 rfl<|I4 rfl hq rfl<|I7 rfl<|Ie rfl rfl<|I1 rfl ?_
 refine QS (n:=5) rfl rfl rfl gn rfl (fun hb=>by
  refine D1 hb rfl<|D6 hb rfl<|D0 9 hb rfl<|D4 hb rfl hq rfl<|Dn hb rfl rfl ?_
  exact Q0 ⟨rfl,rfl,5,rfl,rfl⟩) ?_
 refine I2 rfl<|Q0<|Q8 ?_;refine⟨.inl rfl,_,rfl,?_⟩
 exact⟨by
  have e:decide ((T.F.length:Int)=0)=decide (T.F.length=0):=by simp
  have e2:(!decide (T.trap=0))=decide (T.trap≠0):=by simp
  unfold Yc;rw[<-e,<-e2];rfl,rfl⟩
theorem m84:CP modE 104 [iV o] h (.bool (K3 o)):=by
 refine Q9 (fu:=Tryz.f104) (by kernel_rfl) rfl ?_;refine Q6<|I2 rfl<|QG<|I1 rfl<|Ie rfl rfl<|I1 rfl ?_
 refine QS (n:=2) rfl rfl rfl gn rfl (fun hb=>by
  refine D1 hb rfl<|De hb rfl rfl ?_
  exact Q0 ⟨rfl,rfl,2,rfl,rfl⟩) ?_
 refine I1 rfl ?_
 refine QS (n:=6) rfl rfl rfl gn rfl (fun hb=>by
  refine D1 hb rfl<|Dh hb rfl rfl<|D1 hb rfl ?_
  refine Qt (n:=2) rfl rfl rfl (gy rfl rfl rfl hb) rfl (fun hb=>by
   refine D1 hb rfl<|Dm hb rfl rfl ?_
   exact Q0 ⟨rfl,rfl,2,rfl,rfl⟩) ?_
  exact Q0 ⟨rfl,rfl,4,rfl,rfl⟩) ?_
 refine I2 rfl<|Q0<|Q8 ⟨.inl rfl,_,rfl,⟨by unfold K3;rfl,rfl⟩⟩
theorem m73 (X:Q1r h P V) (p:Held (thR tb (pvL P V) T bs) h) (hT:Kr P T) (hl:0 <T.F.length):C modE 88 [Qn tb] h fun v h'=>(∃lv ln,v=QfV (Qb P T) lv ln/\RowV h lv (isV (Qb P T).l))/\Ext h h':=by
 obtain⟨a,c,w,hw,_,hq,cE,hr,dW,bX⟩:=Q1T p;obtain⟨b,r,m,rfl,bN,j6,_⟩:=Q91 hr hl;have dZ:=dW b (by rw[j6];simp);have aJ:=Y8 hl;have ok:=hT.2 _ (Y0 hl);have h32:=hT.1;obtain⟨v,hv⟩: ∃v,w.vs[T.F.length -1]?=some v:=⟨_,v0c (by omega)⟩
 have k0:((frC T.F w.vs++r).drop (0+v0g ((T.F.length:Int) -1)*3)).take 3=[iV (QB T).fn,iV (QB T).at',v.1]:=by
  rw[v0f,show v0g ((T.F.length:Int) -1)=T.F.length -1 by omega];exact Q0k _ _ _ _ _ _ aJ hv
 obtain⟨fb,fo,fc,fcs,fe,fm,da,gF,fV,hfn,s,cv,iA,fp⟩:=PrgAt.fun X ok.f0 ok.f1;obtain⟨cb,co,cc,ccs,ce,cm,rfl,nZ,cK,jD,iG⟩:=fp.at (by have:=ok.a0;have:=ok.a1;omega);have f0:=ok.f0;have f1:=ok.f1;have a0:=ok.a0;have a1:=ok.a1;have hj:(QB T).at'.toNat <(Qz P (QB T).fn).code.length:=by omega
 have kf:fcs[fo+v0g (QB T).fn*4+3]?=some (.slice (some ⟨cb,co,none⟩) (Qz P (QB T).fn).code.length cc):=Qv iA (by omega) rfl;obtain⟨⟨lv,ln,nM,gP⟩,_⟩:=iG _ hj
 have ei:(Qz P (QB T).fn).code[(QB T).at'.toNat]=Qb P T:=by
  have:=Q4i ok;rw[v0c hj]at this;exact v0i.inj this
 rw[ei]at nM gP;obtain⟨lva,lvc,rfl⟩:=gP.valM;refine YX (fu:=Tryz.f88) (by kernel_rfl) rfl ?_;have S:=SH.start h;refine Q6 ?_;refine Qq (zv:=.agg #[iV 0,iV 0,iV 0,iV 0,iV 0,.slice none 0 0,iV 0,iV 0]) S gn rfl (by kernel_rfl) fun b1 g aF S=>?_;refine Q0<|Q5<|I9<|I1 rfl<|I6 rfl<|I0 8 rfl<|I4 rfl (S.old0 hq cE) rfl<|I1 rfl<|I6 rfl<|I0 8 rfl<|I4 rfl (S.old0 hq cE) rfl<|I7 rfl<|Iso rfl rfl<|I5o 3 rfl rfl<|QY (n:=3) gn rfl rfl (by kernel_rfl) (by kernel_rfl) (S.old0 bN dZ) (by rw[v0j,JP _ _ hw];omega) ?_
 rw[k0];refine Qq (zv:=.agg #[iV 0,iV 0,.slice none 0 0]) S gn rfl (by kernel_rfl) fun b2 g bL S=>?_;refine Qg (n:=3) 0 S gn rfl rfl (Qbg (bX _ _ _ aJ hv).cellV) (by kernel_rfl) rfl rfl (by decide) rfl (fun g S=>ag0) fun g S=>?_;refine Q0<|Q5<|I9<|I1 rfl<|I6 rfl<|I0 0 rfl<|I0 3 rfl<|I4 rfl (S.old0 hq cE) rfl<|I0 0 rfl<|I4 rfl (S.cel 0 rfl) rfl ?_;rw[da];refine I5o 4 rfl rfl ?_;rw[<-da];refine I0 3 rfl<|I4 rfl (S.old0 gF fV) kf<|I0 1 rfl<|I4 rfl (S.cel 0 rfl) rfl<|I5o 8 rfl rfl<|I3 8 rfl (S.old0 nZ cK) (by omega) ?_
 rw[nM];refine Qg (n:=8) 1 S gn rfl rfl (by kernel_rfl) (by kernel_rfl) rfl rfl (by decide) rfl (fun g S=>ag0) fun g S=>?_;refine Q0<|Q8 ?_;refine⟨.inl rfl,_,(Zr rfl (by kernel_rfl) (by kernel_rfl) (S.cel 1 rfl) rfl rfl),?_⟩;exact⟨⟨_,ln,rfl,gP⟩,S.e0⟩
end
theorem Qdm {x:Ins} {lv:Value} {ln:Int} (k:cellV lv=true):([iV x.op,iV x.a,iV x.b,iV x.c,iV x.n,lv,iV x.site,iV ln]:List Value).all cellV=true:=by
 simp only[v1n,List.all_nil,k,v1i];rfl
theorem QcF {h:Hp} {v:Value} {xs:List Value} (x:RowV h v xs):cellV v=true:=by
 obtain⟨a,c,rfl⟩:=x.val;rfl
theorem QeB {o:Int} {b:Bool} (h:(((decide (o=9)||decide (o=23))||decide (o=24))||decide (o=28))=b):(o=9\/o=23\/o=24\/o=28)↔b=true:=by
 rw[<-h];simp only[v0H,decide_eq_true_eq,or_assoc]
section
variable {h0 h:Hp} {P:Prg} {V:PrV} {tb:Nat} {T:MThr} {bs:List Nat} {w:ThW}
theorem m91 {k:Nat} (S0:SH h0 [] (thL tb (pvL P V) T w) h) (hw:w.vs.length=T.F.length) (hT:Kr P T) (hk:k <T.F.length) (hc: ∀x,x∈T.F->x.at'<=1000000):C modE 111 [Qn tb,iV k] h fun _ g'=>SH h (owns (thL tb (pvL P V) T w)) (thL tb (pvL P V) (onT T k) w) g':=by
 have SE:=S0.enterL;have h32:=hT.1;obtain⟨a,c,fU⟩:=Qa (SE.sl 1 rfl);have dq:=SE.cel 0 rfl;rw[fU]at dq;have ao:=SE.sl 1 rfl;rw[fU]at ao;obtain⟨b,r,m,rfl,bN,j6,_⟩:=Q91 ao (by omega);obtain⟨x,hx⟩: ∃x,T.F[T.F.length -1 -k]?=some x:=⟨_,v0c (by omega)⟩;obtain⟨v,hv⟩: ∃v,w.vs[T.F.length -1 -k]?=some v:=⟨_,v0c (by omega)⟩;have gR:v0g ((T.F.length:Int) -1 -k)=T.F.length -1 -k:=by omega
 have k0:(frC T.F w.vs++r)[0+v0g ((T.F.length:Int) -1 -k)*3+1]?=some (iV x.at'):=by rw[gR,v0f];exact Qv (Q0k _ _ _ _ _ _ hx hv) (by omega) rfl
 have cp:=(hT.2 x (v0m hx)).a0;have hx1:=hc x (v0m hx);refine Q9 (fu:=Tryz.f111) (by kernel_rfl) rfl ?_;have S:=SE;refine I9<|I1 rfl<|I6 rfl<|I0 8 rfl<|I4 rfl dq rfl<|I1 rfl<|I6 rfl<|I0 8 rfl<|I4 rfl dq rfl<|I7 rfl<|Iso rfl rfl<|I1 rfl<|Iso rfl rfl<|I5o 3 rfl rfl<|I0 1 rfl<|I4 rfl bN k0 ?_;refine Iao rfl rfl<|I5o 3 rfl rfl<|I0 1 rfl<|Zq 1 S gn rfl rfl rfl (by kernel_rfl) rfl fU (by rw[JP _ _ hw];omega) (fun g S=>ag0) fun g S=>?_;refine Q0 ?_
 refine⟨.inr rfl,_,rfl,?_⟩
 exact(by
  rw[gR,Qcu hw]at S
  unfold onT;rw[QfY hx];exact S)
theorem m97 {n:Int} (S0:SH h0 [] [thR tb (pvL P V) T bs] h) (X0:Q1r h0 P V) (hM:ZM P=true) (hT:Kr P T):C modE 117 [Qn tb,iV n] h fun v g'=>v=iV (if Q0r P T=true then 0 else 13)/\ ∃aa,SH h bs [thR tb (pvL P V) (Q1y P T n) aa] g':=by
 have SE:=S0.enter
 have gz:Yc T=false->0 <T.F.length:=fun h=>by
  unfold Yc at h;simp at h;exact Nat.pos_of_ne_zero fun e=>h.1 (List.eq_nil_of_length_eq_zero e)
 refine Q9 (fu:=Tryz.f117) (by kernel_rfl) rfl ?_;have S:=SE;refine Q6<|I2 rfl<|Q0<|ZH [(0,Qn tb),(1,iV n)] (fun lv hh=>lv=[]/\SH h bs [thR tb (pvL P V) T bs] hh/\Q0r P T=true) ?_ fun lv hh hJ=>?_
 · skip
   refine Q6<|I1 rfl<|Ic [_] rfl rfl (Qm (m79 (S.held 0 rfl)) ⟨ag0,?_⟩);refine I1 rfl<|Z1 (dc:=8) rfl (fun gJ=>?_) fun gJ=>?_
   · skip
     refine ZD (n:=5) (dc:=8) (w:=false) rfl gJ rfl<|IT rfl gJ rfl<|Q0<|Q3 rfl (fun hb=>?_) fun hb=>?_
     · skip
       refine Q6<|I2 rfl<|Q0<|Q8 ?_;refine⟨.inl rfl,_,rfl,?_⟩
       exact⟨by
        have:Q0r P T=false:=by unfold Q0r;rw[show Yc T=true from gJ];rfl
        rw[this];rfl,by
        have:Q0r P T=false:=by unfold Q0r;rw[show Yc T=true from gJ];rfl
        unfold Q1y;rw[this];exact⟨bs,S⟩⟩
     exact absurd hb (by decide)
   refine D1 gJ rfl<|Dc gJ [_] rfl rfl (C.mono (m73 (X0.ext (S0.all0 S0.own0 S)) (S.held 0 rfl) hT (gz gJ)) ?_);rintro v g ⟨⟨lv1,ln1,rfl,nw⟩,x⟩;have S:=S.grow x;refine⟨ag0,?_⟩;refine Qak (v:=iV (Qb P T).op) (gy rfl rfl rfl gJ) rfl rfl (by kernel_rfl)<|Dc gJ [_] rfl rfl (Qm (m84) ⟨ag0,?_⟩);refine Db gJ rfl<|Iu rfl gJ rfl<|Q0<|Q3 rfl (fun hb=>?_) fun hb=>?_
   · skip
     refine Q6<|I2 rfl<|Q0<|Q8 ?_;refine⟨.inl rfl,_,rfl,?_⟩
     exact⟨by
      have:Q0r P T=false:=by
       unfold Q0r;have h2:K3 (Qb P T).op=false:=by simpa using hb
       rw[h2,v0T]
      rw[this];rfl,by
      have:Q0r P T=false:=by
       unfold Q0r;have h2:K3 (Qb P T).op=false:=by simpa using hb
       rw[h2,v0T]
      unfold Q1y;rw[this];exact⟨bs,S⟩⟩
   refine Q4 ?_
   exact Zu [] (p:=⟨rfl,S,by
    have h2:K3 (Qb P T).op=true:=by simpa using hb
    unfold Q0r;rw[show Yc T=false from gJ,h2];rfl⟩)
 obtain⟨rfl,S,nV⟩:=hJ
 have ax:Yc T=false:=by
  unfold Q0r at nV;cases e:Yc T with
  |false=>rfl
  |true=>rw[e]at nV;cases nV
 have hl:=gz ax;have cg:T.F.length<=32:=hT.1;refine Q6<|I1 rfl<|Ic [_] rfl rfl (C.mono (m73 (X0.ext (S0.all0 S0.own0 S)) (S.held 0 rfl) hT hl) ?_);rintro v g ⟨⟨lv1,ln1,rfl,nw⟩,x⟩;have S:=S.grow x;refine⟨ag0,?_⟩;refine Qq (zv:=.agg #[iV 0,iV 0,iV 0,iV 0,iV 0,.slice none 0 0,iV 0,iV 0]) S gn rfl (by kernel_rfl) fun b1 g aF S=>?_;refine Qg (n:=8) 0 S gn rfl rfl (Qdm (QcF nw)) (by kernel_rfl) rfl rfl (by decide) rfl (fun g S=>ag0) fun g S=>?_;have S:SH h bs ([cR b1 (.cells [iV (Qb P T).op,iV (Qb P T).a,iV (Qb P T).b,iV (Qb P T).c,iV (Qb P T).n,lv1,iV (Qb P T).site,iV ln1] 76 0)]++[thR tb (pvL P V) T bs]) g:=S
 obtain⟨w,hw,ai,S⟩:=Q9y S;refine Q0<|ZH [(0,Qn tb)] (fun lv hh=>lv=[]/\SH h bs (thL tb (pvL P V) (if(Qb P T).op=9\/(Qb P T).op=23\/(Qb P T).op=24\/(Qb P T).op=28 then setT T (Qb P T).a n else T) w) hh) ?_ fun lv hh hJ=>?_
 · skip
   refine Q6<|I0 0 rfl<|I4 rfl (S.cel 0 rfl) rfl<|Ie rfl rfl<|I1 rfl ?_
   refine QS (n:=3) rfl rfl rfl gn rfl (fun hb=>by
    refine D0 0 hb rfl<|D4 hb rfl (S.cel 0 rfl) rfl<|De hb rfl rfl ?_
    exact Q0 ⟨rfl,rfl,3,rfl,rfl⟩) ?_
   refine I1 rfl ?_
   refine QS (n:=3) rfl rfl rfl gn rfl (fun hb=>by
    refine D0 0 hb rfl<|D4 hb rfl (S.cel 0 rfl) rfl<|De hb rfl rfl ?_
    exact Q0 ⟨rfl,rfl,3,rfl,rfl⟩) ?_
   refine I1 rfl ?_
   refine QS (n:=3) rfl rfl rfl gn rfl (fun hb=>by
    refine D0 0 hb rfl<|D4 hb rfl (S.cel 0 rfl) rfl<|De hb rfl rfl ?_
    exact Q0 ⟨rfl,rfl,3,rfl,rfl⟩) ?_
   refine Q0<|Q3 rfl (fun hb=>?_) fun hb=>?_
   · skip
     have aG:=Q86 hM (hT.2 _ (Y0 hl));have dK:=(QeB rfl).2 hb;have ha:=Q08 aG (by rcases dK with e|e|e|e<;>(rw[show(Q13 P (QB T).fn (QB T).at').op=_ from e];decide));obtain⟨a,c,fU⟩:=Qa (S.sl 2 rfl);have dq:=S.cel 1 rfl;rw[fU]at dq;have ao:=S.sl 2 rfl;rw[fU]at ao;obtain⟨b,r,m,rfl,bN,j6,_⟩:=Q91 ao hl;have aJ:=Y8 hl;obtain⟨v,hv⟩: ∃v,w.vs[T.F.length -1]?=some v:=⟨_,v0c (by omega)⟩;have gR:v0g ((T.F.length:Int) -1)=T.F.length -1:=by omega
     have bq:=(hT.2 _ (Y0 hl)).r
     have ha':0<=(Qb P T).a/\(Qb P T).a <((isV (QB T).regs).length:Nat):=by
      rw[v0s,bq];exact ha
     have aK:([cR b1 (.cells [iV (Qb P T).op,iV (Qb P T).a,iV (Qb P T).b,iV (Qb P T).c,iV (Qb P T).n,lv1,iV (Qb P T).site,iV ln1] 76 0)]++thL tb (pvL P V) T w)[2+(T.F.length -1)+1]?=some (slR 2 0 v.1 (isV (QB T).regs) (QB T).regs.length v.2):=Q31 aJ hv;obtain⟨b2,c2,eu,_,hcl2⟩:=Q00 (S.sl _ aK) (by omega);have k0:(frC T.F w.vs++r)[0+v0g ((T.F.length:Int) -1)*3+2]?=some v.1:=by rw[gR,v0f];exact Qv (Q0k _ _ _ _ _ _ aJ hv) (by omega) rfl
     refine I9<|I1 rfl<|I6 rfl<|I0 8 rfl<|I4 rfl dq rfl<|I1 rfl<|I6 rfl<|I0 8 rfl<|I4 rfl dq rfl<|I7 rfl<|Iso rfl rfl<|I5o 3 rfl rfl<|I0 2 rfl<|I4 rfl bN k0<|I0 1 rfl<|I4 rfl (S.cel 0 rfl) rfl ?_;refine I1 rfl ?_;rw[eu];refine I5o 1 rfl rfl ?_;rw[<-eu];refine Zq (2+(T.F.length -1)+1) S gn rfl rfl rfl (by kernel_rfl) aK eu (by omega) (fun g S=>ag0) fun g S=>?_;refine Q0 ?_
     exact Zu [] (p:=⟨rfl,by
      have S2:SH h bs (cR b1 _::(thL tb (pvL P V) T w).set (2+(T.F.length -1)) _) g:=S;have S3:=S2.drop;rw[Q1S aJ hv]at S3
      rw[if_pos dK];exact S3⟩)
   refine Q4 ?_
   exact Zu [] (p:=⟨rfl,by
    rw[if_neg (by rw[QeB rfl,hb];decide)];exact SH.drop S⟩)
 obtain⟨rfl,S⟩:=hJ;refine Q5 ?_
 have cC: ∃T1,T1=(if(Qb P T).op=9\/(Qb P T).op=23\/(Qb P T).op=24\/(Qb P T).op=28 then setT T (Qb P T).a n else T)/\Kr P T1/\T1.F.length=T.F.length:=by
  refine⟨_,rfl,?_⟩
  split
  · exact Q01 hT
  exact⟨hT,rfl⟩
 obtain⟨T1,e1,cC,k8⟩:=cC;rw[<-e1]at S;refine Q2 (by kernel_rfl)<|I1 rfl ?_;refine QZ [_,_] gn rfl rfl (by kernel_rfl) rfl (C.mono (m91 (k:=0) (SH.subL0 S0 S0.own0 S) (by rw[k8];exact hw) cC (by omega) (fun x hx=>(KA hM (cC.2 x hx)).1)) ?_);intro v g S2;have S:=SH.retL0 S S2;refine⟨ag0,?_⟩;refine QG<|I2 rfl<|Q0<|Q8 ?_;refine⟨.inl rfl,_,rfl,?_⟩
 exact⟨by rw[nV];rfl,by
  unfold Q1y;rw[if_pos nV,<-e1]
  exact Q9z S (by unfold onT;show w.vs.length=(QfZ _ _).length;rw[Q4j,k8];exact hw)⟩
end
abbrev YD (a:MAsk) (sv:Value):List Value:=[iV a.op,iV a.site,iV a.n,iV a.v,iV a.looper,sv]
abbrev askV (a:MAsk) (sv:Value):Value:=.agg #[iV a.op,iV a.site,iV a.n,iV a.v,iV a.looper,sv]
section
variable {h0 h:Hp} {P:Prg} {V:PrV} {tb:Nat} {x:Ins} {sv rv:Value} {ln:Int} {R:List Int}
theorem or3 {o a b c:Int} {r:Bool} (h:((decide (o=a)||decide (o=b))||decide (o=c))=r):(o=a\/o=b\/o=c)↔r=true:=by
 rw[<-h];simp only[v0H,decide_eq_true_eq,or_assoc]
theorem or2 {o a b:Int} {r:Bool} (h:(decide (o=a)||decide (o=b))=r):(o=a\/o=b)↔r=true:=by
 rw[<-h];simp only[v0H,decide_eq_true_eq]
theorem or4 {o a b c d:Int} {r:Bool} (h:(((decide (o=a)||decide (o=b))||decide (o=c))||decide (o=d))=r):(o=a\/o=b\/o=c\/o=d)↔r=true:=by
 rw[<-h];simp only[v0H,decide_eq_true_eq,or_assoc]
theorem m85 {F:Fun} (hr:RowV h rv (isV R)) (hR:(R.length:Int)=F.regs) (hl:cellV sv=true) (hi:Z2 P F x=true):C modE 105 [Qn tb,QfV x sv ln,rv] h fun v g'=>v=askV (Q4C x R) (.slice none 0 0)/\Ext h g':=by
 obtain⟨ra,rc,rfl⟩:=hr.valM
 have aX:0 <R.length-> ∃b o cs e m,ra=some ⟨b,o,none⟩/\h.get b=some (.cells cs e m)/\b <h.n/\ ∀a:Int,0<=a->a <R.length->cs[o+v0g a*1]?=some (iV (reg R a)):=fun hp=>by
  obtain⟨b,o,c,cs,e,m,hv,hg,hb,hc⟩:=hr.atM hp;refine⟨b,o,cs,e,m,by injection hv,hg,hb,fun a h0 h1=>?_⟩;rw[v0x,hc _ (by omega)];unfold reg;rw[v0c (by omega)];rfl
 refine YX (fu:=Tryz.f105) (by kernel_rfl) rfl ?_;have S:=SH.start h;refine Q6 ?_;refine QV S gn rfl rfl fun b1 g aF S=>?_;refine Qq (zv:=.agg #[iV 0,iV 0,iV 0,iV 0,iV 0,.slice none 0 0]) S gn rfl (by kernel_rfl) fun b2 g bL S=>?_;refine QG<|I0 0 rfl<|I4 rfl (S.cel 1 rfl) rfl<|I0 6 rfl<|I4 rfl (S.cel 1 rfl) rfl<|I0 4 rfl<|I4 rfl (S.cel 1 rfl) rfl<|Qs (zv:=.agg #[iV 0,iV 0,iV 0,iV 0,iV 0,.slice none 0 0]) (pl:=[(0,1),(1,1),(2,1),(3,1),(4,1),(5,1)]) [(0,_),(1,_),(2,_)] gn rfl (by kernel_rfl) (by kernel_rfl) rfl (by rfl) ?_
 refine Qq (zv:=.agg #[iV 0,iV 0,iV 0,iV 0,iV 0,.slice none 0 0]) S gn rfl (by kernel_rfl) fun b3 g fq S=>?_;refine Qg (n:=6) 0 S gn rfl rfl (by kernel_rfl) (by kernel_rfl) rfl rfl (by decide) rfl (fun g S=>ag0) fun g S=>?_;refine Q0 ?_;have S:SH h [] [cR b3 (.cells [iV x.op,iV x.site,iV x.n,iV 0,iV 0,.slice none 0 0] 202 0),cR b2 (.cells [iV 0,iV 0,iV 0,iV 0,iV 0,.slice none 0 0] 202 0),cR b1 (.cells [iV x.op,iV x.a,iV x.b,iV x.c,iV x.n,sv,iV x.site,iV ln] 76 0)] g:=S
 refine ZH [(2,.slice ra R.length rc),(4,Qn b1),(6,Qn b2),(7,Qn b3)] (fun lv hh=>lv=[]/\SH h [] [cR b3 (.cells [iV x.op,iV x.site,iV x.n,iV (if x.op=23\/x.op=24\/x.op=28 then reg R x.b else 0),iV (0),.slice none 0 0] 202 0),cR b2 (.cells [iV 0,iV 0,iV 0,iV 0,iV 0,.slice none 0 0] 202 0),cR b1 (.cells [iV x.op,iV x.a,iV x.b,iV x.c,iV x.n,sv,iV x.site,iV ln] 76 0)] hh) ?_ fun lv hh hJ=>?_
 · skip
   refine Q6<|I0 0 rfl<|I4 rfl (S.cel 2 rfl) rfl<|Ie rfl rfl<|I1 rfl ?_
   refine QS (n:=3) rfl rfl rfl gn rfl (fun hb=>by
    refine D0 0 hb rfl<|D4 hb rfl (S.cel 2 rfl) rfl<|De hb rfl rfl ?_
    exact Q0 ⟨rfl,rfl,3,rfl,rfl⟩) ?_
   refine I1 rfl ?_
   refine QS (n:=3) rfl rfl rfl gn rfl (fun hb=>by
    refine D0 0 hb rfl<|D4 hb rfl (S.cel 2 rfl) rfl<|De hb rfl rfl ?_
    exact Q0 ⟨rfl,rfl,3,rfl,rfl⟩) ?_
   refine Q0<|Q3 rfl (fun hb=>?_) fun hb=>?_
   · skip
     refine Q2 (by kernel_rfl)<|I1 rfl<|I0 2 rfl<|I4 rfl (S.cel 2 rfl) rfl ?_
     have hx:0<=x.b/\x.b <R.length:=by
      rw[hR];exact Q23 hi (by rcases (or3 rfl).2 hb with e|e|e<;>(rw[e];decide))
     obtain⟨b,o,cs,e,m,rfl,hg,aj,hc⟩:=aX (by omega);refine I5o 1 rfl rfl<|I4 rfl (S.old0 hg aj) (hc _ hx.1 hx.2)<|I0 3 rfl ?_;refine Qj 0 S gn rfl rfl rfl (by kernel_rfl) rfl (by decide) (by simp) (fun g S=>ag0) fun g S=>?_;refine Q0 ?_;exact Zu [] (p:=⟨rfl,by rw[if_pos ((or3 rfl).2 hb)];exact S⟩)
   refine Q4 ?_;exact Zu [] (p:=⟨rfl,by rw[if_neg (fun e=>v1R (((or3 rfl).1 e).symm.trans hb))];exact S⟩)
 obtain⟨rfl,S⟩:=hJ;refine ZH [(2,.slice ra R.length rc),(4,Qn b1),(6,Qn b2),(7,Qn b3)] (fun lv hh=>lv=[]/\SH h [] [cR b3 (.cells [iV x.op,iV x.site,iV x.n,iV (if x.op=23\/x.op=24\/x.op=28 then reg R x.b else 0),iV (if x.op=23\/x.op=24 then x.c else 0),.slice none 0 0] 202 0),cR b2 (.cells [iV 0,iV 0,iV 0,iV 0,iV 0,.slice none 0 0] 202 0),cR b1 (.cells [iV x.op,iV x.a,iV x.b,iV x.c,iV x.n,sv,iV x.site,iV ln] 76 0)] hh) ?_ fun lv hh hJ=>?_
 · skip
   refine Q6<|I0 0 rfl<|I4 rfl (S.cel 2 rfl) rfl<|Ie rfl rfl<|I1 rfl ?_
   refine QS (n:=3) rfl rfl rfl gn rfl (fun hb=>by
    refine D0 0 hb rfl<|D4 hb rfl (S.cel 2 rfl) rfl<|De hb rfl rfl ?_
    exact Q0 ⟨rfl,rfl,3,rfl,rfl⟩) ?_
   refine Q0<|Q3 rfl (fun hb=>?_) fun hb=>?_
   · skip
     refine Q2 (by kernel_rfl)<|I0 3 rfl<|I4 rfl (S.cel 2 rfl) rfl<|I0 4 rfl ?_;refine Qj 0 S gn rfl rfl rfl (by kernel_rfl) rfl (by decide) (by simp) (fun g S=>ag0) fun g S=>?_;refine Q0 ?_;exact Zu [] (p:=⟨rfl,by rw[if_pos ((or2 rfl).2 hb)];exact S⟩)
   refine Q4 ?_;exact Zu [] (p:=⟨rfl,by rw[if_neg (fun e=>v1R (((or2 rfl).1 e).symm.trans hb))];exact S⟩)
 obtain⟨rfl,S⟩:=hJ;refine ZH [(6,Qn b2),(7,Qn b3)] (fun lv hh=>lv=[]/\SH h [] [cR b3 (.cells [iV x.op,iV x.site,iV x.n,iV (if x.op=10\/x.op=25\/x.op=29\/x.op=30 then reg R x.a else if x.op=23\/x.op=24\/x.op=28 then reg R x.b else 0),iV (if x.op=23\/x.op=24 then x.c else 0),.slice none 0 0] 202 0),cR b2 (.cells [iV 0,iV 0,iV 0,iV 0,iV 0,.slice none 0 0] 202 0),cR b1 (.cells [iV x.op,iV x.a,iV x.b,iV x.c,iV x.n,sv,iV x.site,iV ln] 76 0)] hh) ?_ fun lv hh hJ=>?_
 · skip
   refine Q6<|I0 0 rfl<|I4 rfl (S.cel 2 rfl) rfl<|Ie rfl rfl<|I1 rfl ?_
   refine QS (n:=3) rfl rfl rfl gn rfl (fun hb=>by
    refine D0 0 hb rfl<|D4 hb rfl (S.cel 2 rfl) rfl<|De hb rfl rfl ?_
    exact Q0 ⟨rfl,rfl,3,rfl,rfl⟩) ?_
   refine I1 rfl ?_
   refine QS (n:=3) rfl rfl rfl gn rfl (fun hb=>by
    refine D0 0 hb rfl<|D4 hb rfl (S.cel 2 rfl) rfl<|De hb rfl rfl ?_
    exact Q0 ⟨rfl,rfl,3,rfl,rfl⟩) ?_
   refine I1 rfl ?_
   refine QS (n:=3) rfl rfl rfl gn rfl (fun hb=>by
    refine D0 0 hb rfl<|D4 hb rfl (S.cel 2 rfl) rfl<|De hb rfl rfl ?_
    exact Q0 ⟨rfl,rfl,3,rfl,rfl⟩) ?_
   refine Q0<|Q3 rfl (fun hb=>?_) fun hb=>?_
   · skip
     refine Q2 (by kernel_rfl)<|I1 rfl<|I0 1 rfl<|I4 rfl (S.cel 2 rfl) rfl ?_
     have hx:0<=x.a/\x.a <R.length:=by
      rw[hR];exact Q08 hi (by rcases (or4 rfl).2 hb with e|e|e|e<;>(rw[e];decide))
     obtain⟨b,o,cs,e,m,rfl,hg,aj,hc⟩:=aX (by omega);refine I5o 1 rfl rfl<|I4 rfl (S.old0 hg aj) (hc _ hx.1 hx.2)<|I0 3 rfl ?_;refine Qj 0 S gn rfl rfl rfl (by kernel_rfl) rfl (by decide) (by simp) (fun g S=>ag0) fun g S=>?_;refine Q0 ?_;exact Zu [] (p:=⟨rfl,by rw[if_pos ((or4 rfl).2 hb)];exact S⟩)
   refine Q4 ?_;exact Zu [] (p:=⟨rfl,by rw[if_neg (fun e=>v1R (((or4 rfl).1 e).symm.trans hb))];exact S⟩)
 obtain⟨rfl,S⟩:=hJ;refine Q6<|I3 6 rfl (S.cel 0 rfl) (v0b _) ?_;refine Qg (n:=6) 1 S gn rfl rfl (by kernel_rfl) (by kernel_rfl) rfl rfl (by decide) rfl (fun g S=>ag0) fun g S=>?_;refine Q0<|Q8 ?_;refine⟨.inl rfl,_,(Zr rfl (by kernel_rfl) (by kernel_rfl) (S.cel 1 rfl) rfl rfl),?_⟩;exact⟨rfl,S.e0⟩
theorem Qdy {l:List Int} {n i:Nat} (hi:i <l.length) (hn:l.length<=n):(l.take i++v0n (n -i) 0).set i l[i]=l.take (i+1)++v0n (n - (i+1)) 0:=by
 rw[List.set_append_right _ _ (by rw[v0D];omega),v0D,Nat.min_eq_left (by omega),Nat.sub_self,show n -i=(n - (i+1))+1 by omega,List.replicate_succ,List.set_cons_zero,v0U,v0c hi];show _=(List.take i l++[l[i]])++_;rw[v0B];rfl
theorem Qf2 {R:List Int} {ra:Option Addr} {rc:Nat} (hr:RowV h (.slice ra R.length rc) (isV R)):0 <R.length-> ∃b o cs e m,ra=some ⟨b,o,none⟩/\h.get b=some (.cells cs e m)/\b <h.n/\ ∀a:Int,0<=a->a <R.length->cs[o+v0g a*1]?=some (iV (reg R a)):=fun hp=>by
 obtain⟨b,o,c,cs,e,m,hv,hg,hb,hc⟩:=hr.atM hp;refine⟨b,o,cs,e,m,by injection hv,hg,hb,fun a h0 h1=>?_⟩;rw[v0x,hc _ (by omega)];unfold reg;rw[v0c (by omega)];rfl
theorem Qf8 (X:Q1r h P V):sameV 20 (.agg (pvL P V).toArray) (.agg (pvL P V).toArray)=true:=by
 obtain⟨⟨oa,oc,e1⟩,⟨ca,cc,e2⟩,⟨ga,gc,e3⟩,⟨fa,fc,e4⟩,⟨pa,pc,e5⟩,⟨ea,ec,e6⟩,⟨sa,sc,e7⟩⟩:=X.vals;unfold pvL;rw[e1,e2,e3,e4,e5,e6,e7];cases oa<;>cases ca<;>cases ga<;>cases fa<;>cases pa<;>cases ea<;>cases sa<;>simp[sameV,sameV.sameL,Z8]
theorem m70 {f:Int} {cells:List Int} {cv:Value} (X:Q1r h P V) (hM:ZM P=true) (f0:0<=f) (f1:f <P.funs.length) (hc:RowV h cv (isV cells)) (hl:(cells.length:Int)<=(Qz P f).regs):C modE 85 [.agg (pvL P V).toArray,iV f,cv] h fun v g'=> ∃rv rb,v=.agg #[iV f,iV 0,rv]/\SH h [] [slR 2 0 rv (isV (Ye P f cells).regs) (Ye P f cells).regs.length rb] g':=by
 obtain⟨ca,cc,rfl⟩:=hc.valM;have aX:=Qf2 hc;have ck:=Yz hM f0 f1;obtain⟨fb,fo,fc,fcs,fe,fm,da,gF,fV,hfn,s,cv,iA,fp⟩:=PrgAt.fun X f0 f1;have kf:fcs[fo+v0g f*4+2]?=some (iV (Qz P f).regs):=Qv iA (by omega) rfl
 have dW:(Ye P f cells).regs.length=(Qz P f).regs.toNat:=by
  show(cells++v0n ((Qz P f).regs.toNat -cells.length) 0).length=_;simp;omega
 generalize hn:(Qz P f).regs.toNat=n at dW;have hn':(Qz P f).regs=n:=by omega
 rw[hn']at kf;have cK:cells.length<=n:=by omega
 refine YX (fu:=Tryz.f85) (by kernel_rfl) rfl ?_;have S:=SH.start h;refine Q6 ?_;refine QV S gn rfl rfl fun b1 g aF S=>?_;refine Qq (zv:=.agg #[iV 0,iV 0,.slice none 0 0]) S gn rfl (by kernel_rfl) fun b2 g bL S=>?_;refine QG<|I1 rfl<|I0 3 rfl<|I4 rfl (S.cel 1 rfl) rfl<|I1 rfl ?_;rw[da];refine I5o 4 rfl rfl ?_;rw[<-da];refine I0 2 rfl<|I4 rfl (S.old0 gF fV) kf ?_;refine Yb (e:=2) (z:=0) (zv:=.int .i64 0) (by':=8) S gn rfl rfl rfl (by kernel_rfl) (by kernel_rfl) (by kernel_rfl) (by kernel_rfl) (by decide) (by omega) (by omega) (by omega) (by omega) fun b3 g fq S=>?_
 have S:=S.toSl (z:=0) (n:=n) 0 rfl (.inl rfl) (by rw[show(Value.int .i64 0).cells.toList=[iV 0] from rfl,Q36];simp);rw[show(Value.int .i64 0).cells.toList=[iV 0] from rfl,Q36]at S;refine Qs (zv:=.agg #[iV 0,iV 0,.slice none 0 0]) (pl:=[(0,1),(1,1),(2,1)]) [(0,_),(2,_)] gn rfl (by kernel_rfl) (by kernel_rfl) rfl (by rfl) ?_;refine Qq (zv:=.agg #[iV 0,iV 0,.slice none 0 0]) S gn rfl (by kernel_rfl) fun b4 g kx S=>?_;refine Qg (n:=3) 0 S gn rfl rfl (by kernel_rfl) (by kernel_rfl) rfl rfl (by decide) rfl (fun g S=>ag0) fun g S=>?_;refine Q0<|Q5<|Q5 ?_
 have S:SH h [] [cR b4 (.cells [iV f,iV 0,.slice (some ⟨b3,0,none⟩) n n] 192 0),slR 2 0 (.slice (some ⟨b3,0,none⟩) n n) (isV (v0n n 0)) n [b3],cR b2 (.cells [iV 0,iV 0,.slice none 0 0] 192 0),cR b1 (.cells (pvL P V) 30 0)] g:=S;refine Q2 (by kernel_rfl)<|I2 rfl<|Q0<|Q7 ?_
 refine Ql [(8,_)] [(2,_),(6,_),(7,_)] (fun kk lv hh=> ∃i:Nat,lv=[(8,iV i)]/\kk=cells.length -i/\i<=cells.length/\SH h [] [cR b4 (.cells [iV f,iV 0,.slice (some ⟨b3,0,none⟩) n n] 192 0),slR 2 0 (.slice (some ⟨b3,0,none⟩) n n) (isV (cells.take i++v0n (n -i) 0)) n [b3],cR b2 (.cells [iV 0,iV 0,.slice none 0 0] 192 0),cR b1 (.cells (pvL P V) 30 0)] hh) (n:=cells.length) ?_ fun kk lv hh hI=>?_
 · exact⟨0,rfl,rfl,v0t _,by simpa using S⟩
 obtain⟨i,rfl,eX,hi,S⟩:=hI;refine Q5<|Q6<|I1 rfl<|I1 rfl<|I7 rfl<|Il rfl rfl<|Q0<|Q3 rfl (fun hb=>?_) fun hb=>?_
 · skip
   refine Q4 ?_;have hi:i <cells.length:=by simp at hb;omega
   obtain⟨b,o,cs,e,m,rfl,hg,aj,hc⟩:=aX (by omega);have kc:=hc i (by omega) (by omega);have ei:reg cells i=cells[i]:=by unfold reg;rw[v0e,v0c hi];rfl
   refine Q5<|Q7<|I9<|I0 2 rfl<|I4 rfl (S.cel 0 rfl) rfl<|I1 rfl<|I1 rfl<|I1 rfl<|I5o 1 rfl rfl<|I4 rfl (S.old0 hg aj) kc<|I5o 1 rfl rfl<|Zq 1 S gn rfl rfl rfl (by kernel_rfl) rfl rfl (by simp;omega) (fun g S=>ag0) fun g S=>?_;refine Q0<|Q2 (by kernel_rfl)<|I1 rfl<|Iao rfl rfl<|I2 rfl<|Q0 ?_
   exact ZC (cells.length - (i+1)) [(8,_)] (p:=⟨i+1,rfl,rfl,by omega,by
    have e:(isV (cells.take i++v0n (n -i) 0)).set (0+v0g (i:Int)*1) (iV (reg cells i))=isV (cells.take (i+1)++v0n (n - (i+1)) 0):=by
     rw[v0e,v0f,v0x,KZ,ei,Qdy hi cK]
    rw[<-e];exact S⟩)
 refine Qp<|Qc<|Qe<|Qo ?_;obtain rfl:i=cells.length:=by simp at hb;omega
 rw[v0V]at S;refine Q6<|I3 3 rfl (S.cel 0 rfl) (v0b _) ?_;refine Qg (n:=3) 2 S gn rfl rfl (by kernel_rfl) (by kernel_rfl) rfl rfl (by decide) rfl (fun g S=>ag0) fun g S=>?_;refine Q0<|Q8 ?_;refine⟨.inl rfl,_,(Zr rfl (by kernel_rfl) (by kernel_rfl) (S.cel 2 rfl) rfl rfl),?_⟩
 exact⟨.slice (some ⟨b3,0,none⟩) n n,[b3],rfl,by
  rw[dW];show SH h [] [slR 2 0 (.slice (some ⟨b3,0,none⟩) n n) (isV (cells++v0n ((Qz P f).regs.toNat -cells.length) 0)) n [b3]] _;rw[hn]
  exact S.pick 1 rfl⟩
theorem m49 {f:Int} {cells:List Int} {cv:Value} (X:Q1r h P V) (hM:ZM P=true) (f0:0<=f) (f1:f <P.funs.length) (hc:RowV h cv (isV cells)) (hl:(cells.length:Int)=(Qz P f).caps):C modE 54 [.agg (pvL P V).toArray,iV f,cv] h fun v g'=> ∃tb bs,v=.tuple #[Qn tb,iV 0]/\SH h [] [thR tb (pvL P V) ⟨[Ye P f cells],0⟩ bs] g':=by
 obtain⟨ca,cc,rfl⟩:=hc.valM;have ck:=Yz hM f0 f1;obtain⟨fb,fo,fc,fcs,fe,fm,da,gF,fV,hfn,s,cv,iA,fp⟩:=PrgAt.fun X f0 f1;have kf:fcs[fo+v0g f*4+1]?=some (iV (Qz P f).caps):=Qv iA (by omega) rfl;have aG:inB f P.funs.length=true:=Zb.2 ⟨f0,f1⟩;refine Q9 (fu:=Tryz.f54) (by kernel_rfl) rfl ?_;have S:=SH.start h;refine Q6 ?_;refine QV S gn rfl rfl fun b1 g aF S=>?_;have S:SH h [] [cR b1 (.cells (pvL P V) 30 0)] g:=S;refine I2 rfl<|I2 rfl<|Z5<|I1 rfl<|I0 3 rfl<|I4 rfl (S.cel 0 rfl) rfl ?_;rw[da];refine I7 rfl ?_;rw[<-da];refine Ic [_,_] rfl rfl (Qm (c18) ⟨ag0,?_⟩)
 refine Ib rfl<|I1 rfl ?_
 refine QS (n:=9) rfl rfl rfl gn rfl (fun hb=>by
  refine D1 hb rfl<|D7 hb rfl<|D0 3 hb rfl<|D4 hb rfl (S.cel 0 rfl) rfl<|D1 hb rfl ?_;rw[da];refine D5o 4 hb rfl rfl ?_;rw[<-da];refine D0 1 hb rfl<|D4 hb rfl (S.old0 gF fV) kf<|Dn hb rfl rfl ?_
  exact Q0 ⟨rfl,rfl,9,rfl,rfl⟩) ?_
 refine Q0<|Q3 rfl (fun hb=>?_) fun hb=>?_
 · skip
   refine Q6 ?_;rw[aG]at hb;simp at hb;omega
 refine Q4<|Q5<|ZZ [(0,[]),(1,[]),(2,[]),(3,[]),(4,[0]),(5,[]),(6,[]),(7,[]),(8,[]),(9,[])] (by kernel_rfl) (by kernel_rfl) (by kernel_rfl) (by kernel_rfl)<|I3 8 rfl (S.cel 0 rfl) (v0b _)<|I3 8 rfl (S.cel 0 rfl) (v0b _)<|I1 rfl<|I1 rfl<|Ic [_,_,_] rfl rfl (C.mono (m70 (X.ext S.e0) hM f0 f1 (hc.ext S.e0) (by omega)) ?_);rintro v g ⟨rv,rb,rfl,S2⟩;have S:=SH.retL (A:=[]) S S2;obtain⟨ra,rc,rfl⟩:=Qa (S.sl 0 rfl);refine⟨ag1 (Q0A (n:=8) gn rfl (by kernel_rfl) (by kernel_rfl) (S.cel 1 rfl) (v0b _) rfl (Qf8 X)) ag0,?_⟩
 refine Qd (cs:= #[iV f,iV 0,.slice ra (Ye P f cells).regs.length rc]) (e:=192) (z:=2) (zv:=.agg #[iV 0,iV 0,.slice none 0 0]) [(0,_)] S gn rfl (by kernel_rfl) (by kernel_rfl) (by kernel_rfl) (by kernel_rfl) rfl (by kernel_rfl) fun b2 g bL S=>?_;refine Qs (cs:= #[V.lo,V.cl,V.gl,V.fu,V.co,V.ev,iV P.main,V.si,.slice (some ⟨b2,0,none⟩) 1 1,iV 0]) (zv:=.agg #[.slice none 0 0,.slice none 0 0,.slice none 0 0,.slice none 0 0,.slice none 0 0,.slice none 0 0,iV 0,.slice none 0 0,.slice none 0 0,iV 0]) (pl:=[(0,8),(8,1),(9,1)]) [(0,_),(1,_)] gn rfl (by kernel_rfl) (by kernel_rfl) rfl (by kernel_rfl) ?_;refine QV S gn rfl rfl fun b3 g fq S=>?_
 have S:SH h [] [cR b3 (.cells (pvL P V++[.slice (some ⟨b2,0,none⟩) 1 1,iV 0]) 196 0),cR b2 (.cells [iV f,iV 0,.slice ra (Ye P f cells).regs.length rc] 192 0),slR 2 0 (.slice ra (Ye P f cells).regs.length rc) (isV (Ye P f cells).regs) (Ye P f cells).regs.length rb,cR b1 (.cells (pvL P V) 30 0)] g:=S;refine I2 rfl<|I2 rfl<|Q0<|Q8 ?_;refine⟨.inl rfl,_,rfl,?_⟩
 exact⟨b3,by
  have S:=S.toSl (z:=2) (n:=1) 1 rfl (.inl rfl) rfl;have e:thL b3 (pvL P V) ⟨[Ye P f cells],0⟩ ⟨.slice (some ⟨b2,0,none⟩) 1 1,[b2],[(.slice ra (Ye P f cells).regs.length rc,rb)]⟩=[cR b3 (.cells (pvL P V++[.slice (some ⟨b2,0,none⟩) 1 1,iV 0]) 196 0),slR 192 2 (.slice (some ⟨b2,0,none⟩) 1 1) [iV f,iV 0,.slice ra (Ye P f cells).regs.length rc] 1 [b2],slR 2 0 (.slice ra (Ye P f cells).regs.length rc) (isV (Ye P f cells).regs) (Ye P f cells).regs.length rb]:=rfl
  have S3:SH h [] ([cR b3 (.cells (pvL P V++[.slice (some ⟨b2,0,none⟩) 1 1,iV 0]) 196 0),slR 192 2 (.slice (some ⟨b2,0,none⟩) 1 1) [iV f,iV 0,.slice ra (Ye P f cells).regs.length rc] 1 [b2],slR 2 0 (.slice ra (Ye P f cells).regs.length rc) (isV (Ye P f cells).regs) (Ye P f cells).regs.length rb]++[cR b1 (.cells (pvL P V) 30 0)]) g:=S;obtain⟨aa,S4⟩:=Q9z (by rw[e];exact S3.fst) rfl
  exact⟨aa,rfl,S4⟩⟩
end
section
variable {h:Hp} {ra:Option Addr} {n c:Nat} {R:List Int} {vb:List Nat} {x:Ins} {it:Int}
theorem Q2N {a:Int} (x:SlC 2 0 h (.slice ra n c) (isV R) R.length vb) (h0:0<=a) (h1:a <R.length): ∃b cs m,ra=some ⟨b,0,none⟩/\h.get b=some (.cells cs 2 m)/\cs[0+v0g a*1]?=some (iV (reg R a)):=by
 rcases x with⟨_,e,_⟩| ⟨b,m,c',r,e,hg,_⟩
 · cases R with
   |nil=>simp at h1;omega
   |cons _ _=>cases e
 cases e;refine⟨b,_,m,rfl,hg,?_⟩;rw[v0f,v0x,List.getElem?_append_left (by rw[v0s];omega),List.getElem?_map,Q7z h0 h1];rfl
theorem Q56 {a d:Int} (x:SlC 2 0 h (.slice ra n c) (isV R) R.length vb) (h0:0<=a/\a <R.length) (h1:0<=d/\d <R.length): ∃b cs m,ra=some ⟨b,0,none⟩/\h.get b=some (.cells cs 2 m)/\cs[0+v0g a*1]?=some (iV (reg R a))/\cs[0+v0g d*1]?=some (iV (reg R d)):=by
 obtain⟨b,cs,m,rfl,hg,hc⟩:=Q2N x h0.1 h0.2;obtain⟨b',cs',m',e,iy,mw⟩:=Q2N x h1.1 h1.2;cases e;rw[hg]at iy;cases iy;exact⟨b,cs,m,rfl,hg,hc,mw⟩
theorem reck1 (h:x.op=1):ZV x R it=some x.n:=by unfold ZV;rw[h];rfl
theorem reck2 (h:x.op=2):ZV x R it=some (reg R x.b):=by unfold ZV;rw[h];rfl
theorem reck3 (h:x.op=3):ZV x R it=some (wr (reg R x.b+reg R x.c)):=by unfold ZV;rw[h];rfl
theorem reck4 (h:x.op=4):ZV x R it=some (wr (reg R x.b -reg R x.c)):=by unfold ZV;rw[h];rfl
theorem reck5 (h:x.op=5):ZV x R it=some (wr (reg R x.b*reg R x.c)):=by unfold ZV;rw[h];rfl
theorem reck6 (h:x.op=6) {b:Bool} (hb:decide (reg R x.b <reg R x.c)=b):ZV x R it=some (if b then 1 else 0):=by
 unfold ZV;rw[h,<-hb];simp
theorem reck7 (h:x.op=7) {b:Bool} (hb:decide (reg R x.b=reg R x.c)=b):ZV x R it=some (if b then 1 else 0):=by
 unfold ZV;rw[h,<-hb];simp
theorem reck8 (h:x.op=8):ZV x R it=some it:=by unfold ZV;rw[h];rfl
theorem reck0 (h:x.op <1\/8 <x.op):ZV x R it=none:=by
 unfold ZV;rw[if_neg (by omega),if_neg (by omega),if_neg (by omega),if_neg (by omega),if_neg (by omega),if_neg (by omega),if_neg (by omega),if_neg (by omega)]
theorem reckR {n:Int} (h:ZV x R it=some n):1<=x.op/\x.op<=8:=by
 refine Classical.byContradiction fun e=>?_;rw[reck0 (by omega)]at h;cases h
end
section
variable {h0 h:Hp} {P:Prg} {V:PrV} {tb:Nat} {T:MThr} {w:ThW}
abbrev Q6D (x:Ins) (T:MThr) (it:Int):MThr:=match ZV x (QB T).regs it with|some n=>onT (setT T x.a n) 0|none=>T
theorem Q38 {x:Ins} {it n:Int} (h:ZV x (QB T).regs it=some n):Q6D x T it=onT (setT T x.a n) 0:=by unfold Q6D;rw[h]
theorem Q0M {x:Ins} {it:Int} (h:ZV x (QB T).regs it=none):Q6D x T it=T:=by unfold Q6D;rw[h]
theorem m86 {x:Ins} {sv:Value} {v:Value×List Nat} {ln it:Int} (S0:SH h0 [] (thL tb (pvL P V) T w) h) (hM:ZM P=true) (hw:w.vs.length=T.F.length) (hT:Kr P T) (hl:0 <T.F.length) (hi:Z2 P (Qz P (QB T).fn) x=true) (hv:w.vs[T.F.length -1]?=some v) (hs:cellV sv=true):C modE 106 [Qn tb,QfV x sv ln,v.1,iV it] h fun r g'=>r=.bool (ZV x (QB T).regs it).isSome/\SH h (owns (thL tb (pvL P V) T w)) (thL tb (pvL P V) (Q6D x T it) w) g':=by
 have SE:=S0.enterL;have aJ:=Y8 hl;have bq:=(hT.2 _ (Y0 hl)).r;obtain⟨v1,vb⟩:=v;have gj:(thL tb (pvL P V) T w)[2+(T.F.length -1)]?=some (slR 2 0 v1 (isV (QB T).regs) (QB T).regs.length vb):=Q31 aJ hv;obtain⟨ra,rc,rfl⟩:=Qa (SE.sl _ gj);obtain⟨c1,l9⟩: ∃c1:Nat,(QB T).regs.length=c1:=⟨_,rfl⟩
 have ot:3<=Ys x.op->(0<=x.b/\x.b <(QB T).regs.length)/\(0<=x.c/\x.c <(QB T).regs.length):=fun k=>by
  rw[bq];exact⟨Q23 hi (by omega),Qf5 hi k⟩
 refine Q9 (fu:=Tryz.f106) (by kernel_rfl) rfl ?_;have S:=SE;refine Q6 ?_;refine QV S gn rfl rfl fun b1 g aF S=>?_;refine I2 rfl<|QG<|I2 rfl<|Q0 ?_;have S:SH h (owns (thL tb (pvL P V) T w)) (cR b1 (.cells [iV x.op,iV x.a,iV x.b,iV x.c,iV x.n,sv,iV x.site,iV ln] 76 0)::thL tb (pvL P V) T w) g:=S;have aK:(cR b1 (.cells [iV x.op,iV x.a,iV x.b,iV x.c,iV x.n,sv,iV x.site,iV ln] 76 0)::thL tb (pvL P V) T w)[2+(T.F.length -1)+1]?=some (slR 2 0 (.slice ra (QB T).regs.length rc) (isV (QB T).regs) (QB T).regs.length vb):=gj
 refine ZH [(0,Qn tb),(2,.slice ra (QB T).regs.length rc),(5,Qn b1)] (fun lv hh=> ∃n,lv=[(9,iV n)]/\ZV x (QB T).regs it=some n/\SH h (owns (thL tb (pvL P V) T w)) (cR b1 (.cells [iV x.op,iV x.a,iV x.b,iV x.c,iV x.n,sv,iV x.site,iV ln] 76 0)::thL tb (pvL P V) T w) hh) ?_ fun lv hh hJ=>?_
 · skip
   refine Q6<|I0 0 rfl<|I4 rfl (S.cel 0 rfl) rfl<|Q0<|Q7<|Q6<|Ie rfl rfl<|I2 rfl<|Q0<|Q3 rfl (fun hb=>?_) fun hb=>?_
   · skip
     refine Q2 (by kernel_rfl)<|I0 4 rfl<|I4 rfl (S.cel 0 rfl) rfl<|I2 rfl<|Q0<|Qk ?_;exact Zu [(9,_)] (p:=⟨_,rfl,reck1 (of_decide_eq_true hb),S⟩)
   refine Q6<|Ie rfl rfl<|I2 rfl<|Q0<|Q3 rfl (fun hb=>?_) fun hb=>?_
   · skip
     refine Q2 (by kernel_rfl)<|I1 rfl<|I0 2 rfl<|I4 rfl (S.cel 0 rfl) rfl ?_
     have hx:0<=x.b/\x.b <(QB T).regs.length:=by
      rw[bq];exact Q23 hi (by rw[show x.op=2 from of_decide_eq_true hb];decide)
     obtain⟨b2,cs,m,rfl,hg,k1⟩:=Q2N (a:=x.b) (S.sl _ aK) hx.1 hx.2;refine I5o 1 rfl rfl<|I4 rfl hg k1<|I2 rfl<|Q0<|Qk ?_;exact Zu [(9,_)] (p:=⟨_,rfl,reck2 (of_decide_eq_true hb),S⟩)
   refine Q6<|Ie rfl rfl<|I2 rfl<|Q0<|Q3 rfl (fun hb=>?_) fun hb=>?_
   · skip
     refine I9<|I1 rfl<|I0 2 rfl<|I4 rfl (S.cel 0 rfl) rfl ?_;have hx:=ot (by rw[show x.op=3 from of_decide_eq_true hb];decide);obtain⟨b2,cs,m,rfl,hg,k1,k2⟩:=Q56 (S.sl _ aK) hx.1 hx.2;refine I5o 1 rfl rfl<|I4 rfl hg k1<|I1 rfl<|I0 3 rfl<|I4 rfl (S.cel 0 rfl) rfl<|I5o 1 rfl rfl<|I4 rfl hg k2<|Q0b gn rfl rfl rfl<|I2 rfl<|Q0<|Qk ?_;exact Zu [(9,_)] (p:=⟨_,rfl,reck3 (of_decide_eq_true hb),S⟩)
   refine Q6<|Ie rfl rfl<|I2 rfl<|Q0<|Q3 rfl (fun hb=>?_) fun hb=>?_
   · skip
     refine I9<|I1 rfl<|I0 2 rfl<|I4 rfl (S.cel 0 rfl) rfl ?_;have hx:=ot (by rw[show x.op=4 from of_decide_eq_true hb];decide);obtain⟨b2,cs,m,rfl,hg,k1,k2⟩:=Q56 (S.sl _ aK) hx.1 hx.2;refine I5o 1 rfl rfl<|I4 rfl hg k1<|I1 rfl<|I0 3 rfl<|I4 rfl (S.cel 0 rfl) rfl<|I5o 1 rfl rfl<|I4 rfl hg k2<|o_subW gn rfl rfl rfl<|I2 rfl<|Q0<|Qk ?_;exact Zu [(9,_)] (p:=⟨_,rfl,reck4 (of_decide_eq_true hb),S⟩)
   refine Q6<|Ie rfl rfl<|I2 rfl<|Q0<|Q3 rfl (fun hb=>?_) fun hb=>?_
   · skip
     refine I9<|I1 rfl<|I0 2 rfl<|I4 rfl (S.cel 0 rfl) rfl ?_;have hx:=ot (by rw[show x.op=5 from of_decide_eq_true hb];decide);obtain⟨b2,cs,m,rfl,hg,k1,k2⟩:=Q56 (S.sl _ aK) hx.1 hx.2;refine I5o 1 rfl rfl<|I4 rfl hg k1<|I1 rfl<|I0 3 rfl<|I4 rfl (S.cel 0 rfl) rfl<|I5o 1 rfl rfl<|I4 rfl hg k2<|o_mulW gn rfl rfl rfl<|I2 rfl<|Q0<|Qk ?_;exact Zu [(9,_)] (p:=⟨_,rfl,reck5 (of_decide_eq_true hb),S⟩)
   refine Q6<|Ie rfl rfl<|I2 rfl<|Q0<|Q3 rfl (fun hb=>?_) fun hb=>?_
   · skip
     refine Q5<|I9 ?_;have ho:=of_decide_eq_true hb;refine I1 rfl<|I0 2 rfl<|I4 rfl (S.cel 0 rfl) rfl ?_;have hx:=ot (by rw[show x.op=6 from of_decide_eq_true hb];decide);obtain⟨b2,cs,m,rfl,hg,k1,k2⟩:=Q56 (S.sl _ aK) hx.1 hx.2;refine I5o 1 rfl rfl<|I4 rfl hg k1<|I1 rfl<|I0 3 rfl<|I4 rfl (S.cel 0 rfl) rfl<|I5o 1 rfl rfl<|I4 rfl hg k2<|Il rfl rfl<|Q0<|Q3 rfl (fun hb=>?_) fun hb=>?_
     · skip
       refine Q2 (by kernel_rfl)<|I2 rfl<|Q0<|Qk ?_;exact Zu [(9,_)] (p:=⟨_,rfl,reck6 ho hb,S⟩)
     refine Q4<|Qk ?_;exact Zu [(9,_)] (p:=⟨_,rfl,reck6 ho hb,S⟩)
   refine Q6<|Ie rfl rfl<|I2 rfl<|Q0<|Q3 rfl (fun hb=>?_) fun hb=>?_
   · skip
     refine Q5<|I9 ?_;have ho:=of_decide_eq_true hb;refine I1 rfl<|I0 2 rfl<|I4 rfl (S.cel 0 rfl) rfl ?_;have hx:=ot (by rw[show x.op=7 from of_decide_eq_true hb];decide);obtain⟨b2,cs,m,rfl,hg,k1,k2⟩:=Q56 (S.sl _ aK) hx.1 hx.2;refine I5o 1 rfl rfl<|I4 rfl hg k1<|I1 rfl<|I0 3 rfl<|I4 rfl (S.cel 0 rfl) rfl<|I5o 1 rfl rfl<|I4 rfl hg k2<|Ie rfl rfl<|Q0<|Q3 rfl (fun hb=>?_) fun hb=>?_
     · skip
       refine Q2 (by kernel_rfl)<|I2 rfl<|Q0<|Qk ?_;exact Zu [(9,_)] (p:=⟨_,rfl,reck7 ho hb,S⟩)
     refine Q4<|Qk ?_;exact Zu [(9,_)] (p:=⟨_,rfl,reck7 ho hb,S⟩)
   refine Q6<|Ie rfl rfl<|I2 rfl<|Q0<|Q3 rfl (fun hb=>?_) fun hb=>?_
   · skip
     refine Q2 (by kernel_rfl)<|I1 rfl<|I2 rfl<|Q0<|Qk ?_;exact Zu [(9,_)] (p:=⟨_,rfl,reck8 (of_decide_eq_true hb),S⟩)
   refine Q6<|I2 rfl<|Q0<|Q8 ?_;refine⟨.inl rfl,_,rfl,?_⟩
   exact(by
    have e:ZV x (QB T).regs it=none:=by
     unfold ZV;rw[if_neg (of_decide_eq_false ‹decide (x.op=1)=false›),if_neg (of_decide_eq_false ‹decide (x.op=2)=false›),if_neg (of_decide_eq_false ‹decide (x.op=3)=false›),if_neg (of_decide_eq_false ‹decide (x.op=4)=false›),if_neg (of_decide_eq_false ‹decide (x.op=5)=false›),if_neg (of_decide_eq_false ‹decide (x.op=6)=false›),if_neg (of_decide_eq_false ‹decide (x.op=7)=false›),if_neg (of_decide_eq_false ‹decide (x.op=8)=false›)]
    rw[Q0M e,e]
    exact⟨rfl,SH.drop S⟩)
 obtain⟨n,rfl,hn,S⟩:=hJ;refine Q6<|I1 rfl<|I0 1 rfl<|I4 rfl (S.cel 0 rfl) rfl<|I1 rfl ?_;have hr:=reckR hn
 have ha:=Q08 hi (by
  obtain⟨h1,h2⟩:=hr;have:x.op=1\/x.op=2\/x.op=3\/x.op=4\/x.op=5\/x.op=6\/x.op=7\/x.op=8:=by omega
  rcases this with e|e|e|e|e|e|e|e<;>(rw[e];decide))
 have ha':0<=x.a/\x.a <((isV (QB T).regs).length:Nat):=by
  rw[v0s,bq];exact ha
 obtain⟨b2,cJ,m2,rfl,dM,k2⟩:=Q2N (a:=x.a) (S.sl _ aK) ha.1 (by rw[bq];exact ha.2);refine I5o 1 rfl rfl<|Zq (2+(T.F.length -1)+1) S gn rfl rfl rfl (by kernel_rfl) aK rfl (by omega) (fun g S=>ag0) fun g S=>?_;have S2:SH h (owns (thL tb (pvL P V) T w)) (cR b1 _::(thL tb (pvL P V) T w).set (2+(T.F.length -1)) _) g:=S;have S3:=S2.drop;rw[Q1S aJ hv]at S3;have S3:SH h (owns (thL tb (pvL P V) T w)) (thL tb (pvL P V) (setT T x.a n) w) g:=S3;have cC:=Q01 (a:=x.a) (n:=n) hT;refine QG<|I1 rfl ?_
 refine QZ [_,_] gn rfl rfl (by kernel_rfl) rfl (C.mono (m91 (k:=0) (P:=P) (V:=V) (T:=setT T x.a n) (w:=w) (h0:=h0) (SH.subL0 S0 S0.own0L S3) (by rw[cC.2];exact hw) cC.1 (by omega) (fun y hy=>(KA hM (cC.1.2 y hy)).1)) ?_);intro v g S2;have S:=SH.retL0 S3 S2;refine⟨ag0,?_⟩;refine QG<|I2 rfl<|Q0<|Q8 ⟨.inl rfl,_,rfl,⟨by rw[hn];rfl,by rw[Q38 hn];exact S⟩⟩
end
section
variable {H:List MObj} {P:Prg} {F:Fun} {x:Ins}
theorem Q8o {o:MObj} (h:H.length<=1024):(QdV H o).length<=1024:=by
 unfold QdV
 split
 · exact h
 rw[v0j];simp;omega
theorem Q2i {k o s z b:Int} (h:H.length<=1024):(QaH H k o s z b).length<=1024:=by
 unfold QaH
 split
 · exact Q8o h
 exact h
theorem QbR {o z b:Int} {c:List Int} (h:H.length<=1024):(QbS H o c z b).length<=1024:=by
 unfold QbS
 split
 · exact Q8o h
 exact h
theorem Qcz {id i n:Int} (h:H.length<=1024):(setH H id i n).length<=1024:=by
 unfold setH
 split
 · rw[List.length_modify];exact h
 exact h
theorem Qdl (hM:ZM P=true) (hi:Z2 P F x=true) (ho:x.op=21):x.l.length<=256:=by
 have hn:=Q0i hi;unfold Q1j at hn;rw[if_neg (by omega),if_neg (by omega),if_pos ho]at hn;simp only[v0h,decide_eq_true_eq,Zb]at hn;have hc:=Yz hM hn.1.1 hn.1.2
 have e:Jx P x.n=(Qz P x.n).caps:=by
  unfold Jx;rw[Jg hn.1.1 hn.1.2];rfl
 omega
theorem Qb7 (hi:Z2 P F x=true) (ho:x.op=14):0<=x.n/\x.n <P.classes.length:=by
 have hn:=Q0i hi;unfold Q1j at hn;rw[if_neg (by omega),if_pos ho]at hn;exact Zb.1 hn
def TS (x:Ins) (T T':MThr):Prop:=T'=T\/(∃k,k≠0/\T'= {T with trap:=k})\/ ∃n,T'=onT (setT T x.a n) 0
def mkOp (o:Int):Prop:=o=11\/o=14\/o=17\/o=21
end
section
variable {h0 h:Hp} {P:Prg} {V:PrV} {tb ph:Nat} {T:MThr} {w:ThW} {H:List MObj} {ae:List Nat}
abbrev bxR (b:Nat) (x:Ins) (sv:Value) (ln:Int):Res:=cR b (.cells [iV x.op,iV x.a,iV x.b,iV x.c,iV x.n,sv,iV x.site,iV ln] 76 0)
theorem m87 {x:Ins} {sv:Value} {v:Value×List Nat} {ln task:Int} (S0:SH h0 [] (hpR ph H ae::thL tb (pvL P V) T w) h) (X0:Q1r h0 P V) (hM:ZM P=true) (hw:w.vs.length=T.F.length) (hT:Kr P T) (hl:0 <T.F.length) (hi:Z2 P (Qz P (QB T).fn) x=true) (hv:w.vs[T.F.length -1]?=some v) (bH:RowV h0 sv (isV x.l)) (hH:H.length<=1024):C modE 107 [Qn tb,Qn ph,QfV x sv ln,v.1,iV task] h fun r g'=> ∃(b:Bool) (e:Int) (T':MThr) (H':List MObj) (ah:List Nat),r=.tuple #[.bool b,iV e]/\(b=false->T'=T/\H'=H/\ ¬mkOp x.op)/\(b=true->mkOp x.op)/\TS x T T'/\H'.length<=1024/\SH h (owns (hpR ph H ae::thL tb (pvL P V) T w)) (hpR ph H' ah::thL tb (pvL P V) T' w) g':=by
 have SE:=S0.enterL;have aJ:=Y8 hl;have bq:=(hT.2 _ (Y0 hl)).r;obtain⟨v1,vb⟩:=v;have gj:(thL tb (pvL P V) T w)[2+(T.F.length -1)]?=some (slR 2 0 v1 (isV (QB T).regs) (QB T).regs.length vb):=Q31 aJ hv;have kT:(hpR ph H ae::thL tb (pvL P V) T w)[2+(T.F.length -1)+1]?=some (slR 2 0 v1 (isV (QB T).regs) (QB T).regs.length vb):=gj;obtain⟨ra,rc,rfl⟩:=Qa (SE.sl _ kT);obtain⟨la,lc,rfl⟩:=bH.valM;refine Q9 (fu:=Tryz.f107) (by kernel_rfl) rfl ?_;have S:=SE;refine Q6 ?_;refine QV S gn rfl rfl fun b1 g aF S=>?_;refine I2 rfl<|I2 rfl<|QG<|I2 rfl<|I2 rfl<|Q0 ?_
 have S:SH h (owns (hpR ph H ae::thL tb (pvL P V) T w)) (bxR b1 x (.slice la x.l.length lc) ln::hpR ph H ae::thL tb (pvL P V) T w) g:=S;refine ZH [(0,Qn tb),(3,.slice ra (QB T).regs.length rc),(7,Qn b1)] (fun lv hh=> ∃(n e:Int) (H':List MObj) (ah:List Nat),lv=[(12,iV n),(13,iV e)]/\mkOp x.op/\H'.length<=1024/\SH h (owns (hpR ph H ae::thL tb (pvL P V) T w)) (bxR b1 x (.slice la x.l.length lc) ln::hpR ph H' ah::thL tb (pvL P V) T w) hh) ?_ fun lv hh hJ=>?_
 · skip
   refine Q6<|I0 0 rfl<|I4 rfl (S.cel 0 rfl) rfl<|Q0<|Q7<|Q6<|Ie rfl rfl<|I2 rfl<|Q0<|Q3 rfl (fun hb=>?_) fun hb=>?_
   · skip
     refine Q2 (by kernel_rfl)<|I1 rfl<|I0 4 rfl<|I4 rfl (S.cel 0 rfl) rfl<|I0 6 rfl<|I4 rfl (S.cel 0 rfl) rfl<|I1 rfl<|Ic [_,_,_,_,_,_] rfl rfl (C.mono (m98 (SH.sub1 S0 S0.own0L S 1 rfl)) ?_);rintro v g ⟨rfl,ah,S2⟩;have S:=S.ret 1 rfl S2;refine⟨ag0,?_⟩;refine I1 rfl<|Ix rfl rfl<|Ix rfl rfl<|I2 rfl<|I2 rfl<|Q0<|Qk ?_;exact Zu [(12,_),(13,_)] (p:=⟨_,_,_,ah,rfl,.inl (of_decide_eq_true hb),Q2i hH,S⟩)
   refine Q6<|Ie rfl rfl<|I2 rfl<|Q0<|Q3 rfl (fun hb=>?_) fun hb=>?_
   · skip
     refine I9 ?_;have gU:=Qb7 hi (of_decide_eq_true hb);obtain⟨cb,co,cc,ccs,ce,cm,cK,nZ,hclt,jD,iG⟩:=(X0.ext (S0.all0 S0.own0L S)).cl.at (by omega);obtain⟨⟨cs1,ca,cb2,cd,ce2,mo⟩,_,_⟩:=iG x.n.toNat (by omega);refine I1 rfl<|I0 4 rfl<|I4 rfl (S.cel 0 rfl) rfl<|I1 rfl<|I6 rfl<|I0 0 rfl<|I0 1 rfl<|I4 rfl (S.cel 2 rfl) rfl<|I0 4 rfl<|I4 rfl (S.cel 0 rfl) rfl ?_;rw[cK];refine I5o 3 rfl rfl ?_;rw[<-cK];refine I0 2 rfl<|I4 rfl nZ (Qv mo (by omega) rfl)<|I7 rfl<|I0 6 rfl<|I4 rfl (S.cel 0 rfl) rfl<|I1 rfl ?_
     refine Ic [_,_,_,_,_,_] rfl rfl (C.mono (m98 (SH.sub1 S0 S0.own0L S 1 rfl)) ?_);rintro v g ⟨rfl,ah,S2⟩;have S:=S.ret 1 rfl S2;refine⟨ag0,?_⟩;refine I1 rfl<|Ix rfl rfl<|Ix rfl rfl<|I2 rfl<|I2 rfl<|Q0<|Qk ?_;exact Zu [(12,_),(13,_)] (p:=⟨_,_,_,ah,rfl,.inr (.inl (of_decide_eq_true hb)),Q2i hH,S⟩)
   refine Q6<|Ie rfl rfl<|I2 rfl<|Q0<|Q3 rfl (fun hb=>?_) fun hb=>?_
   · skip
     refine Q5<|Q6 ?_;have ho:x.op=17:=of_decide_eq_true hb
     have hx:0<=x.b/\x.b <(QB T).regs.length:=by
      rw[bq];exact Q23 hi (by rw[ho];decide)
     have aK:(bxR b1 x (.slice la x.l.length lc) ln::hpR ph H ae::thL tb (pvL P V) T w)[2+(T.F.length -1)+1+1]?=some (slR 2 0 (.slice ra (QB T).regs.length rc) (isV (QB T).regs) (QB T).regs.length vb):=gj;obtain⟨b2,cs,m,rfl,hg,k1⟩:=Q2N (a:=x.b) (S.sl _ aK) hx.1 hx.2;refine I1 rfl<|I0 2 rfl<|I4 rfl (S.cel 0 rfl) rfl<|I5o 1 rfl rfl<|I4 rfl hg k1<|Il rfl rfl<|I1 rfl ?_
     refine QS (n:=6) rfl rfl rfl gn rfl (fun hb=>by
      refine D1 hb rfl<|D0 2 hb rfl<|D4 hb rfl (S.cel 0 rfl) rfl<|D5o 1 hb rfl rfl<|D4 hb rfl hg k1<|Dg hb rfl rfl ?_
      exact Q0 ⟨rfl,rfl,6,rfl,rfl⟩) ?_
     refine Q0<|Q3 rfl (fun hb=>?_) fun hb=>?_
     · skip
       refine Q6<|I1 rfl<|I6 rfl<|I0 9 rfl ?_;refine Qj 2 S gn rfl rfl rfl (by kernel_rfl) rfl (by decide) (by simp) (fun g S=>ag0) fun g S=>?_;refine QG<|I2 rfl<|I2 rfl<|Q0<|Q8 ⟨.inl rfl,_,rfl,⟨true,0,{T with trap:=3},H,ae,rfl,fun e=>v1R e,fun _=>.inr (.inr (.inl ho)),.inr (.inl ⟨3,by decide,rfl⟩),hH,S.drop⟩⟩
     refine Q4<|I9<|I1 rfl<|I1 rfl<|I0 2 rfl<|I4 rfl (S.cel 0 rfl) rfl<|I5o 1 rfl rfl<|I4 rfl hg k1<|I0 6 rfl<|I4 rfl (S.cel 0 rfl) rfl<|I1 rfl<|Ic [_,_,_,_,_,_] rfl rfl (C.mono (m98 (SH.sub1 S0 S0.own0L S 1 rfl)) ?_);rintro v g ⟨rfl,ah,S2⟩;have S:=S.ret 1 rfl S2;refine⟨ag0,?_⟩;refine I1 rfl<|Ix rfl rfl<|Ix rfl rfl<|I2 rfl<|I2 rfl<|Q0<|Qk ?_;exact Zu [(12,_),(13,_)] (p:=⟨_,_,_,ah,rfl,.inr (.inr (.inl ho)),Q2i hH,S⟩)
   refine Q6<|Ie rfl rfl<|I2 rfl<|Q0<|Q3 rfl (fun hb=>?_) fun hb=>?_
   · skip
     refine Q6<|I2 rfl<|Z5<|I2 rfl<|Q0 ?_;have ho:x.op=21:=of_decide_eq_true hb;have hl256:=Qdl hM hi ho;refine Q7 ?_
     refine Ql [(14,_),(15,_)] [(0,_),(1,_),(2,_),(3,_),(4,_),(7,_),(10,_),(11,_),(12,_),(13,_),(16,_),(17,_),(18,_),(19,_),(30,_),(31,_),(53,_),(54,_),(85,_),(86,_)] (fun kk lv hh=> ∃(i:Nat) (s:Value) (sb:List Nat),lv=[(14,s),(15,iV i)]/\kk=x.l.length -i/\i<=x.l.length/\SH h (owns (hpR ph H ae::thL tb (pvL P V) T w)) (slR 2 0 s (isV ((x.l.take i).map (reg (QB T).regs))) i sb::bxR b1 x (.slice la x.l.length lc) ln::hpR ph H ae::thL tb (pvL P V) T w) hh) (n:=x.l.length) ?_ fun kk lv hh hI=>?_
     · exact⟨0,.slice none 0 0,[],rfl,rfl,v0t _,S.nilSl 2 0⟩
     obtain⟨i,s,sb,rfl,eX,aG,S⟩:=hI;refine Q5<|Q6<|I1 rfl<|I0 5 rfl<|I4 rfl (S.cel 1 rfl) rfl<|I7 rfl<|Il rfl rfl<|Q0<|Q3 rfl (fun hb=>?_) fun hb=>?_
     · skip
       refine Q4 ?_;have aG:i <x.l.length:=by simp at hb;omega
       have aK:(slR 2 0 s (isV ((x.l.take i).map (reg (QB T).regs))) i sb::bxR b1 x (.slice la x.l.length lc) ln::hpR ph H ae::thL tb (pvL P V) T w)[2+(T.F.length -1)+1+1+1]?=some (slR 2 0 (.slice ra (QB T).regs.length rc) (isV (QB T).regs) (QB T).regs.length vb):=gj;have hx:=ins_l hi x.l[i] (List.getElem_mem aG);rw[<-bq]at hx;obtain⟨b2,cs,m,rfl,hg,k1⟩:=Q2N (a:=x.l[i]) (S.sl _ aK) hx.1 hx.2;obtain⟨lb,lo,lc',lcs,le,lm,gP,hlg,bP,hlat⟩:=(bH.ext (S0.all0 S0.own0L S)).atM (by omega);obtain⟨rfl,rfl⟩:la=some ⟨lb,lo,none⟩/\lc=lc':=by simpa using gP
       have k2:lcs[lo+v0g (i:Int)*1]?=some (iV x.l[i]):=by
        rw[v0e,v0x];exact hlat i aG
       refine Q5<|Q7<|Q2 (by kernel_rfl)<|I1 rfl<|I1 rfl<|I0 5 rfl<|I4 rfl (S.cel 1 rfl) rfl<|I1 rfl<|I5o 1 rfl rfl<|I4 rfl hlg k2<|I5o 1 rfl rfl<|I4 rfl hg k1 ?_;refine Qd (e:=2) (z:=0) (zv:=.int .i64 0) [(0,_)] S gn rfl (by kernel_rfl) (by kernel_rfl) (by kernel_rfl) (by kernel_rfl) rfl (by rfl) fun b2 g bL S=>?_;refine QD (e:=2) (z:=0) (by':=7) 1 0 S el2 gn rfl rfl rfl rfl rfl rfl (by rfl) (by omega) (fun s' aa g S=>ag0) fun s' aa g S=>?_;have S:=S.drop;refine I2 rfl<|Q0<|Q2 (by kernel_rfl)<|I1 rfl<|Iao rfl rfl ?_
       refine I2 rfl<|Q0 ?_
       exact ZC (x.l.length - (i+1)) [(14,_),(15,_)] (p:=⟨i+1,_,_,rfl,rfl,by omega,by
        have e:isV ((x.l.take i).map (reg (QB T).regs))++[iV (reg (QB T).regs x.l[i])]=isV ((x.l.take (i+1)).map (reg (QB T).regs)):=by
         rw[v0U,v0c aG,List.map_append,Q12];rfl
        rw[<-e];exact S⟩)
     refine Qp<|Qc<|Qe<|Qo ?_;obtain rfl:i=x.l.length:=by simp at hb;omega
     refine Q2 (by kernel_rfl)<|I1 rfl<|I0 4 rfl<|I4 rfl (S.cel 1 rfl) rfl<|I1 rfl<|I0 6 rfl<|I4 rfl (S.cel 1 rfl) rfl<|I1 rfl ?_;refine QZ [_,_,_,_,_] gn rfl rfl (by kernel_rfl) rfl (C.mono (m99 (SH.sub1 S0 S0.own0L S 2 rfl) (S.sl 0 rfl).row (by rw[v0s,v0D];omega)) ?_);rintro v g ⟨rfl,ah,S2⟩;have S:=S.ret 2 rfl S2;refine⟨ag0,?_⟩;refine I1 rfl<|Ix rfl rfl<|Ix rfl rfl<|I2 rfl<|I2 rfl<|Q0<|Qk ?_;exact Zu [(12,_),(13,_)] (p:=⟨_,_,_,ah,rfl,.inr (.inr (.inr ho)),QbR hH,S.drop⟩)
   refine Q6<|I2 rfl<|I2 rfl<|Q0<|Q8 ?_;refine⟨.inl rfl,_,rfl,?_⟩
   exact⟨false,0,T,H,ae,rfl,fun _=>⟨rfl,rfl,by
    rintro(e|e|e|e)
    · exact of_decide_eq_false ‹decide (x.op=11)=false› e
    · exact of_decide_eq_false ‹decide (x.op=14)=false› e
    · exact of_decide_eq_false ‹decide (x.op=17)=false› e
    exact of_decide_eq_false ‹decide (x.op=21)=false› e⟩,fun e=>v1R e,.inl rfl,hH,S.drop⟩
 obtain⟨n,e,H',ah,rfl,ho,kl,S⟩:=hJ;refine Q5<|Q6<|I1 rfl<|In rfl rfl<|Q0<|Q3 rfl (fun hb=>?_) fun hb=>?_
 · skip
   refine Q6<|I2 rfl<|I2 rfl<|Q0<|Q8 ⟨.inl rfl,_,rfl,⟨true,11,T,H',ah,rfl,fun e=>v1R e,fun _=>ho,.inl rfl,kl,S.drop⟩⟩
 refine Q4<|Q6 ?_;have ha:=Q08 hi (by rcases ho with e|e|e|e<;>(rw[e];decide))
 have ha':0<=x.a/\x.a <((isV (QB T).regs).length:Nat):=by
  rw[v0s,bq];exact ha
 have aK:(bxR b1 x (.slice la x.l.length lc) ln::hpR ph H' ah::thL tb (pvL P V) T w)[2+(T.F.length -1)+1+1]?=some (slR 2 0 (.slice ra (QB T).regs.length rc) (isV (QB T).regs) (QB T).regs.length vb):=gj;obtain⟨b2,cJ,m2,rfl,dM,k2⟩:=Q2N (a:=x.a) (S.sl _ aK) ha.1 (by rw[bq];exact ha.2);refine I1 rfl<|I0 1 rfl<|I4 rfl (S.cel 0 rfl) rfl<|I1 rfl<|I5o 1 rfl rfl<|Zq (2+(T.F.length -1)+1+1) S gn rfl rfl rfl (by kernel_rfl) aK rfl (by omega) (fun g S=>ag0) fun g S=>?_
 have S2:SH h (owns (hpR ph H ae::thL tb (pvL P V) T w)) (bxR b1 x (.slice _ x.l.length lc) ln::hpR ph H' ah::(thL tb (pvL P V) T w).set (2+(T.F.length -1)) _) g:=S;have S3:=S2.drop;rw[Q1S aJ hv]at S3;have S3:SH h (owns (hpR ph H ae::thL tb (pvL P V) T w)) (thL tb (pvL P V) (setT T x.a n) w++[hpR ph H' ah]) g:=SH.comm (A:=[_]) S3;have cC:=Q01 (a:=x.a) (n:=n) hT;refine QG<|I1 rfl ?_;refine QZ [_,_] gn rfl rfl (by kernel_rfl) rfl (C.mono (m91 (k:=0) (P:=P) (V:=V) (T:=setT T x.a n) (w:=w) (h0:=h0) (SH.subL S0 S0.own0L S3) (by rw[cC.2];exact hw) cC.1 (by omega) (fun y hy=>(KA hM (cC.1.2 y hy)).1)) ?_);intro v g S2
 have S:=SH.comm (B:=[_]) (SH.retL S3 S2);refine⟨ag0,?_⟩;refine QG<|I2 rfl<|I2 rfl<|Q0<|Q8 ⟨.inl rfl,_,rfl,⟨true,0,_,H',ah,rfl,fun e=>v1R e,fun _=>ho,.inr (.inr ⟨n,rfl⟩),kl,S⟩⟩
end
end Go.Proofs.YtljpajcmdjmeaaaGreat
