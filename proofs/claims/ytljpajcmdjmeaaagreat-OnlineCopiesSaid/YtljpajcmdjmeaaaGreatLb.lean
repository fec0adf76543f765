/- The walks and the laws, part Lb. Conditions: none. -/
import Derived.Test.YtljpajcmdjmeaaaGreatLa
import Derived.Test.YtljpajcmdjmeaaaGreatXd
set_option maxHeartbeats 16000000
open List renaming take_length → v09, getElem?_eq_getElem → v0c, append_assoc → v0F, take_add_one → v0Z, length_take → v0E, length_append → v0j, getElem?_cons_zero → v0W, modify_succ_cons → v1d, mem_of_getElem? → v0m, all_cons → v1e, length_map → v0v, replicate → v0o
open Nat renaming mul_one → v0A, zero_add → v0e, le_refl → v0b, zero_le → v0s
open Int renaming toNat_natCast → v0i, toNat → v0f
open Bool renaming true_and → v0C, false_and → v05, not_eq_true' → v0J, and_false → v0Y, eq_iff_iff → v1W, or_eq_true → v0K, and_eq_true → v0g, or_eq_false_iff → v06, and_true → v1k, noConfusion → v1M
open Option renaming some → v0h
namespace Go.Proofs.YtljpajcmdjmeaaaGreat
open Go.X Go.May
section
variable {h:Hp} {P:Prg} {lo cl gl fu co ev si cv lv:Value} {s:ByteArray} {F:Fun} {x:Ins} {ln:Int}
theorem abc_at {a b c:Int} {j:Nat} (hj:j <3):([iV a,iV b,iV c]:List Value)[j]?=some (iV ([a,b,c][j])):=by
 match j,hj with
 |0,_=>rfl
 |1,_=>rfl
 |2,_=>rfl
theorem mem2 {a b o:Int} (h:decide (o∈[a,b])=true):o=a\/o=b:=by simpa using h
theorem QeM {a b o:Int} (h:decide (o∈[a,b])=false): ¬(o=a\/o=b):=by simpa using h
theorem l_neg {o:Int} {b:Bool} (h:(!decide (o=21)|| !b)=true):(decide (o=21)&&b)=false:=by
 cases b<;>simp_all
theorem l_pos {o:Int} {b:Bool} (h:(!decide (o=21)|| !b)=false):(decide (o=21)&&b)=true:=by
 cases b<;>simp_all
theorem c9 (X:PrgAt h P lo cl gl fu co ev si) (hx:RowV h lv (isV x.l)) (fF:x.l.length<=17592186043904) (hc: ∃a c,cv=.slice a F.code.length c):C modE 18 [Qds P lo cl gl fu co ev si,funV s F cv,Qf6 x lv ln] h fun v h'=>v=.bool (Z0 P F x)/\Ext h h':=by
 obtain⟨⟨oa,oc,rfl⟩,⟨ca,cc,rfl⟩,⟨ga,gc,rfl⟩,⟨fa,fc,rfl⟩,-,⟨ea,ec,rfl⟩,-⟩:=X.vals;obtain⟨va,vc,rfl⟩:=hc;obtain⟨la,lc,rfl⟩:=hx.valM;have jn:=regs3 x.op;refine Q9 (fu:=Tryz.f18) (by kernel_rfl) rfl ?_;have S:=SH.start h;refine Q7 ?_;refine Z9 S gn rfl rfl fun b1 g aJ S=>?_;refine Z9 S gn rfl rfl fun b2 g bK S=>?_;refine Z9 S gn rfl rfl fun b3 g fV S=>?_;refine I2 rfl<|Z8<|I0 0 rfl<|I4 rfl (S.cel 0 rfl) rfl<|Il rfl rfl<|I1 rfl ?_
 refine Z4 (n:=3) rfl rfl rfl gn rfl (fun hb=>by
  refine D0 0 hb rfl<|D4 hb rfl (S.cel 0 rfl) rfl<|Dg hb rfl rfl ?_
  exact Q0 ⟨rfl,rfl,3,rfl,rfl⟩) ?_
 refine Q0<|Q2 rfl (fun hb=>?_) fun hb=>?_
 · skip
   refine Q7<|I2 rfl<|Q0<|Q8 ⟨.inl rfl,_,rfl,⟨by rw[Qau (op_out hb)];rfl,S.e0⟩⟩
 refine Q4<|Q5 ?_;have dj:=op_in hb;refine Q3 (by kernel_rfl)<|I0 1 rfl<|I4 rfl (S.cel 0 rfl) rfl<|I0 2 rfl<|I4 rfl (S.cel 0 rfl) rfl<|I0 3 rfl<|I4 rfl (S.cel 0 rfl) rfl ?_;refine Qc (e:=3) (z:=0) (zv:=.int .i64 0) [(0,_),(1,_),(2,_)] S gn rfl (by kernel_rfl) (by kernel_rfl) (by kernel_rfl) (by kernel_rfl) rfl (by rfl) fun b4 g jL S=>?_;refine I2 rfl<|Z8<|I2 rfl<|Q0<|Qb ?_
 refine QB [(8,_)] [(3,_),(4,_),(5,_),(7,_)] (fun kk lv hh=> ∃j:Nat,lv=[(8,iV j)]/\kk=Yo x.op -j/\j<=Yo x.op/\SH h [] [cR b4 (.cells [iV x.a,iV x.b,iV x.c] 3 0),cR b3 (.cells (insC x (.slice la x.l.length lc) ln) 76 0),cR b2 (.cells (Qg8 s F (.slice va F.code.length vc)) 73 0),cR b1 (.cells (Q8U P (.slice oa P.loopers oc) (.slice ca P.classes.length cc) (.slice ga P.globals gc) (.slice fa P.funs.length fc) co (.slice ea P.events.length ec) si) 30 0)] hh/\(([x.a,x.b,x.c].take j).all fun r=>inB r F.regs)=true) (n:=(Yo x.op)) ?_ fun kk lv hh hI=>?_
 · exact⟨0,rfl,rfl,by omega,S,rfl⟩
 obtain⟨j,rfl,rfl,hj,S,au⟩:=hI;refine Q5<|Q7<|I1 rfl<|I0 0 rfl<|I4 rfl (S.cel 1 rfl) rfl<|Ic [_] rfl rfl (Ql (c19) ⟨ag0,?_⟩);refine Il rfl rfl<|Q0<|Q2 rfl (fun hb=>?_) fun hb=>?_
 · skip
   refine Q4<|Q5<|Qb<|Q5 ?_;have cZ:j <Yo x.op:=by simp at hb;omega
   have lS:j <3:=by omega
   refine I9<|I1 rfl<|I1 rfl<|I5o 1 rfl rfl<|Kb gn rfl rfl (by kernel_rfl) (S.cel 0 rfl) (by rw[v0i,v0A,v0e];exact abc_at lS)<|I0 2 rfl<|I4 rfl (S.cel 2 rfl) rfl<|Ic [_,_] rfl rfl (Ql (c18) ⟨ag0,?_⟩);refine Ib rfl<|Q0<|Q2 rfl (fun hb=>?_) fun hb=>?_
   · skip
     refine Q7<|I2 rfl<|Q0<|Q8 ⟨.inl rfl,_,rfl,⟨by rw[Qat (Q9y cZ lS (by simpa using hb))];rfl,S.e0⟩⟩
   refine Q4<|Q3 (by kernel_rfl)<|I1 rfl<|Iao rfl rfl<|I2 rfl<|Q0 ?_;exact K3 (Yo x.op - (j+1)) [(8,_)] (p:=⟨j+1,rfl,rfl,by omega,S,by rw[Q9x lS,au,v0C];simpa using hb⟩)
 refine QF<|Qh<|Qn<|QE<|Q5<|Q5 ?_;have jx:j=Yo x.op:=by simp at hb;omega
 subst jx;have mM:Q2K F x=true:=au;refine Q3 (by kernel_rfl)<|I2 rfl<|Q0<|Qb ?_
 refine QB [(9,_)] [(3,_),(4,_),(5,_)] (fun kk lv hh=> ∃j:Nat,lv=[(9,iV j)]/\kk=x.l.length -j/\j<=x.l.length/\SH h [] [cR b4 (.cells [iV x.a,iV x.b,iV x.c] 3 0),cR b3 (.cells (insC x (.slice la x.l.length lc) ln) 76 0),cR b2 (.cells (Qg8 s F (.slice va F.code.length vc)) 73 0),cR b1 (.cells (Q8U P (.slice oa P.loopers oc) (.slice ca P.classes.length cc) (.slice ga P.globals gc) (.slice fa P.funs.length fc) co (.slice ea P.events.length ec) si) 30 0)] hh/\((x.l.take j).all fun r=>decide (x.op=21)&&inB r F.regs)=true) (n:=(x.l.length)) ?_ fun kk lv hh hI=>?_
 · exact⟨0,rfl,rfl,by omega,S,rfl⟩
 obtain⟨j,rfl,rfl,hj,S,au⟩:=hI;refine Q5<|Q7<|I1 rfl<|I0 5 rfl<|I4 rfl (S.cel 1 rfl) rfl<|I7 rfl<|Il rfl rfl<|Q0<|Q2 rfl (fun hb=>?_) fun hb=>?_
 · skip
   refine Q4<|Q5<|Qb<|Q5 ?_;have cZ:j <x.l.length:=by simp at hb;omega
   refine I9<|I0 0 rfl<|I4 rfl (S.cel 1 rfl) rfl<|In rfl rfl<|I1 rfl ?_
   refine Z4 (B:= !inB x.l[j] F.regs) (n:=9) rfl rfl rfl gn rfl (fun hb=>by
    refine D0 5 hb rfl<|D4 hb rfl (S.cel 1 rfl) rfl<|D1 hb rfl ?_;obtain⟨b,o,c,cs,e,m,hv,hg,bO,aP⟩:=hx.atM (by omega);have bD:la=some ⟨b,o,none⟩:=by injection hv
    rw[bD];refine D5o 1 hb rfl rfl<|Kb (gy rfl rfl rfl hb) rfl rfl (by kernel_rfl) (S.old0 hg bO) (by rw[v0i,v0A];exact aP j cZ)<|D0 2 hb rfl<|D4 hb rfl (S.cel 2 rfl) rfl ?_;rw[<-bD];refine Dc hb [_,_] rfl rfl (Ql (c18) ⟨ag0,?_⟩);refine Db hb rfl ?_
    exact Q0 ⟨rfl,rfl,9,rfl,rfl⟩) ?_
   refine Q0<|Q2 rfl (fun hb=>?_) fun hb=>?_
   · skip
     refine Q7<|I2 rfl<|Q0<|Q8 ⟨.inl rfl,_,rfl,⟨by rw[Qas (l_fail cZ (l_neg hb))];rfl,S.e0⟩⟩
   refine Q4<|Q3 (by kernel_rfl)<|I1 rfl<|Iao rfl rfl<|I2 rfl<|Q0 ?_;exact K3 (x.l.length - (j+1)) [(9,_)] (p:=⟨j+1,rfl,rfl,by omega,S,by rw[l_step cZ,au,v0C];exact l_pos hb⟩)
 refine QF<|Qh<|Qn<|QE<|Q5<|Q5 ?_;have jx:j=x.l.length:=by simp at hb;omega
 have hl:lB F x=true:=by rw[jx,v09]at au;exact au
 have hI:=Qar (P:=P) dj mM hl;unfold Q1f at hI;refine Q3 (by kernel_rfl)<|I0 0 rfl<|I4 rfl (S.cel 1 rfl) rfl<|Q0<|Qb<|Yt 62 [(9,64),(10,65)] [(3,_),(4,_),(5,_),(62,_)] (by kernel_rfl) rfl (by repeat(first|exact trivial|refine⟨rfl,?_⟩)) (by rfl) (fun hb=>?_) fun hb=>?_
 · skip
   refine Q7<|I0 4 rfl<|I4 rfl (S.cel 1 rfl) rfl<|I0 2 rfl<|I4 rfl (S.cel 3 rfl) rfl<|I7 rfl<|Ic [_,_] rfl rfl (Ql (c18) ⟨ag0,?_⟩);refine I2 rfl<|Q0<|Q8 ⟨.inl rfl,_,rfl,⟨by rw[hI,if_pos (mem2 hb)];rfl,S.e0⟩⟩
 refine Q5 ?_;rw[if_neg (QeM hb)]at hI;refine Q3 (by kernel_rfl)<|Ie rfl rfl<|I2 rfl<|Q0<|Q2 rfl (fun hb=>?_) fun hb=>?_
 · skip
   refine Q7<|I0 4 rfl<|I4 rfl (S.cel 1 rfl) rfl<|I0 1 rfl<|I4 rfl (S.cel 3 rfl) rfl<|I7 rfl<|Ic [_,_] rfl rfl (Ql (c18) ⟨ag0,?_⟩);refine I2 rfl<|Q0<|Q8 ⟨.inl rfl,_,rfl,⟨by rw[hI,if_pos (of_decide_eq_true hb)];rfl,S.e0⟩⟩
 refine Q5 ?_;rw[if_neg (of_decide_eq_false hb)]at hI;refine Q3 (by kernel_rfl)<|Ie rfl rfl<|I2 rfl<|Q0<|Q2 rfl (fun hb=>?_) fun hb=>?_
 · skip
   refine Q5 ?_;rw[if_pos (of_decide_eq_true hb)]at hI;refine I9<|I0 4 rfl<|I4 rfl (S.cel 1 rfl) rfl<|I0 3 rfl<|I4 rfl (S.cel 3 rfl) rfl<|I7 rfl<|Ic [_,_] rfl rfl (Ql (c18) ⟨ag0,?_⟩);refine I1 rfl ?_
   refine QY (B:=decide (Jw P x.n=x.l.length)) (n:=11) rfl rfl rfl gn rfl (fun hb=>by
    refine D0 3 hb rfl<|D4 hb rfl (S.cel 3 rfl) rfl<|D0 4 hb rfl<|D4 hb rfl (S.cel 1 rfl) rfl ?_;obtain⟨b,o,c,cs,e,m,hv,hg,bO,gN,hf1,hw⟩:=X.caps hb;have bD:fa=some ⟨b,o,none⟩:=by injection hv
    rw[bD];refine D5o 4 hb rfl rfl<|D0 1 hb rfl<|D4 hb rfl (S.old0 hg bO) hw ?_;rw[<-bD];refine D0 5 hb rfl<|D4 hb rfl (S.cel 1 rfl) rfl<|D7 hb rfl<|De hb rfl rfl ?_
    exact Q0 ⟨rfl,rfl,11,rfl,rfl⟩) ?_
   refine I2 rfl<|Q0<|Q8 ⟨.inl rfl,_,rfl,⟨by rw[hI];rfl,S.e0⟩⟩
 refine Q5 ?_;rw[if_neg (of_decide_eq_false hb)]at hI;refine Q3 (by kernel_rfl)<|Ie rfl rfl<|I2 rfl<|Q0<|Q2 rfl (fun hb=>?_) fun hb=>?_
 · skip
   refine Q7<|I0 3 rfl<|I4 rfl (S.cel 1 rfl) rfl<|I0 0 rfl<|I4 rfl (S.cel 3 rfl) rfl<|I7 rfl<|Ic [_,_] rfl rfl (Ql (c18) ⟨ag0,?_⟩);refine I1 rfl ?_
   refine QY (n:=3) rfl rfl rfl gn rfl (fun hb=>by
    refine D0 4 hb rfl<|D4 hb rfl (S.cel 1 rfl) rfl<|Dc hb [_,_] rfl rfl (Ql (c18) ⟨ag0,?_⟩)
    exact Q0 ⟨rfl,rfl,3,rfl,rfl⟩) ?_
   refine I2 rfl<|Q0<|Q8 ⟨.inl rfl,_,rfl,⟨by rw[hI,if_pos (of_decide_eq_true hb)];rfl,S.e0⟩⟩
 refine Q5 ?_;rw[if_neg (of_decide_eq_false hb)]at hI;refine Q3 (by kernel_rfl)<|Ie rfl rfl<|I2 rfl<|Q0<|Q2 rfl (fun hb=>?_) fun hb=>?_
 · skip
   refine Q7<|I0 3 rfl<|I4 rfl (S.cel 1 rfl) rfl<|I0 0 rfl<|I4 rfl (S.cel 3 rfl) rfl<|I7 rfl<|Ic [_,_] rfl rfl (Ql (c18) ⟨ag0,?_⟩);refine I2 rfl<|Q0<|Q8 ⟨.inl rfl,_,rfl,⟨by rw[hI,if_pos (of_decide_eq_true hb)];rfl,S.e0⟩⟩
 rw[if_neg (of_decide_eq_false hb)]at hI;refine Yt 62 [(26,123),(27,124)] [(3,_),(4,_),(5,_),(62,_)] (by kernel_rfl) rfl (by repeat(first|exact trivial|refine⟨rfl,?_⟩)) (by rfl) (fun hb=>?_) fun hb=>?_
 · skip
   refine Q7<|I0 4 rfl<|I4 rfl (S.cel 1 rfl) rfl<|I0 5 rfl<|I4 rfl (S.cel 3 rfl) rfl<|I7 rfl<|Ic [_,_] rfl rfl (Ql (c18) ⟨ag0,?_⟩);refine I2 rfl<|Q0<|Q8 ⟨.inl rfl,_,rfl,⟨by rw[hI,if_pos (mem2 hb)];rfl,S.e0⟩⟩
 rw[if_neg (QeM hb)]at hI;refine Yt 62 [(31,132),(32,133)] [(4,_),(5,_)] (by kernel_rfl) rfl (by repeat(first|exact trivial|refine⟨rfl,?_⟩)) (by rfl) (fun hb=>?_) fun hb=>?_
 · skip
   refine Q7<|I0 4 rfl<|I4 rfl (S.cel 1 rfl) rfl<|I0 3 rfl<|I4 rfl (S.cel 2 rfl) rfl<|I7 rfl<|Ic [_,_] rfl rfl (Ql (c18) ⟨ag0,?_⟩);refine I2 rfl<|Q0<|Q8 ⟨.inl rfl,_,rfl,⟨by rw[hI,if_pos (mem2 hb)];rfl,S.e0⟩⟩
 refine Q4<|Q7<|I2 rfl<|Q0<|Q8 ⟨.inl rfl,_,rfl,⟨by rw[hI,if_neg (QeM hb)];rfl,S.e0⟩⟩
end
section
variable {h:Hp} {P:Prg} {lo cl gl fu co ev si:Value}
theorem c8 (X:PrgAt h P lo cl gl fu co ev si):C modE 17 [Qds P lo cl gl fu co ev si] h fun v h'=>v=.bool (YQ P)/\Ext h h':=by
 obtain⟨⟨oa,oc,rfl⟩,⟨ca,cc,rfl⟩,⟨ga,gc,rfl⟩,⟨fa,fc,rfl⟩,⟨pa,pc,rfl⟩,⟨ea,ec,rfl⟩,-⟩:=X.vals;have hz1:=X.zcl;have hz2:=X.zco;have hz3:=X.zev;refine Q9 (fu:=Tryz.f17) (by kernel_rfl) rfl ?_;have S:=SH.start h;refine Q7 ?_;refine Z9 S gn rfl rfl fun b1 g aJ S=>?_;refine I2 rfl<|Z8<|I0 0 rfl<|I4 rfl (S.cel 0 rfl) rfl<|I7 rfl<|Il rfl rfl<|I1 rfl ?_
 refine Z4 (n:=4) rfl rfl rfl gn rfl (fun hb=>by
  refine D0 0 hb rfl<|D4 hb rfl (S.cel 0 rfl) rfl<|D7 hb rfl<|Dg hb rfl rfl ?_
  exact Q0 ⟨rfl,rfl,4,rfl,rfl⟩) ?_
 refine I1 rfl ?_
 refine Z4 (n:=4) rfl rfl rfl gn rfl (fun hb=>by
  refine D0 1 hb rfl<|D4 hb rfl (S.cel 0 rfl) rfl<|D7 hb rfl<|Dg hb rfl rfl ?_
  exact Q0 ⟨rfl,rfl,4,rfl,rfl⟩) ?_
 refine I1 rfl ?_
 refine Z4 (n:=4) rfl rfl rfl gn rfl (fun hb=>by
  refine D0 2 hb rfl<|D4 hb rfl (S.cel 0 rfl) rfl<|D7 hb rfl<|Dg hb rfl rfl ?_
  exact Q0 ⟨rfl,rfl,4,rfl,rfl⟩) ?_
 refine I1 rfl ?_
 refine Z4 (n:=4) rfl rfl rfl gn rfl (fun hb=>by
  refine D0 4 hb rfl<|D4 hb rfl (S.cel 0 rfl) rfl<|D7 hb rfl<|Dg hb rfl rfl ?_
  exact Q0 ⟨rfl,rfl,4,rfl,rfl⟩) ?_
 refine I1 rfl ?_
 refine Z4 (n:=4) rfl rfl rfl gn rfl (fun hb=>by
  refine D0 5 hb rfl<|D4 hb rfl (S.cel 0 rfl) rfl<|D7 hb rfl<|Dg hb rfl rfl ?_
  exact Q0 ⟨rfl,rfl,4,rfl,rfl⟩) ?_
 refine I1 rfl ?_
 refine Z4 (n:=4) rfl rfl rfl gn rfl (fun hb=>by
  refine D0 3 hb rfl<|D4 hb rfl (S.cel 0 rfl) rfl<|D7 hb rfl<|Dl hb rfl rfl ?_
  exact Q0 ⟨rfl,rfl,4,rfl,rfl⟩) ?_
 refine I1 rfl ?_
 refine Z4 (n:=4) rfl rfl rfl gn rfl (fun hb=>by
  refine D0 3 hb rfl<|D4 hb rfl (S.cel 0 rfl) rfl<|D7 hb rfl<|Dg hb rfl rfl ?_
  exact Q0 ⟨rfl,rfl,4,rfl,rfl⟩) ?_
 refine I1 rfl<|ZX (dc:=53) rfl (fun cI=>?_) fun cI=>?_
 · skip
   refine ZY (n:=5) (dc:=53) (w:=false) rfl cI rfl<|IT rfl cI rfl<|Q0<|Q2 rfl (fun hb=>?_) fun hb=>?_
   · skip
     refine Q7<|I2 rfl<|Q0<|Q8 ⟨.inl rfl,_,rfl,⟨by rw[Qe6 cI];rfl,S.e0⟩⟩
   exact absurd hb (by decide)
 refine D3 8 cI rfl (S.cel 0 rfl) (v0b _)<|D0 6 cI rfl<|D4 cI rfl (S.cel 0 rfl) rfl<|Dc cI [_,_] rfl rfl (C.mono (c17 (X.ext S.e0)) ?_);rintro v g ⟨rfl,x⟩;have S:=S.grow x;refine⟨ag0,?_⟩;refine Db cI rfl<|Iu rfl cI rfl<|Q0<|Q2 rfl (fun hb=>?_) fun hb=>?_
 · skip
   refine Q7<|I2 rfl<|Q0<|Q8 ⟨.inl rfl,_,rfl,⟨by rw[Q9j cI (by simpa using hb)];rfl,S.e0⟩⟩
 refine Q4<|Q5<|Q5 ?_;have hR:=Q9H cI (by simpa using hb);refine Q3 (by kernel_rfl)<|I2 rfl<|Q0<|Qb<|QB [(3,_)] [(1,_)] (fun kk lv hh=> ∃j:Nat,lv=[(3,iV j)]/\kk=P.classes.length -j/\j<=P.classes.length/\SH h [] [cR b1 (.cells (Q8U P (.slice oa P.loopers oc) (.slice ca P.classes.length cc) (.slice ga P.globals gc) (.slice fa P.funs.length fc) (.slice pa P.comps.length pc) (.slice ea P.events.length ec) si) 30 0)] hh/\(P.classes.take j).all Q2E=true) (n:=(P.classes.length)) ?_ fun kk lv hh hI=>?_
 · exact⟨0,rfl,rfl,by omega,S,rfl⟩
 obtain⟨j,rfl,rfl,hj,S,au⟩:=hI;refine Q5<|Q7<|I1 rfl<|I0 1 rfl<|I4 rfl (S.cel 0 rfl) rfl<|I7 rfl<|Il rfl rfl<|Q0<|Q2 rfl (fun hb=>?_) fun hb=>?_
 · skip
   refine Q4<|Q5<|Qb<|Q5 ?_;have cZ:j <P.classes.length:=by simp at hb;omega
   obtain⟨b,o,c,cs,e,m,hv,hg,bO,nj,aP⟩:=X.cl.at (by omega);have bD:ca=some ⟨b,o,none⟩:=by injection hv
   obtain⟨a1,a2,a3,a4,cp,aC⟩:=(aP j cZ).at;refine I9<|I0 1 rfl<|I4 rfl (S.cel 0 rfl) rfl<|I1 rfl ?_;rw[bD];refine I5o 3 rfl rfl<|I0 2 rfl<|Kb gn rfl rfl (by kernel_rfl) (S.old0 hg bO) (by rw[v0i];exact aC) ?_;rw[<-bD];refine I7 rfl<|Ig rfl rfl<|I1 rfl ?_
   refine Z4 (n:=15) rfl rfl rfl gn rfl (fun hb=>by
    refine D0 1 hb rfl<|D4 hb rfl (S.cel 0 rfl) rfl<|D1 hb rfl ?_;rw[bD];refine D5o 3 hb rfl rfl<|D0 1 hb rfl<|Kb (gy rfl rfl rfl hb) rfl rfl (by kernel_rfl) (S.old0 hg bO) (by rw[v0i];exact cp) ?_;rw[<-bD];refine D7 hb rfl<|D0 1 hb rfl<|D4 hb rfl (S.cel 0 rfl) rfl<|D1 hb rfl ?_;rw[bD];refine D5o 3 hb rfl rfl<|D0 2 hb rfl<|Kb (gy rfl rfl rfl hb) rfl rfl (by kernel_rfl) (S.old0 hg bO) (by rw[v0i];exact aC) ?_;rw[<-bD];refine D7 hb rfl<|Dn hb rfl rfl ?_
    exact Q0 ⟨rfl,rfl,15,rfl,rfl⟩) ?_
   refine Q0<|Q2 rfl (fun hb=>?_) fun hb=>?_
   · skip
     refine Q7<|I2 rfl<|Q0<|Q8 ⟨.inl rfl,_,rfl,⟨by rw[hR,Jh cZ (Qd6 hb)];rfl,S.e0⟩⟩
   refine Q4<|Q3 (by kernel_rfl)<|I1 rfl<|Iao rfl rfl<|I2 rfl<|Q0 ?_;exact K3 (P.classes.length - (j+1)) [(3,_)] (p:=⟨j+1,rfl,rfl,by omega,S,by rw[Q0z cZ,au,Qbh hb];rfl⟩)
 refine QF<|Qh<|Qn<|QE<|Q5<|Q5 ?_;have jx:j=P.classes.length:=by simp at hb;omega
 rw[jx,v09]at au;rw[au,v0C]at hR;clear au;refine Q3 (by kernel_rfl)<|I2 rfl<|Q0<|Qb<|QB [(4,_)] [(1,_)] (fun kk lv hh=> ∃j:Nat,lv=[(4,iV j)]/\kk=P.comps.length -j/\j<=P.comps.length/\SH h [] [cR b1 (.cells (Q8U P (.slice oa P.loopers oc) (.slice ca P.classes.length cc) (.slice ga P.globals gc) (.slice fa P.funs.length fc) (.slice pa P.comps.length pc) (.slice ea P.events.length ec) si) 30 0)] hh/\(P.comps.take j).all (Q6X P)=true) (n:=(P.comps.length)) ?_ fun kk lv hh hI=>?_
 · exact⟨0,rfl,rfl,by omega,S,rfl⟩
 obtain⟨j,rfl,rfl,hj,S,au⟩:=hI;refine Q5<|Q7<|I1 rfl<|I0 4 rfl<|I4 rfl (S.cel 0 rfl) rfl<|I7 rfl<|Il rfl rfl<|Q0<|Q2 rfl (fun hb=>?_) fun hb=>?_
 · skip
   refine Q4<|Q5<|Qb<|Q5<|Q5 ?_;have cZ:j <P.comps.length:=by simp at hb;omega
   obtain⟨b,o,c,cs,e,m,hv,hg,bO,nj,aP⟩:=X.co.at (by omega);have bD:pa=some ⟨b,o,none⟩:=by injection hv
   have hD:=aP j cZ;have h4:=hD.len;refine Q3 (by kernel_rfl)<|I2 rfl<|Q0<|Qb<|QB [(5,_)] [(1,_),(4,_)] (fun kk lv hh=> ∃k:Nat,lv=[(5,iV k)]/\kk=4 -k/\k<=4/\SH h [] [cR b1 (.cells (Q8U P (.slice oa P.loopers oc) (.slice ca P.classes.length cc) (.slice ga P.globals gc) (.slice fa P.funs.length fc) (.slice pa P.comps.length pc) (.slice ea P.events.length ec) si) 30 0)] hh/\((P.comps[j].2.take k).all fun f=> !decide (0<=f)||Q06 P f)=true) (n:=4) ?_ fun kk lv hh hI=>?_
   · exact⟨0,rfl,rfl,by omega,S,rfl⟩
   obtain⟨k,rfl,rfl,hk,S,fy⟩:=hI;refine Q5<|Q7<|I1 rfl<|Il rfl rfl<|Q0<|Q2 rfl (fun hb=>?_) fun hb=>?_
   · skip
     refine Q4<|Q5<|Qb<|Q5 ?_;have bP:k <P.comps[j].2.length:=by simp at hb;omega
     have hw:=hD.fn bP;refine I9<|I0 4 rfl<|I4 rfl (S.cel 0 rfl) rfl<|I1 rfl<|I1 rfl ?_;rw[bD];refine I5o 6 rfl rfl<|I0 2 rfl<|YR (n:=4) (e:=3) (zz:=1) gn rfl rfl rfl (by kernel_rfl) (by omega) (by omega)<|Kb gn rfl rfl (by kernel_rfl) (S.old0 hg bO) (by rw[v0i,v0i,v0A];exact hw) ?_;rw[<-bD];refine Ih rfl rfl<|I1 rfl<|ZX (dc:=112) rfl (fun aN=>?_) fun aN=>?_
     · skip
       refine D3 8 aN rfl (S.cel 0 rfl) (v0b _)<|D0 4 aN rfl<|D4 aN rfl (S.cel 0 rfl) rfl<|D1 aN rfl<|D1 aN rfl ?_;rw[bD];refine D5o 6 aN rfl rfl<|D0 2 aN rfl<|YR (n:=4) (e:=3) (zz:=1) (gy rfl rfl rfl aN) rfl rfl rfl (by kernel_rfl) (by omega) (by omega)<|Kb (gy rfl rfl rfl aN) rfl rfl (by kernel_rfl) (S.old0 hg bO) (by rw[v0i,v0i,v0A];exact hw) ?_;rw[<-bD];refine Dc aN [_,_] rfl rfl (C.mono (c17 (X.ext S.e0)) ?_);rintro v g ⟨rfl,x⟩;have S:=S.grow x;refine⟨ag0,?_⟩;refine Db aN rfl<|IT rfl aN rfl ?_
       refine Q0<|Q2 rfl (fun hb=>?_) fun hb=>?_
       · skip
         refine Q7<|I2 rfl<|Q0<|Q8 ⟨.inl rfl,_,rfl,⟨by rw[hR,Jh cZ (by rw[Q6X,Jh bP (by rw[aN];simpa using hb),v05])];rfl,S.e0⟩⟩
       refine Q4<|Q3 (by kernel_rfl)<|I1 rfl<|Iao rfl rfl<|I2 rfl<|Q0 ?_;exact K3 (4 - (k+1)) [(5,_)] (p:=⟨k+1,rfl,rfl,by omega,S,by rw[Q0z bP,fy,v0C];simp at hb;rw[hb];simp⟩)
     refine ZY (n:=11) (dc:=112) (w:=true) rfl aN rfl<|Iu rfl aN rfl<|Q0<|Q2 rfl (fun hb=>?_) fun hb=>?_
     · skip
       refine Q5 ?_;exact absurd hb (by decide)
     refine Q4<|Q3 (by kernel_rfl)<|I1 rfl<|Iao rfl rfl<|I2 rfl<|Q0 ?_
     exact K3 (4 - (k+1)) [(5,_)] (p:=⟨k+1,rfl,rfl,by omega,S,by
      rw[Q0z bP,fy,v0C];have:decide (0<=(P.comps[j]).2[k])=false:=aN
      rw[this];rfl⟩)
   refine QF<|Qh<|Qn<|QE<|Q5 ?_;have nu:k=4:=by simp at hb;omega
   have fy:(P.comps[j].2.all fun f=> !decide (0<=f)||Q06 P f)=true:=by
    rw[nu,<-h4,v09]at fy;exact fy
   refine I9<|I0 4 rfl<|I4 rfl (S.cel 0 rfl) rfl<|I1 rfl ?_;rw[bD];refine I5o 6 rfl rfl<|I0 1 rfl<|Kb gn rfl rfl (by kernel_rfl) (S.old0 hg bO) (by rw[v0i];exact hD.lp) ?_;rw[<-bD];refine I0 0 rfl<|I4 rfl (S.cel 0 rfl) rfl<|I7 rfl<|Ic [_,_] rfl rfl (Ql (c18) ⟨ag0,?_⟩);refine Ib rfl<|Q0<|Q2 rfl (fun hb=>?_) fun hb=>?_
   · skip
     refine Q7<|I2 rfl<|Q0<|Q8 ⟨.inl rfl,_,rfl,⟨by rw[hR,Jh cZ (by rw[Q6X,fy,v0C];simpa using hb)];rfl,S.e0⟩⟩
   refine Q4<|Q3 (by kernel_rfl)<|I1 rfl<|Iao rfl rfl<|I2 rfl<|Q0 ?_
   exact K3 (P.comps.length - (j+1)) [(4,_)] (p:=⟨j+1,rfl,rfl,by omega,S,by
    rw[Q0z cZ,au,v0C,Q6X,fy,v0C];simpa using hb⟩)
 refine QF<|Qh<|Qn<|QE<|Q5<|Q5 ?_;have jx:j=P.comps.length:=by simp at hb;omega
 rw[jx,v09]at au;rw[au,v0C]at hR;clear au;refine Q3 (by kernel_rfl)<|I2 rfl<|Q0<|Qb<|QB [(6,_)] [(1,_)] (fun kk lv hh=> ∃j:Nat,lv=[(6,iV j)]/\kk=P.events.length -j/\j<=P.events.length/\SH h [] [cR b1 (.cells (Q8U P (.slice oa P.loopers oc) (.slice ca P.classes.length cc) (.slice ga P.globals gc) (.slice fa P.funs.length fc) (.slice pa P.comps.length pc) (.slice ea P.events.length ec) si) 30 0)] hh/\(P.events.take j).all (Q2u P)=true) (n:=(P.events.length)) ?_ fun kk lv hh hI=>?_
 · exact⟨0,rfl,rfl,by omega,S,rfl⟩
 obtain⟨j,rfl,rfl,hj,S,au⟩:=hI;refine Q5<|Q7<|I1 rfl<|I0 5 rfl<|I4 rfl (S.cel 0 rfl) rfl<|I7 rfl<|Il rfl rfl<|Q0<|Q2 rfl (fun hb=>?_) fun hb=>?_
 · skip
   refine Q4<|Q5<|Qb<|Q5 ?_;have cZ:j <P.events.length:=by simp at hb;omega
   obtain⟨b,o,c,cs,e,m,hv,hg,bO,nj,aP⟩:=X.ev.at (by omega);have bD:ea=some ⟨b,o,none⟩:=by injection hv
   obtain⟨cp,ez⟩:=(aP j cZ).lp;refine I9<|I0 5 rfl<|I4 rfl (S.cel 0 rfl) rfl<|I1 rfl ?_;rw[bD];refine I5o 4 rfl rfl<|I0 1 rfl<|Kb gn rfl rfl (by kernel_rfl) (S.old0 hg bO) (by rw[v0i];exact cp) ?_;rw[<-bD];refine I0 0 rfl<|I4 rfl (S.cel 0 rfl) rfl<|I7 rfl<|Ic [_,_] rfl rfl (Ql (c18) ⟨ag0,?_⟩);refine Ib rfl<|I1 rfl<|ZX (dc:=154) rfl (fun bf=>?_) fun bf=>?_
   · skip
     refine ZY (n:=9) (dc:=154) (w:=false) rfl bf rfl<|IT rfl bf rfl<|Q0<|Q2 rfl (fun hb=>?_) fun hb=>?_
     · skip
       refine Q7<|I2 rfl<|Q0<|Q8 ⟨.inl rfl,_,rfl,⟨by rw[hR,Jh cZ (by rw[Q2u];have:(!inB (P.events[j]).1 P.loopers)=true:=bf;rw[v0J]at this;rw[this];rfl)];rfl,S.e0⟩⟩
     refine Q4 ?_;exact absurd hb (by decide)
   refine D3 8 bf rfl (S.cel 0 rfl) (v0b _)<|D0 5 bf rfl<|D4 bf rfl (S.cel 0 rfl) rfl<|D1 bf rfl ?_;rw[bD];refine D5o 4 bf rfl rfl<|D0 3 bf rfl<|Kb (gy rfl rfl rfl bf) rfl rfl (by kernel_rfl) (S.old0 hg bO) (by rw[v0i];exact ez) ?_;rw[<-bD];refine Dc bf [_,_] rfl rfl (C.mono (c17 (X.ext S.e0)) ?_);rintro v g ⟨rfl,x⟩;have S:=S.grow x;refine⟨ag0,?_⟩;refine Db bf rfl<|Iu rfl bf rfl<|Q0<|Q2 rfl (fun hb=>?_) fun hb=>?_
   · skip
     refine Q7<|I2 rfl<|Q0<|Q8 ⟨.inl rfl,_,rfl,⟨by rw[hR,Jh cZ (by rw[Q2u];simp only[v0J]at hb;rw[hb,v0Y])];rfl,S.e0⟩⟩
   refine Q4<|Q3 (by kernel_rfl)<|I1 rfl<|Iao rfl rfl<|I2 rfl<|Q0 ?_
   exact K3 (P.events.length - (j+1)) [(6,_)] (p:=⟨j+1,rfl,rfl,by omega,S,by
    have h1:(!inB (P.events[j]).1 P.loopers)=false:=bf;rw[Bool.not_eq_false']at h1
    rw[Q0z cZ,au,v0C,Q2u,h1,v0C];simpa using hb⟩)
 refine QF<|Qh<|Qn<|QE<|Q5 ?_;have jx:j=P.events.length:=by simp at hb;omega
 rw[jx,v09]at au;refine Q3 (by kernel_rfl)<|I2 rfl<|Q0<|Q8 ⟨.inl rfl,_,rfl,⟨by rw[hR,au];rfl,S.e0⟩⟩
end
noncomputable def fs46:Array Field:=match modE.und 80 with|some (.struct fs)=>fs|_=> #[]
theorem und46:modE.und 80=some (.struct fs46):=by kernel_rfl
theorem len46:fs46.toList.length=2:=by kernel_rfl
theorem row46:fs46.toList=[fs46.toList[0]'(by rw[len46];omega),fs46.toList[1]'(by rw[len46];omega)]:=by kernel_rfl
theorem eq46 {h:Hp} (a b c d:Int):ZH modE h #[iV a,iV b] #[iV c,iV d] fs46.toList=some (decide (a=c)&&(decide (b=d)&&true)):=by
 rw[row46];exact Y0 (u:=iV a) (w:=iV c) (by kernel_rfl) (by kernel_rfl) (by kernel_rfl) (by kernel_rfl) (Y0 (u:=iV b) (w:=iV d) (by kernel_rfl) (by kernel_rfl) (by kernel_rfl) (by kernel_rfl) rfl)
theorem neq46 {h:Hp} {x x':Operand} (a b c d:Int):Q4C modE h .neq 80 x x' (.agg #[iV a,iV b]) (.agg #[iV c,iV d])=some (.bool (!decide ((a,b)=(c,d)))):=by
 have e:decide ((a,b)=(c,d))=(decide (a=c)&&(decide (b=d)&&true)):=by
  rw[v1W];simp
 rw[e];exact Qdd und46 (by kernel_rfl) (eq46 a b c d)
section
variable {F:Fun}
theorem Qfd (h:(((((decide (F.regs <0)||decide (256 <F.regs))||decide (F.caps <0))||decide (F.regs <F.caps))||decide ((F.code.length:Int)<1))||decide ((512:Int)<F.code.length))=true):Q2o F=false:=by
 simp only[v0K,decide_eq_true_eq]at h;rw[<-Bool.not_eq_true];intro h';simp only[Q2o,inB,v0g,decide_eq_true_eq]at h';omega
theorem QcM (h:(((((decide (F.regs <0)||decide (256 <F.regs))||decide (F.caps <0))||decide (F.regs <F.caps))||decide ((F.code.length:Int)<1))||decide ((512:Int)<F.code.length))=false):Q2o F=true:=by
 simp only[v06,decide_eq_false_iff_not]at h;simp only[Q2o,inB,v0g,decide_eq_true_eq];omega
theorem QeZ (h:(!decide (KU F.code=33)&& !decide (KU F.code=31))=true):Q40 F=false:=by
 rw[Q40];simp only[v0g,v0J]at h;rw[h.1,h.2];rfl
theorem QcE (h:(!decide (KU F.code=33)&& !decide (KU F.code=31))=false):Q40 F=true:=by
 rw[Q40]
 revert h
 cases decide (KU F.code=33)<;>cases decide (KU F.code=31)<;>simp
theorem Qe8 {l:List (Int×Int)} {z:Int} {n:Nat} {st:Int×Int} (h:((!decide (z=n)||decide ((l.length:Int)<=n))|| !decide (l[n]?=some st))=true):(¬z=n)\/l[n]?≠some st:=by
 simp only[v0K,v0J,decide_eq_false_iff_not,decide_eq_true_eq]at h;rcases h with(h|h)|h
 · exact .inl h
 · refine .inr ?_;rw[List.getElem?_eq_none (by omega)];intro e;cases e
 exact .inr h
theorem Qe7 {l:List (Int×Int)} {z:Int} {n:Nat} {st:Int×Int} (h:((!decide (z=n)||decide ((l.length:Int)<=n))|| !decide (l[n]?=some st))=false):z=n/\l[n]?=some st/\n <l.length:=by
 simp only[v06,Bool.not_eq_false',decide_eq_false_iff_not,decide_eq_true_eq]at h;exact⟨h.1.1,h.2,by omega⟩
theorem neq46o {h:Hp} {x x':Operand} {a b c d:Int} {o:Option (Int×Int)} (ho:o=some (a,b)):Q4C modE h .neq 80 x x' (.agg #[iV a,iV b]) (.agg #[iV c,iV d])=some (.bool (!decide (o=some (c,d)))):=by
 subst ho;rw[neq46];simp only[v0h.injEq]
end
section
variable {h:Hp} {P:Prg} {lo cl gl fu co ev si:Value}
theorem c5 (X:PrgAt h P lo cl gl fu co ev si):C modE 6 [Qds P lo cl gl fu co ev si] h fun v h'=>v=.bool (ZL P)/\Ext h h':=by
 obtain⟨⟨oa,oc,rfl⟩,⟨ca,cc,rfl⟩,⟨ga,gc,rfl⟩,⟨fa,fc,rfl⟩,⟨pa,pc,rfl⟩,⟨ea,ec,rfl⟩,⟨sa,sc,rfl⟩⟩:=X.vals;have lF:=X.zsi;have hzf:=X.zfu;refine Q9 (fu:=Tryz.f6) (by kernel_rfl) rfl ?_;have S:=SH.start h;refine Q7 ?_;refine Z9 S gn rfl rfl fun b1 g aJ S=>?_;refine I2 rfl<|Z8<|I3 8 rfl (S.cel 0 rfl) (v0b _)<|Ic [_] rfl rfl (C.mono (c8 (X.ext S.e0)) ?_);rintro v g ⟨rfl,x⟩;have S:=S.grow x;refine⟨ag0,?_⟩;refine Ib rfl<|Q0<|Q2 rfl (fun hb=>?_) fun hb=>?_
 · skip
   refine Q7<|I2 rfl<|Q0<|Q8 ⟨.inl rfl,_,rfl,⟨by rw[Qa1 (by simpa using hb)];rfl,S.e0⟩⟩
 refine Q4<|Q5 ?_;have kT:YQ P=true:=by simpa using hb
 refine Q3 (by kernel_rfl)<|I2 rfl<|Z8<|I2 rfl<|Q0<|Qb<|QB [(3,_),(4,_)] [(1,_)] (fun kk lv hh=> ∃i:Nat,lv=[(3,iV (cntF (P.funs.take i):Nat)),(4,iV i)]/\kk=P.funs.length -i/\i<=P.funs.length/\SH h [] [cR b1 (.cells (Q8U P (.slice oa P.loopers oc) (.slice ca P.classes.length cc) (.slice ga P.globals gc) (.slice fa P.funs.length fc) (.slice pa P.comps.length pc) (.slice ea P.events.length ec) (.slice sa P.sites.length sc)) 30 0)] hh/\Q74 P 0 (P.funs.take i)=true/\Zu 0 (P.funs.take i)=P.sites.take (cntF (P.funs.take i))/\cntF (P.funs.take i)<=P.sites.length) (n:=(P.funs.length)) ?_ fun kk lv hh hI=>?_
 · exact⟨0,rfl,rfl,by omega,S,rfl,rfl,v0s _⟩
 obtain⟨i,rfl,rfl,hi,S,au,kL,jD⟩:=hI;refine Q5<|Q7<|I1 rfl<|I0 3 rfl<|I4 rfl (S.cel 0 rfl) rfl<|I7 rfl<|Il rfl rfl<|Q0<|Q2 rfl (fun hb=>?_) fun hb=>?_
 · skip
   refine Q4<|Q5<|Qb<|Q5 ?_;have cE:i <P.funs.length:=by simp at hb;omega
   obtain⟨b,o,c,cs,e,m,hv,hg,bO,nj,aP⟩:=X.fu.at (by omega);have bD:fa=some ⟨b,o,none⟩:=by injection hv
   obtain⟨⟨s,cv,hw,cg⟩,cH,jl,nT⟩:=aP i cE;obtain⟨va,vc,rfl⟩:=cg.val;have hw:(cs.drop (o+v0f (i:Int)*4)).take 4=Qg8 s P.funs[i] (.slice va (P.funs[i]).code.length vc):=by rw[v0i];exact hw
   refine Q3 (by kernel_rfl)<|I0 3 rfl<|I4 rfl (S.cel 0 rfl) rfl<|I1 rfl ?_;rw[bD];refine I5o 4 rfl rfl<|Zb (n:=4) gn rfl rfl (by kernel_rfl) (by kernel_rfl) (S.old0 hg bO) (by rw[v0i];omega) ?_;rw[hw,<-bD];refine Qx (zv:=.agg #[.string .empty,iV 0,iV 0,.slice none 0 0]) S gn rfl (by kernel_rfl) fun b2 g bK S=>?_;refine Qi (n:=4) 0 S gn rfl rfl (by kernel_rfl) (by kernel_rfl) rfl rfl (by decide) rfl (fun g S=>ag0) fun g S=>?_;refine Z8<|I0 2 rfl<|I4 rfl (S.cel 0 rfl) rfl<|Il rfl rfl<|I1 rfl ?_
   refine Z4 (n:=3) rfl rfl rfl gn rfl (fun hb=>by
    refine D0 2 hb rfl<|D4 hb rfl (S.cel 0 rfl) rfl<|Dg hb rfl rfl ?_
    exact Q0 ⟨rfl,rfl,3,rfl,rfl⟩) ?_
   refine I1 rfl ?_
   refine Z4 (n:=3) rfl rfl rfl gn rfl (fun hb=>by
    refine D0 1 hb rfl<|D4 hb rfl (S.cel 0 rfl) rfl<|Dl hb rfl rfl ?_
    exact Q0 ⟨rfl,rfl,3,rfl,rfl⟩) ?_
   refine I1 rfl ?_
   refine Z4 (n:=5) rfl rfl rfl gn rfl (fun hb=>by
    refine D0 1 hb rfl<|D4 hb rfl (S.cel 0 rfl) rfl<|D0 2 hb rfl<|D4 hb rfl (S.cel 0 rfl) rfl<|Dg hb rfl rfl ?_
    exact Q0 ⟨rfl,rfl,5,rfl,rfl⟩) ?_
   refine I1 rfl ?_
   refine Z4 (n:=4) rfl rfl rfl gn rfl (fun hb=>by
    refine D0 3 hb rfl<|D4 hb rfl (S.cel 0 rfl) rfl<|D7 hb rfl<|Dl hb rfl rfl ?_
    exact Q0 ⟨rfl,rfl,4,rfl,rfl⟩) ?_
   refine I1 rfl ?_
   refine Z4 (n:=4) rfl rfl rfl gn rfl (fun hb=>by
    refine D0 3 hb rfl<|D4 hb rfl (S.cel 0 rfl) rfl<|D7 hb rfl<|Dg hb rfl rfl ?_
    exact Q0 ⟨rfl,rfl,4,rfl,rfl⟩) ?_
   refine Q0<|Q2 rfl (fun hb=>?_) fun hb=>?_
   · skip
     refine Q7<|I2 rfl<|Q0<|Q8 ⟨.inl rfl,_,rfl,⟨by rw[Q7J cE (Qfd hb)];rfl,S.e0⟩⟩
   refine Q4<|Q5<|Q5 ?_;have j6:=QcM hb;have mS:=QcN j6;refine Q3 (by kernel_rfl)<|I2 rfl<|Q0<|Qb ?_
   refine QB [(3,_),(6,_)] [(1,_),(4,_),(5,_)] (fun kk lv hh=> ∃k:Nat,lv=[(3,iV (cntF (P.funs.take i)+cnt ((P.funs[i]).code.take k):Nat)),(6,iV k)]/\kk=(P.funs[i]).code.length -k/\k<=(P.funs[i]).code.length/\SH h [] [cR b2 (.cells (Qg8 s P.funs[i] (.slice va (P.funs[i]).code.length vc)) 73 0),cR b1 (.cells (Q8U P (.slice oa P.loopers oc) (.slice ca P.classes.length cc) (.slice ga P.globals gc) (.slice fa P.funs.length fc) (.slice pa P.comps.length pc) (.slice ea P.events.length ec) (.slice sa P.sites.length sc)) 30 0)] hh/\Q0r P P.funs[i] (cntF (P.funs.take i)) ((P.funs[i]).code.take k)=true/\Zu 0 (P.funs.take i)++Ze i 0 ((P.funs[i]).code.take k)=P.sites.take (cntF (P.funs.take i)+cnt ((P.funs[i]).code.take k))/\cntF (P.funs.take i)+cnt ((P.funs[i]).code.take k)<=P.sites.length) (n:=((P.funs[i]).code.length)) ?_ fun kk lv hh hI=>?_
   · exact⟨0,rfl,rfl,by omega,S,rfl,by rw[List.take_zero];simpa[Ze,cnt]using kL,by simpa[cnt]using jD⟩
   obtain⟨k,rfl,rfl,hk,S,dJ,fG,k9⟩:=hI;refine Q5<|Q7<|I1 rfl<|I0 3 rfl<|I4 rfl (S.cel 0 rfl) rfl<|I7 rfl<|Il rfl rfl<|Q0<|Q2 rfl (fun hb=>?_) fun hb=>?_
   · skip
     refine Q4<|Q5<|Qb<|Q5 ?_;have bP:k <(P.funs[i]).code.length:=by simp at hb;omega
     obtain⟨b',o',c',cs',e',m',jh,iu,ik,ni,iG⟩:=cg.at (by omega);have ff:va=some ⟨b',o',none⟩:=by injection jh
     obtain⟨⟨lv,ln,aC,aq⟩,kQ,bn,jn,jS,hr5,hr6,hr7,hr8⟩:=iG k bP;obtain⟨la,lc,rfl⟩:=aq.valM;have aC:(cs'.drop (o'+v0f (k:Int)*8)).take 8=insC (P.funs[i]).code[k] (.slice la ((P.funs[i]).code[k]).l.length lc) ln:=by rw[v0i];exact aC
     refine Q3 (by kernel_rfl)<|I0 3 rfl<|I4 rfl (S.cel 0 rfl) rfl<|I1 rfl ?_;rw[ff];refine I5o 8 rfl rfl<|Zb (n:=8) gn rfl rfl (by kernel_rfl) (by kernel_rfl) (S.old0 iu ik) (by rw[v0i];omega) ?_;rw[aC,<-ff];refine Qx (zv:=.agg #[iV 0,iV 0,iV 0,iV 0,iV 0,.slice none 0 0,iV 0,iV 0]) S gn rfl (by kernel_rfl) fun b3 g fV S=>?_;refine Qi (n:=8) 0 S gn rfl rfl (by kernel_rfl) (by kernel_rfl) rfl rfl (by decide) rfl (fun g S=>ag0) fun g S=>?_;refine Z8<|I3 8 rfl (S.cel 2 rfl) (v0b _)<|I3 4 rfl (S.cel 1 rfl) (v0b _)<|I3 8 rfl (S.cel 0 rfl) (v0b _) ?_
     refine Ic [_,_,_] rfl rfl (C.mono (c9 (X.ext S.e0) (aq.ext S.e0) hr6 ⟨_,_,rfl⟩) ?_);rintro v g ⟨rfl,x⟩;have S:=S.grow x;refine⟨ag0,?_⟩;refine Ib rfl<|Q0<|Q2 rfl (fun hb=>?_) fun hb=>?_
     · skip
       refine Q7<|I2 rfl<|Q0<|Q8 ⟨.inl rfl,_,rfl,⟨by rw[Q3X cE bP (by rw[okI];simp only[v0J]at hb;rw[hb,v05])];rfl,S.e0⟩⟩
     refine Q4<|Q5<|Q5 ?_;have nw:Z0 P P.funs[i] (P.funs[i]).code[k]=true:=by simpa using hb
     refine Q3 (by kernel_rfl)<|I0 0 rfl<|I4 rfl (S.cel 0 rfl) rfl<|Ic [_] rfl rfl (Ql (c10) ⟨ag0,?_⟩);refine Ib rfl<|Q0<|Q2 rfl (fun hb=>?_) fun hb=>?_
     · skip
       refine Q5<|Q5 ?_;have fL:Q1p ((P.funs[i]).code[k]).op=false:=by simpa using hb
       refine Q3 (by kernel_rfl)<|I0 6 rfl<|I4 rfl (S.cel 0 rfl) rfl<|In rfl rfl<|Q0<|Q2 rfl (fun hb=>?_) fun hb=>?_
       · skip
         refine Q7<|I2 rfl<|Q0<|Q8 ⟨.inl rfl,_,rfl,⟨by rw[Q3X cE bP (by rw[okI,fL,if_neg (by simp),Bool.and_eq_false_iff];right;simpa using hb)];rfl,S.e0⟩⟩
       refine Q4<|QF<|Qh<|QE ?_;have bS:cnt ((P.funs[i]).code.take (k+1))=cnt ((P.funs[i]).code.take k):=by rw[Q86 bP,fL,if_neg (by simp),Nat.add_zero]
       have iO:Ze i 0 ((P.funs[i]).code.take (k+1))=Ze i 0 ((P.funs[i]).code.take k):=by rw[Q1W bP,fL,if_neg (by simp),List.append_nil]
       refine Q3 (by kernel_rfl)<|I1 rfl<|Iao rfl rfl<|I2 rfl<|Q0 ?_
       exact K3 ((P.funs[i]).code.length - (k+1)) [(3,_),(6,_)] (p:=⟨k+1,by rw[bS];rfl,rfl,by omega,S.drop,by
        rw[Q17 bP,dJ,v0C,okI,nw,v0C,fL,if_neg (by simp)];simpa using hb,by rw[iO,bS];exact fG,by rw[bS];exact k9⟩)
     refine Q4<|Q5<|Q5 ?_;have fL:Q1p ((P.funs[i]).code[k]).op=true:=by simpa using hb
     refine Q3 (by kernel_rfl)<|I0 6 rfl<|I4 rfl (S.cel 0 rfl) rfl<|I1 rfl<|In rfl rfl<|I1 rfl ?_
     refine Z4 (n:=5) rfl rfl rfl gn rfl (fun hb=>by
      refine D1 hb rfl<|D0 7 hb rfl<|D4 hb rfl (S.cel 2 rfl) rfl<|D7 hb rfl<|Dh hb rfl rfl ?_
      exact Q0 ⟨rfl,rfl,5,rfl,rfl⟩) ?_
     refine I1 rfl ?_
     refine Z4 (B:= !decide (P.sites[cntF (P.funs.take i)+cnt ((P.funs[i]).code.take k)]?=some ((i:Int),(k:Int)))) (n:=9) rfl rfl rfl gn rfl (fun hb=>by
      refine D0 7 hb rfl<|D4 hb rfl (S.cel 2 rfl) rfl<|D1 hb rfl ?_
      have hn:cntF (P.funs.take i)+cnt ((P.funs[i]).code.take k)<P.sites.length:=by
       simp only[v06,decide_eq_false_iff_not]at hb;omega
      obtain⟨b3,o3,c3,iU,e3,m3,lH,cw,hlb3,hl3,aS⟩:=X.si.at (by omega);have htc:sa=some ⟨b3,o3,none⟩:=by injection lH
      have ez:(iU.drop (o3+v0f ((cntF (P.funs.take i)+cnt ((P.funs[i]).code.take k):Nat):Int)*2)).take 2=[iV (P.sites[cntF (P.funs.take i)+cnt ((P.funs[i]).code.take k)]).1,iV (P.sites[cntF (P.funs.take i)+cnt ((P.funs[i]).code.take k)]).2]:=by rw[v0i];exact(aS _ hn).row
      rw[htc];refine D5o 2 hb rfl rfl<|Zb (n:=2) (gy rfl rfl rfl hb) rfl rfl (by kernel_rfl) (by kernel_rfl) (S.old0 cw hlb3) (by rw[v0i];omega) ?_;rw[ez,<-htc];refine D1 hb rfl<|D1 hb rfl<|Qq (zv:=.agg #[iV 0,iV 0]) (pl:=[(0,1),(1,1)]) [(0,_),(1,_)] (gy rfl rfl rfl hb) rfl (by kernel_rfl) (by kernel_rfl) rfl (by rfl)<|o_bin (gy rfl rfl rfl hb) rfl rfl rfl (neq46o (v0c hn)) ?_
      exact Q0 ⟨rfl,rfl,9,rfl,rfl⟩) ?_
     refine Q0<|Q2 rfl (fun hb=>?_) fun hb=>?_
     · skip
       refine Q7<|I2 rfl<|Q0<|Q8 ?_;refine⟨.inl rfl,_,rfl,?_⟩
       exact⟨by
        rcases Qe8 hb with h1|h1
        · rw[Q3X cE bP (by rw[okI,if_pos fL,decide_eq_false h1,v0Y])];rfl
        rw[Qcu cE bP fL h1];rfl,S.e0⟩
     refine Q4 ?_;obtain⟨hz1,hz2,hz3⟩:=Qe7 hb;refine Q3 (by kernel_rfl)<|I1 rfl<|Iao rfl rfl<|I2 rfl<|Q0 ?_;have bS:cnt ((P.funs[i]).code.take (k+1))=cnt ((P.funs[i]).code.take k)+1:=by rw[Q86 bP,if_pos fL]
     have iO:Ze i 0 ((P.funs[i]).code.take (k+1))=Ze i 0 ((P.funs[i]).code.take k)++[((i:Int),(k:Int))]:=by rw[Q1W bP,if_pos fL]
     refine Q3 (by kernel_rfl)<|I1 rfl<|Iao rfl rfl<|I2 rfl<|Q0 ?_
     exact K3 ((P.funs[i]).code.length - (k+1)) [(3,_),(6,_)] (p:=⟨k+1,by rw[bS,<-Nat.add_assoc];rfl,rfl,by omega,S.drop,by
      rw[Q17 bP,dJ,v0C,okI,nw,v0C,if_pos fL,decide_eq_true hz1],by
      rw[iO,<-v0F,fG,bS,<-Nat.add_assoc,v0Z,hz2];rfl,by rw[bS];omega⟩)
   refine QF<|Qh<|Qn<|QE<|Q5 ?_;have nu:k=(P.funs[i]).code.length:=by simp at hb;omega
   rw[nu,v09]at dJ fG k9;obtain⟨b',o',c',cs',e',m',jh,iu,ik,ni,iG⟩:=cg.at (by omega);have ff:va=some ⟨b',o',none⟩:=by injection jh
   obtain⟨⟨lv,ln,aC,aq⟩,-⟩:=iG ((P.funs[i]).code.length -1) (by omega);have an:=last_at (F:=P.funs[i]) (by omega)
   have aC:cs'[o'+v0f (((P.funs[i]).code.length:Int) -1)*8+0]?=some (iV (KU (P.funs[i]).code)):=by
    rw[an,show v0f (((P.funs[i]).code.length:Int) -1)=(P.funs[i]).code.length -1 by omega];exact Jv aC (by omega) rfl
   refine Q3 (by kernel_rfl)<|I0 3 rfl<|I4 rfl (S.cel 0 rfl) rfl<|I0 3 rfl<|I4 rfl (S.cel 0 rfl) rfl<|I7 rfl<|Iso rfl rfl ?_;rw[ff];refine I5o 8 rfl rfl<|I0 0 rfl<|I4 rfl (S.old0 iu ik) aC ?_;rw[<-ff];refine I2 rfl<|QP<|I1 rfl<|In rfl rfl<|I1 rfl ?_
   refine QY (n:=2) rfl rfl rfl gn rfl (fun hb=>by
    refine D1 hb rfl<|Dn hb rfl rfl ?_
    exact Q0 ⟨rfl,rfl,2,rfl,rfl⟩) ?_
   refine Q0<|Q2 rfl (fun hb=>?_) fun hb=>?_
   · skip
     refine Q7<|I2 rfl<|Q0<|Q8 ⟨.inl rfl,_,rfl,⟨by rw[Q7I cE (QeZ hb)];rfl,S.e0⟩⟩
   refine Q4 ?_;have il:=QcE hb;refine Q3 (by kernel_rfl)<|I1 rfl<|Iao rfl rfl<|I2 rfl<|Q0 ?_
   exact K3 (P.funs.length - (i+1)) [(3,_),(4,_)] (p:=⟨i+1,by rw[Q2D cE,nu,v09];rfl,rfl,by omega,S.drop,by
    rw[Q5T cE,au,v0C,QdI,j6,v0C,v0e,dJ,il];rfl,by
    rw[Q6d cE,Q2D cE];exact fG,by rw[Q2D cE];exact k9⟩)
 refine QF<|Qh<|Qn<|QE<|Q5 ?_;have hie:i=P.funs.length:=by simp at hb;omega
 rw[hie,v09]at au kL jD;refine Q3 (by kernel_rfl)<|I1 rfl<|I0 7 rfl<|I4 rfl (S.cel 0 rfl) rfl<|I7 rfl<|Ie rfl rfl<|I1 rfl ?_
 refine QY (n:=2) rfl rfl rfl gn rfl (fun hb=>by
  refine D1 hb rfl<|Dm hb rfl rfl ?_
  exact Q0 ⟨rfl,rfl,2,rfl,rfl⟩) ?_
 refine I2 rfl<|Q0<|Q8 ?_;refine⟨.inl rfl,_,rfl,?_⟩
 exact⟨by
  rw[hie,v09,QeS kT au,kL];show Value.bool _=Value.bool _
  congr 1
  rw[v1W];simp only[v0g,decide_eq_true_eq];constructor
  · rintro⟨h1,h2⟩;have h1:cntF P.funs=P.sites.length:=by omega
    exact⟨by rw[h1,v09],by omega⟩
  rintro⟨h1,h2⟩;have:=congrArg List.length h1;rw[v0E]at this
  omega,S.e0⟩
end
section
variable {h:Hp} {P:Prg} {lo cl gl fu co ev si:Value}
theorem c4 (X:PrgAt h P lo cl gl fu co ev si):C modE 5 [Qds P lo cl gl fu co ev si] h fun v h'=>(∃b,v=.bool b)/\Ext h h':=by
 obtain⟨⟨oa,oc,rfl⟩,⟨ca,cc,rfl⟩,⟨ga,gc,rfl⟩,⟨fa,fc,rfl⟩,⟨pa,pc,rfl⟩,⟨ea,ec,rfl⟩,⟨sa,sc,rfl⟩⟩:=X.vals;refine Q9 (fu:=Tryz.f5) (by kernel_rfl) rfl ?_;have S:=SH.start h;refine Q7 ?_;refine Z9 S gn rfl rfl fun b1 g aJ S=>?_;refine I2 rfl<|QP<|I0 0 rfl<|I4 rfl (S.cel 0 rfl) rfl<|I7 rfl<|I0 1 rfl<|I4 rfl (S.cel 0 rfl) rfl<|I7 rfl<|Q0a gn rfl rfl rfl<|I0 2 rfl<|I4 rfl (S.cel 0 rfl) rfl<|I7 rfl<|Q0a gn rfl rfl rfl<|I0 4 rfl<|I4 rfl (S.cel 0 rfl) rfl<|I7 rfl ?_;refine Q0a gn rfl rfl rfl<|I0 5 rfl ?_
 refine I4 rfl (S.cel 0 rfl) rfl<|I7 rfl<|Q0a gn rfl rfl rfl<|I0 3 rfl<|I4 rfl (S.cel 0 rfl) rfl<|I7 rfl<|Q0a gn rfl rfl rfl<|I0 7 rfl<|I4 rfl (S.cel 0 rfl) rfl<|I7 rfl<|Q0a gn rfl rfl rfl<|I2 rfl<|Z8<|I2 rfl<|Q0<|Qb ?_
 refine QB [(3,_),(4,_)] [(1,_)] (fun kk lv hh=> ∃(i:Nat) (z:Int),lv=[(3,iV z),(4,iV i)]/\kk=P.funs.length -i/\i<=P.funs.length/\i<=200/\SH h [] [cR b1 (.cells (Q8U P (.slice oa P.loopers oc) (.slice ca P.classes.length cc) (.slice ga P.globals gc) (.slice fa P.funs.length fc) (.slice pa P.comps.length pc) (.slice ea P.events.length ec) (.slice sa P.sites.length sc)) 30 0)] hh) (n:=(P.funs.length)) ?_ fun kk lv hh hI=>?_
 · exact⟨0,_,rfl,rfl,by omega,by omega,S⟩
 obtain⟨i,z,rfl,rfl,hi,nB,S⟩:=hI;refine Q5<|Q7<|I1 rfl<|I0 3 rfl<|I4 rfl (S.cel 0 rfl) rfl<|I7 rfl<|Il rfl rfl<|I1 rfl ?_
 refine QY (n:=2) rfl rfl rfl gn rfl (fun hb=>by
  refine D1 hb rfl<|Dl hb rfl rfl ?_
  exact Q0 ⟨rfl,rfl,2,rfl,rfl⟩) ?_
 refine Q0<|Q2 rfl (fun hb=>?_) fun hb=>?_
 · skip
   refine Q4<|Q5<|Qb<|Q5 ?_;obtain⟨cE,hi3⟩:i <P.funs.length/\i <200:=by simp at hb;omega
   obtain⟨b,o,c,cs,e,m,hv,hg,bO,nj,aP⟩:=X.fu.at (by omega);have bD:fa=some ⟨b,o,none⟩:=by injection hv
   obtain⟨⟨s,cv,hw,cg⟩,cH,jl,nT⟩:=aP i cE;obtain⟨va,vc,rfl⟩:=cg.val;have hw:cs[o+v0f (i:Int)*4+3]?=some (.slice va (P.funs[i]).code.length vc):=by rw[v0i];exact Jv hw (by omega) rfl
   refine Q3 (by kernel_rfl)<|I1 rfl<|I0 3 rfl<|I4 rfl (S.cel 0 rfl) rfl<|I1 rfl ?_;rw[bD];refine I5o 4 rfl rfl<|I0 3 rfl<|I4 rfl (S.old0 hg bO) hw ?_;rw[<-bD];refine I7 rfl<|Q0a gn rfl rfl rfl<|I2 rfl<|QP<|I2 rfl<|Q0<|Qb ?_
   refine QB [(3,_),(5,_)] [(1,_),(4,_)] (fun kk lv hh=> ∃(k:Nat) (z:Int),lv=[(3,iV z),(5,iV k)]/\kk=(P.funs[i]).code.length -k/\k<=(P.funs[i]).code.length/\k<=3000/\SH h [] [cR b1 (.cells (Q8U P (.slice oa P.loopers oc) (.slice ca P.classes.length cc) (.slice ga P.globals gc) (.slice fa P.funs.length fc) (.slice pa P.comps.length pc) (.slice ea P.events.length ec) (.slice sa P.sites.length sc)) 30 0)] hh) (n:=((P.funs[i]).code.length)) ?_ fun kk lv hh hI=>?_
   · exact⟨0,_,rfl,rfl,by omega,by omega,S⟩
   obtain⟨k,z,rfl,rfl,hk,j0,S⟩:=hI;refine Q5<|Q7<|I1 rfl<|I0 3 rfl<|I4 rfl (S.cel 0 rfl) rfl<|I1 rfl ?_;rw[bD];refine I5o 4 rfl rfl<|I0 3 rfl<|I4 rfl (S.old0 hg bO) hw ?_;rw[<-bD];refine I7 rfl<|Il rfl rfl<|I1 rfl ?_
   refine QY (n:=2) rfl rfl rfl gn rfl (fun hb=>by
    refine D1 hb rfl<|Dl hb rfl rfl ?_
    exact Q0 ⟨rfl,rfl,2,rfl,rfl⟩) ?_
   refine Q0<|Q2 rfl (fun hb=>?_) fun hb=>?_
   · skip
     refine Q4<|Q5<|Qb ?_;obtain⟨bP,hk3⟩:k <(P.funs[i]).code.length/\k <3000:=by simp at hb;omega
     obtain⟨b',o',c',cs',e',m',jh,iu,ik,ni,iG⟩:=cg.at (by omega);have ff:va=some ⟨b',o',none⟩:=by injection jh
     obtain⟨⟨lv,ln,aC,aq⟩,-⟩:=iG k bP;obtain⟨la,lc,rfl⟩:=aq.valM;have aC:cs'[o'+v0f (k:Int)*8+5]?=some (.slice la ((P.funs[i]).code[k]).l.length lc):=by rw[v0i];exact Jv aC (by omega) rfl
     refine Q3 (by kernel_rfl)<|I1 rfl<|I0 3 rfl<|I4 rfl (S.cel 0 rfl) rfl<|I1 rfl ?_;rw[bD];refine I5o 4 rfl rfl<|I0 3 rfl<|I4 rfl (S.old0 hg bO) hw ?_;rw[<-bD];refine I1 rfl ?_;rw[ff];refine I5o 8 rfl rfl<|I0 5 rfl<|I4 rfl (S.old0 iu ik) aC ?_;rw[<-ff];refine I7 rfl<|Q0a gn rfl rfl rfl<|I2 rfl<|Q0<|Q3 (by kernel_rfl)<|I1 rfl<|Iao rfl rfl<|I2 rfl<|Q0 ?_;exact K3 ((P.funs[i]).code.length - (k+1)) [(3,_),(5,_)] (p:=⟨k+1,_,rfl,rfl,by omega,by omega,S⟩)
   refine QF<|Qh<|Qn<|QE<|Q3 (by kernel_rfl)<|I1 rfl<|Iao rfl rfl<|I2 rfl<|Q0 ?_;exact K3 (P.funs.length - (i+1)) [(3,_),(4,_)] (p:=⟨i+1,_,rfl,rfl,by omega,by omega,S⟩)
 refine QF<|Qh<|Qn<|QE<|Q7<|I1 rfl<|Ig rfl rfl<|I2 rfl<|Q0<|Q8 ⟨.inl rfl,_,rfl,⟨⟨_,rfl⟩,S.e0⟩⟩
end
open Go.Mac
structure ThW where
 fv:Value
 fb:List Nat
 vs:List (Value×List Nat)
def frC:List MFrm->List (Value×List Nat)->List Value
 |x::l,v::c=>[iV x.fn,iV x.at',v.1]++frC l c
 |_,_=>[]
def frP:List MFrm->List (Value×List Nat)->List Res
 |x::l,v::c=>slR 2 0 v.1 (isV x.regs) x.regs.length v.2::frP l c
 |_,_=>[]
def thL (tb:Nat) (pv:List Value) (T:MThr) (w:ThW):List Res:=cR tb (.cells (pv++[w.fv,iV T.trap]) 196 0)::slR 192 2 w.fv (frC T.F w.vs) T.F.length w.fb::frP T.F w.vs
def thR (tb:Nat) (pv:List Value) (T:MThr) (bs:List Nat):Res:=Q3r (fun L=> ∃w:ThW,w.vs.length=T.F.length/\L=thL tb pv T w) bs
theorem JS: ∀(l:List MFrm) (c:List (Value×List Nat)),c.length=l.length->(frC l c).length=l.length*3
 | [],_,_=>rfl
 |_::_,[],h=>by simp at h
 | o::l,v::c,h=>by
   show([_,_,_]++frC l c).length=_;rw[v0j,JS l c (by simpa using h)];simp;omega
theorem Q0k: ∀(l:List MFrm) (c:List (Value×List Nat)) (rest:List Value) (j:Nat) (o:MFrm) (v:Value×List Nat),l[j]?=some o->c[j]?=some v->((frC l c++rest).drop (j*3)).take 3=[iV o.fn,iV o.at',v.1]
 | o::l,v::c,rest,0,o',v',h1,h2=>by
   simp only[v0W,v0h.injEq]at h1 h2;subst h1;subst h2;rfl
 | o::l,v::c,rest,j+1,o',v',h1,h2=>by
   show(([_,_,_]++frC l c++rest).drop ((j+1)*3)).take 3=_;rw[show(j+1)*3=3+j*3 by omega,v0F,<-List.drop_drop,List.drop_left' (by rfl)];exact Q0k l c rest j o' v' (by simpa using h1) (by simpa using h2)
 | [],_,_,_,_,_,h1,_=>by simp at h1
 |_::_,[],_,_,_,_,_,h2=>by simp at h2
theorem QaG: ∀(l:List MFrm) (c:List (Value×List Nat)) (j:Nat) (o:MFrm) (v:Value×List Nat),l[j]?=some o->c[j]?=some v->(frP l c)[j]?=some (slR 2 0 v.1 (isV o.regs) o.regs.length v.2)
 | o::l,v::c,0,o',v',h1,h2=>by
   simp only[v0W,v0h.injEq]at h1 h2;subst h1;subst h2;rfl
 |o::l,v::c,j+1,o',v',h1,h2=>QaG l c j o' v' (by simpa using h1) (by simpa using h2)
 | [],_,_,_,_,h1,_=>by simp at h1
 |_::_,[],_,_,_,_,h2=>by simp at h2
theorem Q7Y: ∀(l:List MFrm) (c:List (Value×List Nat)) (o:MFrm) (v:Value×List Nat),c.length=l.length->frC (l++[o]) (c++[v])=frC l c++[iV o.fn,iV o.at',v.1]
 | [],[],_,_,_=>rfl
 | [],_::_,_,_,h=>by simp at h
 |_::_,[],_,_,h=>by simp at h
 | o::l,v::c,o',v',h=>by
   show[_,_,_]++frC (l++[o']) (c++[v'])=_;rw[Q7Y l c o' v' (by simpa using h)];rfl
theorem Q4f: ∀(l:List MFrm) (c:List (Value×List Nat)) (o:MFrm) (v:Value×List Nat),c.length=l.length->frP (l++[o]) (c++[v])=frP l c++[slR 2 0 v.1 (isV o.regs) o.regs.length v.2]
 | [],[],_,_,_=>rfl
 | [],_::_,_,_,h=>by simp at h
 |_::_,[],_,_,h=>by simp at h
 | o::l,v::c,o',v',h=>by
   show _::frP (l++[o']) (c++[v'])=_;rw[Q4f l c o' v' (by simpa using h)];rfl
theorem QaH (n:Int): ∀(l:List MFrm) (c:List (Value×List Nat)) (j:Nat),c.length=l.length->(frC l c).set (j*3+1) (iV n)=frC (atF l j n) c
 | [],[],j,_=>by cases j<;>rfl
 | [],_::_,_,h=>by simp at h
 |_::_,[],_,h=>by simp at h
 |x::l,v::c,0,_=>rfl
 | x::l,v::c,j+1,h=>by
   unfold atF;rw[v1d];show([iV x.fn,iV x.at',v.1]++frC l c).set ((j+1)*3+1) (iV n)=[iV x.fn,iV x.at',v.1]++frC (atF l j n) c;rw[<-QaH n l c j (by simpa using h),show(j+1)*3+1=(j*3+1)+1+1+1 by omega];rfl
theorem QaF (n:Int): ∀(l:List MFrm) (c:List (Value×List Nat)) (j:Nat),frP (atF l j n) c=frP l c
 | [],c,j=>by cases j<;>rfl
 | x::l,[],j=>by
   unfold atF;cases j with
   |zero=>rfl
   |succ j=>rw[v1d];rfl
 |x::l,v::c,0=>rfl
 | x::l,v::c,j+1=>by
   unfold atF;rw[v1d];show _::frP (atF l j n) c=_::frP l c;rw[QaF n l c j]
theorem Q7Z (a n:Int): ∀(l:List MFrm) (c:List (Value×List Nat)) (j:Nat),frC (Q34 l j a n) c=frC l c
 | [],c,j=>by cases j<;>rfl
 | x::l,[],j=>by
   unfold Q34;cases j with
   |zero=>rfl
   |succ j=>rw[v1d];rfl
 |x::l,v::c,0=>rfl
 | x::l,v::c,j+1=>by
   unfold Q34;rw[v1d];show[_,_,_]++frC (Q34 l j a n) c=[_,_,_]++frC l c;rw[Q7Z a n l c j]
theorem Q7W (a n:Int): ∀(l:List MFrm) (c:List (Value×List Nat)) (j:Nat) (o:MFrm) (v:Value×List Nat),l[j]?=some o->c[j]?=some v->(frP l c).set j (slR 2 0 v.1 ((isV o.regs).set a.toNat (iV n)) o.regs.length v.2)=frP (Q34 l j a n) c
 | o::l,v::c,0,o',v',h1,h2=>by
   simp only[v0W,v0h.injEq]at h1 h2;subst h1;subst h2;show slR 2 0 v.1 ((isV o.regs).set a.toNat (iV n)) o.regs.length v.2::frP l c=slR 2 0 v.1 (isV (o.regs.set a.toNat n)) (o.regs.set a.toNat n).length v.2::frP l c;rw[KX,List.length_set]
 | o::l,v::c,j+1,o',v',h1,h2=>by
   unfold Q34;rw[v1d];show _::(frP l c).set j _=_::frP (Q34 l j a n) c;rw[Q7W a n l c j o' v' (by simpa using h1) (by simpa using h2)]
 | [],_,_,_,_,h1,_=>by simp at h1
 |_::_,[],_,_,_,_,h2=>by simp at h2
theorem Qf9 {F:List MFrm} {k:Nat} {x:MFrm} (h:F[k]?=some x):Qfa F k=atF F k (x.at'+1):=by
 unfold Qfa atF;refine List.ext_getElem? fun i=>?_;simp only[List.getElem?_modify];by_cases e:k=i
 · subst e;rw[h];simp
 simp[e]
theorem Q19 (F:List MFrm) (k:Nat) (n:Int):(atF F k n).length=F.length:=by simp[atF]
theorem Q7v (F:List MFrm) (k:Nat) (a n:Int):(Q34 F k a n).length=F.length:=by simp[Q34]
theorem Q4b (F:List MFrm) (k:Nat):(Qfa F k).length=F.length:=by simp[Qfa]
theorem el162:ElN modE 194 192 2 39:=⟨by kernel_rfl,by kernel_rfl,by kernel_rfl,.agg #[.int .i64 0,.int .i64 0,.slice none 0 0],by kernel_rfl,rfl⟩
section
variable {h0 h:Hp} {ds:List Nat} {A:List Res} {tb:Nat} {pv:List Value} {T:MThr} {bs:List Nat}
theorem Q98 (S:SH h0 ds (A++[thR tb pv T bs]) h): ∃w:ThW,w.vs.length=T.F.length/\owns (thL tb pv T w)=bs/\SH h0 ds (A++thL tb pv T w) h:=by
 obtain⟨L,⟨w,hw,rfl⟩,h2,h3⟩:=Q0u S;exact⟨w,hw,h2,h3⟩
theorem Q99 {w:ThW} (S:SH h0 ds (thL tb pv T w) h) (hw:w.vs.length=T.F.length): ∃aa,SH h0 ds [thR tb pv T aa] h:=⟨_,Jg (A:=[]) S ⟨w,hw,rfl⟩⟩
theorem Q2X {w:ThW} {k:Nat} {x:MFrm} {v:Value×List Nat} (hx:T.F[k]?=some x) (hv:w.vs[k]?=some v):(thL tb pv T w)[2+k]?=some (slR 2 0 v.1 (isV x.regs) x.regs.length v.2):=by
 rw[show 2+k=k+1+1 by omega];exact QaG _ _ _ _ _ hx hv
theorem QbT {w:ThW} {k:Nat} {n:Int} (hw:w.vs.length=T.F.length):(thL tb pv T w).set 1 (slR 192 2 w.fv ((frC T.F w.vs).set (0+k*3+1) (iV n)) T.F.length w.fb)=thL tb pv {T with F:=atF T.F k n} w:=by
 show cR tb _::slR 192 2 w.fv _ T.F.length w.fb::frP T.F w.vs=cR tb _::slR 192 2 w.fv (frC (atF T.F k n) w.vs) (atF T.F k n).length w.fb::frP (atF T.F k n) w.vs;rw[v0e,QaH n _ _ _ hw,Q19,QaF]
theorem Q1O {w:ThW} {k:Nat} {a n:Int} {x:MFrm} {v:Value×List Nat} (hx:T.F[k]?=some x) (hv:w.vs[k]?=some v):(thL tb pv T w).set (2+k) (slR 2 0 v.1 ((isV x.regs).set (0+a.toNat*1) (iV n)) x.regs.length v.2)=thL tb pv {T with F:=Q34 T.F k a n} w:=by
 rw[show 2+k=k+1+1 by omega,v0e,v0A];show cR tb _::slR 192 2 w.fv _ T.F.length w.fb::(frP T.F w.vs).set k _=cR tb _::slR 192 2 w.fv (frC (Q34 T.F k a n) w.vs) (Q34 T.F k a n).length w.fb::frP (Q34 T.F k a n) w.vs;rw[Q7W a n _ _ _ _ _ hx hv,Q7Z,Q7v]
end
structure PrV where
 lo:Value
 cl:Value
 gl:Value
 fu:Value
 co:Value
 ev:Value
 si:Value
abbrev pvL (P:Prg) (V:PrV):List Value:=[V.lo,V.cl,V.gl,V.fu,V.co,V.ev,iV P.main,V.si]
abbrev Q1m (h:Hp) (P:Prg) (V:PrV):Prop:=PrgAt h P V.lo V.cl V.gl V.fu V.co V.ev V.si
section
variable {h0 h:Hp} {ds:List Nat} {B:List Res} {tb:Nat} {pv:List Value} {T:MThr} {bs:List Nat}
theorem Q1P (p:Held (thR tb pv T bs) h): ∃(a:Option Addr) (c:Nat) (w:ThW),w.vs.length=T.F.length/\w.fv=.slice a T.F.length c/\h.get tb=some (.cells (pv++[.slice a T.F.length c,iV T.trap]) 196 0)/\tb <h.n/\SlC 192 2 h (.slice a T.F.length c) (frC T.F w.vs) T.F.length w.fb/\(∀i,i∈w.fb->i <h.n)/\ ∀(j:Nat) (x:MFrm) (v:Value×List Nat),T.F[j]?=some x->w.vs[j]?=some v->SlC 2 0 h v.1 (isV x.regs) x.regs.length v.2:=by
 obtain⟨⟨Ls,⟨w,hw,rfl⟩,ho,hp⟩,hl⟩:=p;have h1:SlC 192 2 h w.fv (frC T.F w.vs) T.F.length w.fb:=hp (slR 192 2 w.fv (frC T.F w.vs) T.F.length w.fb) (by simp[thL]);have h0:h.get tb=some (.cells (pv++[w.fv,iV T.trap]) 196 0):=hp (cR tb (.cells (pv++[w.fv,iV T.trap]) 196 0)) (by simp[thL]);obtain⟨a,c,e⟩:=Q6 h1;rw[e]at h0 h1;refine⟨a,c,w,hw,e,h0,hl tb ?_,h1,fun i hi=>hl i ?_,fun j x v hx hv=>hp (slR 2 0 v.1 (isV x.regs) x.regs.length v.2) ?_⟩
 · show tb∈bs;rw[<-ho];simp[thL,owns,cR]
 · show i∈bs;rw[<-ho];simp[thL,owns,cR,slR,hi]
 have:=v0m (QaG _ _ _ _ _ hx hv);simp only[thL,List.mem_cons];exact .inr (.inr this)
theorem Q8K {a:Option Addr} {c:Nat} {F:List MFrm} {vs:List (Value×List Nat)} {fb:List Nat} (x:SlC 192 2 h (.slice a F.length c) (frC F vs) F.length fb) (hl:0 <F.length): ∃b r m,a=some ⟨b,0,none⟩/\h.get b=some (.cells (frC F vs++r) 192 m)/\fb=[b]/\(m=0\/m=5):=by
 obtain⟨b,c',hv,hb,_⟩:=Q03 x hl;obtain⟨rfl,rfl⟩:a=some ⟨b,0,none⟩/\c=c':=by simpa using hv
 rcases x with⟨h1,_⟩| ⟨b',m,c',r,h1,h2,h3,_⟩
 · cases h1
 cases h1;exact⟨b,r,m,rfl,h2,hb,h3⟩
end
theorem QaE {a b:Int} {v:Value} (k:cellV v=true):([iV a,iV b,v]:List Value).all cellV=true:=by
 simp only[v1e,List.all_nil,k,v1k];rfl
theorem PrgAt.fun {h:Hp} {P:Prg} {V:PrV} (X:Q1m h P V) {f:Int} (h0:0<=f) (h1:f <P.funs.length): ∃b o c cs e m,V.fu=.slice (some ⟨b,o,none⟩) P.funs.length c/\h.get b=some (.cells cs e m)/\b <h.n/\o+P.funs.length*4<=cs.length/\ ∃s cv,(cs.drop (o+f.toNat*4)).take 4=Qg8 s (Qt P f) cv/\RowP 8 (InsD h) h cv (Qt P f).code:=by
 obtain⟨b,o,c,cs,e,m,hv,hg,hl,hlen,aP⟩:=X.fu.at (by omega);have hj:f.toNat <P.funs.length:=by omega
 obtain⟨⟨s,cv,h2,h3⟩,_,_,_⟩:=aP _ hj
 have e1:P.funs[f.toNat]=Qt P f:=by
  have:=Jb h0 h1;rw[v0c hj]at this;exact v0h.inj this
 rw[e1]at h2 h3;exact⟨b,o,c,cs,e,m,hv,hg,hl,hlen,s,cv,h2,h3⟩
section
variable {h0 h:Hp} {P:Prg} {V:PrV} {tb:Nat} {T:MThr} {bs:List Nat} {o:Int}
theorem m79 (p:Held (thR tb (pvL P V) T bs) h):CP modE 94 [Qk tb] h (.bool (Yc T)):=by
 obtain⟨a,c,w,hw,_,hq,cM,hr,dy,_⟩:=Q1P p;refine Q9 (fu:=Tryz.f94) (by kernel_rfl) rfl ?_;refine Q7<|I2 rfl<|QP<|I1 rfl<|I6 rfl<|I0 8 rfl<|I4 rfl hq rfl<|I7 rfl<|Ie rfl rfl<|I1 rfl ?_
 refine Z4 (n:=5) rfl rfl rfl gn rfl (fun hb=>by
  refine D1 hb rfl<|D6 hb rfl<|D0 9 hb rfl<|D4 hb rfl hq rfl<|Dn hb rfl rfl ?_
  exact Q0 ⟨rfl,rfl,5,rfl,rfl⟩) ?_
 refine I2 rfl<|Q0<|Q8 ?_;refine⟨.inl rfl,_,rfl,?_⟩
 exact⟨by
  have e:decide ((T.F.length:Int)=0)=decide (T.F.length=0):=by simp
  have e2:(!decide (T.trap=0))=decide (T.trap≠0):=by simp
  unfold Yc;rw[<-e,<-e2];rfl,rfl⟩
theorem m84:CP modE 104 [iV o] h (.bool (K0 o)):=by
 refine Q9 (fu:=Tryz.f104) (by kernel_rfl) rfl ?_;refine Q7<|I2 rfl<|QP<|I1 rfl<|Ie rfl rfl<|I1 rfl ?_
 refine Z4 (n:=2) rfl rfl rfl gn rfl (fun hb=>by
  refine D1 hb rfl<|De hb rfl rfl ?_
  exact Q0 ⟨rfl,rfl,2,rfl,rfl⟩) ?_
 refine I1 rfl ?_
 refine Z4 (n:=6) rfl rfl rfl gn rfl (fun hb=>by
  refine D1 hb rfl<|Dh hb rfl rfl<|D1 hb rfl ?_
  refine QY (n:=2) rfl rfl rfl (gy rfl rfl rfl hb) rfl (fun hb=>by
   refine D1 hb rfl<|Dm hb rfl rfl ?_
   exact Q0 ⟨rfl,rfl,2,rfl,rfl⟩) ?_
  exact Q0 ⟨rfl,rfl,4,rfl,rfl⟩) ?_
 refine I2 rfl<|Q0<|Q8 ⟨.inl rfl,_,rfl,⟨by unfold K0;rfl,rfl⟩⟩
theorem m73 (X:Q1m h P V) (p:Held (thR tb (pvL P V) T bs) h) (hT:Kl P T) (hl:0 <T.F.length):C modE 88 [Qk tb] h fun v h'=>(∃lv ln,v=Qf6 (Qa P T) lv ln/\RowV h lv (isV (Qa P T).l))/\Ext h h':=by
 obtain⟨a,c,w,hw,_,hq,cM,hr,dy,bX⟩:=Q1P p;obtain⟨b,r,m,rfl,bC,j7,_⟩:=Q8K hr hl;have dR:=dy b (by rw[j7];simp);have aE:=Ya hl;have ok:=hT.2 _ (ZZ hl);have h32:=hT.1;obtain⟨v,hv⟩: ∃v,w.vs[T.F.length -1]?=some v:=⟨_,v0c (by omega)⟩
 have k0:((frC T.F w.vs++r).drop (0+v0f ((T.F.length:Int) -1)*3)).take 3=[iV (Qv T).fn,iV (Qv T).at',v.1]:=by
  rw[v0e,show v0f ((T.F.length:Int) -1)=T.F.length -1 by omega];exact Q0k _ _ _ _ _ _ aE hv
 obtain⟨fb,fo,fc,fcs,fe,fm,cG,gu,gM,hfn,s,cv,iw,ew⟩:=PrgAt.fun X ok.f0 ok.f1;obtain⟨cb,co,cc,ccs,ce,cm,rfl,nW,cK,jD,iD⟩:=ew.at (by have:=ok.a0;have:=ok.a1;omega);have f0:=ok.f0;have f1:=ok.f1;have a0:=ok.a0;have a1:=ok.a1;have hj:(Qv T).at'.toNat <(Qt P (Qv T).fn).code.length:=by omega
 have kf:fcs[fo+v0f (Qv T).fn*4+3]?=some (.slice (some ⟨cb,co,none⟩) (Qt P (Qv T).fn).code.length cc):=Qs iw (by omega) rfl;obtain⟨⟨lv,ln,nz,fM⟩,_⟩:=iD _ hj
 have ei:(Qt P (Qv T).fn).code[(Qv T).at'.toNat]=Qa P T:=by
  have:=Q4a ok;rw[v0c hj]at this;exact v0h.inj this
 rw[ei]at nz fM;obtain⟨lva,lvc,rfl⟩:=fM.valM;refine YW (fu:=Tryz.f88) (by kernel_rfl) rfl ?_;have S:=SH.start h;refine Q7 ?_;refine Qx (zv:=.agg #[iV 0,iV 0,iV 0,iV 0,iV 0,.slice none 0 0,iV 0,iV 0]) S gn rfl (by kernel_rfl) fun b1 g aJ S=>?_;refine Q0<|Q5<|I9<|I1 rfl<|I6 rfl<|I0 8 rfl<|I4 rfl (S.old0 hq cM) rfl<|I1 rfl<|I6 rfl<|I0 8 rfl<|I4 rfl (S.old0 hq cM) rfl<|I7 rfl<|Iso rfl rfl<|I5o 3 rfl rfl<|Zb (n:=3) gn rfl rfl (by kernel_rfl) (by kernel_rfl) (S.old0 bC dR) (by rw[v0j,JS _ _ hw];omega) ?_
 rw[k0];refine Qx (zv:=.agg #[iV 0,iV 0,.slice none 0 0]) S gn rfl (by kernel_rfl) fun b2 g bK S=>?_;refine Qi (n:=3) 0 S gn rfl rfl (QaE (bX _ _ _ aE hv).cellV) (by kernel_rfl) rfl rfl (by decide) rfl (fun g S=>ag0) fun g S=>?_;refine Q0<|Q5<|I9<|I1 rfl<|I6 rfl<|I0 0 rfl<|I0 3 rfl<|I4 rfl (S.old0 hq cM) rfl<|I0 0 rfl<|I4 rfl (S.cel 0 rfl) rfl ?_;rw[cG];refine I5o 4 rfl rfl ?_;rw[<-cG];refine I0 3 rfl<|I4 rfl (S.old0 gu gM) kf<|I0 1 rfl<|I4 rfl (S.cel 0 rfl) rfl<|I5o 8 rfl rfl<|I3 8 rfl (S.old0 nW cK) (by omega) ?_
 rw[nz];refine Qi (n:=8) 1 S gn rfl rfl (by kernel_rfl) (by kernel_rfl) rfl rfl (by decide) rfl (fun g S=>ag0) fun g S=>?_;refine Q0<|Q8 ?_;refine⟨.inl rfl,_,(Zn rfl (by kernel_rfl) (by kernel_rfl) (S.cel 1 rfl) rfl rfl),?_⟩;exact⟨⟨_,ln,rfl,fM⟩,S.e0⟩
end
theorem QcK {x:Ins} {lv:Value} {ln:Int} (k:cellV lv=true):([iV x.op,iV x.a,iV x.b,iV x.c,iV x.n,lv,iV x.site,iV ln]:List Value).all cellV=true:=by
 simp only[v1e,List.all_nil,k,v1k];rfl
theorem Qc5 {h:Hp} {v:Value} {xs:List Value} (x:RowV h v xs):cellV v=true:=by
 obtain⟨a,c,rfl⟩:=x.val;rfl
theorem QdN {o:Int} {b:Bool} (h:(((decide (o=9)||decide (o=23))||decide (o=24))||decide (o=28))=b):(o=9\/o=23\/o=24\/o=28)↔b=true:=by
 rw[<-h];simp only[v0K,decide_eq_true_eq,or_assoc]
section
variable {h0 h:Hp} {P:Prg} {V:PrV} {tb:Nat} {T:MThr} {bs:List Nat} {w:ThW}
theorem m91 {k:Nat} (S0:SH h0 [] (thL tb (pvL P V) T w) h) (hw:w.vs.length=T.F.length) (hT:Kl P T) (hk:k <T.F.length) (hc: ∀x,x∈T.F->x.at'<=1000000):C modE 111 [Qk tb,iV k] h fun _ g'=>SH h (owns (thL tb (pvL P V) T w)) (thL tb (pvL P V) (onT T k) w) g':=by
 have SE:=S0.enterL;have h32:=hT.1;obtain⟨a,c,fN⟩:=Q6 (SE.sl 1 rfl);have dp:=SE.cel 0 rfl;rw[fN]at dp;have aq:=SE.sl 1 rfl;rw[fN]at aq;obtain⟨b,r,m,rfl,bC,j7,_⟩:=Q8K aq (by omega);obtain⟨x,hx⟩: ∃x,T.F[T.F.length -1 -k]?=some x:=⟨_,v0c (by omega)⟩;obtain⟨v,hv⟩: ∃v,w.vs[T.F.length -1 -k]?=some v:=⟨_,v0c (by omega)⟩;have gL:v0f ((T.F.length:Int) -1 -k)=T.F.length -1 -k:=by omega
 have k0:(frC T.F w.vs++r)[0+v0f ((T.F.length:Int) -1 -k)*3+1]?=some (iV x.at'):=by rw[gL,v0e];exact Qs (Q0k _ _ _ _ _ _ hx hv) (by omega) rfl
 have cn:=(hT.2 x (v0m hx)).a0;have je:=hc x (v0m hx);refine Q9 (fu:=Tryz.f111) (by kernel_rfl) rfl ?_;have S:=SE;refine I9<|I1 rfl<|I6 rfl<|I0 8 rfl<|I4 rfl dp rfl<|I1 rfl<|I6 rfl<|I0 8 rfl<|I4 rfl dp rfl<|I7 rfl<|Iso rfl rfl<|I1 rfl<|Iso rfl rfl<|I5o 3 rfl rfl<|I0 1 rfl<|I4 rfl bC k0 ?_;refine Iao rfl rfl<|I5o 3 rfl rfl<|I0 1 rfl<|Zm 1 S gn rfl rfl rfl (by kernel_rfl) rfl fN (by rw[JS _ _ hw];omega) (fun g S=>ag0) fun g S=>?_;refine Q0 ?_
 refine⟨.inr rfl,_,rfl,?_⟩
 exact(by
  rw[gL,QbT hw]at S
  unfold onT;rw[Qf9 hx];exact S)
theorem m97 {n:Int} (S0:SH h0 [] [thR tb (pvL P V) T bs] h) (X0:Q1m h0 P V) (hM:ZL P=true) (hT:Kl P T):C modE 117 [Qk tb,iV n] h fun v g'=>v=iV (if Q0q P T=true then 0 else 13)/\ ∃aa,SH h bs [thR tb (pvL P V) (Q1t P T n) aa] g':=by
 have SE:=S0.enter
 have gi:Yc T=false->0 <T.F.length:=fun h=>by
  unfold Yc at h;simp at h;exact Nat.pos_of_ne_zero fun e=>h.1 (List.eq_nil_of_length_eq_zero e)
 refine Q9 (fu:=Tryz.f117) (by kernel_rfl) rfl ?_;have S:=SE;refine Q7<|I2 rfl<|Q0<|ZF [(0,Qk tb),(1,iV n)] (fun lv hh=>lv=[]/\SH h bs [thR tb (pvL P V) T bs] hh/\Q0q P T=true) ?_ fun lv hh hJ=>?_
 · skip
   refine Q7<|I1 rfl<|Ic [_] rfl rfl (Ql (m79 (S.held 0 rfl)) ⟨ag0,?_⟩);refine I1 rfl<|ZX (dc:=8) rfl (fun gz=>?_) fun gz=>?_
   · skip
     refine ZY (n:=5) (dc:=8) (w:=false) rfl gz rfl<|IT rfl gz rfl<|Q0<|Q2 rfl (fun hb=>?_) fun hb=>?_
     · skip
       refine Q7<|I2 rfl<|Q0<|Q8 ?_;refine⟨.inl rfl,_,rfl,?_⟩
       exact⟨by
        have:Q0q P T=false:=by unfold Q0q;rw[show Yc T=true from gz];rfl
        rw[this];rfl,by
        have:Q0q P T=false:=by unfold Q0q;rw[show Yc T=true from gz];rfl
        unfold Q1t;rw[this];exact⟨bs,S⟩⟩
     exact absurd hb (by decide)
   refine D1 gz rfl<|Dc gz [_] rfl rfl (C.mono (m73 (X0.ext (S0.all0 S0.own0 S)) (S.held 0 rfl) hT (gi gz)) ?_);rintro v g ⟨⟨lv1,ln1,rfl,m8⟩,x⟩;have S:=S.grow x;refine⟨ag0,?_⟩;refine Q9O (v:=iV (Qa P T).op) (gy rfl rfl rfl gz) rfl rfl (by kernel_rfl)<|Dc gz [_] rfl rfl (Ql (m84) ⟨ag0,?_⟩);refine Db gz rfl<|Iu rfl gz rfl<|Q0<|Q2 rfl (fun hb=>?_) fun hb=>?_
   · skip
     refine Q7<|I2 rfl<|Q0<|Q8 ?_;refine⟨.inl rfl,_,rfl,?_⟩
     exact⟨by
      have:Q0q P T=false:=by
       unfold Q0q;have h2:K0 (Qa P T).op=false:=by simpa using hb
       rw[h2,v0Y]
      rw[this];rfl,by
      have:Q0q P T=false:=by
       unfold Q0q;have h2:K0 (Qa P T).op=false:=by simpa using hb
       rw[h2,v0Y]
      unfold Q1t;rw[this];exact⟨bs,S⟩⟩
   refine Q4 ?_
   exact Zr [] (p:=⟨rfl,S,by
    have h2:K0 (Qa P T).op=true:=by simpa using hb
    unfold Q0q;rw[show Yc T=false from gz,h2];rfl⟩)
 obtain⟨rfl,S,nK⟩:=hJ
 have aW:Yc T=false:=by
  unfold Q0q at nK;cases e:Yc T with
  |false=>rfl
  |true=>rw[e]at nK;cases nK
 have hl:=gi aW;have dz:T.F.length<=32:=hT.1;refine Q7<|I1 rfl<|Ic [_] rfl rfl (C.mono (m73 (X0.ext (S0.all0 S0.own0 S)) (S.held 0 rfl) hT hl) ?_);rintro v g ⟨⟨lv1,ln1,rfl,m8⟩,x⟩;have S:=S.grow x;refine⟨ag0,?_⟩;refine Qx (zv:=.agg #[iV 0,iV 0,iV 0,iV 0,iV 0,.slice none 0 0,iV 0,iV 0]) S gn rfl (by kernel_rfl) fun b1 g aJ S=>?_;refine Qi (n:=8) 0 S gn rfl rfl (QcK (Qc5 m8)) (by kernel_rfl) rfl rfl (by decide) rfl (fun g S=>ag0) fun g S=>?_;have S:SH h bs ([cR b1 (.cells [iV (Qa P T).op,iV (Qa P T).a,iV (Qa P T).b,iV (Qa P T).c,iV (Qa P T).n,lv1,iV (Qa P T).site,iV ln1] 76 0)]++[thR tb (pvL P V) T bs]) g:=S
 obtain⟨w,hw,aj,S⟩:=Q98 S;refine Q0<|ZF [(0,Qk tb)] (fun lv hh=>lv=[]/\SH h bs (thL tb (pvL P V) (if(Qa P T).op=9\/(Qa P T).op=23\/(Qa P T).op=24\/(Qa P T).op=28 then setT T (Qa P T).a n else T) w) hh) ?_ fun lv hh hJ=>?_
 · skip
   refine Q7<|I0 0 rfl<|I4 rfl (S.cel 0 rfl) rfl<|Ie rfl rfl<|I1 rfl ?_
   refine Z4 (n:=3) rfl rfl rfl gn rfl (fun hb=>by
    refine D0 0 hb rfl<|D4 hb rfl (S.cel 0 rfl) rfl<|De hb rfl rfl ?_
    exact Q0 ⟨rfl,rfl,3,rfl,rfl⟩) ?_
   refine I1 rfl ?_
   refine Z4 (n:=3) rfl rfl rfl gn rfl (fun hb=>by
    refine D0 0 hb rfl<|D4 hb rfl (S.cel 0 rfl) rfl<|De hb rfl rfl ?_
    exact Q0 ⟨rfl,rfl,3,rfl,rfl⟩) ?_
   refine I1 rfl ?_
   refine Z4 (n:=3) rfl rfl rfl gn rfl (fun hb=>by
    refine D0 0 hb rfl<|D4 hb rfl (S.cel 0 rfl) rfl<|De hb rfl rfl ?_
    exact Q0 ⟨rfl,rfl,3,rfl,rfl⟩) ?_
   refine Q0<|Q2 rfl (fun hb=>?_) fun hb=>?_
   · skip
     have aD:=Q7V hM (hT.2 _ (ZZ hl));have dj:=(QdN rfl).2 hb;have ha:=Q08 aD (by rcases dj with e|e|e|e<;>(rw[show(Q0Z P (Qv T).fn (Qv T).at').op=_ from e];decide));obtain⟨a,c,fN⟩:=Q6 (S.sl 2 rfl);have dp:=S.cel 1 rfl;rw[fN]at dp;have aq:=S.sl 2 rfl;rw[fN]at aq;obtain⟨b,r,m,rfl,bC,j7,_⟩:=Q8K aq hl;have aE:=Ya hl;obtain⟨v,hv⟩: ∃v,w.vs[T.F.length -1]?=some v:=⟨_,v0c (by omega)⟩;have gL:v0f ((T.F.length:Int) -1)=T.F.length -1:=by omega
     have bm:=(hT.2 _ (ZZ hl)).r
     have ha':0<=(Qa P T).a/\(Qa P T).a <((isV (Qv T).regs).length:Nat):=by
      rw[v0v,bm];exact ha
     have aF:([cR b1 (.cells [iV (Qa P T).op,iV (Qa P T).a,iV (Qa P T).b,iV (Qa P T).c,iV (Qa P T).n,lv1,iV (Qa P T).site,iV ln1] 76 0)]++thL tb (pvL P V) T w)[2+(T.F.length -1)+1]?=some (slR 2 0 v.1 (isV (Qv T).regs) (Qv T).regs.length v.2):=Q2X aE hv;obtain⟨b2,c2,dT,_,hcl2⟩:=Q03 (S.sl _ aF) (by omega);have k0:(frC T.F w.vs++r)[0+v0f ((T.F.length:Int) -1)*3+2]?=some v.1:=by rw[gL,v0e];exact Qs (Q0k _ _ _ _ _ _ aE hv) (by omega) rfl
     refine I9<|I1 rfl<|I6 rfl<|I0 8 rfl<|I4 rfl dp rfl<|I1 rfl<|I6 rfl<|I0 8 rfl<|I4 rfl dp rfl<|I7 rfl<|Iso rfl rfl<|I5o 3 rfl rfl<|I0 2 rfl<|I4 rfl bC k0<|I0 1 rfl<|I4 rfl (S.cel 0 rfl) rfl ?_;refine I1 rfl ?_;rw[dT];refine I5o 1 rfl rfl ?_;rw[<-dT];refine Zm (2+(T.F.length -1)+1) S gn rfl rfl rfl (by kernel_rfl) aF dT (by omega) (fun g S=>ag0) fun g S=>?_;refine Q0 ?_
     exact Zr [] (p:=⟨rfl,by
      have S2:SH h bs (cR b1 _::(thL tb (pvL P V) T w).set (2+(T.F.length -1)) _) g:=S;have S3:=S2.drop;rw[Q1O aE hv]at S3
      rw[if_pos dj];exact S3⟩)
   refine Q4 ?_
   exact Zr [] (p:=⟨rfl,by
    rw[if_neg (by rw[QdN rfl,hb];decide)];exact SH.drop S⟩)
 obtain⟨rfl,S⟩:=hJ;refine Q5 ?_
 have cz: ∃T1,T1=(if(Qa P T).op=9\/(Qa P T).op=23\/(Qa P T).op=24\/(Qa P T).op=28 then setT T (Qa P T).a n else T)/\Kl P T1/\T1.F.length=T.F.length:=by
  refine⟨_,rfl,?_⟩
  split
  · exact Q04 hT
  exact⟨hT,rfl⟩
 obtain⟨T1,e1,cz,lP⟩:=cz;rw[<-e1]at S;refine Q3 (by kernel_rfl)<|I1 rfl ?_;refine QZ [_,_] gn rfl rfl (by kernel_rfl) rfl (C.mono (m91 (k:=0) (SH.subL0 S0 S0.own0 S) (by rw[lP];exact hw) cz (by omega) (fun x hx=>(Kx hM (cz.2 x hx)).1)) ?_);intro v g S2;have S:=SH.retL0 S S2;refine⟨ag0,?_⟩;refine QP<|I2 rfl<|Q0<|Q8 ?_;refine⟨.inl rfl,_,rfl,?_⟩
 exact⟨by rw[nK];rfl,by
  unfold Q1t;rw[if_pos nK,<-e1]
  exact Q99 S (by unfold onT;show w.vs.length=(Qfa _ _).length;rw[Q4b,lP];exact hw)⟩
end
abbrev YD (a:MAsk) (sv:Value):List Value:=[iV a.op,iV a.site,iV a.n,iV a.v,iV a.looper,sv]
abbrev askV (a:MAsk) (sv:Value):Value:=.agg #[iV a.op,iV a.site,iV a.n,iV a.v,iV a.looper,sv]
section
variable {h0 h:Hp} {P:Prg} {V:PrV} {tb:Nat} {x:Ins} {sv rv:Value} {ln:Int} {R:List Int}
theorem or3 {o a b c:Int} {r:Bool} (h:((decide (o=a)||decide (o=b))||decide (o=c))=r):(o=a\/o=b\/o=c)↔r=true:=by
 rw[<-h];simp only[v0K,decide_eq_true_eq,or_assoc]
theorem or2 {o a b:Int} {r:Bool} (h:(decide (o=a)||decide (o=b))=r):(o=a\/o=b)↔r=true:=by
 rw[<-h];simp only[v0K,decide_eq_true_eq]
theorem or4 {o a b c d:Int} {r:Bool} (h:(((decide (o=a)||decide (o=b))||decide (o=c))||decide (o=d))=r):(o=a\/o=b\/o=c\/o=d)↔r=true:=by
 rw[<-h];simp only[v0K,decide_eq_true_eq,or_assoc]
theorem m85 {F:Fun} (hr:RowV h rv (isV R)) (hR:(R.length:Int)=F.regs) (hl:cellV sv=true) (hi:Z0 P F x=true):C modE 105 [Qk tb,Qf6 x sv ln,rv] h fun v g'=>v=askV (Q4u x R) (.slice none 0 0)/\Ext h g':=by
 obtain⟨ra,rc,rfl⟩:=hr.valM
 have aP:0 <R.length-> ∃b o cs e m,ra=some ⟨b,o,none⟩/\h.get b=some (.cells cs e m)/\b <h.n/\ ∀a:Int,0<=a->a <R.length->cs[o+v0f a*1]?=some (iV (reg R a)):=fun hp=>by
  obtain⟨b,o,c,cs,e,m,hv,hg,hb,hc⟩:=hr.atM hp;refine⟨b,o,cs,e,m,by injection hv,hg,hb,fun a h0 h1=>?_⟩;rw[v0A,hc _ (by omega)];unfold reg;rw[v0c (by omega)];rfl
 refine YW (fu:=Tryz.f105) (by kernel_rfl) rfl ?_;have S:=SH.start h;refine Q7 ?_;refine Z9 S gn rfl rfl fun b1 g aJ S=>?_;refine Qx (zv:=.agg #[iV 0,iV 0,iV 0,iV 0,iV 0,.slice none 0 0]) S gn rfl (by kernel_rfl) fun b2 g bK S=>?_;refine QP<|I0 0 rfl<|I4 rfl (S.cel 1 rfl) rfl<|I0 6 rfl<|I4 rfl (S.cel 1 rfl) rfl<|I0 4 rfl<|I4 rfl (S.cel 1 rfl) rfl<|Qq (zv:=.agg #[iV 0,iV 0,iV 0,iV 0,iV 0,.slice none 0 0]) (pl:=[(0,1),(1,1),(2,1),(3,1),(4,1),(5,1)]) [(0,_),(1,_),(2,_)] gn rfl (by kernel_rfl) (by kernel_rfl) rfl (by rfl) ?_
 refine Qx (zv:=.agg #[iV 0,iV 0,iV 0,iV 0,iV 0,.slice none 0 0]) S gn rfl (by kernel_rfl) fun b3 g fV S=>?_;refine Qi (n:=6) 0 S gn rfl rfl (by kernel_rfl) (by kernel_rfl) rfl rfl (by decide) rfl (fun g S=>ag0) fun g S=>?_;refine Q0 ?_;have S:SH h [] [cR b3 (.cells [iV x.op,iV x.site,iV x.n,iV 0,iV 0,.slice none 0 0] 202 0),cR b2 (.cells [iV 0,iV 0,iV 0,iV 0,iV 0,.slice none 0 0] 202 0),cR b1 (.cells [iV x.op,iV x.a,iV x.b,iV x.c,iV x.n,sv,iV x.site,iV ln] 76 0)] g:=S
 refine ZF [(2,.slice ra R.length rc),(4,Qk b1),(6,Qk b2),(7,Qk b3)] (fun lv hh=>lv=[]/\SH h [] [cR b3 (.cells [iV x.op,iV x.site,iV x.n,iV (if x.op=23\/x.op=24\/x.op=28 then reg R x.b else 0),iV (0),.slice none 0 0] 202 0),cR b2 (.cells [iV 0,iV 0,iV 0,iV 0,iV 0,.slice none 0 0] 202 0),cR b1 (.cells [iV x.op,iV x.a,iV x.b,iV x.c,iV x.n,sv,iV x.site,iV ln] 76 0)] hh) ?_ fun lv hh hJ=>?_
 · skip
   refine Q7<|I0 0 rfl<|I4 rfl (S.cel 2 rfl) rfl<|Ie rfl rfl<|I1 rfl ?_
   refine Z4 (n:=3) rfl rfl rfl gn rfl (fun hb=>by
    refine D0 0 hb rfl<|D4 hb rfl (S.cel 2 rfl) rfl<|De hb rfl rfl ?_
    exact Q0 ⟨rfl,rfl,3,rfl,rfl⟩) ?_
   refine I1 rfl ?_
   refine Z4 (n:=3) rfl rfl rfl gn rfl (fun hb=>by
    refine D0 0 hb rfl<|D4 hb rfl (S.cel 2 rfl) rfl<|De hb rfl rfl ?_
    exact Q0 ⟨rfl,rfl,3,rfl,rfl⟩) ?_
   refine Q0<|Q2 rfl (fun hb=>?_) fun hb=>?_
   · skip
     refine Q3 (by kernel_rfl)<|I1 rfl<|I0 2 rfl<|I4 rfl (S.cel 2 rfl) rfl ?_
     have hx:0<=x.b/\x.b <R.length:=by
      rw[hR];exact Q21 hi (by rcases (or3 rfl).2 hb with e|e|e<;>(rw[e];decide))
     obtain⟨b,o,cs,e,m,rfl,hg,ai,hc⟩:=aP (by omega);refine I5o 1 rfl rfl<|I4 rfl (S.old0 hg ai) (hc _ hx.1 hx.2)<|I0 3 rfl ?_;refine Qg 0 S gn rfl rfl rfl (by kernel_rfl) rfl (by decide) (by simp) (fun g S=>ag0) fun g S=>?_;refine Q0 ?_;exact Zr [] (p:=⟨rfl,by rw[if_pos ((or3 rfl).2 hb)];exact S⟩)
   refine Q4 ?_;exact Zr [] (p:=⟨rfl,by rw[if_neg (fun e=>v1M (((or3 rfl).1 e).symm.trans hb))];exact S⟩)
 obtain⟨rfl,S⟩:=hJ;refine ZF [(2,.slice ra R.length rc),(4,Qk b1),(6,Qk b2),(7,Qk b3)] (fun lv hh=>lv=[]/\SH h [] [cR b3 (.cells [iV x.op,iV x.site,iV x.n,iV (if x.op=23\/x.op=24\/x.op=28 then reg R x.b else 0),iV (if x.op=23\/x.op=24 then x.c else 0),.slice none 0 0] 202 0),cR b2 (.cells [iV 0,iV 0,iV 0,iV 0,iV 0,.slice none 0 0] 202 0),cR b1 (.cells [iV x.op,iV x.a,iV x.b,iV x.c,iV x.n,sv,iV x.site,iV ln] 76 0)] hh) ?_ fun lv hh hJ=>?_
 · skip
   refine Q7<|I0 0 rfl<|I4 rfl (S.cel 2 rfl) rfl<|Ie rfl rfl<|I1 rfl ?_
   refine Z4 (n:=3) rfl rfl rfl gn rfl (fun hb=>by
    refine D0 0 hb rfl<|D4 hb rfl (S.cel 2 rfl) rfl<|De hb rfl rfl ?_
    exact Q0 ⟨rfl,rfl,3,rfl,rfl⟩) ?_
   refine Q0<|Q2 rfl (fun hb=>?_) fun hb=>?_
   · skip
     refine Q3 (by kernel_rfl)<|I0 3 rfl<|I4 rfl (S.cel 2 rfl) rfl<|I0 4 rfl ?_;refine Qg 0 S gn rfl rfl rfl (by kernel_rfl) rfl (by decide) (by simp) (fun g S=>ag0) fun g S=>?_;refine Q0 ?_;exact Zr [] (p:=⟨rfl,by rw[if_pos ((or2 rfl).2 hb)];exact S⟩)
   refine Q4 ?_;exact Zr [] (p:=⟨rfl,by rw[if_neg (fun e=>v1M (((or2 rfl).1 e).symm.trans hb))];exact S⟩)
 obtain⟨rfl,S⟩:=hJ;refine ZF [(6,Qk b2),(7,Qk b3)] (fun lv hh=>lv=[]/\SH h [] [cR b3 (.cells [iV x.op,iV x.site,iV x.n,iV (if x.op=10\/x.op=25\/x.op=29\/x.op=30 then reg R x.a else if x.op=23\/x.op=24\/x.op=28 then reg R x.b else 0),iV (if x.op=23\/x.op=24 then x.c else 0),.slice none 0 0] 202 0),cR b2 (.cells [iV 0,iV 0,iV 0,iV 0,iV 0,.slice none 0 0] 202 0),cR b1 (.cells [iV x.op,iV x.a,iV x.b,iV x.c,iV x.n,sv,iV x.site,iV ln] 76 0)] hh) ?_ fun lv hh hJ=>?_
 · skip
   refine Q7<|I0 0 rfl<|I4 rfl (S.cel 2 rfl) rfl<|Ie rfl rfl<|I1 rfl ?_
   refine Z4 (n:=3) rfl rfl rfl gn rfl (fun hb=>by
    refine D0 0 hb rfl<|D4 hb rfl (S.cel 2 rfl) rfl<|De hb rfl rfl ?_
    exact Q0 ⟨rfl,rfl,3,rfl,rfl⟩) ?_
   refine I1 rfl ?_
   refine Z4 (n:=3) rfl rfl rfl gn rfl (fun hb=>by
    refine D0 0 hb rfl<|D4 hb rfl (S.cel 2 rfl) rfl<|De hb rfl rfl ?_
    exact Q0 ⟨rfl,rfl,3,rfl,rfl⟩) ?_
   refine I1 rfl ?_
   refine Z4 (n:=3) rfl rfl rfl gn rfl (fun hb=>by
    refine D0 0 hb rfl<|D4 hb rfl (S.cel 2 rfl) rfl<|De hb rfl rfl ?_
    exact Q0 ⟨rfl,rfl,3,rfl,rfl⟩) ?_
   refine Q0<|Q2 rfl (fun hb=>?_) fun hb=>?_
   · skip
     refine Q3 (by kernel_rfl)<|I1 rfl<|I0 1 rfl<|I4 rfl (S.cel 2 rfl) rfl ?_
     have hx:0<=x.a/\x.a <R.length:=by
      rw[hR];exact Q08 hi (by rcases (or4 rfl).2 hb with e|e|e|e<;>(rw[e];decide))
     obtain⟨b,o,cs,e,m,rfl,hg,ai,hc⟩:=aP (by omega);refine I5o 1 rfl rfl<|I4 rfl (S.old0 hg ai) (hc _ hx.1 hx.2)<|I0 3 rfl ?_;refine Qg 0 S gn rfl rfl rfl (by kernel_rfl) rfl (by decide) (by simp) (fun g S=>ag0) fun g S=>?_;refine Q0 ?_;exact Zr [] (p:=⟨rfl,by rw[if_pos ((or4 rfl).2 hb)];exact S⟩)
   refine Q4 ?_;exact Zr [] (p:=⟨rfl,by rw[if_neg (fun e=>v1M (((or4 rfl).1 e).symm.trans hb))];exact S⟩)
 obtain⟨rfl,S⟩:=hJ;refine Q7<|I3 6 rfl (S.cel 0 rfl) (v0b _) ?_;refine Qi (n:=6) 1 S gn rfl rfl (by kernel_rfl) (by kernel_rfl) rfl rfl (by decide) rfl (fun g S=>ag0) fun g S=>?_;refine Q0<|Q8 ?_;refine⟨.inl rfl,_,(Zn rfl (by kernel_rfl) (by kernel_rfl) (S.cel 1 rfl) rfl rfl),?_⟩;exact⟨rfl,S.e0⟩
theorem QcU {l:List Int} {n i:Nat} (hi:i <l.length) (hn:l.length<=n):(l.take i++v0o (n -i) 0).set i l[i]=l.take (i+1)++v0o (n - (i+1)) 0:=by
 rw[List.set_append_right _ _ (by rw[v0E];omega),v0E,Nat.min_eq_left (by omega),Nat.sub_self,show n -i=(n - (i+1))+1 by omega,List.replicate_succ,List.set_cons_zero,v0Z,v0c hi];show _=(List.take i l++[l[i]])++_;rw[v0F];rfl
theorem Qeh {R:List Int} {ra:Option Addr} {rc:Nat} (hr:RowV h (.slice ra R.length rc) (isV R)):0 <R.length-> ∃b o cs e m,ra=some ⟨b,o,none⟩/\h.get b=some (.cells cs e m)/\b <h.n/\ ∀a:Int,0<=a->a <R.length->cs[o+v0f a*1]?=some (iV (reg R a)):=fun hp=>by
 obtain⟨b,o,c,cs,e,m,hv,hg,hb,hc⟩:=hr.atM hp;refine⟨b,o,cs,e,m,by injection hv,hg,hb,fun a h0 h1=>?_⟩;rw[v0A,hc _ (by omega)];unfold reg;rw[v0c (by omega)];rfl
theorem Qen (X:Q1m h P V):sameV 20 (.agg (pvL P V).toArray) (.agg (pvL P V).toArray)=true:=by
 obtain⟨⟨oa,oc,e1⟩,⟨ca,cc,e2⟩,⟨ga,gc,e3⟩,⟨fa,fc,e4⟩,⟨pa,pc,e5⟩,⟨ea,ec,e6⟩,⟨sa,sc,e7⟩⟩:=X.vals;unfold pvL;rw[e1,e2,e3,e4,e5,e6,e7];cases oa<;>cases ca<;>cases ga<;>cases fa<;>cases pa<;>cases ea<;>cases sa<;>simp[sameV,sameV.sameL,Zc]
theorem m70 {f:Int} {cells:List Int} {cv:Value} (X:Q1m h P V) (hM:ZL P=true) (f0:0<=f) (f1:f <P.funs.length) (hc:RowV h cv (isV cells)) (hl:(cells.length:Int)<=(Qt P f).regs):C modE 85 [.agg (pvL P V).toArray,iV f,cv] h fun v g'=> ∃rv rb,v=.agg #[iV f,iV 0,rv]/\SH h [] [slR 2 0 rv (isV (Yd P f cells).regs) (Yd P f cells).regs.length rb] g':=by
 obtain⟨ca,cc,rfl⟩:=hc.valM;have aP:=Qeh hc;have cg:=Yz hM f0 f1;obtain⟨fb,fo,fc,fcs,fe,fm,cG,gu,gM,hfn,s,cv,iw,ew⟩:=PrgAt.fun X f0 f1;have kf:fcs[fo+v0f f*4+2]?=some (iV (Qt P f).regs):=Qs iw (by omega) rfl
 have dy:(Yd P f cells).regs.length=(Qt P f).regs.toNat:=by
  show(cells++v0o ((Qt P f).regs.toNat -cells.length) 0).length=_;simp;omega
 generalize hn:(Qt P f).regs.toNat=n at dy;have hn':(Qt P f).regs=n:=by omega
 rw[hn']at kf;have cK:cells.length<=n:=by omega
 refine YW (fu:=Tryz.f85) (by kernel_rfl) rfl ?_;have S:=SH.start h;refine Q7 ?_;refine Z9 S gn rfl rfl fun b1 g aJ S=>?_;refine Qx (zv:=.agg #[iV 0,iV 0,.slice none 0 0]) S gn rfl (by kernel_rfl) fun b2 g bK S=>?_;refine QP<|I1 rfl<|I0 3 rfl<|I4 rfl (S.cel 1 rfl) rfl<|I1 rfl ?_;rw[cG];refine I5o 4 rfl rfl ?_;rw[<-cG];refine I0 2 rfl<|I4 rfl (S.old0 gu gM) kf ?_;refine JC (e:=2) (z:=0) (zv:=.int .i64 0) (by':=8) S gn rfl rfl rfl (by kernel_rfl) (by kernel_rfl) (by kernel_rfl) (by kernel_rfl) (by decide) (by omega) (by omega) (by omega) (by omega) fun b3 g fV S=>?_
 have S:=S.toSl (z:=0) (n:=n) 0 rfl (.inl rfl) (by rw[show(Value.int .i64 0).cells.toList=[iV 0] from rfl,Q33];simp);rw[show(Value.int .i64 0).cells.toList=[iV 0] from rfl,Q33]at S;refine Qq (zv:=.agg #[iV 0,iV 0,.slice none 0 0]) (pl:=[(0,1),(1,1),(2,1)]) [(0,_),(2,_)] gn rfl (by kernel_rfl) (by kernel_rfl) rfl (by rfl) ?_;refine Qx (zv:=.agg #[iV 0,iV 0,.slice none 0 0]) S gn rfl (by kernel_rfl) fun b4 g jL S=>?_;refine Qi (n:=3) 0 S gn rfl rfl (by kernel_rfl) (by kernel_rfl) rfl rfl (by decide) rfl (fun g S=>ag0) fun g S=>?_;refine Q0<|Q5<|Q5 ?_
 have S:SH h [] [cR b4 (.cells [iV f,iV 0,.slice (some ⟨b3,0,none⟩) n n] 192 0),slR 2 0 (.slice (some ⟨b3,0,none⟩) n n) (isV (v0o n 0)) n [b3],cR b2 (.cells [iV 0,iV 0,.slice none 0 0] 192 0),cR b1 (.cells (pvL P V) 30 0)] g:=S;refine Q3 (by kernel_rfl)<|I2 rfl<|Q0<|Qb ?_
 refine QB [(8,_)] [(2,_),(6,_),(7,_)] (fun kk lv hh=> ∃i:Nat,lv=[(8,iV i)]/\kk=cells.length -i/\i<=cells.length/\SH h [] [cR b4 (.cells [iV f,iV 0,.slice (some ⟨b3,0,none⟩) n n] 192 0),slR 2 0 (.slice (some ⟨b3,0,none⟩) n n) (isV (cells.take i++v0o (n -i) 0)) n [b3],cR b2 (.cells [iV 0,iV 0,.slice none 0 0] 192 0),cR b1 (.cells (pvL P V) 30 0)] hh) (n:=cells.length) ?_ fun kk lv hh hI=>?_
 · exact⟨0,rfl,rfl,v0s _,by simpa using S⟩
 obtain⟨i,rfl,iS,hi,S⟩:=hI;refine Q5<|Q7<|I1 rfl<|I1 rfl<|I7 rfl<|Il rfl rfl<|Q0<|Q2 rfl (fun hb=>?_) fun hb=>?_
 · skip
   refine Q4 ?_;have hi:i <cells.length:=by simp at hb;omega
   obtain⟨b,o,cs,e,m,rfl,hg,ai,hc⟩:=aP (by omega);have kc:=hc i (by omega) (by omega);have ei:reg cells i=cells[i]:=by unfold reg;rw[v0i,v0c hi];rfl
   refine Q5<|Qb<|I9<|I0 2 rfl<|I4 rfl (S.cel 0 rfl) rfl<|I1 rfl<|I1 rfl<|I1 rfl<|I5o 1 rfl rfl<|I4 rfl (S.old0 hg ai) kc<|I5o 1 rfl rfl<|Zm 1 S gn rfl rfl rfl (by kernel_rfl) rfl rfl (by simp;omega) (fun g S=>ag0) fun g S=>?_;refine Q0<|Q3 (by kernel_rfl)<|I1 rfl<|Iao rfl rfl<|I2 rfl<|Q0 ?_
   exact K3 (cells.length - (i+1)) [(8,_)] (p:=⟨i+1,rfl,rfl,by omega,by
    have e:(isV (cells.take i++v0o (n -i) 0)).set (0+v0f (i:Int)*1) (iV (reg cells i))=isV (cells.take (i+1)++v0o (n - (i+1)) 0):=by
     rw[v0i,v0e,v0A,KX,ei,QcU hi cK]
    rw[<-e];exact S⟩)
 refine QF<|Qh<|Qn<|QE ?_;obtain rfl:i=cells.length:=by simp at hb;omega
 rw[v09]at S;refine Q7<|I3 3 rfl (S.cel 0 rfl) (v0b _) ?_;refine Qi (n:=3) 2 S gn rfl rfl (by kernel_rfl) (by kernel_rfl) rfl rfl (by decide) rfl (fun g S=>ag0) fun g S=>?_;refine Q0<|Q8 ?_;refine⟨.inl rfl,_,(Zn rfl (by kernel_rfl) (by kernel_rfl) (S.cel 2 rfl) rfl rfl),?_⟩
 exact⟨.slice (some ⟨b3,0,none⟩) n n,[b3],rfl,by
  rw[dy];show SH h [] [slR 2 0 (.slice (some ⟨b3,0,none⟩) n n) (isV (cells++v0o ((Qt P f).regs.toNat -cells.length) 0)) n [b3]] _;rw[hn]
  exact S.pick 1 rfl⟩
theorem m49 {f:Int} {cells:List Int} {cv:Value} (X:Q1m h P V) (hM:ZL P=true) (f0:0<=f) (f1:f <P.funs.length) (hc:RowV h cv (isV cells)) (hl:(cells.length:Int)=(Qt P f).caps):C modE 54 [.agg (pvL P V).toArray,iV f,cv] h fun v g'=> ∃tb bs,v=.tuple #[Qk tb,iV 0]/\SH h [] [thR tb (pvL P V) ⟨[Yd P f cells],0⟩ bs] g':=by
 obtain⟨ca,cc,rfl⟩:=hc.valM;have cg:=Yz hM f0 f1;obtain⟨fb,fo,fc,fcs,fe,fm,cG,gu,gM,hfn,s,cv,iw,ew⟩:=PrgAt.fun X f0 f1;have kf:fcs[fo+v0f f*4+1]?=some (iV (Qt P f).caps):=Qs iw (by omega) rfl;have aD:inB f P.funs.length=true:=Z5.2 ⟨f0,f1⟩;refine Q9 (fu:=Tryz.f54) (by kernel_rfl) rfl ?_;have S:=SH.start h;refine Q7 ?_;refine Z9 S gn rfl rfl fun b1 g aJ S=>?_;have S:SH h [] [cR b1 (.cells (pvL P V) 30 0)] g:=S;refine I2 rfl<|I2 rfl<|Z8<|I1 rfl<|I0 3 rfl<|I4 rfl (S.cel 0 rfl) rfl ?_;rw[cG];refine I7 rfl ?_;rw[<-cG];refine Ic [_,_] rfl rfl (Ql (c18) ⟨ag0,?_⟩)
 refine Ib rfl<|I1 rfl ?_
 refine Z4 (n:=9) rfl rfl rfl gn rfl (fun hb=>by
  refine D1 hb rfl<|D7 hb rfl<|D0 3 hb rfl<|D4 hb rfl (S.cel 0 rfl) rfl<|D1 hb rfl ?_;rw[cG];refine D5o 4 hb rfl rfl ?_;rw[<-cG];refine D0 1 hb rfl<|D4 hb rfl (S.old0 gu gM) kf<|Dn hb rfl rfl ?_
  exact Q0 ⟨rfl,rfl,9,rfl,rfl⟩) ?_
 refine Q0<|Q2 rfl (fun hb=>?_) fun hb=>?_
 · skip
   refine Q7 ?_;rw[aD]at hb;simp at hb;omega
 refine Q4<|Q5<|Yq [(0,[]),(1,[]),(2,[]),(3,[]),(4,[0]),(5,[]),(6,[]),(7,[]),(8,[]),(9,[])] (by kernel_rfl) (by kernel_rfl) (by kernel_rfl) (by kernel_rfl)<|I3 8 rfl (S.cel 0 rfl) (v0b _)<|I3 8 rfl (S.cel 0 rfl) (v0b _)<|I1 rfl<|I1 rfl<|Ic [_,_,_] rfl rfl (C.mono (m70 (X.ext S.e0) hM f0 f1 (hc.ext S.e0) (by omega)) ?_);rintro v g ⟨rv,rb,rfl,S2⟩;have S:=SH.retL (A:=[]) S S2;obtain⟨ra,rc,rfl⟩:=Q6 (S.sl 0 rfl);refine⟨ag1 (Q1H (n:=8) gn rfl (by kernel_rfl) (by kernel_rfl) (S.cel 1 rfl) (v0b _) rfl (Qen X)) ag0,?_⟩
 refine Qc (cs:= #[iV f,iV 0,.slice ra (Yd P f cells).regs.length rc]) (e:=192) (z:=2) (zv:=.agg #[iV 0,iV 0,.slice none 0 0]) [(0,_)] S gn rfl (by kernel_rfl) (by kernel_rfl) (by kernel_rfl) (by kernel_rfl) rfl (by kernel_rfl) fun b2 g bK S=>?_;refine Qq (cs:= #[V.lo,V.cl,V.gl,V.fu,V.co,V.ev,iV P.main,V.si,.slice (some ⟨b2,0,none⟩) 1 1,iV 0]) (zv:=.agg #[.slice none 0 0,.slice none 0 0,.slice none 0 0,.slice none 0 0,.slice none 0 0,.slice none 0 0,iV 0,.slice none 0 0,.slice none 0 0,iV 0]) (pl:=[(0,8),(8,1),(9,1)]) [(0,_),(1,_)] gn rfl (by kernel_rfl) (by kernel_rfl) rfl (by kernel_rfl) ?_;refine Z9 S gn rfl rfl fun b3 g fV S=>?_
 have S:SH h [] [cR b3 (.cells (pvL P V++[.slice (some ⟨b2,0,none⟩) 1 1,iV 0]) 196 0),cR b2 (.cells [iV f,iV 0,.slice ra (Yd P f cells).regs.length rc] 192 0),slR 2 0 (.slice ra (Yd P f cells).regs.length rc) (isV (Yd P f cells).regs) (Yd P f cells).regs.length rb,cR b1 (.cells (pvL P V) 30 0)] g:=S;refine I2 rfl<|I2 rfl<|Q0<|Q8 ?_;refine⟨.inl rfl,_,rfl,?_⟩
 exact⟨b3,by
  have S:=S.toSl (z:=2) (n:=1) 1 rfl (.inl rfl) rfl;have e:thL b3 (pvL P V) ⟨[Yd P f cells],0⟩ ⟨.slice (some ⟨b2,0,none⟩) 1 1,[b2],[(.slice ra (Yd P f cells).regs.length rc,rb)]⟩=[cR b3 (.cells (pvL P V++[.slice (some ⟨b2,0,none⟩) 1 1,iV 0]) 196 0),slR 192 2 (.slice (some ⟨b2,0,none⟩) 1 1) [iV f,iV 0,.slice ra (Yd P f cells).regs.length rc] 1 [b2],slR 2 0 (.slice ra (Yd P f cells).regs.length rc) (isV (Yd P f cells).regs) (Yd P f cells).regs.length rb]:=rfl
  have S3:SH h [] ([cR b3 (.cells (pvL P V++[.slice (some ⟨b2,0,none⟩) 1 1,iV 0]) 196 0),slR 192 2 (.slice (some ⟨b2,0,none⟩) 1 1) [iV f,iV 0,.slice ra (Yd P f cells).regs.length rc] 1 [b2],slR 2 0 (.slice ra (Yd P f cells).regs.length rc) (isV (Yd P f cells).regs) (Yd P f cells).regs.length rb]++[cR b1 (.cells (pvL P V) 30 0)]) g:=S;obtain⟨aa,S4⟩:=Q99 (by rw[e];exact S3.fst) rfl
  exact⟨aa,rfl,S4⟩⟩
end
section
variable {h:Hp} {ra:Option Addr} {n c:Nat} {R:List Int} {vb:List Nat} {x:Ins} {it:Int}
theorem Q2J {a:Int} (x:SlC 2 0 h (.slice ra n c) (isV R) R.length vb) (h0:0<=a) (h1:a <R.length): ∃b cs m,ra=some ⟨b,0,none⟩/\h.get b=some (.cells cs 2 m)/\cs[0+v0f a*1]?=some (iV (reg R a)):=by
 rcases x with⟨_,e,_⟩| ⟨b,m,c',r,e,hg,_⟩
 · cases R with
   |nil=>simp at h1;omega
   |cons _ _=>cases e
 cases e;refine⟨b,_,m,rfl,hg,?_⟩;rw[v0e,v0A,List.getElem?_append_left (by rw[v0v];omega),List.getElem?_map,Q7u h0 h1];rfl
theorem Q4U {a d:Int} (x:SlC 2 0 h (.slice ra n c) (isV R) R.length vb) (h0:0<=a/\a <R.length) (h1:0<=d/\d <R.length): ∃b cs m,ra=some ⟨b,0,none⟩/\h.get b=some (.cells cs 2 m)/\cs[0+v0f a*1]?=some (iV (reg R a))/\cs[0+v0f d*1]?=some (iV (reg R d)):=by
 obtain⟨b,cs,m,rfl,hg,hc⟩:=Q2J x h0.1 h0.2;obtain⟨b',cs',m',e,iu,lZ⟩:=Q2J x h1.1 h1.2;cases e;rw[hg]at iu;cases iu;exact⟨b,cs,m,rfl,hg,hc,lZ⟩
theorem reck1 (h:x.op=1):ZS x R it=some x.n:=by unfold ZS;rw[h];rfl
theorem reck2 (h:x.op=2):ZS x R it=some (reg R x.b):=by unfold ZS;rw[h];rfl
theorem reck3 (h:x.op=3):ZS x R it=some (wr (reg R x.b+reg R x.c)):=by unfold ZS;rw[h];rfl
theorem reck4 (h:x.op=4):ZS x R it=some (wr (reg R x.b -reg R x.c)):=by unfold ZS;rw[h];rfl
theorem reck5 (h:x.op=5):ZS x R it=some (wr (reg R x.b*reg R x.c)):=by unfold ZS;rw[h];rfl
theorem reck6 (h:x.op=6) {b:Bool} (hb:decide (reg R x.b <reg R x.c)=b):ZS x R it=some (if b then 1 else 0):=by
 unfold ZS;rw[h,<-hb];simp
theorem reck7 (h:x.op=7) {b:Bool} (hb:decide (reg R x.b=reg R x.c)=b):ZS x R it=some (if b then 1 else 0):=by
 unfold ZS;rw[h,<-hb];simp
theorem reck8 (h:x.op=8):ZS x R it=some it:=by unfold ZS;rw[h];rfl
theorem reck0 (h:x.op <1\/8 <x.op):ZS x R it=none:=by
 unfold ZS;rw[if_neg (by omega),if_neg (by omega),if_neg (by omega),if_neg (by omega),if_neg (by omega),if_neg (by omega),if_neg (by omega),if_neg (by omega)]
theorem reckR {n:Int} (h:ZS x R it=some n):1<=x.op/\x.op<=8:=by
 refine Classical.byContradiction fun e=>?_;rw[reck0 (by omega)]at h;cases h
end
section
variable {h0 h:Hp} {P:Prg} {V:PrV} {tb:Nat} {T:MThr} {w:ThW}
abbrev Q6m (x:Ins) (T:MThr) (it:Int):MThr:=match ZS x (Qv T).regs it with|some n=>onT (setT T x.a n) 0|none=>T
theorem Q35 {x:Ins} {it n:Int} (h:ZS x (Qv T).regs it=some n):Q6m x T it=onT (setT T x.a n) 0:=by unfold Q6m;rw[h]
theorem Q0K {x:Ins} {it:Int} (h:ZS x (Qv T).regs it=none):Q6m x T it=T:=by unfold Q6m;rw[h]
theorem m86 {x:Ins} {sv:Value} {v:Value×List Nat} {ln it:Int} (S0:SH h0 [] (thL tb (pvL P V) T w) h) (hM:ZL P=true) (hw:w.vs.length=T.F.length) (hT:Kl P T) (hl:0 <T.F.length) (hi:Z0 P (Qt P (Qv T).fn) x=true) (hv:w.vs[T.F.length -1]?=some v) (hs:cellV sv=true):C modE 106 [Qk tb,Qf6 x sv ln,v.1,iV it] h fun r g'=>r=.bool (ZS x (Qv T).regs it).isSome/\SH h (owns (thL tb (pvL P V) T w)) (thL tb (pvL P V) (Q6m x T it) w) g':=by
 have SE:=S0.enterL;have aE:=Ya hl;have bm:=(hT.2 _ (ZZ hl)).r;obtain⟨v1,vb⟩:=v;have fZ:(thL tb (pvL P V) T w)[2+(T.F.length -1)]?=some (slR 2 0 v1 (isV (Qv T).regs) (Qv T).regs.length vb):=Q2X aE hv;obtain⟨ra,rc,rfl⟩:=Q6 (SE.sl _ fZ);obtain⟨c1,lL⟩: ∃c1:Nat,(Qv T).regs.length=c1:=⟨_,rfl⟩
 have oe:3<=Yo x.op->(0<=x.b/\x.b <(Qv T).regs.length)/\(0<=x.c/\x.c <(Qv T).regs.length):=fun k=>by
  rw[bm];exact⟨Q21 hi (by omega),Qek hi k⟩
 refine Q9 (fu:=Tryz.f106) (by kernel_rfl) rfl ?_;have S:=SE;refine Q7 ?_;refine Z9 S gn rfl rfl fun b1 g aJ S=>?_;refine I2 rfl<|QP<|I2 rfl<|Q0 ?_;have S:SH h (owns (thL tb (pvL P V) T w)) (cR b1 (.cells [iV x.op,iV x.a,iV x.b,iV x.c,iV x.n,sv,iV x.site,iV ln] 76 0)::thL tb (pvL P V) T w) g:=S;have aF:(cR b1 (.cells [iV x.op,iV x.a,iV x.b,iV x.c,iV x.n,sv,iV x.site,iV ln] 76 0)::thL tb (pvL P V) T w)[2+(T.F.length -1)+1]?=some (slR 2 0 (.slice ra (Qv T).regs.length rc) (isV (Qv T).regs) (Qv T).regs.length vb):=fZ
 refine ZF [(0,Qk tb),(2,.slice ra (Qv T).regs.length rc),(5,Qk b1)] (fun lv hh=> ∃n,lv=[(9,iV n)]/\ZS x (Qv T).regs it=some n/\SH h (owns (thL tb (pvL P V) T w)) (cR b1 (.cells [iV x.op,iV x.a,iV x.b,iV x.c,iV x.n,sv,iV x.site,iV ln] 76 0)::thL tb (pvL P V) T w) hh) ?_ fun lv hh hJ=>?_
 · skip
   refine Q7<|I0 0 rfl<|I4 rfl (S.cel 0 rfl) rfl<|Q0<|Qb<|Q7<|Ie rfl rfl<|I2 rfl<|Q0<|Q2 rfl (fun hb=>?_) fun hb=>?_
   · skip
     refine Q3 (by kernel_rfl)<|I0 4 rfl<|I4 rfl (S.cel 0 rfl) rfl<|I2 rfl<|Q0<|Qf ?_;exact Zr [(9,_)] (p:=⟨_,rfl,reck1 (of_decide_eq_true hb),S⟩)
   refine Q7<|Ie rfl rfl<|I2 rfl<|Q0<|Q2 rfl (fun hb=>?_) fun hb=>?_
   · skip
     refine Q3 (by kernel_rfl)<|I1 rfl<|I0 2 rfl<|I4 rfl (S.cel 0 rfl) rfl ?_
     have hx:0<=x.b/\x.b <(Qv T).regs.length:=by
      rw[bm];exact Q21 hi (by rw[show x.op=2 from of_decide_eq_true hb];decide)
     obtain⟨b2,cs,m,rfl,hg,k1⟩:=Q2J (a:=x.b) (S.sl _ aF) hx.1 hx.2;refine I5o 1 rfl rfl<|I4 rfl hg k1<|I2 rfl<|Q0<|Qf ?_;exact Zr [(9,_)] (p:=⟨_,rfl,reck2 (of_decide_eq_true hb),S⟩)
   refine Q7<|Ie rfl rfl<|I2 rfl<|Q0<|Q2 rfl (fun hb=>?_) fun hb=>?_
   · skip
     refine I9<|I1 rfl<|I0 2 rfl<|I4 rfl (S.cel 0 rfl) rfl ?_;have hx:=oe (by rw[show x.op=3 from of_decide_eq_true hb];decide);obtain⟨b2,cs,m,rfl,hg,k1,k2⟩:=Q4U (S.sl _ aF) hx.1 hx.2;refine I5o 1 rfl rfl<|I4 rfl hg k1<|I1 rfl<|I0 3 rfl<|I4 rfl (S.cel 0 rfl) rfl<|I5o 1 rfl rfl<|I4 rfl hg k2<|Q0a gn rfl rfl rfl<|I2 rfl<|Q0<|Qf ?_;exact Zr [(9,_)] (p:=⟨_,rfl,reck3 (of_decide_eq_true hb),S⟩)
   refine Q7<|Ie rfl rfl<|I2 rfl<|Q0<|Q2 rfl (fun hb=>?_) fun hb=>?_
   · skip
     refine I9<|I1 rfl<|I0 2 rfl<|I4 rfl (S.cel 0 rfl) rfl ?_;have hx:=oe (by rw[show x.op=4 from of_decide_eq_true hb];decide);obtain⟨b2,cs,m,rfl,hg,k1,k2⟩:=Q4U (S.sl _ aF) hx.1 hx.2;refine I5o 1 rfl rfl<|I4 rfl hg k1<|I1 rfl<|I0 3 rfl<|I4 rfl (S.cel 0 rfl) rfl<|I5o 1 rfl rfl<|I4 rfl hg k2<|o_subW gn rfl rfl rfl<|I2 rfl<|Q0<|Qf ?_;exact Zr [(9,_)] (p:=⟨_,rfl,reck4 (of_decide_eq_true hb),S⟩)
   refine Q7<|Ie rfl rfl<|I2 rfl<|Q0<|Q2 rfl (fun hb=>?_) fun hb=>?_
   · skip
     refine I9<|I1 rfl<|I0 2 rfl<|I4 rfl (S.cel 0 rfl) rfl ?_;have hx:=oe (by rw[show x.op=5 from of_decide_eq_true hb];decide);obtain⟨b2,cs,m,rfl,hg,k1,k2⟩:=Q4U (S.sl _ aF) hx.1 hx.2;refine I5o 1 rfl rfl<|I4 rfl hg k1<|I1 rfl<|I0 3 rfl<|I4 rfl (S.cel 0 rfl) rfl<|I5o 1 rfl rfl<|I4 rfl hg k2<|o_mulW gn rfl rfl rfl<|I2 rfl<|Q0<|Qf ?_;exact Zr [(9,_)] (p:=⟨_,rfl,reck5 (of_decide_eq_true hb),S⟩)
   refine Q7<|Ie rfl rfl<|I2 rfl<|Q0<|Q2 rfl (fun hb=>?_) fun hb=>?_
   · skip
     refine Q5<|I9 ?_;have ho:=of_decide_eq_true hb;refine I1 rfl<|I0 2 rfl<|I4 rfl (S.cel 0 rfl) rfl ?_;have hx:=oe (by rw[show x.op=6 from of_decide_eq_true hb];decide);obtain⟨b2,cs,m,rfl,hg,k1,k2⟩:=Q4U (S.sl _ aF) hx.1 hx.2;refine I5o 1 rfl rfl<|I4 rfl hg k1<|I1 rfl<|I0 3 rfl<|I4 rfl (S.cel 0 rfl) rfl<|I5o 1 rfl rfl<|I4 rfl hg k2<|Il rfl rfl<|Q0<|Q2 rfl (fun hb=>?_) fun hb=>?_
     · skip
       refine Q3 (by kernel_rfl)<|I2 rfl<|Q0<|Qf ?_;exact Zr [(9,_)] (p:=⟨_,rfl,reck6 ho hb,S⟩)
     refine Q4<|Qf ?_;exact Zr [(9,_)] (p:=⟨_,rfl,reck6 ho hb,S⟩)
   refine Q7<|Ie rfl rfl<|I2 rfl<|Q0<|Q2 rfl (fun hb=>?_) fun hb=>?_
   · skip
     refine Q5<|I9 ?_;have ho:=of_decide_eq_true hb;refine I1 rfl<|I0 2 rfl<|I4 rfl (S.cel 0 rfl) rfl ?_;have hx:=oe (by rw[show x.op=7 from of_decide_eq_true hb];decide);obtain⟨b2,cs,m,rfl,hg,k1,k2⟩:=Q4U (S.sl _ aF) hx.1 hx.2;refine I5o 1 rfl rfl<|I4 rfl hg k1<|I1 rfl<|I0 3 rfl<|I4 rfl (S.cel 0 rfl) rfl<|I5o 1 rfl rfl<|I4 rfl hg k2<|Ie rfl rfl<|Q0<|Q2 rfl (fun hb=>?_) fun hb=>?_
     · skip
       refine Q3 (by kernel_rfl)<|I2 rfl<|Q0<|Qf ?_;exact Zr [(9,_)] (p:=⟨_,rfl,reck7 ho hb,S⟩)
     refine Q4<|Qf ?_;exact Zr [(9,_)] (p:=⟨_,rfl,reck7 ho hb,S⟩)
   refine Q7<|Ie rfl rfl<|I2 rfl<|Q0<|Q2 rfl (fun hb=>?_) fun hb=>?_
   · skip
     refine Q3 (by kernel_rfl)<|I1 rfl<|I2 rfl<|Q0<|Qf ?_;exact Zr [(9,_)] (p:=⟨_,rfl,reck8 (of_decide_eq_true hb),S⟩)
   refine Q7<|I2 rfl<|Q0<|Q8 ?_;refine⟨.inl rfl,_,rfl,?_⟩
   exact(by
    have e:ZS x (Qv T).regs it=none:=by
     unfold ZS;rw[if_neg (of_decide_eq_false ‹decide (x.op=1)=false›),if_neg (of_decide_eq_false ‹decide (x.op=2)=false›),if_neg (of_decide_eq_false ‹decide (x.op=3)=false›),if_neg (of_decide_eq_false ‹decide (x.op=4)=false›),if_neg (of_decide_eq_false ‹decide (x.op=5)=false›),if_neg (of_decide_eq_false ‹decide (x.op=6)=false›),if_neg (of_decide_eq_false ‹decide (x.op=7)=false›),if_neg (of_decide_eq_false ‹decide (x.op=8)=false›)]
    rw[Q0K e,e]
    exact⟨rfl,SH.drop S⟩)
 obtain⟨n,rfl,hn,S⟩:=hJ;refine Q7<|I1 rfl<|I0 1 rfl<|I4 rfl (S.cel 0 rfl) rfl<|I1 rfl ?_;have hr:=reckR hn
 have ha:=Q08 hi (by
  obtain⟨h1,h2⟩:=hr;have:x.op=1\/x.op=2\/x.op=3\/x.op=4\/x.op=5\/x.op=6\/x.op=7\/x.op=8:=by omega
  rcases this with e|e|e|e|e|e|e|e<;>(rw[e];decide))
 have ha':0<=x.a/\x.a <((isV (Qv T).regs).length:Nat):=by
  rw[v0v,bm];exact ha
 obtain⟨b2,cY,m2,rfl,da,k2⟩:=Q2J (a:=x.a) (S.sl _ aF) ha.1 (by rw[bm];exact ha.2);refine I5o 1 rfl rfl<|Zm (2+(T.F.length -1)+1) S gn rfl rfl rfl (by kernel_rfl) aF rfl (by omega) (fun g S=>ag0) fun g S=>?_;have S2:SH h (owns (thL tb (pvL P V) T w)) (cR b1 _::(thL tb (pvL P V) T w).set (2+(T.F.length -1)) _) g:=S;have S3:=S2.drop;rw[Q1O aE hv]at S3;have S3:SH h (owns (thL tb (pvL P V) T w)) (thL tb (pvL P V) (setT T x.a n) w) g:=S3;have cz:=Q04 (a:=x.a) (n:=n) hT;refine QP<|I1 rfl ?_
 refine QZ [_,_] gn rfl rfl (by kernel_rfl) rfl (C.mono (m91 (k:=0) (P:=P) (V:=V) (T:=setT T x.a n) (w:=w) (h0:=h0) (SH.subL0 S0 S0.own0L S3) (by rw[cz.2];exact hw) cz.1 (by omega) (fun y hy=>(Kx hM (cz.1.2 y hy)).1)) ?_);intro v g S2;have S:=SH.retL0 S3 S2;refine⟨ag0,?_⟩;refine QP<|I2 rfl<|Q0<|Q8 ⟨.inl rfl,_,rfl,⟨by rw[hn];rfl,by rw[Q35 hn];exact S⟩⟩
end
section
variable {H:List MObj} {P:Prg} {F:Fun} {x:Ins}
theorem Q8d {o:MObj} (h:H.length<=1024):(Qde H o).length<=1024:=by
 unfold Qde
 split
 · exact h
 rw[v0j];simp;omega
theorem Q2f {k o s z b:Int} (h:H.length<=1024):(Qa8 H k o s z b).length<=1024:=by
 unfold Qa8
 split
 · exact Q8d h
 exact h
theorem Qbf {o z b:Int} {c:List Int} (h:H.length<=1024):(Qbg H o c z b).length<=1024:=by
 unfold Qbg
 split
 · exact Q8d h
 exact h
theorem QbY {id i n:Int} (h:H.length<=1024):(setH H id i n).length<=1024:=by
 unfold setH
 split
 · rw[List.length_modify];exact h
 exact h
theorem QcJ (hM:ZL P=true) (hi:Z0 P F x=true) (ho:x.op=21):x.l.length<=256:=by
 have hn:=Q0h hi;unfold Q1f at hn;rw[if_neg (by omega),if_neg (by omega),if_pos ho]at hn;simp only[v0g,decide_eq_true_eq,Z5]at hn;have hc:=Yz hM hn.1.1 hn.1.2
 have e:Jw P x.n=(Qt P x.n).caps:=by
  unfold Jw;rw[Jb hn.1.1 hn.1.2];rfl
 omega
theorem Qav (hi:Z0 P F x=true) (ho:x.op=14):0<=x.n/\x.n <P.classes.length:=by
 have hn:=Q0h hi;unfold Q1f at hn;rw[if_neg (by omega),if_pos ho]at hn;exact Z5.1 hn
def TS (x:Ins) (T T':MThr):Prop:=T'=T\/(∃k,k≠0/\T'= {T with trap:=k})\/ ∃n,T'=onT (setT T x.a n) 0
def mkOp (o:Int):Prop:=o=11\/o=14\/o=17\/o=21
end
section
variable {h0 h:Hp} {P:Prg} {V:PrV} {tb ph:Nat} {T:MThr} {w:ThW} {H:List MObj} {ae:List Nat}
abbrev bxR (b:Nat) (x:Ins) (sv:Value) (ln:Int):Res:=cR b (.cells [iV x.op,iV x.a,iV x.b,iV x.c,iV x.n,sv,iV x.site,iV ln] 76 0)
theorem m87 {x:Ins} {sv:Value} {v:Value×List Nat} {ln task:Int} (S0:SH h0 [] (hpR ph H ae::thL tb (pvL P V) T w) h) (X0:Q1m h0 P V) (hM:ZL P=true) (hw:w.vs.length=T.F.length) (hT:Kl P T) (hl:0 <T.F.length) (hi:Z0 P (Qt P (Qv T).fn) x=true) (hv:w.vs[T.F.length -1]?=some v) (bE:RowV h0 sv (isV x.l)) (hH:H.length<=1024):C modE 107 [Qk tb,Qk ph,Qf6 x sv ln,v.1,iV task] h fun r g'=> ∃(b:Bool) (e:Int) (T':MThr) (H':List MObj) (ah:List Nat),r=.tuple #[.bool b,iV e]/\(b=false->T'=T/\H'=H/\ ¬mkOp x.op)/\(b=true->mkOp x.op)/\TS x T T'/\H'.length<=1024/\SH h (owns (hpR ph H ae::thL tb (pvL P V) T w)) (hpR ph H' ah::thL tb (pvL P V) T' w) g':=by
 have SE:=S0.enterL;have aE:=Ya hl;have bm:=(hT.2 _ (ZZ hl)).r;obtain⟨v1,vb⟩:=v;have fZ:(thL tb (pvL P V) T w)[2+(T.F.length -1)]?=some (slR 2 0 v1 (isV (Qv T).regs) (Qv T).regs.length vb):=Q2X aE hv;have kS:(hpR ph H ae::thL tb (pvL P V) T w)[2+(T.F.length -1)+1]?=some (slR 2 0 v1 (isV (Qv T).regs) (Qv T).regs.length vb):=fZ;obtain⟨ra,rc,rfl⟩:=Q6 (SE.sl _ kS);obtain⟨la,lc,rfl⟩:=bE.valM;refine Q9 (fu:=Tryz.f107) (by kernel_rfl) rfl ?_;have S:=SE;refine Q7 ?_;refine Z9 S gn rfl rfl fun b1 g aJ S=>?_;refine I2 rfl<|I2 rfl<|QP<|I2 rfl<|I2 rfl<|Q0 ?_
 have S:SH h (owns (hpR ph H ae::thL tb (pvL P V) T w)) (bxR b1 x (.slice la x.l.length lc) ln::hpR ph H ae::thL tb (pvL P V) T w) g:=S;refine ZF [(0,Qk tb),(3,.slice ra (Qv T).regs.length rc),(7,Qk b1)] (fun lv hh=> ∃(n e:Int) (H':List MObj) (ah:List Nat),lv=[(12,iV n),(13,iV e)]/\mkOp x.op/\H'.length<=1024/\SH h (owns (hpR ph H ae::thL tb (pvL P V) T w)) (bxR b1 x (.slice la x.l.length lc) ln::hpR ph H' ah::thL tb (pvL P V) T w) hh) ?_ fun lv hh hJ=>?_
 · skip
   refine Q7<|I0 0 rfl<|I4 rfl (S.cel 0 rfl) rfl<|Q0<|Qb<|Q7<|Ie rfl rfl<|I2 rfl<|Q0<|Q2 rfl (fun hb=>?_) fun hb=>?_
   · skip
     refine Q3 (by kernel_rfl)<|I1 rfl<|I0 4 rfl<|I4 rfl (S.cel 0 rfl) rfl<|I0 6 rfl<|I4 rfl (S.cel 0 rfl) rfl<|I1 rfl<|Ic [_,_,_,_,_,_] rfl rfl (C.mono (m98 (SH.sub1 S0 S0.own0L S 1 rfl)) ?_);rintro v g ⟨rfl,ah,S2⟩;have S:=S.ret 1 rfl S2;refine⟨ag0,?_⟩;refine I1 rfl<|Ix rfl rfl<|Ix rfl rfl<|I2 rfl<|I2 rfl<|Q0<|Qf ?_;exact Zr [(12,_),(13,_)] (p:=⟨_,_,_,ah,rfl,.inl (of_decide_eq_true hb),Q2f hH,S⟩)
   refine Q7<|Ie rfl rfl<|I2 rfl<|Q0<|Q2 rfl (fun hb=>?_) fun hb=>?_
   · skip
     refine I9 ?_;have nO:=Qav hi (of_decide_eq_true hb);obtain⟨cb,co,cc,ccs,ce,cm,cK,nW,hclt,jD,iD⟩:=(X0.ext (S0.all0 S0.own0L S)).cl.at (by omega);obtain⟨⟨cs1,ca,cb2,cd,ce2,lX⟩,_,_⟩:=iD x.n.toNat (by omega);refine I1 rfl<|I0 4 rfl<|I4 rfl (S.cel 0 rfl) rfl<|I1 rfl<|I6 rfl<|I0 0 rfl<|I0 1 rfl<|I4 rfl (S.cel 2 rfl) rfl<|I0 4 rfl<|I4 rfl (S.cel 0 rfl) rfl ?_;rw[cK];refine I5o 3 rfl rfl ?_;rw[<-cK];refine I0 2 rfl<|I4 rfl nW (Qs lX (by omega) rfl)<|I7 rfl<|I0 6 rfl<|I4 rfl (S.cel 0 rfl) rfl<|I1 rfl ?_
     refine Ic [_,_,_,_,_,_] rfl rfl (C.mono (m98 (SH.sub1 S0 S0.own0L S 1 rfl)) ?_);rintro v g ⟨rfl,ah,S2⟩;have S:=S.ret 1 rfl S2;refine⟨ag0,?_⟩;refine I1 rfl<|Ix rfl rfl<|Ix rfl rfl<|I2 rfl<|I2 rfl<|Q0<|Qf ?_;exact Zr [(12,_),(13,_)] (p:=⟨_,_,_,ah,rfl,.inr (.inl (of_decide_eq_true hb)),Q2f hH,S⟩)
   refine Q7<|Ie rfl rfl<|I2 rfl<|Q0<|Q2 rfl (fun hb=>?_) fun hb=>?_
   · skip
     refine Q5<|Q7 ?_;have ho:x.op=17:=of_decide_eq_true hb
     have hx:0<=x.b/\x.b <(Qv T).regs.length:=by
      rw[bm];exact Q21 hi (by rw[ho];decide)
     have aF:(bxR b1 x (.slice la x.l.length lc) ln::hpR ph H ae::thL tb (pvL P V) T w)[2+(T.F.length -1)+1+1]?=some (slR 2 0 (.slice ra (Qv T).regs.length rc) (isV (Qv T).regs) (Qv T).regs.length vb):=fZ;obtain⟨b2,cs,m,rfl,hg,k1⟩:=Q2J (a:=x.b) (S.sl _ aF) hx.1 hx.2;refine I1 rfl<|I0 2 rfl<|I4 rfl (S.cel 0 rfl) rfl<|I5o 1 rfl rfl<|I4 rfl hg k1<|Il rfl rfl<|I1 rfl ?_
     refine Z4 (n:=6) rfl rfl rfl gn rfl (fun hb=>by
      refine D1 hb rfl<|D0 2 hb rfl<|D4 hb rfl (S.cel 0 rfl) rfl<|D5o 1 hb rfl rfl<|D4 hb rfl hg k1<|Dg hb rfl rfl ?_
      exact Q0 ⟨rfl,rfl,6,rfl,rfl⟩) ?_
     refine Q0<|Q2 rfl (fun hb=>?_) fun hb=>?_
     · skip
       refine Q7<|I1 rfl<|I6 rfl<|I0 9 rfl ?_;refine Qg 2 S gn rfl rfl rfl (by kernel_rfl) rfl (by decide) (by simp) (fun g S=>ag0) fun g S=>?_;refine QP<|I2 rfl<|I2 rfl<|Q0<|Q8 ⟨.inl rfl,_,rfl,⟨true,0,{T with trap:=3},H,ae,rfl,fun e=>v1M e,fun _=>.inr (.inr (.inl ho)),.inr (.inl ⟨3,by decide,rfl⟩),hH,S.drop⟩⟩
     refine Q4<|I9<|I1 rfl<|I1 rfl<|I0 2 rfl<|I4 rfl (S.cel 0 rfl) rfl<|I5o 1 rfl rfl<|I4 rfl hg k1<|I0 6 rfl<|I4 rfl (S.cel 0 rfl) rfl<|I1 rfl<|Ic [_,_,_,_,_,_] rfl rfl (C.mono (m98 (SH.sub1 S0 S0.own0L S 1 rfl)) ?_);rintro v g ⟨rfl,ah,S2⟩;have S:=S.ret 1 rfl S2;refine⟨ag0,?_⟩;refine I1 rfl<|Ix rfl rfl<|Ix rfl rfl<|I2 rfl<|I2 rfl<|Q0<|Qf ?_;exact Zr [(12,_),(13,_)] (p:=⟨_,_,_,ah,rfl,.inr (.inr (.inl ho)),Q2f hH,S⟩)
   refine Q7<|Ie rfl rfl<|I2 rfl<|Q0<|Q2 rfl (fun hb=>?_) fun hb=>?_
   · skip
     refine Q7<|I2 rfl<|Z8<|I2 rfl<|Q0 ?_;have ho:x.op=21:=of_decide_eq_true hb;have hl256:=QcJ hM hi ho;refine Qb ?_
     refine QB [(14,_),(15,_)] [(0,_),(1,_),(2,_),(3,_),(4,_),(7,_),(10,_),(11,_),(12,_),(13,_),(16,_),(17,_),(18,_),(19,_),(30,_),(31,_),(53,_),(54,_),(85,_),(86,_)] (fun kk lv hh=> ∃(i:Nat) (s:Value) (sb:List Nat),lv=[(14,s),(15,iV i)]/\kk=x.l.length -i/\i<=x.l.length/\SH h (owns (hpR ph H ae::thL tb (pvL P V) T w)) (slR 2 0 s (isV ((x.l.take i).map (reg (Qv T).regs))) i sb::bxR b1 x (.slice la x.l.length lc) ln::hpR ph H ae::thL tb (pvL P V) T w) hh) (n:=x.l.length) ?_ fun kk lv hh hI=>?_
     · exact⟨0,.slice none 0 0,[],rfl,rfl,v0s _,S.nilSl 2 0⟩
     obtain⟨i,s,sb,rfl,iS,aD,S⟩:=hI;refine Q5<|Q7<|I1 rfl<|I0 5 rfl<|I4 rfl (S.cel 1 rfl) rfl<|I7 rfl<|Il rfl rfl<|Q0<|Q2 rfl (fun hb=>?_) fun hb=>?_
     · skip
       refine Q4 ?_;have aD:i <x.l.length:=by simp at hb;omega
       have aF:(slR 2 0 s (isV ((x.l.take i).map (reg (Qv T).regs))) i sb::bxR b1 x (.slice la x.l.length lc) ln::hpR ph H ae::thL tb (pvL P V) T w)[2+(T.F.length -1)+1+1+1]?=some (slR 2 0 (.slice ra (Qv T).regs.length rc) (isV (Qv T).regs) (Qv T).regs.length vb):=fZ;have hx:=ins_l hi x.l[i] (List.getElem_mem aD);rw[<-bm]at hx;obtain⟨b2,cs,m,rfl,hg,k1⟩:=Q2J (a:=x.l[i]) (S.sl _ aF) hx.1 hx.2;obtain⟨lb,lo,lc',lcs,le,lm,fM,hlg,bO,hlat⟩:=(bE.ext (S0.all0 S0.own0L S)).atM (by omega);obtain⟨rfl,rfl⟩:la=some ⟨lb,lo,none⟩/\lc=lc':=by simpa using fM
       have k2:lcs[lo+v0f (i:Int)*1]?=some (iV x.l[i]):=by
        rw[v0i,v0A];exact hlat i aD
       refine Q5<|Qb<|Q3 (by kernel_rfl)<|I1 rfl<|I1 rfl<|I0 5 rfl<|I4 rfl (S.cel 1 rfl) rfl<|I1 rfl<|I5o 1 rfl rfl<|I4 rfl hlg k2<|I5o 1 rfl rfl<|I4 rfl hg k1 ?_;refine Qc (e:=2) (z:=0) (zv:=.int .i64 0) [(0,_)] S gn rfl (by kernel_rfl) (by kernel_rfl) (by kernel_rfl) (by kernel_rfl) rfl (by rfl) fun b2 g bK S=>?_;refine QM (e:=2) (z:=0) (by':=7) 1 0 S el2 gn rfl rfl rfl rfl rfl rfl (by rfl) (by omega) (fun s' aa g S=>ag0) fun s' aa g S=>?_;have S:=S.drop;refine I2 rfl<|Q0<|Q3 (by kernel_rfl)<|I1 rfl<|Iao rfl rfl ?_
       refine I2 rfl<|Q0 ?_
       exact K3 (x.l.length - (i+1)) [(14,_),(15,_)] (p:=⟨i+1,_,_,rfl,rfl,by omega,by
        have e:isV ((x.l.take i).map (reg (Qv T).regs))++[iV (reg (Qv T).regs x.l[i])]=isV ((x.l.take (i+1)).map (reg (Qv T).regs)):=by
         rw[v0Z,v0c aD,List.map_append,Q0Y];rfl
        rw[<-e];exact S⟩)
     refine QF<|Qh<|Qn<|QE ?_;obtain rfl:i=x.l.length:=by simp at hb;omega
     refine Q3 (by kernel_rfl)<|I1 rfl<|I0 4 rfl<|I4 rfl (S.cel 1 rfl) rfl<|I1 rfl<|I0 6 rfl<|I4 rfl (S.cel 1 rfl) rfl<|I1 rfl ?_;refine QZ [_,_,_,_,_] gn rfl rfl (by kernel_rfl) rfl (C.mono (m99 (SH.sub1 S0 S0.own0L S 2 rfl) (S.sl 0 rfl).row (by rw[v0v,v0E];omega)) ?_);rintro v g ⟨rfl,ah,S2⟩;have S:=S.ret 2 rfl S2;refine⟨ag0,?_⟩;refine I1 rfl<|Ix rfl rfl<|Ix rfl rfl<|I2 rfl<|I2 rfl<|Q0<|Qf ?_;exact Zr [(12,_),(13,_)] (p:=⟨_,_,_,ah,rfl,.inr (.inr (.inr ho)),Qbf hH,S.drop⟩)
   refine Q7<|I2 rfl<|I2 rfl<|Q0<|Q8 ?_;refine⟨.inl rfl,_,rfl,?_⟩
   exact⟨false,0,T,H,ae,rfl,fun _=>⟨rfl,rfl,by
    rintro(e|e|e|e)
    · exact of_decide_eq_false ‹decide (x.op=11)=false› e
    · exact of_decide_eq_false ‹decide (x.op=14)=false› e
    · exact of_decide_eq_false ‹decide (x.op=17)=false› e
    exact of_decide_eq_false ‹decide (x.op=21)=false› e⟩,fun e=>v1M e,.inl rfl,hH,S.drop⟩
 obtain⟨n,e,H',ah,rfl,ho,kq,S⟩:=hJ;refine Q5<|Q7<|I1 rfl<|In rfl rfl<|Q0<|Q2 rfl (fun hb=>?_) fun hb=>?_
 · skip
   refine Q7<|I2 rfl<|I2 rfl<|Q0<|Q8 ⟨.inl rfl,_,rfl,⟨true,11,T,H',ah,rfl,fun e=>v1M e,fun _=>ho,.inl rfl,kq,S.drop⟩⟩
 refine Q4<|Q7 ?_;have ha:=Q08 hi (by rcases ho with e|e|e|e<;>(rw[e];decide))
 have ha':0<=x.a/\x.a <((isV (Qv T).regs).length:Nat):=by
  rw[v0v,bm];exact ha
 have aF:(bxR b1 x (.slice la x.l.length lc) ln::hpR ph H' ah::thL tb (pvL P V) T w)[2+(T.F.length -1)+1+1]?=some (slR 2 0 (.slice ra (Qv T).regs.length rc) (isV (Qv T).regs) (Qv T).regs.length vb):=fZ;obtain⟨b2,cY,m2,rfl,da,k2⟩:=Q2J (a:=x.a) (S.sl _ aF) ha.1 (by rw[bm];exact ha.2);refine I1 rfl<|I0 1 rfl<|I4 rfl (S.cel 0 rfl) rfl<|I1 rfl<|I5o 1 rfl rfl<|Zm (2+(T.F.length -1)+1+1) S gn rfl rfl rfl (by kernel_rfl) aF rfl (by omega) (fun g S=>ag0) fun g S=>?_
 have S2:SH h (owns (hpR ph H ae::thL tb (pvL P V) T w)) (bxR b1 x (.slice _ x.l.length lc) ln::hpR ph H' ah::(thL tb (pvL P V) T w).set (2+(T.F.length -1)) _) g:=S;have S3:=S2.drop;rw[Q1O aE hv]at S3;have S3:SH h (owns (hpR ph H ae::thL tb (pvL P V) T w)) (thL tb (pvL P V) (setT T x.a n) w++[hpR ph H' ah]) g:=SH.comm (A:=[_]) S3;have cz:=Q04 (a:=x.a) (n:=n) hT;refine QP<|I1 rfl ?_;refine QZ [_,_] gn rfl rfl (by kernel_rfl) rfl (C.mono (m91 (k:=0) (P:=P) (V:=V) (T:=setT T x.a n) (w:=w) (h0:=h0) (SH.subL S0 S0.own0L S3) (by rw[cz.2];exact hw) cz.1 (by omega) (fun y hy=>(Kx hM (cz.1.2 y hy)).1)) ?_);intro v g S2
 have S:=SH.comm (B:=[_]) (SH.retL S3 S2);refine⟨ag0,?_⟩;refine QP<|I2 rfl<|I2 rfl<|Q0<|Q8 ⟨.inl rfl,_,rfl,⟨true,0,_,H',ah,rfl,fun e=>v1M e,fun _=>ho,.inr (.inr ⟨n,rfl⟩),kq,S⟩⟩
end
end Go.Proofs.YtljpajcmdjmeaaaGreat
