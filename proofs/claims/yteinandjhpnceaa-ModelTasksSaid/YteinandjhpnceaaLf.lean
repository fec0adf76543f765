/- Runs: may a task's mark be, and what it follows? Conditions: they may. Runs: a looper's tasks one by one; may a run be? Conditions: it may. Runs: may a run be? Conditions: it may. Which marks come first of which: the least order closed under the rules. Conditions: none. Chapter 14: rows' bits. Conditions: none. The model's closure: what is asked of it. Conditions: a run that may be. The model's closure: rows are closed. Conditions: a run that may be. The model's closure: the rules 1 to 6. Conditions: a run that may be. The model's closure: the rules 7 and 8, gone through again and again, plainly. Conditions: none. The model's closure. Conditions: a run that may be. Rows of truths as they lie. Conditions: none. -/
import Derived.Test.YteinandjhpnceaaLe
import Derived.Test.YteinandjhpnceaaLa
namespace Go.Proofs.Yteinandjhpnceaa
open Go.X Go.May Go.Mac
structure LkAt (h:Hp) (k bb be tb tc:Nat) (ma:Option Addr) (mc:Nat) (T:List MTask) (M L:List MMark):Prop where
 g1:h.get k=some (.cells [tsV tb tc T,msV ma mc M,.slice (some ⟨bb,0,none⟩) (T.length+1) (T.length+1),.slice (some ⟨be,0,none⟩) (T.length+1) (T.length+1)] 155 0)
 g2:h.get be=some (.cells (ixL L T.length 2) 3 0)
 g3:h.get bb=some (.cells (ixL L T.length 1) 3 0)
 l1:k <h.n
 l2:be <h.n
 l3:bb <h.n
section
variable {h0 h:Hp} {tb tc:Nat} {ma:Option Addr} {mc:Nat} {T:List MTask} {M L:List MMark} {k bb be:Nat} {id:Int}
theorem LkAt.of {ds:List Nat} {A B:List Res} (S:SH h0 ds (A++(lkR k bb be tb tc ma mc T M L++B)) h):LkAt h k bb be tb tc ma mc T M L:=by
 have S1:=(SH.comm S);have S1:SH h0 ds (lkR k bb be tb tc ma mc T M L++(B++A)) h:=by rw[List.append_assoc]at S1;exact S1
 exact⟨S1.cel 0 rfl,S1.cel 1 rfl,S1.cel 2 rfl,S1.lt1 0 rfl,S1.lt1 1 rfl,S1.lt1 2 rfl⟩
theorem Q1y (hm:MadeI M (tkT T id) id) (h0:0<=(tkT T id).mark):(tkT T id).mark <M.length/\QcA (tkT T id) id (mkI M (tkT T id).mark)/\(0<=Qn M id 1->(tkT T id).mark <Qn M id 1):=by
 obtain⟨h1,x,hx,hk⟩:=hm.2 h0;have hl:=(List.getElem?_eq_some_iff.1 hx).1;have:=QaX (M:=M) h0 (by omega);rw[hx]at this;rw[<-Option.some.inj this];exact⟨by omega,hk,h1⟩
set_option maxHeartbeats 4000000 in
theorem t67 (y:LkAt h k bb be tb tc ma mc T M M) (R:RnAt h tb tc ma mc T M) (hT:T.length<=256) (i1:1<=id) (i2:id<=T.length) (hm:MadeI M (tkT T id) id):C modE 67 [Qw k,iV id,.agg (tkV (tkT T id)).toArray] h fun v g'=>v=.bool true/\Ext h g':=by
 obtain⟨y1,y2,y3,y4,y5,y6⟩:=y;refine Q8 (fu:=Try.f67) (by kernel_rfl) rfl ?_;have S:=SH.start h;refine Q6 ?_;refine QX S gn rfl rfl fun b1 g nb1 S=>?_;refine I2 rfl<|Z7<|I0 13 rfl<|I4 rfl (S.cel 0 rfl) rfl<|Il rfl rfl<|Q0<|Q2 rfl (fun hb=>?_) fun hb=>?_
 · skip
   refine Q6<|I0 0 rfl<|I4 rfl (S.cel 0 rfl) rfl<|In rfl rfl<|I1 rfl ?_
   refine Qp (n:=3) rfl rfl rfl gn rfl (fun hb=>by
    refine D0 0 hb rfl<|D4 hb rfl (S.cel 0 rfl) rfl<|Dn hb rfl rfl ?_
    exact Q0 ⟨rfl,rfl,3,rfl,rfl⟩) ?_
   refine I2 rfl<|Q0<|Q7 ?_;refine⟨.inl rfl,_,rfl,?_⟩
   exact⟨congrArg Value.bool (by
    have:=hm.1 (of_decide_eq_true hb)
    simp[this]),S.e0⟩
 refine Q4<|Q3<|Q3<|I9 ?_;have hm0:0<=(tkT T id).mark:=by simp at hb;omega
 obtain⟨m1,m2,m3⟩:=Q1y hm hm0;refine I0 13 rfl<|I4 rfl (S.cel 0 rfl) rfl<|I1 rfl<|I6 rfl<|I0 0 rfl<|I0 1 rfl<|I4 rfl (S.old0 y1 y4) rfl<|I7 rfl<|Ih rfl rfl<|I1 rfl ?_
 refine QT (n:=20) rfl rfl rfl gn rfl (fun hb=>by
  refine D1 hb rfl<|D6 hb rfl<|D0 2 hb rfl<|D4 hb rfl (S.old0 y1 y4) rfl<|D1 hb rfl<|D5o 1 hb rfl rfl<|D4 hb rfl (S.old0 y3 y6) (Zd (by omega) (by omega))<|Dh hb rfl rfl<|D1 hb rfl ?_
  refine Qp (n:=10) rfl rfl rfl (gy rfl rfl rfl hb) rfl (fun hb=>by
   refine D0 13 hb rfl<|D4 hb rfl (S.cel 0 rfl) rfl<|D1 hb rfl<|D6 hb rfl<|D0 2 hb rfl<|D4 hb rfl (S.old0 y1 y4) rfl<|D1 hb rfl<|D5o 1 hb rfl rfl<|D4 hb rfl (S.old0 y3 y6) (Zd (by omega) (by omega))<|Dh hb rfl rfl ?_
   exact Q0 ⟨rfl,rfl,10,rfl,rfl⟩) ?_
  exact Q0 ⟨rfl,rfl,10,rfl,rfl⟩) ?_
 refine Q0<|Q2 rfl (fun hb=>?_) fun hb=>?_
 · skip
   refine Q3 ?_;exact absurd hb (by simp;omega)
 refine Q4<|Q3<|I9 ?_;obtain⟨mb,mcs,mm,rfl,mg,mln,mll,mlr,mlf⟩:=(R.ext S.e0).mk' hm0 m1;refine I1 rfl<|I6 rfl<|I0 0 rfl<|I0 1 rfl<|I4 rfl (S.old0 y1 y4) rfl<|I0 13 rfl<|I4 rfl (S.cel 0 rfl) rfl<|I5o 8 rfl rfl<|I3 8 rfl mg mll ?_;rw[mlr];refine Qo (zv:=.agg #[.int .i64 0,.int .i64 0,.int .i64 0,.int .i64 0,.int .i64 0,.int .i64 0,.int .i64 0,.bool false]) S gn rfl (by kernel_rfl) fun b2 g nb2 S=>?_;refine Qe (n:=8) 0 S gn rfl rfl (by kernel_rfl) (by kernel_rfl) rfl rfl (by decide) rfl (fun g S=>ag0) fun g S=>?_;refine Z7<|I0 0 rfl ?_
 refine I4 rfl (S.cel 1 rfl) rfl<|Q0<|Q5<|Q6<|Ie rfl rfl<|I2 rfl<|Q0<|Q2 rfl (fun hb=>?_) fun hb=>?_
 · skip
   refine Q6<|I0 0 rfl<|I4 rfl (S.cel 0 rfl) rfl<|Ie rfl rfl<|I1 rfl ?_
   refine Qp (n:=4) rfl rfl rfl gn rfl (fun hb=>by
    refine D0 2 hb rfl<|D4 hb rfl (S.cel 0 rfl) rfl<|D1 hb rfl<|De hb rfl rfl ?_
    exact Q0 ⟨rfl,rfl,4,rfl,rfl⟩) ?_
   refine I2 rfl<|Q0<|Q7 ?_;refine⟨.inl rfl,_,rfl,?_⟩
   exact⟨congrArg Value.bool (by
    have h4:(tkT T id).kind=4:=of_decide_eq_true hb;rcases m2 with⟨_,a,b⟩| ⟨a,_⟩| ⟨a,_⟩
    · simp[a,b]
    · omega
    omega),S.e0⟩
 refine Q6<|Ie rfl rfl<|I2 rfl<|Q0<|Q2 rfl (fun hb=>?_) fun hb=>?_
 · skip
   refine Q6<|I0 0 rfl<|I4 rfl (S.cel 0 rfl) rfl<|Ie rfl rfl<|I1 rfl ?_
   refine Qp (n:=4) rfl rfl rfl gn rfl (fun hb=>by
    refine D0 2 hb rfl<|D4 hb rfl (S.cel 0 rfl) rfl<|D1 hb rfl<|De hb rfl rfl ?_
    exact Q0 ⟨rfl,rfl,4,rfl,rfl⟩) ?_
   refine I2 rfl<|Q0<|Q7 ?_;refine⟨.inl rfl,_,rfl,?_⟩
   exact⟨congrArg Value.bool (by
    have h4:(tkT T id).kind=5:=of_decide_eq_true hb;rcases m2 with⟨a,_⟩| ⟨_,a,b⟩| ⟨a,_⟩
    · omega
    · simp[a,b]
    omega),S.e0⟩
 refine Q6<|Ie rfl rfl<|I2 rfl<|Q0<|Q2 rfl (fun hb=>?_) fun hb=>?_
 · skip
   refine Q6<|I0 0 rfl<|I4 rfl (S.cel 0 rfl) rfl<|Ie rfl rfl<|I1 rfl ?_
   refine Qp (n:=5) rfl rfl rfl gn rfl (fun hb=>by
    refine D0 2 hb rfl<|D4 hb rfl (S.cel 0 rfl) rfl<|D0 1 hb rfl<|D4 hb rfl (S.cel 1 rfl) rfl<|De hb rfl rfl ?_
    exact Q0 ⟨rfl,rfl,5,rfl,rfl⟩) ?_
   refine I2 rfl<|Q0<|Q7 ?_;refine⟨.inl rfl,_,rfl,?_⟩
   exact⟨congrArg Value.bool (by
    have h4:(tkT T id).kind=3:=of_decide_eq_true hb;rcases m2 with⟨a,_⟩| ⟨a,_⟩| ⟨_,a,b⟩
    · omega
    · omega
    simp[a,b]),S.e0⟩
 refine Q4<|Q3 ?_;exact absurd m2 (by unfold QcA;simp at*;omega)
set_option maxHeartbeats 4000000 in
theorem t68 (y:LkAt h k bb be tb tc ma mc T M M) (R:RnAt h tb tc ma mc T M) (hT:T.length<=256) (i1:1<=id) (i2:id<=T.length) (hf:FolI T M (tkT T id) id):C modE 68 [Qw k,iV id,.agg (tkV (tkT T id)).toArray] h fun v g'=>v=.bool true/\Ext h g':=by
 obtain⟨y1,y2,y3,y4,y5,y6⟩:=y;refine Q8 (fu:=Try.f68) (by kernel_rfl) rfl ?_;have S:=SH.start h;refine Q6 ?_;refine QX S gn rfl rfl fun b1 g nb1 S=>?_;refine I2 rfl<|Z7<|I0 14 rfl<|I4 rfl (S.cel 0 rfl) rfl<|Ie rfl rfl<|Q0<|Q2 rfl (fun hb=>?_) fun hb=>?_
 · skip
   refine Q6<|I2 rfl<|Q0<|Q7 ?_;refine⟨.inl rfl,_,rfl,?_⟩;exact⟨rfl,S.e0⟩
 refine Q4<|Q3<|Q6 ?_;have hp:(tkT T id).prev≠0:=by simpa using hb
 obtain⟨⟨f1,f2⟩,f3,f4,f5,f6,f7⟩:=hf.resolve_left hp;refine I0 14 rfl<|I4 rfl (S.cel 0 rfl) rfl<|Il rfl rfl<|I1 rfl ?_
 refine QT (n:=4) rfl rfl rfl gn rfl (fun hb=>by
  refine D0 14 hb rfl<|D4 hb rfl (S.cel 0 rfl) rfl<|D1 hb rfl<|Dh hb rfl rfl ?_
  exact Q0 ⟨rfl,rfl,4,rfl,rfl⟩) ?_
 refine I1 rfl ?_
 refine QT (n:=8) rfl rfl rfl gn rfl (fun hb=>by
  refine D0 0 hb rfl<|D4 hb rfl (S.cel 0 rfl) rfl<|Dn hb rfl rfl<|D1 hb rfl ?_
  refine Qp (n:=3) rfl rfl rfl (gy rfl rfl rfl hb) rfl (fun hb=>by
   refine D0 0 hb rfl<|D4 hb rfl (S.cel 0 rfl) rfl<|Dn hb rfl rfl ?_
   exact Q0 ⟨rfl,rfl,3,rfl,rfl⟩) ?_
  exact Q0 ⟨rfl,rfl,5,rfl,rfl⟩) ?_
 refine Q0<|Q2 rfl (fun hb=>?_) fun hb=>?_
 · skip
   refine Q3 ?_;exact absurd hb (by simp;omega)
 refine Q4<|Q3<|I9 ?_;obtain⟨tcs,tm,ttg,ttl,ttr,ttf⟩:=(R.ext S.e0).tk f1 (by omega);refine I1 rfl<|I6 rfl<|I0 0 rfl<|I0 0 rfl<|I4 rfl (S.old0 y1 y4) rfl<|I0 14 rfl<|I4 rfl (S.cel 0 rfl) rfl<|Iso rfl rfl<|I5o 15 rfl rfl<|I3 15 rfl ttg ttl ?_;rw[ttr];refine Qo (zv:=.agg #[.int .i64 0,.int .i64 0,.int .i64 0,.int .i64 0,.int .i64 0,.int .i64 0,.int .i64 0,.bool false,.int .i64 0,.int .i64 0,.int .i64 0,.int .i64 0,.int .i64 0,.int .i64 0,.int .i64 0]) S gn rfl (by kernel_rfl) fun b2 g nb2 S=>?_
 refine Qe (n:=15) 0 S gn rfl rfl (by kernel_rfl) (by kernel_rfl) rfl rfl (by decide) rfl (fun g S=>ag0) fun g S=>?_;refine Q0<|Q3<|I9<|I0 0 rfl<|I4 rfl (S.cel 0 rfl) rfl<|I0 0 rfl<|I4 rfl (S.cel 1 rfl) rfl<|Ie rfl rfl<|I1 rfl ?_
 refine Qp (n:=5) rfl rfl rfl gn rfl (fun hb=>by
  refine D0 1 hb rfl<|D4 hb rfl (S.cel 0 rfl) rfl<|D0 1 hb rfl<|D4 hb rfl (S.cel 1 rfl) rfl<|De hb rfl rfl ?_
  exact Q0 ⟨rfl,rfl,5,rfl,rfl⟩) ?_
 refine I1 rfl ?_
 refine Qp (n:=5) rfl rfl rfl gn rfl (fun hb=>by
  refine D0 4 hb rfl<|D4 hb rfl (S.cel 0 rfl) rfl<|D0 4 hb rfl<|D4 hb rfl (S.cel 1 rfl) rfl<|De hb rfl rfl ?_
  exact Q0 ⟨rfl,rfl,5,rfl,rfl⟩) ?_
 refine I1 rfl ?_
 refine Qp (n:=37) rfl rfl rfl gn rfl (fun hb=>by
  refine D1 hb rfl<|D6 hb rfl<|D0 2 hb rfl<|D4 hb rfl (S.old0 y1 y4) rfl<|D1 hb rfl<|D5o 1 hb rfl rfl<|D4 hb rfl (S.old0 y3 y6) (Zd (by omega) (by omega))<|Dl hb rfl rfl<|D1 hb rfl ?_
  refine QT (n:=27) rfl rfl rfl (gy rfl rfl rfl hb) rfl (fun hb=>by
   refine D1 hb rfl<|D6 hb rfl<|D0 3 hb rfl<|D4 hb rfl (S.old0 y1 y4) rfl<|D0 14 hb rfl<|D4 hb rfl (S.cel 1 rfl) rfl<|D5o 1 hb rfl rfl<|D4 hb rfl (S.old0 y2 y5) (Zd (by omega) (by omega))<|Dh hb rfl rfl<|D1 hb rfl ?_
   refine Qp (n:=16) rfl rfl rfl (gy rfl rfl rfl hb) rfl (fun hb=>by
    refine D1 hb rfl<|D6 hb rfl<|D0 3 hb rfl<|D4 hb rfl (S.old0 y1 y4) rfl<|D0 14 hb rfl<|D4 hb rfl (S.cel 1 rfl) rfl<|D5o 1 hb rfl rfl<|D4 hb rfl (S.old0 y2 y5) (Zd (by omega) (by omega))<|D1 hb rfl<|D6 hb rfl<|D0 2 hb rfl<|D4 hb rfl (S.old0 y1 y4) rfl<|D1 hb rfl<|D5o 1 hb rfl rfl<|D4 hb rfl (S.old0 y3 y6) (Zd (by omega) (by omega))<|Dl hb rfl rfl ?_
    exact Q0 ⟨rfl,rfl,16,rfl,rfl⟩) ?_
   exact Q0 ⟨rfl,rfl,11,rfl,rfl⟩) ?_
  exact Q0 ⟨rfl,rfl,10,rfl,rfl⟩) ?_
 refine I2 rfl<|Q0<|Q7 ?_;refine⟨.inl rfl,_,rfl,?_⟩
 exact⟨congrArg Value.bool (by
  rw[f4,f5,f6];have f7:0<=Qn M id 1->0<=Qn M (tkT T id).prev 2/\Qn M (tkT T id).prev 2 <Qn M id 1:=f7
  simp;omega),S.e0⟩
end
end Go.Proofs.Yteinandjhpnceaa
namespace Go.Proofs.Yteinandjhpnceaa
open Go.X Go.May Go.Mac
theorem Q0T {id k:Int}: ∀(B L:List MMark),0<=Qn L id k->Qn (L++B) id k=Qn L id k
 | [],L,_=>by rw[List.append_nil]
 | x::B,L,h=>by
   have e:=Q5H (x:=x) h;have:=Q0T B (L++[x]) (by rw[e];exact h);rw[List.append_assoc]at this;exact this.trans e
theorem Q3n {T:List MTask} {M:List MMark} {k:Int} {j:Nat} (hj:j <M.length) (hk:M[j].kind=k) (h:Qn (M.take j) M[j].task k <0):Qn M M[j].task k=j:=by
 have e1:Qn (M.take j++[M[j]]) M[j].task k=j:=by
  rw[Zz,if_neg (by omega),if_pos ⟨rfl,hk⟩,List.length_take];omega
 have e2:M=(M.take j++[M[j]])++M.drop (j+1):=by
  rw[List.take_append_getElem,List.take_append_drop]
 have:=Q0T (M.drop (j+1)) (M.take j++[M[j]]) (by rw[e1];omega) (id:=M[j].task) (k:=k);rw[<-e2,e1]at this;exact this
theorem QeM {T:List MTask} {M:List MMark} (ok:RunOk T M) {j:Nat} (hj:j <M.length) (hk:M[j].kind=1):Qn M M[j].task 1=j:=Q3n (T:=T) hj hk ((ok.lk j hj).b.1 hk)
theorem Q1x:MapT modE 158 3 3:=⟨by kernel_rfl,by kernel_rfl⟩
def LastI (T:List MTask) (M:List MMark) (j:Nat) (N:Ms):Prop:= ∀a v,Q4O N a=some v-> ∃(i:Nat) (x:MMark),i <j/\M[i]?=some x/\x.kind=1/\(tkT T x.task).looper=a/\v=iV x.task
section
variable {h0 h:Hp} {tb tc:Nat} {ma:Option Addr} {mc:Nat} {T:List MTask} {M L:List MMark} {k bb be:Nat} {id:Int}
set_option maxHeartbeats 4000000 in
theorem t69 (y:LkAt h k bb be tb tc ma mc T M M) (R:RnAt h tb tc ma mc T M) (ok:RunOk T M):C modE 69 [Qw k] h fun v g'=>v=.bool true/\Ext h g':=by
 obtain⟨y1,y2,y3,y4,y5,y6⟩:=y;have hT:=ok.t;have hMl:=ok.m;refine Q8 (fu:=Try.f69) (by kernel_rfl) rfl ?_;have S:=SH.start h;refine Q6<|I2 rfl<|QL ?_;refine Q1U S gn rfl fun b1 g nb1 S=>?_;refine I2 rfl<|Z7<|I1 rfl<|I6 rfl<|I0 0 rfl<|I0 1 rfl<|I4 rfl (S.old0 y1 y4) rfl<|I7 rfl<|I1 rfl<|Q0<|Q5 ?_
 refine Qh [(15,_)] [(0,_),(3,_),(13,_),(14,_)] (by repeat(first|exact trivial|refine⟨rfl,?_⟩)) (fun kk lv hh=> ∃(j:Nat) (N:Ms) (cl:Nat),lv=[(15,iV j)]/\kk=M.length -j/\j<=M.length/\SH h [] [cR b1 (.map (N.map ent) cl)] hh/\LastI T M j N) (n:=M.length) ?_ fun kk lv hh hI=>?_
 · exact⟨0,[],0,rfl,by omega,by omega,S,fun a v h=>by cases h⟩
 obtain⟨j,N,cl,rfl,hkk,hj,S,hN⟩:=hI;refine Q6<|Il rfl rfl<|Q0<|Q3<|Q2 rfl (fun hb=>?_) fun hb=>?_
 · skip
   refine Q4 ?_;have hj:j <M.length:=by simpa using hb
   obtain⟨mb,mcs,mm,hma,mg,mln,mll,mlr,mlf⟩:=R.mk' (j:=(j:Int)) (by omega) (by omega);have hlk:=ok.lk j hj;have hbeg:=QeM ok hj;have eM:=Zv hj;rw[<-eM]at hlk hbeg;have hMj:M[j]?=some (mkI M j):=by rw[eM];exact List.getElem?_eq_getElem hj
   obtain⟨x1,x2⟩:=hlk.t;obtain⟨tcs,tm,ttg,ttl,ttr,ttf⟩:=R.tk x1 x2;have tt4:=ttf 4 _ (by omega) rfl;refine Q3<|Q5<|Q6 ?_;rw[hma];refine I5o 8 rfl rfl ?_;rw[<-hma];refine I3 8 rfl (S.old0 mg mln) mll ?_;rw[mlr];refine Qo (zv:=.agg #[.int .i64 0,.int .i64 0,.int .i64 0,.int .i64 0,.int .i64 0,.int .i64 0,.int .i64 0,.bool false]) S gn rfl (by kernel_rfl) fun b2 g nb2 S=>?_;refine Qe (n:=8) 0 S gn rfl rfl (by kernel_rfl) (by kernel_rfl) rfl rfl (by decide) rfl (fun g S=>ag0) fun g S=>?_;refine Q0<|Q3<|I9<|I1 rfl<|I6 rfl<|I0 0 rfl<|I0 0 rfl ?_
   refine I4 rfl (S.old0 y1 y4) rfl<|I0 1 rfl<|I4 rfl (S.cel 0 rfl) rfl<|Iso rfl rfl<|I5o 15 rfl rfl<|I0 4 rfl<|I4 rfl (S.old0 ttg R.tl) tt4<|I2 rfl<|Z7<|I0 0 rfl<|I4 rfl (S.cel 0 rfl) rfl<|In rfl rfl<|I1 rfl ?_
   refine QT (n:=2) rfl rfl rfl gn rfl (fun hb=>by
    refine D1 hb rfl<|Dl hb rfl rfl ?_
    exact Q0 ⟨rfl,rfl,2,rfl,rfl⟩) ?_
   refine Q0<|Q2 rfl (fun hb=>?_) fun hb=>?_
   · skip
     refine Ql<|Q9<|Qm<|Q1 (by kernel_rfl)<|Iao rfl rfl<|I1 rfl<|Q0 ?_;exact Z6 (M.length - (j+1)) (by omega) [(15,_)] (by repeat(first|exact trivial|refine⟨rfl,?_⟩)) ⟨j+1,N,cl,rfl,rfl,by omega,S.drop,fun a v h=>by obtain⟨i,x,hi,h⟩:=hN a v h;exact⟨i,x,by omega,h⟩⟩
   refine Q4<|Q3<|Q6<|I1 rfl<|I1 rfl<|Qdn (zv:=.int .i64 0) Q1x gn rfl rfl rfl (S.cel 1 rfl) (by kernel_rfl) ?_;have hb6:(mkI M j).kind=1/\0<=(tkT T (mkI M j).task).looper:=by simp at hb;omega
   obtain⟨o,ho,ho0,ho1,ho2⟩: ∃o:Int,(Q4O N (tkT T (mkI M j).task).looper).getD (.int .i64 0)=iV o/\0<=o/\o<=T.length/\(0 <o->0<=Qn M o 2/\Qn M o 2 <j):=by
    cases eg:Q4O N (tkT T (mkI M j).task).looper with
    |none=>exact⟨0,rfl,by omega,by omega,fun h=>by omega⟩
    | some v=>
      obtain⟨i,x,hi,hx,hk,hlo,rfl⟩:=hN _ _ eg;obtain⟨hil,rfl⟩:=List.getElem?_eq_some_iff.1 hx;have ht:=(ok.lk i hil).t;exact⟨M[i].task,rfl,by omega,ht.2,fun _=>ok.tk.alone i j M[i] (mkI M j) hi hx hMj hk hb6.1 hb6.2 hlo⟩
   rw[ho];refine I2 rfl<|Q0<|Q3<|I9<|I1 rfl<|Ig rfl rfl<|I1 rfl ?_
   refine Qp (n:=26) rfl rfl rfl gn rfl (fun hb=>by
    refine D1 hb rfl<|D6 hb rfl<|D0 3 hb rfl<|D4 hb rfl (S.old0 y1 y4) rfl<|D1 hb rfl<|D5o 1 hb rfl rfl<|D4 hb rfl (S.old0 y2 y5) (Zd (by omega) (by omega))<|Dl hb rfl rfl<|D1 hb rfl ?_
    refine QT (n:=16) rfl rfl rfl (gy rfl rfl rfl hb) rfl (fun hb=>by
     refine D1 hb rfl<|D6 hb rfl<|D0 3 hb rfl<|D4 hb rfl (S.old0 y1 y4) rfl<|D1 hb rfl<|D5o 1 hb rfl rfl<|D4 hb rfl (S.old0 y2 y5) (Zd (by omega) (by omega))<|D1 hb rfl<|D6 hb rfl<|D0 2 hb rfl<|D4 hb rfl (S.old0 y1 y4) rfl<|D0 1 hb rfl<|D4 hb rfl (S.cel 0 rfl) rfl<|D5o 1 hb rfl rfl<|D4 hb rfl (S.old0 y3 y6) (Zd (by omega) (by omega))<|Dg hb rfl rfl ?_
     exact Q0 ⟨rfl,rfl,16,rfl,rfl⟩) ?_
    exact Q0 ⟨rfl,rfl,10,rfl,rfl⟩) ?_
   refine Q0<|Q2 rfl (fun hb=>?_) fun hb=>?_
   · skip
     refine Q3 ?_;exact absurd hb (by rw[hbeg hb6.1];simp;omega)
   refine Q4<|Q1 (by kernel_rfl)<|I1 rfl<|I1 rfl<|I0 1 rfl<|I4 rfl (S.cel 0 rfl) rfl ?_;refine Q1T 1 S Q1x gn rfl rfl rfl rfl (fun g S=>ag0) fun g S=>?_;refine Q0<|Q1 (by kernel_rfl)<|Iao rfl rfl<|I1 rfl<|Q0 ?_
   exact Z6 (M.length - (j+1)) (by omega) [(15,_)] (by repeat(first|exact trivial|refine⟨rfl,?_⟩)) ⟨j+1,_,_,rfl,rfl,by omega,S.drop,fun a v h=>by
    rw[get_put]at h
    split at h
    · rename_i ha;cases h;exact⟨j,mkI M j,by omega,hMj,hb6.1,ha.symm,rfl⟩
    obtain⟨i,x,hi,h⟩:=hN a v h
    exact⟨i,x,by omega,h⟩⟩
 refine Ql<|Q9<|Qc<|Qm<|Q6<|I2 rfl<|Q0<|Q7 ?_;refine⟨.inl rfl,_,rfl,?_⟩;exact⟨rfl,S.e0⟩
end
end Go.Proofs.Yteinandjhpnceaa
namespace Go.Proofs.Yteinandjhpnceaa
open Go.X Go.May Go.Mac
theorem J2 (n:Nat):((n:Int)+1).toNat=n+1:=by omega
theorem J6 (v:Value): ∀n,Qd [v] n=List.replicate n v
 |0=>rfl
 | n+1=>by
   show[v]++Qd [v] n=_;rw[J6 v n];rfl
def flA (n j:Nat):List Value:=List.replicate j (iV (-1))++List.replicate (n+1 -j) (iV 0)
theorem flA_zero {n:Nat}:Qd [.int .i64 0] (n+1)=flA n 0:=by rw[J6];rfl
theorem Q4t {n j:Nat} (h:j<=n+1):(flA n j).length=n+1:=by simp[flA];omega
theorem Q8v {n j:Nat} (h:j <n+1):(flA n j).set (0+Int.toNat (j:Int)*1) (iV (-1))=flA n (j+1):=by
 unfold flA;rw[Nat.zero_add,Nat.mul_one,Int.toNat_natCast,List.set_append_right _ _ (by rw[List.length_replicate];exact Nat.le_refl _),List.length_replicate,Nat.sub_self,show n+1 -j=(n+1 - (j+1))+1 by omega,List.replicate_succ,List.set_cons_zero,List.replicate_succ',List.append_assoc];rfl
theorem Q4u {n:Nat} {k:Int}:flA n (n+1)=ixL [] n k:=by
 unfold flA ixL;rw[Nat.sub_self,List.replicate_zero,List.append_nil];have: ∀i:Nat,iV (Qn [] (i:Int) k)=iV (-1):=fun i=>rfl;simp only[this];rw[List.map_const',List.length_range]
section
variable {h0 h:Hp} {tb tc:Nat} {ma:Option Addr} {mc:Nat} {T:List MTask} {M L:List MMark} {k bb be:Nat} {id:Int}
set_option maxHeartbeats 8000000 in
theorem t36 (R:RnAt h tb tc ma mc T M) (ok:RunOk T M):C modE 36 [.agg #[tsV tb tc T,msV ma mc M]] h fun v g'=>v=.bool true/\Ext h g':=by
 have hT:=ok.t;have hM:=ok.m;refine Q8 (fu:=Try.f36) (by kernel_rfl) rfl ?_;have S:=SH.start h;refine Q6 ?_;refine QX S gn rfl rfl fun b1 g nb1 S=>?_;refine I2 rfl<|Z7<|I0 0 rfl<|I4 rfl (S.cel 0 rfl) rfl<|I7 rfl<|Ig rfl rfl<|I1 rfl ?_
 refine QT (n:=4) rfl rfl rfl gn rfl (fun hb=>by
  refine D0 1 hb rfl<|D4 hb rfl (S.cel 0 rfl) rfl<|D7 hb rfl<|Dg hb rfl rfl ?_
  exact Q0 ⟨rfl,rfl,4,rfl,rfl⟩) ?_
 refine Q0<|Q2 rfl (fun hb=>?_) fun hb=>?_
 · skip
   refine Q3 ?_;exact absurd hb (by simp;omega)
 refine Q4<|Q3<|I9<|I3 2 rfl (S.cel 0 rfl) (Nat.le_refl _)<|I0 0 rfl<|I4 rfl (S.cel 0 rfl) rfl<|I7 rfl<|Iao rfl rfl ?_;refine Z3 (e:=3) (z:=0) (zv:=.int .i64 0) (by':=8) S gn rfl rfl rfl (by kernel_rfl) (by kernel_rfl) (by kernel_rfl) (by kernel_rfl) (by decide) (by omega) (by omega) (by omega) (by omega) fun b2 g nb2 S=>?_;rw[J2]at S ⊢;have S:SH h [] [cR b2 (.cells (flA T.length 0) 3 0),cR b1 (.cells [tsV tb tc T,msV ma mc M] 39 0)] g:=by rw[<-flA_zero];exact S
 refine I0 0 rfl<|I4 rfl (S.cel 1 rfl) rfl<|I7 rfl<|Iao rfl rfl ?_;refine Z3 (e:=3) (z:=0) (zv:=.int .i64 0) (by':=8) S gn rfl rfl rfl (by kernel_rfl) (by kernel_rfl) (by kernel_rfl) (by kernel_rfl) (by decide) (by omega) (by omega) (by omega) (by omega) fun b3 g nb3 S=>?_;rw[J2]at S ⊢;have S:SH h [] [cR b3 (.cells (flA T.length 0) 3 0),cR b2 (.cells (flA T.length 0) 3 0),cR b1 (.cells [tsV tb tc T,msV ma mc M] 39 0)] g:=by rw[show flA T.length 0=Qd [.int .i64 0] (T.length+1) from flA_zero.symm]at S ⊢;exact S
 refine Qz (zv:=.agg #[.slice none 0 0,.slice none 0 0,.slice none 0 0,.slice none 0 0]) (pl:=[(0,2),(2,1),(3,1)]) [(0,_),(1,_),(2,_)] gn rfl (by kernel_rfl) (by kernel_rfl) rfl (by rfl) ?_;refine QX S gn rfl rfl fun b4 g nb4 S=>?_;refine I2 rfl<|Z7<|I1 rfl<|I6 rfl<|I0 2 rfl<|I4 rfl (S.cel 0 rfl) rfl<|I7 rfl<|I1 rfl<|Q0<|Q5 ?_
 refine Qh [(37,_)] [(1,_),(3,_),(36,_)] (by repeat(first|exact trivial|refine⟨rfl,?_⟩)) (fun kk lv hh=> ∃j:Nat,lv=[(37,iV j)]/\kk=T.length+1 -j/\j<=T.length+1/\SH h [] [cR b4 (.cells [tsV tb tc T,msV ma mc M,.slice (some ⟨b2,0,none⟩) (T.length+1) (T.length+1),.slice (some ⟨b3,0,none⟩) (T.length+1) (T.length+1)] 155 0),cR b3 (.cells (flA T.length j) 3 0),cR b2 (.cells (flA T.length j) 3 0),cR b1 (.cells [tsV tb tc T,msV ma mc M] 39 0)] hh) (n:=(T.length+1)) ?_ fun kk lv hh hI=>?_
 · exact⟨0,rfl,rfl,by omega,S⟩
 obtain⟨j,rfl,hkk,hj,S⟩:=hI;refine Q6<|Il rfl rfl<|Q0<|Q3<|Q2 rfl (fun hb=>?_) fun hb=>?_
 · skip
   refine Q4 ?_;have hj:j <T.length+1:=by simp at hb;omega
   refine Q3<|Q5<|Q6<|I1 rfl<|I2 rfl<|Q0<|I9<|I1 rfl<|I6 rfl<|I0 2 rfl<|I4 rfl (S.cel 0 rfl) rfl<|I1 rfl<|I1 rfl<|I6 rfl<|I0 3 rfl<|I4 rfl (S.cel 0 rfl) rfl ?_;refine I1 rfl<|I5o 1 rfl rfl ?_;refine Qi 2 S gn rfl rfl rfl (by kernel_rfl) rfl (by decide) (by rw[Q4t (by omega)];omega) (fun g S=>ag0) fun g S=>?_;refine I5o 1 rfl rfl ?_;refine Qi 1 S gn rfl rfl rfl (by kernel_rfl) rfl (by decide) (by rw[Q4t (by omega)];omega) (fun g S=>ag0) fun g S=>?_;refine Q0<|Q1 (by kernel_rfl)<|Iao rfl rfl ?_
   refine I1 rfl<|Q0 ?_;exact Z6 (T.length+1 - (j+1)) (by omega) [(37,_)] (by repeat(first|exact trivial|refine⟨rfl,?_⟩)) ⟨j+1,rfl,rfl,by omega,by rw[<-Q8v hj];exact S⟩
 refine Ql<|Q9<|Qc<|Qm<|Q3<|Q3 ?_;obtain rfl:j=T.length+1:=by simp at hb;omega
 have S:SH h [] (lkR b4 b2 b3 tb tc ma mc T M []++[cR b1 (.cells [tsV tb tc T,msV ma mc M] 39 0)]) hh:=by
  unfold lkR;rw[<-Q4u,<-Q4u];exact S
 refine Q1 (by kernel_rfl)<|I0 1 rfl<|I4 rfl (S.cel 3 rfl) rfl<|I7 rfl<|I1 rfl<|Q0<|Q5<|Qh [(56,_)] [(1,_),(3,_),(54,_),(55,_)] (by repeat(first|exact trivial|refine⟨rfl,?_⟩)) (fun kk lv hh=> ∃j:Nat,lv=[(56,iV j)]/\kk=M.length -j/\j<=M.length/\SH h [] (lkR b4 b2 b3 tb tc ma mc T M (M.take j)++[cR b1 (.cells [tsV tb tc T,msV ma mc M] 39 0)]) hh) (n:=M.length) ?_ fun kk lv hh hI=>?_
 · exact⟨0,rfl,rfl,by omega,S⟩
 obtain⟨j,rfl,hkk,hj,S⟩:=hI;refine Q6<|Il rfl rfl<|Q0<|Q3<|Q2 rfl (fun hb=>?_) fun hb=>?_
 · skip
   refine Q4 ?_;have hj:j <M.length:=by simpa using hb
   obtain⟨mb,mcs,mm,hma,mg,mln,mll,mlr,mlf⟩:=R.mk' (j:=(j:Int)) (by omega) (by omega);have hlk:=ok.lk j hj;have eM:=Zv hj;rw[<-eM]at hlk;refine Q3<|Q5<|Q6<|I1 rfl ?_;rw[hma];refine I5o 8 rfl rfl ?_;rw[<-hma];refine I3 8 rfl (S.old0 mg mln) mll ?_;rw[mlr];refine Qo (zv:=.agg #[.int .i64 0,.int .i64 0,.int .i64 0,.int .i64 0,.int .i64 0,.int .i64 0,.int .i64 0,.bool false]) S gn rfl (by kernel_rfl) fun b5 g nb5 S=>?_;refine I2 rfl ?_;refine Qe (n:=8) 0 S gn rfl rfl (by kernel_rfl) (by kernel_rfl) rfl rfl (by decide) rfl (fun g S=>ag0) fun g S=>?_;refine QL<|I1 rfl<|I1 rfl ?_
   refine I3 8 rfl (S.cel 0 rfl) (Nat.le_refl _) ?_;have S:=SH.comm (A:=[_]) S;have e66:=t66 (k:=b4) (bb:=b2) (be:=b3) (L:=M.take j) (SH.subL (A:=lkR b4 b2 b3 tb tc ma mc T M (M.take j)) (B:=[_,_]) (SH.start h) (by simp) S) R hT hlk;rw[List.length_take,Nat.min_eq_left (by omega)]at e66;refine Ic [_,_,_] rfl rfl (C.mono e66 ?_);rintro v g ⟨rfl,S2⟩;have S:=SH.retL (A:=lkR b4 b2 b3 tb tc ma mc T M (M.take j)) (B:=[_,_]) S S2;rw[eM,List.take_append_getElem hj]at S;refine⟨ag0,?_⟩;refine Ib rfl<|Q0<|Q2 rfl (fun hb=>?_) fun hb=>?_
   · skip
     refine Q3 ?_;exact absurd hb (by decide)
   refine Q4<|Q1 (by kernel_rfl)<|Iao rfl rfl<|I1 rfl<|Q0 ?_;exact Z6 (M.length - (j+1)) (by omega) [(56,_)] (by repeat(first|exact trivial|refine⟨rfl,?_⟩)) ⟨j+1,rfl,rfl,by omega,SH.fst (A:=lkR b4 b2 b3 tb tc ma mc T M (M.take (j+1))++[cR b1 _]) S⟩
 refine Ql<|Q9<|Qc<|Qm<|Q3<|Q3 ?_;obtain rfl:j=M.length:=by simp at hb;omega
 rw[List.take_length]at S;refine Q1 (by kernel_rfl)<|I0 0 rfl<|I4 rfl (S.cel 3 rfl) rfl<|I7 rfl<|I1 rfl<|Q0<|Q5<|Qh [(70,_)] [(3,_),(68,_),(69,_)] (by repeat(first|exact trivial|refine⟨rfl,?_⟩)) (fun kk lv hh=> ∃j:Nat,lv=[(70,iV j)]/\kk=T.length -j/\j<=T.length/\SH h [] (lkR b4 b2 b3 tb tc ma mc T M M++[cR b1 (.cells [tsV tb tc T,msV ma mc M] 39 0)]) hh) (n:=T.length) ?_ fun kk lv hh hI=>?_
 · exact⟨0,rfl,rfl,by omega,S⟩
 obtain⟨j,rfl,hkk,hj,S⟩:=hI;refine Q6<|Il rfl rfl<|Q0<|Q3<|Q2 rfl (fun hb=>?_) fun hb=>?_
 · skip
   refine Q4 ?_;have hj:j <T.length:=by simpa using hb
   obtain⟨tcs,tm,ttg,ttl,ttr,ttf⟩:=R.tk (id:=(j:Int)+1) (by omega) (by omega);have hkd:=ok.tk.kd (j+1) (by omega) (by omega);have ej:(j:Int)+1 -1=j:=by omega
   rw[ej]at ttl ttr;refine Q3<|Q5<|Q6<|I1 rfl<|I5o 15 rfl rfl<|I3 15 rfl (S.old0 ttg R.tl) ttl ?_;rw[ttr];refine Qo (zv:=.agg #[.int .i64 0,.int .i64 0,.int .i64 0,.int .i64 0,.int .i64 0,.int .i64 0,.int .i64 0,.bool false,.int .i64 0,.int .i64 0,.int .i64 0,.int .i64 0,.int .i64 0,.int .i64 0,.int .i64 0]) S gn rfl (by kernel_rfl) fun b6 g nb6 S=>?_;refine I2 rfl ?_;refine Qe (n:=15) 0 S gn rfl rfl (by kernel_rfl) (by kernel_rfl) rfl rfl (by decide) rfl (fun g S=>ag0) fun g S=>?_;refine QL<|I0 0 rfl<|I4 rfl (S.cel 0 rfl) rfl<|Il rfl rfl<|I1 rfl ?_
   refine QT (n:=3) rfl rfl rfl gn rfl (fun hb=>by
    refine D0 0 hb rfl<|D4 hb rfl (S.cel 0 rfl) rfl<|Dg hb rfl rfl ?_
    exact Q0 ⟨rfl,rfl,3,rfl,rfl⟩) ?_
   refine I1 rfl ?_
   refine QT (n:=7) rfl rfl rfl gn rfl (fun hb=>by
    refine D0 0 hb rfl<|D4 hb rfl (S.cel 0 rfl) rfl<|De hb rfl rfl<|D0 4 hb rfl<|D4 hb rfl (S.cel 0 rfl) rfl<|Dl hb rfl rfl<|Qdm (gy rfl rfl rfl hb) rfl rfl rfl (by kernel_rfl) ?_
    exact Q0 ⟨rfl,rfl,7,rfl,rfl⟩) ?_
   refine I1 rfl<|Ze (dc:=92) rfl (fun hb92=>?_) fun hb92=>?_
   · skip
     exact absurd hb92 (by simp;omega)
   refine D1 hb92 rfl<|D1 hb92 rfl<|Dao hb92 rfl rfl<|D3 15 hb92 rfl (S.cel 0 rfl) (Nat.le_refl _)<|Dc hb92 [_,_,_] rfl rfl (C.mono (t67 (LkAt.of (A:=[_]) (B:=[_]) S) (R.ext S.e0) hT (by omega) (by omega) (ok.tk.made (j+1) (by omega) (by omega))) ?_);rintro v g ⟨rfl,x⟩;have S:=S.grow x;refine⟨ag0,?_⟩;refine Db hb92 rfl<|Iu rfl hb92 rfl<|I1 rfl<|Ze (dc:=100) rfl (fun hb100=>?_) fun hb100=>?_
   · skip
     exact absurd hb100 (by simp)
   refine D1 hb100 rfl<|D1 hb100 rfl<|Dao hb100 rfl rfl<|D3 15 hb100 rfl (S.cel 0 rfl) (Nat.le_refl _)<|Dc hb100 [_,_,_] rfl rfl (C.mono (t68 (LkAt.of (A:=[_]) (B:=[_]) S) (R.ext S.e0) hT (by omega) (by omega) (ok.tk.fol (j+1) (by omega) (by omega))) ?_);rintro v g ⟨rfl,x⟩;have S:=S.grow x;refine⟨ag0,?_⟩;refine Db hb100 rfl<|Iu rfl hb100 rfl<|Q0<|Q2 rfl (fun hb=>?_) fun hb=>?_
   · skip
     refine Q3 ?_;exact absurd hb (by decide)
   refine Q4<|Q1 (by kernel_rfl)<|Iao rfl rfl<|I1 rfl<|Q0 ?_;exact Z6 (T.length - (j+1)) (by omega) [(70,_)] (by repeat(first|exact trivial|refine⟨rfl,?_⟩)) ⟨j+1,rfl,rfl,by omega,S.drop⟩
 refine Ql<|Q9<|Qc<|Qm<|Q6<|I1 rfl<|Ic [_] rfl rfl (C.mono (t69 (LkAt.of (A:=[]) (B:=[_]) S) (R.ext S.e0) ok) ?_);rintro v g ⟨rfl,x⟩;have S:=S.grow x;refine⟨ag0,?_⟩;refine I2 rfl<|Q0<|Q7 ?_;refine⟨.inl rfl,_,rfl,?_⟩;exact⟨rfl,S.e0⟩
set_option maxHeartbeats 1000000 in
theorem t18 (R:RnAt h tb tc ma mc T M) (ok:RunOk T M) (hM:M.length<=1200):C modE 18 [.agg #[tsV tb tc T,msV ma mc M]] h fun v g'=>v=iV 0/\Ext h g':=by
 refine Q8 (fu:=Try.f18) (by kernel_rfl) rfl ?_;have S:=SH.start h;refine Q6 ?_;refine QX S gn rfl rfl fun b1 g nb1 S=>?_;refine I2 rfl<|Q0<|Q3<|Q5<|Q6<|I3 2 rfl (S.cel 0 rfl) (Nat.le_refl _)<|Ic [_] rfl rfl (C.mono (t36 (R.ext S.e0) ok) ?_);rintro v g ⟨rfl,x⟩;have S:=S.grow x;refine⟨ag0,?_⟩;refine Ib rfl<|I2 rfl<|Q0<|Q2 rfl (fun hb=>?_) fun hb=>?_
 · skip
   refine Q3 ?_;exact absurd hb (by decide)
 refine Q6<|I0 1 rfl<|I4 rfl (S.cel 0 rfl) rfl<|I7 rfl<|Ig rfl rfl<|I2 rfl<|Q0<|Q2 rfl (fun hb=>?_) fun hb=>?_
 · skip
   refine Q3 ?_;exact absurd hb (by simp;omega)
 refine Q4<|Q6<|I2 rfl<|Q0<|Q7 ?_;refine⟨.inl rfl,_,rfl,?_⟩;exact⟨rfl,S.e0⟩
end
end Go.Proofs.Yteinandjhpnceaa
namespace Go.Proofs.Yteinandjhpnceaa
open Go.X Go.May Go.Mac
def rel (R:Nat->Nat->Prop) (a b:Int):Prop:=0<=a/\0<=b/\R a.toNat b.toNat
def Q6h (T:List MTask) (M:List MMark) (a b:Int):Prop:=a≠b/\0<=(tkT T a).looper/\(tkT T a).looper=(tkT T b).looper/\0<=eIx M a/\eIx M a <bIx M b
def FifoP (T:List MTask) (R:Nat->Nat->Prop) (a b:Int):Prop:=(tkT T a).kind=4/\(tkT T b).kind=4/\(tkT T b).front=false/\((tkT T a).front=true\/(tkT T a).delay<=(tkT T b).delay)/\rel R (tkT T a).mark (tkT T b).mark
structure BaseP (T:List MTask) (M:List MMark) (R:Nat->Nat->Prop):Prop where
 next: ∀i k:Nat,i <k->k <M.length->(mkI M i).task=(mkI M k).task->(∀j:Nat,i <j->j <k->(mkI M j).task≠(mkI M k).task)->R i k
 join: ∀i:Nat,i <M.length->(mkI M i).kind=6->0<=eIx M (mkI M i).other->R (eIx M (mkI M i).other).toNat i
 made: ∀id:Int,1<=id->id<=T.length->0<=(tkT T id).mark->0<=bIx M id->R (tkT T id).mark.toNat (bIx M id).toNat
 fol: ∀id:Int,1<=id->id<=T.length->0 <(tkT T id).prev->0<=eIx M (tkT T id).prev->0<=bIx M id->R (eIx M (tkT T id).prev).toNat (bIx M id).toNat
structure Clo (T:List MTask) (M:List MMark) (R:Nat->Nat->Prop):Prop where
 base:BaseP T M R
 trans: ∀a b c,R a b->R b c->R a c
 seven: ∀a b:Int,1<=a->a<=T.length->1<=b->b<=T.length->Q6h T M a b->FifoP T R a b->R (eIx M a).toNat (bIx M b).toNat
 eight: ∀a b:Int,1<=a->a<=T.length->1<=b->b<=T.length->Q6h T M a b->rel R (bIx M a) (bIx M b)->R (eIx M a).toNat (bIx M b).toNat
def HB (T:List MTask) (M:List MMark) (i k:Nat):Prop:= ∀R,Clo T M R->R i k
theorem hb_clo {T:List MTask} {M:List MMark}:Clo T M (HB T M) where
 base:=⟨fun i k a b c d R h=>h.base.next i k a b c d,fun i a b c R h=>h.base.join i a b c,fun id a b c d R h=>h.base.made id a b c d,fun id a b c d e R h=>h.base.fol id a b c d e⟩
 trans:=fun a b c h1 h2 R h=>h.trans a b c (h1 R h) (h2 R h)
 seven:=fun a b a1 a2 b1 b2 ha hf R h=>h.seven a b a1 a2 b1 b2 ha ⟨hf.1,hf.2.1,hf.2.2.1,hf.2.2.2.1,hf.2.2.2.2.1,hf.2.2.2.2.2.1,hf.2.2.2.2.2.2 R h⟩
 eight:=fun a b a1 a2 b1 b2 ha hf R h=>h.eight a b a1 a2 b1 b2 ha ⟨hf.1,hf.2.1,hf.2.2 R h⟩
theorem Q5G {M:List MMark} {n:Nat} {id k:Int} (h:0<=Qn (M.take n) id k):Qn M id k=Qn (M.take n) id k:=by
 have:=Q0T (M.drop n) (M.take n) h;rwa[List.take_append_drop]at this
theorem Kh {M:List MMark} {id k:Int} (h:0<=Qn M id k):Qn M id k <M.length/\(mkI M (Qn M id k)).task=id/\(mkI M (Qn M id k)).kind=k:=by
 refine⟨QB,?_⟩;unfold Qn at h ⊢;cases e:M.findIdx? (fun x=>decide (x.task=id)&&decide (x.kind=k))with
 |none=>rw[e]at h;exact absurd h (by show ¬(0:Int)<= -1;omega)
 | some i=>
   obtain⟨hi,h2,_⟩:=List.findIdx?_eq_some_iff_getElem.1 e;simp only[Bool.and_eq_true,decide_eq_true_eq]at h2;show(mkI M (i:Int)).task=id/\(mkI M (i:Int)).kind=k;rw[Zv hi];exact h2
theorem Q4e {M:List MMark} {id k:Int} (h:0<=Qn M id k):M[(Qn M id k).toNat]?=some (mkI M (Qn M id k)):=QaX h (Kh h).1
section
variable {T:List MTask} {M:List MMark}
theorem Q8F (ok:RunOk T M) {a b:Int} (h0:0<=(tkT T a).looper) (hl:(tkT T a).looper=(tkT T b).looper) (ha:0<=bIx M a) (hab:bIx M a <bIx M b):0<=eIx M a/\eIx M a <bIx M b:=by
 have hb:0<=bIx M b:=by omega
 have sa:=Kh ha;have sb:=Kh hb;have:=ok.tk.alone (bIx M a).toNat (bIx M b).toNat (mkI M (bIx M a)) (mkI M (bIx M b)) (by omega) (Q4e ha) (Q4e hb) sa.2.2 sb.2.2 (by rw[sb.2.1,<-hl];exact h0) (by rw[sa.2.1,sb.2.1];exact hl);rw[sa.2.1]at this;have e:(((bIx M b).toNat:Nat):Int)=bIx M b:=by omega
 rw[e]at this;exact this
theorem Q1k (ok:RunOk T M) {i k:Nat} (h:HB T M i k):i <k/\k <M.length:=by
 refine h (fun a b=>a <b/\b <M.length) ⟨⟨fun i k h1 h2 _ _=>⟨h1,h2⟩,fun i hi hk he=>?_,fun id i1 i2 hm hb=>?_,fun id i1 i2 hp he hb=>?_⟩,fun a b c h1 h2=>⟨by omega,h2.2⟩,fun a b _ _ _ _ h _=>?_,fun a b _ _ _ _ h _=>?_⟩
 · have hl:=ok.lk i hi;rw[<-Zv hi]at hl;have hj:=Q07 hl hk;have e:=Q5G (M:=M) (n:=i) hj.2.2;have hlt:=QB (L:=M.take i) (id:=(mkI M i).other) (k:=2);rw[List.length_take]at hlt;refine⟨?_,hi⟩;show(Qn M (mkI M i).other 2).toNat <i;rw[e];omega
 · have:=(ok.tk.made id i1 i2).2 hm;have h2:=this.1 hb;have h3:=QB (L:=M) (id:=id) (k:=1);have h4:bIx M id=Qn M id 1:=rfl;omega
 · have hf:=ok.tk.fol id i1 i2;rcases hf with h0| ⟨_,_,_,_,_,h6⟩
   · omega
   have:=h6 hb;have h3:=QB (L:=M) (id:=id) (k:=1);have h4:bIx M id=Qn M id 1:=rfl;omega
 · have h3:=QB (L:=M) (id:=b) (k:=1);have h4:bIx M b=Qn M b 1:=rfl;obtain⟨_,_,_,h5,h6⟩:=h;omega
 have h3:=QB (L:=M) (id:=b) (k:=1);have h4:bIx M b=Qn M b 1:=rfl;obtain⟨_,_,_,h5,h6⟩:=h;omega
theorem Q77: ∀(d i k:Nat),k=i+d+1->k <M.length->(mkI M i).task=(mkI M k).task->HB T M i k:=by
 intro d
 induction d using Nat.strongRecOn with
 | _ d ih=>
   intro i k hk hl ht;by_cases h: ∀j:Nat,i <j->j <k->(mkI M j).task≠(mkI M k).task
   · exact hb_clo.base.next i k (by omega) hl ht h
   simp only[Classical.not_forall,Classical.not_not]at h;obtain⟨j,h1,h2,h3⟩:=h;exact hb_clo.trans i j k (ih (j -i -1) (by omega) i j (by omega) (by omega) (by rw[h3];exact ht)) (ih (k -j -1) (by omega) j k (by omega) hl h3)
end
end Go.Proofs.Yteinandjhpnceaa
namespace Go.Proofs.Yteinandjhpnceaa
open Go.X Go.Model
section
variable {h:Hp} {r n a b k:Nat} {W:Nat->Nat->BitVec 64} {e:TypeId} {m:Nat}
theorem c45 (hr:h.get r=some (.cells (Zc n W) e m)) (ha:a <n) (_hn:n<=2000) (hb:b <1216):CP modE 45 [.pointer (some ⟨r,a*19,none⟩),iV b] h (.bool (QS (W a) b)):=by
 refine Q8 (fu:=Try.f45) (by kernel_rfl) rfl ?_;refine Q6<|I2 rfl<|QL<|I1 rfl<|I1 rfl<|Qev (b:=64) gn rfl rfl rfl (by omega) (by omega)<|I6 rfl<|QW (n:=19) (e:=124) (zz:=1) gn rfl rfl rfl (by kernel_rfl) (by omega) (by omega) ?_;rw[Int.toNat_natCast];refine Y2 gn rfl rfl (by kernel_rfl) hr (by rw[Nat.mul_one];exact JW W ha (by omega))<|I1 rfl<|Qeu (b:=64) gn rfl rfl rfl (by omega)<|o_shrU (W a (b/64)) (b%64) gn rfl rfl rfl (by omega)<|o_andU (_) (1#64) gn rfl rfl rfl<|Ie rfl rfl<|I2 rfl<|Q0<|Q7 ?_
 refine⟨.inl rfl,_,rfl,?_⟩;exact⟨by rw[QS,<-QfX];rfl,rfl⟩
theorem Q3i (x:Nat): ¬((x:Int)<0):=by omega
theorem c44 {c:Nat} {x y z u:Value} (hr:h.get r=some (.cells (Zc n W) 126 m)) (hm:m≠1) (ht:h.get c=some (.cells [x,y,.slice (some ⟨r,0,none⟩) n k,z,u] 122 0)) (ha:a <n) (hn:n<=2000) (hb0:b <1216):
 C modE 44 [Qw c,iV a,iV b] h fun v h'=>v=.bool (!QS (W a) b)/\ ∃W',h'.get r=some (.cells (Zc n W') 126 m)/\ExtB [r] h h'/\ ∀a' i,QS (W' a') i=(QS (W a') i||(decide (a'=a)&&decide (i=b))):=by
 refine Q8 (fu:=Try.f44) (by kernel_rfl) rfl ?_;refine Q6<|I2 rfl<|Z7<|I1 rfl<|Il rfl rfl<|I1 rfl ?_
 refine QT (n:=2) rfl rfl rfl gn rfl (fun hb=>by
  refine D1 hb rfl<|Dl hb rfl rfl ?_
  exact Q0 ⟨rfl,rfl,2,rfl,rfl⟩) ?_
 refine I1 rfl ?_
 refine QT (n:=8) rfl rfl rfl gn rfl (fun hb=>by
  refine D1 hb rfl<|D6 hb rfl<|D0 2 hb rfl<|D4 hb rfl (by assumption) rfl<|D1 hb rfl<|D5o 19 hb rfl rfl ?_;rw[Int.toNat_natCast,Nat.zero_add];refine D1 hb rfl<|Dc hb [_,_] rfl rfl (Qr (c45 hr ha hn hb0) ⟨ag0,?_⟩)
  exact Q0 ⟨rfl,rfl,8,rfl,rfl⟩) ?_
 refine Q0<|Q2 rfl (fun hb=>?_) fun hb=>?_
 · skip
   refine Q6<|I2 rfl<|Q0<|Q7 ?_;refine⟨.inl rfl,_,rfl,?_⟩;have hbt:QS (W a) b=true:=by simpa[Q3i]using hb
   refine⟨by rw[hbt];rfl,W,hr,.refl _ _,fun a' i=>?_⟩;by_cases e:a'=a/\i=b
   · obtain⟨rfl,rfl⟩:=e;simp[hbt]
   have:(decide (a'=a)&&decide (i=b))=false:=by simpa using e
   rw[this,Bool.or_false]
 refine Q4<|Q3<|I9<|I1 rfl<|I6 rfl<|I0 2 rfl<|I4 rfl (by assumption) rfl<|I1 rfl<|I1 rfl<|Qev (b:=64) gn rfl rfl rfl (by omega) (by omega)<|I5o 19 rfl rfl ?_;rw[Int.toNat_natCast,Nat.zero_add];refine QW (n:=19) (e:=124) (zz:=1) gn rfl rfl rfl (by kernel_rfl) (by omega) (by omega) ?_;rw[Int.toNat_natCast];refine Y2 gn rfl rfl (by kernel_rfl) hr (by rw[Nat.mul_one];exact JW W ha (by omega))<|I1 rfl<|Qeu (b:=64) gn rfl rfl rfl (by omega)<|o_shlU (1#64) (b%64) gn rfl rfl rfl (by omega)<|o_orU (_) (_) gn rfl rfl rfl ?_
 refine I5o 19 rfl rfl ?_;rw[Int.toNat_natCast,Nat.zero_add];refine QW (n:=19) (e:=124) (zz:=1) gn rfl rfl rfl (by kernel_rfl) (by omega) (by omega) ?_;rw[Int.toNat_natCast];refine Q6S gn rfl rfl rfl (by kernel_rfl) hr hm (by rw[Q59];omega) ag0<|QL<|I2 rfl<|Q0<|Q7 ?_;refine⟨.inl rfl,_,rfl,?_⟩;have hbf:QS (W a) b=false:=by simpa[Q3i]using hb
 refine⟨by rw[hbf];rfl,Qek W a (b/64) (W a (b/64)|||1#64 <<<(b%64)),?_,ExtB.put _ _ _,Qgf W a b⟩;rw[Hp.get_put,if_pos rfl,Nat.mul_one,Q58 W _ ha (by omega)]
theorem c20 {c:Nat} {x y z u:Value} (hr:h.get r=some (.cells (Zc n W) 126 m)) (ht:h.get c=some (.cells [x,y,.slice (some ⟨r,0,none⟩) n k,z,u] 122 0)) (ha:a <n) (hn:n<=2000) (hb0:b <1216):
 CP modE 20 [Qw c,iV a,iV b] h (.bool (QS (W a) b)):=by
 refine Q8 (fu:=Try.f20) (by kernel_rfl) rfl ?_;refine Q6<|I2 rfl<|QL<|I1 rfl<|Ih rfl rfl<|I1 rfl ?_
 refine Qp (n:=2) rfl rfl rfl gn rfl (fun hb=>by
  refine D1 hb rfl<|Dh hb rfl rfl ?_
  exact Q0 ⟨rfl,rfl,2,rfl,rfl⟩) ?_
 refine I1 rfl ?_
 refine Qp (n:=8) rfl rfl rfl gn rfl (fun hb=>by
  refine D1 hb rfl<|D6 hb rfl<|D0 2 hb rfl<|D4 hb rfl (by assumption) rfl<|D1 hb rfl<|D5o 19 hb rfl rfl ?_;rw[Int.toNat_natCast,Nat.zero_add];refine D1 hb rfl<|Dc hb [_,_] rfl rfl (Qr (c45 hr ha hn hb0) ⟨ag0,?_⟩)
  exact Q0 ⟨rfl,rfl,8,rfl,rfl⟩) ?_
 refine I2 rfl<|Q0<|Q7 ?_;refine⟨.inl rfl,_,rfl,?_⟩;exact⟨by simp[oneOf],rfl⟩
end
end Go.Proofs.Yteinandjhpnceaa
namespace Go.Proofs.Yteinandjhpnceaa
open Go.X Go.May Go.Mac Go.Model
structure ClG (h:Hp) (k r ca bb be tb tc:Nat) (ma:Option Addr) (mc:Nat) (T:List MTask) (M:List MMark):Prop where
 g1:h.get k=some (.cells [tsV tb tc T,msV ma mc M,.slice (some ⟨r,0,none⟩) M.length ca,.slice (some ⟨bb,0,none⟩) (T.length+1) (T.length+1),.slice (some ⟨be,0,none⟩) (T.length+1) (T.length+1)] 122 0)
 g2:h.get be=some (.cells (ixL M T.length 2) 3 0)
 g3:h.get bb=some (.cells (ixL M T.length 1) 3 0)
 l1:k <h.n
 l2:be <h.n
 l3:bb <h.n
 run:RnAt h tb tc ma mc T M
theorem ClG.ext {h h':Hp} {k r ca bb be tb tc:Nat} {ma:Option Addr} {mc:Nat} {T:List MTask} {M:List MMark} (x:ClG h k r ca bb be tb tc ma mc T M) (g:Ext h h'):ClG h' k r ca bb be tb tc ma mc T M:=
 ⟨(g.get _ x.l1).trans x.g1,(g.get _ x.l2).trans x.g2,(g.get _ x.l3).trans x.g3,Nat.lt_of_lt_of_le x.l1 g.n,Nat.lt_of_lt_of_le x.l2 g.n,Nat.lt_of_lt_of_le x.l3 g.n,x.run.ext g⟩
structure ClN (k r bb be tb:Nat) (ma:Option Addr) (M:List MMark):Prop where
 n1:k≠r
 n2:be≠r
 n3:bb≠r
 n4:tb≠r
 n5:0 <M.length-> ∀mb,ma=some ⟨mb,0,none⟩->mb≠r
theorem RnAt.keep {h h':Hp} {r tb tc:Nat} {ma:Option Addr} {mc:Nat} {T:List MTask} {M:List MMark} (x:RnAt h tb tc ma mc T M) (g:ExtB [r] h h') (n4:tb≠r) (n5:0 <M.length-> ∀mb,ma=some ⟨mb,0,none⟩->mb≠r):RnAt h' tb tc ma mc T M where
 t:=by obtain⟨q,m,e⟩:=x.t;exact⟨q,m,(g.get _ x.tl (Q2N n4)).trans e⟩
 tl:=Nat.lt_of_lt_of_le x.tl g.n
 m:=fun hm=>by obtain⟨mb,q,m,e1,e2,e3⟩:=x.m hm;exact⟨mb,q,m,e1,(g.get _ e3 (Q2N (n5 hm mb e1))).trans e2,Nat.lt_of_lt_of_le e3 g.n⟩
theorem ClG.keep {h h':Hp} {k r ca bb be tb tc:Nat} {ma:Option Addr} {mc:Nat} {T:List MTask} {M:List MMark} (x:ClG h k r ca bb be tb tc ma mc T M) (n:ClN k r bb be tb ma M) (g:ExtB [r] h h'):ClG h' k r ca bb be tb tc ma mc T M:=
 ⟨(g.get _ x.l1 (Q2N n.n1)).trans x.g1,(g.get _ x.l2 (Q2N n.n2)).trans x.g2,(g.get _ x.l3 (Q2N n.n3)).trans x.g3,Nat.lt_of_lt_of_le x.l1 g.n,Nat.lt_of_lt_of_le x.l2 g.n,Nat.lt_of_lt_of_le x.l3 g.n,x.run.keep g n.n4 n.n5⟩
abbrev BW:=Nat->Nat->BitVec 64
def ZQ (W:BW) (a b:Int):Bool:=(decide (0<=a)&&decide (0<=b))&&QS (W a.toNat) b.toNat
def J1 (T:List MTask) (M:List MMark) (a b:Int):Bool:=(((!decide (a=b)&&decide (0<=(tkT T a).looper))&&decide ((tkT T a).looper=(tkT T b).looper))&&decide (0<=Qn M a 2))&&decide (Qn M a 2 <Qn M b 1)
def Q9k (T:List MTask) (W:BW) (a b:Int):Bool:=(((decide ((tkT T a).kind=4)&&decide ((tkT T b).kind=4))&& !(tkT T b).front)&&((tkT T a).front||decide ((tkT T a).delay<=(tkT T b).delay)))&&ZQ W (tkT T a).mark (tkT T b).mark
theorem Q6s (t:MTask):sameV 20 (.agg (tkV t).toArray) (.agg (tkV t).toArray)=true:=by simp[sameV,sameV.sameL,tkV,Z5]
section
variable {h:Hp} {k r ca bb be tb tc m q:Nat} {ma:Option Addr} {mc:Nat} {T:List MTask} {M:List MMark} {W:BW} {a b:Int}
theorem t44n {c:Nat} (hj:a <0\/b <0):CP modE 44 [Qw c,iV a,iV b] h (.bool false):=by
 refine Q8 (fu:=Try.f44) (by kernel_rfl) rfl ?_;refine Q6<|I2 rfl<|Z7<|I1 rfl<|Il rfl rfl<|I1 rfl ?_
 refine QT (n:=2) rfl rfl rfl gn rfl (fun hb=>by
  refine D1 hb rfl<|Dl hb rfl rfl ?_
  exact Q0 ⟨rfl,rfl,2,rfl,rfl⟩) ?_
 refine I1 rfl ?_
 refine QT (n:=8) (B:=false) rfl rfl rfl gn rfl (fun hb=>by
  exact False.elim (by simp at hb;omega)) ?_
 refine Q0<|Q2 rfl (fun hb=>?_) fun hb=>?_
 · skip
   refine Q6<|I2 rfl<|Q0<|Q7 ?_;refine⟨.inl rfl,_,rfl,?_⟩;exact⟨rfl,rfl⟩
 exact False.elim (by simp at hb;omega)
theorem t20n {c:Nat} (hj:a <0\/b <0):CP modE 20 [Qw c,iV a,iV b] h (.bool false):=by
 refine Q8 (fu:=Try.f20) (by kernel_rfl) rfl ?_;refine Q6<|I2 rfl<|QL<|I1 rfl<|Ih rfl rfl<|I1 rfl ?_
 refine Qp (n:=2) rfl rfl rfl gn rfl (fun hb=>by
  refine D1 hb rfl<|Dh hb rfl rfl ?_
  exact Q0 ⟨rfl,rfl,2,rfl,rfl⟩) ?_
 refine I1 rfl ?_
 refine Qp (n:=8) (B:=false) rfl rfl rfl gn rfl (fun hb=>by
  exact False.elim (by simp at hb;omega)) ?_
 refine I2 rfl<|Q0<|Q7 ?_;refine⟨.inl rfl,_,rfl,?_⟩;exact⟨by rw[Bool.and_false];rfl,rfl⟩
theorem t20 (x:ClG h k r ca bb be tb tc ma mc T M) (hr:h.get r=some (.cells (Zc M.length W) 126 m)) (ha:a <M.length) (hb:b <M.length) (hn:M.length<=1200):CP modE 20 [Qw k,iV a,iV b] h (.bool (ZQ W a b)):=by
 by_cases h0:0<=a/\0<=b
 · obtain⟨a',rfl⟩:=Int.eq_ofNat_of_zero_le h0.1;obtain⟨b',rfl⟩:=Int.eq_ofNat_of_zero_le h0.2;have e:ZQ W a' b'=QS (W a') b':=by simp[ZQ]
   rw[e];exact c20 hr x.g1 (by omega) (by omega) (by omega)
 have e:ZQ W a b=false:=by
  unfold ZQ;have:(decide (0<=a)&&decide (0<=b))=false:=by simp;omega
  rw[this];rfl
 rw[e];exact t20n (by omega)
theorem t44 (x:ClG h k r ca bb be tb tc ma mc T M) (hr:h.get r=some (.cells (Zc M.length W) 126 m)) (hm:m≠1) (ha:a <M.length) (hb:b <M.length) (hn:M.length<=1200):
 C modE 44 [Qw k,iV a,iV b] h fun v h'=> ∃W',h'.get r=some (.cells (Zc M.length W') 126 m)/\ExtB [r] h h'/\(∀a' i,QS (W' a') i=(QS (W a') i||(decide ((a':Int)=a)&&decide ((i:Int)=b))))/\v=.bool ((decide (0<=a)&&decide (0<=b))&& !QS (W a.toNat) b.toNat):=by
 by_cases h0:0<=a/\0<=b
 · obtain⟨a',rfl⟩:=Int.eq_ofNat_of_zero_le h0.1;obtain⟨b',rfl⟩:=Int.eq_ofNat_of_zero_le h0.2;refine(c44 hr hm x.g1 (by omega) (by omega) (by omega)).mono fun v h' hh=>?_;obtain⟨e,W',h1,h2,h3⟩:=hh;refine⟨W',h1,h2,fun a2 i=>?_,by rw[e];simp⟩;rw[h3]
   congr 2
   · simp only[Int.natCast_inj]
   simp only[Int.natCast_inj]
 refine Qr (t44n (by omega)) ⟨W,hr,.refl _ _,fun a2 i=>?_,?_⟩
 · have:(decide ((a2:Int)=a)&&decide ((i:Int)=b))=false:=by simp;omega
   rw[this,Bool.or_false]
 have:(decide (0<=a)&&decide (0<=b))=false:=by simp;omega
 rw[this];rfl
set_option maxHeartbeats 4000000 in
theorem t40 (x:ClG h k r ca bb be tb tc ma mc T M) (hT:T.length<=256) (i1:1<=a) (i2:a<=T.length) (j1:1<=b) (j2:b<=T.length):C modE 40 [Qw k,iV a,iV b] h fun v h'=>v=.bool (J1 T M a b)/\Ext h h':=by
 obtain⟨y1,y2,y3,y4,y5,y6,R⟩:=x;obtain⟨tcs,tm,ttg,ttl,ttr,ttf⟩:=R.tk i1 i2;obtain⟨ucs,um,utg,utl,utr,utf⟩:=R.tk j1 j2;refine Q8 (fu:=Try.f40) (by kernel_rfl) rfl ?_;have S:=SH.start h;refine Q6<|I2 rfl<|Q0<|Q3<|Yq [(0,[]),(1,[]),(2,[]),(3,[]),(4,[]),(5,[]),(6,[]),(7,[]),(8,[]),(9,[]),(10,[]),(11,[]),(12,[]),(13,[]),(14,[]),(15,[]),(16,[]),(17,[]),(18,[]),(19,[]),(20,[13,15,17]),(21,[])] (by kernel_rfl) (by kernel_rfl) (by kernel_rfl) (by kernel_rfl)<|I1 rfl<|I6 rfl<|I0 0 rfl<|I0 0 rfl<|I4 rfl (S.old0 y1 y4) rfl ?_
 refine I1 rfl<|Iso rfl rfl<|I5o 15 rfl rfl<|I3 15 rfl (S.old0 ttg R.tl) ttl ?_;rw[ttr];refine I1 rfl<|I6 rfl<|I0 0 rfl<|I0 0 rfl<|I4 rfl (S.old0 y1 y4) rfl<|I1 rfl<|Iso rfl rfl<|I5o 15 rfl rfl<|I3 15 rfl (S.old0 utg R.tl) utl ?_;rw[utr];refine Qo (zv:=.agg #[.int .i64 0,.int .i64 0,.int .i64 0,.int .i64 0,.int .i64 0,.int .i64 0,.int .i64 0,.bool false,.int .i64 0,.int .i64 0,.int .i64 0,.int .i64 0,.int .i64 0,.int .i64 0,.int .i64 0]) S gn rfl (by kernel_rfl) fun b1 g nb1 S=>?_
 refine Qo (zv:=.agg #[.int .i64 0,.int .i64 0,.int .i64 0,.int .i64 0,.int .i64 0,.int .i64 0,.int .i64 0,.bool false,.int .i64 0,.int .i64 0,.int .i64 0,.int .i64 0,.int .i64 0,.int .i64 0,.int .i64 0]) S gn rfl (by kernel_rfl) fun b2 g nb2 S=>?_;refine Qe (n:=15) 1 S gn rfl rfl (by kernel_rfl) (by kernel_rfl) rfl rfl (by decide) rfl (fun g S=>(ag1 (Kb gn rfl (by kernel_rfl) (S.old0 y1 y4) rfl rfl ZM) (ag1 (Qcu gn rfl rfl (by omega) (by omega) rfl) (ag1 (KA (n:=15) gn rfl (by kernel_rfl) (by kernel_rfl) (S.old0 utg R.tl) utl (by rw[utr];rfl) (by rw[utr];exact Q6s _)) ag0)))) fun g S=>?_
 refine Qe (n:=15) 0 S gn rfl rfl (by kernel_rfl) (by kernel_rfl) rfl rfl (by decide) rfl (fun g S=>ag0) fun g S=>?_;refine Q0<|Q3<|I9<|I1 rfl<|I1 rfl<|In rfl rfl<|I1 rfl ?_
 refine Qp (n:=3) rfl rfl rfl gn rfl (fun hb=>by
  refine D0 4 hb rfl<|D4 hb rfl (S.cel 1 rfl) rfl<|Dh hb rfl rfl ?_
  exact Q0 ⟨rfl,rfl,3,rfl,rfl⟩) ?_
 refine I1 rfl ?_
 refine Qp (n:=5) rfl rfl rfl gn rfl (fun hb=>by
  refine D0 4 hb rfl<|D4 hb rfl (S.cel 1 rfl) rfl<|D0 4 hb rfl<|D4 hb rfl (S.cel 0 rfl) rfl<|De hb rfl rfl ?_
  exact Q0 ⟨rfl,rfl,5,rfl,rfl⟩) ?_
 refine I1 rfl ?_
 refine Qp (n:=8) rfl rfl rfl gn rfl (fun hb=>by
  refine D1 hb rfl<|D6 hb rfl<|D0 4 hb rfl<|D4 hb rfl (S.old0 y1 y4) rfl<|D1 hb rfl<|D5o 1 hb rfl rfl<|D4 hb rfl (S.old0 y2 y5) (Zd (by omega) (by omega))<|Dh hb rfl rfl ?_
  exact Q0 ⟨rfl,rfl,8,rfl,rfl⟩) ?_
 refine I1 rfl ?_
 refine Qp (n:=15) rfl rfl rfl gn rfl (fun hb=>by
  refine D1 hb rfl<|D6 hb rfl<|D0 3 hb rfl<|D4 hb rfl (S.old0 y1 y4) rfl<|D1 hb rfl<|D5o 1 hb rfl rfl<|D4 hb rfl (S.old0 y3 y6) (Zd (by omega) (by omega))<|D1 hb rfl<|D6 hb rfl<|D0 4 hb rfl<|D4 hb rfl (S.old0 y1 y4) rfl<|D1 hb rfl<|D5o 1 hb rfl rfl<|D4 hb rfl (S.old0 y2 y5) (Zd (by omega) (by omega))<|Dg hb rfl rfl ?_
  exact Q0 ⟨rfl,rfl,15,rfl,rfl⟩) ?_
 refine I2 rfl<|Q0<|Q7 ?_;refine⟨.inl rfl,_,rfl,?_⟩;exact⟨rfl,S.e0⟩
set_option maxHeartbeats 4000000 in
theorem t41 (x:ClG h k r ca bb be tb tc ma mc T M) (hr:h.get r=some (.cells (Zc M.length W) 126 m)) (hrl:r <h.n) (hT:T.length<=256) (hn:M.length<=1200) (i1:1<=a) (i2:a<=T.length) (j1:1<=b) (j2:b<=T.length) (hma1:(tkT T a).mark <M.length) (hmb1:(tkT T b).mark <M.length):C modE 41 [Qw k,iV a,iV b] h fun v h'=>v=.bool (Q9k T W a b)/\Ext h h':=by
 have x0:=x;obtain⟨y1,y2,y3,y4,y5,y6,R⟩:=x;obtain⟨tcs,tm,ttg,ttl,ttr,ttf⟩:=R.tk i1 i2;obtain⟨ucs,um,utg,utl,utr,utf⟩:=R.tk j1 j2;refine Q8 (fu:=Try.f41) (by kernel_rfl) rfl ?_;have S:=SH.start h;refine Q6<|I2 rfl<|Q0<|Q3<|Yq [(0,[]),(1,[]),(2,[]),(3,[]),(4,[]),(5,[]),(6,[]),(7,[]),(8,[]),(9,[]),(10,[]),(11,[]),(12,[]),(13,[]),(14,[]),(15,[]),(16,[]),(17,[]),(18,[]),(19,[]),(20,[13,15,17]),(21,[])] (by kernel_rfl) (by kernel_rfl) (by kernel_rfl) (by kernel_rfl)<|I1 rfl<|I6 rfl<|I0 0 rfl<|I0 0 rfl ?_
 refine I4 rfl (S.old0 y1 y4) rfl<|I1 rfl<|Iso rfl rfl<|I5o 15 rfl rfl<|I3 15 rfl (S.old0 ttg R.tl) ttl ?_;rw[ttr];refine I1 rfl<|I6 rfl<|I0 0 rfl<|I0 0 rfl<|I4 rfl (S.old0 y1 y4) rfl<|I1 rfl<|Iso rfl rfl<|I5o 15 rfl rfl<|I3 15 rfl (S.old0 utg R.tl) utl ?_;rw[utr];refine Qo (zv:=.agg #[.int .i64 0,.int .i64 0,.int .i64 0,.int .i64 0,.int .i64 0,.int .i64 0,.int .i64 0,.bool false,.int .i64 0,.int .i64 0,.int .i64 0,.int .i64 0,.int .i64 0,.int .i64 0,.int .i64 0]) S gn rfl (by kernel_rfl) fun b1 g nb1 S=>?_
 refine Qo (zv:=.agg #[.int .i64 0,.int .i64 0,.int .i64 0,.int .i64 0,.int .i64 0,.int .i64 0,.int .i64 0,.bool false,.int .i64 0,.int .i64 0,.int .i64 0,.int .i64 0,.int .i64 0,.int .i64 0,.int .i64 0]) S gn rfl (by kernel_rfl) fun b2 g nb2 S=>?_;refine Qe (n:=15) 1 S gn rfl rfl (by kernel_rfl) (by kernel_rfl) rfl rfl (by decide) rfl (fun g S=>(ag1 (Kb gn rfl (by kernel_rfl) (S.old0 y1 y4) rfl rfl ZM) (ag1 (Qcu gn rfl rfl (by omega) (by omega) rfl) (ag1 (KA (n:=15) gn rfl (by kernel_rfl) (by kernel_rfl) (S.old0 utg R.tl) utl (by rw[utr];rfl) (by rw[utr];exact Q6s _)) ag0)))) fun g S=>?_
 refine Qe (n:=15) 0 S gn rfl rfl (by kernel_rfl) (by kernel_rfl) rfl rfl (by decide) rfl (fun g S=>ag0) fun g S=>?_;refine QL<|I0 0 rfl<|I4 rfl (S.cel 1 rfl) rfl<|Ie rfl rfl<|I1 rfl ?_
 refine Qp (n:=3) rfl rfl rfl gn rfl (fun hb=>by
  refine D0 0 hb rfl<|D4 hb rfl (S.cel 0 rfl) rfl<|De hb rfl rfl ?_
  exact Q0 ⟨rfl,rfl,3,rfl,rfl⟩) ?_
 refine I1 rfl ?_
 refine Qp (n:=3) rfl rfl rfl gn rfl (fun hb=>by
  refine D0 7 hb rfl<|D4 hb rfl (S.cel 0 rfl) rfl<|Db hb rfl ?_
  exact Q0 ⟨rfl,rfl,3,rfl,rfl⟩) ?_
 refine I1 rfl ?_
 refine Qp (n:=9) rfl rfl rfl gn rfl (fun hb=>by
  refine D0 7 hb rfl<|D4 hb rfl (S.cel 1 rfl) rfl<|D1 hb rfl ?_
  refine QT (n:=5) rfl rfl rfl (gy rfl rfl rfl hb) rfl (fun hb=>by
   refine D0 8 hb rfl<|D4 hb rfl (S.cel 0 rfl) rfl<|D0 8 hb rfl<|D4 hb rfl (S.cel 1 rfl) rfl<|Dh hb rfl rfl ?_
   exact Q0 ⟨rfl,rfl,5,rfl,rfl⟩) ?_
  exact Q0 ⟨rfl,rfl,4,rfl,rfl⟩) ?_
 refine I1 rfl ?_
 refine Qp (n:=6) rfl rfl rfl gn rfl (fun hb=>by
  refine D1 hb rfl<|D0 13 hb rfl<|D4 hb rfl (S.cel 1 rfl) rfl<|D0 13 hb rfl<|D4 hb rfl (S.cel 0 rfl) rfl<|Dc hb [_,_,_] rfl rfl (Qr (t20 (x0.ext S.e0) (S.old0 hr hrl) hma1 hmb1 hn) ⟨ag0,?_⟩)
  exact Q0 ⟨rfl,rfl,6,rfl,rfl⟩) ?_
 refine I2 rfl<|Q0<|Q7 ?_;refine⟨.inl rfl,_,rfl,?_⟩;exact⟨rfl,S.e0⟩
set_option maxHeartbeats 4000000 in
theorem t43 (x:ClG h k r ca bb be tb tc ma mc T M) (hr:h.get r=some (.cells (Zc M.length W) 126 m)) (hrl:r <h.n) (hT:T.length<=256) (hn:M.length<=1200) (i1:1<=a) (i2:a<=T.length) (j1:1<=b) (j2:b<=T.length):C modE 43 [Qw k,iV a,iV b] h fun v h'=>v=.bool (ZQ W (Qn M a 1) (Qn M b 1))/\Ext h h':=by
 have x0:=x;obtain⟨y1,y2,y3,y4,y5,y6,R⟩:=x;refine Q8 (fu:=Try.f43) (by kernel_rfl) rfl ?_;have S:=SH.start h;refine Q6<|I2 rfl<|Q0<|Q3<|I9<|I1 rfl<|I1 rfl<|I6 rfl<|I0 3 rfl<|I4 rfl (S.old0 y1 y4) rfl<|I1 rfl<|I5o 1 rfl rfl<|I4 rfl (S.old0 y3 y6) (Zd (by omega) (by omega))<|I1 rfl<|I6 rfl<|I0 3 rfl ?_;refine I4 rfl (S.old0 y1 y4) rfl<|I1 rfl<|I5o 1 rfl rfl<|I4 rfl (S.old0 y3 y6) (Zd (by omega) (by omega))<|Ic [_,_,_] rfl rfl (Qr (t20 (x0.ext S.e0) (S.old0 hr hrl) QB QB hn) ⟨ag0,?_⟩)
 refine I2 rfl<|Q0<|Q7 ?_;refine⟨.inl rfl,_,rfl,?_⟩;exact⟨rfl,S.e0⟩
theorem t39 (x:ClG h k r ca bb be tb tc ma mc T M) (hr:h.get r=some (.cells (Zc M.length W) 126 m)) (hrl:r <h.n) (hq:h.get q=some (.cells [Qw k] 84 0)) (hql:q <h.n) (hT:T.length<=256) (hn:M.length<=1200) (i1:1<=a) (i2:a<=T.length) (j1:1<=b) (j2:b<=T.length) (hma1:(tkT T a).mark <M.length) (hmb1:(tkT T b).mark <M.length):C modE 39 [iV a,iV b,Qw q] h fun v h'=>v=.bool (J1 T M a b&&Q9k T W a b)/\Ext h h':=by
 have x0:=x;refine Q8 (fu:=Try.f39) (by kernel_rfl) rfl ?_;have S:=SH.start h;refine Q6<|I2 rfl<|QL<|I4 rfl (S.old0 hq hql) rfl<|I1 rfl<|I1 rfl<|Ic [_,_,_] rfl rfl (C.mono (t40 (x0.ext S.e0) hT i1 i2 j1 j2) ?_);rintro v g ⟨rfl,x⟩;have S:=S.grow x;refine⟨ag0,?_⟩;refine I1 rfl<|Ze (dc:=10) rfl (fun hb10=>?_) fun hb10=>?_
 · skip
   refine D4 hb10 rfl (S.old0 hq hql) rfl<|D1 hb10 rfl<|D1 hb10 rfl ?_;refine Z1 [_,_,_] (gy rfl rfl rfl hb10) rfl rfl (by kernel_rfl) rfl (C.mono (t41 (x0.ext S.e0) (S.old0 hr hrl) (by have:=S.e0.n;omega) hT hn i1 i2 j1 j2 hma1 hmb1) ?_);rintro v g ⟨rfl,x⟩;have S:=S.grow x;refine⟨ag0,?_⟩;refine IT rfl hb10 rfl<|I2 rfl<|Q0<|Q7 ?_;refine⟨.inl rfl,_,rfl,?_⟩;exact⟨by rw[show J1 T M a b=true from hb10];rfl,S.e0⟩
 refine ZI (n:=4) (dc:=10) (w:=true) rfl hb10 rfl<|Iu rfl hb10 rfl<|I2 rfl<|Q0<|Q7 ?_;refine⟨.inl rfl,_,rfl,?_⟩;exact⟨by rw[show J1 T M a b=false from hb10];rfl,S.e0⟩
theorem t42 (x:ClG h k r ca bb be tb tc ma mc T M) (hr:h.get r=some (.cells (Zc M.length W) 126 m)) (hrl:r <h.n) (hq:h.get q=some (.cells [Qw k] 84 0)) (hql:q <h.n) (hT:T.length<=256) (hn:M.length<=1200) (i1:1<=a) (i2:a<=T.length) (j1:1<=b) (j2:b<=T.length):C modE 42 [iV a,iV b,Qw q] h fun v h'=>v=.bool (J1 T M a b&&ZQ W (Qn M a 1) (Qn M b 1))/\Ext h h':=by
 have x0:=x;refine Q8 (fu:=Try.f42) (by kernel_rfl) rfl ?_;have S:=SH.start h;refine Q6<|I2 rfl<|QL<|I4 rfl (S.old0 hq hql) rfl<|I1 rfl<|I1 rfl<|Ic [_,_,_] rfl rfl (C.mono (t40 (x0.ext S.e0) hT i1 i2 j1 j2) ?_);rintro v g ⟨rfl,x⟩;have S:=S.grow x;refine⟨ag0,?_⟩;refine I1 rfl<|Ze (dc:=10) rfl (fun hb10=>?_) fun hb10=>?_
 · skip
   refine D4 hb10 rfl (S.old0 hq hql) rfl<|D1 hb10 rfl<|D1 hb10 rfl ?_;refine Z1 [_,_,_] (gy rfl rfl rfl hb10) rfl rfl (by kernel_rfl) rfl (C.mono (t43 (x0.ext S.e0) (S.old0 hr hrl) (by have:=S.e0.n;omega) hT hn i1 i2 j1 j2) ?_);rintro v g ⟨rfl,x⟩;have S:=S.grow x;refine⟨ag0,?_⟩;refine IT rfl hb10 rfl<|I2 rfl<|Q0<|Q7 ?_;refine⟨.inl rfl,_,rfl,?_⟩;exact⟨by rw[show J1 T M a b=true from hb10];rfl,S.e0⟩
 refine ZI (n:=4) (dc:=10) (w:=true) rfl hb10 rfl<|Iu rfl hb10 rfl<|I2 rfl<|Q0<|Q7 ?_;refine⟨.inl rfl,_,rfl,?_⟩;exact⟨by rw[show J1 T M a b=false from hb10];rfl,S.e0⟩
end
end Go.Proofs.Yteinandjhpnceaa
namespace Go.Proofs.Yteinandjhpnceaa
open Go.X Go.May Go.Mac Go.Model
structure InO (n:Nat) (W:BW) (S:Nat->Nat->Prop):Prop where
 w: ∀a i,a <n->i <1216->QS (W a) i=true->S a i
 up: ∀a i,S a i->a <i/\i <n
 tr: ∀a b c,S a b->S b c->S a c
section
variable {h:Hp} {k r ca bb be tb tc m q:Nat} {ma:Option Addr} {mc:Nat} {T:List MTask} {M:List MMark} {W:BW} {S0:Nat->Nat->Prop}
theorem orT {x y:Bool} (h:(x||y)=true):x=true\/y=true:=by cases x<;>cases y<;>simp_all
theorem or_in {n q b:Nat} {V:BW} (hV:InO n V S0) (hq:q <n) (hb:b <1216) (hqb:QS (V q) b=true):InO n (Q6R V q b 19) S0:=by
 refine⟨fun a i ha hi h=>?_,hV.up,hV.tr⟩;rw[K0 V q b a i hi]at h
 split at h
 · rename_i e;subst e;rcases orT h with h|h
   · exact hV.w a i ha hi h
   have hs:=hV.w a b ha hb hqb;exact hV.tr a b i hs (hV.w b i (hV.up _ _ hs).2 hi h)
 exact hV.w a i ha hi h
theorem or_row {n q b y z:Nat} {V:BW} (hV:InO n V S0) (hq:q <n) (hb:b <n) (hqb:QS (V q) b=true) (hV4: ∀y z,y <b->y <1216->z <1216->QS (V q) y=true->QS (V y) z=true->QS (V q) z=true) (hy:y <b+1) (hy2:y <1216) (hz:z <1216) (h1:QS (Q6R V q b 19 q) y=true) (h2:QS (Q6R V q b 19 y) z=true):QS (Q6R V q b 19 q) z=true:=by
 rw[K0 V q b q y hy2,if_pos rfl]at h1;rw[K0 V q b q z hz,if_pos rfl]
 have hyq:y≠q:=fun e=>by
  subst e;rcases orT h1 with h|h
  · have:=(hV.up _ _ (hV.w y y hq hy2 h)).1;omega
  have:=(hV.up _ _ (hV.w b y hb hy2 h)).1;omega
 rw[K0 V q b y z hz,if_neg hyq]at h2;rcases Nat.lt_or_ge y b with e|e
 · rcases orT h1 with h|h
   · rw[hV4 y z e hy2 hz h h2];rfl
   have:=(hV.up _ _ (hV.w b y hb hy2 h)).1;omega
 have e:y=b:=by omega
 subst e;rw[h2,Bool.or_true]
set_option maxHeartbeats 4000000 in
theorem t38 (x0:ClG h k r ca bb be tb tc ma mc T M) (hr:h.get r=some (.cells (Zc M.length W) 126 m)) (hm:m≠1) (l4:r <h.n) (ne:k≠r) (hn:M.length<=1200) (hW:InO M.length W S0):
 C modE 38 [Qw k] h fun _ h'=> ∃W',h'.get r=some (.cells (Zc M.length W') 126 m)/\ExtB [r] h h'/\InO M.length W' S0/\(∀a i,i <1216->QS (W a) i=true->QS (W' a) i=true)/\
   ∀x y z,x <M.length->y <1216->z <1216->QS (W' x) y=true->QS (W' y) z=true->QS (W' x) z=true:=by
 obtain⟨n,hnn⟩: ∃n,n=M.length:=⟨_,rfl⟩;have ht:=x0.g1;have l6:=x0.l1;rw[<-hnn]at hr hn hW ht ⊢;refine Q8 (fu:=Try.f38) (by kernel_rfl) rfl ?_;have S:=SH.one (r:=cR r (.cells (Zc n W) 126 m)) hr (by simp[cR];exact l4) (by simp[cR]);refine Q6<|I1 rfl<|I6 rfl<|I0 2 rfl<|I4 rfl (S.old ht l6 (Q2N ne)) rfl<|I7 rfl<|Iso rfl rfl<|I2 rfl<|Q0<|Q5 ?_
 refine Qh [(2,_)] [(0,_)] (by repeat(first|exact trivial|refine⟨rfl,?_⟩)) (fun kk lv hh=> ∃(a:Nat) (p:Int) (V:BW),lv=[(2,iV p)]/\p=a -1/\kk=a/\a<=n/\SH h [r] [cR r (.cells (Zc n V) 126 m)] hh/\InO n V S0/\(∀a i,i <1216->QS (W a) i=true->QS (V a) i=true)/\ ∀x y z,a<=x->x <n->y <1216->z <1216->QS (V x) y=true->QS (V y) z=true->QS (V x) z=true) (n:=n) ?_ fun kk lv hh hI=>?_
 · exact⟨n,_,W,rfl,rfl,rfl,by omega,S,hW,fun _ _ _ h=>h,fun x y z h1 h2=>by omega⟩
 obtain⟨a,p,V,rfl,hp,hk,ha,S,hV,hV2,hV3⟩:=hI;refine Q3<|Q6<|I1 rfl<|Ih rfl rfl<|Q0<|Q2 rfl (fun hb=>?_) fun hb=>?_
 · skip
   refine Q4 ?_;have ha0:0<=p:=by simpa using hb
   obtain⟨q,rfl⟩:=Int.eq_ofNat_of_zero_le ha0;have hq:q <n:=by omega
   have hqa:a=q+1:=by omega
   subst hqa;refine Q3<|Q5<|Q6<|I1 rfl<|Iao rfl rfl<|I2 rfl<|Q0<|Q5<|Qh [(3,_)] [(0,_),(2,_)] (by repeat(first|exact trivial|refine⟨rfl,?_⟩)) (fun kk lv hh=> ∃(b:Nat) (V:BW),lv=[(3,iV b)]/\kk=n -b/\q <b/\b<=n/\SH h [r] [cR r (.cells (Zc n V) 126 m)] hh/\InO n V S0/\(∀a i,i <1216->QS (W a) i=true->QS (V a) i=true)/\(∀x y z,q+1<=x->x <n->y <1216->z <1216->QS (V x) y=true->QS (V y) z=true->QS (V x) z=true)/\ ∀y z,y <b->y <1216->z <1216->QS (V q) y=true->QS (V y) z=true->QS (V q) z=true) (n:=(n - (q+1))) ?_ fun kk lv hh hI=>?_
   · exact⟨q+1,V,rfl,rfl,by omega,by omega,S,hV,hV2,hV3,fun y z hy hy2 _ h1 _=>absurd (hV.up _ _ (hV.w q y hq hy2 h1)).1 (by omega)⟩
   obtain⟨b,V,rfl,hk,hqb,hbn,S,hV,hV2,hV3,hV4⟩:=hI;refine Q3<|Q6<|I1 rfl<|I1 rfl<|I6 rfl<|I0 2 rfl<|I4 rfl (S.old ht l6 (Q2N ne)) rfl<|I7 rfl<|Il rfl rfl<|Q0<|Q2 rfl (fun hb=>?_) fun hb=>?_
   · skip
     refine Q4 ?_;have hbn:b <n:=by simpa using hb
     refine Q3<|Q5<|Q3<|Q6<|I1 rfl<|I6 rfl<|I0 2 rfl<|I4 rfl (S.old ht l6 (Q2N ne)) rfl<|I1 rfl<|I5o 19 rfl rfl ?_;rw[Int.toNat_natCast,Nat.zero_add];refine I1 rfl<|Ic [_,_] rfl rfl (Qr (c45 (S.cel 0 rfl) hq (by omega) (by omega)) ⟨ag0,?_⟩);refine Ib rfl<|Q0<|Q2 rfl (fun hb=>?_) fun hb=>?_
     · skip
       refine Ql<|Q9<|Qm<|Q1 (by kernel_rfl)<|I1 rfl<|Iao rfl rfl<|I2 rfl<|Q0 ?_
       exact Z6 (n - (b+1)) (by omega) [(3,_)] (by repeat(first|exact trivial|refine⟨rfl,?_⟩)) ⟨b+1,V,rfl,rfl,by omega,by omega,S,hV,hV2,hV3,fun y z hy hy2 hz h1 h2=>by
        rcases Nat.lt_or_ge y b with e|e
        · exact hV4 y z e hy2 hz h1 h2
        have e:y=b:=by omega
        subst e;have hb:(!QS (V q) y)=true:=hb
        rw[h1]at hb;exact absurd hb (by decide)⟩
     refine Q4 ?_;have hqb':QS (V q) b=true:=by simpa using hb
     refine Q6<|I1 rfl<|Q0<|Q5<|Qh [(35,_)] [(0,_),(2,_),(3,_)] (by repeat(first|exact trivial|refine⟨rfl,?_⟩)) (fun kk lv hh=> ∃w:Nat,lv=[(35,iV w)]/\kk=19 -w/\w<=19/\SH h [r] [cR r (.cells (Zc n (Q6R V q b w)) 126 m)] hh) (n:=19) ?_ fun kk lv hh hI=>?_
     · exact⟨0,rfl,rfl,by omega,by rw[Qau];exact S⟩
     obtain⟨w,rfl,hk,hw,S⟩:=hI;refine Q6<|Il rfl rfl<|Q0<|Q3<|Q2 rfl (fun hb=>?_) fun hb=>?_
     · skip
       refine Q4 ?_;have hw:w <19:=by simp at hb;omega
       refine Q3<|Q5<|Q6<|I1 rfl<|I2 rfl<|Q0<|I9<|I1 rfl<|I6 rfl<|I0 2 rfl<|I4 rfl (S.old ht l6 (Q2N ne)) rfl<|I1 rfl<|I1 rfl<|I5o 19 rfl rfl ?_;rw[Int.toNat_natCast,Nat.zero_add];refine QW (n:=19) (e:=124) (zz:=1) gn rfl rfl rfl (by kernel_rfl) (by omega) (by omega) ?_;rw[Int.toNat_natCast];refine Y2 gn rfl rfl (by kernel_rfl) (S.cel 0 rfl) (by rw[Nat.mul_one];exact JW _ hq hw)<|I1 rfl<|I6 rfl<|I0 2 rfl<|I4 rfl (S.old ht l6 (Q2N ne)) rfl<|I1 rfl<|I1 rfl<|I5o 19 rfl rfl ?_
       rw[Int.toNat_natCast,Nat.zero_add];refine QW (n:=19) (e:=124) (zz:=1) gn rfl rfl rfl (by kernel_rfl) (by omega) (by omega) ?_;rw[Int.toNat_natCast];refine Y2 gn rfl rfl (by kernel_rfl) (S.cel 0 rfl) (by rw[Nat.mul_one];exact JW _ hbn hw)<|o_orU (_) (_) gn rfl rfl rfl<|I5o 19 rfl rfl ?_;rw[Int.toNat_natCast,Nat.zero_add];refine QW (n:=19) (e:=124) (zz:=1) gn rfl rfl rfl (by kernel_rfl) (by omega) (by omega) ?_;rw[Int.toNat_natCast];refine Qi 0 S gn rfl rfl rfl (by kernel_rfl) rfl hm (by rw[Q59];omega) (fun g S=>ag0) fun g S=>?_;refine Q0<|Q1 (by kernel_rfl)<|Iao rfl rfl<|I1 rfl<|Q0 ?_
       exact Z6 (19 - (w+1)) (by omega) [(35,_)] (by repeat(first|exact trivial|refine⟨rfl,?_⟩)) ⟨w+1,rfl,rfl,by omega,by rw[Qav V (by omega),<-Q58 _ _ hq hw];rw[Nat.mul_one]at S;exact S⟩
     have hw2:w=19:=by simp at hb;omega
     subst hw2;refine Ql<|Q9<|Qc<|Qm<|Q1 (by kernel_rfl)<|I1 rfl<|Iao rfl rfl<|I2 rfl<|Q0 ?_
     exact Z6 (n - (b+1)) (by omega) [(3,_)] (by repeat(first|exact trivial|refine⟨rfl,?_⟩)) ⟨b+1,Q6R V q b 19,rfl,rfl,by omega,by omega,S,or_in hV hq (by omega) hqb',fun a i hi h=>by
      rw[K0 V q b a i hi];have:=hV2 a i hi h
      split
      · rename_i e;subst e;rw[this];rfl
      · exact this,fun x y z hx hx2 hy hz h1 h2=>by
      rw[K0 V q b x y hy,if_neg (by omega)]at h1;have:=(hV.up _ _ (hV.w x y hx2 hy h1));rw[K0 V q b y z hz,if_neg (by omega)]at h2;rw[K0 V q b x z hz,if_neg (by omega)]
      exact hV3 x y z hx hx2 hy hz h1 h2,fun y z hy hy2 hz h1 h2=>or_row hV hq hbn hqb' hV4 hy hy2 hz h1 h2⟩
   have hb2:b=n:=by simp at hb;omega
   subst hb2;refine Ql<|Q9<|Qc<|Qm<|Q1 (by kernel_rfl)<|I1 rfl<|Iso rfl rfl<|I2 rfl<|Q0 ?_
   exact Z6 q (by omega) [(2,_)] (by repeat(first|exact trivial|refine⟨rfl,?_⟩)) ⟨q,_,V,rfl,rfl,rfl,by omega,S,hV,hV2,fun x y z hx hx2 hy hz h1 h2=>by
    rcases Nat.lt_or_ge q x with e|e
    · exact hV3 x y z e hx2 hy hz h1 h2
    have e:x=q:=by omega
    subst e
    exact hV4 y z (hV.up _ _ (hV.w x y hx2 hy h1)).2 hy hz h1 h2⟩
 refine Ql<|Q9<|Qc<|Qm ?_;refine⟨.inr rfl,_,rfl,?_⟩
 exact⟨V,S.cel 0 rfl,S.ext,hV,hV2,fun x y z h1=>by
  have ha0:a=0:=by simp at hb;omega
  subst ha0
  exact hV3 x y z (by omega) h1⟩
end
end Go.Proofs.Yteinandjhpnceaa
namespace Go.Proofs.Yteinandjhpnceaa
open Go.X Go.May Go.Mac Go.Model
def Qgo (M:List MMark) (j:Nat) (N:Ms):Prop:=(∀id v,Q4O N id=some v-> ∃i:Nat,i <j/\v=iV i/\(mkI M i).task=id/\ ∀k:Nat,i <k->k <j->(mkI M k).task≠id)/\ ∀id,Q4O N id=none-> ∀i:Nat,i <j->(mkI M i).task≠id
def NextTo (M:List MMark) (j:Nat) (V:BW):Prop:= ∀i k:Nat,i <k->k <j->(mkI M i).task=(mkI M k).task->(∀q:Nat,i <q->q <k->(mkI M q).task≠(mkI M k).task)->QS (V i) k=true
def JoinTo (M:List MMark) (j:Nat) (V:BW):Prop:= ∀i:Nat,i <j->(mkI M i).kind=6->0<=eIx M (mkI M i).other->QS (V (eIx M (mkI M i).other).toNat) i=true
def MadeTo (T:List MTask) (M:List MMark) (j:Nat) (V:BW):Prop:= ∀id:Int,1<=id->id<=j->(0<=(tkT T id).mark->0<=bIx M id->QS (V (tkT T id).mark.toNat) (bIx M id).toNat=true)/\(0 <(tkT T id).prev->0<=eIx M (tkT T id).prev->0<=bIx M id->QS (V (eIx M (tkT T id).prev).toNat) (bIx M id).toNat=true)
def Qgv (T:List MTask) (M:List MMark) (V:BW):Prop:= ∀a i,QS (V a) i=true->HB T M a i
def Le (V V2:BW):Prop:= ∀a i,QS (V a) i=true->QS (V2 a) i=true
def OrW (V V2:BW) (x y:Int):Prop:= ∀a i,QS (V2 a) i=(QS (V a) i||(decide ((a:Int)=x)&&decide ((i:Int)=y)))
section
variable {T:List MTask} {M:List MMark} {V V2:BW} {x y:Int} {j:Nat}
theorem OrW.le (h:OrW V V2 x y):Le V V2:=fun a i hb=>by rw[h,hb];rfl
theorem OrW.at (h:OrW V V2 x y) (hx:0<=x) (hy:0<=y):QS (V2 x.toNat) y.toNat=true:=by
 rw[h];have e1:((x.toNat:Nat):Int)=x:=by omega
 have e2:((y.toNat:Nat):Int)=y:=by omega
 rw[e1,e2];simp
theorem OrW.snd (h:OrW V V2 x y) (hs:Qgv T M V) (hh:0<=x->0<=y->HB T M x.toNat y.toNat):Qgv T M V2:=fun a i hb=>by
 rw[h]at hb;rcases orT hb with hb|hb
 · exact hs a i hb
 simp only[Bool.and_eq_true,decide_eq_true_eq]at hb;have:=hh (by omega) (by omega);rwa[show x.toNat=a by omega,show y.toNat=i by omega]at this
theorem NextTo.le (h:NextTo M j V) (l:Le V V2):NextTo M j V2:=fun i k a b c d=>l i k (h i k a b c d)
theorem JoinTo.le (h:JoinTo M j V) (l:Le V V2):JoinTo M j V2:=fun i a b c=>l _ _ (h i a b c)
theorem MadeTo.le (h:MadeTo T M j V) (l:Le V V2):MadeTo T M j V2:=fun id a b=>⟨fun c d=>l _ _ ((h id a b).1 c d),fun c d e=>l _ _ ((h id a b).2 c d e)⟩
theorem QaH (h:NextTo M j V) (hn: ∀i:Nat,i <j->(mkI M i).task≠(mkI M j).task):NextTo M (j+1) V:=fun i k a b c d=>by
 rcases Nat.lt_or_ge k j with e|e
 · exact h i k a e c d
 have e:k=j:=by omega
 subst e;exact absurd c (hn i a)
theorem QaG {o:Nat} (h:NextTo M j V) (ho:o <j) (ht:(mkI M o).task=(mkI M j).task) (hl: ∀k:Nat,o <k->k <j->(mkI M k).task≠(mkI M j).task) (hb:QS (V o) j=true):NextTo M (j+1) V:=fun i k a b c d=>by
 rcases Nat.lt_or_ge k j with e|e
 · exact h i k a e c d
 have e:k=j:=by omega
 subst e;rcases Nat.lt_trichotomy i o with f|f|f
 · exact absurd ht (d o f ho)
 · rw[f];exact hb
 exact absurd c (hl i f a)
theorem Q8j {N:Ms} {cl:Nat} (h:Qgo M j N):Qgo M (j+1) (Q9z N (mkI M j).task (iV j) cl).1:=by
 refine⟨fun id v hv=>?_,fun id hv i hi=>?_⟩
 · rw[get_put]at hv
   split at hv
   · rename_i e;cases hv;exact⟨j,by omega,rfl,e.symm,fun k h1 h2=>by omega⟩
   rename_i e;obtain⟨i,h1,h2,h3,h4⟩:=h.1 id v hv;refine⟨i,by omega,h2,h3,fun k h5 h6=>?_⟩;rcases Nat.lt_or_ge k j with f|f
   · exact h4 k h5 f
   have f:k=j:=by omega
   rw[f];exact fun g=>e g.symm
 rw[get_put]at hv
 split at hv
 · cases hv
 rename_i e;rcases Nat.lt_or_ge i j with f|f
 · exact h.2 id hv i f
 have f:i=j:=by omega
 rw[f];exact fun g=>e g.symm
theorem Q5z (h:MadeTo T M j V) (h1:0<=(tkT T (j+1)).mark->0<=bIx M (j+1)->QS (V (tkT T (j+1)).mark.toNat) (bIx M (j+1)).toNat=true) (h2:0 <(tkT T (j+1)).prev->0<=eIx M (tkT T (j+1)).prev->0<=bIx M (j+1)->QS (V (eIx M (tkT T (j+1)).prev).toNat) (bIx M (j+1)).toNat=true):MadeTo T M (j+1) V:=fun id a b=>by
 by_cases e:id<=j
 · exact h id a e
 have e:id=j+1:=by omega
 subst e;exact⟨h1,h2⟩
theorem join_step (h:JoinTo M j V) (hj:(mkI M j).kind=6->0<=eIx M (mkI M j).other->QS (V (eIx M (mkI M j).other).toNat) j=true):JoinTo M (j+1) V:=fun i a b c=>by
 rcases Nat.lt_or_ge i j with e|e
 · exact h i e b c
 have e:i=j:=by omega
 subst e;exact hj b c
end
section
variable {h:Hp} {k r ca bb be tb tc m q:Nat} {ma:Option Addr} {mc:Nat} {T:List MTask} {M:List MMark} {W:BW}
set_option maxHeartbeats 8000000 in
theorem t37 (x0:ClG h k r ca bb be tb tc ma mc T M) (ne:ClN k r bb be tb ma M) (ok:RunOk T M) (hr:h.get r=some (.cells (Zc M.length W) 126 m)) (hm:m≠1) (l4:r <h.n) (hn:M.length<=1200) (hW: ∀a i,QS (W a) i=false):
 C modE 37 [Qw k] h fun _ h'=> ∃W',h'.get r=some (.cells (Zc M.length W') 126 m)/\ExtB [r] h h'/\Qgv T M W'/\BaseP T M fun a i=>QS (W' a) i=true:=by
 have hT:=ok.t;refine Q8 (fu:=Try.f37) (by kernel_rfl) rfl ?_;have S:=SH.one (r:=cR r (.cells (Zc M.length W) 126 m)) hr (by simp[cR];exact l4) (by simp[cR]);refine Q6 ?_;refine Q1U S gn rfl fun b1 g nb1 S=>?_;refine I2 rfl<|Z7<|I1 rfl<|I6 rfl<|I0 0 rfl<|I0 1 rfl<|I4 rfl (S.old x0.g1 x0.l1 (Q2N ne.n1)) rfl<|I7 rfl<|I1 rfl<|Q0<|Q5 ?_
 refine Qh [(16,_)] [(0,_),(2,_),(14,_),(15,_)] (by repeat(first|exact trivial|refine⟨rfl,?_⟩)) (fun kk lv hh=> ∃(j:Nat) (N:Ms) (cl:Nat) (V:BW),lv=[(16,iV j)]/\kk=M.length -j/\j<=M.length/\SH h [r] [cR b1 (.map (N.map ent) cl),cR r (.cells (Zc M.length V) 126 m)] hh/\Qgo M j N/\Qgv T M V/\NextTo M j V/\JoinTo M j V) (n:=M.length) ?_ fun kk lv hh hI=>?_
 · exact⟨0,[],0,W,rfl,rfl,by omega,S,⟨fun id v h=>(by cases h),fun _ _ i hi=>by omega⟩,fun a i hb=>(by rw[hW]at hb;cases hb),fun i k a b=>(by omega),fun i a=>by omega⟩
 obtain⟨j,N,cl,V,rfl,hk,hj,S,hL,hV,hNx,hJn⟩:=hI;refine Q6<|Il rfl rfl<|Q0<|Q3<|Q2 rfl (fun hb=>?_) fun hb=>?_
 · skip
   refine Q4 ?_;have hj:j <M.length:=by simpa using hb
   obtain⟨mb,mcs,mm,hma,mg,mln,mll,mlr,mlf⟩:=x0.run.mk' (j:=(j:Int)) (by omega) (by omega);have hlk:=ok.lk j hj;rw[<-Zv hj]at hlk;have hmbr:=ne.n5 (by omega) mb hma;refine Q3<|Q5<|Q6<|I1 rfl ?_;rw[hma];refine I5o 8 rfl rfl ?_;rw[<-hma];refine I3 8 rfl (S.old mg mln (Q2N hmbr)) mll ?_;rw[mlr];refine Qo (zv:=.agg #[.int .i64 0,.int .i64 0,.int .i64 0,.int .i64 0,.int .i64 0,.int .i64 0,.int .i64 0,.bool false]) S gn rfl (by kernel_rfl) fun b2 g nb2 S=>?_;refine I2 rfl ?_;refine Qe (n:=8) 0 S gn rfl rfl (by kernel_rfl) (by kernel_rfl) rfl rfl (by decide) rfl (fun g S=>ag0) fun g S=>?_;refine Q0 ?_
   refine Y1 [(0,Qw k),(2,.map (some b1)),(3,iV j),(4,Qw b2),(14,msV ma mc M),(15,iV M.length),(16,iV j)] (fun lv hh=>lv=[]/\ ∃V:BW,SH h [r] [cR b2 (.cells (mkV (mkI M j)) 36 0),cR b1 (.map (N.map ent) cl),cR r (.cells (Zc M.length V) 126 m)] hh/\Qgv T M V/\NextTo M (j+1) V/\JoinTo M j V) ?_ fun lv hh hJ=>?_
   · skip
     refine Q6<|I1 rfl<|I0 1 rfl<|I4 rfl (S.cel 0 rfl) rfl<|Q95 (zv:=.int .i64 0) Q1x gn rfl rfl rfl (S.cel 1 rfl) (by kernel_rfl) ?_
     obtain⟨o,bo,ho,hbo,hs1,hs2⟩: ∃(o:Int) (bo:Bool),(Q4O N (mkI M j).task).getD (.int .i64 0)=iV o/\(Q4O N (mkI M j).task).isSome=bo/\(bo=true-> ∃i:Nat,i <j/\o=i/\(mkI M i).task=(mkI M j).task/\ ∀k:Nat,i <k->k <j->(mkI M k).task≠(mkI M j).task)/\(bo=false-> ∀i:Nat,i <j->(mkI M i).task≠(mkI M j).task):=by
      cases eg:Q4O N (mkI M j).task with
      |none=>exact⟨0,false,rfl,rfl,fun h=>(by cases h),fun _=>hL.2 _ eg⟩
      | some v=>
        obtain⟨i,h1,rfl,h3,h4⟩:=hL.1 _ _ eg;exact⟨i,true,rfl,rfl,fun _=>⟨i,h1,rfl,h3,h4⟩,fun h=>by cases h⟩
     rw[ho,hbo];refine I1 rfl<|Ix rfl rfl<|Ix rfl rfl<|I2 rfl<|I2 rfl<|QL<|I1 rfl<|Q0<|Q2 rfl (fun hb=>?_) fun hb=>?_
     · skip
       refine Q1 (by kernel_rfl) ?_;obtain⟨i,hij,rfl,hti,hbt⟩:=hs1 hb;refine I1 rfl<|I1 rfl<|I1 rfl<|Ic [_,_,_] rfl rfl (C.mono (t44 (a:=(i:Int)) (b:=(j:Int)) (x0.keep ne S.ext) (S.cel 2 rfl) hm (by omega) (by omega) hn) ?_);rintro v g ⟨V2,hg2,x,hV2,rfl⟩;have hV2:OrW V V2 i j:=hV2;have S:=S.chg 2 rfl x hg2;refine⟨ag0,?_⟩;refine Q0 ?_
       exact ZF [] (by repeat(first|exact trivial|refine⟨rfl,?_⟩)) ⟨rfl,V2,S,hV2.snd hV (fun _ _=>by rw[Int.toNat_natCast,Int.toNat_natCast];exact hb_clo.base.next i j hij hj hti hbt),QaG (hNx.le hV2.le) hij hti hbt (by have:=hV2.at (by omega) (by omega);rwa[Int.toNat_natCast,Int.toNat_natCast]at this),hJn.le hV2.le⟩
     refine Q4 ?_;exact ZF [] (by repeat(first|exact trivial|refine⟨rfl,?_⟩)) ⟨rfl,V,S,hV,QaH hNx (hs2 hb),hJn⟩
   obtain⟨rfl,V,S,hV,hNx,hJn⟩:=hJ;refine Q6<|I1 rfl<|I0 1 rfl<|I4 rfl (S.cel 0 rfl) rfl<|I1 rfl ?_;refine Q1T 1 S Q1x gn rfl rfl rfl rfl (fun g S=>ag0) fun g S=>?_;refine QL<|I0 0 rfl<|I4 rfl (S.cel 0 rfl) rfl<|Ie rfl rfl<|Q0<|Q2 rfl (fun hb=>?_) fun hb=>?_
   · skip
     refine I9 ?_;have h6:(mkI M j).kind=6:=of_decide_eq_true hb;obtain⟨⟨o1,o2⟩,_,_⟩:=Q07 hlk h6;refine I1 rfl<|I1 rfl<|I6 rfl<|I0 4 rfl<|I4 rfl (S.old x0.g1 x0.l1 (Q2N ne.n1)) rfl<|I0 2 rfl<|I4 rfl (S.cel 0 rfl) rfl<|I5o 1 rfl rfl<|I4 rfl (S.old x0.g2 x0.l2 (Q2N ne.n2)) (Zd (by omega) (by omega))<|I1 rfl<|Ic [_,_,_] rfl rfl (C.mono (t44 (a:=Qn M (mkI M j).other 2) (b:=(j:Int)) (x0.keep ne S.ext) (S.cel 2 rfl) hm QB (by omega) hn) ?_);rintro v g ⟨V2,hg2,x,hV2,rfl⟩;have hV2:OrW V V2 (Qn M (mkI M j).other 2) j:=hV2;have S:=S.chg 2 rfl x hg2;refine⟨ag0,?_⟩
     refine Q0<|Q1 (by kernel_rfl)<|Iao rfl rfl<|I1 rfl<|Q0 ?_;exact Z6 (M.length - (j+1)) (by omega) [(16,_)] (by repeat(first|exact trivial|refine⟨rfl,?_⟩)) ⟨j+1,_,_,V2,rfl,rfl,by omega,S.drop,Q8j hL,hV2.snd hV (fun h0 _=>by rw[Int.toNat_natCast];exact hb_clo.base.join j hj h6 h0),hNx.le hV2.le,join_step (hJn.le hV2.le) fun _ h0=>by have:=hV2.at h0 (by omega);rwa[Int.toNat_natCast]at this⟩
   refine Q4<|Q1 (by kernel_rfl)<|Iao rfl rfl<|I1 rfl<|Q0 ?_;exact Z6 (M.length - (j+1)) (by omega) [(16,_)] (by repeat(first|exact trivial|refine⟨rfl,?_⟩)) ⟨j+1,_,_,V,rfl,rfl,by omega,S.drop,Q8j hL,hV,hNx,join_step hJn fun h6=>absurd h6 (of_decide_eq_false hb)⟩
 refine Ql<|Q9<|Qc<|Qm<|Q3 ?_;obtain rfl:j=M.length:=by simp at hb;omega
 refine Q1 (by kernel_rfl)<|I1 rfl<|I6 rfl<|I0 0 rfl<|I0 0 rfl<|I4 rfl (S.old x0.g1 x0.l1 (Q2N ne.n1)) rfl<|I7 rfl<|I1 rfl<|Q0<|Q5<|Qh [(58,_)] [(0,_),(56,_),(57,_)] (by repeat(first|exact trivial|refine⟨rfl,?_⟩)) (fun kk lv hh=> ∃(i:Nat) (V:BW),lv=[(58,iV i)]/\kk=T.length -i/\i<=T.length/\SH h [r] [cR b1 (.map (N.map ent) cl),cR r (.cells (Zc M.length V) 126 m)] hh/\Qgv T M V/\NextTo M M.length V/\JoinTo M M.length V/\MadeTo T M i V) (n:=T.length) ?_ fun kk lv hh hI=>?_
 · exact⟨0,V,rfl,rfl,by omega,S,hV,hNx,hJn,fun id a b=>by omega⟩
 obtain⟨i,V,rfl,hk,hi,S,hV,hNx,hJn,hMd⟩:=hI;refine Q6<|Il rfl rfl<|Q0<|Q3<|Q2 rfl (fun hb=>?_) fun hb=>?_
 · skip
   refine Q4 ?_;have hi:i <T.length:=by simpa using hb
   obtain⟨tcs,tm,ttg,ttl,ttr,ttf⟩:=x0.run.tk (id:=(i:Int)+1) (by omega) (by omega);have ej:(i:Int)+1 -1=i:=by omega
   rw[ej]at ttl ttr
   have hmk:(tkT T (i+1)).mark <M.length:=by
    rcases Int.lt_or_le (tkT T (i+1)).mark 0 with e|e
    · omega
    exact(Q1y (ok.tk.made (i+1) (by omega) (by omega)) e).1
   have hfl:=ok.tk.fol (i+1) (by omega) (by omega);refine Q3<|Q5<|Q6<|I1 rfl<|I5o 15 rfl rfl<|I3 15 rfl (S.old ttg x0.run.tl (Q2N ne.n4)) ttl ?_;rw[ttr];refine Qo (zv:=.agg #[.int .i64 0,.int .i64 0,.int .i64 0,.int .i64 0,.int .i64 0,.int .i64 0,.int .i64 0,.bool false,.int .i64 0,.int .i64 0,.int .i64 0,.int .i64 0,.int .i64 0,.int .i64 0,.int .i64 0]) S gn rfl (by kernel_rfl) fun b3 g nb3 S=>?_;refine I2 rfl ?_;refine Qe (n:=15) 0 S gn rfl rfl (by kernel_rfl) (by kernel_rfl) rfl rfl (by decide) rfl (fun g S=>ag0) fun g S=>?_;refine Q0<|Q3<|I9<|I1 rfl<|I0 13 rfl ?_
   refine I4 rfl (S.cel 0 rfl) rfl<|I1 rfl<|I6 rfl<|I0 3 rfl<|I4 rfl (S.old x0.g1 x0.l1 (Q2N ne.n1)) rfl<|I1 rfl<|Iao rfl rfl<|I5o 1 rfl rfl<|I4 rfl (S.old x0.g3 x0.l3 (Q2N ne.n3)) (Zd (by omega) (by omega))<|Ic [_,_,_] rfl rfl (C.mono (t44 (a:=(tkT T (i+1)).mark) (b:=Qn M (i+1) 1) (x0.keep ne S.ext) (S.cel 2 rfl) hm hmk QB hn) ?_);rintro v g ⟨V2,hg2,x,hV2,rfl⟩;have hV2:OrW V V2 (tkT T (i+1)).mark (Qn M (i+1) 1):=hV2;have S:=S.chg 2 rfl x hg2;have hVs:=hV2.snd hV (fun h1 h2=>hb_clo.base.made (i+1) (by omega) (by omega) h1 h2);refine⟨ag0,?_⟩;refine QL ?_
   refine I0 14 rfl<|I4 rfl (S.cel 0 rfl) rfl<|Ig rfl rfl<|Q0<|Q2 rfl (fun hb=>?_) fun hb=>?_
   · skip
     refine I9 ?_;have hp0:0 <(tkT T (i+1)).prev:=of_decide_eq_true hb;obtain⟨f1,f2⟩:=(hfl.resolve_left (by omega)).1;refine I1 rfl<|I1 rfl<|I6 rfl<|I0 4 rfl<|I4 rfl (S.old x0.g1 x0.l1 (Q2N ne.n1)) rfl<|I0 14 rfl<|I4 rfl (S.cel 0 rfl) rfl<|I5o 1 rfl rfl<|I4 rfl (S.old x0.g2 x0.l2 (Q2N ne.n2)) (Zd (by omega) (by omega))<|I1 rfl<|I6 rfl<|I0 3 rfl<|I4 rfl (S.old x0.g1 x0.l1 (Q2N ne.n1)) rfl<|I1 rfl<|Iao rfl rfl<|I5o 1 rfl rfl ?_;refine I4 rfl (S.old x0.g3 x0.l3 (Q2N ne.n3)) (Zd (by omega) (by omega)) ?_
     refine Ic [_,_,_] rfl rfl (C.mono (t44 (a:=Qn M (tkT T (i+1)).prev 2) (b:=Qn M (i+1) 1) (x0.keep ne S.ext) (S.cel 2 rfl) hm QB QB hn) ?_);rintro v g ⟨V3,hg3,x,hV3,rfl⟩;have hV3:OrW V2 V3 (Qn M (tkT T (i+1)).prev 2) (Qn M (i+1) 1):=hV3;have S:=S.chg 2 rfl x hg3;refine⟨ag0,?_⟩;refine Q0<|Q1 (by kernel_rfl)<|Iao rfl rfl<|I1 rfl<|Q0 ?_
     exact Z6 (T.length - (i+1)) (by omega) [(58,_)] (by repeat(first|exact trivial|refine⟨rfl,?_⟩)) ⟨i+1,V3,rfl,rfl,by omega,S.drop,hV3.snd hVs (fun h1 h2=>hb_clo.base.fol (i+1) (by omega) (by omega) hp0 h1 h2),(hNx.le hV2.le).le hV3.le,(hJn.le hV2.le).le hV3.le,Q5z ((hMd.le hV2.le).le hV3.le) (fun a b=>hV3.le _ _ (hV2.at a b)) fun _ a b=>hV3.at a b⟩
   refine Q4<|Q1 (by kernel_rfl)<|Iao rfl rfl<|I1 rfl<|Q0 ?_;exact Z6 (T.length - (i+1)) (by omega) [(58,_)] (by repeat(first|exact trivial|refine⟨rfl,?_⟩)) ⟨i+1,V2,rfl,rfl,by omega,S.drop,hVs,hNx.le hV2.le,hJn.le hV2.le,Q5z (hMd.le hV2.le) (fun a b=>hV2.at a b) fun h0=>absurd h0 (of_decide_eq_false hb)⟩
 refine Ql<|Q9<|Qc<|Qm ?_;refine⟨.inr rfl,_,rfl,?_⟩;exact⟨V,S.cel 1 rfl,S.ext,hV,⟨hNx,hJn,fun id a b=>(hMd id a (by simp at hb;omega)).1,fun id a b=>(hMd id a (by simp at hb;omega)).2⟩⟩
end
end Go.Proofs.Yteinandjhpnceaa
namespace Go.Proofs.Yteinandjhpnceaa
open Go.X Go.May Go.Mac Go.Model
def Q0C (T:List MTask) (M:List MMark) (V:BW) (r:Nat) (a b:Int):Bool:=J1 T M a b&&(if r=0 then Q9k T V a b else ZQ V (Qn M a 1) (Qn M b 1))
def Same (V V2:BW):Prop:= ∀a i,QS (V2 a) i=QS (V a) i
theorem Q2r {V V2:BW} {a b:Int} (h:Same V V2):ZQ V2 a b=ZQ V a b:=by unfold ZQ;rw[h]
theorem Q8U {T:List MTask} {M:List MMark} {V V2:BW} {r:Nat} {a b:Int} (h:Same V V2):Q0C T M V2 r a b=Q0C T M V r a b:=by
 unfold Q0C Q9k;rw[Q2r h,Q2r h]
def CloT (n:Nat) (V:BW):Prop:= ∀x y z,x <n->y <1216->z <1216->QS (V x) y=true->QS (V y) z=true->QS (V x) z=true
def Qeg (T:List MTask) (a b:Int) (r:Nat) (a' b':Int) (r':Nat):Prop:=(1<=a'/\a'<=T.length)/\(1<=b'/\b'<=T.length)/\r' <2/\(a' <a\/(a'=a/\(b' <b\/(b'=b/\r' <r))))
structure SwI (T:List MTask) (M:List MMark) (V0 V:BW) (ch:Bool) (a b:Int) (r:Nat):Prop where
 w:InO M.length V (HB T M)
 le:Le V0 V
 t:ch=true-> ∃a i,a <M.length/\i <M.length/\QS (V a) i=true/\QS (V0 a) i=false
 f:ch=false->Same V0 V/\ ∀a' b' r',Qeg T a b r a' b' r'->Q0C T M V0 r' a' b'=true->QS (V0 (Qn M a' 2).toNat) (Qn M b' 1).toNat=true
section
variable {T:List MTask} {M:List MMark} {V0 V V2:BW} {ch:Bool} {a b:Int} {r:Nat}
theorem SwI.step (s:SwI T M V0 V ch a b r) (h:Q0C T M V r a b=true->QS (V (Qn M a 2).toNat) (Qn M b 1).toNat=true):SwI T M V0 V ch a b (r+1):=by
 refine⟨s.w,s.le,s.t,fun hc=>⟨(s.f hc).1,fun a' b' r' hd hr=>?_⟩⟩;obtain⟨h1,h2,h3,h4⟩:=hd;by_cases e:a'=a/\b'=b/\r'=r
 · obtain⟨rfl,rfl,rfl⟩:=e;rw[<-(s.f hc).1];exact h (by rw[Q8U (s.f hc).1];exact hr)
 exact(s.f hc).2 a' b' r' ⟨h1,h2,h3,by omega⟩ hr
theorem Qaa (ok:RunOk T M) (w:InO M.length V (HB T M)) (a1:1<=a) (a2:a<=T.length) (b1:1<=b) (b2:b<=T.length) (hn:M.length<=1200) (h:Q0C T M V r a b=true):(0<=Qn M a 2/\Qn M a 2 <Qn M b 1)/\HB T M (Qn M a 2).toNat (Qn M b 1).toNat:=by
 have bits: ∀x y:Int,x <M.length->y <M.length->ZQ V x y=true->rel (HB T M) x y:=fun x y hx hy hf=>by
  unfold ZQ at hf;simp only[Bool.and_eq_true,decide_eq_true_eq]at hf;exact⟨hf.1.1,hf.1.2,w.w _ _ (by omega) (by omega) hf.2⟩
 have hmk: ∀id:Int,1<=id->id<=T.length->(tkT T id).mark <M.length:=fun id i1 i2=>by
  rcases Int.lt_or_le (tkT T id).mark 0 with e|e
  · omega
  exact(Q1y (ok.tk.made id i1 i2) e).1
 unfold Q0C at h;rw[Bool.and_eq_true]at h;obtain⟨ha,h⟩:=h;unfold J1 at ha;simp only[Bool.and_eq_true,decide_eq_true_eq,Bool.not_eq_true',decide_eq_false_iff_not]at ha;obtain⟨⟨⟨⟨h1,h2⟩,h3⟩,h4⟩,h5⟩:=ha;refine⟨⟨h4,h5⟩,?_⟩;have hA:Q6h T M a b:=⟨h1,h2,h3,h4,h5⟩
 split at h
 · unfold Q9k at h;simp only[Bool.and_eq_true,decide_eq_true_eq,Bool.not_eq_true',Bool.or_eq_true]at h;obtain⟨⟨⟨⟨k1,k2⟩,k3⟩,k4⟩,k5⟩:=h;exact hb_clo.seven a b a1 a2 b1 b2 hA ⟨k1,k2,k3,k4,bits _ _ (hmk a a1 a2) (hmk b b1 b2) k5⟩
 exact hb_clo.eight a b a1 a2 b1 b2 hA (bits _ _ QB QB h)
theorem InO.or (w:InO M.length V (HB T M)) {x y:Int} (o:OrW V V2 x y) (hh:HB T M x.toNat y.toNat):InO M.length V2 (HB T M):=by
 refine⟨fun a i ha hi h=>?_,w.up,w.tr⟩;rw[o]at h;rcases orT h with h|h
 · exact w.w a i ha hi h
 simp only[Bool.and_eq_true,decide_eq_true_eq]at h;rwa[show x.toNat=a by omega,show y.toNat=i by omega]at hh
theorem SwI.add (s:SwI T M V0 V ch a b r) (ok:RunOk T M) (a1:1<=a) (a2:a<=T.length) (b1:1<=b) (b2:b<=T.length) (hn:M.length<=1200) (h:Q0C T M V r a b=true) (o:OrW V V2 (Qn M a 2) (Qn M b 1)) (hc:((decide (0<=Qn M a 2)&&decide (0<=Qn M b 1))&& !QS (V (Qn M a 2).toNat) (Qn M b 1).toNat)=true):SwI T M V0 V2 true a b (r+1):=by
 have hh:=Qaa ok s.w a1 a2 b1 b2 hn h;have hu:=Q1k ok hh.2;refine⟨s.w.or o hh.2,fun x y hx=>o.le _ _ (s.le x y hx),fun _=>⟨(Qn M a 2).toNat,(Qn M b 1).toNat,by omega,hu.2,o.at (by omega) (by omega),?_⟩,fun h=>by cases h⟩;simp only[Bool.and_eq_true,Bool.not_eq_true']at hc;cases e:QS (V0 (Qn M a 2).toNat) (Qn M b 1).toNat with
 |false=>rfl
 |true=>rw[s.le _ _ e]at hc;exact absurd hc.2 (by decide)
theorem SwI.old (s:SwI T M V0 V ch a b r) (ok:RunOk T M) (a1:1<=a) (a2:a<=T.length) (b1:1<=b) (b2:b<=T.length) (hn:M.length<=1200) (h:Q0C T M V r a b=true) (o:OrW V V2 (Qn M a 2) (Qn M b 1)) (hc:((decide (0<=Qn M a 2)&&decide (0<=Qn M b 1))&& !QS (V (Qn M a 2).toNat) (Qn M b 1).toNat)=false):SwI T M V0 V2 ch a b (r+1):=by
 have hh:=Qaa ok s.w a1 a2 b1 b2 hn h
 have hbit:QS (V (Qn M a 2).toNat) (Qn M b 1).toNat=true:=by
  rw[decide_eq_true hh.1.1,decide_eq_true (show 0<=Qn M b 1 by omega)]at hc;simpa using hc
 have hs:Same V V2:=fun x y=>by
  rw[o];by_cases e:(x:Int)=Qn M a 2/\(y:Int)=Qn M b 1
  · have e1:(Qn M a 2).toNat=x:=by omega
    have e2:(Qn M b 1).toNat=y:=by omega
    rw[e1,e2]at hbit;rw[hbit];rfl
  have:(decide ((x:Int)=Qn M a 2)&&decide ((y:Int)=Qn M b 1))=false:=by simpa using e
  rw[this,Bool.or_false]
 have s2:=s.step (fun _=>hbit);refine⟨s.w.or o hh.2,fun x y hx=>o.le _ _ (s.le x y hx),fun hc=>?_,fun hc=>⟨fun x y=>(hs x y).trans ((s2.f hc).1 x y),(s2.f hc).2⟩⟩;obtain⟨x,y,h1,h2,h3,h4⟩:=s2.t hc;exact⟨x,y,h1,h2,by rw[hs];exact h3,h4⟩
theorem SwI.mv {a2 b2:Int} {r2:Nat} (s:SwI T M V0 V ch a b r) (h: ∀a' b' r',Qeg T a2 b2 r2 a' b' r'->Qeg T a b r a' b' r'):SwI T M V0 V ch a2 b2 r2:=⟨s.w,s.le,s.t,fun hc=>⟨(s.f hc).1,fun a' b' r' hd=>(s.f hc).2 a' b' r' (h a' b' r' hd)⟩⟩
theorem Qce (ok:RunOk T M) (hn:M.length<=1200) (s:SwI T M V0 V false a b r) (hall:(T.length:Int)<a) (hB:BaseP T M fun a i=>QS (V0 a) i=true) (hT:CloT M.length V0): ∀x y,x <M.length->y <1216->(QS (V x) y=true↔HB T M x y):=by
 obtain⟨hs,hd⟩:=s.f rfl;intro x y hx hy;refine⟨s.w.w x y hx hy,fun h=>?_⟩;rw[hs]
 have hR:Clo T M fun a i=>QS (V0 a) i=true/\HB T M a i:=by
  have hbb:=(hb_clo (T:=T) (M:=M)).base
  have fr: ∀x y:Int,rel (fun a i=>QS (V0 a) i=true/\HB T M a i) x y->ZQ V0 x y=true:=fun x y h=>by
   unfold ZQ;rw[decide_eq_true h.1,decide_eq_true h.2.1,h.2.2.1];rfl
  have ah: ∀a b:Int,Q6h T M a b->J1 T M a b=true:=fun a b h=>by
   obtain⟨h1,h2,h3,h4,h5⟩:=h;unfold J1;rw[decide_eq_false h1,decide_eq_true h2,decide_eq_true h3,decide_eq_true (show 0<=Qn M a 2 from h4),decide_eq_true (show Qn M a 2 <Qn M b 1 from h5)];rfl
  refine⟨⟨fun i k h1 h2 h3 h4=>⟨hB.next i k h1 h2 h3 h4,hbb.next i k h1 h2 h3 h4⟩,fun i h1 h2 h3=>⟨hB.join i h1 h2 h3,hbb.join i h1 h2 h3⟩,fun id h1 h2 h3 h4=>⟨hB.made id h1 h2 h3 h4,hbb.made id h1 h2 h3 h4⟩,fun id h1 h2 h3 h4 h5=>⟨hB.fol id h1 h2 h3 h4 h5,hbb.fol id h1 h2 h3 h4 h5⟩⟩,fun p q w h1 h2=>?_,fun p q p1 p2 q1 q2 hA hF=>?_,fun p q p1 p2 q1 q2 hA hF=>?_⟩
  · have u1:=Q1k ok h1.2;have u2:=Q1k ok h2.2;exact⟨hT p q w (by omega) (by omega) (by omega) h1.1 h2.1,hb_clo.trans p q w h1.2 h2.2⟩
  · refine⟨hd p q 0 ⟨⟨p1,p2⟩,⟨q1,q2⟩,by omega,by omega⟩ ?_,hb_clo.seven p q p1 p2 q1 q2 hA ⟨hF.1,hF.2.1,hF.2.2.1,hF.2.2.2.1,hF.2.2.2.2.1,hF.2.2.2.2.2.1,hF.2.2.2.2.2.2.2⟩⟩;unfold Q0C Q9k;obtain⟨f1,f2,f3,f4,f5⟩:=hF;rw[ah p q hA,if_pos rfl,decide_eq_true f1,decide_eq_true f2,f3,fr _ _ f5];rcases f4 with f4|f4
    · rw[f4];rfl
    rw[decide_eq_true f4];simp
  refine⟨hd p q 1 ⟨⟨p1,p2⟩,⟨q1,q2⟩,by omega,by omega⟩ ?_,hb_clo.eight p q p1 p2 q1 q2 hA ⟨hF.1,hF.2.1,hF.2.2.2⟩⟩;unfold Q0C;rw[ah p q hA,if_neg (by decide),fr _ _ hF];rfl
 exact(h _ hR).1
end
theorem Q0j {α:Type} {p q:α->Bool}: ∀ {l:List α},(∀x,x∈l->q x=true->p x=true)->(l.filter q).length<=(l.filter p).length
 | [],_=>Nat.le_refl _
 | y::l,h=>by
   have ih:=Q0j (l:=l) fun x hx=>h x (by simp[hx]);have hy:=h y (by simp);rw[List.filter_cons,List.filter_cons];cases e:q y with
   |false=>cases p y<;>simp<;>omega
   |true=>rw[hy e];simpa using ih
theorem filter_lt {α:Type} {p q:α->Bool}: ∀ {l:List α} {x:α},(∀x,x∈l->q x=true->p x=true)->x∈l->p x=true->q x=false->(l.filter q).length <(l.filter p).length
 | y::l,x,h,hx,hp,hq=>by
   have ih:=Q0j (l:=l) fun x hx=>h x (by simp[hx]);have hy:=h y (by simp);rw[List.filter_cons,List.filter_cons];rcases List.mem_cons.1 hx with rfl|hx
   · rw[hp,hq];simp;omega
   have ih2:=filter_lt (l:=l) (fun x hx=>h x (by simp[hx])) hx hp hq;cases e:q y with
   |false=>cases p y<;>simp<;>omega
   |true=>rw[hy e];simpa using ih2
def Q5n (n:Nat):List (Nat×Nat):=(List.range n).flatMap fun a=>(List.range n).map fun i=>(a,i)
theorem Q3j {n a i:Nat} (h1:a <n) (h2:i <n):(a,i)∈Q5n n:=by
 unfold Q5n;exact List.mem_flatMap.2 ⟨a,List.mem_range.2 h1,List.mem_map.2 ⟨i,List.mem_range.2 h2,rfl⟩⟩
def JI (n:Nat) (V:BW):Nat:=((Q5n n).filter fun p=> !QS (V p.1) p.2).length
theorem QcI {n:Nat} {V V2:BW} (h:Le V V2) (hw: ∃a i,a <n/\i <n/\QS (V2 a) i=true/\QS (V a) i=false):JI n V2 <JI n V:=by
 obtain⟨a,i,h1,h2,h3,h4⟩:=hw;refine filter_lt (x:=(a,i)) (fun x _ hx=>?_) (Q3j h1 h2) (by rw[h4];rfl) (by rw[h3];rfl);cases e:QS (V x.1) x.2 with
 |false=>rfl
 |true=>rw[h _ _ e]at hx;exact absurd hx (by decide)
theorem QcJ {n:Nat} {V V2:BW} (h: ∀a i,i <n->QS (V a) i=true->QS (V2 a) i=true):JI n V2<=JI n V:=by
 refine Q0j (fun x hm hx=>?_)
 have hi:x.2 <n:=by
  unfold Q5n at hm;obtain⟨a,_,hm⟩:=List.mem_flatMap.1 hm;obtain⟨i,hi,rfl⟩:=List.mem_map.1 hm;exact List.mem_range.1 hi
 cases e:QS (V x.1) x.2 with
 |false=>rfl
 |true=>rw[h _ _ hi e]at hx;exact absurd hx (by decide)
end Go.Proofs.Yteinandjhpnceaa
namespace Go.Proofs.Yteinandjhpnceaa
open Go.X Go.May Go.Mac Go.Model
def ClosedAt (h:Hp) (k tb tc:Nat) (ma:Option Addr) (mc:Nat) (T:List MTask) (M:List MMark):Prop:= ∃(r ca bb be m:Nat) (V:BW),ClG h k r ca bb be tb tc ma mc T M/\h.get r=some (.cells (Zc M.length V) 126 m)/\r <h.n/\ ∀x y,x <M.length->y <1216->(QS (V x) y=true↔HB T M x y)
theorem Q6I: ∀n,Qd [uV 0#64,uV 0#64,uV 0#64,uV 0#64,uV 0#64,uV 0#64,uV 0#64,uV 0#64,uV 0#64,uV 0#64,uV 0#64,uV 0#64,uV 0#64,uV 0#64,uV 0#64,uV 0#64,uV 0#64,uV 0#64,uV 0#64] n=Zc n (fun _ _=>0#64):=by
 have key: ∀n,Qd (List.replicate 19 (uV 0#64)) n=List.replicate (n*19) (uV 0#64):=fun n=>by
  induction n with
  |zero=>rfl
  |succ n ih=>rw[Qd,ih,List.replicate_append_replicate];congr 1;omega
 intro n
 have e:Zc n (fun _ _=>0#64)=List.replicate (n*19) (uV 0#64):=by
  simp only[Zc];rw[List.map_const',List.length_range]
 rw[e,<-key];rfl
theorem Qe8 (a i:Nat):QS ((fun _ _=>0#64:Nat->Nat->BitVec 64) a) i=false:=by simp[QS]
def fnL (q:Nat):List Value:=[.func (.func 39) #[] #[Qw q],.func (.func 42) #[] #[Qw q]]
abbrev clK (r bb be tb tc:Nat) (ma:Option Addr) (mc:Nat) (T:List MTask) (M:List MMark):List Value:=[tsV tb tc T,msV ma mc M,.slice (some ⟨r,0,none⟩) M.length M.length,.slice (some ⟨bb,0,none⟩) (T.length+1) (T.length+1),.slice (some ⟨be,0,none⟩) (T.length+1) (T.length+1)]
abbrev clL (b1 b2 b3 b4 b5 b6 tb tc:Nat) (ma:Option Addr) (mc:Nat) (T:List MTask) (M:List MMark) (B E:List Value) (V:BW):List Res:=
 [cR b6 (.cells [Qw b5] 84 0),cR b5 (.cells (clK b2 b3 b4 tb tc ma mc T M) 122 0),cR b4 (.cells E 3 0),cR b3 (.cells B 3 0),cR b2 (.cells (Zc M.length V) 126 0),cR b1 (.cells [tsV tb tc T,msV ma mc M] 39 0)]
section
variable {h g:Hp} {b1 b2 b3 b4 b5 b6 tb tc:Nat} {ma:Option Addr} {mc:Nat} {T:List MTask} {M:List MMark} {V:BW}
theorem Qga (S:SH h [] (clL b1 b2 b3 b4 b5 b6 tb tc ma mc T M (ixL M T.length 1) (ixL M T.length 2) V) g) (R:RnAt h tb tc ma mc T M):ClG g b5 b2 M.length b3 b4 tb tc ma mc T M:=⟨S.cel 1 rfl,S.cel 2 rfl,S.cel 3 rfl,S.lt1 1 rfl,S.lt1 2 rfl,S.lt1 3 rfl,R.ext S.e0⟩
theorem cl_n (S:SH h [] (clL b1 b2 b3 b4 b5 b6 tb tc ma mc T M (ixL M T.length 1) (ixL M T.length 2) V) g) (R:RnAt h tb tc ma mc T M) (h2:h.n<=b2):ClN b5 b2 b3 b4 tb ma M:=by
 refine⟨S.ne2 1 4 (by decide) rfl rfl,S.ne2 2 4 (by decide) rfl rfl,S.ne2 3 4 (by decide) rfl rfl,by have:=R.tl;omega,fun hM mb e=>?_⟩;obtain⟨mb',_,_,e2,_,e3⟩:=R.m hM;rw[e2]at e;cases e;omega
theorem Q7l {V1:BW} (hn:M.length<=1200) (hB:BaseP T M fun a i=>QS (V a) i=true) (hL: ∀a i,i <1216->QS (V a) i=true->QS (V1 a) i=true):BaseP T M fun a i=>QS (V1 a) i=true:=by
 have hb: ∀id,(bIx M id).toNat <1216:=fun id=>by have h:=QB (L:=M) (id:=id) (k:=1);have h4:bIx M id=Qn M id 1:=rfl;omega
 exact⟨fun i k a b c d=>hL _ _ (by omega) (hB.next i k a b c d),fun i a b c=>hL _ _ (by omega) (hB.join i a b c),fun id a b c d=>hL _ _ (hb id) (hB.made id a b c d),fun id a b c d e=>hL _ _ (hb id) (hB.fol id a b c d e)⟩
theorem Q2d {id:Int} (ok:RunOk T M) (i1:1<=id) (i2:id<=T.length):(tkT T id).mark <M.length:=by
 rcases Int.lt_or_le (tkT T id).mark 0 with e|e
 · omega
 exact(Q1y (ok.tk.made id i1 i2) e).1
set_option maxHeartbeats 16000000 in
theorem t19 (R:RnAt h tb tc ma mc T M) (ok:RunOk T M) (hn:M.length<=1200):C modE 19 [.agg #[tsV tb tc T,msV ma mc M]] h fun v h'=> ∃k,v=Qw k/\ClosedAt h' k tb tc ma mc T M/\Ext h h':=by
 have hT:=ok.t;refine Q8 (fu:=Try.f19) (by kernel_rfl) rfl ?_;have S:=SH.start h;refine Q6 ?_;refine QX S gn rfl rfl fun b1 g nb1 S=>?_;refine I2 rfl<|Q0<|QeR<|Q3<|I9<|I3 2 rfl (S.cel 0 rfl) (Nat.le_refl _)<|I0 1 rfl<|I4 rfl (S.cel 0 rfl) rfl<|I7 rfl ?_
 refine Z3 (e:=126) (z:=18) (zv:=.agg #[.int .u64 0,.int .u64 0,.int .u64 0,.int .u64 0,.int .u64 0,.int .u64 0,.int .u64 0,.int .u64 0,.int .u64 0,.int .u64 0,.int .u64 0,.int .u64 0,.int .u64 0,.int .u64 0,.int .u64 0,.int .u64 0,.int .u64 0,.int .u64 0,.int .u64 0]) (by':=152) S gn rfl rfl rfl (by kernel_rfl) (by kernel_rfl) (by kernel_rfl) (by kernel_rfl) (by decide) (by omega) (by omega) (by omega) (by omega) fun b2 g nb2 S=>?_;rw[Int.toNat_natCast]at S ⊢;have S:SH h [] [cR b2 (.cells (Zc M.length (fun _ _=>0#64)) 126 0),cR b1 (.cells [tsV tb tc T,msV ma mc M] 39 0)] g:=by rw[<-Q6I M.length];exact S
 refine I0 0 rfl<|I4 rfl (S.cel 1 rfl) rfl<|I7 rfl<|Iao rfl rfl ?_;refine Z3 (e:=3) (z:=0) (zv:=.int .i64 0) (by':=8) S gn rfl rfl rfl (by kernel_rfl) (by kernel_rfl) (by kernel_rfl) (by kernel_rfl) (by decide) (by omega) (by omega) (by omega) (by omega) fun b3 g nb3 S=>?_;rw[J2]at S ⊢;have S:SH h [] [cR b3 (.cells (flA T.length 0) 3 0),cR b2 (.cells (Zc M.length (fun _ _=>0#64)) 126 0),cR b1 (.cells [tsV tb tc T,msV ma mc M] 39 0)] g:=by rw[<-flA_zero];exact S
 refine I0 0 rfl<|I4 rfl (S.cel 2 rfl) rfl<|I7 rfl<|Iao rfl rfl ?_;refine Z3 (e:=3) (z:=0) (zv:=.int .i64 0) (by':=8) S gn rfl rfl rfl (by kernel_rfl) (by kernel_rfl) (by kernel_rfl) (by kernel_rfl) (by decide) (by omega) (by omega) (by omega) (by omega) fun b4 g nb4 S=>?_;rw[J2]at S ⊢;have S:SH h [] [cR b4 (.cells (flA T.length 0) 3 0),cR b3 (.cells (flA T.length 0) 3 0),cR b2 (.cells (Zc M.length (fun _ _=>0#64)) 126 0),cR b1 (.cells [tsV tb tc T,msV ma mc M] 39 0)] g:=by rw[show flA T.length 0=Qd [.int .i64 0] (T.length+1) from flA_zero.symm]at S ⊢;exact S
 refine Qz (cs:=(clK b2 b3 b4 tb tc ma mc T M).toArray) (zv:=.agg #[.slice none 0 0,.slice none 0 0,.slice none 0 0,.slice none 0 0,.slice none 0 0]) (pl:=[(0,2),(2,1),(3,1),(4,1)]) [(0,_),(1,_),(2,_),(3,_)] gn rfl (by kernel_rfl) (by kernel_rfl) rfl (by kernel_rfl) ?_;refine QX S gn rfl rfl fun b5 g nb5 S=>?_;refine Qo (zv:=.pointer none) S gn rfl (by kernel_rfl) fun b6 g nb6 S=>?_;refine Qi 0 S gn rfl rfl rfl (by kernel_rfl) rfl (by decide) (by decide) (fun g S=>ag0) fun g S=>?_;refine Z7<|I4 rfl (S.cel 0 rfl) rfl<|I6 rfl<|I0 3 rfl<|I4 rfl (S.cel 1 rfl) rfl<|I7 rfl<|I1 rfl<|Q0 ?_
 refine Q5<|Qh [(35,_)] [(1,_),(3,_),(34,_)] (by repeat(first|exact trivial|refine⟨rfl,?_⟩)) (fun kk lv hh=> ∃j:Nat,lv=[(35,iV j)]/\kk=T.length+1 -j/\j<=T.length+1/\SH h [] (clL b1 b2 b3 b4 b5 b6 tb tc ma mc T M (flA T.length j) (flA T.length j) (fun _ _=>0#64)) hh) (n:=(T.length+1)) ?_ fun kk lv hh hI=>?_
 · exact⟨0,rfl,rfl,by omega,S⟩
 obtain⟨j,rfl,hkk,hj,S⟩:=hI;refine Q6<|Il rfl rfl<|Q0<|Q3<|Q2 rfl (fun hb=>?_) fun hb=>?_
 · skip
   refine Q4 ?_;have hj:j <T.length+1:=by simp at hb;omega
   refine Q3<|Q5<|Q6<|I1 rfl<|I2 rfl<|Q0<|I9<|I4 rfl (S.cel 0 rfl) rfl<|I6 rfl<|I0 3 rfl<|I4 rfl (S.cel 1 rfl) rfl<|I1 rfl<|I4 rfl (S.cel 0 rfl) rfl<|I6 rfl<|I0 4 rfl<|I4 rfl (S.cel 1 rfl) rfl ?_;refine I1 rfl<|I5o 1 rfl rfl ?_;refine Qi 3 S gn rfl rfl rfl (by kernel_rfl) rfl (by decide) (by rw[Q4t (by omega)];omega) (fun g S=>ag0) fun g S=>?_;refine I5o 1 rfl rfl ?_;refine Qi 2 S gn rfl rfl rfl (by kernel_rfl) rfl (by decide) (by rw[Q4t (by omega)];omega) (fun g S=>ag0) fun g S=>?_;refine Q0 ?_
   refine Q1 (by kernel_rfl)<|Iao rfl rfl<|I1 rfl<|Q0 ?_;exact Z6 (T.length+1 - (j+1)) (by omega) [(35,_)] (by repeat(first|exact trivial|refine⟨rfl,?_⟩)) ⟨j+1,rfl,rfl,by omega,by rw[<-Q8v hj];exact S⟩
 refine Ql<|Q9<|Qc<|Qm<|Q3<|Q3 ?_;obtain rfl:j=T.length+1:=by simp at hb;omega
 have S:SH h [] (clL b1 b2 b3 b4 b5 b6 tb tc ma mc T M (ixL [] T.length 1) (ixL [] T.length 2) (fun _ _=>0#64)) hh:=by
  rw[<-Q4u,<-Q4u];exact S
 refine Q1 (by kernel_rfl)<|I0 1 rfl<|I4 rfl (S.cel 5 rfl) rfl<|I7 rfl<|I1 rfl<|Q0<|Q5<|Qh [(54,_)] [(1,_),(3,_),(52,_),(53,_)] (by repeat(first|exact trivial|refine⟨rfl,?_⟩)) (fun kk lv hh=> ∃j:Nat,lv=[(54,iV j)]/\kk=M.length -j/\j<=M.length/\SH h [] (clL b1 b2 b3 b4 b5 b6 tb tc ma mc T M (ixL (M.take j) T.length 1) (ixL (M.take j) T.length 2) (fun _ _=>0#64)) hh) (n:=M.length) ?_ fun kk lv hh hI=>?_
 · exact⟨0,rfl,rfl,by omega,S⟩
 obtain⟨j,rfl,hkk,hj,S⟩:=hI;refine Q6<|Il rfl rfl<|Q0<|Q3<|Q2 rfl (fun hb=>?_) fun hb=>?_
 · skip
   refine Q4 ?_;have hj:j <M.length:=by simpa using hb
   obtain⟨mb,mcs,mm,hma,mg,mln,mll,mlr,mlf⟩:=R.mk' (j:=(j:Int)) (by omega) (by omega);have hlk:=ok.lk j hj;have eM:=Zv hj;rw[<-eM]at hlk;obtain⟨x1,x2⟩:=hlk.t;have eT:M.take (j+1)=M.take j++[mkI M j]:=by rw[eM,List.take_append_getElem hj]
   have eL:(M.take j).length=j:=by rw[List.length_take];omega
   refine Q3<|Q5<|Q6<|I1 rfl ?_;rw[hma];refine I5o 8 rfl rfl ?_;rw[<-hma];refine I3 8 rfl (S.old0 mg mln) mll ?_;rw[mlr];refine Qo (zv:=.agg #[.int .i64 0,.int .i64 0,.int .i64 0,.int .i64 0,.int .i64 0,.int .i64 0,.int .i64 0,.bool false]) S gn rfl (by kernel_rfl) fun b7 g nb7 S=>?_;refine I2 rfl ?_;refine Qe (n:=8) 0 S gn rfl rfl (by kernel_rfl) (by kernel_rfl) rfl rfl (by decide) rfl (fun g S=>ag0) fun g S=>?_;refine QL<|I0 0 rfl<|I4 rfl (S.cel 0 rfl) rfl<|Q0<|Q5<|Q6<|Ie rfl rfl<|I2 rfl<|Q0<|Q2 rfl (fun hb=>?_) fun hb=>?_
   · skip
     refine I9<|I4 rfl (S.cel 1 rfl) rfl<|I6 rfl<|I0 3 rfl<|I4 rfl (S.cel 2 rfl) rfl<|I0 1 rfl<|I4 rfl (S.cel 0 rfl) rfl<|I1 rfl<|I5o 1 rfl rfl ?_;refine Qi 4 S gn rfl rfl rfl (by kernel_rfl) rfl (by decide) (by rw[Yp];omega) (fun g S=>ag0) fun g S=>?_;refine Q0<|Qk<|Q1 (by kernel_rfl)<|Iao rfl rfl<|I1 rfl<|Q0 ?_
     exact Z6 (M.length - (j+1)) (by omega) [(54,_)] (by repeat(first|exact trivial|refine⟨rfl,?_⟩)) ⟨j+1,rfl,rfl,by omega,by
      have hk:(mkI M j).kind=1:=of_decide_eq_true hb;have e1:=Q4f (n:=T.length) hk (hlk.b.1 hk) (by omega) x2;rw[eL]at e1
      rw[eT,<-e1,Yk (by omega)];exact S.drop⟩
   refine Q3 ?_;have hne1:(mkI M j).kind≠1:=of_decide_eq_false hb;refine Q1 (by kernel_rfl)<|Ie rfl rfl<|I2 rfl<|Q0<|Q2 rfl (fun hb=>?_) fun hb=>?_
   · skip
     refine I9<|I4 rfl (S.cel 1 rfl) rfl<|I6 rfl<|I0 4 rfl<|I4 rfl (S.cel 2 rfl) rfl<|I0 1 rfl<|I4 rfl (S.cel 0 rfl) rfl<|I1 rfl<|I5o 1 rfl rfl ?_;refine Qi 3 S gn rfl rfl rfl (by kernel_rfl) rfl (by decide) (by rw[Yp];omega) (fun g S=>ag0) fun g S=>?_;refine Q0<|Qk<|Q1 (by kernel_rfl)<|Iao rfl rfl<|I1 rfl<|Q0 ?_
     exact Z6 (M.length - (j+1)) (by omega) [(54,_)] (by repeat(first|exact trivial|refine⟨rfl,?_⟩)) ⟨j+1,rfl,rfl,by omega,by
      have hk:(mkI M j).kind=2:=of_decide_eq_true hb;have e1:=Q4f (n:=T.length) hk hlk.e (by omega) x2;rw[eL]at e1
      rw[eT,<-e1,Yk (by omega)];exact S.drop⟩
   refine Q4<|Qk<|Q1 (by kernel_rfl)<|Iao rfl rfl<|I1 rfl<|Q0 ?_
   exact Z6 (M.length - (j+1)) (by omega) [(54,_)] (by repeat(first|exact trivial|refine⟨rfl,?_⟩)) ⟨j+1,rfl,rfl,by omega,by
    have hk2:(mkI M j).kind≠2:=of_decide_eq_false hb
    rw[eT,Yk hne1,Yk hk2];exact S.drop⟩
 refine Ql<|Q9<|Qc<|Qm<|Q3 ?_;obtain rfl:j=M.length:=by simp at hb;omega
 rw[List.take_length]at S;refine Q1 (by kernel_rfl)<|I4 rfl (S.cel 0 rfl) rfl<|Ic [_] rfl rfl (C.mono (t37 (Qga S R) (cl_n S R nb2) ok (S.cel 4 rfl) (by decide) (S.lt1 4 rfl) hn Qe8) ?_);rintro v g ⟨V,hg,x,hS,hB⟩;have S:=S.chg 4 rfl x hg;refine⟨ag0,?_⟩;refine QL<|I4 rfl (S.cel 0 rfl) rfl<|Ic [_] rfl rfl (C.mono (t38 (S0:=HB T M) (Qga S R) (S.cel 4 rfl) (by decide) (S.lt1 4 rfl) (S.ne2 1 4 (by decide) rfl rfl) hn ⟨fun a i _ _ h=>hS a i h,fun a i h=>Q1k ok h,hb_clo.trans⟩) ?_);rintro v g ⟨V1,hg1,x,hW1,hL1,hT1⟩;have S:=S.chg 4 rfl x hg1;have hB1:BaseP T M fun a i=>QS (V1 a) i=true:=Q7l hn hB hL1;refine⟨ag0,?_⟩
 refine QL<|Q26 gn rfl rfl<|Q26 gn rfl rfl ?_;refine Qf (e:=86) (z:=0) (zv:=.nilFunc) [(0,_),(1,_)] S gn rfl (by kernel_rfl) (by kernel_rfl) (by kernel_rfl) (by kernel_rfl) rfl (by rfl) fun b8 g nb8 S=>?_;refine I2 rfl<|Q0<|Q3<|QeS<|Q3<|Q5 ?_
 refine Qh [] [(1,_),(3,_),(7,_)] (by repeat(first|exact trivial|refine⟨rfl,?_⟩)) (fun kk lv hh=> ∃V:BW,lv=[]/\kk=JI M.length V/\SH h [] (cR b8 (.cells (fnL b6) 86 0)::clL b1 b2 b3 b4 b5 b6 tb tc ma mc T M (ixL M T.length 1) (ixL M T.length 2) V) hh/\InO M.length V (HB T M)/\CloT M.length V/\BaseP T M fun a i=>QS (V a) i=true) (n:=(JI M.length V1)) ?_ fun kk lv hh hI=>?_
 · exact⟨V1,rfl,rfl,S,hW1,hT1,hB1⟩
 obtain⟨V0,rfl,hkk,S,hW0,hT0,hB0⟩:=hI;refine Q5<|Q6<|I2 rfl<|Z7<|I2 rfl<|Q0<|Q5<|Qh [(8,_),(9,_)] [(1,_),(3,_),(7,_)] (by repeat(first|exact trivial|refine⟨rfl,?_⟩)) (fun kk lv hh=> ∃(a:Nat) (ch:Bool) (V:BW),lv=[(8,.bool ch),(9,iV a)]/\kk=T.length+1 -a/\1<=a/\a<=T.length+1/\SH h [] (cR b8 (.cells (fnL b6) 86 0)::clL b1 b2 b3 b4 b5 b6 tb tc ma mc T M (ixL M T.length 1) (ixL M T.length 2) V) hh/\SwI T M V0 V ch a 1 0) (n:=T.length) ?_ fun kk lv hh hI=>?_
 · exact⟨1,false,V0,rfl,by omega,by omega,by omega,S,⟨hW0,fun _ _ h=>h,fun h=>(by cases h),fun _=>⟨fun _ _=>rfl,fun a' b' r' hd=>absurd hd (by unfold Qeg;omega)⟩⟩⟩
 obtain⟨a,ch,V,rfl,hk,ha,ha2,S,hs⟩:=hI;refine Q3<|Q6<|I1 rfl<|I0 0 rfl<|I4 rfl (S.cel 6 rfl) rfl<|I7 rfl<|Im rfl rfl<|Q0<|Q2 rfl (fun hb=>?_) fun hb=>?_
 · skip
   refine Q4 ?_;have ha2:a<=T.length:=by simp at hb;omega
   refine Q3<|Q5<|Q6<|I2 rfl<|Q0<|Q5<|Qh [(8,_),(10,_)] [(1,_),(3,_),(7,_),(9,_)] (by repeat(first|exact trivial|refine⟨rfl,?_⟩)) (fun kk lv hh=> ∃(b:Nat) (ch:Bool) (V:BW),lv=[(8,.bool ch),(10,iV b)]/\kk=T.length+1 -b/\1<=b/\b<=T.length+1/\SH h [] (cR b8 (.cells (fnL b6) 86 0)::clL b1 b2 b3 b4 b5 b6 tb tc ma mc T M (ixL M T.length 1) (ixL M T.length 2) V) hh/\SwI T M V0 V ch a b 0) (n:=T.length) ?_ fun kk lv hh hI=>?_
   · exact⟨1,ch,V,rfl,by omega,by omega,by omega,S,hs⟩
   obtain⟨b,ch,V,rfl,hk,hb1,hb2,S,hs⟩:=hI;refine Q3<|Q6<|I1 rfl<|I0 0 rfl<|I4 rfl (S.cel 6 rfl) rfl<|I7 rfl<|Im rfl rfl<|Q0<|Q2 rfl (fun hb=>?_) fun hb=>?_
   · skip
     refine Q4 ?_;have hb2:b<=T.length:=by simp at hb;omega
     refine Q3<|Q5<|Q6<|I1 rfl<|I7 rfl<|I1 rfl<|Q0<|Q5<|Qh [(8,_),(105,_)] [(1,_),(3,_),(7,_),(9,_),(10,_),(103,_),(104,_)] (by repeat(first|exact trivial|refine⟨rfl,?_⟩)) (fun kk lv hh=> ∃(r:Nat) (ch:Bool) (V:BW),lv=[(8,.bool ch),(105,iV r)]/\kk=2 -r/\r<=2/\SH h [] (cR b8 (.cells (fnL b6) 86 0)::clL b1 b2 b3 b4 b5 b6 tb tc ma mc T M (ixL M T.length 1) (ixL M T.length 2) V) hh/\SwI T M V0 V ch a b r) (n:=2) ?_ fun kk lv hh hI=>?_
     · exact⟨0,ch,V,rfl,rfl,by omega,S,hs⟩
     obtain⟨r,ch,V,rfl,hk,hr,S,hs⟩:=hI;refine Q6<|Il rfl rfl<|Q0<|Q3<|Q2 rfl (fun hb=>?_) fun hb=>?_
     · skip
       refine Q4 ?_;have hr:r <2:=by simp at hb;omega
       obtain⟨f,hf1,hf2,hfc⟩: ∃f,(fnL b6)[r]?=some (.func (.func f) #[] #[Qw b6])/\Q69 modE f=true/\ ∀g,SH h [] (cR b8 (.cells (fnL b6) 86 0)::clL b1 b2 b3 b4 b5 b6 tb tc ma mc T M (ixL M T.length 1) (ixL M T.length 2) V) g->C modE f [iV a,iV b,Qw b6] g fun v g'=>v=.bool (Q0C T M V r a b)/\Ext g g':=by
        rcases r with _|_|r
        · exact⟨39,rfl,by kernel_rfl,fun g S=>t39 (Qga S.drop R) (S.drop.cel 4 rfl) (S.drop.lt1 4 rfl) (S.drop.cel 0 rfl) (S.drop.lt1 0 rfl) hT hn (by omega) (by omega) (by omega) (by omega) (Q2d ok (by omega) (by omega)) (Q2d ok (by omega) (by omega))⟩
        · exact⟨42,rfl,by kernel_rfl,fun g S=>t42 (Qga S.drop R) (S.drop.cel 4 rfl) (S.drop.lt1 4 rfl) (S.drop.cel 0 rfl) (S.drop.lt1 0 rfl) hT hn (by omega) (by omega) (by omega) (by omega)⟩
        omega
       refine Q3<|Q5<|Q6<|I5o 1 rfl rfl<|Y2 gn rfl rfl (by kernel_rfl) (S.cel 0 rfl) (by rw[Int.toNat_natCast,Nat.mul_one,Nat.zero_add];exact hf1)<|I2 rfl<|Q0<|Q3<|I9<|I1 rfl<|I1 rfl<|I1 rfl ?_;refine Z1 [_,_] gn rfl rfl hf2 rfl (C.mono (hfc _ S) ?_);rintro v g ⟨rfl,x⟩;have S:=S.grow x;refine⟨ag0,?_⟩;refine I1 rfl<|Ze (dc:=113) rfl (fun hb113=>?_) fun hb113=>?_
       · skip
         refine D4 hb113 rfl (S.cel 1 rfl) rfl<|D4 hb113 rfl (S.cel 1 rfl) rfl<|D6 hb113 rfl<|D0 4 hb113 rfl<|D4 hb113 rfl (S.cel 2 rfl) rfl<|D1 hb113 rfl<|D5o 1 hb113 rfl rfl<|D4 hb113 rfl (S.cel 3 rfl) (Zd (by omega) (by omega))<|D4 hb113 rfl (S.cel 1 rfl) rfl<|D6 hb113 rfl<|D0 3 hb113 rfl<|D4 hb113 rfl (S.cel 2 rfl) rfl<|D1 hb113 rfl<|D5o 1 hb113 rfl rfl<|D4 hb113 rfl (S.cel 4 rfl) (Zd (by omega) (by omega))<|Dc hb113 [_,_,_] rfl rfl (C.mono (t44 (a:=Qn M a 2) (b:=Qn M b 1) (Qga S.drop R) (S.cel 5 rfl) (by decide) QB QB hn) ?_)
         rintro v g ⟨V2,hg2,x,hV2,rfl⟩;have S:=S.chg 5 rfl x hg2;refine⟨ag0,?_⟩;refine IT rfl hb113 rfl<|Q0<|Q2 rfl (fun hb=>?_) fun hb=>?_
         · skip
           refine Q1 (by kernel_rfl)<|I2 rfl<|Q0<|Q1 (by kernel_rfl)<|Iao rfl rfl<|I1 rfl<|Q0 ?_;exact Z6 (2 - (r+1)) (by omega) [(8,_),(105,_)] (by repeat(first|exact trivial|refine⟨rfl,?_⟩)) ⟨r+1,true,V2,rfl,rfl,by omega,S,hs.add ok (by omega) (by omega) (by omega) (by omega) hn hb113 hV2 hb⟩
         refine Q4<|Q1 (by kernel_rfl)<|Iao rfl rfl<|I1 rfl<|Q0 ?_;exact Z6 (2 - (r+1)) (by omega) [(8,_),(105,_)] (by repeat(first|exact trivial|refine⟨rfl,?_⟩)) ⟨r+1,ch,V2,rfl,rfl,by omega,S,hs.old ok (by omega) (by omega) (by omega) (by omega) hn hb113 hV2 hb⟩
       refine ZI (n:=16) (dc:=113) (w:=true) rfl hb113 rfl<|Iu rfl hb113 rfl<|Q0<|Q2 rfl (fun hb=>?_) fun hb=>?_
       · skip
         exact absurd hb (by decide)
       refine Q4<|Q1 (by kernel_rfl)<|Iao rfl rfl<|I1 rfl<|Q0 ?_;exact Z6 (2 - (r+1)) (by omega) [(8,_),(105,_)] (by repeat(first|exact trivial|refine⟨rfl,?_⟩)) ⟨r+1,ch,V,rfl,rfl,by omega,S,hs.step fun h=>by rw[show Q0C T M V r a b=false from hb113]at h;cases h⟩
     refine Ql<|Q9<|Qc<|Qm ?_;obtain rfl:r=2:=by simp at hb;omega
     refine Q1 (by kernel_rfl)<|I1 rfl<|Iao rfl rfl<|I2 rfl<|Q0 ?_;exact Z6 (T.length+1 - (b+1)) (by omega) [(8,_),(10,_)] (by repeat(first|exact trivial|refine⟨rfl,?_⟩)) ⟨b+1,ch,V,rfl,rfl,by omega,by omega,S,hs.mv fun a' b' r' ⟨h1,h2,h3,h4⟩=>⟨h1,h2,h3,by omega⟩⟩
   refine Ql<|Q9<|Qc<|Qm ?_;obtain rfl:b=T.length+1:=by simp at hb;omega
   refine Q1 (by kernel_rfl)<|I1 rfl<|Iao rfl rfl<|I2 rfl<|Q0 ?_;exact Z6 (T.length+1 - (a+1)) (by omega) [(8,_),(9,_)] (by repeat(first|exact trivial|refine⟨rfl,?_⟩)) ⟨a+1,ch,V,rfl,rfl,by omega,by omega,S,hs.mv fun a' b' r' ⟨h1,h2,h3,h4⟩=>⟨h1,h2,h3,by omega⟩⟩
 refine Ql<|Q9<|Qc<|Qm<|Q3<|Q3 ?_;obtain rfl:a=T.length+1:=by simp at hb;omega
 refine Q1 (by kernel_rfl)<|I1 rfl<|Ib rfl<|Q0<|Q2 rfl (fun hb=>?_) fun hb=>?_
 · skip
   refine Ql<|Q9<|QeK (by decide)<|Qc<|Qm<|Q3 ?_;obtain rfl:ch=false:=by simpa using hb
   refine Q1 (by kernel_rfl)<|I4 rfl (S.cel 1 rfl) rfl<|I2 rfl<|Q0<|Q7 ?_;refine⟨.inl rfl,_,rfl,?_⟩;exact⟨b5,rfl,⟨b2,M.length,b3,b4,0,V,Qga S.drop R,S.cel 5 rfl,S.lt1 5 rfl,Qce ok hn hs (by omega) hB0 hT0⟩,S.e0⟩
 refine Q4 ?_;obtain rfl:ch=true:=by simpa using hb
 refine Q1 (by kernel_rfl)<|I4 rfl (S.cel 1 rfl) rfl<|Ic [_] rfl rfl (C.mono (t38 (S0:=HB T M) (Qga S.drop R) (S.cel 5 rfl) (by decide) (S.lt1 5 rfl) (S.ne2 2 5 (by decide) rfl rfl) hn hs.w) ?_);rintro v g ⟨V3,hg3,x,hW3,hL3,hT3⟩;have S:=S.chg 5 rfl x hg3;have hz:JI M.length V3 <JI M.length V0:=Nat.lt_of_le_of_lt (QcJ fun a i hi=>hL3 a i (by omega)) (QcI hs.le (hs.t rfl));refine⟨ag0,?_⟩;refine Q0<|Qk ?_;exact Z6 (JI M.length V3) (by omega) [] (by repeat(first|exact trivial|refine⟨rfl,?_⟩)) ⟨V3,rfl,rfl,S,hW3,hT3,Q7l hn (Q7l hn hB0 fun a i _=>hs.le a i) hL3⟩
end
end Go.Proofs.Yteinandjhpnceaa
namespace Go.Proofs.Yteinandjhpnceaa
open Go.X Go.May Go.Mac Go.Model
def slB (n b:Nat):Value:=.slice (some ⟨b,0,none⟩) n n
def mrP (G:Nat->List Value):List Nat->Nat->List Res
 | [],_=>[]
 |b::c,i=>cR b (.cells (G i) 4 0)::mrP G c (i+1)
abbrev FB:=Nat->Nat->Bool
def KH (F:FB) (n a:Nat):List Value:=(List.range n).map fun j=>.bool (F a j)
def Q2t (F:FB) (n a j:Nat):List Value:=(List.range n).map fun q=>.bool (decide (q <j)&&F a q)
theorem Q3I {F:FB} {n a:Nat}:(KH F n a).length=n:=by simp[KH]
theorem QbN {F:FB} {n a j:Nat}:(Q2t F n a j).length=n:=by simp[Q2t]
theorem Q3J {F:FB} {n a j:Nat} (h:j <n):(KH F n a)[j]?=some (.bool (F a j)):=by
 unfold KH;rw[List.getElem?_map,List.getElem?_range h];rfl
theorem Q9i {F:FB} {n a:Nat}:Qd [.bool false] n=Q2t F n a 0:=by
 rw[J6];unfold Q2t;simp only[Nat.not_lt_zero,decide_false,Bool.false_and];rw[List.map_const',List.length_range]
theorem QbO {F:FB} {n a:Nat}:Q2t F n a n=KH F n a:=by
 unfold Q2t KH;refine List.map_congr_left fun q hq=>?_;rw[decide_eq_true (List.mem_range.1 hq)];rfl
theorem Q8f {f g:Nat->Value} {n j:Nat} {v:Value} (hv:g j=v) (hg: ∀i,i≠j->g i=f i):((List.range n).map f).set j v=(List.range n).map g:=by
 apply List.ext_getElem
 · simp
 intro i h1 h2;rw[List.getElem_set];simp only[List.getElem_map,List.getElem_range]
 split
 · rename_i e;subst e;exact hv.symm
 rename_i e;exact(hg i fun k=>e k.symm).symm
theorem Q9j {F:FB} {n a j:Nat} (_h:j <n):(Q2t F n a j).set (0+Int.toNat (j:Int)*1) (.bool (F a j))=Q2t F n a (j+1):=by
 rw[Nat.zero_add,Nat.mul_one,Int.toNat_natCast];unfold Q2t;refine Q8f (by simp) fun i hi=>?_
 have:decide (i <j+1)=decide (i <j):=by
  by_cases e:i <j
  · rw[decide_eq_true e,decide_eq_true (by omega)]
  rw[decide_eq_false e,decide_eq_false (by omega)]
 rw[this]
theorem Q42 {G:Nat->List Value}: ∀(c:List Nat) (b i:Nat),mrP G (c++[b]) i=mrP G c i++[cR b (.cells (G (i+c.length)) 4 0)]
 | [],_,_=>rfl
 | x::c,b,i=>by
   show cR x _::mrP G (c++[b]) (i+1)=cR x _::(mrP G c (i+1)++_);rw[Q42 c b (i+1),show i+(x::c).length=i+1+c.length by simp;omega]
theorem QaO {G:Nat->List Value}: ∀(c:List Nat) (i j:Nat) {b:Nat},c[j]?=some b->(mrP G c i)[j]?=some (cR b (.cells (G (i+j)) 4 0))
 | [],_,_,_,h=>by simp at h
 | x::c,i,0,b,h=>by
   have h:x=b:=by simpa using h
   subst h;rfl
 | x::c,i,j+1,b,h=>by
   have:=QaO (G:=G) c (i+1) j (b:=b) (by simpa using h);show(mrP G c (i+1))[j]?=_;rw[this,show i+1+j=i+(j+1) by omega]
theorem QaN {G G':Nat->List Value}: ∀(c:List Nat) (i j:Nat) {b:Nat},c[j]?=some b->(∀k,k≠i+j->G' k=G k)->(mrP G c i).set j (cR b (.cells (G' (i+j)) 4 0))=mrP G' c i
 | [],_,_,_,h,_=>by simp at h
 | x ::c,i,0,b,h,hG=>by
   have h:x=b:=by simpa using h
   subst h
   have: ∀(c:List Nat) (k:Nat),i <k->mrP G c k=mrP G' c k:=fun c=>by
    induction c with
    |nil=>intro k _;rfl
    | cons y c ih=>
      intro k hk;show cR y (.cells (G k) 4 0)::mrP G c (k+1)=cR y (.cells (G' k) 4 0)::mrP G' c (k+1);rw[ih (k+1) (by omega),hG k (by omega)]
   show cR x _::mrP G c (i+1)=cR x _::mrP G' c (i+1);rw[this c (i+1) (by omega)];rfl
 | x::c,i,j+1,b,h,hG=>by
   have h2:=QaN (G:=G) (G':=G') c (i+1) j (b:=b) (by simpa using h) (fun k hk=>hG k (by omega));show cR x (.cells (G i) 4 0)::(mrP G c (i+1)).set j _=cR x (.cells (G' i) 4 0)::mrP G' c (i+1);rw[<-h2,hG i (by omega),show i+1+j=i+(j+1) by omega]
def mtL (lv:Value) (ob c:List Nat) (F:FB) (n:Nat):List Res:=slR 78 0 lv (c.map (slB n)) n ob::mrP (KH F n) c 0
theorem el78:ElN modE 75 78 0 23:=⟨by kernel_rfl,by kernel_rfl,by kernel_rfl,.slice none 0 0,by kernel_rfl,rfl⟩
theorem QaM {h:Hp} {lv:Value} {ob c:List Nat} {F:FB} {n:Nat} (hp: ∀r,r∈mtL lv ob c F n->r.P h) (hc:c.length=n) {a:Nat} (ha:a <n): ∃ab ac cs m rb,lv=.slice (some ⟨ab,0,none⟩) n ac/\h.get ab=some (.cells cs 78 m)/\cs[0+Int.toNat (a:Int)*1]?=some (slB n rb)/\c[a]?=some rb/\h.get rb=some (.cells (KH F n a) 4 0):=by
 have h1:SlC 78 0 h lv (c.map (slB n)) n ob:=hp (slR 78 0 lv (c.map (slB n)) n ob) (by simp[mtL]);obtain⟨ab,m,ac,r,hv,hg,_⟩:=h1.at (by omega);have hca:c[a]?=some c[a]:=List.getElem?_eq_getElem (by omega);refine⟨ab,ac,_,m,c[a],hv,hg,?_,hca,?_⟩
 · rw[Nat.zero_add,Nat.mul_one,Int.toNat_natCast,List.getElem?_append_left (by rw[List.length_map];omega),List.getElem?_map,hca];rfl
 have:=QaO (G:=KH F n) c 0 a hca;have h2:=hp _ (by unfold mtL;exact List.mem_cons_of_mem _ (List.mem_of_getElem? this));rw[Nat.zero_add]at h2;exact h2
end Go.Proofs.Yteinandjhpnceaa
