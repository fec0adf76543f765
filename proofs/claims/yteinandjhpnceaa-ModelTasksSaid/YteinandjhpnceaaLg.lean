/- The model's order of a run. Conditions: a run that may be. Marks that conflict, in a row. Conditions: none. Marks that conflict; races. Conditions: a run that may be. The model's races. Conditions: a run that may be. The document's run: where a task begins, and ends. Conditions: a run that may be. The document's order: its rows; one is set, one is asked for. Conditions: a run that may be. The document's order: the rules 1 to 6. Conditions: a run that may be. The document's order: it is closed. Conditions: it lies within what comes first. The document's order: the rules 7 and 8. Conditions: it lies within what comes first. The document's order of a run. Conditions: a run that may be. The document's races. Conditions: a run that may be. The model's order and races of a run are the document's. Conditions: a run that may be. -/
import Derived.Test.YteinandjhpnceaaLf
import Derived.Test.YteinandjhpnceaaXd
namespace Go.Proofs.Yteinandjhpnceaa
open Go.X Go.May Go.Mac Go.Model
section
variable {h:Hp} {tb tc:Nat} {ma:Option Addr} {mc:Nat} {T:List MTask} {M:List MMark}
set_option maxHeartbeats 4000000 in
theorem t15 (R:RnAt h tb tc ma mc T M) (ok:RunOk T M) (hn:M.length<=1200):C modE 15 [.agg #[tsV tb tc T,msV ma mc M]] h fun v h'=> ∃(lv:Value) (ob c:List Nat) (F:FB),v=.tuple #[lv,iV 0]/\c.length=M.length/\SH h [] (mtL lv ob c F M.length) h'/\ ∀a b,a <M.length->b <M.length->(F a b=true↔HB T M a b):=by
 refine Q8 (fu:=Try.f15) (by kernel_rfl) rfl ?_;have S:=SH.start h;refine Q6 ?_;refine QX S gn rfl rfl fun b1 g nb1 S=>?_;refine I2 rfl<|I2 rfl<|Z7<|I3 2 rfl (S.cel 0 rfl) (Nat.le_refl _)<|Ic [_] rfl rfl (C.mono (t18 (R.ext S.e0) ok hn) ?_);rintro v g ⟨rfl,x⟩;have S:=S.grow x;refine⟨ag0,?_⟩;refine I2 rfl<|QL<|I1 rfl<|In rfl rfl<|Q0<|Q2 rfl (fun hb=>?_) fun hb=>?_
 · skip
   refine Q3 ?_;exact absurd hb (by decide)
 refine Q4<|Q6<|I3 2 rfl (S.cel 0 rfl) (Nat.le_refl _)<|Ic [_] rfl rfl (C.mono (t19 (R.ext S.e0) ok hn) ?_);rintro v g0 ⟨ck,rfl,hcl,x⟩;have SG:=S.grow x;have hgb1:=SG.cel 0 rfl;have hlb1:=SG.lt1 0 rfl;have eG:=SG.e0;obtain⟨r,ca,bb,be,m,V,hG,hr,hrl,hV⟩:=hcl;have S:=SH.start g0;obtain⟨F,hF⟩: ∃F:FB,F=fun a i=>QS (V a) i:=⟨_,rfl⟩;refine⟨ag0,?_⟩;refine I2 rfl<|QL<|I2 rfl<|Z7<|I0 1 rfl<|I4 rfl (S.old0 hgb1 hlb1) rfl<|I7 rfl<|I1 rfl<|Q0<|Q5 ?_
 refine Qh [(6,_),(20,_)] [(1,_),(5,_),(19,_)] (by repeat(first|exact trivial|refine⟨rfl,?_⟩)) (fun kk lv hh=> ∃(i:Nat) (s:Value) (bs c:List Nat),lv=[(6,s),(20,iV i)]/\kk=M.length -i/\i<=M.length/\c.length=i/\SH g0 [] (slR 78 0 s (c.map (slB M.length)) i bs::mrP (KH F M.length) c 0) hh) (n:=M.length) ?_ fun kk lv hh hI=>?_
 · exact⟨0,_,[],[],rfl,rfl,by omega,rfl,S.nilSl 78 0⟩
 obtain⟨i,s,bs,c,rfl,hk,hi,hc,S⟩:=hI;refine Q6<|Il rfl rfl<|Q0<|Q3<|Q2 rfl (fun hb=>?_) fun hb=>?_
 · skip
   refine Q4 ?_;have hi:i <M.length:=by simpa using hb
   refine Q3<|Q5<|Q6<|I1 rfl<|I2 rfl<|QL<|I0 1 rfl<|I4 rfl (S.old0 hgb1 hlb1) rfl<|I7 rfl ?_;refine Z3 (e:=4) (z:=0) (zv:=.bool false) (by':=1) S gn rfl rfl rfl (by kernel_rfl) (by kernel_rfl) (by kernel_rfl) (by kernel_rfl) (by decide) (by omega) (by omega) (by omega) (by omega) fun b2 g nb2 S=>?_;rw[Int.toNat_natCast]at S ⊢;have S:SH g0 [] (cR b2 (.cells (Q2t F M.length i 0) 4 0)::slR 78 0 s (c.map (slB M.length)) i bs::mrP (KH F M.length) c 0) g:=by rw[<-Q9i];exact S
   refine I2 rfl<|Z7<|I1 rfl<|I7 rfl<|I1 rfl<|Q0<|Q5<|Qh [(29,_)] [(1,_),(5,_),(6,_),(7,_),(8,_),(19,_),(20,_),(28,_)] (by repeat(first|exact trivial|refine⟨rfl,?_⟩)) (fun kk lv hh=> ∃j:Nat,lv=[(29,iV j)]/\kk=M.length -j/\j<=M.length/\SH g0 [] (cR b2 (.cells (Q2t F M.length i j) 4 0)::slR 78 0 s (c.map (slB M.length)) i bs::mrP (KH F M.length) c 0) hh) (n:=M.length) ?_ fun kk lv hh hI=>?_
   · exact⟨0,rfl,rfl,by omega,S⟩
   obtain⟨j,rfl,hk2,hj,S⟩:=hI;refine Q6<|Il rfl rfl<|Q0<|Q3<|Q2 rfl (fun hb=>?_) fun hb=>?_
   · skip
     refine Q4 ?_;have hj:j <M.length:=by simpa using hb
     refine Q3<|Q5<|Q6<|I1 rfl<|I2 rfl<|Q0<|Q1 (by kernel_rfl)<|I1 rfl<|I1 rfl<|I1 rfl<|I1 rfl<|I1 rfl<|Ic [_,_,_] rfl rfl (Qr (t20 (hG.ext S.e0) (S.old0 hr hrl) (by omega) (by omega) hn) ⟨ag0,?_⟩);have eF:ZQ V i j=F i j:=by rw[hF];simp[ZQ]
     rw[eF];refine I5o 1 rfl rfl ?_;refine Qi 0 S gn rfl rfl rfl (by kernel_rfl) rfl (by decide) (by rw[QbN];omega) (fun g S=>ag0) fun g S=>?_;refine Q0<|Q1 (by kernel_rfl)<|Iao rfl rfl<|I1 rfl<|Q0 ?_;exact Z6 (M.length - (j+1)) (by omega) [(29,_)] (by repeat(first|exact trivial|refine⟨rfl,?_⟩)) ⟨j+1,rfl,rfl,by omega,by rw[<-Q9j hj];exact S⟩
   refine Ql<|Q9<|Qc<|Qm ?_;obtain rfl:j=M.length:=by simp at hb;omega
   rw[QbO]at S;refine Q1 (by kernel_rfl)<|I1 rfl<|I1 rfl ?_;refine Qf (e:=78) (z:=0) (zv:=.slice none 0 0) [(0,_)] S gn rfl (by kernel_rfl) (by kernel_rfl) (by kernel_rfl) (by kernel_rfl) rfl (by rfl) fun b3 g nb3 S=>?_;refine QE (e:=78) (z:=0) (by':=23) 2 0 S el78 gn rfl rfl rfl rfl rfl rfl (by rfl) (by omega) (fun s' bs' g S=>ag0) fun s' bs' g S=>?_;refine I2 rfl<|Q0<|Q1 (by kernel_rfl)<|Iao rfl rfl<|I1 rfl<|Q0 ?_
   exact Z6 (M.length - (i+1)) (by omega) [(6,_),(20,_)] (by repeat(first|exact trivial|refine⟨rfl,?_⟩)) ⟨i+1,s',bs',c++[b2],rfl,rfl,by omega,by simp[hc],by
    have S:=S.drop;rw[Q42,Nat.zero_add,hc,List.map_append];have S:=SH.mid (A:=slR 78 0 s' (c.map (slB M.length)++[slB M.length b2]) (i+1) bs'::mrP (KH F M.length) c 0) (B:=[]) (by rw[List.append_nil];exact S)
    exact S⟩
 refine Ql<|Q9<|Qc<|Qm<|Q3 ?_;obtain rfl:i=M.length:=by simp at hb;omega
 refine Q1 (by kernel_rfl)<|I1 rfl<|I2 rfl<|I2 rfl<|Q0<|Q7 ?_;refine⟨.inl rfl,_,rfl,?_⟩;exact⟨s,bs,c,F,rfl,hc,SH.since (SH.start h|>.grow eG) S (fun i hi=>.inr ((S.new i hi).resolve_left (by simp))),fun a b ha hb=>by rw[hF];exact hV a b ha (by omega)⟩
end
end Go.Proofs.Yteinandjhpnceaa
namespace Go.Proofs.Yteinandjhpnceaa
open Go.X Go.May Go.Mac Go.Model
abbrev Q9w:=Int×Int×Int
def locV (x:Q9w):Value:=.agg #[iV x.1,iV x.2.1,iV x.2.2]
noncomputable def fs32:Array Field:=match modE.und 32 with|some (.struct fs)=>fs|_=> #[]
theorem und32:modE.und 32=some (.struct fs32):=by kernel_rfl
theorem QfK:fs32.toList.length=3:=by kernel_rfl
theorem row32:fs32.toList=[fs32.toList[0]'(by rw[QfK];omega),fs32.toList[1]'(by rw[QfK];omega),fs32.toList[2]'(by rw[QfK];omega)]:=by kernel_rfl
theorem eq32 (h:Hp) (a b:Q9w):Zo modE h #[iV a.1,iV a.2.1,iV a.2.2] #[iV b.1,iV b.2.1,iV b.2.2] fs32.toList=some (decide (a.1=b.1)&&(decide (a.2.1=b.2.1)&&(decide (a.2.2=b.2.2)&&true))):=by
 rw[row32];exact Zf (u:=iV a.1) (w:=iV b.1) (by kernel_rfl) (by kernel_rfl) (by kernel_rfl) (by kernel_rfl) (Zf (u:=iV a.2.1) (w:=iV b.2.1) (by kernel_rfl) (by kernel_rfl) (by kernel_rfl) (by kernel_rfl) (Zf (u:=iV a.2.2) (w:=iV b.2.2) (by kernel_rfl) (by kernel_rfl) (by kernel_rfl) (by kernel_rfl) rfl))
theorem Qbi:KeyT modE 127 32 63 locV:=by
 refine⟨by kernel_rfl,fun h a b=>?_,fun a=>by kernel_rfl⟩;have hs:modE.P.stoodInHeld 32=false:=by kernel_rfl
 simp only[Jp,und32,locV,hs,cond_false,eq32];obtain⟨a1,a2,a3⟩:=a;obtain⟨b1,b2,b3⟩:=b;by_cases e1:a1=b1
 · by_cases e2:a2=b2
   · by_cases e3:a3=b3
     · subst e1;subst e2;subst e3;simp[sameV,sameV.sameL,Z5]
     simp[e3]
   simp[e2]
 simp[e1]
theorem el63:ElN modE 63 3 0 7:=⟨by kernel_rfl,by kernel_rfl,by kernel_rfl,.int .i64 0,by kernel_rfl,rfl⟩
theorem el82:ElN modE 43 82 1 15:=⟨by kernel_rfl,by kernel_rfl,by kernel_rfl,.agg #[.int .i64 0,.int .i64 0],by kernel_rfl,rfl⟩
def YC (x:MMark):Q9w:=(x.acc.kind,x.acc.a,x.acc.b)
def QeF (M:List MMark) (k i:Nat):Bool:= !decide ((mkI M k).task=(mkI M i).task)&&((mkI M i).acc.write||(mkI M k).acc.write)
def atB (M:List MMark) (q:Q9w) (i:Nat):Bool:=decide ((mkI M i).kind=3)&&decide (YC (mkI M i)=q)
def Jk (M:List MMark) (k i:Nat):Bool:=(decide ((mkI M i).kind=3)&&atB M (YC (mkI M i)) k)&&QeF M k i
def Zj (M:List MMark) (n:Nat):List (Nat×Nat):=(List.range n).flatMap fun i=>((List.range i).filter fun k=>Jk M k i).map fun k=>(k,i)
def YR (M:List MMark) (n:Nat) (q:Q9w):List Nat:=(List.range n).filter fun i=>atB M q i
abbrev Qde (l:List Nat):List Value:=l.map fun i:Nat=>iV (i:Int)
def prC (l:List (Nat×Nat)):List Value:=l.flatMap fun p=>[iV (p.1:Int),iV (p.2:Int)]
theorem Q3R (l:List (Nat×Nat)) (p:Nat×Nat):prC (l++[p])=prC l++[iV (p.1:Int),iV (p.2:Int)]:=by
 unfold prC;rw[List.flatMap_append];simp
theorem Q6O (l:List (Nat×Nat)):(prC l).length=l.length*2:=Q5S (fun p:Nat×Nat=>[iV (p.1:Int),iV (p.2:Int)]) 2 (fun _=>rfl) l
theorem Jb {M:List MMark} {n:Nat}:Zj M (n+1)=Zj M n++((List.range n).filter fun k=>Jk M k n).map fun k=>(k,n):=by
 unfold Zj;rw[List.range_succ,List.flatMap_append];simp
theorem Q5k {M:List MMark} {n:Nat} {q:Q9w}:YR M (n+1) q=if atB M q n=true then YR M n q++[n]else YR M n q:=by
 unfold YR;rw[List.range_succ,List.filter_append,List.filter_cons]
 split
 · rfl
 simp
theorem Qe1 {M:List MMark} {n:Nat} (h:(mkI M n).kind=3):(List.range n).filter (fun k=>Jk M k n)=(YR M n (YC (mkI M n))).filter fun k=>QeF M k n:=by
 unfold YR;rw[List.filter_filter];refine List.filter_congr fun k _=>?_;unfold Jk;rw[decide_eq_true h,Bool.true_and,Bool.and_comm]
theorem Qcb {M:List MMark} {n:Nat} (h:(mkI M n).kind≠3):(List.range n).filter (fun k=>Jk M k n)=[]:=by
 rw[List.filter_eq_nil_iff];intro k _;unfold Jk;rw[decide_eq_false h];simp
theorem KN {M:List MMark} {n:Nat} {q:Q9w} (h:(mkI M n).kind≠3\/YC (mkI M n)≠q):YR M (n+1) q=YR M n q:=by
 rw[Q5k,if_neg];unfold atB;rcases h with h|h
 · rw[decide_eq_false h];simp
 rw[decide_eq_false h];simp
theorem Qap {M:List MMark} {n:Nat} (h:(mkI M n).kind=3):YR M (n+1) (YC (mkI M n))=YR M n (YC (mkI M n))++[n]:=by
 rw[Q5k,if_pos];unfold atB;rw[decide_eq_true h,decide_eq_true rfl];rfl
def prI (M:List MMark) (n i:Nat):List (Nat×Nat):=Zj M n++(((YR M n (YC (mkI M n))).take i).filter fun k=>QeF M k n).map fun k=>(k,n)
theorem Qdd {M:List MMark} {n:Nat}:prI M n 0=Zj M n:=by simp[prI]
theorem Qfh {M:List MMark} {n:Nat} (h:(mkI M n).kind=3):prI M n (YR M n (YC (mkI M n))).length=Zj M (n+1):=by
 unfold prI;rw[List.take_length,Jb,Qe1 h]
theorem Q7U {M:List MMark} {n i k:Nat} (h:(YR M n (YC (mkI M n)))[i]?=some k):prI M n (i+1)=if QeF M k n=true then prI M n i++[(k,n)]else prI M n i:=by
 unfold prI;rw[List.take_add_one,h,Option.toList_some,List.filter_append,List.filter_cons]
 split
 · simp
 simp
theorem Qfi {M:List MMark} {n i k:Nat} {q:Q9w} (h:(YR M n q)[i]?=some k):k <n:=by
 have:=List.mem_of_getElem? h;unfold YR at this;exact List.mem_range.1 (List.mem_filter.1 this).1
theorem KZ {M:List MMark}: ∀n,(Zj M n).length<=n*n
 |0=>Nat.le_refl _
 | n+1=>by
   rw[Jb,List.length_append,List.length_map];have h1:=KZ (M:=M) n;have h2:=List.length_filter_le (fun k=>Jk M k n) (List.range n);rw[List.length_range]at h2;have:(n+1)*(n+1)=n*n+2*n+1:=by rw[Nat.add_mul,Nat.mul_add];omega
   omega
theorem Qfg {M:List MMark} {n i:Nat}:(prI M n i).length<=n*n+n:=by
 unfold prI;rw[List.length_append,List.length_map];have h1:=KZ (M:=M) n;have h2:=List.length_filter_le (fun k=>QeF M k n) ((YR M n (YC (mkI M n))).take i);rw[List.length_take]at h2
 have h3:(YR M n (YC (mkI M n))).length<=n:=by
  have:=List.length_filter_le (fun i=>atB M (YC (mkI M n)) i) (List.range n);rw[List.length_range]at this;exact this
 omega
theorem Q7V {M:List MMark} {n:Nat} {q:Q9w}:(YR M n q).length<=n:=by
 have:=List.length_filter_le (fun i=>atB M q i) (List.range n);rw[List.length_range]at this;exact this
end Go.Proofs.Yteinandjhpnceaa
namespace Go.Proofs.Yteinandjhpnceaa
open Go.X Go.May Go.Mac Go.Model
section
variable {h:Hp} {tb tc:Nat} {ma:Option Addr} {mc:Nat} {T:List MTask} {M:List MMark}
set_option maxHeartbeats 8000000 in
theorem t21 (R:RnAt h tb tc ma mc T M) (hn:M.length<=1200):C modE 21 [.agg #[tsV tb tc T,msV ma mc M]] h fun v h'=> ∃bs,SH h [] [slR 82 1 v (prC (Zj M M.length)) (Zj M M.length).length bs] h':=by
 refine Q8 (fu:=Try.f21) (by kernel_rfl) rfl ?_;have S:=SH.start h;refine Q6 ?_;refine QX S gn rfl rfl fun b1 g nb1 S=>?_;refine I2 rfl<|QL<|I2 rfl<|QL ?_;refine Q1U S gn rfl fun b2 g nb2 S=>?_;refine I2 rfl<|Z7<|I0 1 rfl<|I4 rfl (S.cel 1 rfl) rfl<|I7 rfl<|I1 rfl<|Q0<|Q5 ?_
 refine Qh [(3,_),(14,_)] [(1,_),(4,_),(12,_),(13,_)] (by repeat(first|exact trivial|refine⟨rfl,?_⟩)) (fun kk lv hh=> ∃(j:Nat) (N:MsK Q9w) (cl:Nat) (ks:List Q9w) (sv:Q9w->Value) (bk:Q9w->List Nat) (s:Value) (bs:List Nat),lv=[(3,s),(14,iV j)]/\kk=M.length -j/\j<=M.length/\SH h [] (slR 82 1 s (prC (Zj M j)) (Zj M j).length bs::cR b1 (.cells [tsV tb tc T,msV ma mc M] 39 0)::cR b2 (.map (N.map (Q1m locV)) cl)::ks.map (mlF 3 0 sv (fun q=>Qde (YR M j q)) (fun q=>(YR M j q).length) bk)) hh/\MlOk N cl ks sv/\ ∀q,q∉ks->YR M j q=[]) (n:=M.length) ?_ fun kk lv hh hI=>?_
 · exact⟨0,[],0,[],fun _=>.slice none 0 0,fun _=>[],_,[],rfl,rfl,by omega,SH.nilSl S.swap 82 1,MlOk.nil 0,fun _ _=>rfl⟩
 obtain⟨j,N,cl,ks,sv,bk,s,bs,rfl,hk,hj,S,hN,hks⟩:=hI;refine Q6<|Il rfl rfl<|Q0<|Q3<|Q2 rfl (fun hb=>?_) fun hb=>?_
 · skip
   refine Q4 ?_;have hj:j <M.length:=by simpa using hb
   obtain⟨mb,mcs,mm,hma,mg,mln,mll,mlr,mlf⟩:=R.mk' (j:=(j:Int)) (by omega) (by omega);have hC: ∀q,q∉ks->Qde (YR M j q)=[]/\(YR M j q).length=0:=fun q hq=>by rw[hks q hq];exact⟨rfl,rfl⟩
   refine Q3<|Q5<|Q6<|I1 rfl ?_;rw[hma];refine I5o 8 rfl rfl ?_;rw[<-hma];refine I3 8 rfl (S.old0 mg mln) mll ?_;rw[mlr];refine Qo (zv:=.agg #[.int .i64 0,.int .i64 0,.int .i64 0,.int .i64 0,.int .i64 0,.int .i64 0,.int .i64 0,.bool false]) S gn rfl (by kernel_rfl) fun b3 g nb3 S=>?_;refine I2 rfl ?_;refine Qe (n:=8) 0 S gn rfl rfl (by kernel_rfl) (by kernel_rfl) rfl rfl (by decide) rfl (fun g S=>ag0) fun g S=>?_;refine Z7<|I0 0 rfl<|I4 rfl (S.cel 0 rfl) rfl<|In rfl rfl<|Q0<|Q2 rfl (fun hb=>?_) fun hb=>?_
   · skip
     refine Ql<|Q9<|Qm<|Q1 (by kernel_rfl)<|Iao rfl rfl<|I1 rfl<|Q0 ?_
     exact Z6 (M.length - (j+1)) (by omega) [(3,_),(14,_)] (by repeat(first|exact trivial|refine⟨rfl,?_⟩)) ⟨j+1,N,cl,ks,sv,bk,s,bs,rfl,rfl,by omega,by
      have h3:(mkI M j).kind≠3:=by simpa using hb
      have e: ∀q,YR M (j+1) q=YR M j q:=fun q=>KN (.inl h3);simp only[e];rw[Jb,Qcb h3,List.map_nil,List.append_nil];exact S.drop,hN,fun q hq=>by
      have h3:(mkI M j).kind≠3:=by simpa using hb
      rw[KN (.inl h3)];exact hks q hq⟩
   refine Q4<|Q3<|Q6<|I1 rfl<|I0 3 rfl<|I0 1 rfl<|Z4 (n:=3) gn rfl rfl (by kernel_rfl) (by kernel_rfl) (S.cel 0 rfl) (by rw[Q0N];decide) ?_;have h3:(mkI M j).kind=3:=by simpa using hb
   obtain⟨qa,qc,hq⟩:=Qa (QeB (SH.comm (A:=[_,_,_]) S) hN hC (YC (mkI M j)));refine QaC (k:=YC (mkI M j)) (zv:=.slice none 0 0) Qbi gn rfl rfl rfl (S.cel 3 rfl) (by kernel_rfl) ?_;rw[hq];refine I7 rfl<|I1 rfl<|Q0<|Q5 ?_
   refine Qh [(3,_),(28,_)] [(1,_),(4,_),(5,_),(6,_),(12,_),(13,_),(14,_),(26,_),(27,_)] (by repeat(first|exact trivial|refine⟨rfl,?_⟩)) (fun kk lv hh=> ∃(i:Nat) (s:Value) (bs:List Nat),lv=[(3,s),(28,iV i)]/\kk=(YR M j (YC (mkI M j))).length -i/\i<=(YR M j (YC (mkI M j))).length/\SH h [] (cR b3 (.cells (mkV (mkI M j)) 36 0)::slR 82 1 s (prC (prI M j i)) (prI M j i).length bs::cR b1 (.cells [tsV tb tc T,msV ma mc M] 39 0)::cR b2 (.map (N.map (Q1m locV)) cl)::ks.map (mlF 3 0 sv (fun q=>Qde (YR M j q)) (fun q=>(YR M j q).length) bk)) hh) (n:=(YR M j (YC (mkI M j))).length) ?_ fun kk lv hh hI=>?_
   · exact⟨0,s,bs,rfl,rfl,by omega,by rw[Qdd];exact S⟩
   obtain⟨i,s,bs,rfl,hk2,hi,S⟩:=hI;refine Q6<|Il rfl rfl<|Q0<|Q3<|Q2 rfl (fun hb=>?_) fun hb=>?_
   · skip
     refine Q4 ?_;have hi:i <(YR M j (YC (mkI M j))).length:=by simpa using hb
     obtain⟨qb,qm,qc2,qr,hqv,hqg,_⟩:=(QeB (SH.comm (A:=[_,_,_]) S) hN hC (YC (mkI M j))).at (by omega);rw[hq]at hqv;cases hqv;obtain⟨k,hkp⟩: ∃k,(YR M j (YC (mkI M j)))[i]?=some k:=⟨_,List.getElem?_eq_getElem hi⟩;have hkj:=Qfi hkp;obtain⟨nb,ncs,nm,hna,ng,nln,nll,nlr,nlf⟩:=R.mk' (j:=(k:Int)) (by omega) (by omega);have hlp:=Q7V (M:=M) (n:=j) (q:=YC (mkI M j));have hlq:=Qfg (M:=M) (n:=j) (i:=i);have hj2:j*j<=1200*1200:=Nat.mul_le_mul (by omega) (by omega);refine Q3<|Q5<|Q6<|I5o 1 rfl rfl ?_
     refine Y2 gn rfl rfl (by kernel_rfl) hqg (by rw[Nat.zero_add,Nat.mul_one,Int.toNat_natCast,List.getElem?_append_left (by rw[List.length_map];exact hi),List.getElem?_map,hkp];rfl) ?_;refine I2 rfl<|QL<|I0 1 rfl<|I4 rfl (S.cel 2 rfl) rfl<|I1 rfl ?_;rw[hna];refine I5o 8 rfl rfl ?_;rw[<-hna];refine I3 8 rfl (S.old0 ng nln) nll ?_;rw[nlr];refine Qo (zv:=.agg #[.int .i64 0,.int .i64 0,.int .i64 0,.int .i64 0,.int .i64 0,.int .i64 0,.int .i64 0,.bool false]) S gn rfl (by kernel_rfl) fun b4 g nb4 S=>?_;refine Qe (n:=8) 0 S gn rfl rfl (by kernel_rfl) (by kernel_rfl) rfl rfl (by decide) rfl (fun g S=>ag0) fun g S=>?_
     refine QL<|I0 1 rfl<|I4 rfl (S.cel 0 rfl) rfl<|I0 1 rfl<|I4 rfl (S.cel 1 rfl) rfl<|In rfl rfl<|I1 rfl ?_
     refine Qp (n:=8) rfl rfl rfl gn rfl (fun hb=>by
      refine D0 3 hb rfl<|D0 4 hb rfl<|D4 hb rfl (S.cel 1 rfl) rfl<|D1 hb rfl ?_
      refine QT (n:=3) rfl rfl rfl (gy rfl rfl rfl hb) rfl (fun hb=>by
       refine D0 3 hb rfl<|D0 4 hb rfl<|D4 hb rfl (S.cel 0 rfl) rfl ?_
       exact Q0 ⟨rfl,rfl,3,rfl,rfl⟩) ?_
      exact Q0 ⟨rfl,rfl,5,rfl,rfl⟩) ?_
     refine Q0<|Q2 rfl (fun hb=>?_) fun hb=>?_
     · skip
       refine Q1 (by kernel_rfl)<|I1 rfl<|I1 rfl<|I1 rfl<|Qz (zv:=.agg #[.int .i64 0,.int .i64 0]) (pl:=[(0,1),(1,1)]) [(0,_),(1,_)] gn rfl (by kernel_rfl) (by kernel_rfl) rfl (by rfl) ?_;refine Qf (e:=82) (z:=1) (zv:=.agg #[.int .i64 0,.int .i64 0]) [(0,_)] S gn rfl (by kernel_rfl) (by kernel_rfl) (by kernel_rfl) (by kernel_rfl) rfl (by rfl) fun b5 g nb5 S=>?_;refine QE (e:=82) (z:=1) (by':=15) 3 0 S el82 gn rfl rfl rfl rfl rfl rfl (by rfl) (by omega) (fun s' bs' g S=>ag0) fun s' bs' g S=>?_;refine I2 rfl<|Q0<|Q1 (by kernel_rfl)<|Iao rfl rfl<|I1 rfl<|Q0 ?_
       exact Z6 ((YR M j (YC (mkI M j))).length - (i+1)) (by omega) [(3,_),(28,_)] (by repeat(first|exact trivial|refine⟨rfl,?_⟩)) ⟨i+1,s',bs',rfl,rfl,by omega,by
        rw[Q7U hkp,if_pos (show QeF M k j=true from hb),Q3R,List.length_append];exact S.drop.drop⟩
     refine Q4<|Q1 (by kernel_rfl)<|Iao rfl rfl<|I1 rfl<|Q0 ?_
     exact Z6 ((YR M j (YC (mkI M j))).length - (i+1)) (by omega) [(3,_),(28,_)] (by repeat(first|exact trivial|refine⟨rfl,?_⟩)) ⟨i+1,s,bs,rfl,rfl,by omega,by
      rw[Q7U hkp,if_neg (by rw[show QeF M k j=false from hb];decide)];exact S.drop⟩
   refine Ql<|Q9<|Qc<|Qm ?_;obtain rfl:i=(YR M j (YC (mkI M j))).length:=by simp at hb;omega
   rw[Qfh h3]at S;refine Q1 (by kernel_rfl)<|I1 rfl<|I0 3 rfl<|I0 1 rfl<|Z4 (n:=3) gn rfl rfl (by kernel_rfl) (by kernel_rfl) (S.cel 0 rfl) (by rw[Q0N];decide)<|I1 rfl ?_;have S1:=SH.comm (A:=[_,_,_]) S;obtain⟨v0,b0,Y,hv0,S,back⟩:=Qfy S1 hN hC (YC (mkI M j));have hlp:=Q7V (M:=M) (n:=j) (q:=YC (mkI M j));refine Qf (e:=3) (z:=0) (zv:=.int .i64 0) [(0,_)] S gn rfl (by kernel_rfl) (by kernel_rfl) (by kernel_rfl) (by kernel_rfl) rfl (by rfl) fun b6 g nb6 S=>?_;refine Q6C (k:=YC (mkI M j)) (zv:=.slice none 0 0) 2 S Qbi gn rfl rfl rfl (by kernel_rfl) rfl (fun g S=>ag0) fun g S=>?_
   refine Ix rfl rfl ?_;rw[Q9N,<-hv0];refine QE (e:=3) (z:=0) (by':=7) 1 0 S el63 gn rfl rfl rfl rfl rfl rfl (by rfl) (by omega) (fun s' bs' g S=>ag0) fun s' bs' g S=>?_;refine Ix rfl rfl ?_;refine Q3F (k:=YC (mkI M j)) (zv:=.slice none 0 0) 2 S hN.ok gn rfl rfl rfl rfl (fun g S=>ag0) fun g S=>?_;refine Q0<|Q1 (by kernel_rfl)<|Iao rfl rfl<|I1 rfl<|Q0 ?_
   exact Z6 (M.length - (j+1)) (by omega) [(3,_),(14,_)] (by repeat(first|exact trivial|refine⟨rfl,?_⟩)) ⟨j+1,_,_,QcE ks (YC (mkI M j)),_,_,s,bs,rfl,rfl,by omega,by
    have S2:=back _ _ _ _ _ _ _ _ _ S.drop
    have e1:upK (fun q=>Qde (YR M j q)) (YC (mkI M j)) (Qde (YR M j (YC (mkI M j)))++[iV j])=fun q=>Qde (YR M (j+1) q):=funext fun q=>by
     by_cases e:q=YC (mkI M j)
     · subst e;rw[Ko,Qap h3];simp[Qde]
     rw[YG e,KN (.inr fun k=>e k.symm)]
    have e2:upK (fun q=>(YR M j q).length) (YC (mkI M j)) ((YR M j (YC (mkI M j))).length+1)=fun q=>(YR M (j+1) q).length:=funext fun q=>by
     by_cases e:q=YC (mkI M j)
     · subst e;rw[Ko,Qap h3];simp
     rw[YG e,KN (.inr fun k=>e k.symm)]
    have S3:=SH.comm (A:=cR b2 _::(QcE ks (YC (mkI M j))).map (mlF 3 0 _ (upK (fun q=>Qde (YR M j q)) (YC (mkI M j)) (Qde (YR M j (YC (mkI M j)))++[iV j])) (upK (fun q=>(YR M j q).length) (YC (mkI M j)) ((YR M j (YC (mkI M j))).length+1)) _)) S2;rw[e1,e2]at S3;exact S3.drop,hN.put _ _,fun q hq=>by
    rw[Q45]at hq
    rw[KN (.inr fun k=>hq (.inr k.symm))];exact hks q fun k=>hq (.inl k)⟩
 refine Ql<|Q9<|Qc<|Qm<|Q3 ?_;obtain rfl:j=M.length:=by simp at hb;omega
 refine Q1 (by kernel_rfl)<|I1 rfl<|I2 rfl<|Q0<|Q7 ?_;refine⟨.inl rfl,_,rfl,?_⟩;exact⟨bs,SH.fst (A:=[_]) S⟩
end
end Go.Proofs.Yteinandjhpnceaa
namespace Go.Proofs.Yteinandjhpnceaa
open Go.X Go.May Go.Mac Go.Model
def Q4p (F:FB) (p:Nat×Nat):Bool:= !F p.1 p.2&& !F p.2 p.1
def Jg (F:FB) (l:List (Nat×Nat)):List (Nat×Nat):=l.filter (Q4p F)
theorem Q5i {F:FB} {l:List (Nat×Nat)} {i:Nat} {p:Nat×Nat} (h:l[i]?=some p):Jg F (l.take (i+1))=if Q4p F p=true then Jg F (l.take i)++[p]else Jg F (l.take i):=by
 unfold Jg;rw[List.take_add_one,h,Option.toList_some,List.filter_append,List.filter_cons]
 split
 · rfl
 simp
theorem Q63 {M:List MMark} {n:Nat} {p:Nat×Nat} (h:p∈Zj M n):p.1 <p.2/\p.2 <n:=by
 unfold Zj at h;obtain⟨i,hi,h⟩:=List.mem_flatMap.1 h;obtain⟨k,hk,rfl⟩:=List.mem_map.1 h;exact⟨List.mem_range.1 (List.mem_filter.1 hk).1,List.mem_range.1 hi⟩
theorem Qao {l:List (Nat×Nat)} {j:Nat} {o:Nat×Nat} (rest:List Value) (h:l[j]?=some o):((prC l++rest).drop (j*2)).take 2=[iV (o.1:Int),iV (o.2:Int)]:=QbL (fun p:Nat×Nat=>[iV (p.1:Int),iV (p.2:Int)]) 2 (fun _=>rfl) rest l j o h
section
variable {h:Hp} {tb tc:Nat} {ma:Option Addr} {mc:Nat} {T:List MTask} {M:List MMark}
set_option maxHeartbeats 8000000 in
theorem t8 (R:RnAt h tb tc ma mc T M) (ok:RunOk T M) (hn:M.length<=1200):C modE 8 [.agg #[tsV tb tc T,msV ma mc M]] h fun v h'=> ∃(pv:Value) (bs:List Nat) (F:FB),v=.tuple #[pv,iV 0]/\SH h [] [slR 82 1 pv (prC (Jg F (Zj M M.length))) (Jg F (Zj M M.length)).length bs] h'/\ ∀a b,a <M.length->b <M.length->(F a b=true↔HB T M a b):=by
 refine Q8 (fu:=Try.f8) (by kernel_rfl) rfl ?_;have S:=SH.start h;refine Q6 ?_;refine QX S gn rfl rfl fun b1 g nb1 S=>?_;refine I2 rfl<|I2 rfl<|Z7<|I3 2 rfl (S.cel 0 rfl) (Nat.le_refl _)<|Ic [_] rfl rfl (C.mono (t18 (R.ext S.e0) ok hn) ?_);rintro v g ⟨rfl,x⟩;have S:=S.grow x;refine⟨ag0,?_⟩;refine I2 rfl<|QL<|I1 rfl<|In rfl rfl<|Q0<|Q2 rfl (fun hb=>?_) fun hb=>?_
 · skip
   refine Q3 ?_;exact absurd hb (by decide)
 refine Q4<|Q6<|I3 2 rfl (S.cel 0 rfl) (Nat.le_refl _)<|Ic [_] rfl rfl (C.mono (t19 (R.ext S.e0) ok hn) ?_);rintro v g0 ⟨ck,rfl,hcl,x⟩;have SG:=S.grow x;have hgb1:=SG.cel 0 rfl;have hlb1:=SG.lt1 0 rfl;have eG:=SG.e0;obtain⟨r,ca,bb,be,m,V,hG,hr,hrl,hV⟩:=hcl;have S:=SH.start g0;obtain⟨F,hF⟩: ∃F:FB,F=fun a i=>QS (V a) i:=⟨_,rfl⟩;obtain⟨Cl,hCl⟩: ∃Cl,Cl=Zj M M.length:=⟨_,rfl⟩;have hCm: ∀p,p∈Cl->p.1 <p.2/\p.2 <M.length:=fun p hp=>Q63 (by rw[<-hCl];exact hp)
 have hCn:Cl.length<=1440000:=by
  rw[hCl];exact Nat.le_trans (KZ _) (Nat.mul_le_mul hn hn)
 rw[<-hCl];refine⟨ag0,?_⟩;refine I2 rfl<|QL<|I2 rfl<|Z7<|I3 2 rfl (S.old0 hgb1 hlb1) (Nat.le_refl _)<|Ic [_] rfl rfl (C.mono (t21 ((R.ext eG).ext S.e0) hn) ?_);rintro v g ⟨cb,S2⟩;have S:=SH.retL (A:=[]) (B:=[]) S S2;rw[<-hCl]at S;obtain⟨va,vc,rfl⟩:=Qa (S.sl 0 rfl);refine⟨ag0,?_⟩;refine I7 rfl<|I1 rfl<|Q0<|Q5 ?_
 refine Qh [(6,_),(19,_)] [(5,_),(17,_),(18,_)] (by repeat(first|exact trivial|refine⟨rfl,?_⟩)) (fun kk lv hh=> ∃(i:Nat) (s:Value) (bs:List Nat),lv=[(6,s),(19,iV i)]/\kk=Cl.length -i/\i<=Cl.length/\SH g0 [] [slR 82 1 s (prC (Jg F (Cl.take i))) (Jg F (Cl.take i)).length bs,slR 82 1 (.slice va Cl.length vc) (prC Cl) Cl.length cb] hh) (n:=Cl.length) ?_ fun kk lv hh hI=>?_
 · exact⟨0,_,[],rfl,rfl,by omega,S.nilSl 82 1⟩
 obtain⟨i,s,bs,rfl,hk,hi,S⟩:=hI;refine Q6<|Il rfl rfl<|Q0<|Q3<|Q2 rfl (fun hb=>?_) fun hb=>?_
 · skip
   refine Q4 ?_;have hi:i <Cl.length:=by simpa using hb
   obtain⟨qb,qm,qc2,qr,hqv,hqg,_⟩:=(S.sl 1 rfl).at (by omega);cases hqv;obtain⟨p,hp⟩: ∃p,Cl[i]?=some p:=⟨_,List.getElem?_eq_getElem hi⟩;have hpm:=hCm p (List.mem_of_getElem? hp);have hpr:=Qao qr hp
   have hrl2:(Jg F (Cl.take i)).length<=1440000:=by
    refine Nat.le_trans (List.length_filter_le _ _) ?_;rw[List.length_take];omega
   refine Q3<|Q5<|Q6<|I5o 2 rfl rfl<|Z4 (n:=2) gn rfl rfl (by kernel_rfl) (by kernel_rfl) hqg (by rw[List.length_append,Q6O,Int.toNat_natCast];omega) ?_;rw[Nat.zero_add,Int.toNat_natCast,hpr];refine Qo (zv:=.agg #[.int .i64 0,.int .i64 0]) S gn rfl (by kernel_rfl) fun b2 g nb2 S=>?_;refine Qe (n:=2) 0 S gn rfl rfl (by kernel_rfl) (by kernel_rfl) rfl rfl (by decide) rfl (fun g S=>ag0) fun g S=>?_;refine Q0<|Q3 ?_;have eF: ∀a b:Nat,ZQ V a b=F a b:=fun a b=>by rw[hF];simp[ZQ]
   refine Q1 (by kernel_rfl)<|I1 rfl<|I0 0 rfl<|I4 rfl (S.cel 0 rfl) rfl<|I0 1 rfl<|I4 rfl (S.cel 0 rfl) rfl<|Ic [_,_,_] rfl rfl (Qr (t20 (hG.ext S.e0) (S.old0 hr hrl) (by omega) (by omega) hn) ⟨ag0,?_⟩);refine Ib rfl<|I1 rfl ?_
   refine Qp (n:=7) rfl rfl rfl gn rfl (fun hb=>by
    refine D1 hb rfl<|D0 1 hb rfl<|D4 hb rfl (S.cel 0 rfl) rfl<|D0 0 hb rfl<|D4 hb rfl (S.cel 0 rfl) rfl<|Dc hb [_,_,_] rfl rfl (Qr (t20 (hG.ext S.e0) (S.old0 hr hrl) (by omega) (by omega) hn) ⟨ag0,?_⟩);refine Db hb rfl ?_
    exact Q0 ⟨rfl,rfl,7,rfl,rfl⟩) ?_
   refine Q0<|Q2 rfl (fun hb=>?_) fun hb=>?_
   · skip
     refine Q1 (by kernel_rfl)<|I1 rfl<|I3 2 rfl (S.cel 0 rfl) (Nat.le_refl _) ?_;refine Qf (e:=82) (z:=1) (zv:=.agg #[.int .i64 0,.int .i64 0]) [(0,_)] S gn rfl (by kernel_rfl) (by kernel_rfl) (by kernel_rfl) (by kernel_rfl) rfl (by rfl) fun b3 g nb3 S=>?_;refine QE (e:=82) (z:=1) (by':=15) 2 0 S el82 gn rfl rfl rfl rfl rfl rfl (by rfl) (by omega) (fun s' bs' g S=>ag0) fun s' bs' g S=>?_;refine I2 rfl<|Q0<|Q1 (by kernel_rfl)<|Iao rfl rfl<|I1 rfl<|Q0 ?_
     exact Z6 (Cl.length - (i+1)) (by omega) [(6,_),(19,_)] (by repeat(first|exact trivial|refine⟨rfl,?_⟩)) ⟨i+1,s',bs',rfl,rfl,by omega,by
      have hf:Q4p F p=true:=by
       unfold Q4p;rw[eF,eF]at hb;exact hb
      rw[Q5i hp,if_pos hf,Q3R,List.length_append];exact S.drop.drop⟩
   refine Q4<|Q1 (by kernel_rfl)<|Iao rfl rfl<|I1 rfl<|Q0 ?_
   exact Z6 (Cl.length - (i+1)) (by omega) [(6,_),(19,_)] (by repeat(first|exact trivial|refine⟨rfl,?_⟩)) ⟨i+1,s,bs,rfl,rfl,by omega,by
    have hf:Q4p F p=false:=by
     unfold Q4p;rw[eF,eF]at hb;exact hb
    rw[Q5i hp,if_neg (by rw[hf];decide)];exact S.drop⟩
 refine Ql<|Q9<|Qc<|Qm<|Q3 ?_;obtain rfl:i=Cl.length:=by simp at hb;omega
 rw[List.take_length]at S;refine Q1 (by kernel_rfl)<|I1 rfl<|I2 rfl<|I2 rfl<|Q0<|Q7 ?_;refine⟨.inl rfl,_,rfl,?_⟩;exact⟨s,bs,F,rfl,SH.since (SH.start h|>.grow eG) (SH.fst (A:=[_]) S) (fun i hi=>.inr (((SH.fst (A:=[_]) S).new i hi).resolve_left (by simp))),fun a b ha hb=>by rw[hF];exact hV a b ha (by omega)⟩
end
end Go.Proofs.Yteinandjhpnceaa
namespace Go.Proofs.Yteinandjhpnceaa
open Go.X Go.May Go.Mac Go.Model
theorem QdE {id k:Int}:Qn [] id k <0:=by show(-1:Int)<0;omega
theorem Q8n {L:List MMark} {id k:Int} (h:Qn L id k <0):Qn L id k= -1:=by have:=KT (L:=L) (id:=id) (k:=k);omega
section
variable {h:Hp} {tb tc:Nat} {ma:Option Addr} {mc:Nat} {T:List MTask} {M:List MMark} {id k:Int}
set_option maxHeartbeats 2000000 in
theorem t35 (R:RnAt h tb tc ma mc T M) (hM:M.length<=60000):C modE 35 [.agg #[tsV tb tc T,msV ma mc M],iV id,iV k,iV M.length] h fun v h'=>v=iV (Qn M id k)/\Ext h h':=by
 refine Q8 (fu:=Try.f35) (by kernel_rfl) rfl ?_;have S:=SH.start h;refine Q6 ?_;refine QX S gn rfl rfl fun b1 g nb1 S=>?_;refine I2 rfl<|Z7<|I2 rfl<|Q0<|Q5<|Qh [(9,_)] [(1,_),(2,_),(3,_),(4,_)] (by repeat(first|exact trivial|refine⟨rfl,?_⟩)) (fun kk lv hh=> ∃i:Nat,lv=[(9,iV i)]/\kk=M.length -i/\i<=M.length/\SH h [] [cR b1 (.cells [tsV tb tc T,msV ma mc M] 39 0)] hh/\Qn (M.take i) id k <0) (n:=M.length) ?_ fun kk lv hh hI=>?_
 · exact⟨0,rfl,rfl,by omega,S,QdE⟩
 obtain⟨i,rfl,hk,hi,S,hN⟩:=hI;refine Q3<|Q6<|I1 rfl<|I0 1 rfl<|I4 rfl (S.cel 0 rfl) rfl<|I7 rfl<|Il rfl rfl<|I1 rfl ?_
 refine Qp (n:=3) rfl rfl rfl gn rfl (fun hb=>by
  refine D1 hb rfl<|D1 hb rfl<|Dl hb rfl rfl ?_
  exact Q0 ⟨rfl,rfl,3,rfl,rfl⟩) ?_
 refine Q0<|Q2 rfl (fun hb=>?_) fun hb=>?_
 · skip
   refine Q4 ?_;have hi:i <M.length:=by simp at hb;omega
   obtain⟨mb,mcs,mm,hma,mg,mln,mll,mlr,mlf⟩:=R.mk' (j:=(i:Int)) (by omega) (by omega);have m0:=mlf 0 _ (by omega) rfl;have m1:=mlf 1 _ (by omega) rfl;refine Q3<|Q5<|Q6<|I0 1 rfl<|I4 rfl (S.cel 0 rfl) rfl<|I1 rfl ?_;rw[hma];refine I5o 8 rfl rfl ?_;rw[<-hma];refine I0 1 rfl<|I4 rfl (S.old0 mg mln) m1<|I1 rfl<|Ie rfl rfl<|I1 rfl ?_
   refine Qp (n:=8) rfl rfl rfl gn rfl (fun hb=>by
    refine D0 1 hb rfl<|D4 hb rfl (S.cel 0 rfl) rfl<|D1 hb rfl ?_;rw[hma];refine D5o 8 hb rfl rfl ?_;rw[<-hma];refine D0 0 hb rfl<|D4 hb rfl (S.old0 mg mln) m0<|D1 hb rfl<|De hb rfl rfl ?_
    exact Q0 ⟨rfl,rfl,8,rfl,rfl⟩) ?_
   refine Q0<|Q2 rfl (fun hb=>?_) fun hb=>?_
   · skip
     refine Q6<|I1 rfl<|I2 rfl<|Q0<|Q7 ?_;refine⟨.inl rfl,_,rfl,?_⟩
     exact⟨by
      have e:=Zv hi;have hb:(mkI M i).task=id/\(mkI M i).kind=k:=by simpa using hb
      rw[e]at hb;have:=Q3n (T:=T) hi hb.2 (by rw[hb.1];exact hN);rw[hb.1]at this
      rw[this];rfl,S.e0⟩
   refine Q4<|Q1 (by kernel_rfl)<|I1 rfl<|Iao rfl rfl<|I2 rfl<|Q0 ?_
   exact Z6 (M.length - (i+1)) (by omega) [(9,_)] (by repeat(first|exact trivial|refine⟨rfl,?_⟩)) ⟨i+1,rfl,rfl,by omega,S,by
    have e:=Zv hi;have hb: ¬((mkI M i).task=id/\(mkI M i).kind=k):=by simpa using hb
    rw[e]at hb
    rw[<-List.take_append_getElem hi,Q0S (by by_cases c:M[i].kind=k;exact .inr (fun d=>hb ⟨d,c⟩);exact .inl c)];exact hN⟩
 refine Ql<|Q9<|Qc<|Qm<|Q3 ?_;obtain rfl:i=M.length:=by simp at hb;omega
 rw[List.take_length]at hN;refine Q1 (by kernel_rfl)<|I2 rfl<|Q0<|Q7 ?_;refine⟨.inl rfl,_,rfl,?_⟩;exact⟨by rw[Q8n hN];rfl,S.e0⟩
theorem t16 (R:RnAt h tb tc ma mc T M) (hM:M.length<=60000):C modE 16 [.agg #[tsV tb tc T,msV ma mc M],iV id] h fun v h'=>v=iV (Qn M id 1)/\Ext h h':=by
 refine Q8 (fu:=Try.f16) (by kernel_rfl) rfl ?_;have S:=SH.start h;refine Q6 ?_;refine QX S gn rfl rfl fun b1 g nb1 S=>?_;refine I2 rfl<|QL<|I3 2 rfl (S.cel 0 rfl) (Nat.le_refl _)<|I1 rfl<|I0 1 rfl<|I4 rfl (S.cel 0 rfl) rfl<|I7 rfl<|Ic [_,_,_,_] rfl rfl (C.mono (t35 (R.ext S.e0) hM) ?_);rintro v g ⟨rfl,x⟩;have S:=S.grow x;refine⟨ag0,?_⟩;refine I2 rfl<|Q0<|Q7 ?_;refine⟨.inl rfl,_,rfl,?_⟩;exact⟨rfl,S.e0⟩
theorem t61 (R:RnAt h tb tc ma mc T M) (hM:M.length<=60000):C modE 61 [.agg #[tsV tb tc T,msV ma mc M],iV id] h fun v h'=>v=iV (Qn M id 2)/\Ext h h':=by
 refine Q8 (fu:=Try.f61) (by kernel_rfl) rfl ?_;have S:=SH.start h;refine Q6 ?_;refine QX S gn rfl rfl fun b1 g nb1 S=>?_;refine I2 rfl<|QL<|I3 2 rfl (S.cel 0 rfl) (Nat.le_refl _)<|I1 rfl<|I0 1 rfl<|I4 rfl (S.cel 0 rfl) rfl<|I7 rfl<|Ic [_,_,_,_] rfl rfl (C.mono (t35 (R.ext S.e0) hM) ?_);rintro v g ⟨rfl,x⟩;have S:=S.grow x;refine⟨ag0,?_⟩;refine I2 rfl<|Q0<|Q7 ?_;refine⟨.inl rfl,_,rfl,?_⟩;exact⟨rfl,S.e0⟩
end
end Go.Proofs.Yteinandjhpnceaa
namespace Go.Proofs.Yteinandjhpnceaa
open Go.X Go.May Go.Mac Go.Model
structure OW where
 ov:Value
 bv:Value
 ev:Value
 ob:List Nat
 bb:List Nat
 be:List Nat
 c:List Nat
def Q0J (k tb tc:Nat) (ma:Option Addr) (mc:Nat) (T:List MTask) (M:List MMark) (F:FB) (w:OW):List Res:=
 cR k (.cells [tsV tb tc T,msV ma mc M,w.ov,w.bv,w.ev] 118 0)::slR 3 0 w.bv (ixL M T.length 1) (T.length+1) w.bb::slR 3 0 w.ev (ixL M T.length 2) (T.length+1) w.be::mtL w.ov w.ob w.c F M.length
def Jh (k tb tc:Nat) (ma:Option Addr) (mc:Nat) (T:List MTask) (M:List MMark) (F:FB) (bs:List Nat):Res:=Q4E (fun L=> ∃w:OW,w.c.length=M.length/\L=Q0J k tb tc ma mc T M F w) bs
def orF (F:FB) (a b:Int):FB:=fun x y=>F x y||(decide ((x:Int)=a)&&decide ((y:Int)=b))
section
variable {h0 h:Hp} {ds bs:List Nat} {A:List Res} {k tb tc:Nat} {ma:Option Addr} {mc:Nat} {T:List MTask} {M:List MMark} {F:FB} {a b:Int} {w:OW}
theorem Q6Q (S:SH h0 ds [Jh k tb tc ma mc T M F bs] h): ∃w:OW,w.c.length=M.length/\owns (Q0J k tb tc ma mc T M F w)=bs/\SH h0 ds (Q0J k tb tc ma mc T M F w) h:=by
 obtain⟨_,⟨w,hw,rfl⟩,ho,S⟩:=Jc (A:=[]) S;exact⟨w,hw,ho,S⟩
theorem Q23 (S:SH h0 ds (Q0J k tb tc ma mc T M F w) h) (hw:w.c.length=M.length): ∃bs',SH h0 ds [Jh k tb tc ma mc T M F bs'] h:=⟨_,Kz (A:=[]) S ⟨w,hw,rfl⟩⟩
theorem Qax (S:SH h0 ds (Q0J k tb tc ma mc T M F w) h) (hw:w.c.length=M.length) {x:Nat} (hx:x <M.length): ∃ab ac cs m rb,w.ov=.slice (some ⟨ab,0,none⟩) M.length ac/\h.get ab=some (.cells cs 78 m)/\cs[0+Int.toNat (x:Int)*1]?=some (slB M.length rb)/\w.c[x]?=some rb/\h.get rb=some (.cells (KH F M.length x) 4 0):=
 QaM (fun r hr=>S.hold r (by unfold Q0J;exact List.mem_cons_of_mem _ (List.mem_cons_of_mem _ (List.mem_cons_of_mem _ hr)))) hw hx
theorem Qas {x y rb:Nat} {g:Hp} (hc:w.c[x]?=some rb) (hy:y <M.length) (S:SH h0 ds ((Q0J k tb tc ma mc T M F w).set (x+4) (cR rb (.cells ((KH F M.length x).set (0+Int.toNat (y:Int)*1) (.bool true)) 4 0))) g):SH h0 ds (Q0J k tb tc ma mc T M (orF F x y) w) g:=by
 have e:(KH F M.length x).set (0+Int.toNat (y:Int)*1) (.bool true)=KH (orF F x y) M.length x:=by
  rw[Nat.zero_add,Nat.mul_one,Int.toNat_natCast];unfold KH;refine Q8f (by simp[orF]) fun i hi=>?_;have:(decide ((x:Int)=x)&&decide ((i:Int)=y))=false:=by simp;omega
  unfold orF;rw[this,Bool.or_false]
 rw[e]at S
 have e2:=QaN (G:=KH F M.length) (G':=KH (orF F x y) M.length) w.c 0 x hc (fun q hq=>by
  unfold KH orF;refine List.map_congr_left fun i _=>?_
  have:(decide ((q:Int)=x)&&decide ((i:Int)=y))=false:=by
   have: ¬(q:Int)=x:=by omega
   rw[decide_eq_false this];rfl
  rw[this,Bool.or_false])
 rw[Nat.zero_add]at e2
 have e3:(Q0J k tb tc ma mc T M F w).set (x+4) (cR rb (.cells (KH (orF F x y) M.length x) 4 0))=Q0J k tb tc ma mc T M (orF F x y) w:=by
  unfold Q0J mtL;rw[List.set_cons_succ,List.set_cons_succ,List.set_cons_succ,List.set_cons_succ,e2]
 rw[e3]at S;exact S
theorem Qfj {x rb:Nat} (hc:w.c[x]?=some rb):(Q0J k tb tc ma mc T M F w)[x+4]?=some (cR rb (.cells (KH F M.length x) 4 0)):=by
 have:=QaO (G:=KH F M.length) w.c 0 x hc;rw[Nat.zero_add]at this;unfold Q0J mtL;rw[List.getElem?_cons_succ,List.getElem?_cons_succ,List.getElem?_cons_succ,List.getElem?_cons_succ];exact this
theorem Qfk (h:a <0\/b <0):orF F a b=F:=funext fun x=>funext fun y=>by
 unfold orF;have:(decide ((x:Int)=a)&&decide ((y:Int)=b))=false:=by simp;omega
 rw[this,Bool.or_false]
set_option maxHeartbeats 2000000 in
theorem t81 (S0:SH h0 [] [Jh k tb tc ma mc T M F bs] h) (ha:a <M.length) (hb:b <M.length):C modE 81 [Qw k,iV a,iV b] h fun _ g'=> ∃bs',SH h bs [Jh k tb tc ma mc T M (orF F a b) bs'] g':=by
 have SE:=S0.enter;obtain⟨w,hw,hown,S1⟩:=Q6Q SE;refine Q8 (fu:=Try.f81) (by kernel_rfl) rfl ?_;have S:=S1;refine Q6<|I1 rfl<|Ih rfl rfl<|I1 rfl ?_
 refine Qp (n:=2) rfl rfl rfl gn rfl (fun hb=>by
  refine D1 hb rfl<|Dh hb rfl rfl ?_
  exact Q0 ⟨rfl,rfl,2,rfl,rfl⟩) ?_
 refine Q0<|Q2 rfl (fun hb=>?_) fun hb=>?_
 · skip
   refine Q1 (by kernel_rfl) ?_;have hab:0<=a/\0<=b:=by simpa using hb
   obtain⟨x,rfl⟩:=Int.eq_ofNat_of_zero_le hab.1;obtain⟨y,rfl⟩:=Int.eq_ofNat_of_zero_le hab.2;obtain⟨ab,ac,cs,cm,rb,hov,hag,hax,hcx,hrg⟩:=Qax S hw (show x <M.length by omega);refine I1 rfl<|I6 rfl<|I0 2 rfl<|I4 rfl (S.cel 0 rfl) rfl<|I1 rfl ?_;rw[hov];refine I5o 1 rfl rfl ?_;rw[<-hov];refine I4 rfl hag hax<|I1 rfl<|I5o 1 rfl rfl ?_;refine Qi (x+4) S gn rfl rfl rfl (by kernel_rfl) (Qfj hcx) (by decide) (by rw[Q3I];omega) (fun g S=>ag0) fun g S=>?_;refine Q0 ?_;refine⟨.inr rfl,_,rfl,?_⟩;exact Q23 (Qas hcx (by omega) S) hw
 refine Q4 ?_;refine⟨.inr rfl,_,rfl,?_⟩
 exact(by
  have hab:a <0\/b <0:=by simp at hb;omega
  rw[Qfk hab]
  exact Q23 S hw)
def Kk (F:FB) (a b:Int):Bool:=(decide (0<=a)&&decide (0<=b))&&F a.toNat b.toNat
theorem Q3W (p:Held (Jh k tb tc ma mc T M F bs) h): ∃w:OW,w.c.length=M.length/\(∀r,r∈Q0J k tb tc ma mc T M F w->r.P h)/\ ∀i,i∈owns (Q0J k tb tc ma mc T M F w)->i <h.n:=by
 obtain⟨⟨_,⟨w,hw,rfl⟩,ho,hp⟩,hl⟩:=p;exact⟨w,hw,hp,fun i hi=>hl i (by show i∈bs;rw[<-ho];exact hi)⟩
theorem t82n {k:Nat} (hj:a <0\/b <0):CP modE 82 [Qw k,iV a,iV b] h (.bool false):=by
 refine Q8 (fu:=Try.f82) (by kernel_rfl) rfl ?_;refine Q6<|I2 rfl<|QL<|I1 rfl<|Ih rfl rfl<|I1 rfl ?_
 refine Qp (n:=2) rfl rfl rfl gn rfl (fun hb=>by
  refine D1 hb rfl<|Dh hb rfl rfl ?_
  exact Q0 ⟨rfl,rfl,2,rfl,rfl⟩) ?_
 refine I1 rfl ?_
 refine Qp (B:=false) (n:=10) rfl rfl rfl gn rfl (fun hb=>by
  exact False.elim (by simp at hb;omega)) ?_
 refine I2 rfl<|Q0<|Q7 ?_;refine⟨.inl rfl,_,rfl,?_⟩;exact⟨by rw[Bool.and_false];rfl,rfl⟩
set_option maxHeartbeats 2000000 in
theorem t82p {x y:Nat} (p:Held (Jh k tb tc ma mc T M F bs) h) (hx:x <M.length) (hy:y <M.length):CP modE 82 [Qw k,iV x,iV y] h (.bool (F x y)):=by
 obtain⟨w,hw,hp,hl⟩:=Q3W p;obtain⟨ab,ac,cs,cm,rb,hov,hag,hax,hcx,hrg⟩:=QaM (a:=x) (fun r hr=>hp r (by unfold Q0J;exact List.mem_cons_of_mem _ (List.mem_cons_of_mem _ (List.mem_cons_of_mem _ hr)))) hw hx;have hk:h.get k=some (.cells [tsV tb tc T,msV ma mc M,w.ov,w.bv,w.ev] 118 0):=hp (cR k (.cells [tsV tb tc T,msV ma mc M,w.ov,w.bv,w.ev] 118 0)) (by simp[Q0J]);have hry:=Q3J (F:=F) (n:=M.length) (a:=x) (j:=y) (by omega);have hry:(KH F M.length x)[0+Int.toNat (y:Int)*1]?=some (.bool (F x y)):=by rw[Nat.zero_add,Nat.mul_one,Int.toNat_natCast];exact hry
 refine Q8 (fu:=Try.f82) (by kernel_rfl) rfl ?_;refine Q6<|I2 rfl<|QL<|I1 rfl<|Ih rfl rfl<|I1 rfl ?_
 refine Qp (n:=2) rfl rfl rfl gn rfl (fun hb=>by
  refine D1 hb rfl<|Dh hb rfl rfl ?_
  exact Q0 ⟨rfl,rfl,2,rfl,rfl⟩) ?_
 refine I1 rfl ?_
 refine Qp (n:=10) rfl rfl rfl gn rfl (fun hb=>by
  refine D1 hb rfl<|D6 hb rfl<|D0 2 hb rfl<|D4 hb rfl hk rfl<|D1 hb rfl ?_;rw[hov];refine D5o 1 hb rfl rfl ?_;rw[<-hov];refine D4 hb rfl hag hax<|D1 hb rfl<|D5o 1 hb rfl rfl<|D4 hb rfl hrg hry ?_
  exact Q0 ⟨rfl,rfl,10,rfl,rfl⟩) ?_
 refine I2 rfl<|Q0<|Q7 ?_;refine⟨.inl rfl,_,rfl,?_⟩;exact⟨by simp[oneOf],rfl⟩
theorem t82 (p:Held (Jh k tb tc ma mc T M F bs) h) (ha:a <M.length) (hb:b <M.length):CP modE 82 [Qw k,iV a,iV b] h (.bool (Kk F a b)):=by
 by_cases hab:0<=a/\0<=b
 · obtain⟨x,rfl⟩:=Int.eq_ofNat_of_zero_le hab.1;obtain⟨y,rfl⟩:=Int.eq_ofNat_of_zero_le hab.2;have e:Kk F x y=F x y:=by simp[Kk]
   rw[e];exact t82p p (by omega) (by omega)
 have e:Kk F a b=false:=by
  unfold Kk;have:(decide (0<=a)&&decide (0<=b))=false:=by simp;omega
  rw[this];rfl
 rw[e];exact t82n (by omega)
end
end Go.Proofs.Yteinandjhpnceaa
namespace Go.Proofs.Yteinandjhpnceaa
open Go.X Go.May Go.Mac Go.Model
def Q6l (T:List MTask) (M:List MMark) (F:FB):Prop:= ∀a i,F a i=true->HB T M a i
def LeF (F F2:FB):Prop:= ∀a i,F a i=true->F2 a i=true
def NextI (M:List MMark) (j:Nat) (F:FB):Prop:= ∀i k:Nat,i <j->i <k->k <M.length->(mkI M i).task=(mkI M k).task->(∀q:Nat,i <q->q <k->(mkI M q).task≠(mkI M k).task)->F i k=true
def JoinF (M:List MMark) (j:Nat) (F:FB):Prop:= ∀i:Nat,i <j->(mkI M i).kind=6->0<=eIx M (mkI M i).other->F (eIx M (mkI M i).other).toNat i=true
def MadeF (T:List MTask) (M:List MMark) (j:Nat) (F:FB):Prop:= ∀id:Int,1<=id->id<=j->(0<=(tkT T id).mark->0<=bIx M id->F (tkT T id).mark.toNat (bIx M id).toNat=true)/\(0 <(tkT T id).prev->0<=eIx M (tkT T id).prev->0<=bIx M id->F (eIx M (tkT T id).prev).toNat (bIx M id).toNat=true)
section
variable {T:List MTask} {M:List MMark} {F F2:FB} {a b:Int} {j:Nat}
theorem YJ:LeF F (orF F a b):=fun x y h=>by unfold orF;rw[h];rfl
theorem Q3d (ha:0<=a) (hb:0<=b):orF F a b a.toNat b.toNat=true:=by
 unfold orF;have e1:((a.toNat:Nat):Int)=a:=by omega
 have e2:((b.toNat:Nat):Int)=b:=by omega
 rw[e1,e2];simp
theorem Q24 (hs:Q6l T M F) (hh:0<=a->0<=b->HB T M a.toNat b.toNat):Q6l T M (orF F a b):=fun x y h=>by
 unfold orF at h;rcases orT h with h|h
 · exact hs x y h
 simp only[Bool.and_eq_true,decide_eq_true_eq]at h;have:=hh (by omega) (by omega);rwa[show a.toNat=x by omega,show b.toNat=y by omega]at this
theorem NextI.le (h:NextI M j F) (l:LeF F F2):NextI M j F2:=fun i k x a b c d=>l i k (h i k x a b c d)
theorem JoinF.le (h:JoinF M j F) (l:LeF F F2):JoinF M j F2:=fun i a b c=>l _ _ (h i a b c)
theorem MadeF.le (h:MadeF T M j F) (l:LeF F F2):MadeF T M j F2:=fun id a b=>⟨fun c d=>l _ _ ((h id a b).1 c d),fun c d e=>l _ _ ((h id a b).2 c d e)⟩
theorem NextI.none (h:NextI M j F) (hn: ∀k:Nat,j <k->k <M.length->(mkI M k).task≠(mkI M j).task):NextI M (j+1) F:=fun i k x a b c d=>by
 rcases Nat.lt_or_ge i j with e|e
 · exact h i k e a b c d
 have e:i=j:=by omega
 subst e;exact absurd c.symm (hn k a b)
theorem NextI.some {o:Nat} (h:NextI M j F) (ho:j <o) (ht:(mkI M o).task=(mkI M j).task) (hl: ∀k:Nat,j <k->k <o->(mkI M k).task≠(mkI M j).task) (hb:F j o=true):NextI M (j+1) F:=fun i k x a b c d=>by
 rcases Nat.lt_or_ge i j with e|e
 · exact h i k e a b c d
 have e:i=j:=by omega
 subst e;rcases Nat.lt_trichotomy k o with f|f|f
 · exact absurd c.symm (hl k a f)
 · rw[f];exact hb
 exact absurd (ht.trans c) (d o ho f)
theorem JoinF.step (h:JoinF M j F) (hj:(mkI M j).kind=6->0<=eIx M (mkI M j).other->F (eIx M (mkI M j).other).toNat j=true):JoinF M (j+1) F:=fun i a b c=>by
 rcases Nat.lt_or_ge i j with e|e
 · exact h i e b c
 have e:i=j:=by omega
 subst e;exact hj b c
theorem MadeF.step (h:MadeF T M j F) (h1:0<=(tkT T (j+1)).mark->0<=bIx M (j+1)->F (tkT T (j+1)).mark.toNat (bIx M (j+1)).toNat=true) (h2:0 <(tkT T (j+1)).prev->0<=eIx M (tkT T (j+1)).prev->0<=bIx M (j+1)->F (eIx M (tkT T (j+1)).prev).toNat (bIx M (j+1)).toNat=true):MadeF T M (j+1) F:=fun id a b=>by
 by_cases e:id<=j
 · exact h id a e
 have e:id=j+1:=by omega
 subst e;exact⟨h1,h2⟩
end
section
variable {h0 h:Hp} {ds bs:List Nat} {k tb tc:Nat} {ma:Option Addr} {mc:Nat} {T:List MTask} {M:List MMark} {F:FB}
theorem Q9B (p:Held (Jh k tb tc ma mc T M F bs) h): ∃w:OW,w.c.length=M.length/\h.get k=some (.cells [tsV tb tc T,msV ma mc M,w.ov,w.bv,w.ev] 118 0)/\SlC 3 0 h w.bv (ixL M T.length 1) (T.length+1) w.bb/\SlC 3 0 h w.ev (ixL M T.length 2) (T.length+1) w.be/\SlC 78 0 h w.ov (w.c.map (slB M.length)) M.length w.ob:=by
 obtain⟨w,hw,hp,hl⟩:=Q3W p;exact⟨w,hw,hp (cR k _) (by simp[Q0J]),hp (slR 3 0 w.bv (ixL M T.length 1) (T.length+1) w.bb) (by simp[Q0J]),hp (slR 3 0 w.ev (ixL M T.length 2) (T.length+1) w.be) (by simp[Q0J]),hp (slR 78 0 w.ov (w.c.map (slB M.length)) M.length w.ob) (by simp[Q0J,mtL])⟩
theorem Q4c {v:Value} {n:Nat} {q id:Int} {bs:List Nat} (x:SlC 3 0 h v (ixL M n q) (n+1) bs) (h0:0<=id) (h1:id<=n): ∃b c cs m,v=.slice (some ⟨b,0,none⟩) (n+1) c/\h.get b=some (.cells cs 3 m)/\cs[0+id.toNat*1]?=some (iV (Qn M id q)):=by
 obtain⟨b,m,c,r,hv,hg,_⟩:=x.at (by omega);refine⟨b,c,_,m,hv,hg,?_⟩;rw[List.getElem?_append_left (by rw[Yp];omega)];exact Zd h0 h1
set_option maxHeartbeats 8000000 in
theorem t62 (S0:SH h0 [] [Jh k tb tc ma mc T M F bs] h) (R:RnAt h0 tb tc ma mc T M) (ok:RunOk T M) (hn:M.length<=1200) (hF: ∀x y,F x y=false):C modE 62 [Qw k] h fun _ g'=> ∃bs' F',SH h bs [Jh k tb tc ma mc T M F' bs'] g'/\Q6l T M F'/\BaseP T M fun x y=>F' x y=true:=by
 have SE:=S0.enter;have SE:SH h bs [Jh k tb tc ma mc T M F bs] h:=SE;have hown: ∀i,i∈bs->h0.n<=i:=S0.own0;have hT:=ok.t;have old: ∀ {g:Hp} {A:List Res},SH h bs A g->RnAt g tb tc ma mc T M:=fun S=>R.ext (S0.all0 hown S);have oget: ∀ {g:Hp} {A:List Res} {b:Nat} {o:AObj},SH h bs A g->h0.get b=some o->b <h0.n->g.get b=some o:=fun S e l=>((S0.all0 hown S).get _ l).trans e;refine Q8 (fu:=Try.f62) (by kernel_rfl) rfl ?_;have S:=SE;refine Q3<|Q6<|I2 rfl<|Q0<|Q5 ?_
 refine Qh [(2,_)] [(0,_)] (by repeat(first|exact trivial|refine⟨rfl,?_⟩)) (fun kk lv hh=> ∃(i:Nat) (F:FB) (b:List Nat),lv=[(2,iV i)]/\kk=M.length -i/\i<=M.length/\SH h bs [Jh k tb tc ma mc T M F b] hh/\Q6l T M F/\NextI M i F/\JoinF M i F) (n:=M.length) ?_ fun kk lv hh hI=>?_
 · exact⟨0,F,bs,rfl,rfl,by omega,S,fun a i hb=>(by rw[hF]at hb;cases hb),fun i k x=>by omega,fun i a=>by omega⟩
 obtain⟨i,F,b,rfl,hk,hi,S,hV,hNx,hJn⟩:=hI;refine Q3<|Q3 ?_;obtain⟨w,hw,hok,hbv,hev,hov⟩:=Q9B (S.held 0 rfl);refine Q1 (by kernel_rfl)<|I1 rfl<|I1 rfl<|I6 rfl<|I0 0 rfl<|I0 1 rfl<|I4 rfl hok rfl<|I7 rfl<|Il rfl rfl<|Q0<|Q2 rfl (fun hb=>?_) fun hb=>?_
 · skip
   refine Q4 ?_;have hi:i <M.length:=by simpa using hb
   obtain⟨mb,mcs,mm,hma,mg,mln,mll,mlr,mlf⟩:=R.mk' (j:=(i:Int)) (by omega) (by omega);have hlk:=ok.lk i hi;rw[<-Zv hi]at hlk;refine Q3<|Q5<|Q6<|I1 rfl<|I6 rfl<|I0 0 rfl<|I0 1 rfl<|I4 rfl hok rfl<|I1 rfl ?_;rw[hma];refine I5o 8 rfl rfl ?_;rw[<-hma];refine I3 8 rfl (oget S mg mln) mll ?_;rw[mlr];refine Qo (zv:=.agg #[.int .i64 0,.int .i64 0,.int .i64 0,.int .i64 0,.int .i64 0,.int .i64 0,.int .i64 0,.bool false]) S gn rfl (by kernel_rfl) fun b1 g nb1 S=>?_
   refine Qe (n:=8) 0 S gn rfl rfl (by kernel_rfl) (by kernel_rfl) rfl rfl (by decide) rfl (fun g S=>ag0) fun g S=>?_;refine Q0<|Y1 [(0,Qw k),(2,iV i),(3,Qw b1)] (fun lv hh=>lv=[]/\ ∃(F:FB) (b:List Nat),SH h bs [cR b1 (.cells (mkV (mkI M i)) 36 0),Jh k tb tc ma mc T M F b] hh/\Q6l T M F/\NextI M (i+1) F/\JoinF M i F) ?_ fun lv hh hJ=>?_
   · skip
     refine Q6<|I1 rfl<|Iao rfl rfl<|I2 rfl<|Q0<|Q5<|Qh [(4,_)] [(0,_),(2,_),(3,_),(7,_),(8,_),(9,_),(10,_),(11,_),(12,_),(13,_),(14,_),(17,_),(18,_),(19,_),(20,_),(21,_),(22,_),(23,_),(24,_),(25,_),(26,_)] (by repeat(first|exact trivial|refine⟨rfl,?_⟩)) (fun kk lv hh=> ∃p:Nat,lv=[(4,iV p)]/\kk=M.length -p/\i <p/\p<=M.length/\SH h bs [cR b1 (.cells (mkV (mkI M i)) 36 0),Jh k tb tc ma mc T M F b] hh/\ ∀q:Nat,i <q->q <p->(mkI M q).task≠(mkI M i).task) (n:=(M.length - (i+1))) ?_ fun kk lv hh hI=>?_
     · exact⟨i+1,rfl,rfl,by omega,by omega,S,fun q a b=>by omega⟩
     obtain⟨p,rfl,hk2,hip,hp,S,hq⟩:=hI;refine Q3<|Q3 ?_;obtain⟨w,hw,hok,hbv,hev,hov⟩:=Q9B (S.held 1 rfl);refine Q1 (by kernel_rfl)<|I1 rfl<|I1 rfl<|I6 rfl<|I0 0 rfl<|I0 1 rfl<|I4 rfl hok rfl<|I7 rfl<|Il rfl rfl<|Q0<|Q2 rfl (fun hb=>?_) fun hb=>?_
     · skip
       refine Q4 ?_;have hp:p <M.length:=by simpa using hb
       obtain⟨nb,ncs,nm,hna,ng,nln,nll,nlr,nlf⟩:=R.mk' (j:=(p:Int)) (by omega) (by omega);have n1:=nlf 1 _ (by omega) rfl;refine Q3<|Q5<|Q3<|I9<|I1 rfl<|I6 rfl<|I0 0 rfl<|I0 1 rfl<|I4 rfl hok rfl<|I1 rfl ?_;rw[hna];refine I5o 8 rfl rfl ?_;rw[<-hna];refine I0 1 rfl<|I4 rfl (oget S ng nln) n1<|I0 1 rfl<|I4 rfl (S.cel 0 rfl) rfl<|Ie rfl rfl<|Q0<|Q2 rfl (fun hb=>?_) fun hb=>?_
       · skip
         refine Q3 ?_;have hbt:(mkI M p).task=(mkI M i).task:=of_decide_eq_true hb;have hbn: ∀q:Nat,i <q->q <p->(mkI M q).task≠(mkI M p).task:=fun q a b=>by rw[hbt];exact hq q a b
         refine Q1 (by kernel_rfl)<|I1 rfl<|I1 rfl<|I1 rfl<|Ic [_,_,_] rfl rfl (C.mono (t81 (a:=(i:Int)) (b:=(p:Int)) (SH.sub1 S0 hown S 1 rfl) (by omega) (by omega)) ?_);rintro v g ⟨b2,S2⟩;have S:=S.ret 1 rfl S2;refine⟨ag0,?_⟩;refine Q0<|Ql<|QeK (by decide)<|Q9<|Qc<|Qm ?_
         exact ZF [] (by repeat(first|exact trivial|refine⟨rfl,?_⟩)) ⟨rfl,orF F i p,b2,S,Q24 hV (fun _ _=>by rw[Int.toNat_natCast,Int.toNat_natCast];exact hb_clo.base.next i p hip hp hbt.symm hbn),(hNx.le YJ).some hip hbt (fun q a b=>hq q a b) (by have:=Q3d (F:=F) (a:=(i:Int)) (b:=(p:Int)) (by omega) (by omega);rwa[Int.toNat_natCast,Int.toNat_natCast]at this),hJn.le YJ⟩
       refine Q4<|Q1 (by kernel_rfl)<|I1 rfl<|Iao rfl rfl<|I2 rfl<|Q0 ?_
       exact Z6 (M.length - (p+1)) (by omega) [(4,_)] (by repeat(first|exact trivial|refine⟨rfl,?_⟩)) ⟨p+1,rfl,rfl,by omega,by omega,S,fun q a b=>by
        rcases Nat.lt_or_ge q p with e|e
        · exact hq q a e
        have e:q=p:=by omega
        subst e
        exact of_decide_eq_false hb⟩
     refine Ql<|Q9<|Qc<|Qm ?_;exact ZF [] (by repeat(first|exact trivial|refine⟨rfl,?_⟩)) ⟨rfl,F,b,S,hV,hNx.none (fun q a c=>hq q a (by simp at hb;omega)),hJn⟩
   obtain⟨rfl,F,b,S,hV,hNx,hJn⟩:=hJ;refine Q6<|I0 0 rfl<|I4 rfl (S.cel 0 rfl) rfl<|Ie rfl rfl<|Q0<|Q2 rfl (fun hb=>?_) fun hb=>?_
   · skip
     have h6:(mkI M i).kind=6:=of_decide_eq_true hb;obtain⟨⟨o1,o2⟩,_,_⟩:=Q07 hlk h6;obtain⟨w,hw,hok,hbv,hev,hov⟩:=Q9B (S.held 1 rfl);obtain⟨eb,ec,ecs,em,hve,heg,hex⟩:=Q4c hev (id:=(mkI M i).other) (by omega) (by omega);refine I9<|I1 rfl<|I1 rfl<|I6 rfl<|I0 4 rfl<|I4 rfl hok rfl<|I0 2 rfl<|I4 rfl (S.cel 0 rfl) rfl ?_;rw[hve];refine I5o 1 rfl rfl ?_;rw[<-hve];refine I4 rfl heg hex<|I1 rfl<|Ic [_,_,_] rfl rfl (C.mono (t81 (a:=Qn M (mkI M i).other 2) (b:=(i:Int)) (SH.sub1 S0 hown S 1 rfl) QB (by omega)) ?_);rintro v g ⟨b2,S2⟩;have S:=S.ret 1 rfl S2
     refine⟨ag0,?_⟩;refine Q0<|Q1 (by kernel_rfl)<|I1 rfl<|Iao rfl rfl<|I2 rfl<|Q0 ?_;exact Z6 (M.length - (i+1)) (by omega) [(2,_)] (by repeat(first|exact trivial|refine⟨rfl,?_⟩)) ⟨i+1,_,b2,rfl,rfl,by omega,S.drop,Q24 hV (fun h0 _=>by rw[Int.toNat_natCast];exact hb_clo.base.join i hi h6 h0),hNx.le YJ,(hJn.le YJ).step fun _ h0=>by have:=Q3d (F:=F) (a:=Qn M (mkI M i).other 2) (b:=(i:Int)) h0 (by omega);rwa[Int.toNat_natCast]at this⟩
   refine Q4<|Q1 (by kernel_rfl)<|I1 rfl<|Iao rfl rfl<|I2 rfl<|Q0 ?_;exact Z6 (M.length - (i+1)) (by omega) [(2,_)] (by repeat(first|exact trivial|refine⟨rfl,?_⟩)) ⟨i+1,F,b,rfl,rfl,by omega,S.drop,hV,hNx,hJn.step fun h6=>absurd h6 (of_decide_eq_false hb)⟩
 refine Ql<|Q9<|Qc<|Qm<|Q3 ?_;obtain rfl:i=M.length:=by simp at hb;omega
 refine Q1 (by kernel_rfl)<|I2 rfl<|Q0<|Q5<|Qh [(5,_)] [(0,_)] (by repeat(first|exact trivial|refine⟨rfl,?_⟩)) (fun kk lv hh=> ∃(i:Nat) (F:FB) (b:List Nat),lv=[(5,iV ((i:Int)+1))]/\kk=T.length -i/\i<=T.length/\SH h bs [Jh k tb tc ma mc T M F b] hh/\Q6l T M F/\NextI M M.length F/\JoinF M M.length F/\MadeF T M i F) (n:=T.length) ?_ fun kk lv hh hI=>?_
 · exact⟨0,F,b,rfl,rfl,by omega,S,hV,hNx,hJn,fun id a c=>by omega⟩
 obtain⟨i,F,b,rfl,hk,hi,S,hV,hNx,hJn,hMd⟩:=hI;refine Q3<|Q3 ?_;obtain⟨w,hw,hok,hbv,hev,hov⟩:=Q9B (S.held 0 rfl);refine Q1 (by kernel_rfl)<|I1 rfl<|I1 rfl<|I6 rfl<|I0 0 rfl<|I0 0 rfl<|I4 rfl hok rfl<|I7 rfl<|Im rfl rfl<|Q0<|Q2 rfl (fun hb=>?_) fun hb=>?_
 · skip
   refine Q4 ?_;have hi:i <T.length:=by simp at hb;omega
   obtain⟨tcs,tm,ttg,ttl,ttr,ttf⟩:=R.tk (id:=(i:Int)+1) (by omega) (by omega);have hmk:=Q2d ok (id:=(i:Int)+1) (by omega) (by omega);have hfl:=ok.tk.fol (i+1) (by omega) (by omega);refine Q3<|Q5<|Q6<|I1 rfl<|I6 rfl<|I0 0 rfl<|I0 0 rfl<|I4 rfl hok rfl<|I1 rfl<|Iso rfl rfl<|I5o 15 rfl rfl<|I3 15 rfl (oget S ttg R.tl) ttl ?_;rw[ttr]
   refine Qo (zv:=.agg #[.int .i64 0,.int .i64 0,.int .i64 0,.int .i64 0,.int .i64 0,.int .i64 0,.int .i64 0,.bool false,.int .i64 0,.int .i64 0,.int .i64 0,.int .i64 0,.int .i64 0,.int .i64 0,.int .i64 0]) S gn rfl (by kernel_rfl) fun b2 g nb2 S=>?_;refine Qe (n:=15) 0 S gn rfl rfl (by kernel_rfl) (by kernel_rfl) rfl rfl (by decide) rfl (fun g S=>ag0) fun g S=>?_;refine Q0<|Q3 ?_;obtain⟨w,hw,hok,hbv,hev,hov⟩:=Q9B (S.held 1 rfl);obtain⟨eb,ec,ecs,em,hve,heg,hex⟩:=Q4c hbv (id:=(i:Int)+1) (by omega) (by omega);refine I9<|I1 rfl<|I0 13 rfl<|I4 rfl (S.cel 0 rfl) rfl<|I1 rfl<|I6 rfl ?_
   refine I0 3 rfl<|I4 rfl hok rfl<|I1 rfl ?_;rw[hve];refine I5o 1 rfl rfl ?_;rw[<-hve];refine I4 rfl heg hex<|Ic [_,_,_] rfl rfl (C.mono (t81 (a:=(tkT T (i+1)).mark) (b:=Qn M (i+1) 1) (SH.sub1 S0 hown S 1 rfl) hmk QB) ?_);rintro v g ⟨b2,S2⟩;have S:=S.ret 1 rfl S2;have hVs:=Q24 (a:=(tkT T (i+1)).mark) (b:=Qn M (i+1) 1) hV (fun h1 h2=>hb_clo.base.made (i+1) (by omega) (by omega) h1 h2);refine⟨ag0,?_⟩;refine QL<|I0 14 rfl<|I4 rfl (S.cel 0 rfl) rfl<|Ig rfl rfl<|Q0<|Q2 rfl (fun hb=>?_) fun hb=>?_
   · skip
     have hp0:0 <(tkT T (i+1)).prev:=of_decide_eq_true hb;obtain⟨f1,f2⟩:=(hfl.resolve_left (by omega)).1;obtain⟨w,hw,hok,hbv,hev,hov⟩:=Q9B (S.held 1 rfl);obtain⟨eb,ec,ecs,em,hve,heg,hex⟩:=Q4c hev (id:=(tkT T (i+1)).prev) (by omega) (by omega);obtain⟨ub,uc,ucs,um,hvu,hug,hux⟩:=Q4c hbv (id:=(i:Int)+1) (by omega) (by omega);refine I9<|I1 rfl<|I1 rfl<|I6 rfl<|I0 4 rfl<|I4 rfl hok rfl<|I0 14 rfl<|I4 rfl (S.cel 0 rfl) rfl ?_;rw[hve];refine I5o 1 rfl rfl ?_;rw[<-hve];refine I4 rfl heg hex<|I1 rfl<|I6 rfl<|I0 3 rfl<|I4 rfl hok rfl ?_
     refine I1 rfl ?_;rw[hvu];refine I5o 1 rfl rfl ?_;rw[<-hvu];refine I4 rfl hug hux<|Ic [_,_,_] rfl rfl (C.mono (t81 (a:=Qn M (tkT T (i+1)).prev 2) (b:=Qn M (i+1) 1) (SH.sub1 S0 hown S 1 rfl) QB QB) ?_);rintro v g ⟨b3,S3⟩;have S:=S.ret 1 rfl S3;refine⟨ag0,?_⟩;refine Q0<|Q1 (by kernel_rfl)<|I1 rfl<|Iao rfl rfl<|I2 rfl<|Q0 ?_
     exact Z6 (T.length - (i+1)) (by omega) [(5,_)] (by repeat(first|exact trivial|refine⟨rfl,?_⟩)) ⟨i+1,_,b3,rfl,rfl,by omega,S.drop,Q24 hVs (fun h1 h2=>hb_clo.base.fol (i+1) (by omega) (by omega) hp0 h1 h2),(hNx.le YJ).le YJ,(hJn.le YJ).le YJ,((hMd.le YJ).le YJ).step (fun a b=>YJ _ _ (Q3d a b)) fun _ a b=>Q3d a b⟩
   refine Q4<|Q1 (by kernel_rfl)<|I1 rfl<|Iao rfl rfl<|I2 rfl<|Q0 ?_;exact Z6 (T.length - (i+1)) (by omega) [(5,_)] (by repeat(first|exact trivial|refine⟨rfl,?_⟩)) ⟨i+1,_,b2,rfl,rfl,by omega,S.drop,hVs,hNx.le YJ,hJn.le YJ,(hMd.le YJ).step (fun a b=>Q3d a b) fun h0=>absurd h0 (of_decide_eq_false hb)⟩
 refine Ql<|Q9<|Qc<|Qm ?_;refine⟨.inr rfl,_,rfl,?_⟩;exact⟨b,F,S,hV,⟨fun i k a b=>hNx i k (by omega) a b,hJn,fun id a c=>(hMd id a (by simp at hb;omega)).1,fun id a c=>(hMd id a (by simp at hb;omega)).2⟩⟩
end
end Go.Proofs.Yteinandjhpnceaa
namespace Go.Proofs.Yteinandjhpnceaa
open Go.X Go.May Go.Mac Go.Model
def TrF (k:Nat) (F:FB):Prop:= ∀j a b,j <k->F a j=true->F j b=true->F a b=true
def RdF (W:FB) (k a b:Nat) (F:FB):Prop:= ∀x y,F x y=true↔W x y=true\/(W x k=true/\W k y=true/\(x <a\/(x=a/\y <b)))
section
variable {T:List MTask} {M:List MMark} {W F:FB} {k a b:Nat}
theorem RdF.col (h:RdF W k a b F) {x:Nat}:F x k=true↔W x k=true:=by rw[h];exact⟨fun e=>e.elim id fun e=>e.1,.inl⟩
theorem RdF.row (h:RdF W k a b F) {y:Nat}:F k y=true↔W k y=true:=by rw[h];exact⟨fun e=>e.elim id fun e=>e.2.1,.inl⟩
theorem RdF.skip (h:RdF W k a 0 F) (hk:W a k=false):RdF W k (a+1) 0 F:=fun x y=>by
 rw[h];refine⟨fun e=>e.imp id fun⟨e1,e2,e3⟩=>⟨e1,e2,by omega⟩,fun e=>e.imp id fun⟨e1,e2,e3⟩=>⟨e1,e2,?_⟩⟩;have:x≠a:=fun q=>by rw[q,hk]at e1;cases e1
 omega
theorem RdF.no (h:RdF W k a b F) (hk:W k b=false):RdF W k a (b+1) F:=fun x y=>by
 rw[h];refine⟨fun e=>e.imp id fun⟨e1,e2,e3⟩=>⟨e1,e2,by omega⟩,fun e=>e.imp id fun⟨e1,e2,e3⟩=>⟨e1,e2,?_⟩⟩;have:y≠b:=fun q=>by rw[q,hk]at e2;cases e2
 omega
theorem RdF.set (h:RdF W k a b F) (ha:W a k=true) (hk:W k b=true):RdF W k a (b+1) (orF F a b):=fun x y=>by
 unfold orF;rw[Bool.or_eq_true,h];simp only[Bool.and_eq_true,decide_eq_true_eq];constructor
 · rintro((e| ⟨e1,e2,e3⟩)| ⟨e1,e2⟩)
   · exact .inl e
   · exact .inr ⟨e1,e2,by omega⟩
   have e1:x=a:=by omega
   have e2:y=b:=by omega
   subst e1;subst e2;exact .inr ⟨ha,hk,by omega⟩
 rintro(e| ⟨e1,e2,e3⟩)
 · exact .inl (.inl e)
 by_cases q:x=a/\y=b
 · exact .inr ⟨by omega,by omega⟩
 exact .inl (.inr ⟨e1,e2,by omega⟩)
theorem RdF.next (ok:RunOk T M) (hs:Q6l T M W) (h:RdF W k a M.length F):RdF W k (a+1) 0 F:=fun x y=>by
 rw[h];refine⟨fun e=>e.imp id fun⟨e1,e2,e3⟩=>⟨e1,e2,by omega⟩,fun e=>e.imp id fun⟨e1,e2,e3⟩=>⟨e1,e2,?_⟩⟩;have:=(Q1k ok (hs k y e2)).2;omega
theorem RdF.snd (hs:Q6l T M W) (h:RdF W k a b F):Q6l T M F:=fun x y e=>by
 rcases (h x y).1 e with e| ⟨e1,e2,_⟩
 · exact hs x y e
 exact hb_clo.trans x k y (hs x k e1) (hs k y e2)
theorem RdF.done (ok:RunOk T M) (hs:Q6l T M W) (ht:TrF k W) (h:RdF W k M.length 0 F):TrF (k+1) F:=fun j p q hj h1 h2=>by
 have hx: ∀x y,F x y=true↔W x y=true\/(W x k=true/\W k y=true):=fun x y=>by
  rw[h];refine⟨fun e=>e.imp id fun e=>⟨e.1,e.2.1⟩,fun e=>e.imp id fun⟨e1,e2⟩=>⟨e1,e2,.inl ?_⟩⟩;have:=Q1k ok (hs x k e1);omega
 rw[hx]at h1 h2 ⊢;rcases Nat.lt_or_ge j k with e|e
 · rcases h1 with a1| ⟨a1,a2⟩<;>rcases h2 with b1| ⟨b1,b2⟩
   · exact .inl (ht j p q e a1 b1)
   · exact .inr ⟨ht j p k e a1 b1,b2⟩
   · exact .inr ⟨a1,ht j k q e a2 b1⟩
   exact .inr ⟨a1,b2⟩
 have e:j=k:=by omega
 subst e;have c1:W p j=true:=h1.elim id fun e=>e.1;have c2:W j q=true:=h2.elim id fun e=>e.2;exact .inr ⟨c1,c2⟩
theorem RdF.start:RdF F k 0 0 F:=fun x y=>⟨.inl,fun e=>e.elim id fun⟨_,_,e⟩=>by omega⟩
end
section
variable {h0 h:Hp} {ds bs:List Nat} {k tb tc:Nat} {ma:Option Addr} {mc:Nat} {T:List MTask} {M:List MMark} {F:FB}
theorem Qat (p:Held (Jh k tb tc ma mc T M F bs) h) {x y:Nat} (hx:x <M.length) (hy:y <M.length): ∃(w:OW) (ab ac:Nat) (cs:List Value) (m rb:Nat),h.get k=some (.cells [tsV tb tc T,msV ma mc M,w.ov,w.bv,w.ev] 118 0)/\w.ov=.slice (some ⟨ab,0,none⟩) M.length ac/\h.get ab=some (.cells cs 78 m)/\cs[0+Int.toNat (x:Int)*1]?=some (slB M.length rb)/\h.get rb=some (.cells (KH F M.length x) 4 0)/\(KH F M.length x)[0+Int.toNat (y:Int)*1]?=some (.bool (F x y)):=by
 obtain⟨w,hw,hp,hl⟩:=Q3W p;obtain⟨ab,ac,cs,cm,rb,hov,hag,hax,hcx,hrg⟩:=QaM (a:=x) (fun r hr=>hp r (by unfold Q0J;exact List.mem_cons_of_mem _ (List.mem_cons_of_mem _ (List.mem_cons_of_mem _ hr)))) hw hx;refine⟨w,ab,ac,cs,cm,rb,hp (cR k _) (by simp[Q0J]),hov,hag,hax,hrg,?_⟩;rw[Nat.zero_add,Nat.mul_one,Int.toNat_natCast];exact Q3J hy
set_option maxHeartbeats 8000000 in
theorem t63 (S0:SH h0 [] [Jh k tb tc ma mc T M F bs] h) (ok:RunOk T M) (hn:M.length<=1200) (hF:Q6l T M F):C modE 63 [Qw k] h fun _ g'=> ∃bs' F',SH h bs [Jh k tb tc ma mc T M F' bs'] g'/\Q6l T M F'/\LeF F F'/\TrF M.length F':=by
 have SE:=S0.enter;have SE:SH h bs [Jh k tb tc ma mc T M F bs] h:=SE;obtain⟨F0,hF0⟩: ∃F0,F0=F:=⟨_,rfl⟩;refine Q8 (fu:=Try.f63) (by kernel_rfl) rfl ?_;have S:=SE;refine Q3 ?_;obtain⟨w,hw,hok,hbv,hev,hov⟩:=Q9B (S.held 0 rfl);obtain⟨va,vc,hva⟩:=Qa hov;refine Q1 (by kernel_rfl)<|I1 rfl<|I6 rfl<|I0 2 rfl<|I4 rfl hok rfl ?_;rw[hva];refine I7 rfl<|I2 rfl<|QL<|I2 rfl<|Q0<|Q5 ?_
 refine Qh [(3,_)] [(0,_),(2,_)] (by repeat(first|exact trivial|refine⟨rfl,?_⟩)) (fun kk lv hh=> ∃(q:Nat) (W:FB) (b:List Nat),lv=[(3,iV q)]/\kk=M.length -q/\q<=M.length/\SH h bs [Jh k tb tc ma mc T M W b] hh/\Q6l T M W/\LeF F W/\TrF q W) (n:=M.length) ?_ fun kk lv hh hI=>?_
 · exact⟨0,F,bs,rfl,rfl,by omega,S,hF,fun _ _ h=>h,fun j a b hj=>by omega⟩
 obtain⟨q,W,b,rfl,hk,hq,S,hV,hL,hT⟩:=hI;refine Q3<|Q6<|I1 rfl<|I1 rfl<|Il rfl rfl<|Q0<|Q2 rfl (fun hb=>?_) fun hb=>?_
 · skip
   refine Q4 ?_;have hq:q <M.length:=by simpa using hb
   refine Q3<|Q5<|Q6<|I2 rfl<|Q0<|Q5<|Qh [(4,_)] [(0,_),(2,_),(3,_)] (by repeat(first|exact trivial|refine⟨rfl,?_⟩)) (fun kk lv hh=> ∃(a:Nat) (F1:FB) (b:List Nat),lv=[(4,iV a)]/\kk=M.length -a/\a<=M.length/\SH h bs [Jh k tb tc ma mc T M F1 b] hh/\RdF W q a 0 F1) (n:=M.length) ?_ fun kk lv hh hI=>?_
   · exact⟨0,W,b,rfl,rfl,by omega,S,RdF.start⟩
   obtain⟨a,F1,b,rfl,hk2,ha,S,hR⟩:=hI;refine Q3<|Q6<|I1 rfl<|I1 rfl<|Il rfl rfl<|Q0<|Q2 rfl (fun hb=>?_) fun hb=>?_
   · skip
     refine Q4 ?_;have ha:a <M.length:=by simpa using hb
     obtain⟨w,ab,ac,cs,cm,rb,hok,hov,hag,hax,hrg,hry⟩:=Qat (S.held 0 rfl) ha hq;refine Q3<|Q5<|Q3<|Q6<|I1 rfl<|I6 rfl<|I0 2 rfl<|I4 rfl hok rfl<|I1 rfl ?_;rw[hov];refine I5o 1 rfl rfl ?_;rw[<-hov];refine I4 rfl hag hax<|I1 rfl<|I5o 1 rfl rfl<|I4 rfl hrg hry<|Ib rfl<|Q0<|Q2 rfl (fun hb=>?_) fun hb=>?_
     · skip
       refine Ql<|Q9<|Qm<|Q1 (by kernel_rfl)<|I1 rfl<|Iao rfl rfl<|I2 rfl<|Q0 ?_
       exact Z6 (M.length - (a+1)) (by omega) [(4,_)] (by repeat(first|exact trivial|refine⟨rfl,?_⟩)) ⟨a+1,F1,b,rfl,rfl,by omega,S,hR.skip (by
        have hb:(!F1 a q)=true:=hb;cases e:W a q with
        |false=>rfl
        |true=>rw[hR.col.2 e]at hb;exact absurd hb (by decide))⟩
     refine Q4<|Q3 ?_;have haq:W a q=true:=hR.col.1 (by simpa using hb);refine Q1 (by kernel_rfl)<|I2 rfl<|Q0<|Q5<|Qh [(5,_)] [(0,_),(2,_),(3,_),(4,_)] (by repeat(first|exact trivial|refine⟨rfl,?_⟩)) (fun kk lv hh=> ∃(y:Nat) (F1:FB) (b:List Nat),lv=[(5,iV y)]/\kk=M.length -y/\y<=M.length/\SH h bs [Jh k tb tc ma mc T M F1 b] hh/\RdF W q a y F1) (n:=M.length) ?_ fun kk lv hh hI=>?_
     · exact⟨0,F1,b,rfl,rfl,by omega,S,hR⟩
     obtain⟨y,F1,b,rfl,hk3,hy,S,hR⟩:=hI;refine Q3<|Q6<|I1 rfl<|I1 rfl<|Il rfl rfl<|Q0<|Q2 rfl (fun hb=>?_) fun hb=>?_
     · skip
       refine Q4 ?_;have hy:y <M.length:=by simpa using hb
       obtain⟨w,ab,ac,cs,cm,rb,hok,hov,hag,hax,hrg,hry⟩:=Qat (S.held 0 rfl) hq hy;refine Q3<|Q5<|Q6<|I1 rfl<|I6 rfl<|I0 2 rfl<|I4 rfl hok rfl<|I1 rfl ?_;rw[hov];refine I5o 1 rfl rfl ?_;rw[<-hov];refine I4 rfl hag hax<|I1 rfl<|I5o 1 rfl rfl<|I4 rfl hrg hry<|Q0<|Q2 rfl (fun hb=>?_) fun hb=>?_
       · skip
         have hqy:W q y=true:=hR.row.1 hb;obtain⟨w,hw,hown,S⟩:=Q6Q S;obtain⟨ab,ac,cs,cm,rb,hov,hag,hax,hcx,hrg⟩:=Qax S hw ha;refine Q1 (by kernel_rfl)<|I1 rfl<|I6 rfl<|I0 2 rfl<|I4 rfl (S.cel 0 rfl) rfl<|I1 rfl ?_;rw[hov];refine I5o 1 rfl rfl ?_;rw[<-hov];refine I4 rfl hag hax<|I1 rfl<|I5o 1 rfl rfl ?_;refine Qi (a+4) S gn rfl rfl rfl (by kernel_rfl) (Qfj hcx) (by decide) (by rw[Q3I];omega) (fun g S=>ag0) fun g S=>?_;obtain⟨b2,S⟩:=Q23 (Qas hcx hy S) hw;refine Q0<|Q1 (by kernel_rfl)<|I1 rfl<|Iao rfl rfl<|I2 rfl<|Q0 ?_
         exact Z6 (M.length - (y+1)) (by omega) [(5,_)] (by repeat(first|exact trivial|refine⟨rfl,?_⟩)) ⟨y+1,_,b2,rfl,rfl,by omega,S,hR.set haq hqy⟩
       refine Q4<|Q1 (by kernel_rfl)<|I1 rfl<|Iao rfl rfl<|I2 rfl<|Q0 ?_
       exact Z6 (M.length - (y+1)) (by omega) [(5,_)] (by repeat(first|exact trivial|refine⟨rfl,?_⟩)) ⟨y+1,F1,b,rfl,rfl,by omega,S,hR.no (by
        cases e:W q y with
        |false=>rfl
        |true=>exact absurd (hR.row.2 e) (by rw[show F1 q y=false from hb];decide))⟩
     refine Ql<|Q9<|Qc<|Qm ?_;obtain rfl:y=M.length:=by simp at hb;omega
     refine Q1 (by kernel_rfl)<|I1 rfl<|Iao rfl rfl<|I2 rfl<|Q0 ?_;exact Z6 (M.length - (a+1)) (by omega) [(4,_)] (by repeat(first|exact trivial|refine⟨rfl,?_⟩)) ⟨a+1,F1,b,rfl,rfl,by omega,S,hR.next ok hV⟩
   refine Ql<|Q9<|Qc<|Qm ?_;obtain rfl:a=M.length:=by simp at hb;omega
   refine Q1 (by kernel_rfl)<|I1 rfl<|Iao rfl rfl<|I2 rfl<|Q0 ?_;exact Z6 (M.length - (q+1)) (by omega) [(3,_)] (by repeat(first|exact trivial|refine⟨rfl,?_⟩)) ⟨q+1,F1,b,rfl,rfl,by omega,S,hR.snd hV,fun x y e=>(hR x y).2 (.inl (hL x y e)),hR.done ok hV hT⟩
 refine Ql<|Q9<|Qc<|Qm ?_;refine⟨.inr rfl,_,rfl,?_⟩
 exact⟨b,W,S,hV,hL,by
  have:q=M.length:=by simp at hb;omega
  rw[<-this];exact hT⟩
end
end Go.Proofs.Yteinandjhpnceaa
namespace Go.Proofs.Yteinandjhpnceaa
open Go.X Go.May Go.Mac Go.Model
abbrev RF (F:FB) (x y:Nat):Prop:=F x y=true
def Qef (T:List MTask) (a b a' b':Int):Prop:=(1<=a'/\a'<=T.length)/\(1<=b'/\b'<=T.length)/\(a' <a\/(a'=a/\b' <b))
def Qed (T:List MTask) (M:List MMark) (F:FB) (a b:Int):Prop:=Q6h T M a b->FifoP T (RF F) a b\/rel (RF F) (bIx M a) (bIx M b)->F (eIx M a).toNat (bIx M b).toNat=true
structure SwF (T:List MTask) (M:List MMark) (F0 F:FB) (ch:Bool) (a b:Int):Prop where
 w:Q6l T M F
 le:LeF F0 F
 t:ch=true-> ∃x y,x <M.length/\y <M.length/\F x y=true/\F0 x y=false
 f:ch=false->F=F0/\ ∀a' b',Qef T a b a' b'->Qed T M F0 a' b'
def Q8J (T:List MTask) (M:List MMark) (F:FB) (a b:Int):Bool:=((((decide (a=b)||decide ((tkT T a).looper <0))|| !decide ((tkT T a).looper=(tkT T b).looper))||decide (Qn M a 2 <0))||decide (Qn M b 1 <0))||F (Qn M a 2).toNat (Qn M b 1).toNat
def Q53 (T:List MTask) (M:List MMark) (F:FB) (a b:Int):Bool:=((((decide ((tkT T a).kind=4)&&decide ((tkT T b).kind=4))&&decide (Qn M a 2 <Qn M b 1))&&Kk F (tkT T a).mark (tkT T b).mark)&& !(tkT T b).front)&&((tkT T a).front||decide ((tkT T a).delay<=(tkT T b).delay))
section
variable {T:List MTask} {M:List MMark} {F0 F:FB} {ch:Bool} {a b:Int}
theorem Q5T {x y:Int} (h:Kk F x y=true):rel (RF F) x y:=by
 unfold Kk at h;simp only[Bool.and_eq_true,decide_eq_true_eq]at h;exact⟨h.1.1,h.1.2,h.2⟩
theorem Q5e {x y:Int} (h:rel (RF F) x y):Kk F x y=true:=by
 unfold Kk;rw[decide_eq_true h.1,decide_eq_true h.2.1,h.2.2];rfl
theorem SwF.step (s:SwF T M F0 F ch a b) (h:Qed T M F a b):SwF T M F0 F ch a (b+1):=by
 refine⟨s.w,s.le,s.t,fun hc=>⟨(s.f hc).1,fun a' b' hd=>?_⟩⟩;obtain⟨h1,h2,h3⟩:=hd;by_cases e:a'=a/\b'=b
 · obtain⟨rfl,rfl⟩:=e;rw[(s.f hc).1]at h;exact h
 exact(s.f hc).2 a' b' ⟨h1,h2,by omega⟩
theorem Qa9 (h:Q8J T M F a b=true):Qed T M F a b:=fun hA _=>by
 obtain⟨h1,h2,h3,h4,h5⟩:=hA;have h4:0<=Qn M a 2:=h4;have h5:Qn M a 2 <Qn M b 1:=h5;unfold Q8J at h;rw[decide_eq_false h1,decide_eq_false (by omega),decide_eq_true h3,decide_eq_false (by omega),decide_eq_false (by omega)]at h;exact h
theorem Qf0 (h:(Q53 T M F a b||Kk F (Qn M a 1) (Qn M b 1))=false):Qed T M F a b:=fun hA hr=>by
 obtain⟨h1,h2,h3,h4,h5⟩:=hA;have h5:Qn M a 2 <Qn M b 1:=h5;rw[Bool.or_eq_false_iff]at h;rcases hr with⟨f1,f2,f3,f4,f5⟩|hr
 · refine absurd h.1 ?_;unfold Q53;rw[decide_eq_true f1,decide_eq_true f2,decide_eq_true h5,Q5e f5,f3];rcases f4 with f4|f4
   · rw[f4];simp
   rw[decide_eq_true f4];simp
 exact absurd h.2 (by rw[Q5e hr];decide)
theorem SwF.add (s:SwF T M F0 F ch a b) (ok:RunOk T M) (a1:1<=a) (a2:a<=T.length) (b1:1<=b) (b2:b<=T.length) (hs:Q8J T M F a b=false) (h:(Q53 T M F a b||Kk F (Qn M a 1) (Qn M b 1))=true):SwF T M F0 (orF F (Qn M a 2) (Qn M b 1)) true a (b+1):=by
 unfold Q8J at hs;simp only[Bool.or_eq_false_iff,decide_eq_false_iff_not,Bool.not_eq_false',decide_eq_true_eq]at hs;obtain⟨⟨⟨⟨⟨h1,h2⟩,h3⟩,h4⟩,h5⟩,h6⟩:=hs
 have hh:Qn M a 2 <Qn M b 1/\HB T M (Qn M a 2).toNat (Qn M b 1).toNat:=by
  rcases orT h with h|h
  · unfold Q53 at h;simp only[Bool.and_eq_true,decide_eq_true_eq,Bool.not_eq_true',Bool.or_eq_true]at h;obtain⟨⟨⟨⟨⟨k1,k2⟩,k3⟩,k4⟩,k5⟩,k6⟩:=h;have hr:=Q5T k4;exact⟨k3,hb_clo.seven a b a1 a2 b1 b2 ⟨h1,by omega,h3,by show 0<=Qn M a 2;omega,k3⟩ ⟨k1,k2,k5,k6,hr.1,hr.2.1,s.w _ _ hr.2.2⟩⟩
  have hr:=Q5T h;have hb:HB T M (Qn M a 1).toNat (Qn M b 1).toNat:=s.w _ _ hr.2.2;have hu:=Q1k ok hb;have r1:=hr.1;have r2:=hr.2.1;have hal:=Q8F ok (a:=a) (b:=b) (by omega) h3 r1 (by show Qn M a 1 <Qn M b 1;omega);exact⟨hal.2,hb_clo.eight a b a1 a2 b1 b2 ⟨h1,by omega,h3,hal.1,hal.2⟩ ⟨hr.1,hr.2.1,hb⟩⟩
 have hu:=Q1k ok hh.2;refine⟨Q24 s.w fun _ _=>hh.2,fun x y e=>YJ _ _ (s.le x y e),fun _=>⟨(Qn M a 2).toNat,(Qn M b 1).toNat,by omega,hu.2,Q3d (by omega) (by omega),?_⟩,fun h=>by cases h⟩;cases e:F0 (Qn M a 2).toNat (Qn M b 1).toNat with
 |false=>rfl
 |true=>rw[s.le _ _ e]at h6;cases h6
theorem SwF.mv {a2 b2:Int} (s:SwF T M F0 F ch a b) (h: ∀a' b',Qef T a2 b2 a' b'->Qef T a b a' b'):SwF T M F0 F ch a2 b2:=⟨s.w,s.le,s.t,fun hc=>⟨(s.f hc).1,fun a' b' hd=>(s.f hc).2 a' b' (h a' b' hd)⟩⟩
end
section
variable {h0 h:Hp} {ds bs:List Nat} {k tb tc:Nat} {ma:Option Addr} {mc:Nat} {T:List MTask} {M:List MMark} {F:FB}
theorem Qdg (p:Held (Jh k tb tc ma mc T M F bs) h): ∃w:OW,h.get k=some (.cells [tsV tb tc T,msV ma mc M,w.ov,w.bv,w.ev] 118 0)/\SlC 3 0 h w.bv (ixL M T.length 1) (T.length+1) w.bb/\SlC 3 0 h w.ev (ixL M T.length 2) (T.length+1) w.be/\
 ∀x y:Int,0<=x->x <M.length->0<=y->y <M.length-> ∃(ab ac:Nat) (cs:List Value) (m rb:Nat),w.ov=.slice (some ⟨ab,0,none⟩) M.length ac/\h.get ab=some (.cells cs 78 m)/\cs[0+Int.toNat x*1]?=some (slB M.length rb)/\h.get rb=some (.cells (KH F M.length x.toNat) 4 0)/\(KH F M.length x.toNat)[0+Int.toNat y*1]?=some (.bool (F x.toNat y.toNat)):=by
 obtain⟨w,hw,hp,hl⟩:=Q3W p;refine⟨w,hp (cR k _) (by simp[Q0J]),hp (slR 3 0 w.bv (ixL M T.length 1) (T.length+1) w.bb) (by simp[Q0J]),hp (slR 3 0 w.ev (ixL M T.length 2) (T.length+1) w.be) (by simp[Q0J]),fun x y x0 hx y0 hy=>?_⟩;obtain⟨x',rfl⟩:=Int.eq_ofNat_of_zero_le x0;obtain⟨y',rfl⟩:=Int.eq_ofNat_of_zero_le y0;obtain⟨ab,ac,cs,cm,rb,hov,hag,hax,hcx,hrg⟩:=QaM (a:=x') (fun r hr=>hp r (by unfold Q0J;exact List.mem_cons_of_mem _ (List.mem_cons_of_mem _ (List.mem_cons_of_mem _ hr)))) hw (by omega);refine⟨ab,ac,cs,cm,rb,hov,hag,hax,hrg,?_⟩;rw[Nat.zero_add,Nat.mul_one,Int.toNat_natCast,Int.toNat_natCast];exact Q3J (by omega)
set_option maxHeartbeats 8000000 in
theorem t64 (S0:SH h0 [] [Jh k tb tc ma mc T M F bs] h) (R:RnAt h0 tb tc ma mc T M) (ok:RunOk T M) (hn:M.length<=1200) (hF:Q6l T M F):C modE 64 [Qw k] h fun v g'=> ∃bs' F' ch,v=.bool ch/\SH h bs [Jh k tb tc ma mc T M F' bs'] g'/\SwF T M F F' ch (T.length+1) 1:=by
 have SE:=S0.enter;have SE:SH h bs [Jh k tb tc ma mc T M F bs] h:=SE;have hown: ∀i,i∈bs->h0.n<=i:=S0.own0;have hT:=ok.t;have oget: ∀ {g:Hp} {A:List Res} {b:Nat} {o:AObj},SH h bs A g->h0.get b=some o->b <h0.n->g.get b=some o:=fun S e l=>((S0.all0 hown S).get _ l).trans e;refine Q8 (fu:=Try.f64) (by kernel_rfl) rfl ?_;have S:=SE;refine Q6<|I2 rfl<|QL<|I2 rfl<|Z7<|I2 rfl<|Q0<|Q5 ?_
 refine Qh [(3,_),(4,_)] [(0,_)] (by repeat(first|exact trivial|refine⟨rfl,?_⟩)) (fun kk lv hh=> ∃(a:Nat) (ch:Bool) (F1:FB) (u:List Nat),lv=[(3,.bool ch),(4,iV a)]/\kk=T.length+1 -a/\1<=a/\a<=T.length+1/\SH h bs [Jh k tb tc ma mc T M F1 u] hh/\SwF T M F F1 ch a 1) (n:=T.length) ?_ fun kk lv hh hI=>?_
 · exact⟨1,false,F,bs,rfl,by omega,by omega,by omega,S,⟨hF,fun _ _ h=>h,fun h=>(by cases h),fun _=>⟨rfl,fun a' b' hd=>absurd hd (by unfold Qef;omega)⟩⟩⟩
 obtain⟨a,ch,F1,u,rfl,hk,ha,ha2,S,hs⟩:=hI;refine Q3<|Q3 ?_;obtain⟨w,hw,hok,hbv,hev,hov⟩:=Q9B (S.held 0 rfl);refine Q1 (by kernel_rfl)<|I1 rfl<|I1 rfl<|I6 rfl<|I0 0 rfl<|I0 0 rfl<|I4 rfl hok rfl<|I7 rfl<|Im rfl rfl<|Q0<|Q2 rfl (fun hb=>?_) fun hb=>?_
 · skip
   refine Q4 ?_;have ha2:a<=T.length:=by simp at hb;omega
   refine Q3<|Q5<|Q6<|I2 rfl<|Q0<|Q5<|Qh [(3,_),(5,_)] [(0,_),(4,_)] (by repeat(first|exact trivial|refine⟨rfl,?_⟩)) (fun kk lv hh=> ∃(b:Nat) (ch:Bool) (F1:FB) (u:List Nat),lv=[(3,.bool ch),(5,iV b)]/\kk=T.length+1 -b/\1<=b/\b<=T.length+1/\SH h bs [Jh k tb tc ma mc T M F1 u] hh/\SwF T M F F1 ch a b) (n:=T.length) ?_ fun kk lv hh hI=>?_
   · exact⟨1,ch,F1,u,rfl,by omega,by omega,by omega,S,hs⟩
   obtain⟨b,ch,F1,u,rfl,hk,hb1,hb2,S,hs⟩:=hI;refine Q3<|Q3 ?_;obtain⟨w,hw,hok,hbv,hev,hov⟩:=Q9B (S.held 0 rfl);refine Q1 (by kernel_rfl)<|I1 rfl<|I1 rfl<|I6 rfl<|I0 0 rfl<|I0 0 rfl<|I4 rfl hok rfl<|I7 rfl<|Im rfl rfl<|Q0<|Q2 rfl (fun hb=>?_) fun hb=>?_
   · skip
     refine Q4 ?_;have hb2:b<=T.length:=by simp at hb;omega
     obtain⟨tcs,tm,ttg,ttl,ttr,ttf⟩:=R.tk (id:=(a:Int)) (by omega) (by omega);obtain⟨ucs,um,utg,utl,utr,utf⟩:=R.tk (id:=(b:Int)) (by omega) (by omega);refine Q3<|Q5<|Q3 ?_;obtain⟨w,hw,hok,hbv,hev,hov⟩:=Q9B (S.held 0 rfl);refine Yq [(0,[]),(1,[]),(2,[]),(3,[]),(4,[]),(5,[]),(6,[]),(7,[]),(8,[]),(9,[]),(10,[]),(11,[]),(12,[]),(13,[]),(14,[]),(15,[]),(16,[]),(17,[]),(18,[]),(19,[]),(20,[13,15,17]),(21,[])] (by kernel_rfl) (by kernel_rfl) (by kernel_rfl) (by kernel_rfl)<|I1 rfl<|I6 rfl<|I0 0 rfl<|I0 0 rfl<|I4 rfl hok rfl<|I1 rfl ?_
     refine Iso rfl rfl<|I5o 15 rfl rfl<|I3 15 rfl (oget S ttg R.tl) ttl ?_;rw[ttr];refine I1 rfl<|I6 rfl<|I0 0 rfl<|I0 0 rfl<|I4 rfl hok rfl<|I1 rfl<|Iso rfl rfl<|I5o 15 rfl rfl<|I3 15 rfl (oget S utg R.tl) utl ?_;rw[utr];refine Qo (zv:=.agg #[.int .i64 0,.int .i64 0,.int .i64 0,.int .i64 0,.int .i64 0,.int .i64 0,.int .i64 0,.bool false,.int .i64 0,.int .i64 0,.int .i64 0,.int .i64 0,.int .i64 0,.int .i64 0,.int .i64 0]) S gn rfl (by kernel_rfl) fun b1 g nb1 S=>?_
     refine Qo (zv:=.agg #[.int .i64 0,.int .i64 0,.int .i64 0,.int .i64 0,.int .i64 0,.int .i64 0,.int .i64 0,.bool false,.int .i64 0,.int .i64 0,.int .i64 0,.int .i64 0,.int .i64 0,.int .i64 0,.int .i64 0]) S gn rfl (by kernel_rfl) fun b2 g nb2 S=>?_;refine Qe (n:=15) 1 S gn rfl rfl (by kernel_rfl) (by kernel_rfl) rfl rfl (by decide) rfl (fun g S=>(ag1 (by obtain⟨w3,hw3,hok3,_⟩:=Q9B (S.held 2 rfl);exact Kb gn rfl (by kernel_rfl) hok3 rfl rfl ZM) (ag1 (Qcu gn rfl rfl (by omega) (by omega) rfl) (ag1 (KA (n:=15) gn rfl (by kernel_rfl) (by kernel_rfl) (oget S utg R.tl) utl (by rw[utr];rfl) (by rw[utr];exact Q6s _)) ag0)))) fun g S=>?_
     refine Qe (n:=15) 0 S gn rfl rfl (by kernel_rfl) (by kernel_rfl) rfl rfl (by decide) rfl (fun g S=>ag0) fun g S=>?_;refine Q0<|Q3<|Q3 ?_;obtain⟨w,hok,hbv,hev,hmt⟩:=Qdg (S.held 2 rfl);obtain⟨eb,ec,ecs,em,hve,heg,hea⟩:=Q4c hev (id:=(a:Int)) (by omega) (by omega);obtain⟨ub,uc,ucs,um,hvu,hug,hub⟩:=Q4c hbv (id:=(b:Int)) (by omega) (by omega);obtain⟨ub2,uc2,ucs2,um2,hvu2,hug2,hua⟩:=Q4c hbv (id:=(a:Int)) (by omega) (by omega);refine I9<|I1 rfl<|I1 rfl<|Ie rfl rfl<|I1 rfl ?_
     refine QT (n:=3) rfl rfl rfl gn rfl (fun hb=>by
      refine D0 4 hb rfl<|D4 hb rfl (S.cel 1 rfl) rfl<|Dl hb rfl rfl ?_
      exact Q0 ⟨rfl,rfl,3,rfl,rfl⟩) ?_
     refine I1 rfl ?_
     refine QT (n:=5) rfl rfl rfl gn rfl (fun hb=>by
      refine D0 4 hb rfl<|D4 hb rfl (S.cel 1 rfl) rfl<|D0 4 hb rfl<|D4 hb rfl (S.cel 0 rfl) rfl<|Dn hb rfl rfl ?_
      exact Q0 ⟨rfl,rfl,5,rfl,rfl⟩) ?_
     refine I1 rfl ?_
     refine QT (n:=8) rfl rfl rfl gn rfl (fun hb=>by
      refine D1 hb rfl<|D6 hb rfl<|D0 4 hb rfl<|D4 hb rfl hok rfl<|D1 hb rfl ?_;rw[hve];refine D5o 1 hb rfl rfl ?_;rw[<-hve];refine D4 hb rfl heg hea<|Dl hb rfl rfl ?_
      exact Q0 ⟨rfl,rfl,8,rfl,rfl⟩) ?_
     refine I1 rfl ?_
     refine QT (n:=8) rfl rfl rfl gn rfl (fun hb=>by
      refine D1 hb rfl<|D6 hb rfl<|D0 3 hb rfl<|D4 hb rfl hok rfl<|D1 hb rfl ?_;rw[hvu];refine D5o 1 hb rfl rfl ?_;rw[<-hvu];refine D4 hb rfl hug hub<|Dl hb rfl rfl ?_
      exact Q0 ⟨rfl,rfl,8,rfl,rfl⟩) ?_
     refine I1 rfl ?_
     refine QT (n:=22) (B:=F1 (Qn M a 2).toNat (Qn M b 1).toNat) rfl rfl rfl gn rfl (fun hb=>by
      have q0:0<=Qn M a 2/\0<=Qn M b 1:=by simp at hb;omega
      have hl1:=QB (L:=M) (id:=(a:Int)) (k:=2);have hl2:=QB (L:=M) (id:=(b:Int)) (k:=1);obtain⟨ab,ac,cs,cm,rb,hov2,hag,hax,hrg,hry⟩:=hmt (Qn M a 2) (Qn M b 1) q0.1 QB q0.2 QB;refine D1 hb rfl<|D6 hb rfl<|D0 2 hb rfl<|D4 hb rfl hok rfl<|D1 hb rfl<|D6 hb rfl<|D0 4 hb rfl<|D4 hb rfl hok rfl<|D1 hb rfl ?_;rw[hve];refine D5o 1 hb rfl rfl ?_;rw[<-hve];refine D4 hb rfl heg hea ?_;rw[hov2];refine D5o 1 hb rfl rfl ?_;rw[<-hov2];refine D4 hb rfl hag hax<|D1 hb rfl<|D6 hb rfl<|D0 3 hb rfl<|D4 hb rfl hok rfl<|D1 hb rfl ?_
      rw[hvu];refine D5o 1 hb rfl rfl ?_;rw[<-hvu];refine D4 hb rfl hug hub<|D5o 1 hb rfl rfl<|D4 hb rfl hrg hry ?_
      exact Q0 ⟨rfl,rfl,22,rfl,rfl⟩) ?_
     refine Q0<|Q2 rfl (fun hb=>?_) fun hb=>?_
     · skip
       refine Ql<|Q9<|Qm<|Q1 (by kernel_rfl)<|I1 rfl<|Iao rfl rfl<|I2 rfl<|Q0 ?_;exact Z6 (T.length+1 - (b+1)) (by omega) [(3,_),(5,_)] (by repeat(first|exact trivial|refine⟨rfl,?_⟩)) ⟨b+1,ch,F1,u,rfl,rfl,by omega,by omega,S.drop.drop,hs.step (Qa9 hb)⟩
     refine Q4<|Q3 ?_;have hsk:Q8J T M F1 a b=false:=hb;refine I9<|I0 0 rfl<|I4 rfl (S.cel 1 rfl) rfl<|Ie rfl rfl<|I1 rfl ?_
     refine Qp (n:=3) rfl rfl rfl gn rfl (fun hb=>by
      refine D0 0 hb rfl<|D4 hb rfl (S.cel 0 rfl) rfl<|De hb rfl rfl ?_
      exact Q0 ⟨rfl,rfl,3,rfl,rfl⟩) ?_
     refine I1 rfl ?_
     refine Qp (n:=15) rfl rfl rfl gn rfl (fun hb=>by
      refine D1 hb rfl<|D6 hb rfl<|D0 4 hb rfl<|D4 hb rfl hok rfl<|D1 hb rfl ?_;rw[hve];refine D5o 1 hb rfl rfl ?_;rw[<-hve];refine D4 hb rfl heg hea<|D1 hb rfl<|D6 hb rfl<|D0 3 hb rfl<|D4 hb rfl hok rfl<|D1 hb rfl ?_;rw[hvu];refine D5o 1 hb rfl rfl ?_;rw[<-hvu];refine D4 hb rfl hug hub<|Dl hb rfl rfl ?_
      exact Q0 ⟨rfl,rfl,15,rfl,rfl⟩) ?_
     refine I1 rfl ?_
     refine Qp (n:=6) rfl rfl rfl gn rfl (fun hb=>by
      refine D1 hb rfl<|D0 13 hb rfl<|D4 hb rfl (S.cel 1 rfl) rfl<|D0 13 hb rfl<|D4 hb rfl (S.cel 0 rfl) rfl<|Dc hb [_,_,_] rfl rfl (Qr (t82 (S.held 2 rfl) (Q2d ok (by omega) (by omega)) (Q2d ok (by omega) (by omega))) ⟨ag0,?_⟩)
      exact Q0 ⟨rfl,rfl,6,rfl,rfl⟩) ?_
     refine I1 rfl ?_
     refine Qp (n:=3) rfl rfl rfl gn rfl (fun hb=>by
      refine D0 7 hb rfl<|D4 hb rfl (S.cel 0 rfl) rfl<|Db hb rfl ?_
      exact Q0 ⟨rfl,rfl,3,rfl,rfl⟩) ?_
     refine I1 rfl ?_
     refine Qp (n:=9) rfl rfl rfl gn rfl (fun hb=>by
      refine D0 7 hb rfl<|D4 hb rfl (S.cel 1 rfl) rfl<|D1 hb rfl ?_
      refine QT (n:=5) rfl rfl rfl (gy rfl rfl rfl hb) rfl (fun hb=>by
       refine D0 8 hb rfl<|D4 hb rfl (S.cel 1 rfl) rfl<|D0 8 hb rfl<|D4 hb rfl (S.cel 0 rfl) rfl<|Dm hb rfl rfl ?_
       exact Q0 ⟨rfl,rfl,5,rfl,rfl⟩) ?_
      exact Q0 ⟨rfl,rfl,4,rfl,rfl⟩) ?_
     refine I2 rfl<|Q0<|Q3<|I9<|I1 rfl<|I1 rfl ?_
     refine QT (n:=16) rfl rfl rfl gn rfl (fun hb=>by
      refine D1 hb rfl<|D1 hb rfl<|D6 hb rfl<|D0 3 hb rfl<|D4 hb rfl hok rfl<|D1 hb rfl ?_;rw[hvu2];refine D5o 1 hb rfl rfl ?_;rw[<-hvu2];refine D4 hb rfl hug2 hua<|D1 hb rfl<|D6 hb rfl<|D0 3 hb rfl<|D4 hb rfl hok rfl<|D1 hb rfl ?_;rw[hvu];refine D5o 1 hb rfl rfl ?_;rw[<-hvu];refine D4 hb rfl hug hub<|Dc hb [_,_,_] rfl rfl (Qr (t82 (S.held 2 rfl) QB QB) ⟨ag0,?_⟩)
      exact Q0 ⟨rfl,rfl,16,rfl,rfl⟩) ?_
     refine Q0<|Q2 rfl (fun hb=>?_) fun hb=>?_
     · skip
       refine Q3 ?_
       have q0:0<=Qn M a 2/\0<=Qn M b 1:=by
        unfold Q8J at hsk;simp at hsk;omega
       have hsb:(Q53 T M F1 a b||Kk F1 (Qn M a 1) (Qn M b 1))=true:=hb;have hs2:=hs.add ok (by omega) (by omega) (by omega) (by omega) hsk hsb;obtain⟨x,hx⟩:=Int.eq_ofNat_of_zero_le q0.1;obtain⟨y,hy⟩:=Int.eq_ofNat_of_zero_le q0.2;have hxl:=QB (L:=M) (id:=(a:Int)) (k:=2);have hyl:=QB (L:=M) (id:=(b:Int)) (k:=1);obtain⟨w,hw,hown2,S⟩:=Q6Q (SH.drop (SH.drop S));obtain⟨eb,ec,ecs,em,hve,heg,hea⟩:=Q4c (S.sl 2 rfl) (id:=(a:Int)) (by omega) (by omega);obtain⟨ub,uc,ucs,um,hvu,hug,hub⟩:=Q4c (S.sl 1 rfl) (id:=(b:Int)) (by omega) (by omega);rw[hx]at hea;rw[hy]at hub
       obtain⟨ab,ac,cs,cm,rb,hov,hag,hax,hcx,hrg⟩:=Qax S hw (x:=x) (by omega);refine I9<|I1 rfl<|I6 rfl<|I0 2 rfl<|I4 rfl (S.cel 0 rfl) rfl<|I1 rfl<|I6 rfl<|I0 4 rfl<|I4 rfl (S.cel 0 rfl) rfl<|I1 rfl ?_;rw[hve];refine I5o 1 rfl rfl ?_;rw[<-hve];refine I4 rfl heg hea ?_;rw[hov];refine I5o 1 rfl rfl ?_;rw[<-hov];refine I4 rfl hag hax<|I1 rfl<|I6 rfl<|I0 3 rfl<|I4 rfl (S.cel 0 rfl) rfl<|I1 rfl ?_;rw[hvu];refine I5o 1 rfl rfl ?_;rw[<-hvu];refine I4 rfl hug hub<|I5o 1 rfl rfl ?_
       refine Qi (x+4) S gn rfl rfl rfl (by kernel_rfl) (Qfj hcx) (by decide) (by rw[Q3I];omega) (fun g S=>ag0) fun g S=>?_;obtain⟨u2,S⟩:=Q23 (Qas hcx (y:=y) (by omega) S) hw;rw[<-hx,<-hy]at S;refine Q0<|Q1 (by kernel_rfl)<|I2 rfl<|Q0<|Q1 (by kernel_rfl)<|I1 rfl<|Iao rfl rfl<|I2 rfl<|Q0 ?_;exact Z6 (T.length+1 - (b+1)) (by omega) [(3,_),(5,_)] (by repeat(first|exact trivial|refine⟨rfl,?_⟩)) ⟨b+1,true,_,u2,rfl,rfl,by omega,by omega,S,hs2⟩
     refine Q4<|Q1 (by kernel_rfl)<|I1 rfl<|Iao rfl rfl<|I2 rfl<|Q0 ?_;exact Z6 (T.length+1 - (b+1)) (by omega) [(3,_),(5,_)] (by repeat(first|exact trivial|refine⟨rfl,?_⟩)) ⟨b+1,ch,F1,u,rfl,rfl,by omega,by omega,S.drop.drop,hs.step (Qf0 hb)⟩
   refine Ql<|Q9<|Qc<|Qm ?_;obtain rfl:b=T.length+1:=by simp at hb;omega
   refine Q1 (by kernel_rfl)<|I1 rfl<|Iao rfl rfl<|I2 rfl<|Q0 ?_;exact Z6 (T.length+1 - (a+1)) (by omega) [(3,_),(4,_)] (by repeat(first|exact trivial|refine⟨rfl,?_⟩)) ⟨a+1,ch,F1,u,rfl,rfl,by omega,by omega,S,hs.mv fun a' b' ⟨h1,h2,h3⟩=>⟨h1,h2,by omega⟩⟩
 refine Ql<|Q9<|Qc<|Qm<|Q6<|I1 rfl<|I2 rfl<|Q0<|Q7 ?_;refine⟨.inl rfl,_,rfl,?_⟩
 exact⟨u,F1,ch,rfl,S,by
  have:a=T.length+1:=by simp at hb;omega
  rw[this]at hs
  exact hs⟩
end
end Go.Proofs.Yteinandjhpnceaa
namespace Go.Proofs.Yteinandjhpnceaa
open Go.X Go.May Go.Mac Go.Model
theorem Q8V {n i:Nat}:Qd [.bool false] n=KH (fun _ _=>false) n i:=by
 rw[J6];unfold KH;rw[List.map_const',List.length_range]
theorem Qbk {T:List MTask} {M:List MMark} (ok:RunOk T M) {k:Int}:ixL M 0 k=[iV (-1)]:=by
 have:Qn M ((0:Nat):Int) k= -1:=by
  refine Q8n ?_;unfold Qn
  have:M.findIdx? (fun x=>decide (x.task=((0:Nat):Int))&&decide (x.kind=k))=none:=by
   rw[List.findIdx?_eq_none_iff];intro x hx;obtain⟨i,hi,rfl⟩:=List.mem_iff_getElem.1 hx;have:=(ok.lk i hi).t.1;have hne: ¬(M[i]).task=0:=by omega
   simp[hne]
  rw[this];show(-1:Int)<0;omega
 show[iV (Qn M ((0:Nat):Int) k)]=_;rw[this]
theorem Qbl {M:List MMark} {i:Nat} {k:Int}:ixL M (i+1) k=ixL M i k++[iV (Qn M ((i:Int)+1) k)]:=by
 unfold ixL;rw[List.range_succ,List.map_append];rfl
def JJ (n:Nat) (F:FB):Nat:=((Q5n n).filter fun p=> !F p.1 p.2).length
theorem Q9E {n:Nat} {V V2:FB} (h:LeF V V2) (hw: ∃a i,a <n/\i <n/\V2 a i=true/\V a i=false):JJ n V2 <JJ n V:=by
 obtain⟨a,i,h1,h2,h3,h4⟩:=hw;refine filter_lt (x:=(a,i)) (fun x _ hx=>?_) (Q3j h1 h2) (by rw[h4];rfl) (by rw[h3];rfl);cases e:V x.1 x.2 with
 |false=>rfl
 |true=>rw[h _ _ e]at hx;exact absurd hx (by decide)
theorem Q9F {n:Nat} {V V2:FB} (h:LeF V V2):JJ n V2<=JJ n V:=by
 refine Q0j (fun x _ hx=>?_);cases e:V x.1 x.2 with
 |false=>rfl
 |true=>rw[h _ _ e]at hx;exact absurd hx (by decide)
theorem Q4F {T:List MTask} {M:List MMark} {F F2:FB} (hB:BaseP T M (RF F)) (l:LeF F F2):BaseP T M (RF F2):=
 ⟨fun i k a b c d=>l _ _ (hB.next i k a b c d),fun i a b c=>l _ _ (hB.join i a b c),fun id a b c d=>l _ _ (hB.made id a b c d),fun id a b c d e=>l _ _ (hB.fol id a b c d e)⟩
theorem Q9q {T:List MTask} {M:List MMark} {F F1:FB} (ok:RunOk T M) (s:SwF T M F F1 false (T.length+1) 1) (hB:BaseP T M (RF F)) (hT:TrF M.length F): ∀x y,x <M.length->y <M.length->(F1 x y=true↔HB T M x y):=by
 obtain⟨rfl,hd⟩:=s.f rfl;intro x y _ _;refine⟨s.w x y,fun h=>?_⟩;exact h (RF F1) ⟨hB,fun p q w h1 h2=>hT q p w (by have:=Q1k ok (s.w q w h2);omega) h1 h2,fun p q p1 p2 q1 q2 hA hF=>hd p q ⟨⟨p1,p2⟩,⟨q1,q2⟩,by omega⟩ hA (.inl hF),fun p q p1 p2 q1 q2 hA hF=>hd p q ⟨⟨p1,p2⟩,⟨q1,q2⟩,by omega⟩ hA (.inr hF)⟩
section
variable {h:Hp} {tb tc:Nat} {ma:Option Addr} {mc:Nat} {T:List MTask} {M:List MMark} {k:Int}
set_option maxHeartbeats 8000000 in
theorem t32 (R:RnAt h tb tc ma mc T M) (ok:RunOk T M) (hn:M.length<=1200):C modE 32 [.agg #[tsV tb tc T,msV ma mc M]] h fun v h'=> ∃(kb:Nat) (F:FB) (bs:List Nat),v=Qw kb/\SH h [] [Jh kb tb tc ma mc T M F bs] h'/\ ∀a b,a <M.length->b <M.length->(F a b=true↔HB T M a b):=by
 have hT:=ok.t;refine Q8 (fu:=Try.f32) (by kernel_rfl) rfl ?_;have S:=SH.start h;refine Q6 ?_;refine QX S gn rfl rfl fun b1 g nb1 S=>?_;refine I2 rfl<|QL<|I3 2 rfl (S.cel 0 rfl) (Nat.le_refl _) ?_;refine Qf (cs:= #[iV (-1)]) (e:=3) (z:=0) (zv:=.int .i64 0) [(0,_)] S gn rfl (by kernel_rfl) (by kernel_rfl) (by kernel_rfl) (by kernel_rfl) rfl (by kernel_rfl) fun b2 g nb2 S=>?_;refine Qf (cs:= #[iV (-1)]) (e:=3) (z:=0) (zv:=.int .i64 0) [(0,_)] S gn rfl (by kernel_rfl) (by kernel_rfl) (by kernel_rfl) (by kernel_rfl) rfl (by kernel_rfl) fun b3 g nb3 S=>?_
 refine Qz (zv:=.agg #[.slice none 0 0,.slice none 0 0,.slice none 0 0,.slice none 0 0,.slice none 0 0]) (pl:=[(0,2),(2,1),(3,1),(4,1)]) [(0,_),(2,_),(3,_)] gn rfl (by kernel_rfl) (by kernel_rfl) rfl (by rfl) ?_;refine QX S gn rfl rfl fun b4 g nb4 S=>?_;refine I2 rfl<|Z7<|I2 rfl<|Q0<|Q5 ?_
 refine Qh [(4,_)] [(1,_),(3,_)] (by repeat(first|exact trivial|refine⟨rfl,?_⟩)) (fun kk lv hh=> ∃(i:Nat) (ov:Value) (ob c:List Nat),lv=[(4,iV i)]/\kk=M.length -i/\i<=M.length/\c.length=i/\SH h [] (cR b4 (.cells [tsV tb tc T,msV ma mc M,ov,.slice (some ⟨b2,0,none⟩) 1 1,.slice (some ⟨b3,0,none⟩) 1 1] 118 0)::slR 3 0 (.slice (some ⟨b3,0,none⟩) 1 1) [iV (-1)] 1 [b3]::slR 3 0 (.slice (some ⟨b2,0,none⟩) 1 1) [iV (-1)] 1 [b2]::cR b1 (.cells [tsV tb tc T,msV ma mc M] 39 0)::slR 78 0 ov (c.map (slB M.length)) i ob::mrP (KH (fun _ _=>false) M.length) c 0) hh) (n:=M.length) ?_ fun kk lv hh hI=>?_
 · exact⟨0,_,[],[],rfl,rfl,by omega,rfl,(by
   have S:=S.toSl (n:=1) (z:=0) 2 rfl (.inl rfl) rfl;have S:=S.toSl (n:=1) (z:=0) 1 rfl (.inl rfl) rfl
   exact SH.comm (A:=[_]) (S.nilSl 78 0))⟩
 obtain⟨i,ov,ob,c,rfl,hk,hi,hc,S⟩:=hI;refine Q3<|Q6<|I1 rfl<|I0 1 rfl<|I4 rfl (S.cel 3 rfl) rfl<|I7 rfl<|Il rfl rfl<|Q0<|Q2 rfl (fun hb=>?_) fun hb=>?_
 · skip
   refine Q4 ?_;have hi:i <M.length:=by simpa using hb
   refine Q3<|Q5<|I9<|I1 rfl<|I1 rfl<|I6 rfl<|I0 2 rfl<|I4 rfl (S.cel 0 rfl) rfl<|I0 1 rfl<|I4 rfl (S.cel 3 rfl) rfl<|I7 rfl ?_;refine Z3 (e:=4) (z:=0) (zv:=.bool false) (by':=1) S gn rfl rfl rfl (by kernel_rfl) (by kernel_rfl) (by kernel_rfl) (by kernel_rfl) (by decide) (by omega) (by omega) (by omega) (by omega) fun b5 g nb5 S=>?_;rw[Int.toNat_natCast]at S ⊢;refine Qf (e:=78) (z:=0) (zv:=.slice none 0 0) [(0,_)] S gn rfl (by kernel_rfl) (by kernel_rfl) (by kernel_rfl) (by kernel_rfl) rfl (by rfl) fun b6 g nb6 S=>?_
   refine QE (e:=78) (z:=0) (by':=23) 6 0 S el78 gn rfl rfl rfl rfl rfl rfl (by rfl) (by omega) (fun s' bs' g S=>ag0) fun s' bs' g S=>?_;refine I6 rfl<|I0 2 rfl ?_;have hcv:cellV s'=true:=(S.sl 6 rfl).cellV;refine Qi 2 S gn rfl rfl hcv (by kernel_rfl) rfl (by decide) (by simp) (fun g S=>ag0) fun g S=>?_;refine Q0<|Q1 (by kernel_rfl)<|I1 rfl<|Iao rfl rfl<|I2 rfl<|Q0 ?_
   exact Z6 (M.length - (i+1)) (by omega) [(4,_)] (by repeat(first|exact trivial|refine⟨rfl,?_⟩)) ⟨i+1,s',bs',c++[b5],rfl,rfl,by omega,by simp[hc],by
    have S:=S.drop;rw[Q42,Nat.zero_add,hc,List.map_append,<-Q8V];have S:=SH.mid (A:=cR b4 _::slR 3 0 (.slice (some ⟨b3,0,none⟩) 1 1) [iV (-1)] 1 [b3]::slR 3 0 (.slice (some ⟨b2,0,none⟩) 1 1) [iV (-1)] 1 [b2]::cR b1 (.cells [tsV tb tc T,msV ma mc M] 39 0)::slR 78 0 s' (c.map (slB M.length)++[slB M.length b5]) (i+1) bs'::mrP (KH (fun _ _=>false) M.length) c 0) (B:=[]) (by rw[List.append_nil];exact S)
    exact S⟩
 refine Ql<|Q9<|Qc<|Qm<|Q3<|Q3 ?_;obtain rfl:i=M.length:=by simp at hb;omega
 refine Q1 (by kernel_rfl)<|I2 rfl<|Q0<|Q5<|Qh [(5,_)] [(1,_),(3,_)] (by repeat(first|exact trivial|refine⟨rfl,?_⟩)) (fun kk lv hh=> ∃(i:Nat) (bv ev:Value) (bb be:List Nat),lv=[(5,iV ((i:Int)+1))]/\kk=T.length -i/\i<=T.length/\SH h [] (cR b4 (.cells [tsV tb tc T,msV ma mc M,ov,bv,ev] 118 0)::slR 3 0 ev (ixL M i 2) (i+1) be::slR 3 0 bv (ixL M i 1) (i+1) bb::cR b1 (.cells [tsV tb tc T,msV ma mc M] 39 0)::slR 78 0 ov (c.map (slB M.length)) M.length ob::mrP (KH (fun _ _=>false) M.length) c 0) hh) (n:=T.length) ?_ fun kk lv hh hI=>?_
 · exact⟨0,_,_,_,_,rfl,rfl,by omega,by rw[Qbk ok,Qbk ok];exact S⟩
 obtain⟨i,bv,ev,bb,be,rfl,hk,hi,S⟩:=hI;refine Q3<|Q6<|I1 rfl<|I0 0 rfl<|I4 rfl (S.cel 3 rfl) rfl<|I7 rfl<|Im rfl rfl<|Q0<|Q2 rfl (fun hb=>?_) fun hb=>?_
 · skip
   refine Q4 ?_;have hi:i <T.length:=by simp at hb;omega
   obtain⟨ba,bc,rfl⟩:=Qa (S.sl 2 rfl);obtain⟨ea,ec,rfl⟩:=Qa (S.sl 1 rfl);refine Q3<|Q5<|Q3<|Yq [(0,[]),(1,[]),(2,[]),(3,[]),(4,[]),(5,[]),(6,[]),(7,[4]),(8,[]),(9,[]),(10,[]),(11,[]),(12,[])] (by kernel_rfl) (by kernel_rfl) (by kernel_rfl) (by kernel_rfl)<|I1 rfl<|I1 rfl<|I6 rfl<|I0 3 rfl<|I4 rfl (S.cel 0 rfl) rfl<|I3 2 rfl (S.cel 3 rfl) (Nat.le_refl _)<|I1 rfl<|Ic [_,_] rfl rfl (C.mono (t16 (id:=(i:Int)+1) (R.ext S.e0) ok.m) ?_);rintro v g ⟨rfl,x⟩;have S:=S.grow x
   refine⟨(ag1 (Kb gn rfl (by kernel_rfl) (S.cel 0 rfl) rfl rfl ZM) ag0),?_⟩;refine Qf (e:=3) (z:=0) (zv:=.int .i64 0) [(0,_)] S gn rfl (by kernel_rfl) (by kernel_rfl) (by kernel_rfl) (by kernel_rfl) rfl (by rfl) fun b7 g nb7 S=>?_;refine QE (e:=3) (z:=0) (by':=7) 3 0 S el63 gn rfl rfl rfl rfl rfl rfl (by rfl) (by omega) (fun s' bs' g S=>ag0) fun s' bs' g S=>?_;refine I6 rfl<|I0 3 rfl ?_;have hcv:cellV s'=true:=(S.sl 3 rfl).cellV;refine Qi 1 S gn rfl rfl hcv (by kernel_rfl) rfl (by decide) (by simp) (fun g S=>ag0) fun g S=>?_;refine Q0 ?_
   refine Yq [(0,[]),(1,[]),(2,[]),(3,[]),(4,[]),(5,[]),(6,[]),(7,[4]),(8,[]),(9,[]),(10,[]),(11,[]),(12,[])] (by kernel_rfl) (by kernel_rfl) (by kernel_rfl) (by kernel_rfl)<|I1 rfl<|I1 rfl<|I6 rfl<|I0 4 rfl<|I4 rfl (S.cel 1 rfl) rfl<|I3 2 rfl (S.cel 4 rfl) (Nat.le_refl _)<|I1 rfl<|Ic [_,_] rfl rfl (C.mono (t61 (id:=(i:Int)+1) (R.ext S.e0) ok.m) ?_);rintro v g ⟨rfl,x⟩;have S:=S.grow x;refine⟨(ag1 (Kb gn rfl (by kernel_rfl) (S.cel 1 rfl) rfl rfl ZM) ag0),?_⟩
   refine Qf (e:=3) (z:=0) (zv:=.int .i64 0) [(0,_)] S gn rfl (by kernel_rfl) (by kernel_rfl) (by kernel_rfl) (by kernel_rfl) rfl (by rfl) fun b8 g nb8 S=>?_;refine QE (e:=3) (z:=0) (by':=7) 3 0 S el63 gn rfl rfl rfl rfl rfl rfl (by rfl) (by omega) (fun s' bs' g S=>ag0) fun s2 bs2 g S=>?_;refine I6 rfl<|I0 4 rfl ?_;have hcv2:cellV s2=true:=(S.sl 3 rfl).cellV;refine Qi 2 S gn rfl rfl hcv2 (by kernel_rfl) rfl (by decide) (by simp) (fun g S=>ag0) fun g S=>?_;refine Q0<|Q1 (by kernel_rfl)<|I1 rfl<|Iao rfl rfl<|I2 rfl<|Q0 ?_
   exact Z6 (T.length - (i+1)) (by omega) [(5,_)] (by repeat(first|exact trivial|refine⟨rfl,?_⟩)) ⟨i+1,s',s2,bs',bs2,rfl,rfl,by omega,by
    rw[Qbl,Qbl];exact S.drop.drop⟩
 refine Ql<|Q9<|Qc<|Qm<|Q3 ?_;obtain rfl:i=T.length:=by simp at hb;omega
 have S:=SH.unmid (A:=[_,_]) S;have S:=SH.mid (A:=[_]) (B:=slR 3 0 ev _ _ _::cR b1 _::_) S;have S:=SH.drop (SH.unmid (A:=[_,_,_]) S);obtain⟨u0,S⟩:=Q23 (w:=⟨ov,bv,ev,ob,bb,be,c⟩) (F:=fun _ _=>false) S hc;refine Q1 (by kernel_rfl)<|I1 rfl<|Ic [_] rfl rfl (C.mono (t62 S R ok hn (fun _ _=>rfl)) ?_);rintro v g ⟨u1,F1,S2,hs1,hB1⟩;have S:=S.ret 0 rfl S2;refine⟨ag0,?_⟩;refine QL<|I1 rfl<|Ic [_] rfl rfl (C.mono (t63 S ok hn hs1) ?_);rintro v g ⟨u2,F2,S2,hs2,hL2,hT2⟩;have S:=S.ret 0 rfl S2;refine⟨ag0,?_⟩;refine Q0<|Q3<|Q5 ?_
 refine Qh [] [(3,_)] (by repeat(first|exact trivial|refine⟨rfl,?_⟩)) (fun kk lv hh=> ∃(F:FB) (u:List Nat),lv=[]/\kk=JJ M.length F/\SH h [] [Jh b4 tb tc ma mc T M F u] hh/\Q6l T M F/\TrF M.length F/\BaseP T M (RF F)) (n:=(JJ M.length F2)) ?_ fun kk lv hh hI=>?_
 · exact⟨F2,u2,rfl,rfl,S,hs2,hT2,Q4F hB1 hL2⟩
 obtain⟨F,u,rfl,hk,S,hs,hT,hB⟩:=hI;refine Q3<|Q6<|I1 rfl<|Ic [_] rfl rfl (C.mono (t64 S R ok hn hs) ?_);rintro v g ⟨u3,F3,ch,rfl,S2,hw3⟩;have S:=S.ret 0 rfl S2;refine⟨ag0,?_⟩;refine Q0<|Q2 rfl (fun hb=>?_) fun hb=>?_
 · skip
   refine Q4<|Q5 ?_;obtain rfl:ch=true:=hb;refine Q1 (by kernel_rfl)<|I1 rfl<|Ic [_] rfl rfl (C.mono (t63 S ok hn hw3.w) ?_);rintro v g ⟨u4,F4,S2,hs4,hL4,hT4⟩;have S:=S.ret 0 rfl S2;have hz:JJ M.length F4 <JJ M.length F:=Nat.lt_of_le_of_lt (Q9F hL4) (Q9E hw3.le (hw3.t rfl));refine⟨ag0,?_⟩;refine Q0<|Qk ?_;exact Z6 (JJ M.length F4) (by omega) [] (by repeat(first|exact trivial|refine⟨rfl,?_⟩)) ⟨F4,u4,rfl,rfl,S,hs4,hT4,Q4F (Q4F hB hw3.le) hL4⟩
 refine Ql<|Q9<|Qc<|Qm<|Q3 ?_;obtain rfl:ch=false:=hb;refine Q1 (by kernel_rfl)<|I1 rfl<|I2 rfl<|Q0<|Q7 ?_;refine⟨.inl rfl,_,rfl,?_⟩;exact⟨b4,F3,u3,rfl,S,Q9q ok hw3 hB hT⟩
end
end Go.Proofs.Yteinandjhpnceaa
namespace Go.Proofs.Yteinandjhpnceaa
open Go.X Go.May Go.Mac Go.Model
theorem Qfz (t:MMark):sameV 20 (.agg (mkV t).toArray) (.agg (mkV t).toArray)=true:=by simp[sameV,sameV.sameL,mkV,Z5]
theorem Qe0 (M:List MMark) (a b:Nat):((((decide ((mkI M a).kind=3)&&decide ((mkI M b).kind=3))&& !decide ((mkI M a).task=(mkI M b).task))&&(decide ((YC (mkI M a)).1=(YC (mkI M b)).1)&&(decide ((YC (mkI M a)).2.1=(YC (mkI M b)).2.1)&&(decide ((YC (mkI M a)).2.2=(YC (mkI M b)).2.2)&&true))))&&((mkI M a).acc.write||(mkI M b).acc.write))=Jk M a b:=by
 unfold Jk atB QeF;rw[Bool.eq_iff_iff];simp[Prod.ext_iff]
 grind
noncomputable def fs82:Array Field:=match modE.und 82 with|some (.struct fs)=>fs|_=> #[]
theorem und82:modE.und 82=some (.struct fs82):=by kernel_rfl
theorem len82:fs82.toList.length=2:=by kernel_rfl
theorem row82:fs82.toList=[fs82.toList[0]'(by rw[len82];omega),fs82.toList[1]'(by rw[len82];omega)]:=by kernel_rfl
theorem eq82 (h:Hp) (a b:Nat×Nat):Zo modE h #[iV (a.1:Int),iV (a.2:Int)] #[iV (b.1:Int),iV (b.2:Int)] fs82.toList=some (decide ((a.1:Int)=b.1)&&(decide ((a.2:Int)=b.2)&&true)):=by
 rw[row82];exact Zf (u:=iV (a.1:Int)) (w:=iV (b.1:Int)) (by kernel_rfl) (by kernel_rfl) (by kernel_rfl) (by kernel_rfl) (Zf (u:=iV (a.2:Int)) (w:=iV (b.2:Int)) (by kernel_rfl) (by kernel_rfl) (by kernel_rfl) (by kernel_rfl) rfl)
def Q9y (F:FB) (M:List MMark) (b a:Nat):List (Nat×Nat):=Jg F (Zj M b)++((List.range a).filter fun k=>(Jk M k b&& !F k b)&& !F b k).map fun k=>(k,b)
theorem Qah {F:FB} {M:List MMark} {b:Nat}:Q9y F M b 0=Jg F (Zj M b):=by simp[Q9y]
theorem Q5j {F:FB} {M:List MMark} {b a:Nat}:Q9y F M b (a+1)=if((Jk M a b&& !F a b)&& !F b a)=true then Q9y F M b a++[(a,b)]else Q9y F M b a:=by
 unfold Q9y;rw[List.range_succ,List.filter_append,List.filter_cons]
 split
 · simp
 simp
theorem Qdc {F:FB} {M:List MMark} {b:Nat}:Q9y F M b b=Jg F (Zj M (b+1)):=by
 unfold Q9y Jg;rw[Jb,List.filter_append,List.filter_map,List.filter_filter]
 congr 2
 refine List.filter_congr fun k _=>?_;simp only[Function.comp,Q4p];cases Jk M k b<;>cases F k b<;>cases F b k<;>rfl
theorem Qdb {F:FB} {M:List MMark} {b a:Nat}:(Q9y F M b a).length<=b*b+a:=by
 unfold Q9y Jg;rw[List.length_append,List.length_map];have h1:=List.length_filter_le (Q4p F) (Zj M b);have h3:=KZ (M:=M) b;have h2:=List.length_filter_le (fun k=>(Jk M k b&& !F k b)&& !F b k) (List.range a);rw[List.length_range]at h2;omega
section
variable {h h0:Hp} {tb tc:Nat} {ma:Option Addr} {mc:Nat} {T:List MTask} {M:List MMark} {k:Int}
set_option maxHeartbeats 8000000 in
theorem t65 (R:RnAt h tb tc ma mc T M) (hn:M.length<=1200) {a b:Nat} (ha:a <M.length) (hb':b <M.length):C modE 65 [.agg #[tsV tb tc T,msV ma mc M],iV a,iV b] h fun v h'=>v=.bool (Jk M a b)/\Ext h h':=by
 obtain⟨mb,mcs,mm,hma,mg,mln,mll,mlr,mlf⟩:=R.mk' (j:=(a:Int)) (by omega) (by omega);obtain⟨nb,ncs,nm,hna,ng,nln,nll,nlr,nlf⟩:=R.mk' (j:=(b:Int)) (by omega) (by omega);refine Q8 (fu:=Try.f65) (by kernel_rfl) rfl ?_;have S:=SH.start h;refine Q6 ?_;refine QX S gn rfl rfl fun b1 g nb1 S=>?_;refine I2 rfl<|Q0<|Q3<|Yq [(0,[]),(1,[]),(2,[]),(3,[]),(4,[]),(5,[]),(6,[]),(7,[]),(8,[]),(9,[]),(10,[]),(11,[]),(12,[6,9]),(13,[])] (by kernel_rfl) (by kernel_rfl) (by kernel_rfl) (by kernel_rfl)<|I0 1 rfl<|I4 rfl (S.cel 0 rfl) rfl<|I1 rfl ?_;rw[hma];refine I5o 8 rfl rfl ?_
 rw[<-hma];refine I3 8 rfl (S.old0 mg mln) mll ?_;rw[mlr];refine I0 1 rfl<|I4 rfl (S.cel 0 rfl) rfl<|I1 rfl ?_;rw[hna];refine I5o 8 rfl rfl ?_;rw[<-hna];refine I3 8 rfl (S.old0 ng nln) nll ?_;rw[nlr];refine Qo (zv:=.agg #[.int .i64 0,.int .i64 0,.int .i64 0,.int .i64 0,.int .i64 0,.int .i64 0,.int .i64 0,.bool false]) S gn rfl (by kernel_rfl) fun b2 g nb2 S=>?_;refine Qo (zv:=.agg #[.int .i64 0,.int .i64 0,.int .i64 0,.int .i64 0,.int .i64 0,.int .i64 0,.int .i64 0,.bool false]) S gn rfl (by kernel_rfl) fun b3 g nb3 S=>?_
 refine Qe (n:=8) 1 S gn rfl rfl (by kernel_rfl) (by kernel_rfl) rfl rfl (by decide) rfl (fun g S=>(ag1 (Kb gn rfl (by kernel_rfl) (S.cel 2 rfl) rfl rfl ZM) (ag1 (KA (n:=8) gn rfl (by kernel_rfl) (by kernel_rfl) (S.old0 ng nln) nll (by rw[nlr];rfl) (by rw[nlr];exact Qfz _)) ag0))) fun g S=>?_;refine Qe (n:=8) 0 S gn rfl rfl (by kernel_rfl) (by kernel_rfl) rfl rfl (by decide) rfl (fun g S=>ag0) fun g S=>?_;refine QL<|I0 0 rfl<|I4 rfl (S.cel 1 rfl) rfl<|Ie rfl rfl<|I1 rfl ?_
 refine Qp (n:=3) rfl rfl rfl gn rfl (fun hb=>by
  refine D0 0 hb rfl<|D4 hb rfl (S.cel 0 rfl) rfl<|De hb rfl rfl ?_
  exact Q0 ⟨rfl,rfl,3,rfl,rfl⟩) ?_
 refine I1 rfl ?_
 refine Qp (n:=5) rfl rfl rfl gn rfl (fun hb=>by
  refine D0 1 hb rfl<|D4 hb rfl (S.cel 1 rfl) rfl<|D0 1 hb rfl<|D4 hb rfl (S.cel 0 rfl) rfl<|Dn hb rfl rfl ?_
  exact Q0 ⟨rfl,rfl,5,rfl,rfl⟩) ?_
 refine I1 rfl ?_
 refine Qp (n:=7) rfl rfl rfl gn rfl (fun hb=>by
  refine D0 3 hb rfl<|D0 1 hb rfl<|Z4 (n:=3) (gy rfl rfl rfl hb) rfl rfl (by kernel_rfl) (by kernel_rfl) (S.cel 1 rfl) (by rw[Q0N];decide)<|D0 3 hb rfl<|D0 1 hb rfl<|Z4 (n:=3) (gy rfl rfl rfl hb) rfl rfl (by kernel_rfl) (by kernel_rfl) (S.cel 0 rfl) (by rw[Q0N];decide)<|Qfr (gy rfl rfl rfl hb) rfl rfl rfl (Qea und32 (by kernel_rfl) (eq32 _ (YC (mkI M a)) (YC (mkI M b)))) ?_
  exact Q0 ⟨rfl,rfl,7,rfl,rfl⟩) ?_
 refine I1 rfl ?_
 refine Qp (n:=8) rfl rfl rfl gn rfl (fun hb=>by
  refine D0 3 hb rfl<|D0 4 hb rfl<|D4 hb rfl (S.cel 1 rfl) rfl<|D1 hb rfl ?_
  refine QT (n:=3) rfl rfl rfl (gy rfl rfl rfl hb) rfl (fun hb=>by
   refine D0 3 hb rfl<|D0 4 hb rfl<|D4 hb rfl (S.cel 0 rfl) rfl ?_
   exact Q0 ⟨rfl,rfl,3,rfl,rfl⟩) ?_
  exact Q0 ⟨rfl,rfl,5,rfl,rfl⟩) ?_
 refine I2 rfl<|Q0<|Q7 ?_;refine⟨.inl rfl,_,rfl,?_⟩;exact⟨congrArg Value.bool (Qe0 M a b),S.e0⟩
set_option maxHeartbeats 8000000 in
theorem t34 {kb:Nat} {F:FB} {bs:List Nat} (p:Held (Jh kb tb tc ma mc T M F bs) h) (R:RnAt h tb tc ma mc T M) (hn:M.length<=1200):C modE 34 [Qw kb] h fun v h'=> ∃bs',SH h [] [slR 82 1 v (prC (Jg F (Zj M M.length))) (Jg F (Zj M M.length)).length bs'] h':=by
 refine Q8 (fu:=Try.f34) (by kernel_rfl) rfl ?_;have S:=SH.start h;refine Q6<|I2 rfl<|QL<|I2 rfl<|Z7<|I2 rfl<|Q0<|Q5<|Qh [(3,_),(4,_)] [(0,_)] (by repeat(first|exact trivial|refine⟨rfl,?_⟩)) (fun kk lv hh=> ∃(b:Nat) (s:Value) (u:List Nat),lv=[(3,s),(4,iV b)]/\kk=M.length -b/\b<=M.length/\SH h [] [slR 82 1 s (prC (Jg F (Zj M b))) (Jg F (Zj M b)).length u] hh) (n:=M.length) ?_ fun kk lv hh hI=>?_
 · exact⟨0,_,[],rfl,rfl,by omega,S.nilSl 82 1⟩
 obtain⟨b,s,u,rfl,hk,hbn,S⟩:=hI;refine Q3<|Q3 ?_;obtain⟨w,hw,hok,hbv,hev,hov⟩:=Q9B (p.ext S.e0);obtain⟨va,vc,hva⟩:=Qa hov;refine Q1 (by kernel_rfl)<|I1 rfl<|I1 rfl<|I6 rfl<|I0 2 rfl<|I4 rfl hok rfl ?_;rw[hva];refine I7 rfl<|Il rfl rfl<|Q0<|Q2 rfl (fun hb=>?_) fun hb=>?_
 · skip
   refine Q4 ?_;have hbn:b <M.length:=by simpa using hb
   refine Q3<|Q5<|Q6<|I2 rfl<|Q0<|Q5<|Qh [(3,_),(5,_)] [(0,_),(4,_)] (by repeat(first|exact trivial|refine⟨rfl,?_⟩)) (fun kk lv hh=> ∃(a:Nat) (s:Value) (u:List Nat),lv=[(3,s),(5,iV a)]/\kk=b -a/\a<=b/\SH h [] [slR 82 1 s (prC (Q9y F M b a)) (Q9y F M b a).length u] hh) (n:=b) ?_ fun kk lv hh hI=>?_
   · exact⟨0,s,u,rfl,rfl,by omega,by rw[Qah];exact S⟩
   obtain⟨a,s,u,rfl,hk2,hab,S⟩:=hI;refine Q3<|Q6<|I1 rfl<|I1 rfl<|Il rfl rfl<|Q0<|Q2 rfl (fun hb=>?_) fun hb=>?_
   · skip
     refine Q4 ?_;have hab:a <b:=by simp at hb;omega
     have hln:=Qdb (F:=F) (M:=M) (b:=b) (a:=a);have hj2:b*b<=1200*1200:=Nat.mul_le_mul (by omega) (by omega);refine Q3<|Q5<|Q3 ?_;obtain⟨w,hok,hbv,hev,hmt⟩:=Qdg (p.ext S.e0);refine Q1 (by kernel_rfl)<|I1 rfl<|I6 rfl<|I0 0 rfl<|I3 2 rfl hok (by simp)<|I1 rfl<|I1 rfl<|Ic [_,_,_] rfl rfl (C.mono (t65 (a:=a) (b:=b) (R.ext S.e0) hn (by omega) (by omega)) ?_);rintro v g ⟨rfl,x⟩;have S:=S.grow x;refine⟨ag0,?_⟩;refine I1 rfl ?_;obtain⟨w,hok,hbv,hev,hmt⟩:=Qdg (p.ext S.e0)
     obtain⟨ab,ac,cs,cm,rb,hov,hag,hax,hrg,hry⟩:=hmt (a:Int) (b:Int) (by omega) (by omega) (by omega) (by omega);obtain⟨ab2,ac2,cs2,cm2,rb2,hov2,hag2,hax2,hrg2,hry2⟩:=hmt (b:Int) (a:Int) (by omega) (by omega) (by omega) (by omega)
     refine Qp (n:=11) rfl rfl rfl gn rfl (fun hb=>by
      refine D1 hb rfl<|D6 hb rfl<|D0 2 hb rfl<|D4 hb rfl hok rfl<|D1 hb rfl ?_;rw[hov];refine D5o 1 hb rfl rfl ?_;rw[<-hov];refine D4 hb rfl hag hax<|D1 hb rfl<|D5o 1 hb rfl rfl<|D4 hb rfl hrg hry<|Db hb rfl ?_
      exact Q0 ⟨rfl,rfl,11,rfl,rfl⟩) ?_
     refine I1 rfl ?_
     refine Qp (n:=11) rfl rfl rfl gn rfl (fun hb=>by
      refine D1 hb rfl<|D6 hb rfl<|D0 2 hb rfl<|D4 hb rfl hok rfl<|D1 hb rfl ?_;rw[hov2];refine D5o 1 hb rfl rfl ?_;rw[<-hov2];refine D4 hb rfl hag2 hax2<|D1 hb rfl<|D5o 1 hb rfl rfl<|D4 hb rfl hrg2 hry2<|Db hb rfl ?_
      exact Q0 ⟨rfl,rfl,11,rfl,rfl⟩) ?_
     refine Q0<|Q2 rfl (fun hb=>?_) fun hb=>?_
     · skip
       refine Q1 (by kernel_rfl)<|I1 rfl<|I1 rfl<|I1 rfl<|Qz (zv:=.agg #[.int .i64 0,.int .i64 0]) (pl:=[(0,1),(1,1)]) [(0,_),(1,_)] gn rfl (by kernel_rfl) (by kernel_rfl) rfl (by rfl) ?_;refine Qf (e:=82) (z:=1) (zv:=.agg #[.int .i64 0,.int .i64 0]) [(0,_)] S gn rfl (by kernel_rfl) (by kernel_rfl) (by kernel_rfl) (by kernel_rfl) rfl (by rfl) fun b1 g nb1 S=>?_;refine QE (e:=82) (z:=1) (by':=15) 1 0 S el82 gn rfl rfl rfl rfl rfl rfl (by rfl) (by omega) (fun s' bs' g S=>ag0) fun s' bs' g S=>?_;refine I2 rfl<|Q0<|Q1 (by kernel_rfl)<|I1 rfl<|Iao rfl rfl<|I2 rfl ?_
       refine Q0 ?_
       exact Z6 (b - (a+1)) (by omega) [(3,_),(5,_)] (by repeat(first|exact trivial|refine⟨rfl,?_⟩)) ⟨a+1,s',bs',rfl,rfl,by omega,by
        have hb:((Jk M a b&& !F a b)&& !F b a)=true:=hb
        rw[Q5j,if_pos hb,Q3R,List.length_append];exact S.drop⟩
     refine Q4<|Q1 (by kernel_rfl)<|I1 rfl<|Iao rfl rfl<|I2 rfl<|Q0 ?_
     exact Z6 (b - (a+1)) (by omega) [(3,_),(5,_)] (by repeat(first|exact trivial|refine⟨rfl,?_⟩)) ⟨a+1,s,u,rfl,rfl,by omega,by
      have hb:((Jk M a b&& !F a b)&& !F b a)=false:=hb
      rw[Q5j,if_neg (by rw[hb];decide)];exact S⟩
   refine Ql<|Q9<|Qc<|Qm ?_;obtain rfl:a=b:=by simp at hb;omega
   rw[Qdc]at S;refine Q1 (by kernel_rfl)<|I1 rfl<|Iao rfl rfl<|I2 rfl<|Q0 ?_;exact Z6 (M.length - (a+1)) (by omega) [(3,_),(4,_)] (by repeat(first|exact trivial|refine⟨rfl,?_⟩)) ⟨a+1,s,u,rfl,rfl,by omega,S⟩
 refine Ql<|Q9<|Qc<|Qm<|Q3 ?_;obtain rfl:b=M.length:=by simp at hb;omega
 refine Q1 (by kernel_rfl)<|I1 rfl<|I2 rfl<|Q0<|Q7 ?_;refine⟨.inl rfl,_,rfl,?_⟩;exact⟨u,S⟩
set_option maxHeartbeats 4000000 in
theorem t33 {v1 v2:Value} {l:List (Nat×Nat)} {u1 u2:List Nat} (h1:SlC 82 1 h v1 (prC l) l.length u1) (h2:SlC 82 1 h v2 (prC l) l.length u2) (hl:l.length<=2000000):C modE 33 [v1,v2] h fun v h'=>v=.bool true/\Ext h h':=by
 obtain⟨a1,c1,rfl⟩:=Qa h1;obtain⟨a2,c2,rfl⟩:=Qa h2;refine Q8 (fu:=Try.f33) (by kernel_rfl) rfl ?_;have S:=SH.start h;refine Q6<|I2 rfl<|Z7<|I1 rfl<|I7 rfl<|I1 rfl<|I7 rfl<|In rfl rfl<|Q0<|Q2 rfl (fun hb=>?_) fun hb=>?_
 · skip
   refine Q3 ?_;exact absurd hb (by simp)
 refine Q4<|Q3<|Q6<|I2 rfl<|Q0<|Q5<|Qh [(5,_)] [(0,_),(1,_)] (by repeat(first|exact trivial|refine⟨rfl,?_⟩)) (fun kk lv hh=> ∃i:Nat,lv=[(5,iV i)]/\kk=l.length -i/\i<=l.length/\SH h [] [] hh) (n:=l.length) ?_ fun kk lv hh hI=>?_
 · exact⟨0,rfl,rfl,by omega,S⟩
 obtain⟨i,rfl,hk,hi,S⟩:=hI;refine Q3<|Q6<|I1 rfl<|I1 rfl<|I7 rfl<|Il rfl rfl<|Q0<|Q2 rfl (fun hb=>?_) fun hb=>?_
 · skip
   refine Q4 ?_;have hi:i <l.length:=by simpa using hb
   obtain⟨qb,qm,qc,qr,hqv,hqg,hql⟩:=h1.at (by omega);cases hqv;obtain⟨tb2,tm,tc2,tr,htv,htg,htl⟩:=h2.at (by omega);cases htv;obtain⟨o,ho⟩: ∃o,l[i]?=some o:=⟨_,List.getElem?_eq_getElem hi⟩;have e1:=Qao qr ho;have e2:=Qao tr ho;refine Q3<|Q5<|Q3<|I9<|I1 rfl<|I1 rfl<|I5o 2 rfl rfl<|Z4 (n:=2) gn rfl rfl (by kernel_rfl) (by kernel_rfl) (S.old0 hqg hql.2.1) (by rw[List.length_append,Q6O,Int.toNat_natCast];omega) ?_;rw[Nat.zero_add,Int.toNat_natCast,e1];refine I1 rfl<|I1 rfl<|I5o 2 rfl rfl ?_
   refine Z4 (n:=2) gn rfl rfl (by kernel_rfl) (by kernel_rfl) (S.old0 htg htl.2.1) (by rw[List.length_append,Q6O,Int.toNat_natCast];omega) ?_;rw[Nat.zero_add,Int.toNat_natCast,e2];refine Qfr gn rfl rfl rfl (Q8D und82 (by kernel_rfl) (eq82 _ o o))<|Q0<|Q2 rfl (fun hb=>?_) fun hb=>?_
   · skip
     refine Q3 ?_;exact absurd hb (by simp)
   refine Q4<|Q1 (by kernel_rfl)<|I1 rfl<|Iao rfl rfl<|I2 rfl<|Q0 ?_;exact Z6 (l.length - (i+1)) (by omega) [(5,_)] (by repeat(first|exact trivial|refine⟨rfl,?_⟩)) ⟨i+1,rfl,rfl,by omega,S⟩
 refine Ql<|Q9<|Qc<|Qm<|Q6<|I2 rfl<|Q0<|Q7 ?_;refine⟨.inl rfl,_,rfl,?_⟩;exact⟨rfl,S.e0⟩
end
end Go.Proofs.Yteinandjhpnceaa
namespace Go.Proofs.Yteinandjhpnceaa
open Go.X Go.May Go.Mac Go.Model
theorem rac_eq {T:List MTask} {M:List MMark} {F1 F2:FB} (h1: ∀a b,a <M.length->b <M.length->(F1 a b=true↔HB T M a b)) (h2: ∀a b,a <M.length->b <M.length->(F2 a b=true↔HB T M a b)):Jg F1 (Zj M M.length)=Jg F2 (Zj M M.length):=by
 unfold Jg;refine List.filter_congr fun p hp=>?_;have hm:=Q63 hp;have e: ∀a b,a <M.length->b <M.length->F1 a b=F2 a b:=fun a b ha hb=>by rw[Bool.eq_iff_iff,h1 a b ha hb,h2 a b ha hb]
 unfold Q4p;rw[e p.1 p.2 (by omega) hm.2,e p.2 p.1 hm.2 (by omega)]
section
variable {h h0:Hp} {tb tc:Nat} {ma:Option Addr} {mc:Nat} {T:List MTask} {M:List MMark} {k:Int}
theorem KQ {ds:List Nat} {A:List Res} {lv:Value} {ob c:List Nat} {F:FB} {n:Nat} (S:SH h0 ds (A++mtL lv ob c F n) h) (hc:c.length=n) {a b:Nat} (ha:a <n) (hb:b <n): ∃ab ac cs m rb,lv=.slice (some ⟨ab,0,none⟩) n ac/\h.get ab=some (.cells cs 78 m)/\cs[0+Int.toNat (a:Int)*1]?=some (slB n rb)/\h.get rb=some (.cells (KH F n a) 4 0)/\(KH F n a)[0+Int.toNat (b:Int)*1]?=some (.bool (F a b)):=by
 obtain⟨ab,ac,cs,m,rb,h1,h2,h3,_,h5⟩:=QaM (fun r hr=>S.hold r (List.mem_append_right _ hr)) hc ha;refine⟨ab,ac,cs,m,rb,h1,h2,h3,h5,?_⟩;rw[Nat.zero_add,Nat.mul_one,Int.toNat_natCast];exact Q3J hb
theorem Qey {ds:List Nat} {A:List Res} {lv:Value} {ob c:List Nat} {F:FB} {n:Nat} (S:SH h0 ds (A++mtL lv ob c F n) h): ∃a c,lv=.slice a n c:=Qa (show SlC 78 0 h lv (c.map (slB n)) n ob from S.hold (slR 78 0 lv (c.map (slB n)) n ob) (List.mem_append_right _ (by simp[mtL])))
set_option maxHeartbeats 8000000 in
theorem t13 (R:RnAt h tb tc ma mc T M) (ok:RunOk T M) (hn:M.length<=1200):C modE 13 [.agg #[tsV tb tc T,msV ma mc M]] h fun v h'=>v=.bool true/\Ext h h':=by
 refine Q8 (fu:=Try.f13) (by kernel_rfl) rfl ?_;have S:=SH.start h;refine Q6 ?_;refine QX S gn rfl rfl fun b1 g nb1 S=>?_;refine I2 rfl<|QL<|I3 2 rfl (S.cel 0 rfl) (Nat.le_refl _)<|Ic [_] rfl rfl (C.mono (t32 (R.ext S.e0) ok hn) ?_);rintro v g ⟨kb,F1,u1,rfl,S2,hF1⟩;have S:=SH.retL (A:=[]) (B:=[_]) S S2;refine⟨ag0,?_⟩;refine I2 rfl<|QL<|I3 2 rfl (S.cel 1 rfl) (Nat.le_refl _)<|Ic [_] rfl rfl (C.mono (t15 (R.ext S.e0) ok hn) ?_);rintro v g ⟨lv,ob,c,F2,rfl,hc,S2,hF2⟩;have S:=SH.retL (A:=[]) (B:=[_,_]) S S2;have S:=SH.comm S;obtain⟨la,lc,rfl⟩:=Qey (A:=[_,_]) S;refine⟨ag0,?_⟩
 refine I1 rfl<|Ix rfl rfl<|Ix rfl rfl<|I2 rfl<|I2 rfl<|QL<|I3 2 rfl (S.cel 1 rfl) (Nat.le_refl _)<|Ic [_] rfl rfl (C.mono (t8 (R.ext S.e0) ok hn) ?_);rintro v g ⟨pv,u2,F3,rfl,S2,hF3⟩;have S:=SH.retL (A:=[]) (B:=_::_::mtL (.slice la M.length lc) ob c F2 M.length) S S2;obtain⟨pa,pc,rfl⟩:=Qa (S.sl 0 rfl);have hrl:(Jg F3 (Zj M M.length)).length<=2000000:=Nat.le_trans (List.length_filter_le _ _) (Nat.le_trans (KZ _) (Nat.le_trans (Nat.mul_le_mul hn hn) (by decide)))
 have e12: ∀a b,a <M.length->b <M.length->F1 a b=F2 a b:=fun a b ha hb=>by rw[Bool.eq_iff_iff,hF1 a b ha hb,hF2 a b ha hb]
 refine⟨ag0,?_⟩;refine I1 rfl<|Ix rfl rfl<|Ix rfl rfl<|I2 rfl<|I2 rfl<|Z7<|I1 rfl<|In rfl rfl<|I1 rfl ?_
 refine QT (n:=2) rfl rfl rfl gn rfl (fun hb=>by
  refine D1 hb rfl<|Dn hb rfl rfl ?_
  exact Q0 ⟨rfl,rfl,2,rfl,rfl⟩) ?_
 refine I1 rfl ?_
 refine QT (n:=6) rfl rfl rfl gn rfl (fun hb=>by
  refine D1 hb rfl<|D7 hb rfl<|D0 1 hb rfl<|D4 hb rfl (S.cel 2 rfl) rfl<|D7 hb rfl<|Dn hb rfl rfl ?_
  exact Q0 ⟨rfl,rfl,6,rfl,rfl⟩) ?_
 refine I1 rfl<|Ze (dc:=36) rfl (fun hb36=>?_) fun hb36=>?_
 · skip
   exact absurd hb36 (by simp)
 refine D1 hb36 rfl<|D1 hb36 rfl<|Dc hb36 [_] rfl rfl (C.mono (t34 (S.held 1 rfl) (R.ext S.e0) hn) ?_);rintro v3 g ⟨u3,S2⟩;have S:=SH.retL (A:=[]) (B:=_::_::_::mtL (.slice la M.length lc) ob c F2 M.length) S S2;rw[rac_eq hF1 hF3]at S;refine⟨ag0,?_⟩;refine Dc hb36 [_,_] rfl rfl (C.mono (t33 (l:=Jg F3 (Zj M M.length)) (S.sl 1 rfl) (S.sl 0 rfl) hrl) ?_);rintro v g ⟨rfl,x⟩;have S:=S.grow x;refine⟨ag0,?_⟩;refine Db hb36 rfl<|Iu rfl hb36 rfl<|Q0<|Q2 rfl (fun hb=>?_) fun hb=>?_
 · skip
   refine Q3 ?_;exact absurd hb (by decide)
 refine Q4<|Q3<|Q6<|I2 rfl<|Q0<|Q5<|Qh [(8,_)] [(1,_),(3,_),(4,_)] (by repeat(first|exact trivial|refine⟨rfl,?_⟩)) (fun kk lv hh=> ∃a:Nat,lv=[(8,iV a)]/\kk=M.length -a/\a<=M.length/\SH h [] (slR 82 1 v3 (prC (Jg F3 (Zj M M.length))) (Jg F3 (Zj M M.length)).length u3::slR 82 1 (.slice pa (Jg F3 (Zj M M.length)).length pc) (prC (Jg F3 (Zj M M.length))) (Jg F3 (Zj M M.length)).length u2::Jh kb tb tc ma mc T M F1 u1::cR b1 (.cells [tsV tb tc T,msV ma mc M] 39 0)::mtL (.slice la M.length lc) ob c F2 M.length) hh) (n:=M.length) ?_ fun kk lv hh hI=>?_
 · exact⟨0,rfl,rfl,by omega,S⟩
 obtain⟨a,rfl,hk,ha,S⟩:=hI;refine Q3<|Q6<|I1 rfl<|I1 rfl<|I7 rfl<|Il rfl rfl<|Q0<|Q2 rfl (fun hb=>?_) fun hb=>?_
 · skip
   refine Q4 ?_;have ha:a <M.length:=by simpa using hb
   obtain⟨ab,ac,cs,cm,rb,hv,hag,hax,hrg,_⟩:=KQ (A:=[_,_,_,_]) S hc ha ha;cases hv;refine Q3<|Q5<|Q3<|Q3<|I9<|I1 rfl<|I1 rfl<|I5o 1 rfl rfl<|I4 rfl hag hax<|I7 rfl<|I0 1 rfl<|I4 rfl (S.cel 3 rfl) rfl<|I7 rfl<|In rfl rfl<|Q0<|Q2 rfl (fun hb=>?_) fun hb=>?_
   · skip
     refine Q3 ?_;exact absurd hb (by simp)
   refine Q4<|Q6<|I2 rfl<|Q0<|Q5<|Qh [(9,_)] [(1,_),(3,_),(4,_),(8,_)] (by repeat(first|exact trivial|refine⟨rfl,?_⟩)) (fun kk lv hh=> ∃b:Nat,lv=[(9,iV b)]/\kk=M.length -b/\b<=M.length/\SH h [] (slR 82 1 v3 (prC (Jg F3 (Zj M M.length))) (Jg F3 (Zj M M.length)).length u3::slR 82 1 (.slice pa (Jg F3 (Zj M M.length)).length pc) (prC (Jg F3 (Zj M M.length))) (Jg F3 (Zj M M.length)).length u2::Jh kb tb tc ma mc T M F1 u1::cR b1 (.cells [tsV tb tc T,msV ma mc M] 39 0)::mtL (.slice (some ⟨ab,0,none⟩) M.length lc) ob c F2 M.length) hh) (n:=M.length) ?_ fun kk lv hh hI=>?_
   · exact⟨0,rfl,rfl,by omega,S⟩
   obtain⟨b,rfl,hk2,hbn,S⟩:=hI;refine Q3<|Q3 ?_;obtain⟨ab,ac,cs,cm,rb,hv,hag,hax,hrg,_⟩:=KQ (A:=[_,_,_,_]) S hc ha ha;cases hv;refine Q1 (by kernel_rfl)<|I1 rfl<|I1 rfl<|I1 rfl<|I5o 1 rfl rfl<|I4 rfl hag hax<|I7 rfl<|Il rfl rfl<|Q0<|Q2 rfl (fun hb=>?_) fun hb=>?_
   · skip
     refine Q4 ?_;have hbn:b <M.length:=by simpa using hb
     obtain⟨ab4,ac4,cs4,cm4,rb4,hv4,hag4,hax4,hrg4,hry4⟩:=KQ (A:=[_,_,_,_]) S hc ha hbn;cases hv4;obtain⟨w,hok,hbv,hev,hmt⟩:=Qdg (S.held 2 rfl);obtain⟨ab2,ac2,cs2,cm2,rb2,hov,hag2,hax2,hrg2,hry2⟩:=hmt (a:Int) (b:Int) (by omega) (by omega) (by omega) (by omega);refine Q3<|Q5<|Q3<|I9<|I1 rfl<|I1 rfl<|I5o 1 rfl rfl<|I4 rfl hag4 hax4<|I1 rfl<|I5o 1 rfl rfl<|I4 rfl hrg4 hry4<|I1 rfl<|I6 rfl<|I0 2 rfl<|I4 rfl hok rfl<|I1 rfl ?_;rw[hov];refine I5o 1 rfl rfl ?_;rw[<-hov];refine I4 rfl hag2 hax2 ?_
     refine I1 rfl<|I5o 1 rfl rfl<|I4 rfl hrg2 hry2<|Qdm gn rfl rfl rfl (by kernel_rfl)<|I1 rfl ?_
     refine QT (n:=12) rfl rfl rfl gn rfl (fun hb=>by
      refine D1 hb rfl<|D1 hb rfl<|D5o 1 hb rfl rfl<|D4 hb rfl hag4 hax4<|D1 hb rfl<|D5o 1 hb rfl rfl<|D4 hb rfl hrg4 hry4<|D1 hb rfl ?_
      refine Qp (n:=3) rfl rfl rfl (gy rfl rfl rfl hb) rfl (fun hb=>by
       refine D1 hb rfl<|D1 hb rfl<|Dh hb rfl rfl ?_
       exact Q0 ⟨rfl,rfl,3,rfl,rfl⟩) ?_
      exact Q0 ⟨rfl,rfl,9,rfl,rfl⟩) ?_
     refine Q0<|Q2 rfl (fun hb=>?_) fun hb=>?_
     · skip
       refine Q3 ?_
       exact absurd hb (by
        rw[Int.toNat_natCast,Int.toNat_natCast,e12 a b ha hbn];cases e:F2 a b with
        |false=>simp
        | true=>
          have:=Q1k ok ((hF2 a b ha hbn).1 e)
          simp;omega)
     refine Q4<|Q1 (by kernel_rfl)<|I1 rfl<|Iao rfl rfl<|I2 rfl<|Q0 ?_;exact Z6 (M.length - (b+1)) (by omega) [(9,_)] (by repeat(first|exact trivial|refine⟨rfl,?_⟩)) ⟨b+1,rfl,rfl,by omega,S⟩
   refine Ql<|Q9<|Qc<|Qm<|Q1 (by kernel_rfl)<|I1 rfl<|Iao rfl rfl<|I2 rfl<|Q0 ?_;exact Z6 (M.length - (a+1)) (by omega) [(8,_)] (by repeat(first|exact trivial|refine⟨rfl,?_⟩)) ⟨a+1,rfl,rfl,by omega,S⟩
 refine Ql<|Q9<|Qc<|Qm<|Q6<|I2 rfl<|Q0<|Q7 ?_;refine⟨.inl rfl,_,rfl,?_⟩;exact⟨rfl,S.e0⟩
end
end Go.Proofs.Yteinandjhpnceaa
