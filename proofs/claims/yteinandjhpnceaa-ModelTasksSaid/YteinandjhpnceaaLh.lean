/- ModelOrders: the law. Conditions: a program, and entries, as they are read. ModelTasks: the law. Conditions: a program, and entries, as they are read. Programs of instructions that are arguments. Conditions: what is read takes no more than a process's memory. Chapter 14: the program and the entries that are arguments, as X has them; a lifted contract with its weights. Conditions: none. -/
import Derived.Test.YteinandjhpnceaaLg
import Derived.Test.YteinandjhpnceaaLb
import Derived.Test.YteinandjhpnceaaLa
import Derived.Test.YteinandjhpnceaaXd
import Derived.Test.YteinandjhpnceaaXc
namespace Go.Proofs.Yteinandjhpnceaa
open Go.X Go.May Go.Mac Go.Model
theorem do_T {P:Prg} {s s':MS} {q a n r:Int} (h:DoR P s q a n r s'):s.T.length<=s'.T.length:=by
 have fol: ∀t,s.T.length<=(Q4s P s t).T.length:=fun t=>by
  unfold Q4s
  split
  · exact Nat.le_refl _
  unfold Y4
  split
  · exact Nat.le_refl _
  show _<=(s.T++[_]).length;simp
 have beg: ∀(s1:MS) (id:Int),s1.T.length=s.T.length->s.T.length<=(JH s1 id).T.length:=fun s1 id e=>by
  have:(JH s1 id).T=s1.T.modify (id -1).toNat fun t=> {t with state:=2}:=by unfold JH;split<;>rfl
  rw[this,List.length_modify,e];exact Nat.le_refl _
 have stp: ∀(s1:MS) (id e:Int) (b:Bool) (s2:MS),s1.T.length=s.T.length->Q9v P s1 id b e s2->s.T.length<=s2.T.length:=fun s1 id e b s2 e1 hx=>by
  obtain⟨a,e0,T',H',x,h⟩:=hx;have hD:=(Q6v (P:=P) (s:=stT s1 id a T' H') (id:=id) (a:=a)).1;have hT:(stT s1 id a T' H').T.length=s1.T.length:=rfl;rcases h with⟨_,_,_,rfl⟩| ⟨_,_,_,_,_,rfl⟩| ⟨_,_,_,h⟩
  · exact Nat.le_of_eq e1.symm
  · have:=(Q2D (P:=P) (s:=stT s1 id a T' H') (id:=id) (a:=a)).1;omega
  rcases h with⟨_,_,_,rfl⟩| ⟨_,_,rfl⟩
  · omega
  have e3: ∀(s3:MS) k,(Q0Y s3 id k).T.length=s3.T.length:=fun s3 k=>by
   show((s3.T.modify _ _).modify _ _).length=_;rw[List.length_modify,List.length_modify]
  rw[e3];omega
 rcases h with⟨_,h⟩| ⟨_,h⟩| ⟨_,h⟩| ⟨_,h⟩| ⟨_,h⟩| ⟨_,rfl⟩
 · rcases h with⟨_,_,rfl⟩| ⟨_,rfl⟩| ⟨_,rfl⟩| ⟨_,_,_,h⟩
   · exact Nat.le_refl _
   · exact Nat.le_refl _
   · exact Nat.le_refl _
   rcases h with⟨_,_,rfl⟩| ⟨_,b,s2,hx,rfl⟩
   · exact beg _ _ rfl
   have:=stp (upS s) _ _ _ _ rfl hx;unfold ovrR
   split<;>exact this
 · rcases h with⟨_,_,rfl⟩| ⟨_,rfl⟩| ⟨_,rfl⟩| ⟨_,_,_,h⟩
   · exact Nat.le_refl _
   · exact Nat.le_refl _
   · exact Nat.le_refl _
   rcases h with⟨_,_,rfl⟩| ⟨_,b,hx⟩
   · exact beg _ _ rfl
   exact stp (upS s) _ _ _ _ rfl hx
 · rcases h with⟨_,_,rfl⟩| ⟨_,rfl⟩| ⟨_,_,_,_,rfl⟩<;>exact Nat.le_refl _
 · rcases h with⟨_,_,rfl⟩| ⟨_,rfl⟩| ⟨_,_,_,_,_,rfl⟩
   · exact Nat.le_refl _
   · exact Nat.le_refl _
   exact fol _
 · rcases h with⟨_,_,rfl⟩| ⟨_,rfl⟩| ⟨_,_,_,_,_,h⟩
   · exact Nat.le_refl _
   · exact Nat.le_refl _
   rcases h with⟨_,_,_,rfl⟩| ⟨_,s1,h,rfl⟩
   · exact fol _
   rcases h with⟨_,rfl⟩| ⟨_,_,rfl⟩
   · exact Nat.le_refl _
   exact fol _
 exact Nat.le_refl _
structure Ent where
 q:Int
 a:Int
 n:Int
def EntD (cs:List Value) (e:Ent):Prop:=cs=[iV e.q,iV e.a,iV e.n]
section
variable {h0 h:Hp} {P:Prg} {V:PrV} {mb ph:Nat} {s:MS} {tp bs:List Nat}
theorem QaY (p:Held (mcR mb ph P V s tp bs) h): ∃(a:Option Addr) (c:Nat) (w:MW),h.get mb=some (.cells (pvL P V++[Qw ph,Qw w.lb,w.qv,w.rv,w.tv,w.hv,w.gv,w.lv,.slice a s.M.length c,w.ov,iV s.now,iV s.steps,.bool s.full]) 67 0):=by
 obtain⟨⟨_,⟨w,hw,rfl⟩,ho,hp⟩,hl⟩:=p;have hm:SlC 36 7 h w.mv (mkC s.M) s.M.length w.mvb:=hp (slR 36 7 w.mv (mkC s.M) s.M.length w.mvb) (by simp[mcL,mcH]);obtain⟨a,c,e⟩:=Qa hm;have:=hp (cR mb (.cells (pvL P V++[Qw ph,Qw w.lb,w.qv,w.rv,w.tv,w.hv,w.gv,w.lv,w.mv,w.ov,iV s.now,iV s.steps,.bool s.full]) 67 0)) (by simp[mcL,mcH]);rw[e]at this;exact⟨a,c,w,this⟩
end
section
variable {h:Hp} {P:Prg} {lo cl gl fu co ev si ev2:Value} {l:List Ent}
set_option maxHeartbeats 8000000 in
theorem t4 (X:PrgAt h P lo cl gl fu co ev si) (E:RowP 3 EntD h ev2 l):C modE 4 [QcD P lo cl gl fu co ev si,ev2] h fun v _=>v=.bool true:=by
 obtain⟨ea,ec,rfl⟩:=E.val;refine Q8 (fu:=Try.f4) (by kernel_rfl) rfl ?_;have S:=SH.start h;refine Q6 ?_;refine QX S gn rfl rfl fun b1 g nb1 S=>?_;refine I2 rfl<|Z7<|I3 8 rfl (S.cel 0 rfl) (Nat.le_refl _)<|Ic [_] rfl rfl (C.mono (c4 (X.ext S.e0)) ?_);rintro v g ⟨⟨mu,rfl⟩,x⟩;have S:=S.grow x;refine⟨ag0,?_⟩;refine I1 rfl<|Ze (dc:=9) rfl (fun hb9=>?_) fun hb9=>?_
 · skip
   refine ZI (n:=3) (dc:=9) (w:=false) rfl hb9 rfl<|IT rfl hb9 rfl<|I1 rfl ?_
   refine QT (n:=3) rfl rfl rfl gn rfl (fun hb=>by
    refine D1 hb rfl<|D7 hb rfl<|Dg hb rfl rfl ?_
    exact Q0 ⟨rfl,rfl,3,rfl,rfl⟩) ?_
   refine Q0<|Q2 rfl (fun hb=>?_) fun hb=>?_
   · skip
     refine Q6<|Q94 (f:=6) (v:=.bool true) gn rfl (by kernel_rfl) (by kernel_rfl) ag0<|I2 rfl<|Q0<|Q7 ?_;refine⟨.inl rfl,_,rfl,?_⟩;exact rfl
   refine Q4<|Q3 ?_;exact absurd hb (by simp)
 refine D3 8 hb9 rfl (S.cel 0 rfl) (Nat.le_refl _)<|Dc hb9 [_] rfl rfl (C.mono (c5 (X.ext S.e0)) ?_);rintro v g ⟨rfl,x⟩;have S:=S.grow x;refine⟨ag0,?_⟩;refine Db hb9 rfl<|Iu rfl hb9 rfl<|I1 rfl ?_
 refine QT (n:=3) rfl rfl rfl gn rfl (fun hb=>by
  refine D1 hb rfl<|D7 hb rfl<|Dg hb rfl rfl ?_
  exact Q0 ⟨rfl,rfl,3,rfl,rfl⟩) ?_
 refine Q0<|Q2 rfl (fun hb=>?_) fun hb=>?_
 · skip
   refine Q6<|Q94 (f:=6) (v:=.bool true) gn rfl (by kernel_rfl) (by kernel_rfl) ag0<|I2 rfl<|Q0<|Q7 ?_;refine⟨.inl rfl,_,rfl,?_⟩;exact rfl
 refine Q4<|Q6 ?_;have hM:ZJ P=true/\l.length<=120:=⟨by simp at hb;exact hb.1,by simp at hb;have:=hb.2;omega⟩;refine I3 8 rfl (S.cel 0 rfl) (Nat.le_refl _)<|Ic [_] rfl rfl (C.mono (m11 (V:=⟨lo,cl,gl,fu,co,ev,si⟩) (X.ext S.e0) hM.1) ?_);rintro v g ⟨mb,ph,E0,hbs,tp,u0,rfl,hE0,S2⟩;have S:=SH.retL (A:=[]) (B:=[_]) S S2;have hR0:=QaI hM.1 hE0;have hM0:(QaJ P E0).M.length=0:=rfl;have hT0:(QaJ P E0).T.length=1:=rfl;refine⟨ag0,?_⟩;refine I2 rfl<|Z7<|I2 rfl<|Q0<|Q5 ?_
 refine Qh [(6,_)] [(1,_),(5,_)] (by repeat(first|exact trivial|refine⟨rfl,?_⟩)) (fun kk lv hh=> ∃(i:Nat) (s:MS) (hbs tp u:List Nat),lv=[(6,iV i)]/\kk=l.length -i/\i<=l.length/\SH h [] [hpR ph s.H hbs,mcR mb ph P ⟨lo,cl,gl,fu,co,ev,si⟩ s tp u,cR b1 (.cells [lo,cl,gl,fu,co,ev,iV P.main,si] 55 0)] hh/\RInv P s/\1<=s.T.length/\s.M.length<=160) (n:=l.length) ?_ fun kk lv hh hI=>?_
 · exact⟨0,QaJ P E0,hbs,tp,u0,rfl,rfl,by omega,S,hR0,by rw[hT0];exact Nat.le_refl _,by rw[hM0];exact Nat.zero_le _⟩
 obtain⟨i,s,hbs,tp,u,rfl,hk,hi,S,hR,hT,hMl⟩:=hI;refine Q3<|Q3 ?_;obtain⟨ka,kc,kw,hmk⟩:=QaY (S.held 1 rfl);refine Q1 (by kernel_rfl)<|I1 rfl<|I1 rfl<|I7 rfl<|Il rfl rfl<|I1 rfl ?_
 refine Qp (n:=6) rfl rfl rfl gn rfl (fun hb=>by
  refine D1 hb rfl<|D6 hb rfl<|D0 16 hb rfl<|D4 hb rfl hmk rfl<|D7 hb rfl<|Dl hb rfl rfl ?_
  exact Q0 ⟨rfl,rfl,6,rfl,rfl⟩) ?_
 refine Q0<|Q2 rfl (fun hb=>?_) fun hb=>?_
 · skip
   refine Q4 ?_;have hi:i <l.length/\s.M.length <155:=by simp at hb;omega
   obtain⟨vb,vo,vc,vcs,ve,vm,hev,hvg,hvl,hvn,hvat⟩:=E.at (by omega);cases hev;have hent:(vcs.drop (vo+i*3)).take 3=[iV l[i].q,iV l[i].a,iV l[i].n]:=hvat i hi.1;have hvb:=Nat.mul_le_mul_right 3 (show i+1<=l.length from hi.1);refine Q3<|Q5<|Q1 (by kernel_rfl)<|I1 rfl<|I1 rfl<|I1 rfl<|I5o 3 rfl rfl<|Z4 (n:=3) gn rfl rfl (by kernel_rfl) (by kernel_rfl) (S.old0 hvg hvl) (by rw[Int.toNat_natCast];omega) ?_;rw[Int.toNat_natCast,hent]
   refine Ic [_,_] rfl rfl (C.mono (m12 (q:=l[i].q) (a:=l[i].a) (n:=l[i].n) (SH.subL (A:=[_,_]) (B:=[_]) (SH.start h) (by simp) S) X hM.1 hR.run (by omega)) ?_);rintro v g ⟨r,s2,hbs2,tl,u2,rfl,hD,S2⟩;have S:=SH.retL (A:=[_,_]) (B:=[_]) S S2;have hR2:=QeJ hR hM.1 (by omega) hD;have hT2:=do_T hD;refine⟨ag0,?_⟩;refine Q0<|Q1 (by kernel_rfl)<|I1 rfl<|Iao rfl rfl<|I2 rfl<|Q0 ?_;exact Z6 (l.length - (i+1)) (by omega) [(6,_)] (by repeat(first|exact trivial|refine⟨rfl,?_⟩)) ⟨i+1,s2,hbs2,_,u2,rfl,rfl,by omega,S,hR2.1,by omega,by have:=hR2.2;omega⟩
 refine Ql<|Q9<|Qc<|Qm<|Q6<|I1 rfl<|Ic [_] rfl rfl (C.mono (m14 (SH.sub1 (SH.start h) (by simp) S 1 rfl)) ?_);rintro v g ⟨tv,mv,k1,k2,rfl,q1,q2,q3,q4,x⟩;obtain⟨tb,tc,ma,mc,rfl,rfl,hrn⟩:=RnAt.of q1 q2 (by omega);have S:=S.grow x;refine⟨ag0,?_⟩;refine Ic [_] rfl rfl (C.mono (t13 (hrn.ext x) (hR.ok (by omega)) (by omega)) ?_);rintro v g ⟨rfl,x⟩;have S:=S.grow x;refine⟨ag0,?_⟩;refine I1 rfl ?_
 refine Qp (n:=1) rfl rfl rfl gn rfl (fun hb=>by
  refine Q94 (f:=6) (v:=.bool true) (gy rfl rfl rfl hb) rfl (by kernel_rfl) (by kernel_rfl) ag0 ?_
  exact Q0 ⟨rfl,rfl,1,rfl,rfl⟩) ?_
 refine I2 rfl<|Q0<|Q7 ?_;refine⟨.inl rfl,_,rfl,?_⟩;exact rfl
end
end Go.Proofs.Yteinandjhpnceaa
namespace Go.Proofs.Yteinandjhpnceaa
open Go.X Go.May Go.Mac Go.Model
section
variable {T:List MTask} {M:List MMark}
theorem Q6b (ok:RunOk T M) {j:Nat} (hj:j <M.length):0<=Qn M (mkI M j).task 1/\Qn M (mkI M j).task 1<=j:=by
 have hl:=ok.lk j hj;rw[<-Zv hj]at hl;by_cases hk:(mkI M j).kind=1
 · have:=QeM ok hj (by rw[<-Zv hj];exact hk);rw[<-Zv hj]at this;rw[this];omega
 have h0:0<=Qn (M.take j) (mkI M j).task 1:=Classical.byContradiction fun e=>hk (hl.b.2 (by show Qn (M.take j) _ 1 <0;omega));have h1:=Q5G h0;have h2:=QB (L:=M.take j) (id:=(mkI M j).task) (k:=1);rw[List.length_take]at h2;omega
theorem hb_le {a t b:Nat} (h:HB T M a t) (ht:t<=b) (hb:b <M.length) (hk:(mkI M t).task=(mkI M b).task):HB T M a b:=by
 rcases Nat.lt_or_ge t b with e|e
 · exact hb_clo.trans a t b h (Q77 (b -t -1) t b (by omega) hb hk)
 have:t=b:=by omega
 rw[<-this];exact h
theorem end_ge (ok:RunOk T M) {a:Nat} (ha:a <M.length) (h:0<=Qn M (mkI M a).task 2):(a:Int)<=Qn M (mkI M a).task 2:=by
 refine Classical.byContradiction fun e=>?_;have hl:=ok.lk a ha;rw[<-Zv ha]at hl;have sp:=Kh h;have hn:Qn (M.take a) (mkI M a).task 2 <0:=hl.e
 have hx: ∃x,x∈M.take a/\x.task=(mkI M a).task/\x.kind=2:=by
  refine⟨mkI M (Qn M (mkI M a).task 2),?_,sp.2⟩;have:=Q4e h
  have h2:(M.take a)[(Qn M (mkI M a).task 2).toNat]?=some (mkI M (Qn M (mkI M a).task 2)):=by
   rw[List.getElem?_take,if_pos (by omega)];exact this
  exact List.mem_of_getElem? h2
 obtain⟨x,hx1,hx2,hx3⟩:=hx;obtain⟨i,hi,hix⟩:=List.mem_iff_getElem.1 hx1;have:=Q8m (M:=M.take a) (i:=i) (y:=x) (k:=2) (by rw[List.getElem?_eq_getElem hi,hix]) hx3;rw[hx2]at this;omega
theorem QfL (ok:RunOk T M) {a b:Nat} (ha:a <M.length) (hb:b <M.length) (hk:(mkI M a).task=(mkI M b).task):HB T M a b↔a <b:=⟨fun h=>(Q1k ok h).1,fun h=>Q77 (b -a -1) a b (by omega) hb hk⟩
theorem Qbd (ok:RunOk T M) {a b:Nat} (hb:b <M.length) (h:HB T M a (Qn M (mkI M b).task 1).toNat):HB T M a b:=by
 have hl:=Q6b ok hb;have sp:=Kh hl.1;refine hb_le h (by omega) hb ?_;rw[Int.toNat_of_nonneg hl.1,sp.2.1]
theorem Qbe (ok:RunOk T M) {a b:Nat} (ha:a <M.length) (hb:b <M.length) (hne:(mkI M a).task≠(mkI M b).task) (h0:0<=(tkT T (mkI M a).task).looper) (hl:(tkT T (mkI M a).task).looper=(tkT T (mkI M b).task).looper) (h:HB T M (Qn M (mkI M a).task 1).toNat (Qn M (mkI M b).task 1).toNat):HB T M a b:=by
 have ba:=Q6b ok ha;have bb:=Q6b ok hb;have hu:=Q1k ok h;have hal:=Q8F ok (a:=(mkI M a).task) (b:=(mkI M b).task) h0 hl ba.1 (by show Qn M _ 1 <Qn M _ 1;omega);have ta:=(ok.lk a ha).t;have tb:=(ok.lk b hb).t;rw[<-Zv ha]at ta;rw[<-Zv hb]at tb;have h8:=hb_clo.eight (T:=T) (M:=M) (mkI M a).task (mkI M b).task ta.1 ta.2 tb.1 tb.2 ⟨hne,h0,hl,hal.1,hal.2⟩ ⟨ba.1,bb.1,h⟩;have he:=end_ge ok ha hal.1;have se:=Kh hal.1;have h9:=Qbd ok hb h8;have e:((eIx M (mkI M a).task).toNat:Int)=Qn M (mkI M a).task 2:=Int.toNat_of_nonneg hal.1;rcases Nat.lt_or_ge a (eIx M (mkI M a).task).toNat with f|f
 · have hl2:=se.1;exact hb_clo.trans a _ b (Q77 ((eIx M (mkI M a).task).toNat -a -1) a _ (by omega) (by omega) (by rw[e,se.2.1])) h9
 have:(eIx M (mkI M a).task).toNat=a:=by omega
 rw[this]at h9;exact h9
end
theorem Qf6 {tb n tc m mc:Nat} {ma:Option Addr}:sameV 20 (.agg #[.slice (some ⟨tb,0,none⟩) n tc,.slice ma m mc]) (.agg #[.slice (some ⟨tb,0,none⟩) n tc,.slice ma m mc])=true:=by
 cases ma<;>simp[sameV,sameV.sameL]
section
variable {h:Hp} {P:Prg} {lo cl gl fu co ev si ev2:Value} {l:List Ent}
set_option maxHeartbeats 8000000 in
theorem t5 (X : PrgAt h P lo cl gl fu co ev si) (E:RowP 3 EntD h ev2 l):C modE 5 [QcD P lo cl gl fu co ev si,ev2] h fun v _=>v=.bool true:=by
 obtain⟨ea,ec,rfl⟩:=E.val;refine Q8 (fu:=Try.f5) (by kernel_rfl) rfl ?_;have S:=SH.start h;refine Q6 ?_;refine QX S gn rfl rfl fun b1 g nb1 S=>?_;refine I2 rfl<|Z7<|I3 8 rfl (S.cel 0 rfl) (Nat.le_refl _)<|Ic [_] rfl rfl (C.mono (c4 (X.ext S.e0)) ?_);rintro v g ⟨⟨mu,rfl⟩,x⟩;have S:=S.grow x;refine⟨ag0,?_⟩;refine I1 rfl<|Ze (dc:=18) rfl (fun hb18=>?_) fun hb18=>?_
 · skip
   refine ZI (n:=3) (dc:=18) (w:=false) rfl hb18 rfl<|IT rfl hb18 rfl<|I1 rfl ?_
   refine QT (n:=3) rfl rfl rfl gn rfl (fun hb=>by
    refine D1 hb rfl<|D7 hb rfl<|Dg hb rfl rfl ?_
    exact Q0 ⟨rfl,rfl,3,rfl,rfl⟩) ?_
   refine Q0<|Q2 rfl (fun hb=>?_) fun hb=>?_
   · skip
     refine Q6<|Q94 (f:=6) (v:=.bool true) gn rfl (by kernel_rfl) (by kernel_rfl) ag0<|I2 rfl<|Q0<|Q7 ?_;refine⟨.inl rfl,_,rfl,?_⟩;exact rfl
   refine Q4<|Q3 ?_;exact absurd hb (by simp)
 refine D3 8 hb18 rfl (S.cel 0 rfl) (Nat.le_refl _)<|Dc hb18 [_] rfl rfl (C.mono (c5 (X.ext S.e0)) ?_);rintro v g ⟨rfl,x⟩;have S:=S.grow x;refine⟨ag0,?_⟩;refine Db hb18 rfl<|Iu rfl hb18 rfl<|I1 rfl ?_
 refine QT (n:=3) rfl rfl rfl gn rfl (fun hb=>by
  refine D1 hb rfl<|D7 hb rfl<|Dg hb rfl rfl ?_
  exact Q0 ⟨rfl,rfl,3,rfl,rfl⟩) ?_
 refine Q0<|Q2 rfl (fun hb=>?_) fun hb=>?_
 · skip
   refine Q6<|Q94 (f:=6) (v:=.bool true) gn rfl (by kernel_rfl) (by kernel_rfl) ag0<|I2 rfl<|Q0<|Q7 ?_;refine⟨.inl rfl,_,rfl,?_⟩;exact rfl
 refine Q4<|Q6 ?_;have hM:ZJ P=true/\l.length<=120:=⟨by simp at hb;exact hb.1,by simp at hb;have:=hb.2;omega⟩;refine I3 8 rfl (S.cel 0 rfl) (Nat.le_refl _)<|Ic [_] rfl rfl (C.mono (m11 (V:=⟨lo,cl,gl,fu,co,ev,si⟩) (X.ext S.e0) hM.1) ?_);rintro v g ⟨mb,ph,E0,hbs,tp,u0,rfl,hE0,S2⟩;have S:=SH.retL (A:=[]) (B:=[_]) S S2;have hR0:=QaI hM.1 hE0;have hM0:(QaJ P E0).M.length=0:=rfl;have hT0:(QaJ P E0).T.length=1:=rfl;refine⟨ag0,?_⟩;refine I2 rfl<|Z7<|I2 rfl<|Q0<|Q5 ?_
 refine Qh [(6,_)] [(1,_),(5,_)] (by repeat(first|exact trivial|refine⟨rfl,?_⟩)) (fun kk lv hh=> ∃(i:Nat) (s:MS) (hbs tp u:List Nat),lv=[(6,iV i)]/\kk=l.length -i/\i<=l.length/\SH h [] [hpR ph s.H hbs,mcR mb ph P ⟨lo,cl,gl,fu,co,ev,si⟩ s tp u,cR b1 (.cells [lo,cl,gl,fu,co,ev,iV P.main,si] 55 0)] hh/\RInv P s/\1<=s.T.length/\s.M.length<=160) (n:=l.length) ?_ fun kk lv hh hI=>?_
 · exact⟨0,QaJ P E0,hbs,tp,u0,rfl,rfl,by omega,S,hR0,by rw[hT0];exact Nat.le_refl _,by rw[hM0];exact Nat.zero_le _⟩
 obtain⟨i,s,hbs,tp,u,rfl,hk,hi,S,hR,hT,hMl⟩:=hI;refine Q3<|Q3 ?_;obtain⟨ka,kc,kw,hmk⟩:=QaY (S.held 1 rfl);refine Q1 (by kernel_rfl)<|I1 rfl<|I1 rfl<|I7 rfl<|Il rfl rfl<|I1 rfl ?_
 refine Qp (n:=6) rfl rfl rfl gn rfl (fun hb=>by
  refine D1 hb rfl<|D6 hb rfl<|D0 16 hb rfl<|D4 hb rfl hmk rfl<|D7 hb rfl<|Dl hb rfl rfl ?_
  exact Q0 ⟨rfl,rfl,6,rfl,rfl⟩) ?_
 refine Q0<|Q2 rfl (fun hb=>?_) fun hb=>?_
 · skip
   refine Q4 ?_;have hi:i <l.length/\s.M.length <155:=by simp at hb;omega
   obtain⟨vb,vo,vc,vcs,ve,vm,hev,hvg,hvl,hvn,hvat⟩:=E.at (by omega);cases hev;have hent:(vcs.drop (vo+i*3)).take 3=[iV l[i].q,iV l[i].a,iV l[i].n]:=hvat i hi.1;have hvb:=Nat.mul_le_mul_right 3 (show i+1<=l.length from hi.1);refine Q3<|Q5<|Q1 (by kernel_rfl)<|I1 rfl<|I1 rfl<|I1 rfl<|I5o 3 rfl rfl<|Z4 (n:=3) gn rfl rfl (by kernel_rfl) (by kernel_rfl) (S.old0 hvg hvl) (by rw[Int.toNat_natCast];omega) ?_;rw[Int.toNat_natCast,hent]
   refine Ic [_,_] rfl rfl (C.mono (m12 (q:=l[i].q) (a:=l[i].a) (n:=l[i].n) (SH.subL (A:=[_,_]) (B:=[_]) (SH.start h) (by simp) S) X hM.1 hR.run (by omega)) ?_);rintro v g ⟨r,s2,hbs2,tl,u2,rfl,hD,S2⟩;have S:=SH.retL (A:=[_,_]) (B:=[_]) S S2;have hR2:=QeJ hR hM.1 (by omega) hD;have hT2:=do_T hD;refine⟨ag0,?_⟩;refine Q0<|Q1 (by kernel_rfl)<|I1 rfl<|Iao rfl rfl<|I2 rfl<|Q0 ?_;exact Z6 (l.length - (i+1)) (by omega) [(6,_)] (by repeat(first|exact trivial|refine⟨rfl,?_⟩)) ⟨i+1,s2,hbs2,_,u2,rfl,rfl,by omega,S,hR2.1,by omega,by have:=hR2.2;omega⟩
 refine Ql<|Q9<|Qc<|Qm<|Q6<|I1 rfl<|Ic [_] rfl rfl (C.mono (m14 (SH.sub1 (SH.start h) (by simp) S 1 rfl)) ?_);rintro v g0 ⟨tv,mv,k1,k2,rfl,q1,q2,q3,q4,x⟩;obtain⟨tb,tc,ma,mc,rfl,rfl,hrn0⟩:=RnAt.of q1 q2 (by omega);have R:=hrn0.ext x;have ok:=hR.ok (show s.M.length<=60000 by omega);obtain⟨T,hTT⟩: ∃T,T=s.T:=⟨_,rfl⟩;obtain⟨M,hMM⟩: ∃M,M=s.M:=⟨_,rfl⟩;rw[<-hTT,<-hMM]at R ok;rw[<-hTT,<-hMM];have hMn:M.length<=160:=by rw[hMM];exact hMl
 have S:=SH.start g0;refine⟨ag0,?_⟩;refine Qo (zv:=.agg #[.slice none 0 0,.slice none 0 0]) S gn rfl (by kernel_rfl) fun b3 g nb3 S=>?_;refine Qe (n:=2) 0 S gn rfl rfl (by kernel_rfl) (by kernel_rfl) rfl rfl (by decide) rfl (fun g S=>ag0) fun g S=>?_;refine QL<|I3 2 rfl (S.cel 0 rfl) (Nat.le_refl _)<|Ic [_] rfl rfl (C.mono (t15 (R.ext S.e0) ok (by omega)) ?_);rintro v g ⟨lv,ob,c,F,rfl,hc,S2,hF⟩;have S:=SH.comm (SH.retL (A:=[]) (B:=[_]) S S2);obtain⟨la,lc,rfl⟩:=Qey (A:=[_]) S;refine⟨ag0,?_⟩;refine I1 rfl<|Ix rfl rfl<|Ix rfl rfl<|I2 rfl<|I2 rfl<|Z7<|I1 rfl ?_
 refine In rfl rfl<|I1 rfl ?_
 refine QT (n:=6) rfl rfl rfl gn rfl (fun hb=>by
  refine D1 hb rfl<|D7 hb rfl<|D0 1 hb rfl<|D4 hb rfl (S.cel 0 rfl) rfl<|D7 hb rfl<|Dn hb rfl rfl ?_
  exact Q0 ⟨rfl,rfl,6,rfl,rfl⟩) ?_
 refine Q0<|Q2 rfl (fun hb=>?_) fun hb=>?_
 · skip
   refine Q3 ?_;exact absurd hb (by simp)
 refine Q4<|Q3<|Q6<|I2 rfl<|Q0<|Q5<|Qh [(10,_)] [(7,_),(8,_)] (by repeat(first|exact trivial|refine⟨rfl,?_⟩)) (fun kk lv hh=> ∃a:Nat,lv=[(10,iV a)]/\kk=M.length -a/\a<=M.length/\SH g0 [] (cR b3 (.cells [tsV tb tc T,msV ma mc M] 39 0)::mtL (.slice la M.length lc) ob c F M.length) hh) (n:=M.length) ?_ fun kk lv hh hI=>?_
 · exact⟨0,rfl,rfl,by omega,S⟩
 obtain⟨a,rfl,hk,ha,S⟩:=hI;refine Q3<|Q6<|I1 rfl<|I1 rfl<|I7 rfl<|Il rfl rfl<|Q0<|Q2 rfl (fun hb=>?_) fun hb=>?_
 · skip
   refine Q4 ?_;have ha:a <M.length:=by simpa using hb
   obtain⟨ab,ac,cs,cm,rb,hv,hag,hax,hrg,_⟩:=KQ (A:=[_]) S hc ha ha;cases hv;refine Q3<|Q5<|Q6<|I2 rfl<|Q0<|Q5<|Qh [(11,_)] [(7,_),(8,_),(10,_)] (by repeat(first|exact trivial|refine⟨rfl,?_⟩)) (fun kk lv hh=> ∃b:Nat,lv=[(11,iV b)]/\kk=M.length -b/\b<=M.length/\SH g0 [] (cR b3 (.cells [tsV tb tc T,msV ma mc M] 39 0)::mtL (.slice (some ⟨ab,0,none⟩) M.length lc) ob c F M.length) hh) (n:=M.length) ?_ fun kk lv hh hI=>?_
   · exact⟨0,rfl,rfl,by omega,S⟩
   obtain⟨b,rfl,hk2,hbn,S⟩:=hI;refine Q3<|Q3 ?_;obtain⟨ab,ac,cs,cm,rb,hv,hag,hax,hrg,_⟩:=KQ (A:=[_]) S hc ha ha;cases hv;refine Q1 (by kernel_rfl)<|I1 rfl<|I1 rfl<|I1 rfl<|I5o 1 rfl rfl<|I4 rfl hag hax<|I7 rfl<|Il rfl rfl<|I1 rfl ?_
   refine Qp (n:=5) rfl rfl rfl gn rfl (fun hb=>by
    refine D1 hb rfl<|D0 1 hb rfl<|D4 hb rfl (S.cel 0 rfl) rfl<|D7 hb rfl<|Dl hb rfl rfl ?_
    exact Q0 ⟨rfl,rfl,5,rfl,rfl⟩) ?_
   refine Q0<|Q2 rfl (fun hb=>?_) fun hb=>?_
   · skip
     refine Q4 ?_;have hbn:b <M.length:=by simp at hb;omega
     obtain⟨mb1,mcs,mm,hma,mg,mln,mll,mlr,mlf⟩:=R.mk' (j:=(a:Int)) (by omega) (by omega);obtain⟨nb1,ncs,nm,hna,ng,nln,nll,nlr,nlf⟩:=R.mk' (j:=(b:Int)) (by omega) (by omega);have m1:=mlf 1 _ (by omega) rfl;have n1:=nlf 1 _ (by omega) rfl;have bla:=Q6b ok ha;have blb:=Q6b ok hbn;have ta:=(ok.lk a ha).t;have tb1:=(ok.lk b hbn).t;rw[<-Zv ha]at ta;rw[<-Zv hbn]at tb1;obtain⟨sn,hsn⟩:=Int.eq_ofNat_of_zero_le bla.1;obtain⟨tn,htn⟩:=Int.eq_ofNat_of_zero_le blb.1;obtain⟨tcs,tm,ttg,ttl,ttr,ttf⟩:=R.tk ta.1 ta.2;obtain⟨ucs,um,utg,utl,utr,utf⟩:=R.tk tb1.1 tb1.2;have t4':=ttf 4 _ (by omega) rfl
     have u4':=utf 4 _ (by omega) rfl;have hT:=ok.t;refine Q3<|Q5<|Q3<|I9<|I0 1 rfl<|I4 rfl (S.cel 0 rfl) rfl<|I1 rfl ?_;rw[hma];refine I5o 8 rfl rfl ?_;rw[<-hma];refine I0 1 rfl<|I4 rfl (S.old0 mg mln) m1<|I0 1 rfl<|I4 rfl (S.cel 0 rfl) rfl<|I1 rfl ?_;rw[hna];refine I5o 8 rfl rfl ?_;rw[<-hna];refine I0 1 rfl<|I4 rfl (S.old0 ng nln) n1<|I2 rfl<|I2 rfl<|Q0<|Q3<|Yq [(0,[]),(1,[]),(3,[]),(4,[]),(2,[3]),(5,[]),(6,[]),(7,[])] (by kernel_rfl) (by kernel_rfl) (by kernel_rfl) (by kernel_rfl) ?_
     refine I3 2 rfl (S.cel 0 rfl) (Nat.le_refl _)<|I1 rfl<|I3 2 rfl (S.cel 0 rfl) (Nat.le_refl _)<|I1 rfl ?_;have e16:=t16 (id:=(mkI M a).task) (R.ext S.e0) ok.m;rw[hsn]at e16;refine Ic [_,_] rfl rfl (C.mono e16 ?_);rintro v g ⟨rfl,x⟩;have S:=S.grow x;refine⟨(ag1 (KA (n:=2) gn rfl (by kernel_rfl) (by kernel_rfl) (S.cel 0 rfl) (Nat.le_refl _) rfl Qf6) ag0),?_⟩;have e16:=t16 (id:=(mkI M b).task) (R.ext S.e0) ok.m;rw[htn]at e16;refine Ic [_,_] rfl rfl (C.mono e16 ?_);rintro v g ⟨rfl,x⟩;have S:=S.grow x;refine⟨ag0,?_⟩;refine I2 rfl<|I2 rfl<|Q0<|Q3<|Q3 ?_
     obtain⟨ab1,ac1,cs1,cm1,rb1,hv,hag,hax,hrg,hry⟩:=KQ (A:=[_]) S hc ha hbn;cases hv;obtain⟨ab2,ac2,cs2,cm2,rb2,hv,hag2,hax2,hrg2,hry2⟩:=KQ (A:=[_]) S hc ha (show tn <M.length by omega);cases hv;obtain⟨ab3,ac3,cs3,cm3,rb3,hv,hag3,hax3,hrg3,hry3⟩:=KQ (A:=[_]) S hc (show sn <M.length by omega) (show tn <M.length by omega);cases hv;refine Q1 (by kernel_rfl)<|I1 rfl<|I1 rfl<|Ie rfl rfl<|I1 rfl ?_
     refine Qp (n:=11) rfl rfl rfl gn rfl (fun hb=>by
      refine D1 hb rfl<|D1 hb rfl<|D5o 1 hb rfl rfl<|D4 hb rfl hag hax<|D1 hb rfl<|D5o 1 hb rfl rfl<|D4 hb rfl hrg hry<|D1 hb rfl<|D1 hb rfl<|Dl hb rfl rfl<|Qdm (gy rfl rfl rfl hb) rfl rfl rfl (by kernel_rfl) ?_
      exact Q0 ⟨rfl,rfl,11,rfl,rfl⟩) ?_
     refine I1 rfl ?_
     refine QT (n:=27) rfl rfl rfl gn rfl (fun hb=>by
      refine D1 hb rfl<|D1 hb rfl<|Dn hb rfl rfl<|D1 hb rfl ?_
      refine Qp (n:=3) rfl rfl rfl (gy rfl rfl rfl hb) rfl (fun hb=>by
       refine D1 hb rfl<|D1 hb rfl<|Dn hb rfl rfl ?_
       exact Q0 ⟨rfl,rfl,3,rfl,rfl⟩) ?_
      refine D1 hb rfl ?_
      refine Qp (n:=7) rfl rfl rfl (gy rfl rfl rfl hb) rfl (fun hb=>by
       refine D1 hb rfl<|D1 hb rfl<|D5o 1 hb rfl rfl<|D4 hb rfl hag2 hax2<|D1 hb rfl<|D5o 1 hb rfl rfl<|D4 hb rfl hrg2 hry2 ?_
       exact Q0 ⟨rfl,rfl,7,rfl,rfl⟩) ?_
      refine D1 hb rfl ?_
      refine Qp (n:=8) rfl rfl rfl (gy rfl rfl rfl hb) rfl (fun hb=>by
       refine D1 hb rfl<|D1 hb rfl<|D5o 1 hb rfl rfl<|D4 hb rfl hag hax<|D1 hb rfl<|D5o 1 hb rfl rfl<|D4 hb rfl hrg hry<|Db hb rfl ?_
       exact Q0 ⟨rfl,rfl,8,rfl,rfl⟩) ?_
      exact Q0 ⟨rfl,rfl,9,rfl,rfl⟩) ?_
     refine Q0<|Q2 rfl (fun hb=>?_) fun hb=>?_
     · skip
       refine Q3 ?_
       exact absurd hb (by
        by_cases hxy:(mkI M a).task=(mkI M b).task
        · have e:F a b=decide ((a:Int)<b):=by
           rw[Bool.eq_iff_iff,hF a b ha hbn,QfL ok ha hbn hxy];simp
          rw[e];simp[hxy]
        cases e:F a tn with
        |false=>simp[hxy]
        | true=>
          have h2:=Qbd ok (a:=a) hbn (by rw[htn,Int.toNat_natCast];exact(hF a tn ha (by omega)).1 e)
          rw[(hF a b ha hbn).2 h2];simp[hxy])
     refine Q4<|Q3<|I9<|I1 rfl<|I1 rfl<|In rfl rfl<|I1 rfl ?_
     refine Qp (n:=8) rfl rfl rfl gn rfl (fun hb=>by
      refine D0 0 hb rfl<|D4 hb rfl (S.cel 0 rfl) rfl<|D1 hb rfl<|Dso hb rfl rfl<|D5o 15 hb rfl rfl<|D0 4 hb rfl<|D4 hb rfl (S.old0 ttg R.tl) t4'<|Dh hb rfl rfl ?_
      exact Q0 ⟨rfl,rfl,8,rfl,rfl⟩) ?_
     refine I1 rfl ?_
     refine Qp (n:=15) rfl rfl rfl gn rfl (fun hb=>by
      refine D0 0 hb rfl<|D4 hb rfl (S.cel 0 rfl) rfl<|D1 hb rfl<|Dso hb rfl rfl<|D5o 15 hb rfl rfl<|D0 4 hb rfl<|D4 hb rfl (S.old0 ttg R.tl) t4'<|D0 0 hb rfl<|D4 hb rfl (S.cel 0 rfl) rfl<|D1 hb rfl<|Dso hb rfl rfl<|D5o 15 hb rfl rfl<|D0 4 hb rfl<|D4 hb rfl (S.old0 utg R.tl) u4'<|De hb rfl rfl ?_
      exact Q0 ⟨rfl,rfl,15,rfl,rfl⟩) ?_
     refine I1 rfl ?_
     refine Qp (n:=7) rfl rfl rfl gn rfl (fun hb=>by
      refine D1 hb rfl<|D1 hb rfl<|D5o 1 hb rfl rfl<|D4 hb rfl hag3 hax3<|D1 hb rfl<|D5o 1 hb rfl rfl<|D4 hb rfl hrg3 hry3 ?_
      exact Q0 ⟨rfl,rfl,7,rfl,rfl⟩) ?_
     refine I1 rfl ?_
     refine Qp (n:=8) rfl rfl rfl gn rfl (fun hb=>by
      refine D1 hb rfl<|D1 hb rfl<|D5o 1 hb rfl rfl<|D4 hb rfl hag hax<|D1 hb rfl<|D5o 1 hb rfl rfl<|D4 hb rfl hrg hry<|Db hb rfl ?_
      exact Q0 ⟨rfl,rfl,8,rfl,rfl⟩) ?_
     refine Q0<|Q2 rfl (fun hb=>?_) fun hb=>?_
     · skip
       refine Q3 ?_
       exact absurd hb (by
        by_cases hxy:(mkI M a).task=(mkI M b).task
        · simp[hxy]
        by_cases h0:0<=(tkT T (mkI M a).task).looper
        · by_cases hlo:(tkT T (mkI M a).task).looper=(tkT T (mkI M b).task).looper
          · cases e:F sn tn with
            |false=>simp
            | true=>
              have h3:=Qbe ok ha hbn hxy h0 hlo (by rw[hsn,htn,Int.toNat_natCast,Int.toNat_natCast];exact(hF sn tn (by omega) (by omega)).1 e);rw[(hF a b ha hbn).2 h3];simp
          simp[hlo]
        simp[h0])
     refine Q4<|Q1 (by kernel_rfl)<|I1 rfl<|Iao rfl rfl<|I2 rfl<|Q0 ?_;exact Z6 (M.length - (b+1)) (by omega) [(11,_)] (by repeat(first|exact trivial|refine⟨rfl,?_⟩)) ⟨b+1,rfl,rfl,by omega,S⟩
   refine Ql<|Q9<|Qc<|Qm ?_;obtain rfl:b=M.length:=by simp at hb;omega
   refine Q1 (by kernel_rfl)<|I1 rfl<|Iao rfl rfl<|I2 rfl<|Q0 ?_;exact Z6 (M.length - (a+1)) (by omega) [(10,_)] (by repeat(first|exact trivial|refine⟨rfl,?_⟩)) ⟨a+1,rfl,rfl,by omega,S⟩
 refine Ql<|Q9<|Qc<|Qm<|Q6<|Q94 (f:=6) (v:=.bool true) gn rfl (by kernel_rfl) (by kernel_rfl) ag0<|I2 rfl<|Q0<|Q7 ?_;refine⟨.inl rfl,_,rfl,?_⟩;exact rfl
end
end Go.Proofs.Yteinandjhpnceaa
namespace Go.May
open Go.ChangeShapes Go.WideShapes Go.ChangeAt Go.RowKit Go.Deep Go.X
def RS (P:Program) (h:Hp) (t:TypeId) (cs:List Value):Prop:=Rd P h t cs/\Sz P h 140737488351232 t cs
structure St (P:Program) (s:TypeId) (n:Nat) (L:List (Nat×Nat)):Prop where
 und: ∃fs,P.underlying s=some (.struct fs)/\fs.toList.map (fun f=>(f.type,f.offset))=L
 cells:P.cellsOf s=n
section
variable {P:Program} {h:Hp} {s t e:TypeId} {cs:List Value} {n w:Nat} {L:List (Nat×Nat)}
theorem St.len (z:St P s n L) (x:RS P h s cs):cs.length=n:=by
 obtain⟨fs,h1,_⟩:=z.und;rw[<-z.cells];exact(x.1.inv_struct h1).1
theorem St.fld (z:St P s n L) (x:RS P h s cs) (i:Nat) {o:Nat} (hL:L[i]?=some (t,o)) (ht:P.cellsOf t=w):RS P h t ((cs.drop o).take w):=by
 obtain⟨fs,h1,h2⟩:=z.und;have h3:(fs.toList[i]?).map (fun f=>(f.type,f.offset))=some (t,o):=by rw[<-List.getElem?_map,h2,hL]
 cases hf:fs.toList[i]? with
 |none=>rw[hf]at h3;cases h3
 | some f=>
   rw[hf]at h3;simp only[Option.map_some,Option.some.injEq,Prod.mk.injEq]at h3;have hf':fs[i]?=some f:=by rw[<-Array.getElem?_toList];exact hf
   rw[<-ht];exact⟨x.1.fld h1 i o t hf' h3,x.2.fld h1 i o t hf' h3⟩
theorem ZZ (ht:P.underlying t=some (.int .i64)) (x:RS P h t cs): ∃n,cs=[iV n]/\I64 n:=by
 obtain⟨k,e,h1,h2⟩:=x.1.inv_int ht;exact⟨k,e,h1,h2⟩
theorem Q7J (ht:P.underlying t=some .string) (x:RS P h t cs): ∃s,cs=[.string s]:=by
 obtain⟨k,e,_⟩:=x.1.inv_string ht;exact⟨k,e⟩
theorem Qf1 (ht:P.underlying t=some .bool) (x:RS P h t cs): ∃b,cs=[.bool b]:=x.1.inv_bool ht
theorem KB {α:Type} {by':Nat} {D:List Value->α->Prop} (ht:P.underlying t=some (.slice e)) (hc:P.cellsOf e=w) (hw:0 <w) (hb:P.bytesOf e=by') (hD: ∀cs,RS P h e cs-> ∃a,D cs a) (x:RS P h t cs):
 ∃v l,cs=[v]/\RowP w D h v l/\l.length*by'<=140737488351232/\l.length<=9223372036854775807:=by
 obtain⟨x1,x2⟩:=x;obtain⟨a,n,c,rfl,hn,hc2,_,_,hrow⟩:=x1.inv_slice ht (by rw[hc];exact hw);obtain⟨z1,z2⟩:=x2.inv ht;rw[hb]at z1
 have hm : n ≤ 9223372036854775807 := by have:maxLen=9223372036854775807:=by decide
                                         omega
 rcases hrow with rfl| ⟨b,o,xs,u,rfl,hb,hg,hl,hr⟩
 · exact⟨_,[],rfl,.inl ⟨rfl,a,c,rfl⟩,by simp,by simp⟩
 have z3:=z2 b o xs u 1 rfl hg;rw[hc]at hl hr z3;obtain⟨l,hll,hlq⟩:=Qf2 (Q:=fun i (k:α)=>D ((xs.drop (o+i*w)).take w) k) fun i hi=>hD _ ⟨hr i hi,z3 i hi⟩;exact⟨_,l,rfl,.inr ⟨b,o,c,xs,u,1,by rw[hll],hg,hb,by rw[hll];exact hl,hlq⟩,by rw[hll];exact z1,by rw[hll];exact hm⟩
theorem Qd1 {v:Value} {l:List Int} (x:RowP 1 (fun c (k:Int)=>c=[iV k]) h v l):RowV h v (isV l):=by
 rcases x with⟨rfl,a,c,rfl⟩| ⟨b,o,c,cs,e,m,h1,h2,h3,h4,h5⟩
 · exact .inl ⟨rfl,a,c,rfl⟩
 refine .inr ⟨b,o,c,cs,e,m,by rw[List.length_map];exact h1,h2,h3,fun i hi=>?_⟩;have hi':i <l.length:=by simpa using hi
 have:=one_at (h5 i hi');rw[Nat.mul_one]at this;rw[this,List.getElem_map]
end
structure PrgTy (P:Program) (tP tStrs tCls tCl tGls tGl tFns tFn tCode tIns tCos tCo tArr tEvs tEv tSis tSi tInt tI64 tOp tStr tBool tInts tTys:Nat) (L1 L2 L3 L4 L5 L6 L7:List (Nat×Nat)):Prop where
 prg:St P tP 8 L1
 l1:L1=[(tStrs,0),(tCls,1),(tGls,2),(tFns,3),(tCos,4),(tEvs,5),(tInt,6),(tSis,7)]
 cls:St P tCl 3 L2
 l2:L2=[(tStr,0),(tStrs,1),(tTys,2)]
 fn:St P tFn 4 L3
 l3:L3=[(tStr,0),(tInt,1),(tInt,2),(tCode,3)]
 ins:St P tIns 8 L4
 l4:L4=[(tOp,0),(tInt,1),(tInt,2),(tInt,3),(tI64,4),(tInts,5),(tInt,6),(tInt,7)]
 co:St P tCo 6 L5
 l5:L5=[(tStr,0),(tInt,1),(tArr,2)]
 ev:St P tEv 4 L6
 l6:L6=[(tStr,0),(tInt,1),(tBool,2),(tInt,3)]
 si:St P tSi 2 L7
 l7:L7=[(tInt,0),(tInt,1)]
 uStrs:P.underlying tStrs=some (.slice tStr)/\P.cellsOf tStrs=1
 uCls:P.underlying tCls=some (.slice tCl)/\P.cellsOf tCls=1
 uGls:P.underlying tGls=some (.slice tGl)/\P.cellsOf tGls=1
 uFns:P.underlying tFns=some (.slice tFn)/\P.cellsOf tFns=1
 uCode:P.underlying tCode=some (.slice tIns)/\P.cellsOf tCode=1
 uCos:P.underlying tCos=some (.slice tCo)/\P.cellsOf tCos=1
 uEvs:P.underlying tEvs=some (.slice tEv)/\P.cellsOf tEvs=1
 uSis:P.underlying tSis=some (.slice tSi)/\P.cellsOf tSis=1
 uInts:P.underlying tInts=some (.slice tInt)/\P.cellsOf tInts=1
 uTys:(∃e,P.underlying tTys=some (.slice e)/\P.cellsOf e=1)/\P.cellsOf tTys=1
 uArr:P.underlying tArr=some (.array 4 tInt)/\P.cellsOf tArr=4
 uInt:P.underlying tInt=some (.int .i64)/\P.cellsOf tInt=1
 uI64:P.underlying tI64=some (.int .i64)/\P.cellsOf tI64=1
 uOp:P.underlying tOp=some (.int .i64)/\P.cellsOf tOp=1
 uStr:P.underlying tStr=some .string/\P.cellsOf tStr=1
 uBool:P.underlying tBool=some .bool/\P.cellsOf tBool=1
 bInt:P.bytesOf tInt=8
 gl:P.cellsOf tGl=2
section
variable {P:Program} {h:Hp} {cs:List Value} {tP tStrs tCls tCl tGls tGl tFns tFn tCode tIns tCos tCo tArr tEvs tEv tSis tSi tInt tI64 tOp tStr tBool tInts tTys:Nat} {L1 L2 L3 L4 L5 L6 L7:List (Nat×Nat)}
variable (Y:PrgTy P tP tStrs tCls tCl tGls tGl tFns tFn tCode tIns tCos tCo tArr tEvs tEv tSis tSi tInt tI64 tOp tStr tBool tInts tTys L1 L2 L3 L4 L5 L6 L7)
include Y
theorem PrgTy.rd_ins (x:RS P h tIns cs): ∃a,InsD h cs a:=by
 have hl:=Y.ins.len x;have hL:=Y.l4;subst hL;obtain⟨n0,e0,r0⟩:=ZZ Y.uOp.1 (Y.ins.fld x 0 (t:=tOp) (o:=0) rfl Y.uOp.2);obtain⟨n1,e1,r1⟩:=ZZ Y.uInt.1 (Y.ins.fld x 1 (t:=tInt) (o:=1) rfl Y.uInt.2);obtain⟨n2,e2,r2⟩:=ZZ Y.uInt.1 (Y.ins.fld x 2 (t:=tInt) (o:=2) rfl Y.uInt.2);obtain⟨n3,e3,r3⟩:=ZZ Y.uInt.1 (Y.ins.fld x 3 (t:=tInt) (o:=3) rfl Y.uInt.2);obtain⟨n4,e4,r4⟩:=ZZ Y.uI64.1 (Y.ins.fld x 4 (t:=tI64) (o:=4) rfl Y.uI64.2)
 obtain⟨v,l,e5,r5,z5,_⟩:=KB (D:=fun c (k:Int)=>c=[iV k]/\I64 k) Y.uInts.1 Y.uInt.2 (by omega) Y.bInt (fun cs y=>by obtain⟨k,e,r⟩:=ZZ Y.uInt.1 y;exact⟨k,e,r⟩) (Y.ins.fld x 5 (t:=tInts) (o:=5) rfl Y.uInts.2);obtain⟨n6,e6,r6⟩:=ZZ Y.uInt.1 (Y.ins.fld x 6 (t:=tInt) (o:=6) rfl Y.uInt.2);obtain⟨n7,e7,_⟩:=ZZ Y.uInt.1 (Y.ins.fld x 7 (t:=tInt) (o:=7) rfl Y.uInt.2)
 match cs,hl with
 | [c0,c1,c2,c3,c4,c5,c6,c7],_=>
   simp only[List.drop_succ_cons,List.drop_zero,List.take_succ_cons,List.take_zero,List.cons.injEq,and_true]at e0 e1 e2 e3 e4 e5 e6 e7;subst e0;subst e1;subst e2;subst e3;subst e4;subst e5;subst e6;subst e7;refine⟨⟨n0,n1,n2,n3,n4,l,n6⟩,⟨c5,n7,rfl,Qd1 (r5.ext (.refl _) fun _ _ d=>d.1)⟩,r0,r1,r2,r3,r4,by show l.length<=_;omega,fun k hk=>?_,r6⟩;obtain⟨i,hi,rfl⟩:=List.mem_iff_getElem.1 hk;obtain⟨_,_,_,_,_,_,_,_,_,_,hd⟩:=r5.at (by have hi2:i <l.length:=hi;omega);exact(hd i hi).2
theorem PrgTy.rd_fn (x:RS P h tFn cs): ∃a,FunD h cs a:=by
 have hl:=Y.fn.len x;have hL:=Y.l3;subst hL;obtain⟨s,e0⟩:=Q7J Y.uStr.1 (Y.fn.fld x 0 (t:=tStr) (o:=0) rfl Y.uStr.2);obtain⟨n1,e1,r1⟩:=ZZ Y.uInt.1 (Y.fn.fld x 1 (t:=tInt) (o:=1) rfl Y.uInt.2);obtain⟨n2,e2,r2⟩:=ZZ Y.uInt.1 (Y.fn.fld x 2 (t:=tInt) (o:=2) rfl Y.uInt.2);obtain⟨v,l,e3,r3,_,z3⟩:=KB Y.uCode.1 Y.ins.cells (by omega) rfl (fun cs y=>Y.rd_ins y) (Y.fn.fld x 3 (t:=tCode) (o:=3) rfl Y.uCode.2)
 match cs,hl with
 | [c0,c1,c2,c3],_=>
   simp only[List.drop_succ_cons,List.drop_zero,List.take_succ_cons,List.take_zero,List.cons.injEq,and_true]at e0 e1 e2 e3;subst e0;subst e1;subst e2;subst e3;exact⟨⟨n1,n2,l⟩,⟨s,c3,rfl,r3⟩,r1,r2,z3⟩
theorem PrgTy.rd_cl (x:RS P h tCl cs): ∃a,ClassD cs a:=by
 have hl:=Y.cls.len x;have hL:=Y.l2;subst hL;obtain⟨s,e0⟩:=Q7J Y.uStr.1 (Y.cls.fld x 0 (t:=tStr) (o:=0) rfl Y.uStr.2);obtain⟨v1,l1,e1,r1,_,z1⟩:=KB (D:=fun c (_:Unit)=>True) Y.uStrs.1 Y.uStr.2 (by omega) rfl (fun cs y=>⟨(),trivial⟩) (Y.cls.fld x 1 (t:=tStrs) (o:=1) rfl Y.uStrs.2);obtain⟨⟨te,ue,ce⟩,ct⟩:=Y.uTys;obtain⟨v2,l2,e2,r2,_,z2⟩:=KB (D:=fun c (_:Unit)=>True) ue ce (by omega) rfl (fun cs y=>⟨(),trivial⟩) (Y.cls.fld x 2 (t:=tTys) (o:=2) rfl ct);obtain⟨a1,c1',rfl⟩:=r1.val;obtain⟨a2,c2',rfl⟩:=r2.val
 match cs,hl with
 | [c0,c1,c2],_=>
   simp only[List.drop_succ_cons,List.drop_zero,List.take_succ_cons,List.take_zero,List.cons.injEq,and_true]at e0 e1 e2;subst e0;subst e1;subst e2;exact⟨(l1.length,l2.length),⟨s,a1,c1',a2,c2',rfl⟩,z1,z2⟩
theorem PrgTy.rd_co (x:RS P h tCo cs): ∃a,CompD cs a:=by
 have hl:=Y.co.len x;have hL:=Y.l5;subst hL;obtain⟨s,e0⟩:=Q7J Y.uStr.1 (Y.co.fld x 0 (t:=tStr) (o:=0) rfl Y.uStr.2);obtain⟨n1,e1,r1⟩:=ZZ Y.uInt.1 (Y.co.fld x 1 (t:=tInt) (o:=1) rfl Y.uInt.2);have x2:=(Y.co.fld x 2 (t:=tArr) (o:=2) rfl Y.uArr.2).1
 match cs,hl with
 | [c0,c1,c2,c3,c4,c5],_=>
   simp only[List.drop_succ_cons,List.drop_zero,List.take_succ_cons,List.take_zero,List.cons.injEq,and_true]at e0 e1;subst e0;subst e1;have h4:=(x2.inv_array Y.uArr.1).2
   have f: ∀i,i <4-> ∃n,((([c2,c3,c4,c5]:List Value).drop (i*1)).take 1)=[iV n]/\I64 n:=fun i hi=>by
    have:=h4 i hi;rw[Y.uInt.2]at this;obtain⟨k,e,q1,q2⟩:=this.inv_int Y.uInt.1;exact⟨k,e,q1,q2⟩
   obtain⟨f0,g0,q0⟩:=f 0 (by omega);obtain⟨f1,g1,q1⟩:=f 1 (by omega);obtain⟨f2,g2,q2⟩:=f 2 (by omega);obtain⟨f3,g3,q3⟩:=f 3 (by omega);simp only[Nat.mul_one,List.drop_succ_cons,List.drop_zero,List.take_succ_cons,List.take_zero,List.cons.injEq,and_true]at g0 g1 g2 g3;subst g0;subst g1;subst g2;subst g3;refine⟨(n1,[f0,f1,f2,f3]),⟨s,f0,f1,f2,f3,rfl,rfl⟩,r1,fun k hk=>?_⟩;simp only[List.mem_cons,List.not_mem_nil,or_false]at hk;rcases hk with rfl|rfl|rfl|rfl<;>assumption
theorem PrgTy.rd_ev (x:RS P h tEv cs): ∃a,EventD cs a:=by
 have hl:=Y.ev.len x;have hL:=Y.l6;subst hL;obtain⟨s,e0⟩:=Q7J Y.uStr.1 (Y.ev.fld x 0 (t:=tStr) (o:=0) rfl Y.uStr.2);obtain⟨n1,e1,r1⟩:=ZZ Y.uInt.1 (Y.ev.fld x 1 (t:=tInt) (o:=1) rfl Y.uInt.2);obtain⟨b2,e2⟩:=Qf1 Y.uBool.1 (Y.ev.fld x 2 (t:=tBool) (o:=2) rfl Y.uBool.2);obtain⟨n3,e3,r3⟩:=ZZ Y.uInt.1 (Y.ev.fld x 3 (t:=tInt) (o:=3) rfl Y.uInt.2)
 match cs,hl with
 | [c0,c1,c2,c3],_=>
   simp only[List.drop_succ_cons,List.drop_zero,List.take_succ_cons,List.take_zero,List.cons.injEq,and_true]at e0 e1 e2 e3;subst e0;subst e1;subst e2;subst e3;exact⟨(n1,n3),⟨s,b2,rfl⟩,r1,r3⟩
theorem PrgTy.rd_si (x:RS P h tSi cs): ∃a,SiteD cs a:=by
 have hl:=Y.si.len x;have hL:=Y.l7;subst hL;obtain⟨n0,e0,r0⟩:=ZZ Y.uInt.1 (Y.si.fld x 0 (t:=tInt) (o:=0) rfl Y.uInt.2);obtain⟨n1,e1,r1⟩:=ZZ Y.uInt.1 (Y.si.fld x 1 (t:=tInt) (o:=1) rfl Y.uInt.2)
 match cs,hl with
 | [c0,c1],_=>
   simp only[List.drop_succ_cons,List.drop_zero,List.take_succ_cons,List.take_zero,List.cons.injEq,and_true]at e0 e1;subst e0;subst e1;exact⟨(n0,n1),rfl,r0,r1⟩
theorem PrgTy.rd (x:RS P h tP cs): ∃p lo cl gl fu co ev si,cs=Q9A p lo cl gl fu co ev si/\PrgAt h p lo cl gl fu co ev si:=by
 have hl:=Y.prg.len x;have hL:=Y.l1;subst hL;obtain⟨v0,l0,e0,r0,_,z0⟩:=KB (D:=fun c (_:Unit)=>True) Y.uStrs.1 Y.uStr.2 (by omega) rfl (fun cs y=>⟨(),trivial⟩) (Y.prg.fld x 0 (t:=tStrs) (o:=0) rfl Y.uStrs.2);obtain⟨v1,l1,e1,r1,_,z1⟩:=KB Y.uCls.1 Y.cls.cells (by omega) rfl (fun cs y=>Y.rd_cl y) (Y.prg.fld x 1 (t:=tCls) (o:=1) rfl Y.uCls.2);obtain⟨v2,l2,e2,r2,_,z2⟩:=KB (D:=fun c (_:Unit)=>True) Y.uGls.1 Y.gl (by omega) rfl (fun cs y=>⟨(),trivial⟩) (Y.prg.fld x 2 (t:=tGls) (o:=2) rfl Y.uGls.2)
 obtain⟨v3,l3,e3,r3,_,z3⟩:=KB Y.uFns.1 Y.fn.cells (by omega) rfl (fun cs y=>Y.rd_fn y) (Y.prg.fld x 3 (t:=tFns) (o:=3) rfl Y.uFns.2);obtain⟨v4,l4,e4,r4,_,z4⟩:=KB Y.uCos.1 Y.co.cells (by omega) rfl (fun cs y=>Y.rd_co y) (Y.prg.fld x 4 (t:=tCos) (o:=4) rfl Y.uCos.2);obtain⟨v5,l5,e5,r5,_,z5⟩:=KB Y.uEvs.1 Y.ev.cells (by omega) rfl (fun cs y=>Y.rd_ev y) (Y.prg.fld x 5 (t:=tEvs) (o:=5) rfl Y.uEvs.2);obtain⟨n6,e6,r6⟩:=ZZ Y.uInt.1 (Y.prg.fld x 6 (t:=tInt) (o:=6) rfl Y.uInt.2);obtain⟨v7,l7,e7,r7,_,z7⟩:=KB Y.uSis.1 Y.si.cells (by omega) rfl (fun cs y=>Y.rd_si y) (Y.prg.fld x 7 (t:=tSis) (o:=7) rfl Y.uSis.2)
 obtain⟨a0,c0',rfl⟩:=r0.val;obtain⟨a2,c2',rfl⟩:=r2.val
 match cs,hl with
 | [c0,c1,c2,c3,c4,c5,c6,c7],_=>
   simp only[List.drop_succ_cons,List.drop_zero,List.take_succ_cons,List.take_zero,List.cons.injEq,and_true]at e0 e1 e2 e3 e4 e5 e6 e7;subst e0;subst e1;subst e2;subst e3;subst e4;subst e5;subst e6;subst e7;exact⟨⟨l0.length,l1,l2.length,l3,l4,l5,n6,l7⟩,_,_,_,_,_,_,_,rfl,⟨⟨a0,c0',rfl⟩,r1,⟨a2,c2',rfl⟩,r3,r4,r5,r7,r6,z0,z1,z2,z3,z4,z5,z7⟩⟩
end
end Go.May
namespace Go.Proofs.Yteinandjhpnceaa
open Go.ChangeShapes Go.WideShapes Go.ChangeAt Go.RowKit Go.Deep Go.X Go.May Go.Mac
set_option maxRecDepth 100000
theorem Q89:Try.prog.underlying 4=some .bool:=by kernel_rfl
theorem QaU:ownKnob Try.prog.godebug=none:=by kernel_rfl
theorem Q88:laidOutB Try.prog=true:=by kernel_rfl
theorem mod_ct:Try.prog.cellTypes Try.prog.depth 55=some [47,48,49,50,51,52,3,53]:=by kernel_rfl
theorem Qfx:Try.prog.cellsOf 55=8:=by kernel_rfl
theorem QaW:Try.prog.underlying 3=some (.int .i64):=by kernel_rfl
noncomputable def fsA (s:Nat):Array Field:=match Try.prog.underlying s with|some (.struct fs)=>fs|_=> #[]
theorem mod_ty:PrgTy Try.prog 55 47 48 131 49 216 50 90 88 93 51 134 132 52 102 53 97 3 2 91 9 4 63 129 [(47,0),(48,1),(49,2),(50,3),(51,4),(52,5),(3,6),(53,7)] [(9,0),(47,1),(129,2)] [(9,0),(3,1),(3,2),(88,3)] [(91,0),(3,1),(3,2),(3,3),(2,4),(63,5),(3,6),(3,7)] [(9,0),(3,1),(132,2)] [(9,0),(3,1),(4,2),(3,3)] [(3,0),(3,1)] where
 prg:=⟨⟨fsA 55,by kernel_rfl,by kernel_rfl⟩,by kernel_rfl⟩
 l1:=rfl
 cls:=⟨⟨fsA 131,by kernel_rfl,by kernel_rfl⟩,by kernel_rfl⟩
 l2:=rfl
 fn:=⟨⟨fsA 90,by kernel_rfl,by kernel_rfl⟩,by kernel_rfl⟩
 l3:=rfl
 ins:=⟨⟨fsA 93,by kernel_rfl,by kernel_rfl⟩,by kernel_rfl⟩
 l4:=rfl
 co:=⟨⟨fsA 134,by kernel_rfl,by kernel_rfl⟩,by kernel_rfl⟩
 l5:=rfl
 ev:=⟨⟨fsA 102,by kernel_rfl,by kernel_rfl⟩,by kernel_rfl⟩
 l6:=rfl
 si:=⟨⟨fsA 97,by kernel_rfl,by kernel_rfl⟩,by kernel_rfl⟩
 l7:=rfl
 uStrs:=⟨by kernel_rfl,by kernel_rfl⟩
 uCls:=⟨by kernel_rfl,by kernel_rfl⟩
 uGls:=⟨by kernel_rfl,by kernel_rfl⟩
 uFns:=⟨by kernel_rfl,by kernel_rfl⟩
 uCode:=⟨by kernel_rfl,by kernel_rfl⟩
 uCos:=⟨by kernel_rfl,by kernel_rfl⟩
 uEvs:=⟨by kernel_rfl,by kernel_rfl⟩
 uSis:=⟨by kernel_rfl,by kernel_rfl⟩
 uInts:=⟨by kernel_rfl,by kernel_rfl⟩
 uTys:=⟨⟨214,by kernel_rfl,by kernel_rfl⟩,by kernel_rfl⟩
 uArr:=⟨by kernel_rfl,by kernel_rfl⟩
 uInt:=⟨by kernel_rfl,by kernel_rfl⟩
 uI64:=⟨by kernel_rfl,by kernel_rfl⟩
 uOp:=⟨by kernel_rfl,by kernel_rfl⟩
 uStr:=⟨by kernel_rfl,by kernel_rfl⟩
 uBool:=⟨by kernel_rfl,by kernel_rfl⟩
 bInt:=by kernel_rfl
 gl:=by kernel_rfl
section
variable {H:Type} {enc:TypeId×Value->H} {W:World} {r:Reach} {base:Nat} {v:Value}
theorem ok_int {t:TypeId} {k:IntKind} (ht:Try.prog.underlying t=some (.int k)) (h:Value.okWide Try.prog W r base t v): ∃k' n,v=.int k' n:=by
 simp only[Value.okWide,ht,Cell.okWide]at h;cases v<;>simp only[Cell.ok,ht]at h<;>first|exact h.elim|exact⟨_,_,rfl⟩
theorem Q5p {t e:TypeId} (ht:Try.prog.underlying t=some (.slice e)) (h:Value.okWide Try.prog W r base t v):VRel (Mp.all W) v v/\Q6L v<=Q3z W:=by
 rcases Qaw ht h with rfl| ⟨a,len,cap,rfl,hb⟩
 · exact⟨.nils 0 0,by simp[Q6L]⟩
 refine⟨Qcr (w:=W) a len cap hb,?_⟩;have:=JP W;simp only[Q6L];omega
theorem Q7T {d:DataW H} {ps:List MemPlace} (hok:Value.okWide Try.prog W r base 55 v) (ht:DataW.Trod enc Try.prog W 0 (fun _=>true) true 55 v d ps) (hB: ∀n,n∈d.weights Try.prog 55->n<=140737488351232):
 ∃P lo cl gl fu co ev si,v=QcD P lo cl gl fu co ev si/\VRel (Mp.all W) v v/\PrgAt (Hp.all W) P lo cl gl fu co ev si:=by
 obtain⟨fs,hst,_⟩:=mod_ty.prg.und;simp only[Value.okWide,hst]at hok;obtain⟨cs,rfl,hsz,ts,hts,_,hc⟩:=hok;rw[mod_ct,Option.some.injEq]at hts;subst hts;rw[Qfx]at hsz;obtain⟨cs⟩:=cs
 match cs,hsz with
 | [f0,f1,f2,f3,f4,f5,f6,f7],_=>
   obtain⟨_,e0,h0⟩:=hc 0 f0 rfl;obtain⟨_,e1,h1⟩:=hc 1 f1 rfl;obtain⟨_,e2,h2⟩:=hc 2 f2 rfl;obtain⟨_,e3,h3⟩:=hc 3 f3 rfl;obtain⟨_,e4,h4⟩:=hc 4 f4 rfl;obtain⟨_,e5,h5⟩:=hc 5 f5 rfl;obtain⟨_,e6,h6⟩:=hc 6 f6 rfl;obtain⟨_,e7,h7⟩:=hc 7 f7 rfl;simp at e0 e1 e2 e3 e4 e5 e6 e7;subst e0;subst e1;subst e2;subst e3;subst e4;subst e5;subst e6;subst e7;have q0:=Q5p mod_ty.uStrs.1 (v:=f0) (by simp only[Value.okWide,mod_ty.uStrs.1];exact h0);have q1:=Q5p mod_ty.uCls.1 (v:=f1) (by simp only[Value.okWide,mod_ty.uCls.1];exact h1);have q2:=Q5p mod_ty.uGls.1 (v:=f2) (by simp only[Value.okWide,mod_ty.uGls.1];exact h2)
   have q3:=Q5p mod_ty.uFns.1 (v:=f3) (by simp only[Value.okWide,mod_ty.uFns.1];exact h3);have q4:=Q5p mod_ty.uCos.1 (v:=f4) (by simp only[Value.okWide,mod_ty.uCos.1];exact h4);have q5:=Q5p mod_ty.uEvs.1 (v:=f5) (by simp only[Value.okWide,mod_ty.uEvs.1];exact h5);have q7:=Q5p mod_ty.uSis.1 (v:=f7) (by simp only[Value.okWide,mod_ty.uSis.1];exact h7);obtain⟨k6,n6,rfl⟩:=ok_int QaW (v:=f6) (by simp only[Value.okWide,QaW];exact h6)
   have hv:VsRel (Mp.all W) [f0,f1,f2,f3,f4,f5,.int k6 n6,f7] [f0,f1,f2,f3,f4,f5,.int k6 n6,f7]:=
    .cons q0.1 (.cons q1.1 (.cons q2.1 (.cons q3.1 (.cons q4.1 (.cons q5.1 (.cons (.int _ _) (.cons q7.1 (.nil _))))))))
   obtain⟨fuel,hf⟩:=ht;have hcl:(Value.agg #[f0,f1,f2,f3,f4,f5,.int k6 n6,f7]).cells.toList=[f0,f1,f2,f3,f4,f5,.int k6 n6,f7]:=rfl;have hf:DataW.trod enc Try.prog W 0 (fun _=>true) true fuel 55 [f0,f1,f2,f3,f4,f5,.int k6 n6,f7]=some (d,ps):=hf
   have href: ∀v,v∈[f0,f1,f2,f3,f4,f5,.int k6 n6,f7]->Q6L v<=Q3z W:=fun v hm=>by
    simp only[List.mem_cons,List.not_mem_nil,or_false]at hm;rcases hm with rfl|rfl|rfl|rfl|rfl|rfl|rfl|rfl
    · exact q0.2
    · exact q1.2
    · exact q2.2
    · exact q3.2
    · exact q4.2
    · exact q5.2
    · simp[Q6L]
    exact q7.2
   have hself:([f0,f1,f2,f3,f4,f5,.int k6 n6,f7]:List Value).map (Jv (Mp.all W))=[f0,f1,f2,f3,f4,f5,.int k6 n6,f7]:=by
    simp only[List.map_cons,List.map_nil,Yd q0.1,Yd q1.1,Yd q2.1,Yd q3.1,Yd q4.1,Yd q5.1,Yd q7.1,Yd (.int k6 n6:VRel (Mp.all W) (.int k6 n6) (.int k6 n6))]
   have hr:=Kd fuel 55 _ _ href hf;have hz:=J3 (B:=140737488351232) fuel 55 _ _ href hB hf;rw[hself]at hr hz;obtain⟨P,lo,cl,gl,fu,co,ev,si,ee,X⟩:=mod_ty.rd ⟨hr,hz⟩;simp only[Q9A,List.cons.injEq,and_true]at ee;obtain⟨rfl,rfl,rfl,rfl,rfl,rfl,e6,rfl⟩:=ee;exact⟨P,_,_,_,_,_,_,_,by rw[e6],.agg' hv,X⟩
theorem ent_st:St Try.prog 71 3 [(69,0),(3,1),(2,2)]:=⟨⟨fsA 71,by kernel_rfl,by kernel_rfl⟩,by kernel_rfl⟩
theorem Q2x:Try.prog.underlying 56=some (.slice 71)/\Try.prog.cellsOf 71=3/\Try.prog.bytesOf 71=24:=⟨by kernel_rfl,by kernel_rfl,by kernel_rfl⟩
theorem QeH:Try.prog.underlying 69=some (.int .i64)/\Try.prog.cellsOf 69=1:=⟨by kernel_rfl,by kernel_rfl⟩
theorem rd_ent {h:Hp} {cs:List Value} (x:RS Try.prog h 71 cs): ∃a:Ent,EntD cs a:=by
 have hl:=ent_st.len x;obtain⟨n0,e0,_⟩:=ZZ QeH.1 (ent_st.fld x 0 (t:=69) (o:=0) rfl QeH.2);obtain⟨n1,e1,_⟩:=ZZ mod_ty.uInt.1 (ent_st.fld x 1 (t:=3) (o:=1) rfl mod_ty.uInt.2);obtain⟨n2,e2,_⟩:=ZZ mod_ty.uI64.1 (ent_st.fld x 2 (t:=2) (o:=2) rfl mod_ty.uI64.2)
 match cs,hl with
 | [c0,c1,c2],_=>
   simp only[List.drop_succ_cons,List.drop_zero,List.take_succ_cons,List.take_zero,List.cons.injEq,and_true]at e0 e1 e2;subst e0;subst e1;subst e2;exact⟨⟨n0,n1,n2⟩,rfl⟩
theorem QbU {d:DataW H} {ps:List MemPlace} (hok:Value.okWide Try.prog W r base 56 v) (ht:DataW.Trod enc Try.prog W 0 (fun _=>true) true 56 v d ps) (hB: ∀n,n∈d.weights Try.prog 56->n<=140737488351232):
 ∃l:List Ent,VRel (Mp.all W) v v/\RowP 3 EntD (Hp.all W) v l:=by
 have q0:=Q5p Q2x.1 (v:=v) hok;obtain⟨fuel,hf⟩:=ht
 obtain⟨a,n,c,rfl⟩: ∃a n c,v=.slice a n c:=by
  rcases Qaw Q2x.1 hok with rfl| ⟨a,len,cap,rfl,_⟩
  · exact⟨_,_,_,rfl⟩
  exact⟨_,_,_,rfl⟩
 have hf:DataW.trod enc Try.prog W 0 (fun _=>true) true fuel 56 [.slice a n c]=some (d,ps):=hf
 have href: ∀v,v∈[Value.slice a n c]->Q6L v<=Q3z W:=fun v hm=>by
  rw[List.mem_singleton]at hm;subst hm;exact q0.2
 have hself:([Value.slice a n c]:List Value).map (Jv (Mp.all W))=[.slice a n c]:=by
  simp only[List.map_cons,List.map_nil,Yd q0.1]
 have hr:=Kd fuel 56 _ _ href hf;have hz:=J3 (B:=140737488351232) fuel 56 _ _ href hB hf;rw[hself]at hr hz;obtain⟨v',l,ee,hrow,_⟩:=KB Q2x.1 Q2x.2.1 (by omega) Q2x.2.2 (fun cs x=>rd_ent x) ⟨hr,hz⟩;simp only[List.cons.injEq,and_true]at ee;subst ee;exact⟨l,q0.1,hrow⟩
theorem JZ {a:Assume} {C:Checked} {os:Os} {f:FuncId} {fn:Func} {s:ChangeSpec} {conds:List PathCond} {apart fresh handsOn again:Bool}
 (own:ownKnob C.prog.godebug=none) (started:os.Started) (noInit:C.prog.inits.idxOf? f=none) (hfn:C.prog.funcs[f]?=some fn)
 (witness: ∃(w:World) (tape:Tape) (i:Input),w.os=os/\(w.forCall tape i).Shaped C.prog/\i.vars=[]/\Input.okWide C.prog (w.forCall tape i) .any w.heap.size f i/\
  s.pre6 enc C.prog fn conds apart (w.forCall tape i).memory i.args/\a.holds C.prog (lone (Frame.enter C.prog f i.args .normal) [] (w.forCall tape i)))
 (contract: ∀(W:World) (base:Nat) (args:Array Value) (ds gs:List (DataW H)) (before:List MemPlace),
  (∀(j:Nat) t v,fn.params[j]?=some t->args[j]?=some v->Value.okWide C.prog W .any base t v)->
  DataW.Whole enc C.prog fn.params.toList s.vars apart W args.toList ds gs before->
  (DataW.weightsEach C.prog (fn.params.toList++s.plain.varTypes C.prog) (ds++gs)).all (· <=reachBytes)=true->
  Calls C.prog f args W fun e W'=> ∃v,e=.returned v/\s.post enc C.prog fn apart fresh handsOn again W args v W'):
 ReturnsInHanded a C os f .any (s.pre6 enc C.prog fn conds apart) (s.post enc C.prog fn apart fresh handsOn again):=by
 refine returnsInHanded_of_calls own started noInit witness ?_;intro w tape i _ _ _ hok hpre hholds;obtain⟨_,_,_,fn',hfn',_,_,_,_,hval⟩:=hok;have e:fn'=fn:=Option.some.inj (hfn'.symm.trans hfn);subst e;obtain⟨⟨ds,gs,before,hw,hc⟩,hz⟩:=hpre;have hw':=DataW.Whole.of_heap (w':=w.forCall tape i) (by rfl) hw;refine(contract (w.forCall tape i) w.heap.size i.args ds gs before hval hw' (hz.weights hw)).mono fun e W' ⟨v,he,hp⟩=>?_;subst he;exact ChangeSpec.post_blind hp
end
end Go.Proofs.Yteinandjhpnceaa
