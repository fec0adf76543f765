/- The document's threads: a call. Conditions: they are one's own, of a program that may be. The document's threads: a thread that may be goes on as one; a frame less. Conditions: they are one's own, of a program that may be. The document's threads: next, once more. Conditions: they are one's own, of a program that may be. The document's threads: a step. Conditions: they are one's own, of a program that may be. The document's machine, as it lies in the memory. Conditions: it is one's own. The document's machine: marks. Conditions: it is one's own. The document's machine: a task more. Conditions: it is one's own, of a program that may be. The document's machine: a task begins; whom a token names. Conditions: it is one's own. The document's machine: a task is cancelled. Conditions: it is one's own. The document's machine: whom a task waits for. Conditions: it is one's own, of a program that may be. The document's heap: an object's values, out and in again. Conditions: it is one's own. -/
import Derived.Test.YteinandjhpnceaaLb
import Derived.Test.YteinandjhpnceaaLa
namespace Go.Proofs.Yteinandjhpnceaa
open Go.X Go.May Go.Mac
section
variable {h:Hp} {hb:Nat} {H:List MObj} {oa:Option Addr} {oc:Nat} {w:HpW} {id k:Int}
theorem Q4j (e:isO H id k=true):hasB H id=true:=by
 unfold isO at e;rw[Bool.and_eq_true]at e;exact e.1
theorem HpG.at (G:HpG h hb H oa oc w) (e:hasB H id=true): ∃b cs m va vc vb,oa=some ⟨b,0,none⟩/\h.get b=some (.cells cs 197 m)/\cs[0+Int.toNat (id -1)*6+1]?=some (iV (QR H id).of)/\cs[0+Int.toNat (id -1)*6+2]?=some (.slice va (QR H id).vals.length vc)/\SlC 2 0 h (.slice va (QR H id).vals.length vc) (isV (QR H id).vals) (QR H id).vals.length vb/\1<=id/\id<=H.length:=by
 obtain⟨j,o,hid,hj,ho,hjl⟩:=Q3o e;obtain⟨b,cs,m,v,vb,hoa,hg,hv,hc,hl,hsl⟩:=G.obj hj;obtain⟨va,vc,rfl⟩:=Qa hsl;rw[ho,show Int.toNat (id -1)=j by omega,Nat.zero_add];exact⟨b,cs,m,va,vc,vb,hoa,hg,Qs hc (by omega) rfl,Qs hc (by omega) rfl,hsl,by omega,by omega⟩
def TC (P:Prg) (T T':MThr):Prop:=(∃k,k≠0/\T'= {T with trap:=k})\/ ∃(f:Int) (cells:List Int),0<=f/\f <P.funs.length/\(cells.length:Int)<=(Qt P f).regs/\T.F.length <32/\T'=onT {T with F:=T.F++[Y9 P f cells]} 1
theorem Q7j {P:Prg} {T:MThr} {f:Int} {cells:List Int} (hM:ZJ P=true) (hT:Km P T) (f0:0<=f) (f1:f <P.funs.length) (hc:(cells.length:Int)<=(Qt P f).regs) (hl:T.F.length <32):Km P {T with F:=T.F++[Y9 P f cells]}:=by
 refine⟨by simp;omega,fun x hx=>?_⟩;rcases List.mem_append.1 hx with hx|hx
 · exact hT.2 x hx
 rw[List.mem_singleton]at hx;subst hx;have:=Yz hM f0 f1;refine⟨f0,f1,Int.le_refl _,by show(0:Int)<_;show(0:Int)<((Qt P f).code.length:Nat);omega,?_⟩;show((cells++List.replicate ((Qt P f).regs.toNat -cells.length) 0).length:Int)=(Qt P f).regs;simp;omega
end
section
variable {h0 h:Hp} {P:Prg} {V:PrV} {tb ph:Nat} {T:MThr} {w:ThW} {H:List MObj} {hbs:List Nat}
set_option maxHeartbeats 4000000 in
theorem m92 {id:Int} (S0:SH h0 [] (hpR ph H hbs::thL tb (pvL P V) T w) h) (X0:Q1f h0 P V) (hM:ZJ P=true) (hw:w.vs.length=T.F.length) (hT:Km P T) (hl:0 <T.F.length) (hH:H.length<=1024):C modE 92 [Qw tb,Qw ph,iV id] h fun _ g'=> ∃(T':MThr) (w':ThW),w'.vs.length=T'.F.length/\TC P T T'/\SH h (owns (hpR ph H hbs::thL tb (pvL P V) T w)) (hpR ph H hbs::thL tb (pvL P V) T' w') g':=by
 have SE:=S0.enterL;obtain⟨fv,fb,vs⟩:=w;obtain⟨fa,fc,hfv⟩:=Qa (SE.sl 2 rfl);have hfv:fv=.slice fa T.F.length fc:=hfv;subst hfv;have hw:vs.length=T.F.length:=hw;have hH6:H.length<=1000000:=by omega
 have h32:=hT.1;obtain⟨oa,oc,w,G⟩:=Q2n (SE.res 0 rfl);have X:Q1f h P V:=X0.ext (S0.all0 S0.own0L SE);obtain⟨_,_,_,⟨fua,fuc,hfu0⟩,_⟩:=X.vals;refine Q8 (fu:=Try.f92) (by kernel_rfl) rfl ?_;have S:=SE;refine Q3<|Q3<|I9<|I1 rfl<|I1 rfl<|Ic [_,_,_] rfl rfl (Qr (m89 (S.res 0 rfl) hH6) ⟨ag0,?_⟩);refine Ib rfl<|I1 rfl ?_
 refine QT (n:=17) rfl rfl rfl gn rfl (fun hb=>by
  have hisO:isO H id 4=true:=by simpa using hb
  obtain⟨b,cs,m,va,vc,vb,hoa,hg,k1,k2,hsl,i0,i1⟩:=G.at (Q4j hisO);refine D1 hb rfl<|D6 hb rfl<|D0 0 hb rfl<|D4 hb rfl G.cel rfl<|D1 hb rfl<|Dso hb rfl rfl ?_;rw[hoa];refine D5o 6 hb rfl rfl ?_;rw[<-hoa];refine D0 1 hb rfl<|D4 hb rfl hg k1<|D1 hb rfl<|D6 hb rfl<|D0 0 hb rfl<|D0 3 hb rfl<|D4 hb rfl (S.cel 1 rfl) rfl ?_;rw[hfu0];refine D7 hb rfl ?_;rw[<-hfu0];refine Dc hb [_,_] rfl rfl (Qr (c18) ⟨ag0,?_⟩);refine Db hb rfl ?_
  exact Q0 ⟨rfl,rfl,17,rfl,rfl⟩) ?_
 refine I1 rfl ?_
 refine QT (n:=28) rfl rfl rfl gn rfl (fun hb=>by
  have hbb:isO H id 4=true/\inB (QR H id).of P.funs.length=true:=by simpa using hb
  obtain⟨b,cs,m,va,vc,vb,hoa,hg,k1,k2,hsl,i0,i1⟩:=G.at (Q4j hbb.1);obtain⟨f0,f1⟩:=Z9.1 hbb.2;obtain⟨fb',fo',fc',fcs,fe,fm,hfu,hfg,hfl,hfn,s,cv,hfc,hco⟩:=PrgAt.fun X f0 f1;have kf:fcs[fo'+Int.toNat (QR H id).of*4+1]?=some (iV (Qt P (QR H id).of).caps):=Qs hfc (by omega) rfl;refine D1 hb rfl<|D6 hb rfl<|D0 0 hb rfl<|D4 hb rfl G.cel rfl<|D1 hb rfl<|Dso hb rfl rfl ?_;rw[hoa];refine D5o 6 hb rfl rfl ?_;rw[<-hoa];refine D0 2 hb rfl<|D4 hb rfl hg k2<|D7 hb rfl<|D1 hb rfl<|D6 hb rfl<|D0 0 hb rfl<|D0 3 hb rfl ?_
  refine D4 hb rfl (S.cel 1 rfl) rfl<|D1 hb rfl<|D6 hb rfl<|D0 0 hb rfl<|D4 hb rfl G.cel rfl<|D1 hb rfl<|Dso hb rfl rfl ?_;rw[hoa];refine D5o 6 hb rfl rfl ?_;rw[<-hoa];refine D0 1 hb rfl<|D4 hb rfl hg k1 ?_;rw[hfu];refine D5o 4 hb rfl rfl ?_;rw[<-hfu];refine D0 1 hb rfl<|D4 hb rfl hfg kf<|Dn hb rfl rfl ?_
  exact Q0 ⟨rfl,rfl,28,rfl,rfl⟩) ?_
 refine Q0<|Q2 rfl (fun hb=>?_) fun hb=>?_
 · skip
   refine Q6<|I1 rfl<|I6 rfl<|I0 9 rfl ?_;refine Qi 1 S gn rfl rfl rfl (by kernel_rfl) rfl (by decide) (by simp) (fun g S=>ag0) fun g S=>?_;refine Q0<|Q7 ?_;refine⟨.inl rfl,_,rfl,?_⟩;exact⟨{T with trap:=1},_,hw,.inl ⟨1,by decide,rfl⟩,S⟩
 refine Q4<|Q3<|Q6 ?_;have hbb:(isO H id 4=true/\inB (QR H id).of P.funs.length=true)/\((QR H id).vals.length:Int)=(Qt P (QR H id).of).caps:=by simpa using hb
 obtain⟨⟨hisO,hinO⟩,hcaps⟩:=hbb;obtain⟨b,cs,m,va,vc,vb,rfl,hg,k1,k2,hsl,i0,i1⟩:=G.at (Q4j hisO);obtain⟨f0,f1⟩:=Z9.1 hinO;have hcode:=Yz hM f0 f1;refine I1 rfl<|I6 rfl<|I0 8 rfl<|I4 rfl (S.cel 1 rfl) rfl<|I7 rfl<|Ih rfl rfl<|Q0<|Q2 rfl (fun hb=>?_) fun hb=>?_
 · skip
   refine Q6<|I1 rfl<|I6 rfl<|I0 9 rfl ?_;refine Qi 1 S gn rfl rfl rfl (by kernel_rfl) rfl (by decide) (by simp) (fun g S=>ag0) fun g S=>?_;refine Q0<|Q7 ?_;refine⟨.inl rfl,_,rfl,?_⟩;exact⟨{T with trap:=4},_,hw,.inl ⟨4,by decide,rfl⟩,S⟩
 refine Q4<|Q3<|Yq [(0,[]),(1,[]),(2,[]),(3,[]),(4,[]),(5,[]),(6,[]),(7,[]),(8,[]),(9,[]),(10,[]),(11,[]),(12,[]),(13,[]),(14,[]),(15,[]),(16,[]),(17,[]),(18,[]),(19,[]),(20,[]),(21,[]),(22,[]),(23,[]),(24,[]),(25,[]),(26,[]),(27,[4]),(28,[]),(29,[]),(30,[]),(31,[]),(32,[])] (by kernel_rfl) (by kernel_rfl) (by kernel_rfl) (by kernel_rfl) ?_;have hl32:T.F.length <32:=by simp at hb;omega
 refine I1 rfl<|I1 rfl<|I6 rfl<|I0 8 rfl<|I4 rfl (S.cel 1 rfl) rfl<|I1 rfl<|I6 rfl<|I0 0 rfl<|I3 8 rfl (S.cel 1 rfl) (by simp)<|I1 rfl<|I6 rfl<|I0 0 rfl<|I4 rfl G.cel rfl<|I1 rfl<|Iso rfl rfl<|I5o 6 rfl rfl ?_;refine I0 1 rfl<|I4 rfl hg k1<|I1 rfl<|I6 rfl<|I0 0 rfl<|I4 rfl G.cel rfl<|I1 rfl<|Iso rfl rfl<|I5o 6 rfl rfl<|I0 2 rfl<|I4 rfl hg k2<|Ic [_,_,_] rfl rfl (C.mono (m70 X hM f0 f1 hsl.row (by omega)) ?_)
 rintro v g ⟨rv,rb,rfl,S2⟩;have S:=SH.retL (A:=[]) S S2;obtain⟨ra,rc,rfl⟩:=Qa (S.sl 0 rfl);refine⟨(ag1 (Kb gn rfl (by kernel_rfl) (S.cel 2 rfl) rfl rfl ZM) ag0),?_⟩;refine Qf (cs:= #[iV (QR H id).of,iV 0,.slice ra (Y9 P (QR H id).of (QR H id).vals).regs.length rc]) (e:=162) (z:=2) (zv:=.agg #[.int .i64 0,.int .i64 0,.slice none 0 0]) [(0,_)] S gn rfl (by kernel_rfl) (by kernel_rfl) (by kernel_rfl) (by kernel_rfl) rfl (by kernel_rfl) fun b1 g nb1 S=>?_;refine QE (e:=162) (z:=2) (by':=39) 4 0 S el162 gn rfl rfl rfl rfl rfl rfl (by rfl) (by omega) (fun s' bs' g S=>ag0) fun s' bs' g S=>?_;have hcv:cellV s'=true:=(S.sl 4 rfl).cellV
 refine I6 rfl<|I0 8 rfl ?_;refine Qi 3 S gn rfl rfl hcv (by kernel_rfl) rfl (by decide) (by simp) (fun g S=>ag0) fun g S=>?_;have S2:SH h (owns (hpR ph H hbs::thL tb (pvL P V) T ⟨.slice fa T.F.length fc,fb,vs⟩)) ([slR 2 0 (.slice ra (Y9 P (QR H id).of (QR H id).vals).regs.length rc) (isV (Y9 P (QR H id).of (QR H id).vals).regs) (Y9 P (QR H id).of (QR H id).vals).regs.length rb]++(hpR ph H hbs::cR tb (.cells (pvL P V++[s',iV T.trap]) 166 0)::slR 162 2 s' (frC T.F vs++[iV (QR H id).of,iV 0,.slice ra (Y9 P (QR H id).of (QR H id).vals).regs.length rc]) (T.F.length+1) bs'::frP T.F vs)) g:=S.drop
 have hT1:=Q7j (cells:=(QR H id).vals) hM hT f0 f1 (by omega) hl32;have hw1:(vs++[(Value.slice ra (Y9 P (QR H id).of (QR H id).vals).regs.length rc,rb)]).length=(T.F++[Y9 P (QR H id).of (QR H id).vals]).length:=by simp[hw]
 have S3:SH h (owns (hpR ph H hbs::thL tb (pvL P V) T ⟨.slice fa T.F.length fc,fb,vs⟩)) (thL tb (pvL P V) {T with F:=T.F++[Y9 P (QR H id).of (QR H id).vals]} ⟨s',bs',vs++[(.slice ra (Y9 P (QR H id).of (QR H id).vals).regs.length rc,rb)]⟩++[hpR ph H hbs]) g:=by
  have S3a:=SH.comm (A:=[_]) S2;have S3b:SH h (owns (hpR ph H hbs::thL tb (pvL P V) T ⟨.slice fa T.F.length fc,fb,vs⟩)) ([hpR ph H hbs]++((cR tb (.cells (pvL P V++[s',iV T.trap]) 166 0)::slR 162 2 s' (frC T.F vs++[iV (QR H id).of,iV 0,.slice ra (Y9 P (QR H id).of (QR H id).vals).regs.length rc]) (T.F.length+1) bs'::frP T.F vs)++[slR 2 0 (.slice ra (Y9 P (QR H id).of (QR H id).vals).regs.length rc) (isV (Y9 P (QR H id).of (QR H id).vals).regs) (Y9 P (QR H id).of (QR H id).vals).regs.length rb])) g:=S3a;have S3:=SH.comm S3b;unfold thL
  show SH h _ (cR tb (.cells (pvL P V++[s',iV T.trap]) 166 0)::slR 162 2 s' (frC (T.F++[Y9 P (QR H id).of (QR H id).vals]) (vs++[(.slice ra (Y9 P (QR H id).of (QR H id).vals).regs.length rc,rb)])) (T.F++[Y9 P (QR H id).of (QR H id).vals]).length bs'::frP (T.F++[Y9 P (QR H id).of (QR H id).vals]) (vs++[(.slice ra (Y9 P (QR H id).of (QR H id).vals).regs.length rc,rb)])++[hpR ph H hbs]) g;rw[Q8t _ _ _ _ hw,Q4q _ _ _ _ hw,List.length_append];exact S3
 refine Q0<|Q1 (by kernel_rfl)<|I1 rfl ?_;refine Z1 [_,_] gn rfl rfl (by kernel_rfl) rfl (C.mono (m91 (k:=1) (P:=P) (V:=V) (T:= {T with F:=T.F++[Y9 P (QR H id).of (QR H id).vals]}) (w:=⟨s',bs',vs++[(.slice ra (Y9 P (QR H id).of (QR H id).vals).regs.length rc,rb)]⟩) (h0:=h0) (SH.subL S0 S0.own0L S3) hw1 hT1 (by simp;omega) (fun y hy=>(Kv hM (hT1.2 y hy)).1)) ?_);intro v g S4;have S:=SH.comm (B:=[_]) (SH.retL S3 S4);refine⟨ag0,?_⟩;refine Q0 ?_;refine⟨.inr rfl,_,rfl,?_⟩
 exact⟨onT {T with F:=T.F++[Y9 P (QR H id).of (QR H id).vals]} 1,⟨s',bs',vs++[(Value.slice ra (Y9 P (QR H id).of (QR H id).vals).regs.length rc,rb)]⟩,by unfold onT;show _=(QfT _ _).length;rw[Q4n];exact hw1,.inr ⟨(QR H id).of,(QR H id).vals,f0,f1,by omega,hl32,rfl⟩,S⟩
end
end Go.Proofs.Yteinandjhpnceaa
namespace Go.Proofs.Yteinandjhpnceaa
open Go.X Go.May Go.Mac
section
variable {P:Prg} {T T':MThr} {x:Ins}
theorem Qb0 {f:Int} (hM:ZJ P=true) (h0:0<=f) (h1:f <P.funs.length):Q4b (Qt P f)=true:=by
 have hj:f.toNat <P.funs.length:=by omega
 have e1:P.funs[f.toNat]=Qt P f:=by
  have:=J9 h0 h1;rw[List.getElem?_eq_getElem hj]at this;exact Option.some.inj this
 cases hh:Q4b (Qt P f)with
 |true=>rfl
 |false=>rw[<-e1]at hh;rw[Q8a hj hh]at hM;cases hM
theorem at_ok {y:MFrm} (hM:ZJ P=true) (ok:FrOk P y) (h1:(Q0U P y.fn y.at').op≠31) (h2:(Q0U P y.fn y.at').op≠33):y.at'+1 <(Qt P y.fn).code.length:=by
 have a0:=ok.a0;have a1:=ok.a1;refine Classical.byContradiction fun hc=>?_;have hl:=Qb0 hM ok.f0 ok.f1;unfold Q4b at hl;rw[last_at (by omega)]at hl
 have e:(Qt P y.fn).code[(Qt P y.fn).code.length -1]'(by omega)=Q0U P y.fn y.at':=by
  have:=Q4m ok;rw[List.getElem?_eq_getElem (by omega)]at this;have:=Option.some.inj this;rw[<-this]
  congr 1;omega
 rw[e]at hl;simp only[Bool.or_eq_true,decide_eq_true_eq]at hl;exact hl.elim h2 h1
theorem QeA {k:Nat} {f:MFrm->MFrm} (hT:Km P T) (hf: ∀y,T.F[k]?=some y->FrOk P y->FrOk P (f y)):Km P {T with F:=T.F.modify k f}:=by
 refine⟨by show(T.F.modify k f).length<=32;rw[List.length_modify];exact hT.1,fun y hy=>?_⟩;have hy:y∈T.F.modify k f:=hy;obtain⟨i,hi,rfl⟩:=List.mem_iff_getElem.1 hy;have hi':i <T.F.length:=by rw[List.length_modify]at hi;exact hi
 have k':=hT.2 _ (List.getElem_mem hi');rw[List.getElem_modify]
 split
 · rename_i e;subst e;exact hf _ (List.getElem?_eq_getElem hi') k'
 exact k'
theorem Qfn {y:MFrm} {a:Nat} (hT:Km P T) (hy:T.F[T.F.length -1 -a]?=some y) (h:y.at'+1 <(Qt P y.fn).code.length):Km P (onT T a):=by
 refine QeA hT fun z hz ok=>?_;rw[hy]at hz;cases hz;have:=ok.a0;exact⟨ok.f0,ok.f1,by show 0<=y.at'+1;omega,h,ok.r⟩
theorem Qco {k:Nat} {n:Int} {y:MFrm} (hT:Km P T) (hy:T.F[k]?=some y) (h0:0<=n) (h:n <(Qt P y.fn).code.length):Km P {T with F:=atF T.F k n}:=by
 refine QeA hT fun z hz ok=>?_;rw[hy]at hz;cases hz;exact⟨ok.f0,ok.f1,h0,h,ok.r⟩
theorem QeY {a n:Int} (hl:0 <T.F.length):(setT T a n).F[(setT T a n).F.length -1]?=some {Qv T with regs:=(Qv T).regs.set a.toNat n}:=by
 show(Q36 T.F (T.F.length -1) a n)[(Q36 T.F (T.F.length -1) a n).length -1]?=_;rw[Q7N];unfold Q36;rw[List.getElem?_modify_eq,Y5 hl];rfl
structure OnH (P:Prg) (T:MThr):Prop where
 m:ZJ P=true
 t:Km P T
 l:0 <T.F.length
 o1:(Qb P T).op≠31
 o2:(Qb P T).op≠33
theorem OnH.at (h:OnH P T):(Qv T).at'+1 <(Qt P (Qv T).fn).code.length:=at_ok h.m (h.t.2 _ (ZW h.l)) h.o1 h.o2
theorem OnH.on0 (h:OnH P T):Km P (onT T 0):=Qfn h.t (Y5 h.l) h.at
theorem OnH.on1 {a n:Int} (h:OnH P T):Km P (onT (setT T a n) 0):=Qfn (JS h.t).1 (QeY h.l) h.at
theorem Q25 {a:Nat}:(onT T a).F.length=T.F.length:=Q4n _ _
theorem Q9u (h:OnH P T) (hv:TV x T T'):Km P T'/\T'.F.length=T.F.length:=by
 rcases hv with⟨k,_,rfl⟩| ⟨T1,h1,rfl⟩
 · exact⟨h.t,rfl⟩
 rcases h1 with rfl| ⟨n,rfl⟩
 · exact⟨h.on0,Q25⟩
 exact⟨h.on1,by rw[Q25];exact(JS h.t).2⟩
theorem TS_ok (h:OnH P T) (hv:TS x T T'):Km P T'/\T'.F.length=T.F.length:=by
 rcases hv with rfl| ⟨k,_,rfl⟩| ⟨n,rfl⟩
 · exact⟨h.t,rfl⟩
 · exact⟨h.t,rfl⟩
 exact⟨h.on1,by rw[Q25];exact(JS h.t).2⟩
theorem TC_ok (h:OnH P T) (hv:TC P T T'):Km P T':=by
 rcases hv with⟨k,_,rfl⟩| ⟨f,cells,f0,f1,hc,hl,rfl⟩
 · exact h.t
 refine Qfn (y:=Qv T) (Q7j h.m h.t f0 f1 hc hl) ?_ h.at;show(T.F++[_])[(T.F++[Y9 P f cells]).length -1 -1]?=_;rw[List.length_append,List.length_singleton,Nat.add_sub_cancel,List.getElem?_append_left (by have:=h.l;omega)];exact Y5 h.l
theorem Qd9 {it:Int} (h:OnH P T):Km P (Q6M x T it)/\(Q6M x T it).F.length=T.F.length:=by
 cases e:ZT x (Qv T).regs it with
 |none=>rw[Q0E e];exact⟨h.t,rfl⟩
 |some n=>rw[Q37 e];exact⟨h.on1,by rw[Q25];exact(JS h.t).2⟩
theorem pop_ok (hT:Km P T):Km P {T with F:=T.F.take (T.F.length -1)}:=
 ⟨Nat.le_trans (by show(T.F.take _).length<=_;rw[List.length_take];omega) hT.1,fun y hy=>hT.2 y (List.mem_of_mem_take hy)⟩
theorem Q1A {F:Fun} (hi:Z2 P F x=true) (ho:x.op=31\/x.op=32):0<=x.n/\x.n <F.code.length:=by
 have hn:=Q0e hi;unfold Q18 at hn;rw[if_neg (by omega),if_neg (by omega),if_neg (by omega),if_neg (by omega),if_neg (by omega),if_neg (by omega),if_pos ho]at hn;exact Z9.1 hn
end
section
variable {h0 h:Hp} {ds:List Nat} {A B:List Res} {tb:Nat} {pv:List Value} {T:MThr}
theorem Q1q {w:ThW} (S:SH h0 ds (A++thL tb pv T w) h) (hw:w.vs.length=T.F.length): ∃bs',SH h0 ds (A++[thR tb pv T bs']) h:=⟨_,Kz S ⟨w,hw,rfl⟩⟩
theorem JY {ra:Option Addr} {n c:Nat} {R:List Int} {vb:List Nat} (x:SlC 2 0 h (.slice ra n c) (isV R) R.length vb) (hp:0 <R.length): ∃b cs m,ra=some ⟨b,0,none⟩/\h.get b=some (.cells cs 2 m)/\ ∀a:Int,0<=a->a <R.length->cs[0+Int.toNat a*1]?=some (iV (reg R a)):=by
 obtain⟨b,cs,m,rfl,hg,_⟩:=Q2P x (Int.le_refl 0) (by omega);refine⟨b,cs,m,rfl,hg,fun a h0 h1=>?_⟩;obtain⟨b',cs',m',e,hg',hc⟩:=Q2P x h0 h1;cases e;rw[hg]at hg';cases hg';exact hc
theorem Q8s: ∀(l:List MFrm) (c:List (Value×List Nat)) (k:Nat),c.length=l.length->(frC l c).take (k*3)=frC (l.take k) (c.take k)
 | [],[],k,_=>by simp[frC]
 | [],_::_,_,h=>by simp at h
 |_::_,[],_,h=>by simp at h
 |o::l,v::c,0,_=>by simp[frC]
 | o::l,v::c,k+1,h=>by
   show([iV o.fn,iV o.at',v.1]++frC l c).take ((k+1)*3)=[iV o.fn,iV o.at',v.1]++frC (l.take k) (c.take k);rw[<-Q8s l c k (by simpa using h),show(k+1)*3=3+k*3 by omega,List.take_append];have:([iV o.fn,iV o.at',v.1]:List Value).length=3:=rfl;rw[this,Nat.add_sub_cancel_left,List.take_of_length_le (by rw[this];omega)]
theorem th_pop {b c:Nat} {fb:List Nat} {vs:List (Value×List Nat)} (hw:vs.length=T.F.length) (hl:0 <T.F.length) (S:SH h0 ds (cR tb (.cells (pv++[.slice (some ⟨b,0,none⟩) (T.F.length -1) c,iV T.trap]) 166 0)::slR 162 2 (.slice (some ⟨b,0,none⟩) T.F.length c) (frC T.F vs) T.F.length fb::(frP T.F vs++B)) h):SH h0 ds (thL tb pv {T with F:=T.F.take (T.F.length -1)} ⟨.slice (some ⟨b,0,none⟩) (T.F.length -1) c,fb,vs.take (T.F.length -1)⟩++B) h:=by
 have x:=S.sl 1 rfl;have x':=x.first (k:=T.F.length -1) (by omega)
 rw[Q8s _ _ _ hw]at x';have S1:=S.upd (r':=slR 162 2 (.slice (some ⟨b,0,none⟩) (T.F.length -1) c) (frC (T.F.take (T.F.length -1)) (vs.take (T.F.length -1))) (T.F.length -1) fb) 1 rfl (ExtB.refl _ _) x' (fun j hj=>S.lt j (by simp[owns,cR,slR]at hj ⊢;exact .inr (.inl hj))) (fun j hj=>.inl hj) x.nodup
 have eF:T.F=T.F.take (T.F.length -1)++[T.F[T.F.length -1]'(by omega)]:=by
  have:=List.take_append_drop (T.F.length -1) T.F;rw[List.drop_eq_getElem_cons (by omega),List.drop_of_length_le (by omega)]at this;exact this.symm
 have eV:vs=vs.take (T.F.length -1)++[vs[T.F.length -1]'(by omega)]:=by
  have:=List.take_append_drop (T.F.length -1) vs;rw[List.drop_eq_getElem_cons (by omega),List.drop_of_length_le (by omega)]at this;exact this.symm
 have eP:frP T.F vs=frP (T.F.take (T.F.length -1)) (vs.take (T.F.length -1))++[slR 2 0 (vs[T.F.length -1]'(by omega)).1 (isV (T.F[T.F.length -1]'(by omega)).regs) (T.F[T.F.length -1]'(by omega)).regs.length (vs[T.F.length -1]'(by omega)).2]:=by
  conv=>lhs;rw[eF,eV]
  rw[Q4q _ _ _ _ (by simp[hw])]
 have el:(T.F.take (T.F.length -1)).length=T.F.length -1:=by simp
 have S2:SH h0 ds ((thL tb pv {T with F:=T.F.take (T.F.length -1)} ⟨.slice (some ⟨b,0,none⟩) (T.F.length -1) c,fb,vs.take (T.F.length -1)⟩)++slR 2 0 (vs[T.F.length -1]'(by omega)).1 (isV (T.F[T.F.length -1]'(by omega)).regs) (T.F[T.F.length -1]'(by omega)).regs.length (vs[T.F.length -1]'(by omega)).2::B) h:=by
  have S1:SH h0 ds (cR tb (.cells (pv++[.slice (some ⟨b,0,none⟩) (T.F.length -1) c,iV T.trap]) 166 0)::slR 162 2 (.slice (some ⟨b,0,none⟩) (T.F.length -1) c) (frC (T.F.take (T.F.length -1)) (vs.take (T.F.length -1))) (T.F.length -1) fb::(frP T.F vs++B)) h:=S1;rw[eP,List.append_assoc]at S1;unfold thL;show SH h0 ds (cR tb (.cells (pv++[.slice (some ⟨b,0,none⟩) (T.F.length -1) c,iV T.trap]) 166 0)::slR 162 2 (.slice (some ⟨b,0,none⟩) (T.F.length -1) c) (frC (T.F.take (T.F.length -1)) (vs.take (T.F.length -1))) (T.F.take (T.F.length -1)).length fb::(frP (T.F.take (T.F.length -1)) (vs.take (T.F.length -1))++_)) h;rw[el];exact S1
 exact S2.unmid.drop
end
end Go.Proofs.Yteinandjhpnceaa
namespace Go.Proofs.Yteinandjhpnceaa
open Go.X Go.May Go.Mac
section
variable {h0 h:Hp} {P:Prg} {V:PrV} {tb:Nat} {T:MThr} {bs:List Nat} {o:Int}
theorem m73z (X0:Q1f h0 P V) (e0:Ext h0 h) (p:Held (thR tb (pvL P V) T bs) h) (hT:Km P T) (hl:0 <T.F.length):C modE 73 [Qw tb] h fun v h'=>(∃lv ln,v=QfQ (Qb P T) lv ln/\RowV h0 lv (isV (Qb P T).l))/\Ext h h':=by
 obtain⟨a,c,w,hw,_,hq,hql,hr,hnl,hrv⟩:=Q1N p;obtain⟨b,r,m,rfl,hgr,hfb,_⟩:=Q9f hr hl;have hbl:=hnl b (by rw[hfb];simp);have htop:=Y5 hl;have ok:=hT.2 _ (ZW hl);have h32:=hT.1;obtain⟨v,hv⟩: ∃v,w.vs[T.F.length -1]?=some v:=⟨_,List.getElem?_eq_getElem (by omega)⟩
 have k0:((frC T.F w.vs++r).drop (0+Int.toNat ((T.F.length:Int) -1)*3)).take 3=[iV (Qv T).fn,iV (Qv T).at',v.1]:=by
  rw[Nat.zero_add,show Int.toNat ((T.F.length:Int) -1)=T.F.length -1 by omega];exact Q0g _ _ _ _ _ _ htop hv
 obtain⟨fb,fo,fc,fcs,fe,fm,hfu,hfg0,hfl0,hfn,s,cv,hfc,hco⟩:=PrgAt.fun X0 ok.f0 ok.f1;have hfg:=(e0.get _ hfl0).trans hfg0;have hfl:=Nat.lt_of_lt_of_le hfl0 e0.n;obtain⟨cb,co,cc,ccs,ce,cm,rfl,hcg0,hcl0,hcn,hcat⟩:=hco.at (by have:=ok.a0;have:=ok.a1;omega);have hcg:=(e0.get _ hcl0).trans hcg0;have hcl:=Nat.lt_of_lt_of_le hcl0 e0.n;have f0:=ok.f0;have f1:=ok.f1;have a0:=ok.a0;have a1:=ok.a1;have hj:(Qv T).at'.toNat <(Qt P (Qv T).fn).code.length:=by omega
 have kf:fcs[fo+Int.toNat (Qv T).fn*4+3]?=some (.slice (some ⟨cb,co,none⟩) (Qt P (Qv T).fn).code.length cc):=Qs hfc (by omega) rfl;obtain⟨⟨lv,ln,hic,hlv⟩,_⟩:=hcat _ hj
 have ei:(Qt P (Qv T).fn).code[(Qv T).at'.toNat]=Qb P T:=by
  have:=Q4m ok;rw[List.getElem?_eq_getElem hj]at this;exact Option.some.inj this
 rw[ei]at hic hlv;obtain⟨lva,lvc,rfl⟩:=hlv.valM;refine YZ (fu:=Try.f73) (by kernel_rfl) rfl ?_;have S:=SH.start h;refine Q6 ?_;refine Qo (zv:=.agg #[.int .i64 0,.int .i64 0,.int .i64 0,.int .i64 0,.int .i64 0,.slice none 0 0,.int .i64 0,.int .i64 0]) S gn rfl (by kernel_rfl) fun b1 g nb1 S=>?_;refine Q0<|Q3<|I9<|I1 rfl<|I6 rfl<|I0 8 rfl<|I4 rfl (S.old0 hq hql) rfl<|I1 rfl<|I6 rfl<|I0 8 rfl<|I4 rfl (S.old0 hq hql) rfl<|I7 rfl<|Iso rfl rfl<|I5o 3 rfl rfl ?_
 refine Z4 (n:=3) gn rfl rfl (by kernel_rfl) (by kernel_rfl) (S.old0 hgr hbl) (by rw[List.length_append,JE _ _ hw];omega) ?_;rw[k0];refine Qo (zv:=.agg #[.int .i64 0,.int .i64 0,.slice none 0 0]) S gn rfl (by kernel_rfl) fun b2 g nb2 S=>?_;refine Qe (n:=3) 0 S gn rfl rfl (QbA (hrv _ _ _ htop hv).cellV) (by kernel_rfl) rfl rfl (by decide) rfl (fun g S=>ag0) fun g S=>?_;refine Q0<|Q3<|I9<|I1 rfl<|I6 rfl<|I0 0 rfl<|I0 3 rfl<|I4 rfl (S.old0 hq hql) rfl<|I0 0 rfl<|I4 rfl (S.cel 0 rfl) rfl ?_;rw[hfu];refine I5o 4 rfl rfl ?_;rw[<-hfu];refine I0 3 rfl ?_
 refine I4 rfl (S.old0 hfg hfl) kf<|I0 1 rfl<|I4 rfl (S.cel 0 rfl) rfl<|I5o 8 rfl rfl<|I3 8 rfl (S.old0 hcg hcl) (by omega) ?_;rw[hic];refine Qe (n:=8) 1 S gn rfl rfl (by kernel_rfl) (by kernel_rfl) rfl rfl (by decide) rfl (fun g S=>ag0) fun g S=>?_;refine Q0<|Q7 ?_;refine⟨.inl rfl,_,(Zp rfl (by kernel_rfl) (by kernel_rfl) (S.cel 1 rfl) rfl rfl),?_⟩;exact⟨⟨_,ln,rfl,hlv⟩,S.e0⟩
end
end Go.Proofs.Yteinandjhpnceaa
namespace Go.Proofs.Yteinandjhpnceaa
open Go.X Go.May Go.Mac
structure StepP (P:Prg) (T:MThr) (H:List MObj) (a:MAsk) (e:Int) (T':MThr) (H':List MObj):Prop where
 t:Km P T'
 h:H'.length<=1024
 acc:a.acc.length<=1
 ask:a.op≠0->e=0/\T'=T/\H'=H/\a=Q4G (Qb P T) (Qv T).regs/\K6 (Qb P T).op=true
 over:Y7 T=true->e≠0
abbrev asN (A:List MAcc):MAsk:=⟨0,0,0,0,0,A⟩
theorem Q1t {T:MThr} (h:Y7 T=false):0 <T.F.length:=by
 unfold Y7 at h;simp at h;exact Nat.pos_of_ne_zero fun e=>h.1 (List.eq_nil_of_length_eq_zero e)
theorem Q8M {o:Int} (h:K6 o=false):o≠9/\o≠10/\ ¬(23<=o/\o<=30):=by
 unfold K6 at h;simp only[Bool.or_eq_false_iff,decide_eq_false_iff_not,Bool.and_eq_false_iff]at h;refine⟨h.1.1,h.1.2,fun k=>?_⟩;rcases h.2 with h|h
 · exact h k.1
 exact h k.2
theorem SH.nilTo {h0 h:Hp} {ds:List Nat} {L:List Res} (S:SH h0 ds L h):SH h0 ds (slR 34 4 (.slice none 0 0) (acC []) 0 []::L) h:=S.nilSl 34 4
section
variable {h0 h:Hp} {P:Prg} {V:PrV} {tb ph:Nat} {T:MThr} {H:List MObj} {hbs bs:List Nat}
set_option maxHeartbeats 8000000 in
theorem m77 {task it:Int} (S0:SH h0 [] [hpR ph H hbs,thR tb (pvL P V) T bs] h) (X0:Q1f h0 P V) (hM:ZJ P=true) (hT:Km P T) (hH:H.length<=1024):C modE 77 [Qw tb,Qw ph,iV task,iV it] h fun r g'=> ∃(a:MAsk) (e:Int) (sv:Value) (ab:List Nat) (T':MThr) (H':List MObj) (bs' hbs':List Nat),r=.tuple #[askV a sv,iV e]/\StepP P T H a e T' H'/\SH h (owns [hpR ph H hbs,thR tb (pvL P V) T bs]) [slR 34 4 sv (acC a.acc) a.acc.length ab,hpR ph H' hbs',thR tb (pvL P V) T' bs'] g':=by
 have SE:=S0.enterL;have h32:=hT.1;have hH6:H.length<=1000000:=by omega
 refine YZ (fu:=Try.f77) (by kernel_rfl) rfl ?_;have S:=SE;refine Q6 ?_;refine Qo (zv:=.agg #[.int .i64 0,.int .i64 0,.int .i64 0,.int .i64 0,.int .i64 0,.slice none 0 0]) S gn rfl (by kernel_rfl) fun b1 g nb1 S=>?_;refine I2 rfl<|Z7<|I1 rfl<|Ic [_] rfl rfl (Qr (m79 (S.held 2 rfl)) ⟨ag0,?_⟩);refine Q0<|Q2 rfl (fun hb=>?_) fun hb=>?_
 · skip
   refine Q6<|Qz (zv:=.agg #[.int .i64 0,.int .i64 0,.int .i64 0,.int .i64 0,.int .i64 0,.slice none 0 0]) (pl:=[(0,1),(1,1),(2,1),(3,1),(4,1),(5,1)]) [] gn rfl (by kernel_rfl) (by kernel_rfl) rfl (by rfl) ?_;refine Qe (n:=6) 0 S gn rfl rfl rfl (by kernel_rfl) rfl rfl (by decide) rfl (fun g S=>ag0) fun g S=>?_;refine I2 rfl<|Q0<|Q7 ?_;refine⟨.inl rfl,_,(Zp rfl (by kernel_rfl) (by kernel_rfl) (S.cel 0 rfl) rfl (Yw rfl rfl)),?_⟩;exact⟨asN [],13,.slice none 0 0,[],T,H,bs,hbs,rfl,⟨hT,hH,Nat.zero_le _,fun e=>absurd rfl e,fun _=>by decide⟩,SH.nilTo S.drop⟩
 refine Q4<|Q6 ?_;have hov:Y7 T=false:=hb;have hl:=Q1t hov;refine I1 rfl<|Ic [_] rfl rfl (C.mono (m73z X0 (S0.all0 S0.own0L S) (S.held 2 rfl) hT hl) ?_);rintro v g ⟨⟨lv,ln,rfl,hlv0⟩,x⟩;have S:=S.grow x;obtain⟨lva,lvc,rfl⟩:=hlv0.valM;refine⟨ag0,?_⟩;refine Qo (zv:=.agg #[.int .i64 0,.int .i64 0,.int .i64 0,.int .i64 0,.int .i64 0,.slice none 0 0,.int .i64 0,.int .i64 0]) S gn rfl (by kernel_rfl) fun b2 g nb2 S=>?_;refine Qe (n:=8) 0 S gn rfl rfl rfl (by kernel_rfl) rfl rfl (by decide) rfl (fun g S=>ag0) fun g S=>?_
 have S:SH h (owns [hpR ph H hbs,thR tb (pvL P V) T bs]) ([bxR b2 (Qb P T) (.slice lva (Qb P T).l.length lvc) ln,cR b1 (.cells [iV 0,iV 0,iV 0,iV 0,iV 0,.slice none 0 0] 172 0),hpR ph H hbs]++[thR tb (pvL P V) T bs]) g:=S;obtain⟨⟨fv,wb,vs⟩,hw,hown,S⟩:=Q9T S;have hw:vs.length=T.F.length:=hw;have S:SH h (owns [hpR ph H hbs,thR tb (pvL P V) T bs]) (bxR b2 (Qb P T) (.slice lva (Qb P T).l.length lvc) ln::cR b1 (.cells [iV 0,iV 0,iV 0,iV 0,iV 0,.slice none 0 0] 172 0)::hpR ph H hbs::thL tb (pvL P V) T ⟨fv,wb,vs⟩) g:=S;obtain⟨fa,fc,hfv⟩:=Qa (S.sl 4 rfl);have hfv:fv=.slice fa T.F.length fc:=hfv;subst hfv
 have hrow:SlC 162 2 g (.slice fa T.F.length fc) (frC T.F vs) T.F.length wb:=S.sl 4 rfl;obtain⟨fb,r,m,rfl,hgr,hfb,hm5⟩:=Q9f hrow hl;have htop:=Y5 hl;have ok:=hT.2 _ (ZW hl);have hrl:=ok.r;have hi:=Q8q hM ok;have hi:Z2 P (Qt P (Qv T).fn) (Qb P T)=true:=hi;obtain⟨⟨v1,vb⟩,hv⟩: ∃v,vs[T.F.length -1]?=some v:=⟨_,List.getElem?_eq_getElem (by omega)⟩;have hix:Int.toNat ((T.F.length:Int) -1)=T.F.length -1:=by omega
 have k0:(frC T.F vs++r)[0+Int.toNat ((T.F.length:Int) -1)*3+2]?=some v1:=by rw[hix,Nat.zero_add];exact Qs (Q0g _ _ _ _ _ _ htop hv) (by omega) rfl
 have k1:(frC T.F vs++r)[0+Int.toNat ((T.F.length:Int) -1)*3+1]?=some (iV (Qv T).at'):=by rw[hix,Nat.zero_add];exact Qs (Q0g _ _ _ _ _ _ htop hv) (by omega) rfl
 have hpT:(thL tb (pvL P V) T ⟨.slice (some ⟨fb,0,none⟩) T.F.length fc,wb,vs⟩)[2+(T.F.length -1)]?=some (slR 2 0 v1 (isV (Qv T).regs) (Qv T).regs.length vb):=Q2Z (v:=(v1,vb)) htop hv;have hpj:(bxR b2 (Qb P T) (.slice lva (Qb P T).l.length lvc) ln::cR b1 (.cells [iV 0,iV 0,iV 0,iV 0,iV 0,.slice none 0 0] 172 0)::hpR ph H hbs::thL tb (pvL P V) T ⟨.slice (some ⟨fb,0,none⟩) T.F.length fc,wb,vs⟩)[2+(T.F.length -1)+1+1+1]?=some (slR 2 0 v1 (isV (Qv T).regs) (Qv T).regs.length vb):=hpT;obtain⟨ra,rc,rfl⟩:=Qa (S.sl _ hpj);refine Q0<|Q3<|I9<|I1 rfl<|I6 rfl<|I0 8 rfl ?_
 refine I4 rfl (S.cel 3 rfl) rfl<|I1 rfl<|I6 rfl<|I0 8 rfl<|I4 rfl (S.cel 3 rfl) rfl<|I7 rfl<|Iso rfl rfl<|I5o 3 rfl rfl<|I2 rfl<|QL<|I1 rfl<|I6 rfl<|I0 2 rfl<|I4 rfl hgr k0<|I2 rfl<|Z7 ?_;refine I0 0 rfl<|I4 rfl (S.cel 0 rfl) rfl<|Ic [_] rfl rfl (Qr (m84) ⟨ag0,?_⟩);refine Q0<|Q2 rfl (fun hb=>?_) fun hb=>?_
 · skip
   refine Q6<|I1 rfl<|I3 8 rfl (S.cel 0 rfl) (Nat.le_refl _)<|I1 rfl<|Ic [_,_,_] rfl rfl (C.mono (m85 (S.sl _ hpj).row hrl rfl hi) ?_);rintro v g ⟨rfl,x⟩;have S:=S.grow x;refine⟨ag0,?_⟩;refine Qe (n:=6) 1 S gn rfl rfl rfl (by kernel_rfl) rfl rfl (by decide) rfl (fun g S=>ag0) fun g S=>?_;refine I2 rfl<|Q0<|Q7 ?_;refine⟨.inl rfl,_,(Zp rfl (by kernel_rfl) (by kernel_rfl) (S.cel 1 rfl) rfl (Yw rfl rfl)),?_⟩
   exact(by
    obtain⟨bs',S⟩:=Q1q (A:=[_]) (SH.nilTo S.drop.drop).drop hw
    exact⟨Q4G (Qb P T) (Qv T).regs,0,.slice none 0 0,[],T,H,bs',hbs,rfl,⟨hT,hH,Nat.zero_le _,fun _=>⟨rfl,rfl,rfl,rfl,hb⟩,fun e=>by rw[hov]at e;cases e⟩,SH.nilTo S⟩)
 refine Q4<|Q3<|Q6 ?_;have hns:=Q8M hb;have S3:SH h (owns [hpR ph H hbs,thR tb (pvL P V) T bs]) (thL tb (pvL P V) T ⟨.slice (some ⟨fb,0,none⟩) T.F.length fc,wb,vs⟩++[bxR b2 (Qb P T) (.slice lva (Qb P T).l.length lvc) ln,cR b1 (.cells [iV 0,iV 0,iV 0,iV 0,iV 0,.slice none 0 0] 172 0),hpR ph H hbs]) g:=SH.comm (A:=[_,_,_]) S;refine I1 rfl<|I3 8 rfl (S.cel 0 rfl) (Nat.le_refl _)<|I1 rfl<|I1 rfl<|Ic [_,_,_,_] rfl rfl (C.mono (m86 (v:=(_,vb)) (SH.subL S0 S0.own0L S3) hM hw hT hl hi hv rfl) ?_);rintro v g ⟨rfl,S2⟩;have S:=SH.comm (B:=[_,_,_]) (SH.retL S3 S2);refine⟨ag0,?_⟩;refine Q0 ?_
 refine Q2 rfl (fun hb=>?_) fun hb=>?_
 · skip
   refine Q6<|Qz (zv:=.agg #[.int .i64 0,.int .i64 0,.int .i64 0,.int .i64 0,.int .i64 0,.slice none 0 0]) (pl:=[(0,1),(1,1),(2,1),(3,1),(4,1),(5,1)]) [] gn rfl (by kernel_rfl) (by kernel_rfl) rfl (by rfl) ?_;refine Qe (n:=6) 1 S gn rfl rfl rfl (by kernel_rfl) rfl rfl (by decide) rfl (fun g S=>ag0) fun g S=>?_;refine I2 rfl<|Q0<|Q7 ?_;refine⟨.inl rfl,_,(Zp rfl (by kernel_rfl) (by kernel_rfl) (S.cel 1 rfl) rfl (Yw rfl rfl)),?_⟩
   exact(by
    have hr8:1<=(Qb P T).op/\(Qb P T).op<=8:=by
     obtain⟨n,hn⟩:=Option.isSome_iff_exists.1 (show(ZT (Qb P T) (Qv T).regs it).isSome=true from hb);exact reckR hn
    have hon:OnH P T:=⟨hM,hT,hl,by omega,by omega⟩;have hk:=Qd9 (x:=Qb P T) (it:=it) hon;obtain⟨bs',S⟩:=Q1q (A:=[_]) S.drop.drop (hw.trans hk.2.symm)
    exact⟨asN [],0,.slice none 0 0,[],_,H,bs',hbs,rfl,⟨hk.1,hH,Nat.zero_le _,fun e=>absurd rfl e,fun e=>by rw[hov]at e;cases e⟩,SH.nilTo S⟩)
 refine Q4<|Q3<|Q6 ?_
 have hrn:ZT (Qb P T) (Qv T).regs it=none:=by
  cases e:ZT (Qb P T) (Qv T).regs it with
  |none=>rfl
  |some n=>rw[e]at hb;cases hb
 rw[Q0E hrn]at S;have Sd:SH h (owns [hpR ph H hbs,thR tb (pvL P V) T bs]) ((hpR ph H hbs::thL tb (pvL P V) T ⟨.slice (some ⟨fb,0,none⟩) T.F.length fc,wb,vs⟩)++[bxR b2 (Qb P T) (.slice lva (Qb P T).l.length lvc) ln,cR b1 (.cells [iV 0,iV 0,iV 0,iV 0,iV 0,.slice none 0 0] 172 0)]) g:=SH.comm (A:=[_,_]) S;refine I1 rfl<|I1 rfl<|I3 8 rfl (S.cel 0 rfl) (Nat.le_refl _)<|I1 rfl<|I1 rfl<|Ic [_,_,_,_,_] rfl rfl (C.mono (m87 (v:=(_,vb)) (SH.subL S0 S0.own0L Sd) X0 hM hw hT hl hi hv hlv0 hH) ?_);rintro v g ⟨mb,me,T',H',hbs',rfl,hmf,hmt,hTS,hH',S2⟩;have S:=SH.comm (B:=[_,_]) (SH.retL Sd S2)
 refine⟨ag0,?_⟩;refine I1 rfl<|Ix rfl rfl<|Ix rfl rfl<|I2 rfl<|I2 rfl<|QL<|I1 rfl<|Q0<|Q2 rfl (fun hb=>?_) fun hb=>?_
 · skip
   refine Q6<|Qz (zv:=.agg #[.int .i64 0,.int .i64 0,.int .i64 0,.int .i64 0,.int .i64 0,.slice none 0 0]) (pl:=[(0,1),(1,1),(2,1),(3,1),(4,1),(5,1)]) [] gn rfl (by kernel_rfl) (by kernel_rfl) rfl (by rfl)<|I1 rfl ?_;refine Qe (n:=6) 1 S gn rfl rfl rfl (by kernel_rfl) rfl rfl (by decide) rfl (fun g S=>ag0) fun g S=>?_;refine I2 rfl<|Q0<|Q7 ?_;refine⟨.inl rfl,_,(Zp rfl (by kernel_rfl) (by kernel_rfl) (S.cel 1 rfl) rfl (Yw rfl rfl)),?_⟩
   exact(by
    have hmk:=hmt hb;have hon:OnH P T:=⟨hM,hT,hl,by rcases hmk with e|e|e|e<;>omega,by rcases hmk with e|e|e|e<;>omega⟩;have hk:=TS_ok hon hTS;obtain⟨bs',S⟩:=Q1q (A:=[_]) S.drop.drop (hw.trans hk.2.symm)
    exact⟨asN [],me,.slice none 0 0,[],_,H',bs',hbs',rfl,⟨hk.1,hH',Nat.zero_le _,fun e=>absurd rfl e,fun e=>by rw[hov]at e;cases e⟩,SH.nilTo S⟩)
 refine Q4<|Q6 ?_;obtain⟨hT',hHH,hno⟩:=hmf hb;have S:SH h (owns [hpR ph H hbs,thR tb (pvL P V) T bs]) (bxR b2 (Qb P T) (.slice lva (Qb P T).l.length lvc) ln::cR b1 (.cells [iV 0,iV 0,iV 0,iV 0,iV 0,.slice none 0 0] 172 0)::hpR ph H' hbs'::thL tb (pvL P V) T' ⟨.slice (some ⟨fb,0,none⟩) T.F.length fc,wb,vs⟩) g:=S;rw[hT',hHH]at S;clear hpj
 have hpj:(bxR b2 (Qb P T) (.slice lva (Qb P T).l.length lvc) ln::cR b1 (.cells [iV 0,iV 0,iV 0,iV 0,iV 0,.slice none 0 0] 172 0)::hpR ph H hbs'::thL tb (pvL P V) T ⟨.slice (some ⟨fb,0,none⟩) T.F.length fc,wb,vs⟩)[2+(T.F.length -1)+1+1+1]?=some (slR 2 0 (.slice ra (Qv T).regs.length rc) (isV (Qv T).regs) (Qv T).regs.length vb):=hpT;refine I2 rfl<|Q0 ?_
 refine Y1 [(8,Qw b1)] (fun lv hh=> ∃(s:Value) (A:List MAcc) (ab:List Nat) (T':MThr) (w':ThW) (H':List MObj) (hbs':List Nat),lv=[(15,s)]/\w'.vs.length=T'.F.length/\Km P T'/\H'.length<=1024/\A.length<=1/\SH h (owns [hpR ph H hbs,thR tb (pvL P V) T bs]) ((slR 34 4 s (acC A) A.length ab::hpR ph H' hbs'::thL tb (pvL P V) T' w')++[bxR b2 (Qb P T) (.slice lva (Qb P T).l.length lvc) ln,cR b1 (.cells [iV 0,iV 0,iV 0,iV 0,iV 0,.slice none 0 0] 172 0)]) hh) ?_ fun lv hh hJ=>?_
 · skip
   refine Q6<|I0 0 rfl<|I4 rfl (S.cel 0 rfl) rfl<|Q0<|Q5<|Q6<|Ie rfl rfl<|I2 rfl<|Q0<|Q2 rfl (fun hb=>?_) fun hb=>?_
   · skip
     refine I9 ?_;have ho:(Qb P T).op=12:=of_decide_eq_true hb
     have hxb:0<=(Qb P T).b/\(Qb P T).b <(Qv T).regs.length:=by
      rw[hrl];exact Q1X hi (by rw[ho];decide)
     obtain⟨b3,cs3,m3,rfl,hg3,hat3⟩:=JY (S.sl _ hpj) (by omega);have kb:=hat3 _ hxb.1 hxb.2;refine I1 rfl<|I1 rfl<|I3 8 rfl (S.cel 0 rfl) (Nat.le_refl _)<|I1 rfl<|I0 2 rfl<|I4 rfl (S.cel 0 rfl) rfl<|I5o 1 rfl rfl<|I4 rfl hg3 kb<|I1 rfl ?_;have Sd:SH h (owns [hpR ph H hbs,thR tb (pvL P V) T bs]) ((hpR ph H hbs'::thL tb (pvL P V) T ⟨.slice (some ⟨fb,0,none⟩) T.F.length fc,wb,vs⟩)++[bxR b2 (Qb P T) (.slice lva (Qb P T).l.length lvc) ln,cR b1 (.cells [iV 0,iV 0,iV 0,iV 0,iV 0,.slice none 0 0] 172 0)]) g:=SH.comm (A:=[_,_]) S
     refine Z1 [_,_,_,_,_,_,_,_,_,_] gn rfl rfl (by kernel_rfl) rfl (C.mono (m88 (v:=(_,vb)) (SH.subL S0 S0.own0L Sd) hM hw hT hl (fun _=>Q01 hi (by rw[ho];decide)) hv rfl hH) ?_);rintro v g ⟨A2,ab2,T2,H2,hbs2,hA2,hTV,hH2,S2⟩;have S:=SH.retL Sd S2;have hk:=Q9u ⟨hM,hT,hl,by omega,by omega⟩ hTV;refine⟨ag0,?_⟩;refine I2 rfl<|Q0<|Qk ?_;exact ZF [(15,_)] (by repeat(first|exact trivial|refine⟨rfl,?_⟩)) ⟨v,A2,ab2,T2,⟨.slice (some ⟨fb,0,none⟩) T.F.length fc,wb,vs⟩,H2,hbs2,rfl,hw.trans hk.2.symm,hk.1,hH2,hA2,S⟩
   refine Q6<|Ie rfl rfl<|I2 rfl<|Q0<|Q2 rfl (fun hb=>?_) fun hb=>?_
   · skip
     refine I9 ?_;have ho:(Qb P T).op=13:=of_decide_eq_true hb
     have hxa:0<=(Qb P T).a/\(Qb P T).a <(Qv T).regs.length:=by
      rw[hrl];exact Q01 hi (by rw[ho];decide)
     have hxb:0<=(Qb P T).b/\(Qb P T).b <(Qv T).regs.length:=by
      rw[hrl];exact Q1X hi (by rw[ho];decide)
     obtain⟨b3,cs3,m3,rfl,hg3,hat3⟩:=JY (S.sl _ hpj) (by omega);have ka:=hat3 _ hxa.1 hxa.2;have kb:=hat3 _ hxb.1 hxb.2;refine I1 rfl<|I1 rfl<|I3 8 rfl (S.cel 0 rfl) (Nat.le_refl _)<|I1 rfl<|I0 1 rfl<|I4 rfl (S.cel 0 rfl) rfl<|I5o 1 rfl rfl<|I4 rfl hg3 ka<|I1 rfl<|I0 2 rfl<|I4 rfl (S.cel 0 rfl) rfl<|I5o 1 rfl rfl<|I4 rfl hg3 kb<|I1 rfl ?_
     have Sd:SH h (owns [hpR ph H hbs,thR tb (pvL P V) T bs]) ((hpR ph H hbs'::thL tb (pvL P V) T ⟨.slice (some ⟨fb,0,none⟩) T.F.length fc,wb,vs⟩)++[bxR b2 (Qb P T) (.slice lva (Qb P T).l.length lvc) ln,cR b1 (.cells [iV 0,iV 0,iV 0,iV 0,iV 0,.slice none 0 0] 172 0)]) g:=SH.comm (A:=[_,_]) S;refine Ic [_,_,_,_,_,_,_,_,_,_] rfl rfl (C.mono (m88 (v:=(_,vb)) (SH.subL S0 S0.own0L Sd) hM hw hT hl (fun e=>by cases e) hv rfl hH) ?_);rintro v g ⟨A2,ab2,T2,H2,hbs2,hA2,hTV,hH2,S2⟩;have S:=SH.retL Sd S2;have hk:=Q9u ⟨hM,hT,hl,by omega,by omega⟩ hTV;refine⟨ag0,?_⟩;refine I2 rfl<|Q0<|Qk ?_
     exact ZF [(15,_)] (by repeat(first|exact trivial|refine⟨rfl,?_⟩)) ⟨v,A2,ab2,T2,⟨.slice (some ⟨fb,0,none⟩) T.F.length fc,wb,vs⟩,H2,hbs2,rfl,hw.trans hk.2.symm,hk.1,hH2,hA2,S⟩
   refine Q6<|Ie rfl rfl<|I2 rfl<|Q0<|Q2 rfl (fun hb=>?_) fun hb=>?_
   · skip
     refine I9 ?_;have ho:(Qb P T).op=15:=of_decide_eq_true hb
     have hxb:0<=(Qb P T).b/\(Qb P T).b <(Qv T).regs.length:=by
      rw[hrl];exact Q1X hi (by rw[ho];decide)
     obtain⟨b3,cs3,m3,rfl,hg3,hat3⟩:=JY (S.sl _ hpj) (by omega);have kb:=hat3 _ hxb.1 hxb.2;refine I1 rfl<|I1 rfl<|I3 8 rfl (S.cel 0 rfl) (Nat.le_refl _)<|I1 rfl<|I0 2 rfl<|I4 rfl (S.cel 0 rfl) rfl<|I5o 1 rfl rfl<|I4 rfl hg3 kb<|I0 4 rfl<|I4 rfl (S.cel 0 rfl) rfl<|I1 rfl ?_;have Sd:SH h (owns [hpR ph H hbs,thR tb (pvL P V) T bs]) ((hpR ph H hbs'::thL tb (pvL P V) T ⟨.slice (some ⟨fb,0,none⟩) T.F.length fc,wb,vs⟩)++[bxR b2 (Qb P T) (.slice lva (Qb P T).l.length lvc) ln,cR b1 (.cells [iV 0,iV 0,iV 0,iV 0,iV 0,.slice none 0 0] 172 0)]) g:=SH.comm (A:=[_,_]) S
     refine Z1 [_,_,_,_,_,_,_,_,_,_] gn rfl rfl (by kernel_rfl) rfl (C.mono (m88 (v:=(_,vb)) (SH.subL S0 S0.own0L Sd) hM hw hT hl (fun _=>Q01 hi (by rw[ho];decide)) hv rfl hH) ?_);rintro v g ⟨A2,ab2,T2,H2,hbs2,hA2,hTV,hH2,S2⟩;have S:=SH.retL Sd S2;have hk:=Q9u ⟨hM,hT,hl,by omega,by omega⟩ hTV;refine⟨ag0,?_⟩;refine I2 rfl<|Q0<|Qk ?_;exact ZF [(15,_)] (by repeat(first|exact trivial|refine⟨rfl,?_⟩)) ⟨v,A2,ab2,T2,⟨.slice (some ⟨fb,0,none⟩) T.F.length fc,wb,vs⟩,H2,hbs2,rfl,hw.trans hk.2.symm,hk.1,hH2,hA2,S⟩
   refine Q6<|Ie rfl rfl<|I2 rfl<|Q0<|Q2 rfl (fun hb=>?_) fun hb=>?_
   · skip
     refine I9 ?_;have ho:(Qb P T).op=16:=of_decide_eq_true hb
     have hxa:0<=(Qb P T).a/\(Qb P T).a <(Qv T).regs.length:=by
      rw[hrl];exact Q01 hi (by rw[ho];decide)
     have hxb:0<=(Qb P T).b/\(Qb P T).b <(Qv T).regs.length:=by
      rw[hrl];exact Q1X hi (by rw[ho];decide)
     obtain⟨b3,cs3,m3,rfl,hg3,hat3⟩:=JY (S.sl _ hpj) (by omega);have ka:=hat3 _ hxa.1 hxa.2;have kb:=hat3 _ hxb.1 hxb.2;refine I1 rfl<|I1 rfl<|I3 8 rfl (S.cel 0 rfl) (Nat.le_refl _)<|I1 rfl<|I0 1 rfl<|I4 rfl (S.cel 0 rfl) rfl<|I5o 1 rfl rfl<|I4 rfl hg3 ka<|I0 4 rfl<|I4 rfl (S.cel 0 rfl) rfl<|I1 rfl<|I0 2 rfl<|I4 rfl (S.cel 0 rfl) rfl<|I5o 1 rfl rfl<|I4 rfl hg3 kb<|I1 rfl ?_
     have Sd:SH h (owns [hpR ph H hbs,thR tb (pvL P V) T bs]) ((hpR ph H hbs'::thL tb (pvL P V) T ⟨.slice (some ⟨fb,0,none⟩) T.F.length fc,wb,vs⟩)++[bxR b2 (Qb P T) (.slice lva (Qb P T).l.length lvc) ln,cR b1 (.cells [iV 0,iV 0,iV 0,iV 0,iV 0,.slice none 0 0] 172 0)]) g:=SH.comm (A:=[_,_]) S;refine Ic [_,_,_,_,_,_,_,_,_,_] rfl rfl (C.mono (m88 (v:=(_,vb)) (SH.subL S0 S0.own0L Sd) hM hw hT hl (fun e=>by cases e) hv rfl hH) ?_);rintro v g ⟨A2,ab2,T2,H2,hbs2,hA2,hTV,hH2,S2⟩;have S:=SH.retL Sd S2;have hk:=Q9u ⟨hM,hT,hl,by omega,by omega⟩ hTV;refine⟨ag0,?_⟩;refine I2 rfl<|Q0<|Qk ?_
     exact ZF [(15,_)] (by repeat(first|exact trivial|refine⟨rfl,?_⟩)) ⟨v,A2,ab2,T2,⟨.slice (some ⟨fb,0,none⟩) T.F.length fc,wb,vs⟩,H2,hbs2,rfl,hw.trans hk.2.symm,hk.1,hH2,hA2,S⟩
   refine Q6<|Ie rfl rfl<|I2 rfl<|Q0<|Q2 rfl (fun hb=>?_) fun hb=>?_
   · skip
     refine I9 ?_;have ho:(Qb P T).op=18:=of_decide_eq_true hb
     have hxb:0<=(Qb P T).b/\(Qb P T).b <(Qv T).regs.length:=by
      rw[hrl];exact Q1X hi (by rw[ho];decide)
     have hxc:0<=(Qb P T).c/\(Qb P T).c <(Qv T).regs.length:=by
      rw[hrl];exact Qfc hi (by rw[ho];decide)
     obtain⟨b3,cs3,m3,rfl,hg3,hat3⟩:=JY (S.sl _ hpj) (by omega);have kb:=hat3 _ hxb.1 hxb.2;have kc:=hat3 _ hxc.1 hxc.2;refine I1 rfl<|I1 rfl<|I3 8 rfl (S.cel 0 rfl) (Nat.le_refl _)<|I1 rfl<|I0 2 rfl<|I4 rfl (S.cel 0 rfl) rfl<|I5o 1 rfl rfl<|I4 rfl hg3 kb<|I1 rfl<|I0 3 rfl<|I4 rfl (S.cel 0 rfl) rfl<|I5o 1 rfl rfl<|I4 rfl hg3 kc<|I1 rfl ?_
     have Sd:SH h (owns [hpR ph H hbs,thR tb (pvL P V) T bs]) ((hpR ph H hbs'::thL tb (pvL P V) T ⟨.slice (some ⟨fb,0,none⟩) T.F.length fc,wb,vs⟩)++[bxR b2 (Qb P T) (.slice lva (Qb P T).l.length lvc) ln,cR b1 (.cells [iV 0,iV 0,iV 0,iV 0,iV 0,.slice none 0 0] 172 0)]) g:=SH.comm (A:=[_,_]) S;refine Z1 [_,_,_,_,_,_,_,_,_,_] gn rfl rfl (by kernel_rfl) rfl (C.mono (m88 (v:=(_,vb)) (SH.subL S0 S0.own0L Sd) hM hw hT hl (fun _=>Q01 hi (by rw[ho];decide)) hv rfl hH) ?_);rintro v g ⟨A2,ab2,T2,H2,hbs2,hA2,hTV,hH2,S2⟩;have S:=SH.retL Sd S2;have hk:=Q9u ⟨hM,hT,hl,by omega,by omega⟩ hTV;refine⟨ag0,?_⟩;refine I2 rfl<|Q0 ?_
     refine Qk ?_;exact ZF [(15,_)] (by repeat(first|exact trivial|refine⟨rfl,?_⟩)) ⟨v,A2,ab2,T2,⟨.slice (some ⟨fb,0,none⟩) T.F.length fc,wb,vs⟩,H2,hbs2,rfl,hw.trans hk.2.symm,hk.1,hH2,hA2,S⟩
   refine Q6<|Ie rfl rfl<|I2 rfl<|Q0<|Q2 rfl (fun hb=>?_) fun hb=>?_
   · skip
     refine I9 ?_;have ho:(Qb P T).op=19:=of_decide_eq_true hb
     have hxa:0<=(Qb P T).a/\(Qb P T).a <(Qv T).regs.length:=by
      rw[hrl];exact Q01 hi (by rw[ho];decide)
     have hxb:0<=(Qb P T).b/\(Qb P T).b <(Qv T).regs.length:=by
      rw[hrl];exact Q1X hi (by rw[ho];decide)
     have hxc:0<=(Qb P T).c/\(Qb P T).c <(Qv T).regs.length:=by
      rw[hrl];exact Qfc hi (by rw[ho];decide)
     obtain⟨b3,cs3,m3,rfl,hg3,hat3⟩:=JY (S.sl _ hpj) (by omega);have ka:=hat3 _ hxa.1 hxa.2;have kb:=hat3 _ hxb.1 hxb.2;have kc:=hat3 _ hxc.1 hxc.2;refine I1 rfl<|I1 rfl<|I3 8 rfl (S.cel 0 rfl) (Nat.le_refl _)<|I1 rfl<|I0 1 rfl<|I4 rfl (S.cel 0 rfl) rfl<|I5o 1 rfl rfl<|I4 rfl hg3 ka<|I1 rfl<|I0 2 rfl<|I4 rfl (S.cel 0 rfl) rfl<|I5o 1 rfl rfl<|I4 rfl hg3 kb<|I1 rfl<|I0 3 rfl<|I4 rfl (S.cel 0 rfl) rfl ?_;refine I5o 1 rfl rfl<|I4 rfl hg3 kc<|I1 rfl ?_
     have Sd:SH h (owns [hpR ph H hbs,thR tb (pvL P V) T bs]) ((hpR ph H hbs'::thL tb (pvL P V) T ⟨.slice (some ⟨fb,0,none⟩) T.F.length fc,wb,vs⟩)++[bxR b2 (Qb P T) (.slice lva (Qb P T).l.length lvc) ln,cR b1 (.cells [iV 0,iV 0,iV 0,iV 0,iV 0,.slice none 0 0] 172 0)]) g:=SH.comm (A:=[_,_]) S;refine Ic [_,_,_,_,_,_,_,_,_,_] rfl rfl (C.mono (m88 (v:=(_,vb)) (SH.subL S0 S0.own0L Sd) hM hw hT hl (fun e=>by cases e) hv rfl hH) ?_);rintro v g ⟨A2,ab2,T2,H2,hbs2,hA2,hTV,hH2,S2⟩;have S:=SH.retL Sd S2;have hk:=Q9u ⟨hM,hT,hl,by omega,by omega⟩ hTV;refine⟨ag0,?_⟩;refine I2 rfl<|Q0<|Qk ?_
     exact ZF [(15,_)] (by repeat(first|exact trivial|refine⟨rfl,?_⟩)) ⟨v,A2,ab2,T2,⟨.slice (some ⟨fb,0,none⟩) T.F.length fc,wb,vs⟩,H2,hbs2,rfl,hw.trans hk.2.symm,hk.1,hH2,hA2,S⟩
   refine Q6<|Ie rfl rfl<|I2 rfl<|Q0<|Q2 rfl (fun hb=>?_) fun hb=>?_
   · skip
     refine Q3<|Q6 ?_;have ho:(Qb P T).op=20:=of_decide_eq_true hb
     have hxa:0<=(Qb P T).a/\(Qb P T).a <(Qv T).regs.length:=by
      rw[hrl];exact Q01 hi (by rw[ho];decide)
     have hxb:0<=(Qb P T).b/\(Qb P T).b <(Qv T).regs.length:=by
      rw[hrl];exact Q1X hi (by rw[ho];decide)
     obtain⟨b3,cs3,m3,rfl,hg3,hat3⟩:=JY (S.sl _ hpj) (by omega);have ka:=hat3 _ hxa.1 hxa.2;have kb:=hat3 _ hxb.1 hxb.2;refine I1 rfl<|I1 rfl<|I0 2 rfl<|I4 rfl (S.cel 0 rfl) rfl<|I5o 1 rfl rfl<|I4 rfl hg3 kb<|Ic [_,_,_] rfl rfl (Qr (m89 (S.res 2 rfl) hH6) ⟨ag0,?_⟩);refine Ib rfl<|Q0<|Q2 rfl (fun hb=>?_) fun hb=>?_
     · skip
       refine Q6<|I1 rfl<|I6 rfl<|I0 9 rfl ?_;refine Qi 3 S gn rfl rfl rfl (by kernel_rfl) rfl (by decide) (by simp) (fun g S=>ag0) fun g S=>?_;refine Q0<|Ql<|Q9<|Qm ?_;exact ZF [(15,_)] (by repeat(first|exact trivial|refine⟨rfl,?_⟩)) ⟨.slice none 0 0,[],[],{T with trap:=1},⟨.slice (some ⟨fb,0,none⟩) T.F.length fc,wb,vs⟩,H,hbs',rfl,hw,hT,hH,Nat.zero_le _,SH.nilTo (SH.comm (A:=[_,_]) S)⟩
     refine Q4<|Q3<|Yq [(0,[]),(1,[]),(2,[]),(3,[]),(4,[]),(5,[]),(6,[]),(7,[]),(8,[]),(9,[2]),(10,[]),(11,[])] (by kernel_rfl) (by kernel_rfl) (by kernel_rfl) (by kernel_rfl) ?_
     have hxa':0<=(Qb P T).a/\(Qb P T).a <((isV (Qv T).regs).length:Nat):=by
      rw[List.length_map];exact hxa
     refine I1 rfl<|I0 1 rfl<|I4 rfl (S.cel 0 rfl) rfl<|I1 rfl<|I1 rfl<|I0 2 rfl<|I4 rfl (S.cel 0 rfl) rfl<|I5o 1 rfl rfl<|I4 rfl hg3 kb<|Ic [_,_] rfl rfl (Qr (m90 (S.res 2 rfl) hH6) ⟨(ag1 (Kb gn rfl (by kernel_rfl) (S.cel 0 rfl) rfl rfl Q3D) ag0),?_⟩);refine I5o 1 rfl rfl<|ZG (2+(T.F.length -1)+1+1+1) S gn rfl rfl rfl (by kernel_rfl) hpj rfl (by omega) (fun g S=>ag0) fun g S=>?_
     have S5:SH h (owns [hpR ph H hbs,thR tb (pvL P V) T bs]) ([bxR b2 (Qb P T) (.slice lva (Qb P T).l.length lvc) ln,cR b1 (.cells [iV 0,iV 0,iV 0,iV 0,iV 0,.slice none 0 0] 172 0),hpR ph H hbs']++thL tb (pvL P V) (setT T (Qb P T).a (Q6k H (reg (Qv T).regs (Qb P T).b))) ⟨.slice (some ⟨fb,0,none⟩) T.F.length fc,wb,vs⟩) g:=by
      have e:=Q1M (tb:=tb) (pv:=pvL P V) (T:=T) (w:=⟨.slice (some ⟨fb,0,none⟩) T.F.length fc,wb,vs⟩) (v:=(.slice (some ⟨b3,0,none⟩) (Qv T).regs.length rc,vb)) (a:=(Qb P T).a) (n:=Q6k H (reg (Qv T).regs (Qb P T).b)) htop hv;show SH h _ (_::_::_::thL tb (pvL P V) {T with F:=Q36 T.F (T.F.length -1) (Qb P T).a (Q6k H (reg (Qv T).regs (Qb P T).b))} ⟨.slice (some ⟨fb,0,none⟩) T.F.length fc,wb,vs⟩) g;rw[<-e];exact S
     have S6:=SH.comm S5;have hT1:=JS (a:=(Qb P T).a) (n:=Q6k H (reg (Qv T).regs (Qb P T).b)) hT;refine Q0<|Q1 (by kernel_rfl)<|I1 rfl ?_;refine Z1 [_,_] gn rfl rfl (by kernel_rfl) rfl (C.mono (m91 (k:=0) (P:=P) (V:=V) (T:=setT T (Qb P T).a (Q6k H (reg (Qv T).regs (Qb P T).b))) (w:=⟨.slice (some ⟨fb,0,none⟩) T.F.length fc,wb,vs⟩) (h0:=h0) (SH.subL S0 S0.own0L S6) (by rw[hT1.2];exact hw) hT1.1 (by omega) (fun y hy=>(Kv hM (hT1.1.2 y hy)).1)) ?_);intro v g S2;have S:=SH.comm (B:=[_,_,_]) (SH.retL S6 S2);have hon:OnH P T:=⟨hM,hT,hl,by omega,by omega⟩;refine⟨ag0,?_⟩;refine Q0<|Qk ?_
     exact ZF [(15,_)] (by repeat(first|exact trivial|refine⟨rfl,?_⟩)) ⟨.slice none 0 0,[],[],onT (setT T (Qb P T).a (Q6k H (reg (Qv T).regs (Qb P T).b))) 0,⟨.slice (some ⟨fb,0,none⟩) T.F.length fc,wb,vs⟩,H,hbs',rfl,by rw[Q25,hT1.2];exact hw,hon.on1,hH,Nat.zero_le _,SH.nilTo (SH.comm (A:=[_,_]) S)⟩
   refine Q6<|Ie rfl rfl<|I2 rfl<|Q0<|Q2 rfl (fun hb=>?_) fun hb=>?_
   · skip
     refine Q1 (by kernel_rfl) ?_;have ho:(Qb P T).op=22:=of_decide_eq_true hb
     have hxa:0<=(Qb P T).a/\(Qb P T).a <(Qv T).regs.length:=by
      rw[hrl];exact Q01 hi (by rw[ho];decide)
     obtain⟨b3,cs3,m3,rfl,hg3,hat3⟩:=JY (S.sl _ hpj) (by omega);have ka:=hat3 _ hxa.1 hxa.2;refine I1 rfl<|I1 rfl<|I1 rfl<|I0 1 rfl<|I4 rfl (S.cel 0 rfl) rfl<|I5o 1 rfl rfl<|I4 rfl hg3 ka ?_;have Sd:SH h (owns [hpR ph H hbs,thR tb (pvL P V) T bs]) ((hpR ph H hbs'::thL tb (pvL P V) T ⟨.slice (some ⟨fb,0,none⟩) T.F.length fc,wb,vs⟩)++[bxR b2 (Qb P T) (.slice lva (Qb P T).l.length lvc) ln,cR b1 (.cells [iV 0,iV 0,iV 0,iV 0,iV 0,.slice none 0 0] 172 0)]) g:=SH.comm (A:=[_,_]) S;refine Ic [_,_,_] rfl rfl (C.mono (m92 (SH.subL S0 S0.own0L Sd) X0 hM hw hT hl hH) ?_);rintro v g ⟨T2,w2,hw2,hTC,S2⟩
     have S:=SH.retL Sd S2;refine⟨ag0,?_⟩;refine Q0<|Qk ?_;exact ZF [(15,_)] (by repeat(first|exact trivial|refine⟨rfl,?_⟩)) ⟨.slice none 0 0,[],[],T2,w2,H,hbs',rfl,hw2,TC_ok ⟨hM,hT,hl,by omega,by omega⟩ hTC,hH,Nat.zero_le _,SH.nilTo S⟩
   refine Q6<|Ie rfl rfl<|I2 rfl<|Q0<|Q2 rfl (fun hb=>?_) fun hb=>?_
   · skip
     refine I9 ?_;have ho:(Qb P T).op=33:=of_decide_eq_true hb;obtain⟨vs2,m2,hg2,hm2,hc2⟩:=Qa0 (S.sl 4 rfl);refine I1 rfl<|I1 rfl<|I6 rfl<|I0 8 rfl<|I4 rfl (S.cel 3 rfl) rfl<|I1 rfl<|I6 rfl<|I0 8 rfl<|I4 rfl (S.cel 3 rfl) rfl<|I7 rfl<|Iso rfl rfl<|Q3f el162 gn rfl rfl rfl hg2 hm2 (by omega) (by omega) ?_;rw[hix];refine I6 rfl<|I0 8 rfl ?_;refine Qi 3 S gn rfl rfl rfl (by kernel_rfl) rfl (by decide) (by simp) (fun g S=>ag0) fun g S=>?_
     have S5:SH h (owns [hpR ph H hbs,thR tb (pvL P V) T bs]) ([bxR b2 (Qb P T) (.slice lva (Qb P T).l.length lvc) ln,cR b1 (.cells [iV 0,iV 0,iV 0,iV 0,iV 0,.slice none 0 0] 172 0),hpR ph H hbs']++(cR tb (.cells (pvL P V++[.slice (some ⟨fb,0,none⟩) (T.F.length -1) fc,iV T.trap]) 166 0)::slR 162 2 (.slice (some ⟨fb,0,none⟩) T.F.length fc) (frC T.F vs) T.F.length wb::frP T.F vs)) g:=S;have S6:=SH.comm (B:=[_,_,_]) (th_pop hw hl (SH.comm S5));refine Q0<|Qk ?_
     exact ZF [(15,_)] (by repeat(first|exact trivial|refine⟨rfl,?_⟩)) ⟨.slice none 0 0,[],[],_,_,H,hbs',rfl,by show(vs.take _).length=(T.F.take _).length;rw[List.length_take,List.length_take,hw],pop_ok hT,hH,Nat.zero_le _,SH.nilTo (SH.comm (A:=[_,_]) S6)⟩
   refine Q6<|Ie rfl rfl<|I2 rfl<|Q0<|Q2 rfl (fun hb=>?_) fun hb=>?_
   · skip
     refine Q1 (by kernel_rfl) ?_;have ho:(Qb P T).op=31:=of_decide_eq_true hb;refine I1 rfl<|I0 4 rfl<|I4 rfl (S.cel 0 rfl) rfl<|I6 rfl<|I0 1 rfl<|ZG 4 S gn rfl rfl rfl (by kernel_rfl) rfl rfl (by rw[JE _ _ hw];omega) (fun g S=>ag0) fun g S=>?_
     have S5:SH h (owns [hpR ph H hbs,thR tb (pvL P V) T bs]) (bxR b2 (Qb P T) (.slice lva (Qb P T).l.length lvc) ln::cR b1 (.cells [iV 0,iV 0,iV 0,iV 0,iV 0,.slice none 0 0] 172 0)::hpR ph H hbs'::thL tb (pvL P V) {T with F:=atF T.F (T.F.length -1) (Qb P T).n} ⟨.slice (some ⟨fb,0,none⟩) T.F.length fc,wb,vs⟩) g:=by
      have e:=QcU (tb:=tb) (pv:=pvL P V) (T:=T) (k:=T.F.length -1) (n:=(Qb P T).n) (w:=⟨.slice (some ⟨fb,0,none⟩) T.F.length fc,wb,vs⟩) hw;rw[hix]at S;rw[<-e];exact S
     refine Q0<|Qk ?_;exact ZF [(15,_)] (by repeat(first|exact trivial|refine⟨rfl,?_⟩)) ⟨.slice none 0 0,[],[],{T with F:=atF T.F (T.F.length -1) (Qb P T).n},⟨.slice (some ⟨fb,0,none⟩) T.F.length fc,wb,vs⟩,H,hbs',rfl,by show _=(atF _ _ _).length;rw[Q10];exact hw,Qco hT htop (Q1A hi (.inl ho)).1 (Q1A hi (.inl ho)).2,hH,Nat.zero_le _,SH.nilTo (SH.comm (A:=[_,_]) S5)⟩
   refine Q6<|Ie rfl rfl<|I2 rfl<|Q0<|Q2 rfl (fun hb=>?_) fun hb=>?_
   · skip
     refine Q6 ?_;have ho:(Qb P T).op=32:=of_decide_eq_true hb;obtain⟨r2,m2,hg2⟩:=Q52 (S.sl 4 rfl);have hat:=Kv hM ok;have hat0:=ok.a0;have hon:OnH P T:=⟨hM,hT,hl,by omega,by omega⟩;have k2:(frC T.F vs++r2)[0+Int.toNat ((T.F.length:Int) -1)*3+1]?=some (iV (Qv T).at'):=by rw[hix,Nat.zero_add];exact Qs (Q0g _ _ _ _ _ _ htop hv) (by omega) rfl
     refine I1 rfl<|I6 rfl<|I0 1 rfl<|I4 rfl hg2 k2<|Iao rfl rfl<|I6 rfl<|I0 1 rfl<|ZG 4 S gn rfl rfl rfl (by kernel_rfl) rfl rfl (by rw[JE _ _ hw];omega) (fun g S=>ag0) fun g S=>?_
     have S5:SH h (owns [hpR ph H hbs,thR tb (pvL P V) T bs]) (bxR b2 (Qb P T) (.slice lva (Qb P T).l.length lvc) ln::cR b1 (.cells [iV 0,iV 0,iV 0,iV 0,iV 0,.slice none 0 0] 172 0)::hpR ph H hbs'::thL tb (pvL P V) {T with F:=atF T.F (T.F.length -1) ((Qv T).at'+1)} ⟨.slice (some ⟨fb,0,none⟩) T.F.length fc,wb,vs⟩) g:=by
      have e:=QcU (tb:=tb) (pv:=pvL P V) (T:=T) (k:=T.F.length -1) (n:=((Qv T).at'+1)) (w:=⟨.slice (some ⟨fb,0,none⟩) T.F.length fc,wb,vs⟩) hw;rw[hix]at S;rw[<-e];exact S
     have S:=S5
     have htop1:(atF T.F (T.F.length -1) ((Qv T).at'+1))[T.F.length -1]?=some {Qv T with at':=(Qv T).at'+1}:=by
      unfold atF;rw[List.getElem?_modify_eq,Y5 hl];rfl
     have hw1:vs.length=(atF T.F (T.F.length -1) ((Qv T).at'+1)).length:=by rw[Q10];exact hw
     have hT1:Km P {T with F:=atF T.F (T.F.length -1) ((Qv T).at'+1)}:=Qco hT htop (by omega) hon.at;have hpT1:(thL tb (pvL P V) {T with F:=atF T.F (T.F.length -1) ((Qv T).at'+1)} ⟨.slice (some ⟨fb,0,none⟩) T.F.length fc,wb,vs⟩)[2+(T.F.length -1)]?=some (slR 2 0 (.slice ra (Qv T).regs.length rc) (isV (Qv T).regs) (Qv T).regs.length vb):=Q2Z (x:= {Qv T with at':=(Qv T).at'+1}) (v:=(_,vb)) htop1 hv
     have hpj1:(bxR b2 (Qb P T) (.slice lva (Qb P T).l.length lvc) ln::cR b1 (.cells [iV 0,iV 0,iV 0,iV 0,iV 0,.slice none 0 0] 172 0)::hpR ph H hbs'::thL tb (pvL P V) {T with F:=atF T.F (T.F.length -1) ((Qv T).at'+1)} ⟨.slice (some ⟨fb,0,none⟩) T.F.length fc,wb,vs⟩)[2+(T.F.length -1)+1+1+1]?=some (slR 2 0 (.slice ra (Qv T).regs.length rc) (isV (Qv T).regs) (Qv T).regs.length vb):=hpT1
     have hxa:0<=(Qb P T).a/\(Qb P T).a <(Qv T).regs.length:=by
      rw[hrl];exact Q01 hi (by rw[ho];decide)
     obtain⟨b3,cs3,m3,rfl,hg3,hat3⟩:=JY (S.sl _ hpj1) (by omega);have ka:=hat3 _ hxa.1 hxa.2;refine QL<|I1 rfl<|I0 1 rfl<|I4 rfl (S.cel 0 rfl) rfl<|I5o 1 rfl rfl<|I4 rfl hg3 ka<|Ie rfl rfl<|Q0<|Q2 rfl (fun hb=>?_) fun hb=>?_
     · skip
       refine Q1 (by kernel_rfl)<|I1 rfl<|I0 4 rfl<|I4 rfl (S.cel 0 rfl) rfl<|I6 rfl<|I0 1 rfl<|ZG 4 S gn rfl rfl rfl (by kernel_rfl) rfl (show(Value.slice (some ⟨fb,0,none⟩) T.F.length fc)=Value.slice (some ⟨fb,0,none⟩) (atF T.F (T.F.length -1) ((Qv T).at'+1)).length fc by rw[Q10]) (by rw[JE _ _ hw1,Q10];omega) (fun g S=>ag0) fun g S=>?_
       have S5:SH h (owns [hpR ph H hbs,thR tb (pvL P V) T bs]) (bxR b2 (Qb P T) (.slice lva (Qb P T).l.length lvc) ln::cR b1 (.cells [iV 0,iV 0,iV 0,iV 0,iV 0,.slice none 0 0] 172 0)::hpR ph H hbs'::thL tb (pvL P V) {T with F:=atF (atF T.F (T.F.length -1) ((Qv T).at'+1)) (T.F.length -1) (Qb P T).n} ⟨.slice (some ⟨fb,0,none⟩) T.F.length fc,wb,vs⟩) g:=by
        have e:=QcU (tb:=tb) (pv:=pvL P V) (T:= {T with F:=atF T.F (T.F.length -1) ((Qv T).at'+1)}) (k:=T.F.length -1) (n:=(Qb P T).n) (w:=⟨.slice (some ⟨fb,0,none⟩) T.F.length fc,wb,vs⟩) hw1;rw[hix]at S;rw[<-e];exact S
       refine Q0<|Qk ?_;exact ZF [(15,_)] (by repeat(first|exact trivial|refine⟨rfl,?_⟩)) ⟨.slice none 0 0,[],[],{T with F:=atF (atF T.F (T.F.length -1) ((Qv T).at'+1)) (T.F.length -1) (Qb P T).n},⟨.slice (some ⟨fb,0,none⟩) T.F.length fc,wb,vs⟩,H,hbs',rfl,by show _=(atF _ _ _).length;rw[Q10];exact hw1,Qco hT1 htop1 (Q1A hi (.inr ho)).1 (Q1A hi (.inr ho)).2,hH,Nat.zero_le _,SH.nilTo (SH.comm (A:=[_,_]) S5)⟩
     refine Q4<|Qk ?_;exact ZF [(15,_)] (by repeat(first|exact trivial|refine⟨rfl,?_⟩)) ⟨.slice none 0 0,[],[],{T with F:=atF T.F (T.F.length -1) ((Qv T).at'+1)},⟨.slice (some ⟨fb,0,none⟩) T.F.length fc,wb,vs⟩,H,hbs',rfl,hw1,hT1,hH,Nat.zero_le _,SH.nilTo (SH.comm (A:=[_,_]) S)⟩
   refine Q4<|Qk ?_;exact ZF [(15,_)] (by repeat(first|exact trivial|refine⟨rfl,?_⟩)) ⟨.slice none 0 0,[],[],T,⟨.slice (some ⟨fb,0,none⟩) T.F.length fc,wb,vs⟩,H,hbs',rfl,hw,hT,hH,Nat.zero_le _,SH.nilTo (SH.comm (A:=[_,_]) S)⟩
 obtain⟨s,A,ab,T',w',H',hbs'',rfl,hw',hok',hH',hA,S⟩:=hJ;refine Q6 ?_;have S:=SH.comm (B:=[_,_]) S;obtain⟨sa,sc,rfl⟩:=Qa (S.sl 2 rfl);refine I1 rfl<|Qz (cs:= #[iV 0,iV 0,iV 0,iV 0,iV 0,.slice sa A.length sc]) (zv:=.agg #[.int .i64 0,.int .i64 0,.int .i64 0,.int .i64 0,.int .i64 0,.slice none 0 0]) (pl:=[(0,1),(1,1),(2,1),(3,1),(4,1),(5,1)]) [(5,_)] gn rfl (by kernel_rfl) (by kernel_rfl) rfl (by kernel_rfl) ?_;refine Qe (n:=6) 1 S gn rfl rfl rfl (by kernel_rfl) rfl rfl (by decide) rfl (fun g S=>ag0) fun g S=>?_;refine I2 rfl<|Q0<|Q7 ?_
 refine⟨.inl rfl,_,(Zp rfl (by kernel_rfl) (by kernel_rfl) (S.cel 1 rfl) rfl (Yw rfl rfl)),?_⟩
 exact(by
  obtain⟨bs',S⟩:=Q1q (A:=[_,_]) S.drop.drop hw'
  exact⟨asN A,0,.slice sa A.length sc,ab,T',H',bs',hbs'',rfl,⟨hok',hH',hA,fun e=>absurd rfl e,fun e=>by rw[hov]at e;cases e⟩,S⟩)
end
end Go.Proofs.Yteinandjhpnceaa
namespace Go.Proofs.Yteinandjhpnceaa
open Go.X Go.May Go.Mac
theorem Q5S {α:Type} (f:α->List Value) (w:Nat) (hf: ∀a,(f a).length=w): ∀l:List α,(l.flatMap f).length=l.length*w
 | []=>by simp
 | a::l=>by
   rw[List.flatMap_cons,List.length_append,hf,Q5S f w hf l,List.length_cons,Nat.add_mul,Nat.one_mul,Nat.add_comm]
theorem QbL {α:Type} (f:α->List Value) (w:Nat) (hf: ∀a,(f a).length=w) (rest:List Value): ∀(l:List α) (j:Nat) (o:α),l[j]?=some o->((l.flatMap f++rest).drop (j*w)).take w=f o
 | a::l,0,o,h=>by
   simp only[List.getElem?_cons_zero,Option.some.injEq]at h;subst h;rw[Nat.zero_mul,List.drop_zero,List.flatMap_cons,List.append_assoc,List.take_left' (hf a)]
 | a::l,j+1,o,h=>by
   rw[List.flatMap_cons,List.append_assoc,show(j+1)*w=w+j*w by rw[Nat.add_mul,Nat.one_mul,Nat.add_comm],<-List.drop_drop,List.drop_left' (hf a)];exact QbL f w hf rest l j o (by simpa using h)
 | [],_,_,h=>by simp at h
theorem QbK {α:Type} (f:α->List Value) (w k:Nat) (g:α->α) (v:Value) (hf: ∀a,(f a).length=w) (hk:k <w): ∀(l:List α) (j:Nat) (o:α),l[j]?=some o->(f o).set k v=f (g o)->(l.flatMap f).set (j*w+k) v=(l.modify j g).flatMap f
 | a::l,0,o,h,e=>by
   simp only[List.getElem?_cons_zero,Option.some.injEq]at h;subst h;rw[Nat.zero_mul,Nat.zero_add,List.flatMap_cons,List.set_append_left _ _ (by rw[hf];exact hk),e,List.modify_zero_cons,List.flatMap_cons]
 | a::l,j+1,o,h,e=>by
   rw[List.flatMap_cons,show(j+1)*w+k=w+(j*w+k) by rw[Nat.add_mul,Nat.one_mul];omega,List.set_append_right _ _ (by rw[hf];omega),hf,Nat.add_sub_cancel_left,QbK f w k g v hf hk l j o (by simpa using h) e,List.modify_succ_cons,List.flatMap_cons]
 | [],_,_,h,_=>by simp at h
def tkV (t:MTask):List Value:=[iV t.kind,iV t.of',iV t.which,iV t.fn,iV t.looper,iV t.by',iV t.nth,.bool t.front,iV t.delay,iV t.due,iV t.payload,iV t.state,iV t.trap,iV t.mark,iV t.prev]
def mkV (x:MMark):List Value:=[iV x.kind,iV x.task,iV x.other,iV x.acc.site,iV x.acc.kind,iV x.acc.a,iV x.acc.b,.bool x.acc.write]
def tkC (l:List MTask):List Value:=l.flatMap tkV
def mkC (l:List MMark):List Value:=l.flatMap mkV
theorem ZK (t:MTask):(tkV t).length=15:=rfl
theorem Q0N (t:MMark):(mkV t).length=8:=rfl
theorem Q1L (l:List MTask):(tkC l).length=l.length*15:=Q5S tkV 15 ZK l
theorem QfA (l:List MMark):(mkC l).length=l.length*8:=Q5S mkV 8 Q0N l
theorem Q4U {l:List MTask} {j:Nat} {o:MTask} (rest:List Value) (h:l[j]?=some o):((tkC l++rest).drop (j*15)).take 15=tkV o:=QbL tkV 15 ZK rest l j o h
theorem mkC_at {l:List MMark} {j:Nat} {o:MMark} (rest:List Value) (h:l[j]?=some o):((mkC l++rest).drop (j*8)).take 8=mkV o:=QbL mkV 8 Q0N rest l j o h
theorem QcT (l:List MTask) (t:MTask):tkC (l++[t])=tkC l++tkV t:=by
 unfold tkC;rw[List.flatMap_append];simp
theorem Q44 (l:List MMark) (t:MMark):mkC (l++[t])=mkC l++mkV t:=by
 unfold mkC;rw[List.flatMap_append];simp
def qpP:List (List MItem)->List (Nat×List Nat)->List Res
 |L::l,v::c=>quR v.1 L v.2::qpP l c
 |_,_=>[]
def tpP (pv:List Value):List MThr->List (Nat×List Nat)->List Res
 |T::l,v::c=>thR v.1 pv T v.2::tpP pv l c
 |_,_=>[]
abbrev ptC (c:List (Nat×List Nat)):List Value:=c.map fun x=>Qw x.1
structure MW where
 lb:Nat
 lbs:List Nat
 qv:Value
 qvb:List Nat
 rv:Value
 rvb:List Nat
 tv:Value
 tvb:List Nat
 hv:Value
 hvb:List Nat
 gv:Value
 gvb:List Nat
 lv:Value
 lvb:List Nat
 mv:Value
 mvb:List Nat
 ov:Value
 ovb:List Nat
 qs:List (Nat×List Nat)
 ths:List (Nat×List Nat)
def mcH (mb ph:Nat) (P:Prg) (V:PrV) (s:MS) (w:MW):List Res:=
 [cR mb (.cells (pvL P V++[Qw ph,Qw w.lb,w.qv,w.rv,w.tv,w.hv,w.gv,w.lv,w.mv,w.ov,iV s.now,iV s.steps,.bool s.full]) 67 0),
  lvR w.lb s.K s.E w.lbs,slR 104 0 w.qv (ptC w.qs) s.Q.length w.qvb,slR 3 0 w.rv (isV s.runs) s.runs.length w.rvb,
  slR 27 14 w.tv (tkC s.T) s.T.length w.tvb,slR 139 0 w.hv (ptC w.ths) s.Th.length w.hvb,slR 2 0 w.gv (isV s.G) s.G.length w.gvb,slR 2 0 w.lv (isV s.log) s.log.length w.lvb,
  slR 36 7 w.mv (mkC s.M) s.M.length w.mvb,slR 3 0 w.ov (isV s.on) s.on.length w.ovb]
def mcT (P:Prg) (V:PrV) (s:MS) (w:MW):List Res:=qpP s.Q w.qs++tpP (pvL P V) s.Th w.ths
def mcL (mb ph:Nat) (P:Prg) (V:PrV) (s:MS) (w:MW):List Res:=mcH mb ph P V s w++mcT P V s w
def mcR (mb ph:Nat) (P:Prg) (V:PrV) (s:MS) (tp bs:List Nat):Res:=Q4E (fun L=> ∃w:MW,((w.qs.length=s.Q.length/\w.ths.length=s.Th.length)/\w.ths.map Prod.fst=tp)/\L=mcL mb ph P V s w) bs
theorem Qam: ∀(l:List (List MItem)) (c:List (Nat×List Nat)) (j:Nat) (o:List MItem) (v:Nat×List Nat),l[j]?=some o->c[j]?=some v->(qpP l c)[j]?=some (quR v.1 o v.2)
 | o::l,v::c,0,o',v',h1,h2=>by
   simp only[List.getElem?_cons_zero,Option.some.injEq]at h1 h2;subst h1;subst h2;rfl
 |o::l,v::c,j+1,o',v',h1,h2=>Qam l c j o' v' (by simpa using h1) (by simpa using h2)
 | [],_,_,_,_,h1,_=>by simp at h1
 |_::_,[],_,_,_,_,h2=>by simp at h2
theorem Qel (pv:List Value): ∀(l:List MThr) (c:List (Nat×List Nat)) (j:Nat) (o:MThr) (v:Nat×List Nat),l[j]?=some o->c[j]?=some v->(tpP pv l c)[j]?=some (thR v.1 pv o v.2)
 | o::l,v::c,0,o',v',h1,h2=>by
   simp only[List.getElem?_cons_zero,Option.some.injEq]at h1 h2;subst h1;subst h2;rfl
 |o::l,v::c,j+1,o',v',h1,h2=>Qel pv l c j o' v' (by simpa using h1) (by simpa using h2)
 | [],_,_,_,_,h1,_=>by simp at h1
 |_::_,[],_,_,_,_,h2=>by simp at h2
theorem Q21: ∀(l:List (List MItem)) (c:List (Nat×List Nat)),c.length=l.length->(qpP l c).length=l.length
 | [],_,_=>rfl
 |_::_,[],h=>by simp at h
 | o::l,v::c,h=>by
   show(_::qpP l c).length=_;rw[List.length_cons,Q21 l c (by simpa using h),List.length_cons]
theorem Qal (g:List MItem->List MItem) (bs':List Nat): ∀(l:List (List MItem)) (c:List (Nat×List Nat)) (j:Nat) (o:List MItem) (v:Nat×List Nat),l[j]?=some o->c[j]?=some v->(qpP l c).set j (quR v.1 (g o) bs')=qpP (l.modify j g) (c.set j (v.1,bs'))
 | o::l,v::c,0,o',v',h1,h2=>by
   simp only[List.getElem?_cons_zero,Option.some.injEq]at h1 h2;subst h1;subst h2;rfl
 | o::l,v::c,j+1,o',v',h1,h2=>by
   rw[List.modify_succ_cons,List.set_cons_succ];show _::(qpP l c).set j _=_::qpP _ _;rw[Qal g bs' l c j o' v' (by simpa using h1) (by simpa using h2)]
 | [],_,_,_,_,h1,_=>by simp at h1
 |_::_,[],_,_,_,_,h2=>by simp at h2
theorem Q9M (pv:List Value) (T':MThr) (bs':List Nat): ∀(l:List MThr) (c:List (Nat×List Nat)) (j:Nat) (v:Nat×List Nat),j <l.length->c[j]?=some v->(tpP pv l c).set j (thR v.1 pv T' bs')=tpP pv (l.set j T') (c.set j (v.1,bs'))
 | o::l,v::c,0,v',h1,h2=>by
   simp only[List.getElem?_cons_zero,Option.some.injEq]at h2;subst h2;rfl
 | o::l,v::c,j+1,v',h1,h2=>by
   rw[List.set_cons_succ,List.set_cons_succ];show _::(tpP pv l c).set j _=_::tpP pv _ _;rw[Q9M pv T' bs' l c j v' (by simpa using h1) (by simpa using h2)]
 | [],_,_,_,h1,_=>by simp at h1
 |_::_,[],_,_,_,h2=>by simp at h2
theorem Q7w (pv:List Value): ∀(l:List MThr) (c:List (Nat×List Nat)) (o:MThr) (v:Nat×List Nat),c.length=l.length->tpP pv (l++[o]) (c++[v])=tpP pv l c++[thR v.1 pv o v.2]
 | [],[],_,_,_=>rfl
 | [],_::_,_,_,h=>by simp at h
 |_::_,[],_,_,h=>by simp at h
 | o::l,v::c,o',v',h=>by
   show _::tpP pv (l++[o']) (c++[v'])=_;rw[Q7w pv l c o' v' (by simpa using h)];rfl
theorem Qan {c:List (Nat×List Nat)} {j:Nat} {v:Nat×List Nat} {bs':List Nat} (h:c[j]?=some v):ptC (c.set j (v.1,bs'))=ptC c:=by
 unfold ptC;rw[List.map_set];refine List.ext_getElem? fun i=>?_;rw[List.getElem?_set]
 split
 · rename_i e;subst e
   split
   · rw[List.getElem?_map,h];rfl
   rename_i h2;rw[List.getElem?_eq_none (by omega)]
 rfl
section
variable {h0 h:Hp} {ds:List Nat} {A B:List Res} {mb ph:Nat} {P:Prg} {V:PrV} {s:MS} {tp bs:List Nat}
theorem QG (S:SH h0 ds (A++[mcR mb ph P V s tp bs]) h): ∃w:MW,(w.qs.length=s.Q.length/\w.ths.length=s.Th.length)/\w.ths.map Prod.fst=tp/\owns (mcL mb ph P V s w)=bs/\SH h0 ds (A++mcL mb ph P V s w) h:=by
 obtain⟨L,⟨w,hw,rfl⟩,h2,h3⟩:=Jc S;exact⟨w,hw.1,hw.2,h2,h3⟩
theorem Qq {w:MW} (S:SH h0 ds (A++mcL mb ph P V s w) h) (hw:w.qs.length=s.Q.length/\w.ths.length=s.Th.length) (ht:w.ths.map Prod.fst=tp): ∃bs',SH h0 ds (A++[mcR mb ph P V s tp bs']) h:=⟨_,Kz S ⟨w,⟨hw,ht⟩,rfl⟩⟩
end
theorem QaP {c:List (Nat×List Nat)} {j:Nat} {v:Nat×List Nat} {bs':List Nat} (h:c[j]?=some v):(c.set j (v.1,bs')).map Prod.fst=c.map Prod.fst:=by
 rw[List.map_set];refine List.ext_getElem? fun i=>?_;rw[List.getElem?_set]
 split
 · rename_i e;subst e
   split
   · rw[List.getElem?_map,h];rfl
   rename_i h2;rw[List.getElem?_eq_none (by omega)]
 rfl
section
variable {mb ph:Nat} {P:Prg} {V:PrV} {s:MS} {w:MW} {j:Nat} {v:Nat×List Nat}
theorem mc_q {L:List MItem} (hj:s.Q[j]?=some L) (hv:w.qs[j]?=some v):(mcL mb ph P V s w)[j+10]?=some (quR v.1 L v.2):=by
 have e:=Qam s.Q w.qs j L v hj hv;show(qpP s.Q w.qs++tpP (pvL P V) s.Th w.ths)[j]?=_;rw[List.getElem?_append_left (List.getElem?_eq_some_iff.1 e).1];exact e
theorem Q72 {L:List MItem} (g:List MItem->List MItem) (bs':List Nat) (hj:s.Q[j]?=some L) (hv:w.qs[j]?=some v):(mcL mb ph P V s w).set (j+10) (quR v.1 (g L) bs')=mcL mb ph P V {s with Q:=s.Q.modify j g} {w with qs:=w.qs.set j (v.1,bs')}:=by
 have e:=Qam s.Q w.qs j L v hj hv;show mcH mb ph P V s w++(qpP s.Q w.qs++tpP (pvL P V) s.Th w.ths).set j _=mcH mb ph P V _ _++(qpP (s.Q.modify j g) (w.qs.set j (v.1,bs'))++tpP (pvL P V) s.Th w.ths);rw[List.set_append_left _ _ (List.getElem?_eq_some_iff.1 e).1,Qal g bs' _ _ _ _ _ hj hv]
 congr 1
 show[_,_,_,_,_,_,_,_,_,_]=[_,_,slR 104 0 w.qv (ptC (w.qs.set j (v.1,bs'))) (s.Q.modify j g).length w.qvb,_,_,_,_,_,_,_];rw[Qan hv,List.length_modify]
theorem Qgq {T:MThr} (hq:w.qs.length=s.Q.length) (hj:s.Th[j]?=some T) (hv:w.ths[j]?=some v):(mcL mb ph P V s w)[j+s.Q.length+10]?=some (thR v.1 (pvL P V) T v.2):=by
 have e:=Qel (pvL P V) s.Th w.ths j T v hj hv;show(qpP s.Q w.qs++tpP (pvL P V) s.Th w.ths)[j+s.Q.length]?=_;rw[List.getElem?_append_right (by rw[Q21 _ _ hq];omega),Q21 _ _ hq,Nat.add_sub_cancel];exact e
theorem Q71 {T':MThr} (bs':List Nat) (hq:w.qs.length=s.Q.length) (hj:j <s.Th.length) (hv:w.ths[j]?=some v):(mcL mb ph P V s w).set (j+s.Q.length+10) (thR v.1 (pvL P V) T' bs')=mcL mb ph P V {s with Th:=s.Th.set j T'} {w with ths:=w.ths.set j (v.1,bs')}:=by
 show mcH mb ph P V s w++(qpP s.Q w.qs++tpP (pvL P V) s.Th w.ths).set (j+s.Q.length) _=mcH mb ph P V _ _++(qpP s.Q w.qs++tpP (pvL P V) (s.Th.set j T') (w.ths.set j (v.1,bs')));rw[List.set_append_right _ _ (by rw[Q21 _ _ hq];omega),Q21 _ _ hq,Nat.add_sub_cancel,Q9M _ _ _ _ _ _ _ hj hv]
 congr 1
 show[_,_,_,_,_,_,_,_,_,_]=[_,_,_,_,_,slR 139 0 w.hv (ptC (w.ths.set j (v.1,bs'))) (s.Th.set j T').length w.hvb,_,_,_,_];rw[Qan hv,List.length_set]
end
theorem el36:ElN modE 37 36 7 63:=⟨by kernel_rfl,by kernel_rfl,by kernel_rfl,.agg #[.int .i64 0,.int .i64 0,.int .i64 0,.int .i64 0,.int .i64 0,.int .i64 0,.int .i64 0,.bool false],by kernel_rfl,rfl⟩
theorem el27:ElN modE 28 27 14 119:=⟨by kernel_rfl,by kernel_rfl,by kernel_rfl,.agg #[.int .i64 0,.int .i64 0,.int .i64 0,.int .i64 0,.int .i64 0,.int .i64 0,.int .i64 0,.bool false,.int .i64 0,.int .i64 0,.int .i64 0,.int .i64 0,.int .i64 0,.int .i64 0,.int .i64 0],by kernel_rfl,rfl⟩
theorem el139:ElN modE 64 139 0 7:=⟨by kernel_rfl,by kernel_rfl,by kernel_rfl,.pointer none,by kernel_rfl,rfl⟩
end Go.Proofs.Yteinandjhpnceaa
namespace Go.Proofs.Yteinandjhpnceaa
open Go.X Go.May Go.Mac
section
variable {h0 h:Hp} {P:Prg} {V:PrV} {mb ph:Nat} {s:MS} {tp bs:List Nat}
set_option maxHeartbeats 1000000 in
theorem m75 {k task other:Int} (S0:SH h0 [] [mcR mb ph P V s tp bs] h) (hm:s.M.length<=100000):C modE 75 [Qw mb,iV k,iV task,iV other] h fun _ g'=> ∃bs',SH h bs [mcR mb ph P V (Yj s k task other) tp bs'] g':=by
 have SE:=S0.enter;obtain⟨w,hw,htp,hown,SE⟩:=QG (A:=[]) SE;have SE:SH h bs (mcL mb ph P V s w) h:=SE;obtain⟨ma,mc,hmv⟩:=Qa (SE.sl 8 rfl);refine Q8 (fu:=Try.f75) (by kernel_rfl) rfl ?_;have S:=SE;refine Q1 (by kernel_rfl)<|I1 rfl<|I1 rfl<|I6 rfl<|I0 16 rfl<|I4 rfl (S.cel 0 rfl) rfl<|I1 rfl<|I1 rfl<|I1 rfl ?_
 refine Qz (cs:= #[iV k,iV task,iV other,iV 0,iV 0,iV 0,iV 0,.bool false]) (zv:=.agg #[.int .i64 0,.int .i64 0,.int .i64 0,.int .i64 0,.int .i64 0,.int .i64 0,.int .i64 0,.bool false]) (pl:=[(0,1),(1,1),(2,1),(3,5)]) [(0,_),(1,_),(2,_)] gn rfl (by kernel_rfl) (by kernel_rfl) rfl (by kernel_rfl) ?_;refine Qf (cs:= #[iV k,iV task,iV other,iV 0,iV 0,iV 0,iV 0,.bool false]) (e:=36) (z:=7) (zv:=.agg #[.int .i64 0,.int .i64 0,.int .i64 0,.int .i64 0,.int .i64 0,.int .i64 0,.int .i64 0,.bool false]) [(0,_)] S gn rfl (by kernel_rfl) (by kernel_rfl) (by kernel_rfl) (by kernel_rfl) rfl (by kernel_rfl) fun b1 g nb1 S=>?_
 refine QE (e:=36) (z:=7) (by':=63) 9 0 S el36 gn rfl rfl rfl rfl rfl rfl (by rfl) (by omega) (fun s' bs' g S=>ag0) fun s' bs' g S=>?_;refine I6 rfl<|I0 16 rfl ?_;have hcv:cellV s'=true:=(S.sl 9 rfl).cellV;refine Qi 1 S gn rfl rfl hcv (by kernel_rfl) rfl (by decide) (by simp) (fun g S=>ag0) fun g S=>?_;refine Q0 ?_;refine⟨.inr rfl,_,rfl,?_⟩
 exact(by
  have e:mkC (Yj s k task other).M=mkC s.M++mkV ⟨k,task,other,Q6X⟩:=Q44 _ _;have e2:(Yj s k task other).M.length=s.M.length+1:=by simp[Yj]
  refine Qq (A:=[]) (w:= {w with mv:=s',mvb:=bs'}) ?_ hw htp;show SH h bs (mcL mb ph P V (Yj s k task other) {w with mv:=s',mvb:=bs'}) _;unfold mcL mcH
  rw[e,e2];exact S.drop)
set_option maxHeartbeats 1000000 in
theorem m76 {task site k a:Int} {wrt:Bool} (S0:SH h0 [] [mcR mb ph P V s tp bs] h) (hm:s.M.length<=100000):C modE 76 [Qw mb,iV task,iV site,iV k,iV a,.bool wrt] h fun _ g'=> ∃bs',SH h bs [mcR mb ph P V (Je s task site k a wrt) tp bs'] g':=by
 have SE:=S0.enter;obtain⟨w,hw,htp,hown,SE⟩:=QG (A:=[]) SE;have SE:SH h bs (mcL mb ph P V s w) h:=SE;refine Q8 (fu:=Try.f76) (by kernel_rfl) rfl ?_;have S:=SE;refine Q1 (by kernel_rfl)<|I1 rfl<|I1 rfl<|I6 rfl<|I0 16 rfl<|I4 rfl (S.cel 0 rfl) rfl<|I1 rfl<|I1 rfl<|I1 rfl<|I1 rfl<|Qz (cs:= #[iV k,iV a,iV 0]) (zv:=.agg #[.int .i64 0,.int .i64 0,.int .i64 0]) (pl:=[(0,1),(1,1),(2,1)]) [(0,_),(1,_)] gn rfl (by kernel_rfl) (by kernel_rfl) rfl (by kernel_rfl)<|I1 rfl ?_
 refine Qz (cs:= #[iV site,iV k,iV a,iV 0,.bool wrt]) (zv:=.agg #[.int .i64 0,.int .i64 0,.int .i64 0,.int .i64 0,.bool false]) (pl:=[(0,1),(1,3),(4,1)]) [(0,_),(1,_),(2,_)] gn rfl (by kernel_rfl) (by kernel_rfl) rfl (by kernel_rfl)<|Qz (cs:= #[iV 3,iV task,iV 0,iV site,iV k,iV a,iV 0,.bool wrt]) (zv:=.agg #[.int .i64 0,.int .i64 0,.int .i64 0,.int .i64 0,.int .i64 0,.int .i64 0,.int .i64 0,.bool false]) (pl:=[(0,1),(1,1),(2,1),(3,5)]) [(0,_),(1,_),(3,_)] gn rfl (by kernel_rfl) (by kernel_rfl) rfl (by kernel_rfl) ?_
 refine Qf (cs:= #[iV 3,iV task,iV 0,iV site,iV k,iV a,iV 0,.bool wrt]) (e:=36) (z:=7) (zv:=.agg #[.int .i64 0,.int .i64 0,.int .i64 0,.int .i64 0,.int .i64 0,.int .i64 0,.int .i64 0,.bool false]) [(0,_)] S gn rfl (by kernel_rfl) (by kernel_rfl) (by kernel_rfl) (by kernel_rfl) rfl (by kernel_rfl) fun b1 g nb1 S=>?_;refine QE (e:=36) (z:=7) (by':=63) 9 0 S el36 gn rfl rfl rfl rfl rfl rfl (by rfl) (by omega) (fun s' bs' g S=>ag0) fun s' bs' g S=>?_;refine I6 rfl<|I0 16 rfl ?_;have hcv:cellV s'=true:=(S.sl 9 rfl).cellV;refine Qi 1 S gn rfl rfl hcv (by kernel_rfl) rfl (by decide) (by simp) (fun g S=>ag0) fun g S=>?_;refine Q0 ?_
 refine⟨.inr rfl,_,rfl,?_⟩
 exact(by
  have e:mkC (Je s task site k a wrt).M=mkC s.M++mkV ⟨3,task,0,⟨site,k,a,0,wrt⟩⟩:=Q44 _ _;have e2:(Je s task site k a wrt).M.length=s.M.length+1:=by simp[Je]
  refine Qq (A:=[]) (w:= {w with mv:=s',mvb:=bs'}) ?_ hw htp;show SH h bs (mcL mb ph P V (Je s task site k a wrt) {w with mv:=s',mvb:=bs'}) _;unfold mcL mcH
  rw[e,e2];exact S.drop)
theorem m53 (S0:SH h0 [] [mcR mb ph P V s tp bs] h):C modE 53 [Qw mb] h fun v g'=>v=iV 11/\ ∃bs',SH h bs [mcR mb ph P V {s with full:=true} tp bs'] g':=by
 have SE:=S0.enter;obtain⟨w,hw,htp,hown,SE⟩:=QG (A:=[]) SE;have SE:SH h bs (mcL mb ph P V s w) h:=SE;refine Q8 (fu:=Try.f53) (by kernel_rfl) rfl ?_;have S:=SE;refine Q6<|I2 rfl<|QL<|I1 rfl<|I6 rfl<|I0 20 rfl ?_;refine Qi 0 S gn rfl rfl rfl (by kernel_rfl) rfl (by decide) (by simp) (fun g S=>ag0) fun g S=>?_;refine QL<|I2 rfl<|Q0<|Q7 ?_;refine⟨.inl rfl,_,rfl,?_⟩;exact⟨rfl,Qq (A:=[]) (w:=w) (s:= {s with full:=true}) S hw htp⟩
end
end Go.Proofs.Yteinandjhpnceaa
namespace Go.Proofs.Yteinandjhpnceaa
open Go.X Go.May Go.Mac
section
variable {h0 h:Hp} {P:Prg} {V:PrV} {mb ph:Nat} {s:MS} {tp bs:List Nat}
set_option maxHeartbeats 4000000 in
theorem m26 {t:MTask} {cells:List Int} {cv:Value} (S0:SH h0 [] [mcR mb ph P V s tp bs] h) (X0:Q1f h0 P V) (hM:ZJ P=true) (k:MOk P s) (f0:0<=t.fn) (f1:t.fn <P.funs.length) (hlo:t.looper <P.loopers) (hd:0<=t.delay/\t.delay<=1000000000) (hc: ∀g,ExtB bs h g->RowV g cv (isV cells)) (hlen:(cells.length:Int)=(Qt P t.fn).caps):C modE 26 [Qw mb,.agg (tkV t).toArray,cv] h fun v g'=>v=iV (QcG s)/\ ∃tl bs',SH h bs [mcR mb ph P V (Y4 P s t cells) (tp++tl) bs'] g':=by
 have SE:=S0.enter;obtain⟨w,hw,htp,hown,SE⟩:=QG (A:=[]) SE;have SE:SH h bs (mcL mb ph P V s w) h:=SE;obtain⟨ta,tc,htv⟩:=Qa (SE.sl 4 rfl);obtain⟨hnow0,hnow1⟩:=k.now;obtain⟨hd0,hd1⟩:=hd;have hk:=k.t;have hth:=k.th;refine Q8 (fu:=Try.f26) (by kernel_rfl) rfl ?_;have S:=SE;refine Q6 ?_;refine QX S gn rfl rfl fun b1 g nb1 S=>?_;have S:SH h bs (cR b1 (.cells (tkV t) 27 0)::mcL mb ph P V s w) g:=S;refine I2 rfl<|Z7<|I1 rfl<|I6 rfl<|I0 12 rfl<|I4 rfl (S.cel 1 rfl) rfl ?_;rw[htv];refine I7 rfl ?_;rw[<-htv];refine Ih rfl rfl<|Q0<|Q2 rfl (fun hb=>?_) fun hb=>?_
 · skip
   refine Q6<|I2 rfl<|Q0<|Q7 ?_;refine⟨.inl rfl,_,rfl,?_⟩
   exact(by
    have hf:256<=s.T.length:=by simp at hb;omega
    refine⟨by unfold QcG;rw[if_pos hf];rfl,?_⟩;unfold Y4;rw[if_pos hf]
    exact⟨[],by rw[List.append_nil];exact Qq (A:=[]) S.drop hw htp⟩)
 refine Q4<|Q6 ?_;have hf: ¬256<=s.T.length:=by simp at hb;omega
 have hl255:s.T.length <256:=by omega
 refine I0 11 rfl ?_;refine Qi 0 S gn rfl rfl rfl (by kernel_rfl) rfl (by decide) (show 11 <(tkV t).length by rw[ZK];decide) (fun g S=>ag0) fun g S=>?_;refine Q0<|Q3<|I9<|I1 rfl<|I6 rfl<|I0 18 rfl<|I4 rfl (S.cel 1 rfl) rfl<|I0 8 rfl<|I4 rfl (S.cel 0 rfl) rfl<|Iao rfl rfl<|I0 9 rfl ?_;refine Qi 0 S gn rfl rfl rfl (by kernel_rfl) rfl (by decide) (show 9 <((tkV t).set 11 (iV 1)).length by rw[List.length_set,ZK];decide) (fun g S=>ag0) fun g S=>?_;refine Q0<|Q3<|I9 ?_;have S:SH h bs (cR b1 (.cells (tkV (Ym s t)) 27 0)::mcL mb ph P V s w) g:=S
 refine I1 rfl<|I1 rfl<|I6 rfl<|I0 12 rfl<|I4 rfl (S.cel 1 rfl) rfl<|I3 15 rfl (S.cel 0 rfl) (Nat.le_refl _) ?_;refine Qf (cs:=(tkV (Ym s t)).toArray) (e:=27) (z:=14) (zv:=.agg #[.int .i64 0,.int .i64 0,.int .i64 0,.int .i64 0,.int .i64 0,.int .i64 0,.int .i64 0,.bool false,.int .i64 0,.int .i64 0,.int .i64 0,.int .i64 0,.int .i64 0,.int .i64 0,.int .i64 0]) [(0,_)] S gn rfl (by kernel_rfl) (by kernel_rfl) (by kernel_rfl) (by kernel_rfl) rfl (by kernel_rfl) fun b2 g nb2 S=>?_
 refine QE (e:=27) (z:=14) (by':=119) 6 0 S el27 gn rfl rfl rfl rfl rfl rfl (by rfl) (by omega) (fun s' bs' g S=>ag0) fun s' bs' g S=>?_;refine I6 rfl<|I0 12 rfl ?_;have hcv:cellV s'=true:=(S.sl 6 rfl).cellV;refine Qi 2 S gn rfl rfl hcv (by kernel_rfl) rfl (by decide) (by simp) (fun g S=>ag0) fun g S=>?_
 have S1:SH h bs (cR b1 (.cells (tkV (Ym s t)) 27 0)::mcL mb ph P V {s with T:=s.T++[Ym s t]} {w with tv:=s',tvb:=bs'}) g:=by
  have S1:=SH.drop S;unfold mcL mcH;show SH h bs (_::([_,_,_,_,slR 27 14 s' (tkC (s.T++[Ym s t])) (s.T++[Ym s t]).length bs',_,_,_,_,_]++mcT P V s w)) g;rw[QcT,List.length_append];exact S1
 have S:=S1;refine Q0<|Q3<|I9<|I1 rfl<|I6 rfl<|I0 0 rfl<|I3 8 rfl (S.cel 1 rfl) (by simp)<|I0 3 rfl<|I4 rfl (S.cel 0 rfl) rfl<|I1 rfl<|Ic [_,_,_] rfl rfl (C.mono (m49 (X0.ext (S0.all0 S0.own0 S)) hM f0 f1 (hc _ S.ext) hlen) ?_);rintro v g ⟨tb,tbs,rfl,S2⟩;have S:=SH.retL (A:=[]) S S2;have S:SH h bs (thR tb (pvL P V) ⟨[Y9 P t.fn cells],0⟩ tbs::cR b1 (.cells (tkV (Ym s t)) 27 0)::mcL mb ph P V {s with T:=s.T++[Ym s t]} {w with tv:=s',tvb:=bs'}) g:=S;refine⟨ag0,?_⟩;refine I1 rfl<|Ix rfl rfl<|Ix rfl rfl<|I2 rfl ?_
 refine I2 rfl<|QL<|I1 rfl<|I1 rfl<|I6 rfl<|I0 13 rfl<|I4 rfl (S.cel 2 rfl) rfl<|I1 rfl ?_;refine Qf (cs:= #[Qw tb]) (e:=139) (z:=0) (zv:=.pointer none) [(0,_)] S gn rfl (by kernel_rfl) (by kernel_rfl) (by kernel_rfl) (by kernel_rfl) rfl (by kernel_rfl) fun b3 g nb3 S=>?_;refine QE (e:=139) (z:=0) (by':=7) 8 0 S el139 gn rfl rfl rfl rfl rfl rfl (by rfl) (by show(s.Th.length+1)*(7+1)<=1099511627776;omega) (fun s' bs' g S=>ag0) fun s2' bs2' g S=>?_;refine I6 rfl<|I0 13 rfl ?_;have hcv2:cellV s2'=true:=(S.sl 8 rfl).cellV
 refine Qi 3 S gn rfl rfl hcv2 (by kernel_rfl) rfl (by decide) (by simp) (fun g S=>ag0) fun g S=>?_
 have S3:SH h bs (thR tb (pvL P V) ⟨[Y9 P t.fn cells],0⟩ tbs::(cR b1 (.cells (tkV (Ym s t)) 27 0)::(mcH mb ph P V {s with T:=s.T++[Ym s t],Th:=s.Th++[⟨[Y9 P t.fn cells],0⟩]} {w with tv:=s',tvb:=bs',hv:=s2',hvb:=bs2',ths:=w.ths++[(tb,tbs)]}++(qpP s.Q w.qs++tpP (pvL P V) s.Th w.ths)))) g:=by
  have S3:=SH.drop S;unfold mcH;show SH h bs (_::_::([_,_,_,_,_,slR 139 0 s2' (ptC (w.ths++[(tb,tbs)])) (s.Th++[(⟨[Y9 P t.fn cells],0⟩:MThr)]).length bs2',_,_,_,_]++(qpP s.Q w.qs++tpP (pvL P V) s.Th w.ths))) g;rw[show ptC (w.ths++[(tb,tbs)])=ptC w.ths++[Qw tb] from List.map_append ..,show(s.Th++[(⟨[Y9 P t.fn cells],0⟩:MThr)]).length=s.Th.length+1 from List.length_append];exact S3
 have S4:=SH.comm (A:=[_]) S3;obtain⟨s2,hs2⟩: ∃s2:MS,s2= {s with T:=s.T++[Ym s t],Th:=s.Th++[⟨[Y9 P t.fn cells],0⟩]}:=⟨_,rfl⟩;have q1:s2.T.length=s.T.length+1:=by rw[hs2];simp
 have q2:s2.Q=s.Q:=by rw[hs2]
 have q3:s2.Th.length=s.Th.length+1:=by rw[hs2];simp
 obtain⟨w2,hw2,htp2,S⟩: ∃w2:MW,(w2.qs.length=s2.Q.length/\w2.ths.length=s2.Th.length)/\w2.ths.map Prod.fst=tp++[tb]/\SH h bs (cR b1 (.cells (tkV (Ym s t)) 27 0)::mcL mb ph P V s2 w2) g:=⟨{w with tv:=s',tvb:=bs',hv:=s2',hvb:=bs2',ths:=w.ths++[(tb,tbs)]},by
  refine⟨by rw[q2];exact hw.1,?_⟩;rw[q3];show(w.ths++[(tb,tbs)]).length=_;rw[List.length_append,hw.2];rfl,by
  show(w.ths++[(tb,tbs)]).map Prod.fst=_;rw[List.map_append,htp];rfl,by
  rw[hs2];unfold mcL mcT;show SH h bs (_::(mcH mb ph P V _ _++(qpP s.Q w.qs++tpP (pvL P V) (s.Th++[⟨[Y9 P t.fn cells],0⟩]) (w.ths++[(tb,tbs)])))) g;rw[Q7w _ _ _ _ _ hw.2,<-List.append_assoc (qpP s.Q w.qs),<-List.append_assoc (mcH mb ph P V _ _)]
  exact S4⟩
 obtain⟨ta2,tc2,htv2⟩:=Qa (S.sl 5 rfl);refine Z7<|I0 4 rfl<|I4 rfl (S.cel 0 rfl) rfl<|Ih rfl rfl<|Q0<|Q2 rfl (fun hb=>?_) fun hb=>?_
 · skip
   refine I9 ?_
   have hlo0:0<=t.looper:=by
    have h':0<=(Ym s t).looper:=by simpa using hb
    exact h'
   have hQl:=k.q;have hnl:(Ym s t).looper=t.looper:=rfl;have hjl:t.looper.toNat <s2.Q.length:=by rw[q2];omega
   obtain⟨L,hLj⟩: ∃L,s2.Q[t.looper.toNat]?=some L:=⟨_,List.getElem?_eq_getElem hjl⟩;obtain⟨qv,hqj⟩: ∃v,w2.qs[t.looper.toNat]?=some v:=⟨_,List.getElem?_eq_getElem (by rw[hw2.1];exact hjl)⟩;have hLm:L.length<=256:=Nat.le_trans (k.ql L (by rw[<-q2];exact List.mem_of_getElem? hLj)) (by omega);obtain⟨qb,qm,qc,qr,hqv,hqg,_⟩:=(S.sl 3 rfl).at (by omega)
   have hqk:(ptC w2.qs++qr)[0+Int.toNat t.looper*1]?=some (Qw qv.1):=by
    rw[Nat.zero_add,Nat.mul_one,List.getElem?_append_left (by rw[List.length_map,hw2.1];exact hjl),List.getElem?_map,hqj];rfl
   have hpq:(cR b1 (.cells (tkV (Ym s t)) 27 0)::mcL mb ph P V s2 w2)[t.looper.toNat+10+1]?=some (quR qv.1 L qv.2):=mc_q (mb:=mb) (ph:=ph) hLj hqj;refine I1 rfl<|I6 rfl<|I0 10 rfl<|I4 rfl (S.cel 1 rfl) rfl<|I0 4 rfl<|I4 rfl (S.cel 0 rfl) rfl ?_;rw[hqv];refine I5o 1 rfl rfl ?_;rw[<-hqv];refine I4 rfl hqg hqk<|I1 rfl<|I6 rfl<|I0 12 rfl<|I4 rfl (S.cel 1 rfl) rfl ?_;rw[htv2];refine I7 rfl ?_;rw[<-htv2];refine I0 7 rfl<|I4 rfl (S.cel 0 rfl) rfl<|I0 9 rfl<|I4 rfl (S.cel 0 rfl) rfl ?_
   refine Qz (cs:= #[iV (s2.T.length:Nat),.bool t.front,iV (s.now+t.delay)]) (zv:=.agg #[.int .i64 0,.bool false,.int .i64 0]) (pl:=[(0,1),(1,1),(2,1)]) [(0,_),(1,_),(2,_)] gn rfl (by kernel_rfl) (by kernel_rfl) rfl (by kernel_rfl)<|Ic [_,_] rfl rfl (C.mono (m50 (x:=⟨(s2.T.length:Nat),t.front,s.now+t.delay⟩) (SH.sub1 S0 S0.own0 S _ hpq) (by omega)) ?_);rintro v g ⟨rfl,bs3,S2⟩;have S:=S.ret _ hpq S2
   obtain⟨w3,hw3,htp3,htv3,S⟩: ∃w3:MW,(w3.qs.length=s2.Q.length/\w3.ths.length=s2.Th.length)/\w3.ths.map Prod.fst=tp++[tb]/\w3.tv=w2.tv/\SH h bs (cR b1 (.cells (tkV (Ym s t)) 27 0)::mcL mb ph P V {s2 with Q:=s2.Q.modify t.looper.toNat fun L=>Q4N L ⟨(s2.T.length:Nat),t.front,s.now+t.delay⟩} w3) g:=⟨{w2 with qs:=w2.qs.set t.looper.toNat (qv.1,bs3)},⟨by
    show(w2.qs.set _ _).length=_
    rw[List.length_set];exact hw2.1,hw2.2⟩,htp2,rfl,by
    have e:=Q72 (mb:=mb) (ph:=ph) (P:=P) (V:=V) (s:=s2) (w:=w2) (fun L=>Q4N L ⟨(s2.T.length:Nat),t.front,s.now+t.delay⟩) bs3 hLj hqj
    rw[<-e];exact S⟩
   refine⟨ag0,?_⟩;refine QL<|I1 rfl<|I6 rfl<|I0 12 rfl<|I4 rfl (S.cel 1 rfl) rfl ?_;rw[htv3,htv2];refine I7 rfl ?_;rw[<-htv2,<-htv3];refine I2 rfl<|Q0<|Q7 ?_;refine⟨.inl rfl,_,rfl,?_⟩
   exact(by
    have e:Y4 P s t cells= {s2 with Q:=s2.Q.modify t.looper.toNat fun L=>Q4N L ⟨(s2.T.length:Nat),t.front,s.now+t.delay⟩}:=by
     rw[q1,hs2];unfold Y4;rw[if_neg hf,if_pos hlo0];simp
    refine⟨by unfold QcG;rw[if_neg hf,q1];simp[oneOf],?_⟩;rw[e]
    exact⟨[tb],Qq (A:=[]) S.drop ⟨by rw[hw3.1];exact(List.length_modify ..).symm,hw3.2⟩ htp3⟩)
 refine Q4<|Q6<|I1 rfl<|I6 rfl<|I0 12 rfl<|I4 rfl (S.cel 1 rfl) rfl ?_;rw[htv2];refine I7 rfl ?_;rw[<-htv2];refine I2 rfl<|Q0<|Q7 ?_;refine⟨.inl rfl,_,rfl,?_⟩
 exact(by
  have hlo0: ¬0<=t.looper:=by
   have h':(Ym s t).looper <0:=by simpa using hb
   have h'':t.looper <0:=h';omega
  have e:Y4 P s t cells=s2:=by
   rw[hs2];unfold Y4;rw[if_neg hf,if_neg hlo0]
  refine⟨by unfold QcG;rw[if_neg hf,q1];simp[oneOf],?_⟩;rw[e]
  exact⟨[tb],Qq (A:=[]) S.drop hw2 htp2⟩)
end
end Go.Proofs.Yteinandjhpnceaa
namespace Go.Proofs.Yteinandjhpnceaa
open Go.X Go.May Go.Mac
theorem Q2Y {s:MS} {id:Int} (h1:1<=id) (h2:id<=s.T.length):s.T[(id -1).toNat]?=some (ZB s id):=by
 unfold ZB;rw[List.getElem?_eq_getElem (by omega)];rfl
theorem Q1J {h:Hp} {s:MS} {tv:Value} {bs:List Nat} {id:Int} (x:SlC 27 14 h tv (tkC s.T) s.T.length bs) (h1:1<=id) (h2:id<=s.T.length): ∃b c cs m,tv=.slice (some ⟨b,0,none⟩) s.T.length c/\h.get b=some (.cells cs 27 m)/\ ∀f v,f <15->(tkV (ZB s id))[f]?=some v->cs[0+Int.toNat (id -1)*15+f]?=some v:=by
 obtain⟨b,m,c,r,hv,hg,_⟩:=x.at (by omega);refine⟨b,c,_,m,hv,hg,fun f v hf hv=>?_⟩;rw[Nat.zero_add];exact Qs (Q4U r (Q2Y h1 h2)) hf hv
def trM (s:MS) (id k:Int):MS:= {s with T:=s.T.modify (id -1).toNat fun t=> {t with trap:=k}}
section
variable {mb ph:Nat} {P:Prg} {V:PrV} {s:MS} {w:MW} {id k:Int}
theorem QfE (h1:1<=id) (h2:id<=s.T.length):(mcL mb ph P V s w).set 4 (slR 27 14 w.tv ((tkC s.T).set (0+Int.toNat (id -1)*15+11) (iV k)) s.T.length w.tvb)=mcL mb ph P V (stM s id k) w:=by
 have e:(tkC s.T).set (0+Int.toNat (id -1)*15+11) (iV k)=tkC (stM s id k).T:=by
  rw[Nat.zero_add];exact QbK tkV 15 11 (fun t=> {t with state:=k}) (iV k) ZK (by omega) _ _ _ (Q2Y h1 h2) rfl
 have e2:s.T.length=(stM s id k).T.length:=(List.length_modify ..).symm;rw[e,e2];rfl
theorem mc_tr (h1:1<=id) (h2:id<=s.T.length):(mcL mb ph P V s w).set 4 (slR 27 14 w.tv ((tkC s.T).set (0+Int.toNat (id -1)*15+12) (iV k)) s.T.length w.tvb)=mcL mb ph P V (trM s id k) w:=by
 have e:(tkC s.T).set (0+Int.toNat (id -1)*15+12) (iV k)=tkC (trM s id k).T:=by
  rw[Nat.zero_add];exact QbK tkV 15 12 (fun t=> {t with trap:=k}) (iV k) ZK (by omega) _ _ _ (Q2Y h1 h2) rfl
 have e2:s.T.length=(trM s id k).T.length:=(List.length_modify ..).symm;rw[e,e2];rfl
end
section
variable {h0 h:Hp} {P:Prg} {V:PrV} {mb ph:Nat} {s:MS} {tp bs:List Nat}
set_option maxHeartbeats 1000000 in
theorem m55 {id:Int} (S0:SH h0 [] [mcR mb ph P V s tp bs] h) (k:MOk P s) (h1:1<=id) (h2:id<=s.T.length) (hm:s.M.length<=99990):C modE 55 [Qw mb,iV id] h fun _ g'=> ∃bs',SH h bs [mcR mb ph P V (JH s id) tp bs'] g':=by
 have SE:=S0.enter;obtain⟨w,hw,htp,hown,SE⟩:=QG (A:=[]) SE;have SE:SH h bs (mcL mb ph P V s w) h:=SE;have hk:=k.t;obtain⟨tb,tc,cs,m,htv,hg,hat⟩:=Q1J (SE.sl 4 rfl) h1 h2;refine Q8 (fu:=Try.f55) (by kernel_rfl) rfl ?_;have S:=SE;refine Q6<|I1 rfl<|I6 rfl<|I0 12 rfl<|I4 rfl (S.cel 0 rfl) rfl<|I1 rfl<|Iso rfl rfl ?_;rw[htv];refine I5o 15 rfl rfl ?_;rw[<-htv];refine I0 11 rfl<|ZG 4 S gn rfl rfl rfl (by kernel_rfl) rfl htv (by rw[Q1L];omega) (fun g S=>ag0) fun g S=>?_;rw[QfE h1 h2]at S;obtain⟨bs1,S⟩:=Qq (A:=[]) (s:=stM s id 2) (w:=w) S ⟨hw.1,hw.2⟩ htp
 have S:SH h bs [mcR mb ph P V (stM s id 2) tp bs1] g:=S;refine QL<|I1 rfl<|I1 rfl ?_;refine Z1 [_,_,_,_] gn rfl rfl (by kernel_rfl) rfl (C.mono (m75 (SH.sub1 S0 S0.own0 S 0 rfl) (by show s.M.length<=100000;omega)) ?_);rintro v g ⟨bs2,S2⟩;have S:=S.ret 0 rfl S2;have S:SH h bs [mcR mb ph P V (Yj (stM s id 2) 1 id 0) tp bs2] g:=S;refine⟨ag0,?_⟩;refine QL ?_;obtain⟨w2,hw2,htp2,hown2,S⟩:=QG (A:=[]) S;have S:SH h bs (mcL mb ph P V (Yj (stM s id 2) 1 id 0) w2) _:=S;have h2':id<=(Yj (stM s id 2) 1 id 0).T.length:=by show id<=((s.T.modify _ _).length:Nat);rw[List.length_modify];exact h2
 have hl':((Yj (stM s id 2) 1 id 0).T.length:Nat)=s.T.length:=List.length_modify ..;obtain⟨tb2,tc2,cs2,m2,htv2,hg2,hat2⟩:=Q1J (S.sl 4 rfl) h1 h2'
 have etk:ZB (Yj (stM s id 2) 1 id 0) id= {ZB s id with state:=2}:=by
  have e:=Q2Y h1 h2;show((s.T.modify (id -1).toNat _)[(id -1).toNat]?).getD default=_;rw[List.getElem?_modify_eq,e];rfl
 rw[etk]at hat2;refine I1 rfl<|I6 rfl<|I0 12 rfl<|I4 rfl (S.cel 0 rfl) rfl<|I1 rfl<|Iso rfl rfl ?_;rw[htv2];refine I5o 15 rfl rfl ?_;rw[<-htv2];refine I0 0 rfl<|I4 rfl hg2 (hat2 0 _ (by decide) rfl)<|Ie rfl rfl<|Q0<|Q2 rfl (fun hb=>?_) fun hb=>?_
 · skip
   refine Q1 (by kernel_rfl)<|I1 rfl<|I1 rfl<|I1 rfl<|I6 rfl<|I0 12 rfl<|I4 rfl (S.cel 0 rfl) rfl<|I1 rfl<|Iso rfl rfl ?_;rw[htv2];refine I5o 15 rfl rfl ?_;rw[<-htv2];refine I0 1 rfl<|I4 rfl hg2 (hat2 1 _ (by decide) rfl)<|I1 rfl ?_;obtain⟨bs3,S⟩:=Qq (A:=[]) (s:=Yj (stM s id 2) 1 id 0) (w:=w2) S hw2 htp2;have S:SH h bs [mcR mb ph P V (Yj (stM s id 2) 1 id 0) tp bs3] _:=S;refine Z1 [_,_,_,_,_,_] gn rfl rfl (by kernel_rfl) rfl (C.mono (m76 (SH.sub1 S0 S0.own0 S 0 rfl) (by show(s.M++[_]).length<=100000;rw[List.length_append];simp;omega)) ?_)
   rintro v g ⟨bs4,S2⟩;have S:=S.ret 0 rfl S2;refine⟨ag0,?_⟩;refine Q0 ?_;refine⟨.inr rfl,_,rfl,?_⟩
   exact(by
    have hk4:(ZB s id).kind=4:=by simpa using hb
    unfold JH;rw[if_pos hk4]
    exact⟨_,S⟩)
 refine Q4 ?_;refine⟨.inr rfl,_,rfl,?_⟩
 exact(by
  have hk4: ¬(ZB s id).kind=4:=by simpa using hb
  unfold JH;rw[if_neg hk4]
  exact Qq (A:=[]) S hw2 htp2)
theorem m94 {n k:Int} (S0:SH h0 [] [mcR mb ph P V s tp bs] h) (kk:MOk P s):CP modE 94 [Qw mb,iV n,iV k] h (iV (if 1<=n/\n<=s.T.length/\(ZB s n).kind=k then n else 0)):=by
 have SE:=S0.enter;obtain⟨w,hw,htp,hown,S⟩:=QG (A:=[]) SE;have S:SH h bs (mcL mb ph P V s w) h:=S;have hk:=kk.t;obtain⟨ta,tc0,htv0⟩:=Qa (S.sl 4 rfl);refine Q8 (fu:=Try.f94) (by kernel_rfl) rfl ?_;refine Q6<|I2 rfl<|Z7<|I1 rfl<|Il rfl rfl<|I1 rfl ?_
 refine QT (n:=7) rfl rfl rfl gn rfl (fun hb=>by
  refine D1 hb rfl<|D1 hb rfl<|D6 hb rfl<|D0 12 hb rfl<|D4 hb rfl (S.cel 0 rfl) rfl ?_;rw[htv0];refine D7 hb rfl ?_;rw[<-htv0];refine Dg hb rfl rfl ?_
  exact Q0 ⟨rfl,rfl,7,rfl,rfl⟩) ?_
 refine I1 rfl ?_
 refine QT (n:=11) rfl rfl rfl gn rfl (fun hb=>by
  have hbb:1<=n/\n<=s.T.length:=by simp at hb;omega
  obtain⟨tb,tc,cs,m,htv,hg,hat⟩:=Q1J (S.sl 4 rfl) hbb.1 hbb.2;refine D1 hb rfl<|D6 hb rfl<|D0 12 hb rfl<|D4 hb rfl (S.cel 0 rfl) rfl<|D1 hb rfl<|Dso hb rfl rfl ?_;rw[htv];refine D5o 15 hb rfl rfl ?_;rw[<-htv];refine D0 0 hb rfl<|D4 hb rfl hg (hat 0 _ (by decide) rfl)<|D1 hb rfl<|Dn hb rfl rfl ?_
  exact Q0 ⟨rfl,rfl,11,rfl,rfl⟩) ?_
 refine Q0<|Q2 rfl (fun hb=>?_) fun hb=>?_
 · skip
   refine Q6<|I2 rfl<|Q0<|Q7 ?_;refine⟨.inl rfl,_,rfl,?_⟩
   exact⟨by
    have: ¬(1<=n/\n<=s.T.length/\(ZB s n).kind=k):=by
     rintro⟨a,b,c⟩;simp at hb;rcases hb with hb|hb
     · omega
     exact hb c
    rw[if_neg this];rfl,rfl⟩
 refine Q4<|Q6<|I1 rfl<|I2 rfl<|Q0<|Q7 ?_;refine⟨.inl rfl,_,rfl,?_⟩
 exact⟨by
  have:1<=n/\n<=s.T.length/\(ZB s n).kind=k:=by
   simp at hb;exact⟨by omega,by omega,hb.2⟩
  rw[if_pos this];rfl,rfl⟩
end
end Go.Proofs.Yteinandjhpnceaa
namespace Go.Proofs.Yteinandjhpnceaa
open Go.X Go.May Go.Mac
def Q2U (s:MS) (id site of':Int):MS:=if(ZB s of').state=1 then {stM (Je s id site 5 of' true) of' 4 with Q:=s.Q.modify (ZB s of').looper.toNat fun L=>Q3w L of'}else Je s id site 5 of' true
theorem tk_st {s:MS} {id k:Int} (h1:1<=id) (h2:id<=s.T.length):ZB (stM s id k) id= {ZB s id with state:=k}:=by
 have e:=Q2Y h1 h2;show((s.T.modify (id -1).toNat _)[(id -1).toNat]?).getD default=_;rw[List.getElem?_modify_eq,e];rfl
section
variable {h0 h:Hp} {P:Prg} {V:PrV} {mb ph:Nat} {s:MS} {tp bs:List Nat}
set_option maxHeartbeats 2000000 in
theorem m95 {id site of':Int} (S0:SH h0 [] [mcR mb ph P V s tp bs] h) (k:MOk P s) (h1:1<=of') (h2:of'<=s.T.length) (hlo:(ZB s of').state=1->0<=(ZB s of').looper/\(ZB s of').looper <P.loopers) (hm:s.M.length<=99990):C modE 95 [Qw mb,iV id,iV site,iV of'] h fun _ g'=> ∃bs',SH h bs [mcR mb ph P V (Q2U s id site of') tp bs'] g':=by
 have SE:=S0.enter;have SE:SH h bs [mcR mb ph P V s tp bs] h:=SE;have hk:=k.t;refine Q8 (fu:=Try.f95) (by kernel_rfl) rfl ?_;have S:=SE;refine Q6<|I1 rfl<|I1 rfl<|I1 rfl<|I1 rfl<|Ic [_,_,_,_,_,_] rfl rfl (C.mono (m76 (SH.sub1 S0 S0.own0 S 0 rfl) (by omega)) ?_);rintro v g ⟨bs1,S2⟩;have S:=S.ret 0 rfl S2;have S:SH h bs [mcR mb ph P V (Je s id site 5 of' true) tp bs1] g:=S;refine⟨ag0,?_⟩;refine QL ?_;obtain⟨w,hw,htp,hown,S⟩:=QG (A:=[]) S;obtain⟨s1,hs1⟩: ∃s1,s1=Je s id site 5 of' true:=⟨_,rfl⟩;rw[<-hs1]at hw;have S:SH h bs (mcL mb ph P V s1 w) g:=by rw[hs1];exact S
 have eT:s1.T=s.T:=by rw[hs1];rfl
 have eQ:s1.Q=s.Q:=by rw[hs1];rfl
 have eA:ZB s1 of'=ZB s of':=by unfold ZB;rw[eT]
 have h2':of'<=s1.T.length:=by rw[eT];exact h2
 have hk1:s1.T.length<=256:=by rw[eT];exact hk
 obtain⟨tb,tc,cs,m,htv,hg,hat⟩:=Q1J (S.sl 4 rfl) h1 h2';refine I1 rfl<|I6 rfl<|I0 12 rfl<|I4 rfl (S.cel 0 rfl) rfl<|I1 rfl<|Iso rfl rfl ?_;rw[htv];refine I5o 15 rfl rfl ?_;rw[<-htv];refine I0 11 rfl<|I4 rfl hg (hat 11 _ (by decide) rfl)<|Ie rfl rfl<|Q0<|Q2 rfl (fun hb=>?_) fun hb=>?_
 · skip
   refine Q6 ?_;have hst:(ZB s of').state=1:=by rw[<-eA];simpa using hb
   obtain⟨hl0,hl1⟩:=hlo hst;refine I1 rfl<|I6 rfl<|I0 12 rfl<|I4 rfl (S.cel 0 rfl) rfl<|I1 rfl<|Iso rfl rfl ?_;rw[htv];refine I5o 15 rfl rfl ?_;rw[<-htv];refine I0 11 rfl<|ZG 4 S gn rfl rfl rfl (by kernel_rfl) rfl htv (by rw[Q1L];omega) (fun g S=>ag0) fun g S=>?_;rw[QfE h1 h2']at S;obtain⟨s2,hs2⟩: ∃s2,s2=stM s1 of' 4:=⟨_,rfl⟩;rw[<-hs2]at S;have eT2:s2.T.length=s.T.length:=by rw[hs2];show(s1.T.modify _ _).length=_;rw[List.length_modify,eT]
   have eQ2:s2.Q=s.Q:=by rw[hs2];exact eQ
   have eA2:ZB s2 of'= {ZB s of' with state:=4}:=by rw[hs2,tk_st h1 h2',eA]
   have hw2:w.qs.length=s2.Q.length/\w.ths.length=s2.Th.length:=by rw[hs2];exact hw
   obtain⟨tb2,tc2,cs2,m2,htv2,hg2,hat2⟩:=Q1J (s:=s2) (S.sl 4 rfl) h1 (by omega);rw[eA2]at hat2;have hat4:cs2[0+Int.toNat (of' -1)*15+4]?=some (iV (ZB s of').looper):=hat2 4 _ (by decide) rfl;have hQl:=k.q;have hjl:(ZB s of').looper.toNat <s2.Q.length:=by rw[eQ2];omega
   obtain⟨L,hLj⟩: ∃L,s2.Q[(ZB s of').looper.toNat]?=some L:=⟨_,List.getElem?_eq_getElem hjl⟩;obtain⟨qv,hqj⟩: ∃v,w.qs[(ZB s of').looper.toNat]?=some v:=⟨_,List.getElem?_eq_getElem (by rw[hw2.1];exact hjl)⟩;have hLm:L.length<=256:=Nat.le_trans (k.ql L (by rw[<-eQ2];exact List.mem_of_getElem? hLj)) (by omega);obtain⟨qb,qm,qc,qr,hqv,hqg,_⟩:=(S.sl 2 rfl).at (by omega)
   have hqk:(ptC w.qs++qr)[0+Int.toNat (ZB s of').looper*1]?=some (Qw qv.1):=by
    rw[Nat.zero_add,Nat.mul_one,List.getElem?_append_left (by rw[List.length_map,hw2.1];exact hjl),List.getElem?_map,hqj];rfl
   have hpq:(mcL mb ph P V s2 w)[(ZB s of').looper.toNat+10]?=some (quR qv.1 L qv.2):=mc_q hLj hqj;refine Q0<|I9<|I1 rfl<|I6 rfl<|I0 10 rfl<|I4 rfl (S.cel 0 rfl) rfl<|I1 rfl<|I6 rfl<|I0 12 rfl<|I4 rfl (S.cel 0 rfl) rfl<|I1 rfl<|Iso rfl rfl ?_;rw[htv2];refine I5o 15 rfl rfl ?_;rw[<-htv2];refine I0 4 rfl<|I4 rfl hg2 hat4 ?_;rw[hqv];refine I5o 1 rfl rfl ?_;rw[<-hqv];refine I4 rfl hqg hqk<|I1 rfl<|Ic [_,_] rfl rfl (C.mono (m74 (SH.sub1 S0 S0.own0 S _ hpq) (by omega)) ?_);rintro v g ⟨rfl,bs3,S2⟩;have S:=S.ret _ hpq S2
   rw[Q72 (fun L=>Q3w L of') bs3 hLj hqj]at S;refine⟨ag0,?_⟩;refine Q0 ?_;refine⟨.inr rfl,_,rfl,?_⟩
   exact(by
    have e:Q2U s id site of'= {s2 with Q:=s2.Q.modify (ZB s of').looper.toNat fun L=>Q3w L of'}:=by
     unfold Q2U;rw[if_pos hst,eQ2,hs2,hs1]
    rw[e]
    exact Qq (A:=[]) (w:= {w with qs:=w.qs.set (ZB s of').looper.toNat (qv.1,bs3)}) S ⟨by show(w.qs.set _ _).length=(s2.Q.modify _ _).length;rw[List.length_set,List.length_modify];exact hw2.1,hw2.2⟩ htp)
 refine Q4 ?_;refine⟨.inr rfl,_,rfl,?_⟩
 exact(by
  have hst: ¬(ZB s of').state=1:=by rw[<-eA];simpa using hb
  unfold Q2U;rw[if_neg hst,<-hs1]
  exact Qq (A:=[]) S hw htp)
end
end Go.Proofs.Yteinandjhpnceaa
namespace Go.Proofs.Yteinandjhpnceaa
open Go.X Go.May Go.Mac
theorem Q9P {h:Hp} {s:MS} {tv:Value} {bs:List Nat} {id:Int} (x:SlC 27 14 h tv (tkC s.T) s.T.length bs) (h1:1<=id) (h2:id<=s.T.length): ∃b c cs m,tv=.slice (some ⟨b,0,none⟩) s.T.length c/\h.get b=some (.cells cs 27 m)/\b <h.n/\ ∀f v,f <15->(tkV (ZB s id))[f]?=some v->cs[0+Int.toNat (id -1)*15+f]?=some v:=by
 obtain⟨b,m,c,r,hv,hg,_,hl,_⟩:=x.at (by omega);refine⟨b,c,_,m,hv,hg,hl,fun f v hf hv=>?_⟩;rw[Nat.zero_add];exact Qs (Q4U r (Q2Y h1 h2)) hf hv
theorem Jl {s:MS} {id:Int} (h1:1<=id) (h2:id<=s.Th.length):s.Th[(id -1).toNat]?=some (Zt s id):=by
 unfold Zt;rw[List.getElem?_eq_getElem (by omega)];rfl
theorem QcO {h:Hp} {s:MS} {w:MW} {hv:Value} {bs:List Nat} {id:Int} (x:SlC 139 0 h hv (ptC w.ths) s.Th.length bs) (hw:w.ths.length=s.Th.length) (h1:1<=id) (h2:id<=s.Th.length): ∃b c cs m v,hv=.slice (some ⟨b,0,none⟩) s.Th.length c/\h.get b=some (.cells cs 139 m)/\b <h.n/\w.ths[(id -1).toNat]?=some v/\cs[0+Int.toNat (id -1)*1]?=some (Qw v.1):=by
 obtain⟨b,m,c,r,hv,hg,_,hl,_⟩:=x.at (by omega);obtain⟨v,hvj⟩: ∃v,w.ths[(id -1).toNat]?=some v:=⟨_,List.getElem?_eq_getElem (by omega)⟩;refine⟨b,c,_,m,v,hv,hg,hl,hvj,?_⟩;rw[Nat.zero_add,Nat.mul_one,List.getElem?_append_left (by rw[List.length_map];omega),List.getElem?_map,hvj];rfl
def Q4P (P:Prg) (s:MS) (id:Int):Int:=reg (Qv (Zt s id)).regs (Qb P (Zt s id)).a
def Q1G (P:Prg) (s:MS) (id:Int):Bool:=(((decide (1<=Q4P P s id)&&decide (Q4P P s id<=s.T.length))&&decide ((ZB s (Q4P P s id)).kind=5))&& !decide ((ZB s (Q4P P s id)).state=3))
def Q1h (s:MS) (id:Int):Bool:=decide (1<=id)&&decide (id<=s.T.length)&&decide ((ZB s id).state=2)
def Jf (P:Prg) (s:MS) (id:Int):Int:=if Q1h s id=true/\(Qb P (Zt s id)).op=29/\Q1G P s id=true then Q4P P s id else 0
section
variable {h0 h:Hp} {P:Prg} {V:PrV} {mb ph:Nat} {s:MS} {tp bs:List Nat}
set_option maxHeartbeats 2000000 in
theorem m52 {id:Int} (S0:SH h0 [] [mcR mb ph P V s tp bs] h) (X0:Q1f h0 P V) (hM:ZJ P=true) (k:MOk P s) (hR:Q1h s id=true->Y7 (Zt s id)=false):C modE 52 [Qw mb,iV id] h fun v g'=>v=iV (Jf P s id)/\Ext h g':=by
 have SE:=S0.enter;obtain⟨w,hw,htp,hown,SE⟩:=QG (A:=[]) SE;have SE:SH h bs (mcL mb ph P V s w) h:=SE;have hk:=k.t;have hth:=k.th;have hmg:=SE.cel 0 rfl;have hml:mb <h.n:=SE.lt1 0 rfl;obtain⟨ta,tc0,htv0⟩:=Qa (SE.sl 4 rfl);refine Q8 (fu:=Try.f52) (by kernel_rfl) rfl ?_;have S:=SH.start h;refine Q6<|I2 rfl<|Z7<|I1 rfl<|Il rfl rfl<|I1 rfl ?_
 refine QT (n:=7) rfl rfl rfl gn rfl (fun hb=>by
  refine D1 hb rfl<|D1 hb rfl<|D6 hb rfl<|D0 12 hb rfl<|D4 hb rfl (S.old0 hmg hml) rfl ?_;rw[htv0];refine D7 hb rfl ?_;rw[<-htv0];refine Dg hb rfl rfl ?_
  exact Q0 ⟨rfl,rfl,7,rfl,rfl⟩) ?_
 refine I1 rfl ?_
 refine QT (n:=10) rfl rfl rfl gn rfl (fun hb=>by
  have hbb:1<=id/\id<=s.T.length:=by simp at hb;omega
  obtain⟨tb,tc,cs,m,htv,hg,hgl,hat⟩:=Q9P (SE.sl 4 rfl) hbb.1 hbb.2;refine D1 hb rfl<|D6 hb rfl<|D0 12 hb rfl<|D4 hb rfl (S.old0 hmg hml) rfl<|D1 hb rfl<|Dso hb rfl rfl ?_;rw[htv];refine D5o 15 hb rfl rfl ?_;rw[<-htv];refine D0 11 hb rfl<|D4 hb rfl (S.old0 hg hgl) (hat 11 _ (by decide) rfl)<|Dn hb rfl rfl ?_
  exact Q0 ⟨rfl,rfl,10,rfl,rfl⟩) ?_
 refine Q0<|Q2 rfl (fun hb=>?_) fun hb=>?_
 · skip
   refine Q6<|I2 rfl<|Q0<|Q7 ?_;refine⟨.inl rfl,_,rfl,?_⟩
   exact⟨by
    have: ¬(Q1h s id=true/\(Qb P (Zt s id)).op=29/\Q1G P s id=true):=by
     rintro⟨a,_⟩;unfold Q1h at a;simp at a hb;rcases hb with hb|hb
     · omega
     exact hb a.2
    unfold Jf;rw[if_neg this];rfl,S.e0⟩
 refine Q4<|Q6 ?_
 have hrun:Q1h s id=true:=by
  unfold Q1h;simp at hb ⊢;exact⟨⟨by omega,by omega⟩,hb.2⟩
 have hbb:1<=id/\id<=s.T.length:=by simp at hb;omega
 obtain⟨pb,pc,pcs,pm,pv,hpv,hpg,hpl,hpj,hpk⟩:=QcO (SE.sl 5 rfl) hw.2 hbb.1 (by omega);have hp:Held (thR pv.1 (pvL P V) (Zt s id) pv.2) h:=SE.held _ (Qgq hw.1 (Jl hbb.1 (by omega)) hpj);have hov:=hR hrun;have hl:=Q1t hov;have hT:=k.tok _ (List.mem_of_getElem? (Jl hbb.1 (by omega)));refine I1 rfl<|I6 rfl<|I0 13 rfl<|I4 rfl (S.old0 hmg hml) rfl<|I1 rfl<|Iso rfl rfl ?_;rw[hpv];refine I5o 1 rfl rfl ?_;rw[<-hpv];refine I4 rfl (S.old0 hpg hpl) hpk<|I2 rfl<|QL<|I1 rfl<|Ic [_] rfl rfl (C.mono (m73z X0 (S0.all0 S0.own0 (S0.enter)) hp hT hl) ?_);rintro v g ⟨⟨lv,ln,rfl,hlv0⟩,x⟩
 have S:=S.grow x;obtain⟨lva,lvc,rfl⟩:=hlv0.valM;refine⟨ag0,?_⟩;refine Qo (zv:=.agg #[.int .i64 0,.int .i64 0,.int .i64 0,.int .i64 0,.int .i64 0,.slice none 0 0,.int .i64 0,.int .i64 0]) S gn rfl (by kernel_rfl) fun b1 g nb1 S=>?_;refine Qe (n:=8) 0 S gn rfl rfl rfl (by kernel_rfl) rfl rfl (by decide) rfl (fun g S=>ag0) fun g S=>?_;have S:SH h [] [bxR b1 (Qb P (Zt s id)) (.slice lva (Qb P (Zt s id)).l.length lvc) ln] g:=S;refine Z7<|I0 0 rfl<|I4 rfl (S.cel 0 rfl) rfl<|In rfl rfl<|Q0<|Q2 rfl (fun hb=>?_) fun hb=>?_
 · skip
   refine Q6<|I2 rfl<|Q0<|Q7 ?_;refine⟨.inl rfl,_,rfl,?_⟩
   exact⟨by
    have: ¬(Q1h s id=true/\(Qb P (Zt s id)).op=29/\Q1G P s id=true):=by
     rintro⟨_,a,_⟩;simp at hb;exact hb a
    unfold Jf;rw[if_neg this];rfl,S.e0⟩
 refine Q4<|Q3<|I9 ?_;have hop:(Qb P (Zt s id)).op=29:=by simpa using hb
 obtain⟨fa,fc,tw,htw,_,hq,hql,hr,hnl,hrv⟩:=Q1N hp;obtain⟨fb,fr,fm,rfl,hgr,hfb,_⟩:=Q9f hr hl;have hbl:=hnl fb (by rw[hfb];simp);have htop:=Y5 hl;have ok:=hT.2 _ (ZW hl);have h32:=hT.1;obtain⟨v,hv⟩: ∃v,tw.vs[(Zt s id).F.length -1]?=some v:=⟨_,List.getElem?_eq_getElem (by omega)⟩
 have k0:(frC (Zt s id).F tw.vs++fr)[0+Int.toNat (((Zt s id).F.length:Int) -1)*3+2]?=some v.1:=by
  rw[Nat.zero_add,show Int.toNat (((Zt s id).F.length:Int) -1)=(Zt s id).F.length -1 by omega];exact Qs (Q0g _ _ _ _ _ _ htop hv) (by omega) rfl
 have hrl:=ok.r
 have hxa:0<=(Qb P (Zt s id)).a/\(Qb P (Zt s id)).a <(Qv (Zt s id)).regs.length:=by
  rw[hrl];exact Q01 (Q8q hM ok) (by rw[hop];decide)
 obtain⟨rb,ro,rc,rcs,re,rm,hrvv,hrg,hrlt,hrat⟩:=(hrv _ _ _ htop hv).row.atM (by omega)
 have ka:rcs[ro+Int.toNat (Qb P (Zt s id)).a*1]?=some (iV (reg (Qv (Zt s id)).regs (Qb P (Zt s id)).a)):=by
  have:=hrat (Qb P (Zt s id)).a.toNat (by omega);rw[Nat.mul_one,this];unfold reg;rw[List.getElem?_eq_getElem (by omega)];rfl
 obtain⟨n,hn⟩: ∃n,n=reg (Qv (Zt s id)).regs (Qb P (Zt s id)).a:=⟨_,rfl⟩;rw[<-hn]at ka;have hwn:Q4P P s id=n:=hn.symm;refine I1 rfl<|I6 rfl<|I0 8 rfl<|I4 rfl (S.old0 hq hql) rfl<|I1 rfl<|I6 rfl<|I0 8 rfl<|I4 rfl (S.old0 hq hql) rfl<|I7 rfl<|Iso rfl rfl<|I5o 3 rfl rfl<|I0 2 rfl<|I4 rfl (S.old0 hgr hbl) k0<|I0 1 rfl<|I4 rfl (S.cel 0 rfl) rfl ?_;rw[hrvv];refine I5o 1 rfl rfl ?_;rw[<-hrvv];refine I4 rfl (S.old0 hrg hrlt) ka<|I2 rfl<|Z7<|I1 rfl<|Ih rfl rfl<|I1 rfl ?_
 refine Qp (n:=7) rfl rfl rfl gn rfl (fun hb=>by
  refine D1 hb rfl<|D1 hb rfl<|D6 hb rfl<|D0 12 hb rfl<|D4 hb rfl (S.old0 hmg hml) rfl ?_;rw[htv0];refine D7 hb rfl ?_;rw[<-htv0];refine Dm hb rfl rfl ?_
  exact Q0 ⟨rfl,rfl,7,rfl,rfl⟩) ?_
 refine I1 rfl ?_
 refine Qp (n:=10) rfl rfl rfl gn rfl (fun hb=>by
  have hbb2:1<=n/\n<=s.T.length:=by simp at hb;omega
  obtain⟨tb,tc,cs,m,htv,hg,hgl,hat⟩:=Q9P (SE.sl 4 rfl) hbb2.1 hbb2.2;refine D1 hb rfl<|D6 hb rfl<|D0 12 hb rfl<|D4 hb rfl (S.old0 hmg hml) rfl<|D1 hb rfl<|Dso hb rfl rfl ?_;rw[htv];refine D5o 15 hb rfl rfl ?_;rw[<-htv];refine D0 0 hb rfl<|D4 hb rfl (S.old0 hg hgl) (hat 0 _ (by decide) rfl)<|De hb rfl rfl ?_
  exact Q0 ⟨rfl,rfl,10,rfl,rfl⟩) ?_
 refine I1 rfl ?_
 refine Qp (n:=10) rfl rfl rfl gn rfl (fun hb=>by
  have hbb2:1<=n/\n<=s.T.length:=by simp at hb;omega
  obtain⟨tb,tc,cs,m,htv,hg,hgl,hat⟩:=Q9P (SE.sl 4 rfl) hbb2.1 hbb2.2;refine D1 hb rfl<|D6 hb rfl<|D0 12 hb rfl<|D4 hb rfl (S.old0 hmg hml) rfl<|D1 hb rfl<|Dso hb rfl rfl ?_;rw[htv];refine D5o 15 hb rfl rfl ?_;rw[<-htv];refine D0 11 hb rfl<|D4 hb rfl (S.old0 hg hgl) (hat 11 _ (by decide) rfl)<|Dn hb rfl rfl ?_
  exact Q0 ⟨rfl,rfl,10,rfl,rfl⟩) ?_
 refine Q0<|Q2 rfl (fun hb=>?_) fun hb=>?_
 · skip
   refine Q6<|I1 rfl<|I2 rfl<|Q0<|Q7 ?_;refine⟨.inl rfl,_,rfl,?_⟩
   exact⟨by
    have:Q1h s id=true/\(Qb P (Zt s id)).op=29/\Q1G P s id=true:=⟨hrun,hop,by unfold Q1G;rw[hwn];exact hb⟩
    unfold Jf;rw[if_pos this,hwn];rfl,S.e0⟩
 refine Q4<|Q6<|I2 rfl<|Q0<|Q7 ?_;refine⟨.inl rfl,_,rfl,?_⟩
 exact⟨by
  have: ¬(Q1h s id=true/\(Qb P (Zt s id)).op=29/\Q1G P s id=true):=by
   rintro⟨_,_,a⟩;unfold Q1G at a;rw[hwn]at a;exact Bool.noConfusion (a.symm.trans hb)
  unfold Jf;rw[if_neg this];rfl,S.e0⟩
end
end Go.Proofs.Yteinandjhpnceaa
namespace Go.Proofs.Yteinandjhpnceaa
open Go.X Go.May Go.Mac
section
variable {h0 h g:Hp} {ds bs:List Nat} {B L:List Res} {ph:Nat} {H:List MObj} {hbs:List Nat} {id:Int}
theorem Qd0 {r:Res} {v:Value} {cs:List Value} {n e:Nat} {vb:List Nat} (S:SH h0 ds (r::L) g) (hm:slR e 0 v cs n vb∈L): ∀g',ExtB r.own g g'->RowV g' v cs:=by
 intro g' x;have hp:SlC e 0 g v cs n vb:=S.hold _ (List.mem_cons_of_mem _ hm);rcases hp with⟨rfl,rfl,rfl,rfl⟩| ⟨b,m,c,rest,rfl,hg,hm0,hlt,rfl,h1,h2,h3⟩
 · exact RowV.nil
 have hb:b∈owns L:=QO hm (by simp[slR]);have hnd:=S.nd;rw[QQ,List.nodup_append]at hnd;have hnb:b∉r.own:=fun hr=>hnd.2.2 b hr b hb rfl;have h':SlC e 0 g' (.slice (some ⟨b,0,none⟩) n c) cs n [b]:=.inr ⟨b,m,c,rest,rfl,(x.get b hlt hnb).trans hg,hm0,Nat.lt_of_lt_of_le hlt x.n,rfl,h1,h2,h3⟩;exact h'.row
theorem QfU (S:SH h0 ds (hpR ph H hbs::B) g) (e:hasB H id=true): ∃(RH:List Res) (va:Option Addr) (vc:Nat) (vb:List Nat) (b c m:Nat) (cs:List Value),g.get ph=some (.cells [.slice (some ⟨b,0,none⟩) H.length c] 100 0)/\g.get b=some (.cells cs 197 m)/\0+Int.toNat (id -1)*6+6<=cs.length/\(cs.drop (0+Int.toNat (id -1)*6)).take 6=[iV (QR H id).kind,iV (QR H id).of,.slice va (QR H id).vals.length vc,iV (QR H id).site,iV (QR H id).by',iV (QR H id).nth]/\1<=id/\id<=H.length/\SH h0 ds (slR 2 0 (.slice va (QR H id).vals.length vc) (isV (QR H id).vals) (QR H id).vals.length vb::(RH++B)) g/\ ∀(h0:Hp) (ds:List Nat) (B:List Res) (g:Hp),SH h0 ds (slR 2 0 (.slice va (QR H id).vals.length vc) (isV (QR H id).vals) (QR H id).vals.length vb::(RH++B)) g-> ∃hbs',SH h0 ds (hpR ph H hbs'::B) g:=by
 obtain⟨Ls,⟨w,hw,rfl⟩,_,S1⟩:=Qcl S;obtain⟨j,o,hid,hj,ho,hjl⟩:=Q3o e;obtain⟨⟨v,vb⟩,hv⟩: ∃v,w.vs[j]?=some v:=⟨_,List.getElem?_eq_getElem (by rw[hw];exact hjl)⟩;have S1:SH h0 ds (cR ph (.cells [w.ov] 100 0)::slR 197 5 w.ov (obC H w.vs) H.length w.ob::(obP H w.vs++B)) g:=S1;have h1:g.get ph=some (.cells [w.ov] 100 0):=S1.cel 0 rfl;obtain⟨b,m,c,r,hov,hg,_,_,_,hl,_⟩:=(S1.sl 1 rfl).at (by omega);have hP:=Q81 H w.vs j o (v,vb) hj hv
 have hx:SlC 2 0 g v (isV o.vals) o.vals.length vb:=S1.hold (slR 2 0 v (isV o.vals) o.vals.length vb) (by
  have:=List.mem_of_getElem? hP
  simp[this])
 obtain⟨va,vc,rfl⟩:=Qa hx;have hjt:Int.toNat (id -1)=j:=by omega
 have hjP:=(List.getElem?_eq_some_iff.1 hP).1;refine⟨cR ph (.cells [w.ov] 100 0)::slR 197 5 w.ov (obC H w.vs) H.length w.ob::(obP H w.vs).eraseIdx j,va,vc,vb,b,c,m,_,by rw[<-hov];exact h1,hg,?_,?_,by omega,by omega,?_,?_⟩
 · rw[hjt,List.length_append,hl];omega
 · rw[hjt,Nat.zero_add,ho];exact Q5q _ _ _ _ _ _ hj hv
 · rw[ho]
   have S2:SH h0 ds (obP H w.vs++(cR ph (.cells [w.ov] 100 0)::slR 197 5 w.ov (obC H w.vs) H.length w.ob::B)) g:=by
    refine S1.sub (B:=[]) ?_;rw[List.append_nil];refine(List.perm_append_comm_assoc (obP H w.vs) [cR ph (.cells [w.ov] 100 0),slR 197 5 w.ov (obC H w.vs) H.length w.ob] B).trans ?_;exact List.Perm.refl _
   have S3:=S2.outAt hP;refine S3.sub (B:=[]) ?_;rw[List.append_nil];refine List.Perm.cons _ ?_;exact List.perm_append_comm_assoc [cR ph (.cells [w.ov] 100 0),slR 197 5 w.ov (obC H w.vs) H.length w.ob] ((obP H w.vs).eraseIdx j) B
 intro h0 ds B g S;rw[ho]at S
 have S2:SH h0 ds (slR 2 0 (.slice va o.vals.length vc) (isV o.vals) o.vals.length vb::((obP H w.vs).eraseIdx j++(cR ph (.cells [w.ov] 100 0)::slR 197 5 w.ov (obC H w.vs) H.length w.ob::B))) g:=by
  refine S.sub (B:=[]) ?_;rw[List.append_nil];refine List.Perm.cons _ ?_;exact List.perm_append_comm_assoc ((obP H w.vs).eraseIdx j) [cR ph (.cells [w.ov] 100 0),slR 197 5 w.ov (obC H w.vs) H.length w.ob] B
 have S3:=S2.inAt hjP
 have e1:(obP H w.vs).set j (slR 2 0 (.slice va o.vals.length vc) (isV o.vals) o.vals.length vb)=obP H w.vs:=by
  have:=(List.getElem?_eq_some_iff.1 hP).2;refine List.ext_getElem? fun i=>?_;rw[List.getElem?_set]
  split
  · rename_i e;subst e;rw[hP]
  rfl
 rw[e1]at S3
 have S4:SH h0 ds (hpL ph H w++B) g:=by
  refine S3.sub (B:=[]) ?_;rw[List.append_nil];exact List.perm_append_comm_assoc [cR ph (.cells [w.ov] 100 0),slR 197 5 w.ov (obC H w.vs) H.length w.ob] (obP H w.vs) B
 exact⟨_,Q2H S4 ⟨w,hw,rfl⟩⟩
end
end Go.Proofs.Yteinandjhpnceaa
