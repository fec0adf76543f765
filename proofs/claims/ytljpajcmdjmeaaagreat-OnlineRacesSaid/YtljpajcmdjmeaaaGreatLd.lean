/- The walks and the laws, part Ld. Conditions: none. -/
import Derived.Test.YtljpajcmdjmeaaaGreatLc
set_option maxHeartbeats 16000000
open List renaming length_take → v0D, take_add_one → v0U, getElem?_eq_getElem → v0c, length_append → v0j, append_nil → v0k, length_set → v0q, append_assoc → v0B, getElem?_append_left → v0C, mem_of_getElem? → v0m, length_map → v0s, getElem?_map → v0y, length_modify → v0l, getElem?_eq_some_iff → v0z, getElem_mem → v0M, all_eq_true → v0v
open Nat renaming le_trans → v0p, zero_le → v0t, zero_add → v0f, mul_one → v0x, le_refl → v0b
open Int renaming toNat → v0g, toNat_natCast → v0e, le_refl → v03
open Bool renaming true_and → v0F, and_eq_true → v0h, or_eq_true → v0H, not_eq_true' → v0I, or_eq_false_iff → v0Y
open Option renaming some → v0i
namespace Go.Proofs.YtljpajcmdjmeaaaGreat
open Go.X Go.May Go.Mac
def mdB (P:Prg) (s:MS) (v:Int):Bool:=isO s.H v 4&&(decide (0<=(QT s.H v).of)&&decide ((QT s.H v).of <P.funs.length)&&decide (((QT s.H v).vals.length:Int)=(Qz P (QT s.H v).of).caps))
def mdT (s:MS) (id:Int) (a:MAsk) (fn:Int):MTask:=
 if a.op=28 then⟨5,a.site,0,fn,-1,id,0,false,0,0,0,0,0,s.M.length,0⟩else
 if a.op=24 then⟨4,a.site,0,fn,a.looper,id,0,true,0,0,0,0,0,s.M.length,0⟩else⟨4,a.site,0,fn,a.looper,id,0,false,a.n,0,0,0,0,s.M.length,0⟩
def mdK (a:MAsk):Int:=if a.op=28 then 5 else 4
def Q9j (s:MS) (id:Int) (i:Nat):Nat:=((s.T.take i).filter fun t=>decide (t.by'=id)).length
def mdN (s:MS) (id:Int) (a:MAsk) (fn:Int):MTask:= {mdT s id a fn with nth:=Q9j s id s.T.length}
def thS (s:MS) (id:Int) (T':MThr):MS:= {s with Th:=s.Th.set (id -1).toNat T'}
def mdS (P:Prg) (s:MS) (id:Int) (a:MAsk):MS:=
 if mdB P s a.v=true then
  if 256<=s.T.length then {s with full:=true}else
   thS (Yn (Y7 P s (mdN s id a (QT s.H a.v).of) (QT s.H a.v).vals) (mdK a) id (s.T.length+1)) id (Q1y P (Zx s id) (s.T.length+1))
 else s
def mdE (P:Prg) (s:MS) (a:MAsk):Int:=if mdB P s a.v=true/\256<=s.T.length then 11 else 0
theorem QfD {s:MS} {id fn:Int} {a:MAsk}: {mdT s id a fn with nth:=Q9j s id 0}=mdT s id a fn:=by
 unfold mdT
 split
 · rfl
 split<;>rfl
theorem Qfp {s:MS} {id:Int} {i:Nat}:Q9j s id i<=i:=by
 unfold Q9j;refine v0p (List.length_filter_le ..) ?_;rw[v0D];omega
theorem Q5o {s:MS} {id:Int} {i:Nat} (hi:i <s.T.length):Q9j s id (i+1)=if(s.T[i]).by'=id then Q9j s id i+1 else Q9j s id i:=by
 unfold Q9j;rw[v0U,v0c hi,List.filter_append,v0j];by_cases e:(s.T[i]).by'=id
 · rw[if_pos e];simp[e]
 rw[if_neg e];simp[e]
section
variable {h0 h:Hp} {P:Prg} {V:PrV} {mb ph:Nat} {s:MS} {ae tp bs:List Nat}
theorem m93 {id:Int} {a:MAsk} {sv:Value} (S0:SH h0 [] [hpR ph s.H ae,mcR mb ph P V s tp bs] h) (X0:Q1r h0 P V) (hM:ZM P=true) (k:MOk P s) (h1:1<=id) (h2:id<=s.T.length) (hm:s.M.length<=99990) (hs:cellV sv=true) (ak:a.op≠28->0<=a.looper/\a.looper <P.loopers) (hd:a.op≠28->a.op≠24->0<=a.n/\a.n<=1000000000):C modE 113 [Qn mb,iV id,askV a sv] h fun v g'=>v=.tuple #[.bool (!mdB P s a.v),iV (mdE P s a)]/\ ∃ah tl aa,SH h (owns [hpR ph s.H ae,mcR mb ph P V s tp bs]) [hpR ph s.H ah,mcR mb ph P V (mdS P s id a) (tp++tl) aa] g':=by
 have SE:=S0.enterL;obtain⟨D,hD⟩: ∃D,D=owns [hpR ph s.H ae,mcR mb ph P V s tp bs]:=⟨_,rfl⟩;have ai: ∀i,i∈D->h0.n<=i:=by rw[hD];exact S0.own0L
 rw[<-hD]at SE ⊢;obtain⟨w,hw,bm,_,SE⟩:=QJ (A:=[_]) SE;have SE:SH h D (hpR ph s.H ae::mcL mb ph P V s w) h:=SE;have hk:=k.t;have hkh:=k.h;obtain⟨ma,mc,jn⟩:=Qa (SE.sl 9 rfl);obtain⟨ta,tc,bp⟩:=Qa (SE.sl 5 rfl);refine Q9 (fu:=Tryz.f113) (by kernel_rfl) rfl ?_;have S:=SE;refine Q6 ?_;refine QV S gn rfl rfl fun b1 g aF S=>?_;have S:SH h D (cR b1 (.cells (YD a sv) 202 0)::hpR ph s.H ae::mcL mb ph P V s w) g:=S;refine I2 rfl<|I2 rfl<|Q0<|Q5<|Q5<|I9<|I1 rfl<|I6 rfl<|I0 8 rfl<|I4 rfl (S.cel 2 rfl) rfl<|I0 3 rfl ?_
 refine I4 rfl (S.cel 0 rfl) rfl<|Ic [_,_,_] rfl rfl (Qm (m89 (S.res 1 rfl) (by omega)) ⟨ag0,?_⟩);refine Ib rfl<|Q0<|Q3 rfl (fun hb=>?_) fun hb=>?_
 · skip
   refine Q6<|I2 rfl<|I2 rfl<|Q0<|Q8 ?_;refine⟨.inl rfl,_,rfl,?_⟩
   exact(by
    have dA:mdB P s a.v=false:=by
     unfold mdB;have:isO s.H a.v 4=false:=by simpa using hb
     rw[this];rfl
    obtain⟨aa,S⟩:=Qr (A:=[_]) S.drop hw bm;refine⟨by rw[dA];unfold mdE;rw[dA];rfl,ae,[],aa,?_⟩
    unfold mdS;rw[dA,v0k];exact S)
 refine Q4<|Q5<|I9 ?_;have fG:isO s.H a.v 4=true:=by simpa using hb
 obtain⟨RH,va,vc,vb,ob,oc,om,ocs,jl,fD,nj,hoc,hi0,cB,S,fX⟩:=Qg0 S.swap (Q4f fG);obtain⟨o,ho⟩: ∃o,o=QT s.H a.v:=⟨_,rfl⟩;rw[<-ho]at hoc S fX;obtain⟨sl,bH⟩: ∃sl,sl=slR 2 0 (.slice va o.vals.length vc) (isV o.vals) o.vals.length vb:=⟨_,rfl⟩;rw[<-bH]at S fX;have S:SH h D (cR b1 (.cells (YD a sv) 202 0)::(mcL mb ph P V s w++(sl::RH))) g:=SH.comm (A:=sl::RH) (B:=cR b1 (.cells (YD a sv) 202 0)::mcL mb ph P V s w) S;refine I1 rfl<|I6 rfl<|I0 8 rfl<|I4 rfl (S.cel 1 rfl) rfl<|I6 rfl<|I0 0 rfl<|I4 rfl jl rfl<|I0 3 rfl ?_
 refine I4 rfl (S.cel 0 rfl) rfl<|Iso rfl rfl<|I5o 6 rfl rfl<|I3 6 rfl fD nj ?_;rw[hoc];refine Qq (zv:=.agg #[iV 0,iV 0,.slice none 0 0,iV 0,iV 0,iV 0]) S gn rfl (by kernel_rfl) fun b2 g bL S=>?_;refine Qg (n:=6) 0 S gn rfl rfl rfl (by kernel_rfl) rfl rfl (by decide) rfl (fun g S=>ag0) fun g S=>?_;have S:SH h D (cR b2 (.cells [iV o.kind,iV o.of,.slice va o.vals.length vc,iV o.site,iV o.by',iV o.nth] 233 0)::cR b1 (.cells (YD a sv) 202 0)::(mcL mb ph P V s w++(sl::RH))) g:=S;have X:Q1r g P V:=X0.ext (S0.all0 ai S);obtain⟨_,_,_,⟨fua,fuc,iz⟩,_⟩:=X.vals;refine Q0<|Q5<|Q5<|I9 ?_
 refine I0 1 rfl<|I4 rfl (S.cel 0 rfl) rfl<|Il rfl rfl<|I1 rfl ?_
 refine QS (n:=9) rfl rfl rfl gn rfl (fun hb=>by
  refine D0 1 hb rfl<|D4 hb rfl (S.cel 0 rfl) rfl<|D1 hb rfl<|D6 hb rfl<|D0 0 hb rfl<|D0 3 hb rfl<|D4 hb rfl (S.cel 2 rfl) rfl ?_;rw[iz];refine D7 hb rfl ?_;rw[<-iz];refine Dh hb rfl rfl ?_
  exact Q0 ⟨rfl,rfl,9,rfl,rfl⟩) ?_
 refine I1 rfl ?_
 refine QS (n:=14) rfl rfl rfl gn rfl (fun hb=>by
  have cq:0<=o.of/\o.of <P.funs.length:=by simp at hb;omega
  obtain⟨fb',fo',fc',fcs,fe,fm,da,gF,fV,hfn,fs,fcv,iA,fp⟩:=PrgAt.fun X cq.1 cq.2;have kf:fcs[fo'+v0g o.of*4+1]?=some (iV (Qz P o.of).caps):=Qv iA (by omega) rfl;refine D0 2 hb rfl<|D4 hb rfl (S.cel 0 rfl) rfl<|D7 hb rfl<|D1 hb rfl<|D6 hb rfl<|D0 0 hb rfl<|D0 3 hb rfl<|D4 hb rfl (S.cel 2 rfl) rfl<|D0 1 hb rfl<|D4 hb rfl (S.cel 0 rfl) rfl ?_;rw[da];refine D5o 4 hb rfl rfl ?_;rw[<-da];refine D0 1 hb rfl<|D4 hb rfl gF kf<|Dn hb rfl rfl ?_
  exact Q0 ⟨rfl,rfl,14,rfl,rfl⟩) ?_
 refine Q0<|Q3 rfl (fun hb=>?_) fun hb=>?_
 · skip
   refine Q6<|I2 rfl<|I2 rfl<|Q0<|Q8 ?_;refine⟨.inl rfl,_,rfl,?_⟩
   exact(by
    have dA:mdB P s a.v=false:=by
     unfold mdB;rw[<-ho,fG,v0F];have bk:((decide (o.of <0)||decide ((P.funs.length:Int)<=o.of))|| !decide ((o.vals.length:Int)=(Qz P o.of).caps))=true:=hb;rw[<-Bool.not_eq_true];intro e;simp only[v0h,decide_eq_true_eq]at e;simp only[v0H,decide_eq_true_eq,v0I,decide_eq_false_iff_not]at bk;rcases bk with(bk|bk)|bk
     · omega
     · omega
     exact bk e.2
    obtain⟨ah,S⟩:=fX _ _ _ _ (SH.comm (B:=sl::RH) S.drop.drop);obtain⟨aa,S⟩:=Qr (A:=[_]) S hw bm;refine⟨by rw[dA];unfold mdE;rw[dA];rfl,ah,[],aa,?_⟩
    unfold mdS;rw[dA,v0k];exact S)
 refine Q4<|Q5<|I9<|I0 1 rfl<|I4 rfl (S.cel 1 rfl) rfl<|I0 1 rfl<|I4 rfl (S.cel 0 rfl) rfl<|I0 4 rfl<|I4 rfl (S.cel 1 rfl) rfl ?_
 have cq:(0<=o.of/\o.of <P.funs.length)/\(o.vals.length:Int)=(Qz P o.of).caps:=by
  have bk:((decide (o.of <0)||decide ((P.funs.length:Int)<=o.of))|| !decide ((o.vals.length:Int)=(Qz P o.of).caps))=false:=hb;simp only[v0Y,decide_eq_false_iff_not,Bool.not_eq_false',decide_eq_true_eq]at bk;exact⟨by omega,bk.2⟩
 have gY:mdB P s a.v=true:=by
  unfold mdB;rw[<-ho,fG,v0F];simp only[v0h,decide_eq_true_eq];exact cq
 refine I1 rfl<|I1 rfl<|I6 rfl<|I0 16 rfl<|I4 rfl (S.cel 2 rfl) rfl ?_;rw[jn];refine I7 rfl ?_;rw[<-jn];refine Qs (cs:=(tkV ⟨4,a.site,0,o.of,a.looper,id,0,false,0,0,0,0,0,s.M.length,0⟩).toArray) (zv:=.agg #[iV 0,iV 0,iV 0,iV 0,iV 0,iV 0,iV 0,.bool false,iV 0,iV 0,iV 0,iV 0,iV 0,iV 0,iV 0]) (pl:=[(0,1),(1,1),(2,1),(3,1),(4,1),(5,1),(6,1),(7,1),(8,1),(9,1),(10,1),(11,1),(12,1),(13,1),(14,1)]) [(0,_),(1,_),(3,_),(4,_),(5,_),(13,_)] gn rfl (by kernel_rfl) (by kernel_rfl) rfl (by kernel_rfl) ?_
 refine Qq (zv:=.agg #[iV 0,iV 0,iV 0,iV 0,iV 0,iV 0,iV 0,.bool false,iV 0,iV 0,iV 0,iV 0,iV 0,iV 0,iV 0]) S gn rfl (by kernel_rfl) fun b3 g fq S=>?_;refine Qg (n:=15) 0 S gn rfl rfl rfl (by kernel_rfl) rfl rfl (by decide) rfl (fun g S=>ag0) fun g S=>?_;have S:SH h D (cR b3 (.cells (tkV ⟨4,a.site,0,o.of,a.looper,id,0,false,0,0,0,0,0,s.M.length,0⟩) 85 0)::cR b2 (.cells [iV o.kind,iV o.of,.slice va o.vals.length vc,iV o.site,iV o.by',iV o.nth] 233 0)::cR b1 (.cells (YD a sv) 202 0)::(mcL mb ph P V s w++(sl::RH))) g:=S;refine QG<|I2 rfl<|Q0 ?_
 refine ZH [(0,Qn mb),(1,iV id),(8,Qn b2),(9,Qn b3)] (fun lv hh=>lv=[(10,iV (mdK a))]/\SH h D (cR b3 (.cells (tkV (mdT s id a o.of)) 85 0)::cR b2 (.cells [iV o.kind,iV o.of,.slice va o.vals.length vc,iV o.site,iV o.by',iV o.nth] 233 0)::cR b1 (.cells (YD a sv) 202 0)::(mcL mb ph P V s w++(sl::RH))) hh) ?_ fun lv hh hJ=>?_
 · skip
   refine Q6<|I0 0 rfl<|I4 rfl (S.cel 2 rfl) rfl<|Q0<|Q7<|Q6<|Ie rfl rfl<|I2 rfl<|Q0<|Q3 rfl (fun hb=>?_) fun hb=>?_
   · skip
     refine Q6<|I0 0 rfl ?_;refine Qj 0 S gn rfl rfl rfl (by kernel_rfl) rfl (by decide) (by rw[ZL];decide) (fun g S=>ag0) fun g S=>?_;refine QG<|I0 4 rfl ?_;refine Qj 0 S gn rfl rfl rfl (by kernel_rfl) rfl (by decide) (by rw[v0q,ZL];decide) (fun g S=>ag0) fun g S=>?_;refine Q0<|Q2 (by kernel_rfl)<|I2 rfl<|Q0<|Qk ?_
     exact Zu [(10,_)] (p:=(by
      have jX:a.op=28:=of_decide_eq_true hb;unfold mdK mdT;rw[if_pos jX,if_pos jX]
      exact⟨rfl,S⟩))
   refine Q6<|Ie rfl rfl<|I2 rfl<|Q0<|Q3 rfl (fun hb=>?_) fun hb=>?_
   · skip
     refine Q2 (by kernel_rfl)<|I0 7 rfl ?_;refine Qj 0 S gn rfl rfl rfl (by kernel_rfl) rfl (by decide) (by rw[ZL];decide) (fun g S=>ag0) fun g S=>?_;refine Q0<|Qk ?_
     exact Zu [(10,_)] (p:=(by
      have ho4:a.op=24:=of_decide_eq_true hb;have jX: ¬a.op=28:=by omega
      unfold mdK mdT;rw[if_neg jX,if_neg jX,if_pos ho4]
      exact⟨rfl,S⟩))
   refine Q2 (by kernel_rfl)<|I0 2 rfl<|I4 rfl (S.cel 2 rfl) rfl<|I0 8 rfl ?_;refine Qj 0 S gn rfl rfl rfl (by kernel_rfl) rfl (by decide) (by rw[ZL];decide) (fun g S=>ag0) fun g S=>?_;refine Q0<|Qk ?_
   exact Zu [(10,_)] (p:=(by
    have jX: ¬a.op=28:=of_decide_eq_false ‹decide (a.op=28)=false›;have ho4: ¬a.op=24:=of_decide_eq_false ‹decide (a.op=24)=false›;unfold mdK mdT;rw[if_neg jX,if_neg jX,if_neg ho4]
    exact⟨rfl,S⟩))
 obtain⟨rfl,S⟩:=hJ;refine Q5<|Q6 ?_;obtain⟨t1,hU⟩: ∃t1,t1=mdT s id a o.of:=⟨_,rfl⟩;refine I2 rfl<|Q0<|Q7<|Ql [(11,_)] [(0,_),(1,_),(8,_),(9,_),(10,_)] (fun kk lv hh=> ∃i:Nat,lv=[(11,iV i)]/\kk=s.T.length -i/\i<=s.T.length/\SH h D (cR b3 (.cells (tkV {mdT s id a o.of with nth:=Q9j s id i}) 85 0)::cR b2 (.cells [iV o.kind,iV o.of,.slice va o.vals.length vc,iV o.site,iV o.by',iV o.nth] 233 0)::cR b1 (.cells (YD a sv) 202 0)::(mcL mb ph P V s w++(sl::RH))) hh) (n:=s.T.length) ?_ fun kk lv hh hI=>?_
 · exact⟨0,rfl,rfl,v0t _,by rw[QfD];exact S⟩
 obtain⟨i,rfl,eX,aG,S⟩:=hI;refine Q5<|Q6<|I1 rfl<|I1 rfl<|I6 rfl<|I0 12 rfl<|I4 rfl (S.cel 3 rfl) rfl ?_;rw[bp];refine I7 rfl ?_;rw[<-bp];refine Il rfl rfl<|Q0<|Q3 rfl (fun hb=>?_) fun hb=>?_
 · skip
   refine Q4 ?_;have aG:i <s.T.length:=by simp at hb;omega
   obtain⟨tb,tm,mB,tr,bn,gZ,_⟩:=(S.sl 7 rfl).at (by omega)
   have kK:(tkC s.T++tr)[0+v0g (i:Int)*15+5]?=some (iV (s.T[i]).by'):=by
    rw[v0e,v0f];exact Qv (Q4Q tr (v0c aG)) (by omega) rfl
   refine Q5<|Q7<|Q6<|I1 rfl<|I6 rfl<|I0 12 rfl<|I4 rfl (S.cel 3 rfl) rfl<|I1 rfl ?_;rw[bn];refine I5o 15 rfl rfl ?_;rw[<-bn];refine I0 5 rfl<|I4 rfl gZ kK<|I1 rfl<|Ie rfl rfl<|Q0<|Q3 rfl (fun hb=>?_) fun hb=>?_
   · skip
     refine Q2 (by kernel_rfl) ?_;have gI:(s.T[i]).by'=id:=by simpa using hb
     have dW:Q9j s id i<=i:=Qfp;have kn:(tkV {mdT s id a o.of with nth:=Q9j s id i})[0+6]?=some (iV ((Q9j s id i:Nat):Int)):=rfl;refine I0 6 rfl<|I4 rfl (S.cel 0 rfl) kn<|Iao rfl rfl<|I0 6 rfl ?_;refine Qj 0 S gn rfl rfl rfl (by kernel_rfl) rfl (by decide) (by rw[ZL];decide) (fun g S=>ag0) fun g S=>?_;refine Q0<|Q2 (by kernel_rfl)<|I1 rfl<|Iao rfl rfl<|I2 rfl<|Q0 ?_
     exact ZC (s.T.length - (i+1)) [(11,_)] (p:=⟨i+1,rfl,rfl,by omega,by
      rw[Q5o aG,if_pos gI];exact S⟩)
   refine Q4<|Q2 (by kernel_rfl)<|I1 rfl<|Iao rfl rfl<|I2 rfl<|Q0 ?_
   exact ZC (s.T.length - (i+1)) [(11,_)] (p:=⟨i+1,rfl,rfl,by omega,by
    have gI: ¬(s.T[i]).by'=id:=by simpa using hb
    rw[Q5o aG,if_neg gI];exact S⟩)
 refine Qp<|Qc<|Qe<|Qo ?_;obtain rfl:i=s.T.length:=by simp at hb;omega
 refine Q6 ?_;obtain⟨t1,hU⟩: ∃t1,t1=mdN s id a o.of:=⟨_,rfl⟩
 have f1:t1.fn=o.of/\t1.looper <P.loopers/\0<=t1.delay/\t1.delay<=1000000000:=by
  rw[hU];unfold mdN mdT
  split
  · exact⟨rfl,by show(-1:Int)<_;omega,v03 _,by show(0:Int)<=_;omega⟩
  rename_i h28
  split
  · exact⟨rfl,(ak h28).2,v03 _,by show(0:Int)<=_;omega⟩
  rename_i h24;exact⟨rfl,(ak h28).2,(hd h28 h24).1,(hd h28 h24).2⟩
 have S:SH h D (cR b3 (.cells (tkV t1) 85 0)::cR b2 (.cells [iV o.kind,iV o.of,.slice va o.vals.length vc,iV o.site,iV o.by',iV o.nth] 233 0)::cR b1 (.cells (YD a sv) 202 0)::(mcL mb ph P V s w++(sl::RH))) hh:=by rw[hU];exact S
 refine I1 rfl<|QY (n:=15) gn rfl rfl (by kernel_rfl) (by kernel_rfl) (S.cel 0 rfl) (by rw[ZL];decide)<|I0 2 rfl<|I4 rfl (S.cel 1 rfl) rfl ?_;have Sm:SH h D ([cR b3 (.cells (tkV t1) 85 0),cR b2 (.cells [iV o.kind,iV o.of,.slice va o.vals.length vc,iV o.site,iV o.by',iV o.nth] 233 0),cR b1 (.cells (YD a sv) 202 0)]++mcL mb ph P V s w++(sl::RH)) hh:=S;have Sm:=SH.comm Sm;rw[<-v0B]at Sm;obtain⟨bt,Sm⟩:=Qr Sm hw bm
 have Sm:SH h D ([mcR mb ph P V s tp bt]++((sl::RH)++[cR b3 (.cells (tkV t1) 85 0),cR b2 (.cells [iV o.kind,iV o.of,.slice va o.vals.length vc,iV o.site,iV o.by',iV o.nth] 233 0),cR b1 (.cells (YD a sv) 202 0)])) hh:=SH.comm Sm;have ao:=QcD (v:=.slice va o.vals.length vc) (cs:=isV o.vals) (n:=o.vals.length) (vb:=vb) (e:=2) (r:=mcR mb ph P V s tp bt) (L:=(sl::RH)++[cR b3 (.cells (tkV t1) 85 0),cR b2 (.cells [iV o.kind,iV o.of,.slice va o.vals.length vc,iV o.site,iV o.by',iV o.nth] 233 0),cR b1 (.cells (YD a sv) 202 0)]) Sm (by rw[bH];simp)
 refine QZ [_,_,_] gn rfl rfl (by kernel_rfl) rfl (C.mono (m26 (t:=t1) (cells:=o.vals) (SH.sub1 S0 ai Sm 0 rfl) X0 hM k (by rw[f1.1];exact cq.1.1) (by rw[f1.1];exact cq.1.2) f1.2.1 f1.2.2 ao (by rw[f1.1];exact cq.2)) ?_);rintro v g ⟨rfl,tl,bF,S2⟩;have S:=Sm.ret 0 rfl S2;have S:SH h D ((mcR mb ph P V (Y7 P s t1 o.vals) (tp++tl) bF::(sl::RH))++[cR b3 (.cells (tkV t1) 85 0),cR b2 (.cells [iV o.kind,iV o.of,.slice va o.vals.length vc,iV o.site,iV o.by',iV o.nth] 233 0),cR b1 (.cells (YD a sv) 202 0)]) g:=S;have S:=SH.comm (A:=[_]) S.fst;obtain⟨ah,S⟩:=fX _ _ _ _ S;refine⟨ag0,?_⟩;refine I2 rfl<|Z5<|I1 rfl ?_
 refine Ie rfl rfl<|Q0<|Q3 rfl (fun hb=>?_) fun hb=>?_
 · skip
   refine Q6 ?_
   have hf:256<=s.T.length:=by
    refine Classical.byContradiction fun e=>?_;unfold Qcj at hb;rw[if_neg e]at hb;simp at hb;omega
   have dy:Y7 P s t1 o.vals=s:=by unfold Y7;rw[if_pos hf]
   rw[dy]at S;refine I1 rfl<|Ic [_] rfl rfl (C.mono (m53 (SH.sub1 S0 ai S 1 rfl)) ?_);rintro v g ⟨rfl,fM,S2⟩;have S:=S.ret 1 rfl S2;refine⟨ag0,?_⟩;refine I2 rfl<|I2 rfl<|Q0<|Q8 ?_;refine⟨.inl rfl,_,rfl,?_⟩
   exact(by
    refine⟨by rw[gY];unfold mdE;rw[if_pos ⟨gY,hf⟩];rfl,ah,tl,fM,?_⟩
    unfold mdS;rw[if_pos gY,if_pos hf];exact S)
 refine Q4<|Q6 ?_
 have hf: ¬256<=s.T.length:=by
  intro e;unfold Qcj at hb;rw[if_pos e]at hb;simp at hb
 have oz:Qcj s=s.T.length+1:=by unfold Qcj;rw[if_neg hf]
 obtain⟨s1,aU⟩: ∃s1,s1=Y7 P s t1 o.vals:=⟨_,rfl⟩;rw[<-aU]at S;have eM:s1.M=s.M:=by rw[aU];unfold Y7;rw[if_neg hf]
 have eTh:s1.Th=s.Th++[⟨[Ye P t1.fn o.vals],0⟩]:=by rw[aU];unfold Y7;rw[if_neg hf]
 rw[oz];refine I1 rfl<|I1 rfl<|I1 rfl<|I1 rfl ?_;refine QZ [_,_,_,_] gn rfl rfl (by kernel_rfl) rfl (C.mono (m75 (SH.sub1 S0 ai S 1 rfl) (by rw[eM];omega)) ?_);rintro v g ⟨fM,S2⟩;have S:=S.ret 1 rfl S2;obtain⟨s2,aL⟩: ∃s2,s2=Yn s1 (mdK a) id (s.T.length+1):=⟨_,rfl⟩;have S:SH h D ([hpR ph s.H ah]++[mcR mb ph P V s2 (tp++tl) fM]) g:=by rw[aL];exact S
 obtain⟨w2,aI,aN,_,S⟩:=QJ S;have S:SH h D (hpR ph s.H ah::mcL mb ph P V s2 w2) g:=S;have eTh2:s2.Th=s.Th++[⟨[Ye P t1.fn o.vals],0⟩]:=by rw[aL];exact eTh
 have fA:=k.th;have hthl:s2.Th.length=s.T.length+1:=by rw[eTh2,v0j,fA];rfl
 have eA:Zx s2 id=Zx s id:=by
  unfold Zx;rw[eTh2,v0C (by omega)]
 obtain⟨pb,pc,pcs,pm,pv,gi,hpg2,cf,aK,dj⟩:=Qco (s:=s2) (w:=w2) (id:=id) (S.sl 6 rfl) aI.2 h1 (by omega)
 have dz:(hpR ph s.H ah::mcL mb ph P V s2 w2)[(id -1).toNat+s2.Q.length+10+1]?=some (thR pv.1 (pvL P V) (Zx s id) pv.2):=by
  rw[<-eA];exact QgF (mb:=mb) (ph:=ph) aI.1 (Jr h1 (by omega)) aK
 have hT:=k.tok _ (v0m (Jr (s:=s) h1 (by omega)));refine⟨ag0,?_⟩;refine QG<|I1 rfl<|I6 rfl<|I0 13 rfl<|I4 rfl (S.cel 1 rfl) rfl<|I1 rfl<|Iso rfl rfl ?_;rw[gi];refine I5o 1 rfl rfl ?_;rw[<-gi];refine I4 rfl hpg2 dj<|I1 rfl<|Ic [_,_] rfl rfl (C.mono (m97 (SH.sub1 S0 ai S _ dz) X0 hM hT) ?_);rintro v g ⟨rfl,fL,S2⟩;have S:=S.ret _ dz S2;have S:SH h D (hpR ph s.H ah::(mcL mb ph P V s2 w2).set ((id -1).toNat+s2.Q.length+10) (thR pv.1 (pvL P V) (Q1y P (Zx s id) (s.T.length+1)) fL)) g:=S;rw[Q6O fL aI.1 (by omega) aK]at S;refine⟨ag0,?_⟩;refine QG ?_
 refine I2 rfl<|I2 rfl<|Q0<|Q8 ?_;refine⟨.inl rfl,_,rfl,?_⟩
 exact(by
  have e:mdS P s id a= {s2 with Th:=s2.Th.set (id -1).toNat (Q1y P (Zx s id) (s.T.length+1))}:=by
   unfold mdS;rw[if_pos gY,if_neg hf,aL,aU,hU,ho];rfl
  obtain⟨lQ,S⟩:=Qr (A:=[_]) S ⟨aI.1,by show(w2.ths.set _ _).length=(s2.Th.set _ _).length;rw[v0q,v0q];exact aI.2⟩ ((Qar aK).trans aN);refine⟨by rw[gY];unfold mdE;rw[if_neg (fun e=>hf e.2)];rfl,ah,tl,lQ,?_⟩
  rw[e];exact S)
end
def ofI (s:MS) (n k:Int):Int:=if 1<=n/\n<=s.T.length/\(ZF s n).kind=k then n else 0
def mkO (o:Int):Bool:=decide (o∈([23,24,28]:List Int))
def ZW (P:Prg) (s:MS) (a:MAsk):Bool:=if mkO a.op=true then !mdB P s a.v else if a.op=25 then decide (ofI s a.v 4=0)else if a.op=29 then decide (ofI s a.v 5=0)else false
def ZG (P:Prg) (s:MS) (a:MAsk):Int:=if mkO a.op=true then mdE P s a else if a.op=30/\1024<=s.log.length then 11 else 0
def Jq (s:MS) (id:Int) (a:MAsk):MS:=
 if Q6e s.E a.n (decide (a.op=26))=true then Yn {Jm s id a.site 6 a.n true with E:=Qcf s.E a.n (decide (a.op=26)),on:=s.on.set a.n.toNat (s.M.length+1)} 7 id a.n
 else {Jm s id a.site 6 a.n true with E:=Qcf s.E a.n (decide (a.op=26))}
def Zn (s:MS) (id:Int) (a:MAsk):MS×Int:=
 if a.op=9 then(Jm s id a.site 1 a.n false,reg s.G a.n)else
 if a.op=10 then({Jm s id a.site 1 a.n true with G:=s.G.set a.n.toNat a.v},0)else
 if a.op=25 then(Q2T s id a.site (ofI s a.v 4),0)else
 if decide (a.op∈([26,27]:List Int))=true then(Jq s id a,0)else
 if a.op=29 then(Yn s 6 id (ofI s a.v 5),0)else
 if a.op=30 then({Jm s id a.site 7 0 true with log:=s.log++[a.v]},0)else(s,0)
def finM (P:Prg) (s s':MS) (id n:Int):MS:=thS s' id (Q1y P (Zx s id) n)
def Y4 (P:Prg) (s:MS) (id:Int) (a:MAsk):MS:=
 if mkO a.op=true then mdS P s id a else if ZW P s a=true then s else if ZG P s a=11 then {s with full:=true}else finM P s (Zn s id a).1 id (Zn s id a).2
theorem Q5G {h:Hp} {e:Nat} {v:Value} {R:List Int} {vb:List Nat} {a:Int} (x:SlC e 0 h v (isV R) R.length vb) (h0:0<=a) (h1:a <R.length): ∃b c cs m,v=.slice (some ⟨b,0,none⟩) R.length c/\h.get b=some (.cells cs e m)/\cs[0+v0g a*1]?=some (iV (reg R a)):=by
 obtain⟨b,m,c,r,hv,hg,_⟩:=x.at (by omega);refine⟨b,c,_,m,hv,hg,?_⟩;rw[v0f,v0x,v0C (by rw[v0s];omega),v0y,Q7z h0 h1];rfl
theorem Qgk {s:MS} {id z o:Int}:(Q2T s id z o).Th=s.Th/\(Q2T s id z o).Q.length=s.Q.length:=by
 unfold Q2T
 split
 · exact⟨rfl,v0l ..⟩
 exact⟨rfl,rfl⟩
theorem Qdv {s:MS} {id:Int} {a:MAsk}:(Jq s id a).Th=s.Th/\(Jq s id a).Q.length=s.Q.length:=by
 unfold Jq
 split<;>exact⟨rfl,rfl⟩
theorem QdF {s:MS} {id:Int} {a:MAsk}:(Zn s id a).1.Th=s.Th/\(Zn s id a).1.Q.length=s.Q.length:=by
 unfold Zn
 split;exact⟨rfl,rfl⟩
 split;exact⟨rfl,rfl⟩
 split;exact Qgk
 split;exact Qdv
 split;exact⟨rfl,rfl⟩
 split;exact⟨rfl,rfl⟩
 exact⟨rfl,rfl⟩
section
variable {h0 h:Hp} {P:Prg} {V:PrV} {mb ph:Nat} {s:MS} {ae tp bs:List Nat}
theorem m78 {id:Int} {a:MAsk} {sv:Value} (S0:SH h0 [] [hpR ph s.H ae,mcR mb ph P V s tp bs] h) (X0:Q1r h0 P V) (hM:ZM P=true) (k:MOk P s) (h1:1<=id) (h2:id<=s.T.length) (hm:s.M.length<=99980) (hs:cellV sv=true) (ak:mkO a.op=true->a.op≠28->0<=a.looper/\a.looper <P.loopers) (hd:mkO a.op=true->a.op≠28->a.op≠24->0<=a.n/\a.n<=1000000000)
 (hg:a.op=9\/a.op=10->0<=a.n/\a.n <P.globals) (he:decide (a.op∈([26,27]:List Int))=true->0<=a.n/\a.n <P.events.length) (hw: ∀n:Int,1<=n->n<=s.T.length->(ZF s n).kind=4->0<=(ZF s n).looper/\(ZF s n).looper <P.loopers):C modE 93 [Qn mb,iV id,askV a sv] h fun v g'=>v=.tuple #[.bool (ZW P s a),iV (ZG P s a)]/\ ∃ah tl aa,SH h (owns [hpR ph s.H ae,mcR mb ph P V s tp bs]) [hpR ph s.H ah,mcR mb ph P V (Y4 P s id a) (tp++tl) aa] g':=by
 have SE:=S0.enterL;obtain⟨D,hD⟩: ∃D,D=owns [hpR ph s.H ae,mcR mb ph P V s tp bs]:=⟨_,rfl⟩;have ai: ∀i,i∈D->h0.n<=i:=by rw[hD];exact S0.own0L
 rw[<-hD]at SE ⊢;have hk:=k.t;have hkh:=k.h;have fA:=k.th;have nG:=k.e;have mh:=k.on;have hkg:=k.g;have fT:=k.lg;refine Q9 (fu:=Tryz.f93) (by kernel_rfl) rfl ?_;have S:=SE;refine Q6 ?_;refine QV S gn rfl rfl fun b1 g aF S=>?_;have S:SH h D ([cR b1 (.cells (YD a sv) 202 0),hpR ph s.H ae]++[mcR mb ph P V s tp bs]) g:=S;obtain⟨w,jM,bm,_,S⟩:=QJ S;have S:SH h D (cR b1 (.cells (YD a sv) 202 0)::hpR ph s.H ae::mcL mb ph P V s w) g:=S;obtain⟨pb,pc,pcs,pm,pv,gi,jl,cf,aK,dj⟩:=Qco (s:=s) (w:=w) (id:=id) (S.sl 7 rfl) jM.2 h1 (by omega);obtain⟨tb,fB⟩: ∃tb,tb=pv.1:=⟨_,rfl⟩
 have dH:tp[(id -1).toNat]?=some tb:=by rw[<-bm,v0y,aK,fB];rfl
 rw[<-fB]at dj;refine I2 rfl<|I2 rfl<|QG<|I1 rfl<|I6 rfl<|I0 13 rfl<|I4 rfl (S.cel 2 rfl) rfl<|I1 rfl<|Iso rfl rfl ?_;rw[gi];refine I5o 1 rfl rfl ?_;rw[<-gi];refine I4 rfl jl dj<|I2 rfl<|I2 rfl<|Q0 ?_;obtain⟨bD,S⟩:=Qr (A:=[_,_]) S jM bm;have S:SH h D [cR b1 (.cells (YD a sv) 202 0),hpR ph s.H ae,mcR mb ph P V s tp bD] g:=S
 refine ZH [(8,Qn tb)] (fun lv hh=>mkO a.op=false/\ZW P s a=false/\ZG P s a=0/\lv=[(9,iV (Zn s id a).2)]/\ ∃aa,SH h D [cR b1 (.cells (YD a sv) 202 0),hpR ph s.H ae,mcR mb ph P V (Zn s id a).1 tp aa] hh) ?_ fun lv hh hJ=>?_
 · skip
   refine Q6<|I0 0 rfl<|I4 rfl (S.cel 0 rfl) rfl<|Q0<|Q7<|Yh 21 [(23,23),(24,24),(28,25)] [(0,_),(1,_),(2,_),(5,_),(6,_),(7,_),(8,_),(9,_),(12,_),(13,_),(14,_),(15,_),(16,_),(17,_),(18,_),(19,_),(20,_),(21,_)] (by kernel_rfl) rfl (by repeat(first|exact trivial|refine⟨rfl,?_⟩)) (by rfl) (fun hb=>?_) fun hb=>?_
   · skip
     refine Q6 ?_;have aH:mkO a.op=true:=hb;refine I1 rfl<|I1 rfl<|I3 6 rfl (S.cel 0 rfl) (v0b _)<|Ic [_,_,_] rfl rfl (C.mono (m93 (SH.subL (A:=[_,_]) S0 ai (SH.comm (A:=[_]) S)) X0 hM k h1 h2 (by omega) hs (ak aH) (hd aH)) ?_);rintro v g ⟨rfl,ah,tl,bt,S2⟩;have S:=SH.retL (A:=[_,_]) (SH.comm (A:=[_]) S) S2;refine⟨ag0,?_⟩;refine Ix rfl rfl<|Ix rfl rfl<|I2 rfl<|I2 rfl<|Q0<|Q8 ?_;refine⟨.inl rfl,_,rfl,?_⟩
     exact(by
      refine⟨by unfold ZW ZG;rw[if_pos aH,if_pos aH];rfl,ah,tl,bt,?_⟩;unfold Y4;rw[if_pos aH]
      exact SH.fst S)
   refine Q6 ?_;have aH:mkO a.op=false:=hb;refine Ie rfl rfl<|I2 rfl<|Q0<|Q3 rfl (fun hb=>?_) fun hb=>?_
   · skip
     refine Q6 ?_;have ho:a.op=9:=of_decide_eq_true hb;have hgn:=hg (.inl ho);refine I1 rfl<|I1 rfl<|I0 1 rfl<|I4 rfl (S.cel 0 rfl) rfl<|I0 2 rfl<|I4 rfl (S.cel 0 rfl) rfl<|Ic [_,_,_,_,_,_] rfl rfl (C.mono (m76 (SH.sub1 S0 ai S 2 rfl) (by omega)) ?_);rintro v g ⟨bt,S2⟩;have S:=S.ret 2 rfl S2;obtain⟨w2,aI,aN,_,S⟩:=QJ (A:=[_,_]) (S:SH h D ([cR b1 (.cells (YD a sv) 202 0),hpR ph s.H ae]++[mcR mb ph P V (Jm s id a.site 1 a.n false) tp bt]) g);have S:SH h D (cR b1 (.cells (YD a sv) 202 0)::hpR ph s.H ae::mcL mb ph P V (Jm s id a.site 1 a.n false) w2) g:=S
     obtain⟨gb,gc,gcs,gm,ml,hgg,hgk⟩:=Q5G (R:=s.G) (S.sl 8 rfl) hgn.1 (by omega);refine⟨ag0,?_⟩;refine Q0<|I9<|I1 rfl<|I6 rfl<|I0 14 rfl<|I4 rfl (S.cel 2 rfl) rfl<|I0 2 rfl<|I4 rfl (S.cel 0 rfl) rfl ?_;rw[ml];refine I5o 1 rfl rfl ?_;rw[<-ml];refine I4 rfl hgg hgk<|I2 rfl<|Q0<|Qk ?_
     exact Zu [(9,_)] (p:=(by
      have e:Zn s id a=(Jm s id a.site 1 a.n false,reg s.G a.n):=by unfold Zn;rw[if_pos ho]
      rw[e];refine⟨aH,?_,?_,rfl,Qr (A:=[_,_]) S aI aN⟩
      · unfold ZW;rw[aH,if_neg (by decide),if_neg (by omega),if_neg (by omega)]
      unfold ZG;rw[aH,if_neg (by decide),if_neg (by omega)]))
   refine Q6<|Ie rfl rfl<|I2 rfl<|Q0<|Q3 rfl (fun hb=>?_) fun hb=>?_
   · skip
     refine Q6 ?_;have ho:a.op=10:=of_decide_eq_true hb;have hgn:=hg (.inr ho);refine I1 rfl<|I1 rfl<|I0 1 rfl<|I4 rfl (S.cel 0 rfl) rfl<|I0 2 rfl<|I4 rfl (S.cel 0 rfl) rfl<|Ic [_,_,_,_,_,_] rfl rfl (C.mono (m76 (SH.sub1 S0 ai S 2 rfl) (by omega)) ?_);rintro v g ⟨bt,S2⟩;have S:=S.ret 2 rfl S2;obtain⟨w2,aI,aN,_,S⟩:=QJ (A:=[_,_]) (S:SH h D ([cR b1 (.cells (YD a sv) 202 0),hpR ph s.H ae]++[mcR mb ph P V (Jm s id a.site 1 a.n true) tp bt]) g);have S:SH h D (cR b1 (.cells (YD a sv) 202 0)::hpR ph s.H ae::mcL mb ph P V (Jm s id a.site 1 a.n true) w2) g:=S
     obtain⟨gb,gc,gcs,gm,ml,hgg,hgk⟩:=Q5G (R:=s.G) (S.sl 8 rfl) hgn.1 (by omega);refine⟨ag0,?_⟩;refine Q0<|I9<|I1 rfl<|I6 rfl<|I0 14 rfl<|I4 rfl (S.cel 2 rfl) rfl<|I0 2 rfl<|I4 rfl (S.cel 0 rfl) rfl<|I0 3 rfl<|I4 rfl (S.cel 0 rfl) rfl ?_;rw[ml];refine I5o 1 rfl rfl ?_;rw[<-ml];refine Zq 8 S gn rfl rfl rfl (by kernel_rfl) rfl ml (by show _ <(isV s.G).length;rw[v0s];omega) (fun g S=>ag0) fun g S=>?_
     have S:SH h D ([cR b1 (.cells (YD a sv) 202 0),hpR ph s.H ae]++mcL mb ph P V {Jm s id a.site 1 a.n true with G:=s.G.set a.n.toNat a.v} w2) g:=by
      unfold mcL mcH;show SH h D (_::_::([_,_,_,_,_,_,slR 2 0 w2.gv (isV (s.G.set a.n.toNat a.v)) (s.G.set a.n.toNat a.v).length w2.gvb,_,_,_]++_)) g;rw[<-KZ,v0q];have S2:=S;rw[v0f,v0x]at S2;exact S2
     refine Q0<|Qk ?_
     exact Zu [(9,_)] (p:=(by
      have e:Zn s id a=({Jm s id a.site 1 a.n true with G:=s.G.set a.n.toNat a.v},0):=by unfold Zn;rw[if_neg (by omega),if_pos ho]
      rw[e];refine⟨aH,?_,?_,rfl,Qr (A:=[_,_]) S aI aN⟩
      · unfold ZW;rw[aH,if_neg (by decide),if_neg (by omega),if_neg (by omega)]
      unfold ZG;rw[aH,if_neg (by decide),if_neg (by omega)]))
   refine Q6<|Ie rfl rfl<|I2 rfl<|Q0<|Q3 rfl (fun hb=>?_) fun hb=>?_
   · skip
     refine Q6 ?_;have ho:a.op=25:=of_decide_eq_true hb;refine I1 rfl<|I0 3 rfl<|I4 rfl (S.cel 0 rfl) rfl<|Ic [_,_,_] rfl rfl (Qm (m94 (SH.sub1 S0 ai S 2 rfl) k) ⟨ag0,?_⟩);refine I2 rfl<|Z5<|I1 rfl<|Ie rfl rfl<|Q0<|Q3 rfl (fun hb=>?_) fun hb=>?_
     · skip
       refine Q6<|I2 rfl<|I2 rfl<|Q0<|Q8 ?_;refine⟨.inl rfl,_,rfl,?_⟩
       exact(by
        have gO:ofI s a.v 4=0:=of_decide_eq_true hb;have eB:ZW P s a=true:=by unfold ZW;rw[aH,if_neg (by decide),if_pos ho];exact decide_eq_true gO
        have eE:ZG P s a=0:=by unfold ZG;rw[aH,if_neg (by decide),if_neg (by omega)]
        refine⟨by rw[eB,eE];rfl,ae,[],bD,?_⟩;unfold Y4;rw[aH,if_neg (by decide),if_pos eB,v0k]
        exact S.drop)
     refine Q4<|Q2 (by kernel_rfl) ?_;have gO: ¬ofI s a.v 4=0:=of_decide_eq_false hb
     have ij:1<=ofI s a.v 4/\ofI s a.v 4<=s.T.length/\(ZF s (ofI s a.v 4)).kind=4:=by
      unfold ofI at gO ⊢
      split at gO
      · rename_i hh;rw[if_pos hh];exact hh
      exact absurd rfl gO
     refine I1 rfl<|I1 rfl<|I0 1 rfl<|I4 rfl (S.cel 0 rfl) rfl<|I1 rfl<|Ic [_,_,_,_] rfl rfl (C.mono (m95 (of':=ofI s a.v 4) (SH.sub1 S0 ai S 2 rfl) k ij.1 ij.2.1 (fun _=>hw _ ij.1 ij.2.1 ij.2.2) (by omega)) ?_);rintro v g ⟨bt,S2⟩;have S:=S.ret 2 rfl S2;refine⟨ag0,?_⟩;refine Q0<|Qk ?_
     exact Zu [(9,_)] (p:=(by
      have e:Zn s id a=(Q2T s id a.site (ofI s a.v 4),0):=by unfold Zn;rw[if_neg (by omega),if_neg (by omega),if_pos ho]
      rw[e];refine⟨aH,?_,?_,rfl,bt,S⟩
      · unfold ZW;rw[aH,if_neg (by decide),if_pos ho];exact decide_eq_false gO
      unfold ZG;rw[aH,if_neg (by decide),if_neg (by omega)]))
   refine Yh 21 [(26,82),(27,83)] [(0,_),(1,_),(2,_),(5,_),(6,_),(7,_),(8,_),(9,_),(12,_),(13,_),(14,_),(15,_),(16,_),(17,_),(18,_),(19,_),(20,_),(21,_),(32,_),(33,_),(49,_),(50,_),(67,_),(68,_)] (by kernel_rfl) rfl (by repeat(first|exact trivial|refine⟨rfl,?_⟩)) (by rfl) (fun hb=>?_) fun hb=>?_
   · skip
     refine Q6 ?_;have h267:decide (a.op∈([26,27]:List Int))=true:=hb;have hen:=he h267;have ho:a.op=26\/a.op=27:=by simpa using h267
     refine I1 rfl<|I1 rfl<|I0 1 rfl<|I4 rfl (S.cel 0 rfl) rfl<|I0 2 rfl<|I4 rfl (S.cel 0 rfl) rfl<|Ic [_,_,_,_,_,_] rfl rfl (C.mono (m76 (SH.sub1 S0 ai S 2 rfl) (by omega)) ?_);rintro v g ⟨bt,S2⟩;have S:=S.ret 2 rfl S2;obtain⟨w2,aI,aN,_,S⟩:=QJ (A:=[_,_]) (S:SH h D ([cR b1 (.cells (YD a sv) 202 0),hpR ph s.H ae]++[mcR mb ph P V (Jm s id a.site 6 a.n true) tp bt]) g);have S:SH h D (cR b1 (.cells (YD a sv) 202 0)::hpR ph s.H ae::mcL mb ph P V (Jm s id a.site 6 a.n true) w2) g:=S;refine⟨ag0,?_⟩;refine Q0<|Q5<|I9 ?_
     have hpl3:SH h0 [] [lvR w2.lb s.K s.E w2.lbs] g:=SH.sub1 S0 ai S 3 rfl;refine I1 rfl<|I6 rfl<|I0 9 rfl<|I4 rfl (S.cel 2 rfl) rfl<|I0 2 rfl<|I4 rfl (S.cel 0 rfl) rfl<|I0 0 rfl<|I4 rfl (S.cel 0 rfl) rfl<|Ie rfl rfl<|Ic [_,_,_] rfl rfl (C.mono (m96 (K:=s.K) (E:=s.E) (e:=a.n) (on:=decide (a.op=26)) (SH.sub1 S0 ai S 3 rfl) k.e2) ?_);rintro v g ⟨rfl,bF,S2⟩;have S:=S.ret 3 rfl S2;obtain⟨s1,aU⟩: ∃s1,s1= {Jm s id a.site 6 a.n true with E:=Qcf s.E a.n (decide (a.op=26))}:=⟨_,rfl⟩
     obtain⟨w3,cN,di,S⟩: ∃w3:MW,(w3.qs.length=s1.Q.length/\w3.ths.length=s1.Th.length)/\w3.ths.map Prod.fst=tp/\SH h D (cR b1 (.cells (YD a sv) 202 0)::hpR ph s.H ae::mcL mb ph P V s1 w3) g:=⟨{w2 with lbs:=bF},by rw[aU];exact aI,aN,by rw[aU];exact S⟩;have q1:s1.M=s.M++[⟨3,id,0,⟨a.site,6,a.n,0,true⟩⟩]:=by rw[aU];rfl
     have q2:s1.on=s.on:=by rw[aU];rfl
     have q3:s1.M.length=s.M.length+1:=by rw[q1];simp
     have q4:s1.on.length=s.on.length:=by rw[q2]
     obtain⟨ma,mc,jn⟩:=Qa (S.sl 10 rfl);obtain⟨ob,oc,ocs,om,ax,fD,aw⟩:=Q5G (R:=s1.on) (S.sl 11 rfl) hen.1 (by rw[q2];omega);refine⟨ag0,?_⟩;refine Q0<|Q3 rfl (fun hb=>?_) fun hb=>?_
     · skip
       refine Q5<|I9<|I1 rfl<|I6 rfl<|I0 17 rfl<|I4 rfl (S.cel 2 rfl) rfl<|I0 2 rfl<|I4 rfl (S.cel 0 rfl) rfl<|I1 rfl<|I6 rfl<|I0 16 rfl<|I4 rfl (S.cel 2 rfl) rfl ?_;rw[jn];refine I7 rfl ?_;rw[<-jn];rw[ax];refine I5o 1 rfl rfl ?_;rw[<-ax];refine Zq 11 S gn rfl rfl rfl (by kernel_rfl) rfl ax (by rw[v0s,q2];omega) (fun g S=>ag0) fun g S=>?_;obtain⟨s2,aL⟩: ∃s2,s2= {s1 with on:=s1.on.set a.n.toNat s1.M.length}:=⟨_,rfl⟩
       have S:SH h D ([cR b1 (.cells (YD a sv) 202 0),hpR ph s.H ae]++mcL mb ph P V s2 w3) g:=by
        rw[aL];unfold mcL mcH;show SH h D (_::_::([_,_,_,_,_,_,_,_,_,slR 3 0 w3.ov (isV (s1.on.set a.n.toNat s1.M.length)) (s1.on.set a.n.toNat s1.M.length).length w3.ovb]++_)) g;rw[<-KZ,v0q];have S2:=S;rw[v0f,v0x]at S2;exact S2
       obtain⟨fM,S⟩:=Qr (A:=[_,_]) S (by rw[aL];exact cN) di;have S:SH h D [cR b1 (.cells (YD a sv) 202 0),hpR ph s.H ae,mcR mb ph P V s2 tp fM] g:=S;refine Q0<|Q2 (by kernel_rfl)<|I1 rfl<|I1 rfl<|I0 2 rfl<|I4 rfl (S.cel 0 rfl) rfl ?_;refine QZ [_,_,_,_] gn rfl rfl (by kernel_rfl) rfl (C.mono (m75 (SH.sub1 S0 ai S 2 rfl) (by rw[aL];show s1.M.length<=100000;omega)) ?_);rintro v g ⟨fL,S2⟩;have S:=S.ret 2 rfl S2;refine⟨ag0,?_⟩;refine Q0<|Qk ?_
       exact Zu [(9,_)] (p:=(by
        have ht:Q6e s.E a.n (decide (a.op=26))=true:=hb
        have e:Zn s id a=(Yn s2 7 id a.n,0):=by
         unfold Zn;rw[if_neg (by omega),if_neg (by omega),if_neg (by omega),if_pos h267];unfold Jq;rw[if_pos ht,aL,q2,q3,aU];rfl
        rw[e];refine⟨aH,?_,?_,rfl,fL,S⟩
        · unfold ZW;rw[aH,if_neg (by decide),if_neg (by omega),if_neg (by omega)]
        unfold ZG;rw[aH,if_neg (by decide),if_neg (by omega)]))
     refine Q4<|Qk ?_
     exact Zu [(9,_)] (p:=(by
      have ht: ¬Q6e s.E a.n (decide (a.op=26))=true:=by
       rw[show Q6e s.E a.n (decide (a.op=26))=false from hb];decide
      have e:Zn s id a=(s1,0):=by
       unfold Zn;rw[if_neg (by omega),if_neg (by omega),if_neg (by omega),if_pos h267];unfold Jq;rw[if_neg ht,aU]
      rw[e];refine⟨aH,?_,?_,rfl,Qr (A:=[_,_]) S cN di⟩
      · unfold ZW;rw[aH,if_neg (by decide),if_neg (by omega),if_neg (by omega)]
      unfold ZG;rw[aH,if_neg (by decide),if_neg (by omega)]))
   refine Q6 ?_
   have h267: ¬decide (a.op∈([26,27]:List Int))=true:=by
    rw[show decide (a.op∈([26,27]:List Int))=false from hb];decide
   refine Ie rfl rfl<|I2 rfl<|Q0<|Q3 rfl (fun hb=>?_) fun hb=>?_
   · skip
     refine Q6 ?_;have ho:a.op=29:=of_decide_eq_true hb;refine I1 rfl<|I0 3 rfl<|I4 rfl (S.cel 0 rfl) rfl<|Ic [_,_,_] rfl rfl (Qm (m94 (SH.sub1 S0 ai S 2 rfl) k) ⟨ag0,?_⟩);refine I2 rfl<|Z5<|I1 rfl<|Ie rfl rfl<|Q0<|Q3 rfl (fun hb=>?_) fun hb=>?_
     · skip
       refine Q6<|I2 rfl<|I2 rfl<|Q0<|Q8 ?_;refine⟨.inl rfl,_,rfl,?_⟩
       exact(by
        have gO:ofI s a.v 5=0:=of_decide_eq_true hb;have eB:ZW P s a=true:=by unfold ZW;rw[aH,if_neg (by decide),if_neg (by omega),if_pos ho];exact decide_eq_true gO
        have eE:ZG P s a=0:=by unfold ZG;rw[aH,if_neg (by decide),if_neg (by omega)]
        refine⟨by rw[eB,eE];rfl,ae,[],bD,?_⟩;unfold Y4;rw[aH,if_neg (by decide),if_pos eB,v0k]
        exact S.drop)
     refine Q4<|Q2 (by kernel_rfl) ?_;have gO: ¬ofI s a.v 5=0:=of_decide_eq_false hb;refine I1 rfl<|I1 rfl<|I1 rfl<|Ic [_,_,_,_] rfl rfl (C.mono (m75 (other:=ofI s a.v 5) (SH.sub1 S0 ai S 2 rfl) (by omega)) ?_);rintro v g ⟨bt,S2⟩;have S:=S.ret 2 rfl S2;refine⟨ag0,?_⟩;refine Q0<|Qk ?_
     exact Zu [(9,_)] (p:=(by
      have e:Zn s id a=(Yn s 6 id (ofI s a.v 5),0):=by unfold Zn;rw[if_neg (by omega),if_neg (by omega),if_neg (by omega),if_neg h267,if_pos ho]
      rw[e];refine⟨aH,?_,?_,rfl,bt,S⟩
      · unfold ZW;rw[aH,if_neg (by decide),if_neg (by omega),if_pos ho];exact decide_eq_false gO
      unfold ZG;rw[aH,if_neg (by decide),if_neg (by omega)]))
   refine Q6<|Ie rfl rfl<|I2 rfl<|Q0<|Q3 rfl (fun hb=>?_) fun hb=>?_
   · skip
     refine Q5<|Q6 ?_;have ho:a.op=30:=of_decide_eq_true hb;obtain⟨w2,aI,aN,_,S⟩:=QJ (A:=[_,_]) S;have S:SH h D (cR b1 (.cells (YD a sv) 202 0)::hpR ph s.H ae::mcL mb ph P V s w2) _:=S;obtain⟨la,lc,gP⟩:=Qa (S.sl 9 rfl);refine I1 rfl<|I6 rfl<|I0 15 rfl<|I4 rfl (S.cel 2 rfl) rfl ?_;rw[gP];refine I7 rfl ?_;rw[<-gP];refine Ih rfl rfl<|Q0<|Q3 rfl (fun hb=>?_) fun hb=>?_
     · skip
       refine Q6 ?_;have hlf:1024<=s.log.length:=by simp at hb;omega
       obtain⟨bt,S⟩:=Qr (A:=[_,_]) S aI aN;have S:SH h D [cR b1 (.cells (YD a sv) 202 0),hpR ph s.H ae,mcR mb ph P V s tp bt] _:=S;refine I1 rfl<|Ic [_] rfl rfl (C.mono (m53 (SH.sub1 S0 ai S 2 rfl)) ?_);rintro v g ⟨rfl,bF,S2⟩;have S:=S.ret 2 rfl S2;refine⟨ag0,?_⟩;refine I2 rfl<|I2 rfl<|Q0<|Q8 ?_;refine⟨.inl rfl,_,rfl,?_⟩
       exact(by
        have eB:ZW P s a=false:=by unfold ZW;rw[aH,if_neg (by decide),if_neg (by omega),if_neg (by omega)]
        have eE:ZG P s a=11:=by unfold ZG;rw[aH,if_neg (by decide),if_pos ⟨ho,hlf⟩]
        refine⟨by rw[eB,eE];rfl,ae,[],bF,?_⟩;unfold Y4;rw[aH,if_neg (by decide),eB,if_neg (by decide),if_pos eE,v0k]
        exact S.drop)
     refine Q4<|Q6 ?_;have hlf: ¬1024<=s.log.length:=by simp at hb;omega
     obtain⟨bs20,S⟩:=Qr (A:=[_,_]) S aI aN;have S:SH h D [cR b1 (.cells (YD a sv) 202 0),hpR ph s.H ae,mcR mb ph P V s tp bs20] _:=S;refine I1 rfl<|I1 rfl<|I0 1 rfl<|I4 rfl (S.cel 0 rfl) rfl<|Ic [_,_,_,_,_,_] rfl rfl (C.mono (m76 (SH.sub1 S0 ai S 2 rfl) (by omega)) ?_);rintro v g ⟨bt,S2⟩;have S:=S.ret 2 rfl S2;obtain⟨w3,cN,di,_,S⟩:=QJ (A:=[_,_]) (S:SH h D ([cR b1 (.cells (YD a sv) 202 0),hpR ph s.H ae]++[mcR mb ph P V (Jm s id a.site 7 0 true) tp bt]) g);have S:SH h D (cR b1 (.cells (YD a sv) 202 0)::hpR ph s.H ae::mcL mb ph P V (Jm s id a.site 7 0 true) w3) g:=S;refine⟨ag0,?_⟩
     refine Q0<|I9<|I1 rfl<|I1 rfl<|I6 rfl<|I0 15 rfl<|I4 rfl (S.cel 2 rfl) rfl<|I0 3 rfl<|I4 rfl (S.cel 0 rfl) rfl ?_;refine Qd (e:=2) (z:=0) (zv:=.int .i64 0) [(0,_)] S gn rfl (by kernel_rfl) (by kernel_rfl) (by kernel_rfl) (by kernel_rfl) rfl (by rfl) fun b2 g bL S=>?_;refine QD (e:=2) (z:=0) (by':=7) 10 0 S el2 gn rfl rfl rfl rfl rfl rfl (by rfl) (by show(s.log.length+1)*(7+1)<=1099511627776;omega) (fun s' aa g S=>ag0) fun s' aa g S=>?_;refine I6 rfl<|I0 15 rfl ?_;have bR:cellV s'=true:=(S.sl 10 rfl).cellV
     refine Qj 3 S gn rfl rfl bR (by kernel_rfl) rfl (by decide) (by simp) (fun g S=>ag0) fun g S=>?_
     have S:SH h D ([cR b1 (.cells (YD a sv) 202 0),hpR ph s.H ae]++mcL mb ph P V {Jm s id a.site 7 0 true with log:=s.log++[a.v]} {w3 with lv:=s',lvb:=aa}) g:=by
      have S2:=S.drop;unfold mcL mcH;show SH h D (_::_::([_,_,_,_,_,_,_,slR 2 0 s' (isV (s.log++[a.v])) (s.log++[a.v]).length aa,_,_]++_)) g;rw[Q12,show(s.log++[a.v]).length=s.log.length+1 from v0j];exact S2
     refine Q0<|Qk ?_
     exact Zu [(9,_)] (p:=(by
      have e:Zn s id a=({Jm s id a.site 7 0 true with log:=s.log++[a.v]},0):=by unfold Zn;rw[if_neg (by omega),if_neg (by omega),if_neg (by omega),if_neg h267,if_neg (by omega),if_pos ho]
      rw[e];refine⟨aH,?_,?_,rfl,Qr (A:=[_,_]) (w:= {w3 with lv:=s',lvb:=aa}) S cN di⟩
      · unfold ZW;rw[aH,if_neg (by decide),if_neg (by omega),if_neg (by omega)]
      unfold ZG;rw[aH,if_neg (by decide),if_neg (by omega)]))
   refine Q4<|Qk ?_
   exact Zu [(9,_)] (p:=(by
    have ho: ¬a.op=30:=of_decide_eq_false hb;have n9: ¬a.op=9:=of_decide_eq_false ‹decide (a.op=9)=false›;have n10: ¬a.op=10:=of_decide_eq_false ‹decide (a.op=10)=false›;have n25: ¬a.op=25:=of_decide_eq_false ‹decide (a.op=25)=false›;have n29: ¬a.op=29:=of_decide_eq_false ‹decide (a.op=29)=false›;have e:Zn s id a=(s,0):=by unfold Zn;rw[if_neg n9,if_neg n10,if_neg n25,if_neg h267,if_neg n29,if_neg ho]
    rw[e];refine⟨aH,?_,?_,rfl,bD,S⟩
    · unfold ZW;rw[aH,if_neg (by decide),if_neg n25,if_neg n29]
    unfold ZG;rw[aH,if_neg (by decide),if_neg (by omega)]))
 obtain⟨aH,eB,eE,rfl,bt,S⟩:=hJ;obtain⟨s2,aL⟩: ∃s2,s2=(Zn s id a).1:=⟨_,rfl⟩;obtain⟨eTh,eQ⟩:=QdF (s:=s) (id:=id) (a:=a);rw[<-aL]at S eTh eQ;obtain⟨w2,aI,aN,_,S⟩:=QJ (A:=[_,_]) (S:SH h D ([cR b1 (.cells (YD a sv) 202 0),hpR ph s.H ae]++[mcR mb ph P V s2 tp bt]) hh);have S:SH h D (cR b1 (.cells (YD a sv) 202 0)::hpR ph s.H ae::mcL mb ph P V s2 w2) hh:=S
 obtain⟨v2,eu,hv2b⟩: ∃v2,w2.ths[(id -1).toNat]?=some v2/\v2.1=tb:=by
  rw[<-aN,v0y]at dH;cases e:w2.ths[(id -1).toNat]? with
  |none=>rw[e]at dH;cases dH
  |some v2=>rw[e]at dH;exact⟨v2,rfl,v0i.inj dH⟩
 have dz:(cR b1 (.cells (YD a sv) 202 0)::hpR ph s.H ae::mcL mb ph P V s2 w2)[(id -1).toNat+s2.Q.length+10+1+1]?=some (thR tb (pvL P V) (Zx s id) v2.2):=by
  have e:=QgF (mb:=mb) (ph:=ph) (P:=P) (V:=V) (T:=Zx s id) aI.1 (by rw[eTh];exact Jr h1 (by omega)) eu;rw[hv2b]at e;exact e
 have hT:=k.tok _ (v0m (Jr (s:=s) h1 (by omega)));refine Q6<|I1 rfl<|I1 rfl<|Ic [_,_] rfl rfl (C.mono (m97 (SH.sub1 S0 ai S _ dz) X0 hM hT) ?_);rintro v g ⟨rfl,fL,S2⟩;have S:=S.ret _ dz S2;have S:SH h D (cR b1 (.cells (YD a sv) 202 0)::hpR ph s.H ae::(mcL mb ph P V s2 w2).set ((id -1).toNat+s2.Q.length+10) (thR tb (pvL P V) (Q1y P (Zx s id) (Zn s id a).2) fL)) g:=S;rw[<-hv2b,Q6O fL aI.1 (by rw[eTh];omega) eu]at S;refine⟨ag0,?_⟩;refine QG<|I2 rfl<|I2 rfl<|Q0<|Q8 ?_;refine⟨.inl rfl,_,rfl,?_⟩
 exact(by
  have e:Y4 P s id a= {s2 with Th:=s2.Th.set (id -1).toNat (Q1y P (Zx s id) (Zn s id a).2)}:=by
   unfold Y4;rw[aH,if_neg (by decide),eB,if_neg (by decide),eE,if_neg (by decide),aL];rfl
  obtain⟨lQ,S⟩:=Qr (A:=[_,_]) S ⟨aI.1,by show(w2.ths.set _ _).length=(s2.Th.set _ _).length;rw[v0q,v0q];exact aI.2⟩ ((Qar eu).trans aN);refine⟨by rw[eB,eE];rfl,ae,[],lQ,?_⟩
  rw[e,v0k];exact S.drop)
end
def stA (s:MS) (id:Int) (A:List MAcc):MS:= {s with M:=s.M++A.map fun x=>⟨3,id,0,x⟩}
def stT (s:MS) (id:Int) (a:MAsk) (T':MThr) (H':List MObj):MS:=stA {thS s id T' with H:=H'} id a.acc
def stD (P:Prg) (s:MS) (id:Int) (a:MAsk):MS:=if a.op=0 then s else Y4 P s id a
def stK (P:Prg) (s:MS) (T':MThr) (a:MAsk):Int:=if a.op=0 then T'.trap else if ZW P s a=true then 1 else T'.trap
def Q18 (s:MS) (id k:Int):MS:=Yn (trM (stM s id 3) id k) 2 id 0
def Q9e (P:Prg) (s:MS) (id:Int) (b:Bool) (e':Int) (s':MS):Prop:= ∃(a:MAsk) (e:Int) (T':MThr) (H':List MObj),StepP P (Zx s id) s.H a e T' H'/\
 ((e ≠0/\b=false/\e'=11/\s'= {thS s id T' with H:=H',full:=true})\/
  (e=0/\a.op≠0/\ZG P (stT s id a T' H') a≠0/\b=false/\e'=ZG P (stT s id a T' H') a/\s'=Y4 P (stT s id a T' H') id a)\/
  (e =0/\(a.op≠0->ZG P (stT s id a T' H') a=0)/\e'=0/\
   ((stK P (stT s id a T' H') T' a=0/\Yc (Zx (stD P (stT s id a T' H') id a) id)=false/\b=false/\s'=stD P (stT s id a T' H') id a)\/
    (¬(stK P (stT s id a T' H') T' a=0/\Yc (Zx (stD P (stT s id a T' H') id a) id)=false)/\b=true/\s'=Q18 (stD P (stT s id a T' H') id a) id (stK P (stT s id a T' H') T' a)))))
theorem Qce (a:MAcc):(acV a).length=5:=rfl
theorem acC_at {l:List MAcc} {j:Nat} {o:MAcc} (rest:List Value) (h:l[j]?=some o):((acC l++rest).drop (j*5)).take 5=acV o:=Q5S acV 5 Qce rest l j o h
theorem Qgz (l:List MAcc):(acC l).length=l.length*5:=Q1m acV 5 Qce l
theorem Q9x {P:Prg} {s:MS} {id:Int} (k:MOk P s) (h1:1<=id) (h2:id<=s.T.length):Kr P (Zx s id):=k.tok _ (v0m (Jr h1 (by rw[k.th];exact h2)))
theorem Qel {P:Prg} {s:MS} {id:Int} {a:MAsk} {e:Int} {T':MThr} {H':List MObj} (k:MOk P s) (x:StepP P (Zx s id) s.H a e T' H') (hm:s.M.length<=99990):MOk P (stT s id a T' H') where
 h:=x.h
 k:=k.k
 k2:=k.k2
 e2:=k.e2
 e:=k.e
 q:=k.q
 r:=k.r
 t:=k.t
 th:=by show(s.Th.set _ _).length=_;rw[v0q];exact k.th
 g:=k.g
 lg:=k.lg
 m :=by
   show(s.M++List.map _ a.acc).length<=100000;rw[v0j,v0s];have:=x.acc;omega
 on:=k.on
 now:=k.now
 st:=k.st
 ql:=k.ql
 tok:=fun T hT=>by
  have hT:T∈s.Th.set (id -1).toNat T':=hT;rcases List.mem_or_eq_of_mem_set hT with h|h
  · exact k.tok T h
  rw[h];exact x.t
structure AskH (P:Prg) (a:MAsk):Prop where
 lo:mkO a.op=true->a.op≠28->0<=a.looper/\a.looper <P.loopers
 d:mkO a.op=true->a.op≠28->a.op≠24->0<=a.n/\a.n<=1000000000
 g:a.op=9\/a.op=10->0<=a.n/\a.n <P.globals
 e:decide (a.op∈([26,27]:List Int))=true->0<=a.n/\a.n <P.events.length
theorem ask_h {P:Prg} {F:Fun} {x:Ins} {R:List Int} (hi:Z2 P F x=true):AskH P (Q4C x R):=by
 have hn:=Q0i hi;unfold Q1j at hn;have eo:(Q4C x R).op=x.op:=rfl;have en:(Q4C x R).n=x.n:=rfl;have el:(Q4C x R).looper=if x.op=23\/x.op=24 then x.c else 0:=rfl
 refine⟨fun h1 h2=>?_,fun h1 h2 h3=>?_,fun h=>?_,fun h=>?_⟩
 · rw[eo]at h1 h2;have h1:x.op=23\/x.op=24\/x.op=28:=by simpa[mkO]using h1
   rw[el,if_pos (by omega)];rcases h1 with h|h|h
   · rw[if_neg (by omega),if_neg (by omega),if_neg (by omega),if_pos h]at hn;simp only[v0h]at hn;exact Zb.1 hn.1
   · rw[if_neg (by omega),if_neg (by omega),if_neg (by omega),if_neg (by omega),if_pos h]at hn;exact Zb.1 hn
   exact absurd h h2
 · rw[eo]at h1 h2 h3;have h1:x.op=23\/x.op=24\/x.op=28:=by simpa[mkO]using h1
   have h:x.op=23:=by omega
   rw[if_neg (by omega),if_neg (by omega),if_neg (by omega),if_pos h]at hn;simp only[v0h]at hn;have:=Zb.1 hn.2;rw[en];omega
 · rw[eo]at h;rw[if_pos h]at hn;exact Zb.1 hn
 rw[eo]at h;have h:x.op=26\/x.op=27:=by simpa using h
 rw[if_neg (by omega),if_neg (by omega),if_neg (by omega),if_neg (by omega),if_neg (by omega),if_pos h]at hn;exact Zb.1 hn
theorem Q4X {P:Prg} {T:MThr} {H H':List MObj} {a:MAsk} {e:Int} {T':MThr} (x:StepP P T H a e T' H') (hM:ZM P=true) (hT:Kr P T) (h0:a.op≠0):AskH P a:=by
 obtain⟨he,_,_,ha,_⟩:=x.ask h0
 have ax:Yc T=false:=by
  cases hh:Yc T with
  |false=>rfl
  |true=>exact absurd he (x.over hh)
 have hl:=Q1E ax;rw[ha];exact ask_h (Q86 hM (hT.2 _ (Y0 hl)))
theorem Q9p {w:MW} {tp:List Nat} {j tb:Nat} (bm:w.ths.map Prod.fst=tp) (h:tp[j]?=some tb): ∃v,w.ths[j]?=some v/\v.1=tb:=by
 rw[<-bm,v0y]at h;cases e:w.ths[j]? with
 |none=>rw[e]at h;cases h
 |some v=>rw[e]at h;exact⟨v,rfl,v0i.inj h⟩
theorem Qcx {s:MS} {id:Int} {A:List MAcc} {i:Nat} (hi:i <A.length):mkC (stA s id (A.take (i+1))).M=mkC (stA s id (A.take i)).M++mkV ⟨3,id,0,A[i]⟩:=by
 unfold stA;show mkC (s.M++List.map _ (A.take (i+1)))=mkC (s.M++List.map _ (A.take i))++_;rw[v0U,v0c hi,List.map_append,<-v0B,<-Q43];rfl
theorem Q1W {s:MS} {id:Int} {A:List MAcc}:(stA s id A).M.length=s.M.length+A.length:=by
 unfold stA;show(s.M++List.map _ A).length=_;rw[v0j,v0s]
theorem QeD {P:Prg} {s:MS} {t:MTask} {c:List Int}:(Y7 P s t c).H=s.H:=by
 unfold Y7
 split<;>rfl
theorem canM_H {s:MS} {id z o:Int}:(Q2T s id z o).H=s.H:=by
 unfold Q2T
 split<;>rfl
theorem Qg8 {s:MS} {id:Int} {a:MAsk}:(Jq s id a).H=s.H:=by
 unfold Jq
 split<;>rfl
theorem Qgd {s:MS} {id:Int} {a:MAsk}:(Zn s id a).1.H=s.H:=by
 unfold Zn
 split;rfl
 split;rfl
 split;exact canM_H
 split;exact Qg8
 split;rfl
 split;rfl
 rfl
theorem mdS_H {P:Prg} {s:MS} {id:Int} {a:MAsk}:(mdS P s id a).H=s.H:=by
 unfold mdS
 split
 · split
   · rfl
   exact QeD
 rfl
theorem Q75 {P:Prg} {s:MS} {id:Int} {a:MAsk}:(Y4 P s id a).H=s.H:=by
 unfold Y4
 split
 · exact mdS_H
 split
 · rfl
 split
 · rfl
 exact Qgd
def Few (s s':MS):Prop:=s.T.length<=s'.T.length/\s'.M.length<=s.M.length+2
theorem stM_few {s:MS} {id k:Int}:(stM s id k).T.length=s.T.length:=v0l ..
theorem QdN {s:MS} {id z o:Int}:Few s (Q2T s id z o):=by
 unfold Q2T
 split
 · exact⟨Nat.le_of_eq stM_few.symm,by show(s.M++[_]).length<=_;simp⟩
 exact⟨v0b _,by show(s.M++[_]).length<=_;simp⟩
theorem Qbr {s:MS} {id:Int} {a:MAsk}:Few s (Jq s id a):=by
 unfold Jq
 split
 · exact⟨v0b _,by show((s.M++[_])++[_]).length<=_;simp⟩
 exact⟨v0b _,by show(s.M++[_]).length<=_;simp⟩
theorem QbJ {s:MS} {id:Int} {a:MAsk}:Few s (Zn s id a).1:=by
 unfold Zn
 split;exact⟨v0b _,by show(s.M++[_]).length<=_;simp⟩
 split;exact⟨v0b _,by show(s.M++[_]).length<=_;simp⟩
 split;exact QdN
 split;exact Qbr
 split;exact⟨v0b _,by show(s.M++[_]).length<=_;simp⟩
 split;exact⟨v0b _,by show(s.M++[_]).length<=_;simp⟩
 exact⟨v0b _,by show s.M.length<=_;omega⟩
theorem QfE {P:Prg} {s:MS} {id:Int} {a:MAsk}:Few s (mdS P s id a):=by
 unfold mdS
 split
 · split
   · exact⟨v0b _,by show s.M.length<=_;omega⟩
   rename_i h;refine⟨?_,?_⟩
   · show s.T.length<=(Y7 P s _ _).T.length;unfold Y7;rw[if_neg h];show s.T.length<=(s.T++[_]).length;simp
   show((Y7 P s _ _).M++[_]).length<=_;unfold Y7;rw[if_neg h];show(s.M++[_]).length<=_;simp
 exact⟨v0b _,by show s.M.length<=_;omega⟩
theorem Q2C {P:Prg} {s:MS} {id:Int} {a:MAsk}:Few s (Y4 P s id a):=by
 unfold Y4
 split
 · exact QfE
 split
 · exact⟨v0b _,by show s.M.length<=_;omega⟩
 split
 · exact⟨v0b _,by show s.M.length<=_;omega⟩
 exact QbJ
theorem Q6l {P:Prg} {s:MS} {id:Int} {a:MAsk}:Few s (stD P s id a):=by
 unfold stD
 split
 · exact⟨v0b _,by omega⟩
 exact Q2C
section
variable {h0 h:Hp} {P:Prg} {V:PrV} {mb ph:Nat} {s:MS} {ae tp bs:List Nat}
theorem m56 {id:Int} (S0:SH h0 [] [hpR ph s.H ae,mcR mb ph P V s tp bs] h) (X0:Q1r h0 P V) (hM:ZM P=true) (k:MOk P s) (h1:1<=id) (h2:id<=s.T.length) (hm:s.M.length<=99970)
 (hw: ∀n:Int,1<=n->n<=s.T.length->(ZF s n).kind=4->0<=(ZF s n).looper/\(ZF s n).looper <P.loopers):C modE 61 [Qn mb,iV id] h fun v g'=> ∃(b:Bool) (e:Int) (s':MS) (ah tl aa:List Nat),v=.tuple #[.bool b,iV e]/\Q9e P s id b e s'/\SH h (owns [hpR ph s.H ae,mcR mb ph P V s tp bs]) [hpR ph s'.H ah,mcR mb ph P V s' (tp++tl) aa] g':=by
 have SE:=S0.enterL;obtain⟨D,hD⟩: ∃D,D=owns [hpR ph s.H ae,mcR mb ph P V s tp bs]:=⟨_,rfl⟩;have ai: ∀i,i∈D->h0.n<=i:=by rw[hD];exact S0.own0L
 rw[<-hD]at SE ⊢;have hk:=k.t;have fA:=k.th;obtain⟨w,jM,bm,_,SE⟩:=QJ (A:=[_]) SE;have SE:SH h D (hpR ph s.H ae::mcL mb ph P V s w) h:=SE;obtain⟨pb,pc,pcs,pm,pv,gi,jl,cf,aK,dj⟩:=Qco (s:=s) (w:=w) (id:=id) (SE.sl 6 rfl) jM.2 h1 (by omega);obtain⟨tb,fB⟩: ∃tb,tb=pv.1:=⟨_,rfl⟩;have dH:tp[(id -1).toNat]?=some tb:=by rw[<-bm,v0y,aK,fB];rfl
 have hT:=Q9x k h1 h2;have dz:=QgF (mb:=mb) (ph:=ph) (P:=P) (V:=V) jM.1 (Jr (s:=s) h1 (by omega)) aK;rw[<-fB]at dj dz;obtain⟨kb,kc,kcs,km,hkv,hkg,hkat⟩:=Q1P (SE.sl 5 rfl) h1 h2;refine Q9 (fu:=Tryz.f61) (by kernel_rfl) rfl ?_;have S:=SE;refine Q6<|I2 rfl<|I2 rfl<|QG<|I1 rfl<|I6 rfl<|I0 13 rfl<|I4 rfl (S.cel 1 rfl) rfl<|I1 rfl<|Iso rfl rfl ?_;rw[gi];refine I5o 1 rfl rfl ?_;rw[<-gi];refine I4 rfl jl dj<|I2 rfl<|Q0<|Q5 ?_
 refine ZZ [(0,[]),(1,[]),(2,[]),(3,[]),(4,[]),(5,[]),(6,[]),(7,[]),(8,[]),(9,[]),(10,[]),(11,[]),(12,[]),(13,[]),(14,[]),(19,[]),(15,[]),(16,[]),(17,[]),(18,[]),(20,[]),(21,[])] (by kernel_rfl) (by kernel_rfl) (by kernel_rfl) (by kernel_rfl)<|I1 rfl<|I1 rfl<|I6 rfl<|I0 8 rfl<|I4 rfl (S.cel 1 rfl) rfl<|I1 rfl<|I1 rfl<|I6 rfl<|I0 12 rfl<|I4 rfl (S.cel 1 rfl) rfl<|I1 rfl<|Iso rfl rfl ?_;rw[hkv];refine I5o 15 rfl rfl ?_;rw[<-hkv];refine I0 10 rfl<|I4 rfl hkg (hkat 10 _ (by decide) rfl) ?_
 refine Qq (zv:=.agg #[iV 0,iV 0,iV 0,iV 0,iV 0,.slice none 0 0]) S gn rfl (by kernel_rfl) fun b1 g aF S=>?_;obtain⟨E,hE⟩: ∃E,E=(mcL mb ph P V s w).eraseIdx ((id -1).toNat+s.Q.length+10):=⟨_,rfl⟩;have So:=SH.outAt (SH.comm (A:=[_,_]) (B:=mcL mb ph P V s w) S) dz;rw[<-hE]at So;have So:=SH.comm (A:=[_]) (SH.comm (A:=thR tb (pvL P V) (Zx s id) pv.2::E) (B:=[_,hpR ph s.H ae]) So);refine Ic [_,_,_,_] rfl rfl (C.mono (m77 (SH.subL (A:=[hpR ph s.H ae,thR tb (pvL P V) (Zx s id) pv.2]) (B:=E++[_]) S0 ai So) X0 hM hT k.h) ?_);rintro v g ⟨a,e,sv,ab,T',H',bD,dv,rfl,hP,S2⟩;have S:=SH.retL (A:=[_,_]) So S2
 have S:=SH.comm (A:=[_,_]) (B:=thR tb (pvL P V) T' bD::(E++[_])) S;have S:SH h D (thR tb (pvL P V) T' bD::((E++[cR b1 (.cells [iV 0,iV 0,iV 0,iV 0,iV 0,.slice none 0 0] 202 0)])++[slR 66 4 sv (acC a.acc) a.acc.length ab,hpR ph H' dv])) g:=S;rw[v0B,hE]at S;have S:=SH.inAt S (v0z.1 dz).1;rw[fB,Q6O bD jM.1 (by omega) aK]at S;have S:=SH.comm S;obtain⟨sa,sc,rfl⟩:=Qa (S.sl 1 rfl);obtain⟨s1,aU⟩: ∃s1,s1= {thS s id T' with H:=H'}:=⟨_,rfl⟩
 obtain⟨w1,cz,jd,S⟩: ∃w1:MW,(w1.qs.length=s1.Q.length/\w1.ths.length=s1.Th.length)/\w1.ths.map Prod.fst=tp/\SH h D (cR b1 (.cells [iV 0,iV 0,iV 0,iV 0,iV 0,.slice none 0 0] 202 0)::slR 66 4 (.slice sa a.acc.length sc) (acC a.acc) a.acc.length ab::hpR ph H' dv::mcL mb ph P V s1 w1) g:=⟨{w with ths:=w.ths.set (id -1).toNat (pv.1,bD)},by
  rw[aU]
  exact⟨jM.1,by show(w.ths.set _ _).length=(s.Th.set _ _).length;rw[v0q,v0q];exact jM.2⟩,(Qar aK).trans bm,by rw[aU];exact S⟩
 refine⟨ag0,?_⟩;refine I1 rfl<|Ix rfl rfl<|Ix rfl rfl ?_;refine Qg (n:=6) 0 S gn rfl rfl rfl (by kernel_rfl) rfl rfl (by decide) rfl (fun g S=>ag0) fun g S=>?_;have S:SH h D (cR b1 (.cells (YD a (.slice sa a.acc.length sc)) 202 0)::slR 66 4 (.slice sa a.acc.length sc) (acC a.acc) a.acc.length ab::hpR ph H' dv::mcL mb ph P V s1 w1) g:=S;have hs1M:s1.M=s.M:=by rw[aU];rfl
 have hs1Th:s1.Th=s.Th.set (id -1).toNat T':=by rw[aU];rfl
 have hs1T:s1.T=s.T:=by rw[aU];rfl
 have hs1H:s1.H=H':=by rw[aU]
 have eA1:Zx s1 id=T':=by
  unfold Zx;rw[hs1Th,List.getElem?_set_self (by omega)];rfl
 have eL1:s1.Th.length=s.T.length:=by rw[hs1Th,v0q,fA]
 refine I2 rfl<|Z5<|I1 rfl<|In rfl rfl<|Q0<|Q3 rfl (fun hb=>?_) fun hb=>?_
 · skip
   refine Q6 ?_;have an:e≠0:=by simpa using hb
   obtain⟨bt,S⟩:=Qr (A:=[_,_,_]) S cz jd;have S:SH h D [cR b1 (.cells (YD a (.slice sa a.acc.length sc)) 202 0),slR 66 4 (.slice sa a.acc.length sc) (acC a.acc) a.acc.length ab,hpR ph H' dv,mcR mb ph P V s1 tp bt] _:=S;refine I1 rfl<|Ic [_] rfl rfl (C.mono (m53 (SH.sub1 S0 ai S 3 rfl)) ?_);rintro v g ⟨rfl,bF,S2⟩;have S:=S.ret 3 rfl S2;refine⟨ag0,?_⟩;refine I2 rfl<|I2 rfl<|Q0<|Q8 ?_;refine⟨.inl rfl,_,rfl,?_⟩
   exact(by
    refine⟨false,11,{s1 with full:=true},dv,[],bF,rfl,⟨a,e,T',H',hP,.inl ⟨an,rfl,rfl,by rw[aU]⟩⟩,?_⟩;rw[v0k];show SH h D [hpR ph s1.H dv,_] _
    rw[hs1H];exact S.drop.drop)
 refine Q4<|Q5<|Q6 ?_;have j7:e=0:=by simpa using hb
 have hac:=hP.acc;refine I2 rfl<|Q0<|Q7<|Ql [(9,_)] [(0,_),(1,_),(6,_),(7,_)] (fun kk lv hh=> ∃(i:Nat) (w2:MW),lv=[(9,iV i)]/\kk=a.acc.length -i/\i<=a.acc.length/\(w2.qs.length=s1.Q.length/\w2.ths.length=s1.Th.length)/\w2.ths.map Prod.fst=tp/\SH h D (cR b1 (.cells (YD a (.slice sa a.acc.length sc)) 202 0)::slR 66 4 (.slice sa a.acc.length sc) (acC a.acc) a.acc.length ab::hpR ph H' dv::mcL mb ph P V (stA s1 id (a.acc.take i)) w2) hh) (n:=a.acc.length) ?_ fun kk lv hh hI=>?_
 · exact⟨0,w1,rfl,rfl,v0t _,cz,jd,by
   have e:stA s1 id (a.acc.take 0)=s1:=by unfold stA;simp
   rw[e];exact S⟩
 obtain⟨i,w2,rfl,eX,aG,aI,aN,S⟩:=hI;refine Q5<|Q6<|I1 rfl<|I0 5 rfl<|I4 rfl (S.cel 0 rfl) rfl<|I7 rfl<|Il rfl rfl<|Q0<|Q3 rfl (fun hb=>?_) fun hb=>?_
 · skip
   refine Q4 ?_;have aG:i <a.acc.length:=by simp at hb;omega
   obtain⟨fY,am,ac2,ar,hav,cI,_⟩:=(S.sl 1 rfl).at (by omega)
   have kac:((acC a.acc++ar).drop (0+v0g (i:Int)*5)).take 5=acV (a.acc[i]):=by
    rw[v0e,v0f];exact acC_at ar (v0c aG)
   have oy:0+v0g (i:Int)*5+5<=(acC a.acc++ar).length:=by
    rw[v0e,v0j,Qgz];omega
   have bH:(stA s1 id (a.acc.take i)).M.length<=99980:=by rw[Q1W,hs1M,v0D];omega
   refine Q5<|Q7<|I9<|I1 rfl<|I1 rfl<|I6 rfl<|I0 16 rfl<|I4 rfl (S.cel 3 rfl) rfl<|I1 rfl<|I0 5 rfl<|I4 rfl (S.cel 0 rfl) rfl<|I1 rfl ?_;rw[hav];refine I5o 5 rfl rfl ?_;rw[<-hav];refine I3 5 rfl cI oy ?_;rw[kac];refine Qs (cs:=(mkV ⟨3,id,0,a.acc[i]⟩).toArray) (zv:=.agg #[iV 0,iV 0,iV 0,iV 0,iV 0,iV 0,iV 0,.bool false]) (pl:=[(0,1),(1,1),(2,1),(3,5)]) [(0,_),(1,_),(3,_)] gn rfl (by kernel_rfl) (by kernel_rfl) rfl (by kernel_rfl) ?_
   refine Qd (cs:=(mkV ⟨3,id,0,a.acc[i]⟩).toArray) (e:=68) (z:=7) (zv:=.agg #[iV 0,iV 0,iV 0,iV 0,iV 0,iV 0,iV 0,.bool false]) [(0,_)] S gn rfl (by kernel_rfl) (by kernel_rfl) (by kernel_rfl) (by kernel_rfl) rfl (by kernel_rfl) fun b2 g bL S=>?_;refine QD (e:=68) (z:=7) (by':=63) 12 0 S el36 gn rfl rfl rfl rfl rfl rfl (by rfl) (by omega) (fun s' aa g S=>ag0) fun s' aa g S=>?_;refine I6 rfl<|I0 16 rfl ?_;have bR:cellV s'=true:=(S.sl 12 rfl).cellV;refine Qj 4 S gn rfl rfl bR (by kernel_rfl) rfl (by decide) (by simp) (fun g S=>ag0) fun g S=>?_;refine Q0<|Q2 (by kernel_rfl)<|I1 rfl<|Iao rfl rfl ?_
   refine I2 rfl<|Q0 ?_
   exact ZC (a.acc.length - (i+1)) [(9,_)] (p:=⟨i+1,{w2 with mv:=s',mvb:=aa},rfl,rfl,by omega,aI,aN,by
    have S2:=S.drop
    have e2:(stA s1 id (a.acc.take (i+1))).M.length=(stA s1 id (a.acc.take i)).M.length+1:=by
     rw[Q1W,Q1W,v0D,v0D];omega
    unfold mcL mcH
    rw[Qcx aG,e2];exact S2⟩)
 refine Qp<|Qc<|Qe<|Qo ?_;obtain rfl:i=a.acc.length:=by simp at hb;omega
 obtain⟨s2,aL⟩: ∃s2,s2=stT s id a T' H':=⟨_,rfl⟩;have e12:stA s1 id (a.acc.take a.acc.length)=s2:=by rw[List.take_length,aL,aU];rfl
 rw[e12]at S;have k2:MOk P s2:=by rw[aL];exact Qel k hP (by omega)
 have hs2Th:s2.Th=s1.Th:=by rw[<-e12];rfl
 have hs2T:s2.T=s.T:=by rw[<-e12];exact hs1T
 have hs2H:s2.H=H':=by rw[<-e12];exact hs1H
 have hs2M:s2.M.length<=99975:=by rw[<-e12,Q1W,hs1M,v0D];omega
 have eA2:Zx s2 id=T':=by rw[<-eA1];unfold Zx;rw[hs2Th]
 have eK2: ∀n,ZF s2 n=ZF s n:=fun n=>by unfold ZF;rw[hs2T]
 have aI:w2.qs.length=s2.Q.length/\w2.ths.length=s2.Th.length:=by rw[<-e12];exact aI
 obtain⟨v2,eu,hv2b⟩:=Q9p aN dH
 have hpq2:(cR b1 (.cells (YD a (.slice sa a.acc.length sc)) 202 0)::slR 66 4 (.slice sa a.acc.length sc) (acC a.acc) a.acc.length ab::hpR ph H' dv::mcL mb ph P V s2 w2)[(id -1).toNat+s2.Q.length+10+1+1+1]?=some (thR tb (pvL P V) T' v2.2):=by
  have e:=QgF (mb:=mb) (ph:=ph) (P:=P) (V:=V) (T:=T') aI.1 (by rw[<-eA2];exact Jr h1 (by rw[hs2Th,eL1];exact h2)) eu;rw[hv2b]at e;exact e
 obtain⟨ta,tc,tw,htw,_,hq,cE,_⟩:=Q1T (S.held _ hpq2);refine Q6<|I1 rfl<|I6 rfl<|I0 9 rfl<|I4 rfl hq rfl<|I2 rfl<|Q0 ?_;obtain⟨fM,S⟩:=Qr (A:=[_,_,_]) S aI aN;have S:SH h D [cR b1 (.cells (YD a (.slice sa a.acc.length sc)) 202 0),slR 66 4 (.slice sa a.acc.length sc) (acC a.acc) a.acc.length ab,hpR ph H' dv,mcR mb ph P V s2 tp fM] _:=S;rw[<-hs2H]at S
 refine ZH [(0,Qn mb),(1,iV id),(6,Qn tb)] (fun lv hh=>lv=[(10,iV (stK P s2 T' a))]/\(a.op≠0->ZG P s2 a=0)/\ ∃ah tl aa,SH h D [cR b1 (.cells (YD a (.slice sa a.acc.length sc)) 202 0),slR 66 4 (.slice sa a.acc.length sc) (acC a.acc) a.acc.length ab,hpR ph (stD P s2 id a).H ah,mcR mb ph P V (stD P s2 id a) (tp++tl) aa] hh) ?_ fun lv hh hJ=>?_
 · skip
   refine Q6<|I0 0 rfl<|I4 rfl (S.cel 0 rfl) rfl<|In rfl rfl<|Q0<|Q3 rfl (fun hb=>?_) fun hb=>?_
   · skip
     refine Q6 ?_;have dK:a.op≠0:=by simpa using hb
     have hA:=Q4X hP hM hT dK;have Sd:=SH.comm (A:=[_,_]) S;refine I1 rfl<|I1 rfl<|I3 6 rfl (S.cel 0 rfl) (v0b _) ?_;refine QZ [_,_,_] gn rfl rfl (by kernel_rfl) rfl (C.mono (m78 (SH.subL (A:=[_,_]) S0 ai Sd) X0 hM k2 h1 (by rw[hs2T];exact h2) (by omega) rfl hA.lo hA.d hA.g hA.e (fun n n1 n2 n3=>by rw[eK2]at n3 ⊢;rw[hs2T]at n2;exact hw n n1 n2 n3)) ?_);rintro v g ⟨rfl,aP,tl,fL,S2⟩;have S:=SH.comm (B:=[_,_]) (SH.retL (A:=[_,_]) Sd S2);refine⟨ag0,?_⟩;refine I1 rfl<|Ix rfl rfl<|Ix rfl rfl<|I2 rfl<|I2 rfl<|Z5<|I1 rfl<|In rfl rfl<|Q0 ?_
     refine Q3 rfl (fun hb=>?_) fun hb=>?_
     · skip
       refine Q6<|I1 rfl<|I2 rfl<|I2 rfl<|Q0<|Q8 ?_;refine⟨.inl rfl,_,rfl,?_⟩
       exact(by
        have jC:ZG P s2 a≠0:=by simpa using hb
        refine⟨false,ZG P s2 a,Y4 P s2 id a,aP,tl,fL,rfl,⟨a,e,T',H',hP,.inr (.inl ⟨j7,dK,by rw[<-aL];exact jC,rfl,by rw[<-aL],by rw[<-aL]⟩)⟩,?_⟩;have eH:(Y4 P s2 id a).H=s2.H:=Q75
        rw[eH];exact S.drop.drop)
     refine Q4<|Q6 ?_;have jC:ZG P s2 a=0:=by simpa using hb
     refine I1 rfl<|Q0<|Q3 rfl (fun hb=>?_) fun hb=>?_
     · skip
       refine Q2 (by kernel_rfl)<|I2 rfl<|Q0 ?_
       exact Zu [(10,_)] (p:=(by
        have eK:stK P s2 T' a=1:=by unfold stK;rw[if_neg dK,if_pos (show ZW P s2 a=true from hb)]
        have eD:stD P s2 id a=Y4 P s2 id a:=by unfold stD;rw[if_neg dK]
        rw[eK,eD,Q75]
        exact⟨rfl,fun _=>jC,aP,tl,fL,S⟩))
     refine Q4 ?_
     exact Zu [(10,_)] (p:=(by
      have eK:stK P s2 T' a=T'.trap:=by unfold stK;rw[if_neg dK,if_neg (by rw[show ZW P s2 a=false from hb];decide)]
      have eD:stD P s2 id a=Y4 P s2 id a:=by unfold stD;rw[if_neg dK]
      rw[eK,eD,Q75]
      exact⟨rfl,fun _=>jC,aP,tl,fL,S⟩))
   refine Q4 ?_
   exact Zu [(10,_)] (p:=(by
    have dK:a.op=0:=by simpa using hb
    have eK:stK P s2 T' a=T'.trap:=by unfold stK;rw[if_pos dK]
    have eD:stD P s2 id a=s2:=by unfold stD;rw[if_pos dK]
    rw[eK,eD]
    exact⟨rfl,fun h=>absurd dK h,dv,[],fM,by rw[v0k];exact S⟩))
 obtain⟨rfl,jC,aP,tl,fL,S⟩:=hJ;obtain⟨s3,dT⟩: ∃s3,s3=stD P s2 id a:=⟨_,rfl⟩;obtain⟨K,hK⟩: ∃K,K=stK P s2 T' a:=⟨_,rfl⟩;have nT:Few s2 s3:=by rw[dT];exact Q6l
 rw[<-dT]at S;rw[<-hK];obtain⟨w3,cN,di,_,S⟩:=QJ (A:=[_,_,_]) (S:SH h D ([cR b1 (.cells (YD a (.slice sa a.acc.length sc)) 202 0),slR 66 4 (.slice sa a.acc.length sc) (acC a.acc) a.acc.length ab,hpR ph s3.H aP]++[mcR mb ph P V s3 (tp++tl) fL]) hh);have S:SH h D (cR b1 (.cells (YD a (.slice sa a.acc.length sc)) 202 0)::slR 66 4 (.slice sa a.acc.length sc) (acC a.acc) a.acc.length ab::hpR ph s3.H aP::mcL mb ph P V s3 w3) hh:=S
 have mL:(tp++tl)[(id -1).toNat]?=some tb:=by
  rw[v0C (v0z.1 dH).1];exact dH
 obtain⟨v3,lW,hv3b⟩:=Q9p di mL
 have mj:id<=s3.Th.length:=by
  have:=(v0z.1 lW).1;rw[<-cN.2];omega
 have h23:id<=s3.T.length:=by have:=nT.1;rw[hs2T]at this;omega
 have hpq3:(cR b1 (.cells (YD a (.slice sa a.acc.length sc)) 202 0)::slR 66 4 (.slice sa a.acc.length sc) (acC a.acc) a.acc.length ab::hpR ph s3.H aP::mcL mb ph P V s3 w3)[(id -1).toNat+s3.Q.length+10+1+1+1]?=some (thR tb (pvL P V) (Zx s3 id) v3.2):=by
  have e:=QgF (mb:=mb) (ph:=ph) (P:=P) (V:=V) cN.1 (Jr (s:=s3) h1 mj) lW;rw[hv3b]at e;exact e
 refine Q5<|Q6<|I1 rfl<|Ie rfl rfl<|I1 rfl ?_
 refine Qt (n:=3) rfl rfl rfl gn rfl (fun hb=>by
  refine D1 hb rfl<|Dc hb [_] rfl rfl (Qm (m79 (S.held _ hpq3)) ⟨ag0,?_⟩);refine Db hb rfl ?_
  exact Q0 ⟨rfl,rfl,3,rfl,rfl⟩) ?_
 refine Q0<|Q3 rfl (fun hb=>?_) fun hb=>?_
 · skip
   refine Q6<|I2 rfl<|I2 rfl<|Q0<|Q8 ?_;refine⟨.inl rfl,_,rfl,?_⟩
   exact(by
    obtain⟨lQ,S⟩:=Qr (A:=[_,_,_]) S cN di;have hc:K=0/\Yc (Zx s3 id)=false:=by simpa using hb
    refine⟨false,0,s3,aP,tl,lQ,rfl,⟨a,e,T',H',hP,.inr (.inr ⟨j7,by rw[<-aL];exact jC,rfl,.inl ⟨by rw[<-aL,<-hK];exact hc.1,by rw[<-aL,<-dT];exact hc.2,rfl,by rw[<-aL,<-dT]⟩⟩)⟩,?_⟩
    exact SH.drop (SH.drop S))
 refine Q4<|Q6 ?_
 have ik: ¬(K=0/\Yc (Zx s3 id)=false):=by
  rintro⟨c1,c2⟩;simp[c1,c2]at hb
 obtain⟨jb,jc,jcs,jm,hjv,hjg,hjat⟩:=Q1P (S.sl 7 rfl) h1 h23;refine I1 rfl<|I6 rfl<|I0 12 rfl<|I4 rfl (S.cel 3 rfl) rfl<|I1 rfl<|Iso rfl rfl ?_;rw[hjv];refine I5o 15 rfl rfl ?_;rw[<-hjv];refine I0 11 rfl<|Zq 7 S gn rfl rfl rfl (by kernel_rfl) rfl hjv (by rw[Q1R];omega) (fun g S=>ag0) fun g S=>?_;have S:SH h D (cR b1 (.cells (YD a (.slice sa a.acc.length sc)) 202 0)::slR 66 4 (.slice sa a.acc.length sc) (acC a.acc) a.acc.length ab::hpR ph s3.H aP::(mcL mb ph P V s3 w3).set 4 (slR 85 14 w3.tv ((tkC s3.T).set (0+v0g (id -1)*15+11) (iV 3)) s3.T.length w3.tvb)) g:=S;rw[QfF h1 h23]at S
 obtain⟨s4,jR⟩: ∃s4,s4=stM s3 id 3:=⟨_,rfl⟩;rw[<-jR]at S;have hl4:s4.T.length=s3.T.length:=by rw[jR];exact stM_few
 have h24:id<=s4.T.length:=by omega
 obtain⟨jb4,jc4,jcs4,jm4,ld,hjg4,hjat4⟩:=Q1P (s:=s4) (S.sl 7 rfl) h1 h24;refine QG<|I1 rfl<|I6 rfl<|I0 12 rfl<|I4 rfl (S.cel 3 rfl) rfl<|I1 rfl<|Iso rfl rfl<|I1 rfl ?_;rw[ld];refine I5o 15 rfl rfl ?_;rw[<-ld];refine I0 12 rfl<|Zq 7 S gn rfl rfl rfl (by kernel_rfl) rfl ld (by rw[Q1R];omega) (fun g S=>ag0) fun g S=>?_
 have S:SH h D (cR b1 (.cells (YD a (.slice sa a.acc.length sc)) 202 0)::slR 66 4 (.slice sa a.acc.length sc) (acC a.acc) a.acc.length ab::hpR ph s3.H aP::(mcL mb ph P V s4 w3).set 4 (slR 85 14 w3.tv ((tkC s4.T).set (0+v0g (id -1)*15+12) (iV K)) s4.T.length w3.tvb)) g:=S;rw[mc_tr h1 h24]at S;obtain⟨lQ,S⟩:=Qr (A:=[_,_,_]) S (by rw[jR];exact cN) di;have S:SH h D [cR b1 (.cells (YD a (.slice sa a.acc.length sc)) 202 0),slR 66 4 (.slice sa a.acc.length sc) (acC a.acc) a.acc.length ab,hpR ph s3.H aP,mcR mb ph P V (trM s4 id K) (tp++tl) lQ] _:=S;refine QG<|I1 rfl<|I1 rfl ?_
 refine QZ [_,_,_,_] gn rfl rfl (by kernel_rfl) rfl (C.mono (m75 (SH.sub1 S0 ai S 3 rfl) (by rw[jR];show s3.M.length<=100000;have:=nT.2;omega)) ?_);rintro v g ⟨bs7,S2⟩;have S:=S.ret 3 rfl S2;refine⟨ag0,?_⟩;refine QG<|I2 rfl<|I2 rfl<|Q0<|Q8 ?_;refine⟨.inl rfl,_,rfl,?_⟩
 exact(by
  refine⟨true,0,Q18 s3 id K,aP,tl,bs7,rfl,⟨a,e,T',H',hP,.inr (.inr ⟨j7,by rw[<-aL];exact jC,rfl,.inr ⟨by rw[<-aL,<-hK,<-dT];exact ik,rfl,by rw[<-aL,<-hK,<-dT]⟩⟩)⟩,?_⟩;unfold Q18;rw[<-jR];have eH:(Yn (trM s4 id K) 2 id 0).H=s3.H:=by rw[jR];rfl
  rw[eH]
  exact SH.drop (SH.drop S))
end
structure RunH (P:Prg) (s:MS):Prop where
 k:MOk P s
 po: ∀n:Int,1<=n->n<=s.T.length->(ZF s n).kind=4->0<=(ZF s n).looper/\(ZF s n).looper <P.loopers
 ov:s.full=false-> ∀id,Q1u s id=true->Yc (Zx s id)=false
 it: ∀L,L∈s.Q-> ∀x,x∈L->1<=x.task/\x.task<=s.T.length
 ru: ∀r,r∈s.runs->0<=r/\r<=s.T.length
def upS (s:MS):MS:= {s with steps:=s.steps+1}
def Q90 (s:MS):MS:= {s with full:=true}
def WorkG (P:Prg) (s:MS) (id:Int):Prop:=1<=id/\id<=s.T.length/\(ZF s id).looper <0/\(ZF s id).state≠3/\Jo P s id=0
def QgA (P:Prg) (s:MS) (id:Int) (e:Int) (s':MS):Prop:=
 (s.full=true/\e=11/\s'=s)\/(e=10/\s'=s)\/(e=11/\s'=Q90 s)\/
 (s.full=false/\WorkG P s id/\s.steps <20000/\(((ZF s id).state=1/\e=0/\s'=JS (upS s) id)\/((ZF s id).state≠1/\ ∃b,Q9e P (upS s) id b e s')))
theorem Qas {P:Prg} {s:MS} (k:MOk P s) (h:s.steps <20000):MOk P (upS s):=
 ⟨k.h,k.k,k.k2,k.e2,k.e,k.q,k.r,k.t,k.th,k.g,k.lg,k.m,k.on,k.now,⟨by have:=k.st.1;show 0<=s.steps+1;omega,by show s.steps+1<=20000;omega⟩,k.ql,k.tok⟩
section
variable {h0 h:Hp} {P:Prg} {V:PrV} {mb ph:Nat} {s:MS} {ae tp bs:List Nat}
theorem m28 {id:Int} (S0:SH h0 [] [hpR ph s.H ae,mcR mb ph P V s tp bs] h) (X0:Q1r h0 P V) (hM:ZM P=true) (R:RunH P s) (hm:s.M.length<=99960):C modE 24 [Qn mb,iV id] h fun v g'=> ∃(e:Int) (s':MS) (ah tl aa:List Nat),v=iV e/\QgA P s id e s'/\SH h (owns [hpR ph s.H ae,mcR mb ph P V s tp bs]) [hpR ph s'.H ah,mcR mb ph P V s' (tp++tl) aa] g':=by
 have SE:=S0.enterL;obtain⟨D,hD⟩: ∃D,D=owns [hpR ph s.H ae,mcR mb ph P V s tp bs]:=⟨_,rfl⟩;have ai: ∀i,i∈D->h0.n<=i:=by rw[hD];exact S0.own0L
 rw[<-hD]at SE ⊢;have k:=R.k;have hk:=k.t;have av:=k.st;obtain⟨w,hw,bm,_,SE⟩:=QJ (A:=[_]) SE;have SE:SH h D (hpR ph s.H ae::mcL mb ph P V s w) h:=SE;obtain⟨ta,tc0,dh⟩:=Qa (SE.sl 5 rfl);have back: ∀g,SH h D (hpR ph s.H ae::mcL mb ph P V s w) g-> ∃aa,SH h D [hpR ph s.H ae,mcR mb ph P V s tp aa] g:=fun g S=>Qr (A:=[_]) S hw bm;refine Q9 (fu:=Tryz.f24) (by kernel_rfl) rfl ?_;have S:=SE;refine Q6<|I2 rfl<|Z5<|I1 rfl<|I6 rfl<|I0 20 rfl<|I4 rfl (S.cel 1 rfl) rfl<|Q0<|Q3 rfl (fun hb=>?_) fun hb=>?_
 · skip
   refine Q6<|I2 rfl<|Q0<|Q8 ?_;refine⟨.inl rfl,_,rfl,?_⟩
   exact(by
    obtain⟨aa,S⟩:=back _ S
    exact⟨11,s,ae,[],aa,rfl,.inl ⟨hb,rfl,rfl⟩,by rw[v0k];exact S⟩)
 refine Q4<|ZH [(0,Qn mb),(1,iV id)] (fun lv hh=>lv=[]/\WorkG P s id/\s.full=false/\SH h D (hpR ph s.H ae::mcL mb ph P V s w) hh) ?_ fun lv hh hJ=>?_
 · skip
   refine Q6 ?_;have aO:s.full=false:=hb;refine I1 rfl<|Il rfl rfl<|I1 rfl ?_
   refine QS (n:=7) rfl rfl rfl gn rfl (fun hb=>by
    refine D1 hb rfl<|D1 hb rfl<|D6 hb rfl<|D0 12 hb rfl<|D4 hb rfl (S.cel 1 rfl) rfl ?_;rw[dh];refine D7 hb rfl ?_;rw[<-dh];refine Dg hb rfl rfl ?_
    exact Q0 ⟨rfl,rfl,7,rfl,rfl⟩) ?_
   refine I1 rfl ?_
   refine QS (n:=10) rfl rfl rfl gn rfl (fun hb=>by
    have cq:1<=id/\id<=s.T.length:=by simp at hb;omega
    obtain⟨tb,tc,cs,m,bp,hg,aX⟩:=Q1P (S.sl 5 rfl) cq.1 cq.2;refine D1 hb rfl<|D6 hb rfl<|D0 12 hb rfl<|D4 hb rfl (S.cel 1 rfl) rfl<|D1 hb rfl<|Dso hb rfl rfl ?_;rw[bp];refine D5o 15 hb rfl rfl ?_;rw[<-bp];refine D0 4 hb rfl<|D4 hb rfl hg (aX 4 _ (by decide) rfl)<|Dh hb rfl rfl ?_
    exact Q0 ⟨rfl,rfl,10,rfl,rfl⟩) ?_
   refine I1 rfl ?_
   refine QS (n:=10) rfl rfl rfl gn rfl (fun hb=>by
    have cq:1<=id/\id<=s.T.length:=by simp at hb;omega
    obtain⟨tb,tc,cs,m,bp,hg,aX⟩:=Q1P (S.sl 5 rfl) cq.1 cq.2;refine D1 hb rfl<|D6 hb rfl<|D0 12 hb rfl<|D4 hb rfl (S.cel 1 rfl) rfl<|D1 hb rfl<|Dso hb rfl rfl ?_;rw[bp];refine D5o 15 hb rfl rfl ?_;rw[<-bp];refine D0 11 hb rfl<|D4 hb rfl hg (aX 11 _ (by decide) rfl)<|De hb rfl rfl ?_
    exact Q0 ⟨rfl,rfl,10,rfl,rfl⟩) ?_
   refine I1 rfl<|Z1 (dc:=46) rfl (fun dQ=>?_) fun dQ=>?_
   · skip
     refine ZD (n:=4) (dc:=46) (w:=false) rfl dQ rfl<|IT rfl dQ rfl<|Q0<|Q3 rfl (fun hb=>?_) fun hb=>?_
     · skip
       refine Q6<|I2 rfl<|Q0<|Q8 ?_;refine⟨.inl rfl,_,rfl,?_⟩
       exact(by
        obtain⟨aa,S⟩:=back _ S
        exact⟨10,s,ae,[],aa,rfl,.inr (.inl ⟨rfl,rfl⟩),by rw[v0k];exact S⟩)
     refine Q4 ?_;exact Zu [] (p:=(absurd hb (by decide)))
   refine D1 dQ rfl<|D1 dQ rfl ?_;obtain⟨bD,Sb⟩:=back _ S;refine Dc dQ [_,_] rfl rfl (C.mono (m52 (SH.sub1 S0 ai Sb 1 rfl) X0 hM k (R.ov aO id)) ?_);rintro v g ⟨rfl,x⟩;have S:=S.grow x;refine⟨ag0,?_⟩;refine Dg dQ rfl rfl<|Iu rfl dQ rfl<|Q0<|Q3 rfl (fun hb=>?_) fun hb=>?_
   · skip
     refine Q6<|I2 rfl<|Q0<|Q8 ?_;refine⟨.inl rfl,_,rfl,?_⟩
     exact(by
      obtain⟨aa,S⟩:=back _ S
      exact⟨10,s,ae,[],aa,rfl,.inr (.inl ⟨rfl,rfl⟩),by rw[v0k];exact S⟩)
   refine Q4 ?_
   exact Zu [] (p:=(by
    have kh:(((decide (id <1)||decide ((s.T.length:Int)<id))||decide ((0:Int)<=(ZF s id).looper))||decide ((ZF s id).state=3))=false:=dQ;simp only[v0Y,decide_eq_false_iff_not]at kh;have mG: ¬0 <Jo P s id:=by simpa using hb
    have iY:0<=Jo P s id:=by
     unfold Jo
     split
     · rename_i h;have:=h.2.2;unfold Q1M at this;simp at this;omega
     omega
    exact⟨rfl,⟨by omega,by omega,by omega,kh.2,by omega⟩,aO,S⟩))
 obtain⟨rfl,hG,aO,S⟩:=hJ;obtain⟨g1,g2,g3,g4,g5⟩:=hG;refine Q5<|Q6<|I1 rfl<|I6 rfl<|I0 19 rfl<|I4 rfl (S.cel 1 rfl) rfl<|Ih rfl rfl<|Q0<|Q3 rfl (fun hb=>?_) fun hb=>?_
 · skip
   refine Q6 ?_;obtain⟨bD,S⟩:=back _ S;refine I1 rfl<|Ic [_] rfl rfl (C.mono (m53 (SH.sub1 S0 ai S 1 rfl)) ?_);rintro v g ⟨rfl,bF,S2⟩;have S:=S.ret 1 rfl S2;refine⟨ag0,?_⟩;refine I2 rfl<|Q0<|Q8 ⟨.inl rfl,_,rfl,⟨11,Q90 s,ae,[],bF,rfl,.inr (.inr (.inl ⟨rfl,rfl⟩)),by rw[v0k];exact S⟩⟩
 refine Q4<|Q6 ?_;have aj:s.steps <20000:=by simp at hb;omega
 refine I1 rfl<|I6 rfl<|I0 19 rfl<|I4 rfl (S.cel 1 rfl) rfl<|Iao rfl rfl<|I6 rfl<|I0 19 rfl ?_;refine Qj 1 S gn rfl rfl rfl (by kernel_rfl) rfl (by decide) (by simp) (fun g S=>ag0) fun g S=>?_;obtain⟨s1,aU⟩: ∃s1,s1=upS s:=⟨_,rfl⟩;have S:SH h D (hpR ph s1.H ae::mcL mb ph P V s1 w) g:=by rw[aU];exact S
 have k1:MOk P s1:=by rw[aU];exact Qas k aj
 have eT:s1.T=s.T:=by rw[aU];rfl
 have eM:s1.M=s.M:=by rw[aU];rfl
 have eA: ∀n,ZF s1 n=ZF s n:=fun n=>by unfold ZF;rw[eT]
 have cz:w.qs.length=s1.Q.length/\w.ths.length=s1.Th.length:=by rw[aU];exact hw
 obtain⟨tb,tc,cs,m,bp,hg,aX⟩:=Q1P (s:=s1) (S.sl 5 rfl) g1 (by rw[eT];exact g2);have ki:=aX 11 _ (by decide) rfl;rw[eA]at ki;have htl:s1.T.length=s.T.length:=by rw[eT]
 refine Z5<|I1 rfl<|I6 rfl<|I0 12 rfl<|I4 rfl (S.cel 1 rfl) rfl<|I1 rfl<|Iso rfl rfl ?_;rw[bp];refine I5o 15 rfl rfl ?_;rw[<-bp];refine I0 11 rfl<|I4 rfl hg ki<|Ie rfl rfl<|Q0<|Q3 rfl (fun hb=>?_) fun hb=>?_
 · skip
   refine Q6 ?_;obtain⟨bD,S⟩:=Qr (A:=[_]) S cz bm;have S:SH h D [hpR ph s1.H ae,mcR mb ph P V s1 tp bD] _:=S;refine I1 rfl<|I1 rfl ?_;refine QZ [_,_] gn rfl rfl (by kernel_rfl) rfl (C.mono (m55 (SH.sub1 S0 ai S 1 rfl) k1 g1 (by rw[eT];exact g2) (by rw[eM];omega)) ?_);rintro v g ⟨bF,S2⟩;have S:=S.ret 1 rfl S2;refine⟨ag0,?_⟩;refine QG<|I2 rfl<|Q0<|Q8 ?_;refine⟨.inl rfl,_,rfl,?_⟩
   exact(by
    have hs:(ZF s id).state=1:=by simpa using hb
    refine⟨0,JS s1 id,ae,[],bF,rfl,.inr (.inr (.inr ⟨aO,⟨g1,g2,g3,g4,g5⟩,aj,.inl ⟨hs,rfl,by rw[aU]⟩⟩)),?_⟩;have eH:(JS s1 id).H=s1.H:=by unfold JS;split<;>rfl
    rw[eH,v0k];exact S)
 refine Q4<|Q6 ?_;obtain⟨bD,S⟩:=Qr (A:=[_]) S cz bm;have S:SH h D [hpR ph s1.H ae,mcR mb ph P V s1 tp bD] _:=S;refine I1 rfl<|I1 rfl ?_;refine QZ [_,_] gn rfl rfl (by kernel_rfl) rfl (C.mono (m56 (SH.subL (A:=[_,_]) (B:=[]) S0 ai S) X0 hM k1 g1 (by rw[eT];exact g2) (by rw[eM];omega) (fun n n1 n2 n3=>by rw[eA]at n3 ⊢;rw[eT]at n2;exact R.po n n1 n2 n3)) ?_);rintro v g ⟨b,e,s',ah,tl,bF,rfl,hR,S2⟩;have S:=SH.retL (A:=[_,_]) (B:=[]) S S2;refine⟨ag0,?_⟩;refine I1 rfl<|Ix rfl rfl<|Ix rfl rfl<|I2 rfl<|I2 rfl<|QG<|I1 rfl<|I2 rfl<|Q0 ?_
 refine Q8 ?_;refine⟨.inl rfl,_,rfl,?_⟩
 exact(by
  have hs:(ZF s id).state≠1:=by simpa using hb
  exact⟨e,s',ah,tl,bF,rfl,.inr (.inr (.inr ⟨aO,⟨g1,g2,g3,g4,g5⟩,aj,.inr ⟨hs,b,by rw[<-aU];exact hR⟩⟩)),S⟩)
end
def qAt (s:MS) (l:Int):List MItem:=(s.Q[l.toNat]?).getD []
theorem qp_at {h:Hp} {s:MS} {w:MW} {qv:Value} {bs:List Nat} {l:Int} (x:SlC 98 0 h qv (ptC w.qs) s.Q.length bs) (hw:w.qs.length=s.Q.length) (h0:0<=l) (h1:l <s.Q.length): ∃b c cs m v,qv=.slice (some ⟨b,0,none⟩) s.Q.length c/\h.get b=some (.cells cs 98 m)/\w.qs[l.toNat]?=some v/\s.Q[l.toNat]?=some (qAt s l)/\cs[0+v0g l*1]?=some (Qn v.1):=by
 obtain⟨b,m,c,r,hv,hg,_⟩:=x.at (by omega);obtain⟨v,gh⟩: ∃v,w.qs[l.toNat]?=some v:=⟨_,v0c (by omega)⟩;refine⟨b,c,_,m,v,hv,hg,gh,?_,?_⟩
 · unfold qAt;rw[v0c (by omega)];rfl
 rw[v0f,v0x,v0C (by rw[v0s];omega),v0y,gh];rfl
theorem Q73 {L:List MItem} {now:Int} (h:Q2R L now=true):Zt L now∈L:=by
 have h1:0<=Zd L:=by
  unfold Q2R at h;simp at h;exact h.1
 have h2:=Km L L.length (v0b _);have h2:Zd L <L.length:=h2.2.1;unfold Zt;rw[if_pos h];unfold Kj;rw[v0c (by omega)];exact v0M _
theorem Q8n {P:Prg} {s:MS} {t:MTask} {c:List Int}:(Y7 P s t c).runs=s.runs:=by
 unfold Y7
 split<;>rfl
theorem canM_r {s:MS} {id z o:Int}:(Q2T s id z o).runs=s.runs:=by
 unfold Q2T
 split<;>rfl
theorem Qg7 {s:MS} {id:Int} {a:MAsk}:(Jq s id a).runs=s.runs:=by
 unfold Jq
 split<;>rfl
theorem Qgc {s:MS} {id:Int} {a:MAsk}:(Zn s id a).1.runs=s.runs:=by
 unfold Zn
 split;rfl
 split;rfl
 split;exact canM_r
 split;exact Qg7
 split;rfl
 split;rfl
 rfl
theorem QbI {P:Prg} {s:MS} {id:Int} {a:MAsk}:(Y4 P s id a).runs=s.runs:=by
 unfold Y4
 split
 · unfold mdS
   split
   · split
     · rfl
     exact Q8n
   rfl
 split
 · rfl
 split
 · rfl
 exact Qgc
theorem step_r {P:Prg} {s s':MS} {id e:Int} {b:Bool} (h:Q9e P s id b e s'):s'.runs=s.runs:=by
 have hD: ∀a T' H',(stD P (stT s id a T' H') id a).runs=s.runs:=fun a T' H'=>by
  unfold stD
  split
  · rfl
  exact QbI
 obtain⟨a,e0,T',H',_,h⟩:=h;rcases h with⟨_,_,_,rfl⟩| ⟨_,_,_,_,_,rfl⟩| ⟨_,_,_,h⟩
 · rfl
 · exact QbI
 rcases h with⟨_,_,_,rfl⟩| ⟨_,_,rfl⟩
 · exact hD _ _ _
 exact hD _ _ _
def RunG (P:Prg) (s:MS) (l:Int):Prop:=0<=l/\l <s.Q.length/\(reg s.runs l=0->Q2R (qAt s l) s.now=true)/\(0 <reg s.runs l->Jo P s (reg s.runs l)=0)
def begR (s:MS) (l:Int):MS:=JS {upS s with Q:=s.Q.modify l.toNat fun L=>tkQ L s.now,runs:=s.runs.set l.toNat (Zt (qAt s l) s.now).task} (Zt (qAt s l) s.now).task
def ovrR (s:MS) (l:Int) (b:Bool):MS:=if b then {s with runs:=s.runs.set l.toNat 0}else s
def QgC (P:Prg) (s:MS) (l:Int) (e:Int) (s':MS):Prop:=
 (s.full=true/\e=11/\s'=s)\/(e=10/\s'=s)\/(e=11/\s'=Q90 s)\/
 (s.full=false/\RunG P s l/\s.steps <20000/\((reg s.runs l=0/\e=0/\s'=begR s l)\/(reg s.runs l≠0/\ ∃b s2,Q9e P (upS s) (reg s.runs l) b e s2/\s'=ovrR s2 l b)))
theorem QbG {L:List MItem} {t:Int}:(Q3s L t).length<=L.length:=by
 unfold Q3s
 split
 · rw[List.length_eraseIdx];split<;>omega
 exact v0b _
theorem tkQ_le {L:List MItem} {now:Int}:(tkQ L now).length<=L.length:=by
 unfold tkQ
 split
 · exact QbG
 exact v0b _
theorem ql_tk {P:Prg} {s:MS} (k:MOk P s) {j:Nat} {L:List MItem} (h:L∈s.Q.modify j fun L=>tkQ L s.now):L.length<=s.T.length:=by
 obtain⟨i,hi,rfl⟩:=List.mem_iff_getElem.1 h;have aY:i <s.Q.length:=by rw[v0l]at hi;exact hi
 have:=k.ql _ (v0M aY);rw[List.getElem_modify]
 split
 · exact v0p tkQ_le this
 exact this
section
variable {h0 h:Hp} {P:Prg} {V:PrV} {mb ph:Nat} {s:MS} {ae tp bs:List Nat}
theorem m27 {l:Int} (S0:SH h0 [] [hpR ph s.H ae,mcR mb ph P V s tp bs] h) (X0:Q1r h0 P V) (hM:ZM P=true) (R:RunH P s) (hm:s.M.length<=99960):C modE 23 [Qn mb,iV l] h fun v g'=> ∃(e:Int) (s':MS) (ah tl aa:List Nat),v=iV e/\QgC P s l e s'/\SH h (owns [hpR ph s.H ae,mcR mb ph P V s tp bs]) [hpR ph s'.H ah,mcR mb ph P V s' (tp++tl) aa] g':=by
 have SE:=S0.enterL;obtain⟨D,hD⟩: ∃D,D=owns [hpR ph s.H ae,mcR mb ph P V s tp bs]:=⟨_,rfl⟩;have ai: ∀i,i∈D->h0.n<=i:=by rw[hD];exact S0.own0L
 rw[<-hD]at SE ⊢;have k:=R.k;have hk:=k.t;have av:=k.st;have hq:=k.q;have hr:=k.r;obtain⟨w,hw,bm,_,SE⟩:=QJ (A:=[_]) SE;have SE:SH h D (hpR ph s.H ae::mcL mb ph P V s w) h:=SE;obtain⟨qa,qc0,m5⟩:=Qa (SE.sl 3 rfl);have back: ∀g,SH h D (hpR ph s.H ae::mcL mb ph P V s w) g-> ∃aa,SH h D [hpR ph s.H ae,mcR mb ph P V s tp aa] g:=fun g S=>Qr (A:=[_]) S hw bm;refine Q9 (fu:=Tryz.f23) (by kernel_rfl) rfl ?_;have S:=SE;refine Q6<|I2 rfl<|Z5<|I1 rfl<|I6 rfl<|I0 20 rfl<|I4 rfl (S.cel 1 rfl) rfl<|Q0<|Q3 rfl (fun hb=>?_) fun hb=>?_
 · skip
   refine Q6<|I2 rfl<|Q0<|Q8 ?_;refine⟨.inl rfl,_,rfl,?_⟩
   exact(by
    obtain⟨aa,S⟩:=back _ S
    exact⟨11,s,ae,[],aa,rfl,.inl ⟨hb,rfl,rfl⟩,by rw[v0k];exact S⟩)
 refine Q4<|Q5<|Q6 ?_;have aO:s.full=false:=hb;refine I1 rfl<|Il rfl rfl<|I1 rfl ?_
 refine QS (n:=7) rfl rfl rfl gn rfl (fun hb=>by
  refine D1 hb rfl<|D1 hb rfl<|D6 hb rfl<|D0 10 hb rfl<|D4 hb rfl (S.cel 1 rfl) rfl ?_;rw[m5];refine D7 hb rfl ?_;rw[<-m5];refine Dh hb rfl rfl ?_
  exact Q0 ⟨rfl,rfl,7,rfl,rfl⟩) ?_
 refine Q0<|Q3 rfl (fun hb=>?_) fun hb=>?_
 · skip
   refine Q6<|I2 rfl<|Q0<|Q8 ?_;refine⟨.inl rfl,_,rfl,?_⟩
   exact(by
    obtain⟨aa,S⟩:=back _ S
    exact⟨10,s,ae,[],aa,rfl,.inr (.inl ⟨rfl,rfl⟩),by rw[v0k];exact S⟩)
 refine Q4<|Q5<|ZZ [(0,[]),(1,[]),(2,[]),(3,[]),(4,[]),(5,[]),(6,[]),(7,[]),(8,[]),(9,[]),(10,[]),(15,[]),(11,[]),(12,[]),(13,[]),(14,[]),(16,[]),(17,[])] (by kernel_rfl) (by kernel_rfl) (by kernel_rfl) (by kernel_rfl) ?_;have gz:0<=l/\l <s.Q.length:=by simp at hb;omega
 obtain⟨qb,qc,qcs,qm,qv,cA,dJ,gN,kj,iR⟩:=qp_at (s:=s) (w:=w) (S.sl 3 rfl) hw.1 gz.1 gz.2;have oD:(qAt s l).length<=1000000:=v0p (k.ql _ (v0m kj)) (by omega);refine I1 rfl<|I6 rfl<|I0 10 rfl<|I4 rfl (S.cel 1 rfl) rfl<|I1 rfl ?_;rw[cA];refine I5o 1 rfl rfl ?_;rw[<-cA];refine I4 rfl dJ iR<|I1 rfl<|I6 rfl<|I0 18 rfl<|I4 rfl (S.cel 1 rfl) rfl ?_;refine Qq (zv:=.agg #[iV 0,.bool false,iV 0]) S gn rfl (by kernel_rfl) fun b1 g aF S=>?_
 have dz:(cR b1 (.cells [iV 0,.bool false,iV 0] 161 0)::hpR ph s.H ae::mcL mb ph P V s w)[l.toNat+10+1+1]?=some (quR qv.1 (qAt s l) qv.2):=mc_q (mb:=mb) (ph:=ph) kj gN;refine Ic [_,_] rfl rfl (C.mono (m51 (S.held _ dz) oD) ?_);rintro v g ⟨rfl,x⟩;have S:=S.grow x;refine⟨ag0,?_⟩;refine I1 rfl<|Ix rfl rfl<|Ix rfl rfl ?_;refine Qg (n:=3) 0 S gn rfl rfl rfl (by kernel_rfl) rfl rfl (by decide) rfl (fun g S=>ag0) fun g S=>?_;have S:SH h D (cR b1 (.cells [iV (Zt (qAt s l) s.now).task,.bool (Zt (qAt s l) s.now).front,iV (Zt (qAt s l) s.now).due] 161 0)::hpR ph s.H ae::mcL mb ph P V s w) g:=S;refine I2 rfl<|Q0 ?_
 refine ZH [(0,Qn mb),(1,iV l),(5,Qn b1)] (fun lv hh=>lv=[]/\RunG P s l/\SH h D (cR b1 (.cells [iV (Zt (qAt s l) s.now).task,.bool (Zt (qAt s l) s.now).front,iV (Zt (qAt s l) s.now).due] 161 0)::hpR ph s.H ae::mcL mb ph P V s w) hh) ?_ fun lv hh hJ=>?_
 · skip
   refine Q6 ?_;obtain⟨rb,rc,rcs,rm,bX,bY,iQ⟩:=Q5G (R:=s.runs) (S.sl 5 rfl) gz.1 (by omega);refine I1 rfl<|I6 rfl<|I0 11 rfl<|I4 rfl (S.cel 2 rfl) rfl<|I1 rfl ?_;rw[bX];refine I5o 1 rfl rfl ?_;rw[<-bX];refine I4 rfl bY iQ<|Ie rfl rfl<|I1 rfl ?_
   refine Qt (n:=2) rfl rfl rfl gn rfl (fun hb=>by
    refine D1 hb rfl<|Db hb rfl ?_
    exact Q0 ⟨rfl,rfl,2,rfl,rfl⟩) ?_
   refine I1 rfl<|Z1 (dc:=51) rfl (fun bJ=>?_) fun bJ=>?_
   · skip
     refine ZD (n:=20) (dc:=51) (w:=false) rfl bJ rfl<|IT rfl bJ rfl<|Q0<|Q3 rfl (fun hb=>?_) fun hb=>?_
     · skip
       refine Q6<|I2 rfl<|Q0<|Q8 ?_;refine⟨.inl rfl,_,rfl,?_⟩
       exact(by
        obtain⟨aa,S⟩:=back _ S.drop
        exact⟨10,s,ae,[],aa,rfl,.inr (.inl ⟨rfl,rfl⟩),by rw[v0k];exact S⟩)
     refine Q4 ?_;exact Zu [] (p:=(absurd hb (by decide)))
   refine D1 bJ rfl<|D6 bJ rfl<|D0 11 bJ rfl<|D4 bJ rfl (S.cel 2 rfl) rfl<|D1 bJ rfl ?_;rw[bX];refine D5o 1 bJ rfl rfl ?_;rw[<-bX];refine D4 bJ rfl bY iQ<|Dg bJ rfl rfl<|D1 bJ rfl<|Z1 (dc:=60) rfl (fun bT=>?_) fun bT=>?_
   · skip
     refine D1 bT rfl<|D1 bT rfl<|D6 bT rfl<|D0 11 bT rfl<|D4 bT rfl (S.cel 2 rfl) rfl<|D1 bT rfl ?_;rw[bX];refine D5o 1 bT rfl rfl ?_;rw[<-bX];refine D4 bT rfl bY iQ ?_;obtain⟨bD,Sb⟩:=back _ S.drop;refine Dc bT [_,_] rfl rfl (C.mono (m52 (SH.sub1 S0 ai Sb 1 rfl) X0 hM k (R.ov aO _)) ?_);rintro v g ⟨rfl,x⟩;have S:=S.grow x;refine⟨ag0,?_⟩;refine Dg bT rfl rfl<|DT bJ rfl bT rfl<|Iu rfl bJ rfl<|Q0<|Q3 rfl (fun hb=>?_) fun hb=>?_
     · skip
       refine Q6<|I2 rfl<|Q0<|Q8 ?_;refine⟨.inl rfl,_,rfl,?_⟩
       exact(by
        obtain⟨aa,S⟩:=back _ S.drop
        exact⟨10,s,ae,[],aa,rfl,.inr (.inl ⟨rfl,rfl⟩),by rw[v0k];exact S⟩)
     refine Q4 ?_
     exact Zu [] (p:=(by
      have h51:(decide (reg s.runs l=0)&& !Q2R (qAt s l) s.now)=false:=bJ;have mG: ¬0 <Jo P s (reg s.runs l):=by simpa using hb
      have iY:0<=Jo P s (reg s.runs l):=by
       unfold Jo
       split
       · rename_i h;have:=h.2.2;unfold Q1M at this;simp at this;omega
       omega
      refine⟨rfl,⟨gz.1,gz.2,fun e=>?_,fun _=>by omega⟩,S⟩;rw[e]at h51
      simpa using h51))
   refine ZD (n:=10) (dc:=60) (w:=true) rfl bT rfl<|Du bJ rfl bT rfl<|Iu rfl bJ rfl<|Q0<|Q3 rfl (fun hb=>?_) fun hb=>?_
   · skip
     refine Q6<|I2 rfl<|Q0<|Q8 ?_;refine⟨.inl rfl,_,rfl,?_⟩
     exact(by
      obtain⟨aa,S⟩:=back _ S.drop
      exact⟨10,s,ae,[],aa,rfl,.inr (.inl ⟨rfl,rfl⟩),by rw[v0k];exact S⟩)
   refine Q4 ?_
   exact Zu [] (p:=(by
    have h51:(decide (reg s.runs l=0)&& !Q2R (qAt s l) s.now)=false:=bJ;have h60: ¬0 <reg s.runs l:=by simpa using bT
    refine⟨rfl,⟨gz.1,gz.2,fun e=>?_,fun h=>absurd h h60⟩,S⟩;rw[e]at h51
    simpa using h51))
 obtain⟨rfl,hG,S⟩:=hJ;obtain⟨g1,g2,g3,g4⟩:=hG;have hG:RunG P s l:=⟨g1,g2,g3,g4⟩;refine Q5<|Q6<|I1 rfl<|I6 rfl<|I0 19 rfl<|I4 rfl (S.cel 2 rfl) rfl<|Ih rfl rfl<|Q0<|Q3 rfl (fun hb=>?_) fun hb=>?_
 · skip
   refine Q6 ?_;obtain⟨bD,S⟩:=back _ S.drop;refine I1 rfl<|Ic [_] rfl rfl (C.mono (m53 (SH.sub1 S0 ai S 1 rfl)) ?_);rintro v g ⟨rfl,bF,S2⟩;have S:=S.ret 1 rfl S2;refine⟨ag0,?_⟩;refine I2 rfl<|Q0<|Q8 ⟨.inl rfl,_,rfl,⟨11,Q90 s,ae,[],bF,rfl,.inr (.inr (.inl ⟨rfl,rfl⟩)),by rw[v0k];exact S⟩⟩
 refine Q4<|Q6 ?_;have aj:s.steps <20000:=by simp at hb;omega
 refine I1 rfl<|I6 rfl<|I0 19 rfl<|I4 rfl (S.cel 2 rfl) rfl<|Iao rfl rfl<|I6 rfl<|I0 19 rfl ?_;refine Qj 2 S gn rfl rfl rfl (by kernel_rfl) rfl (by decide) (by simp) (fun g S=>ag0) fun g S=>?_;obtain⟨s1,aU⟩: ∃s1,s1=upS s:=⟨_,rfl⟩;have S:SH h D (cR b1 (.cells [iV (Zt (qAt s l) s.now).task,.bool (Zt (qAt s l) s.now).front,iV (Zt (qAt s l) s.now).due] 161 0)::hpR ph s1.H ae::mcL mb ph P V s1 w) g:=by rw[aU];exact S
 have k1:MOk P s1:=by rw[aU];exact Qas k aj
 have eT:s1.T=s.T:=by rw[aU];rfl
 have eM:s1.M=s.M:=by rw[aU];rfl
 have eQ:s1.Q=s.Q:=by rw[aU];rfl
 have eR:s1.runs=s.runs:=by rw[aU];rfl
 have eN:s1.now=s.now:=by rw[aU];rfl
 have eA: ∀n,ZF s1 n=ZF s n:=fun n=>by unfold ZF;rw[eT]
 have eqA:qAt s1 l=qAt s l:=by unfold qAt;rw[eQ]
 have cz:w.qs.length=s1.Q.length/\w.ths.length=s1.Th.length:=by rw[aU];exact hw
 have hql1:s1.Q.length=s.Q.length:=by rw[eQ]
 have hrl1:s1.runs.length=s.runs.length:=by rw[eR]
 obtain⟨rb,rc,rcs,rm,bX,bY,iQ⟩:=Q5G (R:=s1.runs) (a:=l) (S.sl 5 rfl) g1 (by omega);have mT:rcs[0+v0g l*1]?=some (iV (reg s.runs l)):=by rw[<-eR];exact iQ
 refine Z5<|I1 rfl<|I6 rfl<|I0 11 rfl<|I4 rfl (S.cel 2 rfl) rfl<|I1 rfl ?_;rw[bX];refine I5o 1 rfl rfl ?_;rw[<-bX];refine I4 rfl bY mT<|Ie rfl rfl<|Q0<|Q3 rfl (fun hb=>?_) fun hb=>?_
 · skip
   refine Q5<|I9 ?_;have dI:reg s.runs l=0:=by simpa using hb
   have hdm:=Q73 (g3 dI);obtain⟨qb,qc,qcs,qm,qv,cA,dJ,gN,kj,iR⟩:=qp_at (s:=s1) (w:=w) (S.sl 4 rfl) cz.1 g1 (by omega);rw[eqA]at kj;have oD:(qAt s l).length<=1000000:=v0p (k1.ql _ (v0m kj)) (by rw[eT];omega);have hit:=R.it _ (by rw[<-eQ];exact v0m kj) _ hdm;refine I1 rfl<|I6 rfl<|I0 10 rfl<|I4 rfl (S.cel 2 rfl) rfl<|I1 rfl ?_;rw[cA];refine I5o 1 rfl rfl ?_;rw[<-cA];refine I4 rfl dJ iR<|I1 rfl<|I6 rfl<|I0 18 rfl<|I4 rfl (S.cel 2 rfl) rfl ?_
   have dz:(cR b1 (.cells [iV (Zt (qAt s l) s.now).task,.bool (Zt (qAt s l) s.now).front,iV (Zt (qAt s l) s.now).due] 161 0)::hpR ph s1.H ae::mcL mb ph P V s1 w)[l.toNat+10+1+1]?=some (quR qv.1 (qAt s l) qv.2):=mc_q (mb:=mb) (ph:=ph) kj gN;refine Ic [_,_] rfl rfl (C.mono (m54 (SH.sub1 S0 ai S _ dz) oD) ?_);rintro v g ⟨rfl,bF,S2⟩;have S:=S.ret _ dz S2;have S:SH h D (cR b1 (.cells [iV (Zt (qAt s l) s.now).task,.bool (Zt (qAt s l) s.now).front,iV (Zt (qAt s l) s.now).due] 161 0)::hpR ph s1.H ae::(mcL mb ph P V s1 w).set (l.toNat+10) (quR qv.1 (tkQ (qAt s l) s1.now) bF)) g:=S;rw[Q6P (fun L=>tkQ L s1.now) bF kj gN]at S
   obtain⟨s2,aL⟩: ∃s2,s2= {s1 with Q:=s1.Q.modify l.toNat fun L=>tkQ L s1.now}:=⟨_,rfl⟩
   obtain⟨w2,aI,aN,S⟩: ∃w2:MW,(w2.qs.length=s2.Q.length/\w2.ths.length=s2.Th.length)/\w2.ths.map Prod.fst=tp/\SH h D (cR b1 (.cells [iV (Zt (qAt s l) s.now).task,.bool (Zt (qAt s l) s.now).front,iV (Zt (qAt s l) s.now).due] 161 0)::hpR ph s1.H ae::mcL mb ph P V s2 w2) g:=⟨{w with qs:=w.qs.set l.toNat (qv.1,bF)},by
    rw[aL]
    exact⟨by show(w.qs.set _ _).length=(s1.Q.modify _ _).length;rw[v0q,v0l];exact cz.1,cz.2⟩,bm,by rw[aL];exact S⟩
   have eR2:s2.runs=s.runs:=by rw[aL];exact eR
   have jh:s2.runs.length=s.runs.length:=by rw[eR2]
   obtain⟨rb,rc,rcs,rm,bX,bY,iQ⟩:=Q5G (R:=s2.runs) (a:=l) (S.sl 5 rfl) g1 (by omega);refine⟨ag0,?_⟩;refine Q0<|Q5<|I9<|I1 rfl<|I6 rfl<|I0 11 rfl<|I4 rfl (S.cel 2 rfl) rfl<|I1 rfl<|I0 0 rfl<|I4 rfl (S.cel 0 rfl) rfl ?_;rw[bX];refine I5o 1 rfl rfl ?_;rw[<-bX];refine Zq 5 S gn rfl rfl rfl (by kernel_rfl) rfl bX (by rw[v0s];omega) (fun g S=>ag0) fun g S=>?_;obtain⟨s3,dT⟩: ∃s3,s3= {s2 with runs:=s2.runs.set l.toNat (Zt (qAt s l) s.now).task}:=⟨_,rfl⟩
   have S:SH h D ([cR b1 (.cells [iV (Zt (qAt s l) s.now).task,.bool (Zt (qAt s l) s.now).front,iV (Zt (qAt s l) s.now).due] 161 0),hpR ph s1.H ae]++mcL mb ph P V s3 w2) g:=by
    rw[dT];unfold mcL mcH;show SH h D (_::_::([_,_,_,slR 3 0 w2.rv (isV (s2.runs.set l.toNat (Zt (qAt s l) s.now).task)) (s2.runs.set l.toNat (Zt (qAt s l) s.now).task).length w2.rvb,_,_,_,_,_,_]++_)) g;rw[<-KZ,v0q];have S2:=S;rw[v0f,v0x]at S2;exact S2
   obtain⟨fM,S⟩:=Qr (A:=[_,_]) S (by rw[dT];exact aI) aN;have S:SH h D [cR b1 (.cells [iV (Zt (qAt s l) s.now).task,.bool (Zt (qAt s l) s.now).front,iV (Zt (qAt s l) s.now).due] 161 0),hpR ph s1.H ae,mcR mb ph P V s3 tp fM] g:=S;have eT3:s3.T=s.T:=by rw[dT,aL];exact eT
   have eM3:s3.M=s.M:=by rw[dT,aL];exact eM
   have k3:MOk P s3:=by
    rw[dT,aL];exact⟨k1.h,k1.k,k1.k2,k1.e2,k1.e,by show(s1.Q.modify _ _).length=_;rw[v0l];exact k1.q,by show(s1.runs.set _ _).length=_;rw[v0q];exact k1.r,k1.t,k1.th,k1.g,k1.lg,k1.m,k1.on,k1.now,k1.st,fun L hL=>ql_tk k1 hL,k1.tok⟩
   refine QG<|I1 rfl<|I0 0 rfl<|I4 rfl (S.cel 0 rfl) rfl ?_;refine QZ [_,_] gn rfl rfl (by kernel_rfl) rfl (C.mono (m55 (SH.sub1 S0 ai S 2 rfl) k3 hit.1 (by rw[eT3];exact hit.2) (by rw[eM3];omega)) ?_);rintro v g ⟨fL,S2⟩;have S:=S.ret 2 rfl S2;refine⟨ag0,?_⟩;refine QG<|I2 rfl<|Q0<|Q8 ?_;refine⟨.inl rfl,_,rfl,?_⟩
   exact(by
    have e:begR s l=JS s3 (Zt (qAt s l) s.now).task:=by
     unfold begR;rw[dT,aL,aU];rfl
    refine⟨0,JS s3 (Zt (qAt s l) s.now).task,ae,[],fL,rfl,.inr (.inr (.inr ⟨aO,hG,aj,.inl ⟨dI,rfl,e.symm⟩⟩)),?_⟩;have eH:(JS s3 (Zt (qAt s l) s.now).task).H=s1.H:=by unfold JS;split<;>(rw[dT,aL];rfl)
    rw[eH,v0k];exact S.drop)
 refine Q4<|Q6 ?_;have dI:reg s.runs l≠0:=by simpa using hb
 have hrm:=R.ru (reg s.runs l) (v0m (Q7z g1 (by omega)));refine I1 rfl<|I1 rfl<|I6 rfl<|I0 11 rfl<|I4 rfl (S.cel 2 rfl) rfl<|I1 rfl ?_;rw[bX];refine I5o 1 rfl rfl ?_;rw[<-bX];refine I4 rfl bY mT ?_;obtain⟨bD,S⟩:=Qr (A:=[_]) S.drop cz bm;have S:SH h D [hpR ph s1.H ae,mcR mb ph P V s1 tp bD] _:=S;refine QZ [_,_] gn rfl rfl (by kernel_rfl) rfl (C.mono (m56 (SH.subL (A:=[_,_]) (B:=[]) S0 ai S) X0 hM k1 (by omega) (by rw[eT];exact hrm.2) (by rw[eM];omega) (fun n n1 n2 n3=>by rw[eA]at n3 ⊢;rw[eT]at n2;exact R.po n n1 n2 n3)) ?_);rintro v g ⟨b,e,s2,ah,tl,bF,rfl,hR,S2⟩
 have S:=SH.retL (A:=[_,_]) (B:=[]) S S2;have S:SH h D ([hpR ph s2.H ah]++[mcR mb ph P V s2 (tp++tl) bF]) g:=S;refine⟨ag0,?_⟩;refine I1 rfl<|Ix rfl rfl<|Ix rfl rfl<|I2 rfl<|I2 rfl<|Z5<|I1 rfl<|Q0<|Q3 rfl (fun hb=>?_) fun hb=>?_
 · skip
   refine Q2 (by kernel_rfl) ?_;have lE:b=true:=hb;obtain⟨w2,aI,aN,_,S⟩:=QJ S;have S:SH h D (hpR ph s2.H ah::mcL mb ph P V s2 w2) _:=S;have eR2:s2.runs=s.runs:=(step_r hR).trans eR;have jh:s2.runs.length=s.runs.length:=by rw[eR2]
   obtain⟨rb,rc,rcs,rm,bX,bY,iQ⟩:=Q5G (R:=s2.runs) (a:=l) (S.sl 4 rfl) g1 (by omega);refine I1 rfl<|I6 rfl<|I0 11 rfl<|I4 rfl (S.cel 1 rfl) rfl<|I1 rfl ?_;rw[bX];refine I5o 1 rfl rfl ?_;rw[<-bX];refine Zq 4 S gn rfl rfl rfl (by kernel_rfl) rfl bX (by rw[v0s];omega) (fun g S=>ag0) fun g S=>?_
   have S:SH h D ([hpR ph s2.H ah]++mcL mb ph P V {s2 with runs:=s2.runs.set l.toNat 0} w2) g:=by
    unfold mcL mcH;show SH h D (_::([_,_,_,slR 3 0 w2.rv (isV (s2.runs.set l.toNat 0)) (s2.runs.set l.toNat 0).length w2.rvb,_,_,_,_,_,_]++_)) g;rw[<-KZ,v0q];have S2:=S;rw[v0f,v0x]at S2;exact S2
   obtain⟨fM,S⟩:=Qr (A:=[_]) S aI aN;refine QG<|I1 rfl<|I2 rfl<|Q0<|Q8 ?_;refine⟨.inl rfl,_,rfl,?_⟩
   exact(by
    refine⟨e,{s2 with runs:=s2.runs.set l.toNat 0},ah,tl,fM,rfl,.inr (.inr (.inr ⟨aO,hG,aj,.inr ⟨dI,b,s2,by rw[<-aU];exact hR,by rw[lE];rfl⟩⟩)),?_⟩
    exact S)
 refine Q4<|Q6<|I1 rfl<|I2 rfl<|Q0<|Q8 ?_;refine⟨.inl rfl,_,rfl,?_⟩
 exact(by
  have lE:b=false:=hb;refine⟨e,s2,ah,tl,bF,rfl,.inr (.inr (.inr ⟨aO,hG,aj,.inr ⟨dI,b,s2,by rw[<-aU];exact hR,by rw[lE];rfl⟩⟩)),?_⟩
  exact S)
end
def TickR (s:MS) (n e:Int) (s':MS):Prop:=(s.full=true/\e=11/\s'=s)\/(e=10/\s'=s)\/(s.full=false/\e=0/\1<=n/\s.now+n<=1000000000000/\s'= {s with now:=s.now+n})
def tkN (s:MS) (i:Nat):MTask:=(s.T[i]?).getD default
def KJ (s:MS) (t:MTask):Nat->MTask
 |0=>t
 |i+1=>if(decide ((tkN s i).kind=t.kind)&&decide ((tkN s i).of'=t.of'))=true then {KJ s t i with prev:=i+1,nth:=(KJ s t i).nth+1}else KJ s t i
theorem Q0l {s:MS} {t:MTask}: ∀i,(KJ s t i).kind=t.kind/\(KJ s t i).of'=t.of'/\(KJ s t i).fn=t.fn/\(KJ s t i).looper=t.looper/\(KJ s t i).delay=t.delay/\t.nth<=(KJ s t i).nth/\(KJ s t i).nth<=t.nth+i
 |0=>⟨rfl,rfl,rfl,rfl,rfl,v03 _,by show t.nth<=t.nth+0;omega⟩
 | i+1=>by
   obtain⟨h1,h2,h3,h4,h5,h6,h7⟩:=Q0l (s:=s) (t:=t) i;unfold KJ
   split
   · exact⟨h1,h2,h3,h4,h5,by show t.nth<=(KJ s t i).nth+1;omega,by show(KJ s t i).nth+1<=t.nth+((i:Int)+1);omega⟩
   exact⟨h1,h2,h3,h4,h5,h6,by show(KJ s t i).nth<=t.nth+((i:Int)+1);omega⟩
def Q4n (P:Prg) (s:MS) (t:MTask):MS:=if 256<=s.T.length then Q90 s else Y7 P s (KJ s t s.T.length) []
def Qbq (s:MS):Int:=if 256<=s.T.length then 11 else 0
section
variable {h0 h:Hp} {P:Prg} {V:PrV} {mb ph:Nat} {s:MS} {ae tp bs:List Nat}
theorem m29 {n:Int} (S0:SH h0 [] [hpR ph s.H ae,mcR mb ph P V s tp bs] h) (k:MOk P s):C modE 25 [Qn mb,iV n] h fun v g'=> ∃(e:Int) (s':MS) (ah tl aa:List Nat),v=iV e/\TickR s n e s'/\SH h (owns [hpR ph s.H ae,mcR mb ph P V s tp bs]) [hpR ph s'.H ah,mcR mb ph P V s' (tp++tl) aa] g':=by
 have SE:=S0.enterL;obtain⟨D,hD⟩: ∃D,D=owns [hpR ph s.H ae,mcR mb ph P V s tp bs]:=⟨_,rfl⟩;rw[<-hD]at SE ⊢;obtain⟨np,nk⟩:=k.now;obtain⟨w,hw,bm,_,SE⟩:=QJ (A:=[_]) SE;have SE:SH h D (hpR ph s.H ae::mcL mb ph P V s w) h:=SE;refine Q9 (fu:=Tryz.f25) (by kernel_rfl) rfl ?_;have S:=SE;refine Q6<|I2 rfl<|Z5<|I1 rfl<|I6 rfl<|I0 20 rfl<|I4 rfl (S.cel 1 rfl) rfl<|Q0<|Q3 rfl (fun hb=>?_) fun hb=>?_
 · skip
   refine Q6<|I2 rfl<|Q0<|Q8 ?_;refine⟨.inl rfl,_,rfl,?_⟩
   exact(by
    obtain⟨aa,S⟩:=Qr (A:=[_]) S hw bm
    exact⟨11,s,ae,[],aa,rfl,.inl ⟨hb,rfl,rfl⟩,by rw[v0k];exact S⟩)
 refine Q4<|Q5<|Q6 ?_;have aO:s.full=false:=hb;refine I1 rfl<|Il rfl rfl<|I1 rfl ?_
 refine QS (n:=2) rfl rfl rfl gn rfl (fun hb=>by
  refine D1 hb rfl<|Dg hb rfl rfl ?_
  exact Q0 ⟨rfl,rfl,2,rfl,rfl⟩) ?_
 refine I1 rfl ?_
 refine QS (n:=7) rfl rfl rfl gn rfl (fun hb=>by
  have jY:1<=n/\n<=1000000000000:=by simp at hb;omega
  refine D1 hb rfl<|D6 hb rfl<|D0 18 hb rfl<|D4 hb rfl (S.cel 1 rfl) rfl<|D1 hb rfl<|Dao hb rfl rfl<|Dg hb rfl rfl ?_
  exact Q0 ⟨rfl,rfl,7,rfl,rfl⟩) ?_
 refine Q0<|Q3 rfl (fun hb=>?_) fun hb=>?_
 · skip
   refine Q6<|I2 rfl<|Q0<|Q8 ?_;refine⟨.inl rfl,_,rfl,?_⟩
   exact(by
    obtain⟨aa,S⟩:=Qr (A:=[_]) S hw bm
    exact⟨10,s,ae,[],aa,rfl,.inr (.inl ⟨rfl,rfl⟩),by rw[v0k];exact S⟩)
 refine Q4<|Q6 ?_;have jY:1<=n/\n<=1000000000000/\s.now+n<=1000000000000:=by simp at hb;omega
 refine I1 rfl<|I1 rfl<|I6 rfl<|I0 18 rfl<|I4 rfl (S.cel 1 rfl) rfl<|I1 rfl<|Iao rfl rfl<|I6 rfl<|I0 18 rfl ?_;refine Qj 1 S gn rfl rfl rfl (by kernel_rfl) rfl (by decide) (by simp) (fun g S=>ag0) fun g S=>?_;refine QG<|I2 rfl<|Q0<|Q8 ?_;refine⟨.inl rfl,_,rfl,?_⟩
 exact(by
  obtain⟨aa,S⟩:=Qr (A:=[_]) (s:= {s with now:=s.now+n}) (w:=w) S hw bm
  exact⟨0,{s with now:=s.now+n},ae,[],aa,rfl,.inr (.inr ⟨aO,rfl,jY.1,jY.2.2,rfl⟩),by rw[v0k];exact S⟩)
theorem m58 {t:MTask} (S0:SH h0 [] [hpR ph s.H ae,mcR mb ph P V s tp bs] h) (X0:Q1r h0 P V) (hM:ZM P=true) (k:MOk P s) (f0:0<=t.fn) (f1:t.fn <P.funs.length) (ak:t.looper <P.loopers) (hd:t.delay=0) (hn:t.nth=0) (cG:(Qz P t.fn).caps=0):C modE 63 [Qn mb,.agg (tkV t).toArray] h fun v g'=>v=iV (Qbq s)/\ ∃tl aa,SH h (owns [hpR ph s.H ae,mcR mb ph P V s tp bs]) [hpR ph s.H ae,mcR mb ph P V (Q4n P s t) (tp++tl) aa] g':=by
 have SE:=S0.enterL;obtain⟨D,hD⟩: ∃D,D=owns [hpR ph s.H ae,mcR mb ph P V s tp bs]:=⟨_,rfl⟩;have ai: ∀i,i∈D->h0.n<=i:=by rw[hD];exact S0.own0L
 rw[<-hD]at SE ⊢;have hk:=k.t;obtain⟨w,hw,bm,_,SE⟩:=QJ (A:=[_]) SE;have SE:SH h D (hpR ph s.H ae::mcL mb ph P V s w) h:=SE;obtain⟨ta,tc,bp⟩:=Qa (SE.sl 5 rfl);refine Q9 (fu:=Tryz.f63) (by kernel_rfl) rfl ?_;have S:=SE;refine Q6 ?_;refine QV S gn rfl rfl fun b1 g aF S=>?_;have S:SH h D (cR b1 (.cells (tkV t) 85 0)::hpR ph s.H ae::mcL mb ph P V s w) g:=S;refine I2 rfl<|Z5<|I2 rfl<|Q0<|Q7 ?_
 refine Ql [(5,_)] [(0,_),(3,_)] (fun kk lv hh=> ∃i:Nat,lv=[(5,iV i)]/\kk=s.T.length -i/\i<=s.T.length/\SH h D (cR b1 (.cells (tkV (KJ s t i)) 85 0)::hpR ph s.H ae::mcL mb ph P V s w) hh) (n:=s.T.length) ?_ fun kk lv hh hI=>?_
 · exact⟨0,rfl,rfl,v0t _,S⟩
 obtain⟨i,rfl,eX,aG,S⟩:=hI;refine Q5<|Q6<|I1 rfl<|I1 rfl<|I6 rfl<|I0 12 rfl<|I4 rfl (S.cel 2 rfl) rfl ?_;rw[bp];refine I7 rfl ?_;rw[<-bp];refine Il rfl rfl<|Q0<|Q3 rfl (fun hb=>?_) fun hb=>?_
 · skip
   refine Q4 ?_;have aG:i <s.T.length:=by simp at hb;omega
   obtain⟨tb,tm,mB,tr,bn,gZ,_⟩:=(S.sl 6 rfl).at (by omega);have eN:s.T[i]?=some (tkN s i):=by unfold tkN;rw[v0c aG];rfl
   have aX:=Q4Q tr eN
   have k0:(tkC s.T++tr)[0+v0g (i:Int)*15+0]?=some (iV (tkN s i).kind):=by
    rw[v0e,v0f];exact Qv aX (by omega) rfl
   have k1:(tkC s.T++tr)[0+v0g (i:Int)*15+1]?=some (iV (tkN s i).of'):=by
    rw[v0e,v0f];exact Qv aX (by omega) rfl
   obtain⟨e1,e2,_,_,_,e6,e7⟩:=Q0l (s:=s) (t:=t) i;have c0:(tkV (KJ s t i))[0+0]?=some (iV t.kind):=by rw[<-e1];rfl
   have c1:(tkV (KJ s t i))[0+1]?=some (iV t.of'):=by rw[<-e2];rfl
   refine Q5<|Q7<|Q5<|I9<|I1 rfl<|I6 rfl<|I0 12 rfl<|I4 rfl (S.cel 2 rfl) rfl<|I1 rfl ?_;rw[bn];refine I5o 15 rfl rfl ?_;rw[<-bn];refine I0 0 rfl<|I4 rfl gZ k0<|I0 0 rfl<|I4 rfl (S.cel 0 rfl) c0<|Ie rfl rfl<|I1 rfl ?_
   refine Qt (n:=11) rfl rfl rfl gn rfl (fun hb=>by
    refine D1 hb rfl<|D6 hb rfl<|D0 12 hb rfl<|D4 hb rfl (S.cel 2 rfl) rfl<|D1 hb rfl ?_;rw[bn];refine D5o 15 hb rfl rfl ?_;rw[<-bn];refine D0 1 hb rfl<|D4 hb rfl gZ k1<|D0 1 hb rfl<|D4 hb rfl (S.cel 0 rfl) c1<|De hb rfl rfl ?_
    exact Q0 ⟨rfl,rfl,11,rfl,rfl⟩) ?_
   refine Q0<|Q3 rfl (fun hb=>?_) fun hb=>?_
   · skip
     refine Q6<|I1 rfl<|Iao rfl rfl<|I0 14 rfl ?_;refine Qj 0 S gn rfl rfl rfl (by kernel_rfl) rfl (by decide) (by rw[ZL];decide) (fun g S=>ag0) fun g S=>?_;have c6:((tkV (KJ s t i)).set (0+14) (iV ((i:Int)+1)))[0+6]?=some (iV (KJ s t i).nth):=rfl;refine Q0<|Q2 (by kernel_rfl)<|I0 6 rfl<|I4 rfl (S.cel 0 rfl) c6<|Iao rfl rfl<|I0 6 rfl ?_;refine Qj 0 S gn rfl rfl rfl (by kernel_rfl) rfl (by decide) (by rw[v0q,ZL];decide) (fun g S=>ag0) fun g S=>?_;refine Q0<|Q2 (by kernel_rfl)<|I1 rfl<|Iao rfl rfl<|I2 rfl<|Q0 ?_
     exact ZC (s.T.length - (i+1)) [(5,_)] (p:=⟨i+1,rfl,rfl,by omega,by
      have e:KJ s t (i+1)= {KJ s t i with prev:=i+1,nth:=(KJ s t i).nth+1}:=if_pos hb
      rw[e];exact S⟩)
   refine Q4<|Q2 (by kernel_rfl)<|I1 rfl<|Iao rfl rfl<|I2 rfl<|Q0 ?_
   exact ZC (s.T.length - (i+1)) [(5,_)] (p:=⟨i+1,rfl,rfl,by omega,by
    have e:KJ s t (i+1)=KJ s t i:=if_neg (by rw[show(decide ((tkN s i).kind=t.kind)&&decide ((tkN s i).of'=t.of'))=false from hb];decide)
    rw[e];exact S⟩)
 refine Qp<|Qc<|Qe<|Qo ?_;obtain rfl:i=s.T.length:=by simp at hb;omega
 obtain⟨t1,hU⟩: ∃t1,t1=KJ s t s.T.length:=⟨_,rfl⟩;obtain⟨e1,e2,e3,e4,e5,e6,e7⟩:=Q0l (s:=s) (t:=t) s.T.length;rw[<-hU]at S e1 e2 e3 e4 e5 e6 e7;obtain⟨bD,S⟩:=Qr (A:=[_,_]) S hw bm;have S:SH h D [cR b1 (.cells (tkV t1) 85 0),hpR ph s.H ae,mcR mb ph P V s tp bD] _:=S;refine Q5<|Q6<|I1 rfl<|QY (n:=15) gn rfl rfl (by kernel_rfl) (by kernel_rfl) (S.cel 0 rfl) (by rw[ZL];decide) ?_
 refine QZ [_,_,_] gn rfl rfl (by kernel_rfl) rfl (C.mono (m26 (t:=t1) (cells:=[]) (SH.sub1 S0 ai S 2 rfl) X0 hM k (by rw[e3];exact f0) (by rw[e3];exact f1) (by rw[e4];exact ak) (by rw[e5,hd];omega) (fun _ _=>RowV.nil) (by rw[e3,cG];rfl)) ?_);rintro v g ⟨rfl,tl,bt,S2⟩;have S:=S.ret 2 rfl S2;refine⟨ag0,?_⟩;refine Ie rfl rfl<|Q0<|Q3 rfl (fun hb=>?_) fun hb=>?_
 · skip
   refine Q6 ?_
   have hf:256<=s.T.length:=by
    refine Classical.byContradiction fun e=>?_;unfold Qcj at hb;rw[if_neg e]at hb;simp at hb;omega
   refine I1 rfl<|Ic [_] rfl rfl (C.mono (m53 (SH.sub1 S0 ai S 2 rfl)) ?_);rintro v g ⟨rfl,bF,S2⟩;have S:=S.ret 2 rfl S2;refine⟨ag0,?_⟩;refine I2 rfl<|Q0<|Q8 ?_;refine⟨.inl rfl,_,rfl,?_⟩
   exact(by
    have dy:Y7 P s t1 []=s:=by unfold Y7;rw[if_pos hf]
    rw[dy]at S;refine⟨by unfold Qbq;rw[if_pos hf];rfl,tl,bF,?_⟩
    unfold Q4n;rw[if_pos hf];exact S.drop)
 refine Q4<|Q6<|I2 rfl<|Q0<|Q8 ?_;refine⟨.inl rfl,_,rfl,?_⟩
 exact(by
  have hf: ¬256<=s.T.length:=by
   intro e;unfold Qcj at hb;rw[if_pos e]at hb;simp at hb
  refine⟨by unfold Qbq;rw[if_neg hf];rfl,tl,bt,?_⟩
  unfold Q4n;rw[if_neg hf,<-hU];exact S.drop)
end
def evA (P:Prg) (e:Int):Int×Int:=(P.events[e.toNat]?).getD (0,0)
def coA (P:Prg) (c:Int):Int×List Int:=(P.comps[c.toNat]?).getD (0,[])
def injT (P:Prg) (s:MS) (e n:Int):MTask:=⟨3,e,0,(evA P e).2,(evA P e).1,0,0,false,0,0,n,0,0,reg s.on e,0⟩
def InjR (P:Prg) (s:MS) (e n r:Int) (s':MS):Prop:=(s.full=true/\r=11/\s'=s)\/(r=10/\s'=s)\/(s.full=false/\0<=e/\e <P.events.length/\onL s.E e=true/\r=Qbq s/\s'=Q4n P s (injT P s e n))
theorem Qbp {P:Prg} {s:MS} {t:MTask}:(Q4n P s t).H=s.H:=by
 unfold Q4n
 split
 · rfl
 exact QeD
theorem Kb {P:Prg} {f:Int} (h:Q05 P f=true):0<=f/\f <P.funs.length/\(Qz P f).caps=0:=by
 unfold Q05 at h;simp only[v0h,decide_eq_true_eq]at h;obtain⟨h1,h2⟩:=h;obtain⟨h3,h4⟩:=Zb.1 h1;refine⟨h3,h4,?_⟩;unfold Jx at h2;rw[Jg h3 h4]at h2;exact h2
theorem Q5t {P:Prg} {e:Int} (hM:ZM P=true) (h0:0<=e) (h1:e <P.events.length):(0<=(evA P e).1/\(evA P e).1 <P.loopers)/\Q05 P (evA P e).2=true:=by
 unfold ZM YS at hM;simp only[v0h,v0v]at hM;have:=hM.1.2.2.2 (evA P e) (by unfold evA;rw[v0c (by omega)];exact v0M _);unfold Q2x at this;simp only[v0h]at this;exact⟨Zb.1 this.1,this.2⟩
theorem Q7S {P:Prg} {c:Int} (hM:ZM P=true) (h0:0<=c) (h1:c <P.comps.length):(0<=(coA P c).1/\(coA P c).1 <P.loopers)/\ ∀f,f∈(coA P c).2->0<=f->Q05 P f=true:=by
 unfold ZM YS at hM;simp only[v0h,v0v]at hM;have:=hM.1.2.2.1 (coA P c) (by unfold coA;rw[v0c (by omega)];exact v0M _);unfold Q77 at this;simp only[v0h,v0v,v0H,v0I,decide_eq_false_iff_not]at this;exact⟨Zb.1 this.2,fun f hf h=>(this.1 f hf).elim (fun k=>absurd h k) id⟩
section
variable {h0 h:Hp} {P:Prg} {V:PrV} {mb ph:Nat} {s:MS} {ae tp bs:List Nat}
theorem m30 {e n:Int} (S0:SH h0 [] [hpR ph s.H ae,mcR mb ph P V s tp bs] h) (X0:Q1r h0 P V) (hM:ZM P=true) (k:MOk P s):C modE 26 [Qn mb,iV e,iV n] h fun v g'=> ∃(r:Int) (s':MS) (ah tl aa:List Nat),v=iV r/\InjR P s e n r s'/\SH h (owns [hpR ph s.H ae,mcR mb ph P V s tp bs]) [hpR ph s'.H ah,mcR mb ph P V s' (tp++tl) aa] g':=by
 have SE:=S0.enterL;obtain⟨D,hD⟩: ∃D,D=owns [hpR ph s.H ae,mcR mb ph P V s tp bs]:=⟨_,rfl⟩;have ai: ∀i,i∈D->h0.n<=i:=by rw[hD];exact S0.own0L
 rw[<-hD]at SE ⊢;have mh:=k.on;obtain⟨w,hw,bm,_,SE⟩:=QJ (A:=[_]) SE;have SE:SH h D (hpR ph s.H ae::mcL mb ph P V s w) h:=SE;have back: ∀g,SH h D (hpR ph s.H ae::mcL mb ph P V s w) g-> ∃aa,SH h D [hpR ph s.H ae,mcR mb ph P V s tp aa] g:=fun g S=>Qr (A:=[_]) S hw bm;have X:Q1r h P V:=X0.ext (S0.all0 ai SE);obtain⟨_,_,_,_,_,⟨eva,evc,iB⟩,_⟩:=X.vals;refine Q9 (fu:=Tryz.f26) (by kernel_rfl) rfl ?_;have S:=SE;refine Q6<|I2 rfl<|Z5<|I1 rfl<|I6 rfl<|I0 20 rfl<|I4 rfl (S.cel 1 rfl) rfl<|Q0<|Q3 rfl (fun hb=>?_) fun hb=>?_
 · skip
   refine Q6<|I2 rfl<|Q0<|Q8 ?_;refine⟨.inl rfl,_,rfl,?_⟩
   exact(by
    obtain⟨aa,S⟩:=back _ S
    exact⟨11,s,ae,[],aa,rfl,.inl ⟨hb,rfl,rfl⟩,by rw[v0k];exact S⟩)
 refine Q4<|Q5<|Q6 ?_;have aO:s.full=false:=hb;refine I1 rfl<|Il rfl rfl<|I1 rfl ?_
 refine QS (n:=8) rfl rfl rfl gn rfl (fun hb=>by
  refine D1 hb rfl<|D1 hb rfl<|D6 hb rfl<|D0 0 hb rfl<|D0 5 hb rfl<|D4 hb rfl (S.cel 1 rfl) rfl ?_;rw[iB];refine D7 hb rfl ?_;rw[<-iB];refine Dh hb rfl rfl ?_
  exact Q0 ⟨rfl,rfl,8,rfl,rfl⟩) ?_
 refine I1 rfl ?_
 refine QS (n:=7) rfl rfl rfl gn rfl (fun hb=>by
  refine D1 hb rfl<|D6 hb rfl<|D0 9 hb rfl<|D4 hb rfl (S.cel 1 rfl) rfl<|D1 hb rfl<|Dc hb [_,_] rfl rfl (Qm (m57 (S.res 2 rfl) k.e2) ⟨ag0,?_⟩);refine Db hb rfl ?_
  exact Q0 ⟨rfl,rfl,7,rfl,rfl⟩) ?_
 refine Q0<|Q3 rfl (fun hb=>?_) fun hb=>?_
 · skip
   refine Q6<|I2 rfl<|Q0<|Q8 ?_;refine⟨.inl rfl,_,rfl,?_⟩
   exact(by
    obtain⟨aa,S⟩:=back _ S
    exact⟨10,s,ae,[],aa,rfl,.inr (.inl ⟨rfl,rfl⟩),by rw[v0k];exact S⟩)
 refine Q4<|Q6 ?_
 have ox:(decide (e <0)||decide ((P.events.length:Int)<=e))=false/\onL s.E e=true:=by
  have bk:((decide (e <0)||decide ((P.events.length:Int)<=e))|| !onL s.E e)=false:=hb;rw[v0Y]at bk;exact⟨bk.1,by simpa using bk.2⟩
 have he:0<=e/\e <P.events.length:=by
  have:=ox.1;simp at this;omega
 obtain⟨vb,vo,vc,vcs,ve,vm,aZ,kG,mI,hvn,fz⟩:=X.ev.at (by omega);obtain⟨⟨es,eb,ao⟩,_,_⟩:=fz e.toNat (by omega);have eE:P.events[e.toNat]'(by omega)=evA P e:=by unfold evA;rw[v0c (by omega)];rfl
 rw[eE]at ao;refine I1 rfl<|I6 rfl<|I0 0 rfl<|I0 5 rfl<|I4 rfl (S.cel 1 rfl) rfl<|I1 rfl ?_;rw[aZ];refine I5o 4 rfl rfl ?_;rw[<-aZ];refine I3 4 rfl kG (by omega) ?_;rw[ao];refine Qq (zv:=.agg #[.string .empty,iV 0,.bool false,iV 0]) S gn rfl (by kernel_rfl) fun b1 g aF S=>?_;refine Qg (n:=4) 0 S gn rfl rfl rfl (by kernel_rfl) rfl rfl (by decide) rfl (fun g S=>ag0) fun g S=>?_;have S:SH h D (cR b1 (.cells [.string es,iV (evA P e).1,.bool eb,iV (evA P e).2] 96 0)::hpR ph s.H ae::mcL mb ph P V s w) g:=S;obtain⟨ob,oc,ocs,om,ax,fD,aw⟩:=Q5G (R:=s.on) (S.sl 11 rfl) he.1 (by omega)
 refine Q0<|Q5<|I9<|I1 rfl<|I1 rfl<|I0 3 rfl<|I4 rfl (S.cel 0 rfl) rfl<|I0 1 rfl<|I4 rfl (S.cel 0 rfl) rfl<|I1 rfl<|I1 rfl<|I6 rfl<|I0 17 rfl<|I4 rfl (S.cel 2 rfl) rfl<|I1 rfl ?_;rw[ax];refine I5o 1 rfl rfl ?_;rw[<-ax];refine I4 rfl fD aw ?_
 refine Qs (cs:=(tkV (injT P s e n)).toArray) (zv:=.agg #[iV 0,iV 0,iV 0,iV 0,iV 0,iV 0,iV 0,.bool false,iV 0,iV 0,iV 0,iV 0,iV 0,iV 0,iV 0]) (pl:=[(0,1),(1,1),(2,1),(3,1),(4,1),(5,1),(6,1),(7,1),(8,1),(9,1),(10,1),(11,1),(12,1),(13,1),(14,1)]) [(0,_),(1,_),(3,_),(4,_),(10,_),(13,_)] gn rfl (by kernel_rfl) (by kernel_rfl) rfl (by kernel_rfl) ?_;obtain⟨bD,S⟩:=back _ S.drop;have nu:=Q5t hM he.1 he.2;have dU:=Kb nu.2;refine Ic [_,_] rfl rfl (C.mono (m58 (t:=injT P s e n) (SH.subL (A:=[_,_]) (B:=[]) S0 ai S) X0 hM k dU.1 dU.2.1 nu.1.2 rfl rfl dU.2.2) ?_);rintro v g ⟨rfl,tl,bF,S2⟩
 have S:=SH.retL (A:=[_,_]) (B:=[]) S S2;refine⟨ag0,?_⟩;refine I2 rfl<|Q0<|Q8 ?_;refine⟨.inl rfl,_,rfl,?_⟩
 exact(by
  refine⟨Qbq s,Q4n P s (injT P s e n),ae,tl,bF,rfl,.inr (.inr ⟨aO,he.1,he.2,ox.2,rfl,rfl⟩),?_⟩
  rw[Qbp];exact S)
end
def Qde (P:Prg) (c w:Int):MTask:=⟨2,c,w,reg (coA P c).2 w,(coA P c).1,0,0,false,0,0,0,0,0,-1,0⟩
def LifM (P:Prg) (s:MS) (c w:Int) (s1:MS):Prop:=(reg (coA P c).2 w <0/\s1=s)\/(0<=reg (coA P c).2 w/\Qbq s=0/\s1=Q4n P s (Qde P c w))
def LifR (P:Prg) (s:MS) (c w r:Int) (s':MS):Prop:=(s.full=true/\r=11/\s'=s)\/(r=10/\s'=s)\/(s.full=false/\0<=c/\c <P.comps.length/\Q6a s.K c w=true/\(coA P c).2.length=4/\
 ((0<=reg (coA P c).2 w/\Qbq s≠0/\r=Qbq s/\s'=Q4n P s (Qde P c w))\/(r=0/\ ∃s1,LifM P s c w s1/\s'= {s1 with K:=goL s.K c w})))
theorem addM_K {P:Prg} {s:MS} {t:MTask} {c:List Int}:(Y7 P s t c).K=s.K:=by
 unfold Y7
 split<;>rfl
theorem Qeq {P:Prg} {s s1:MS} {c w:Int} (h:LifM P s c w s1):s1.K=s.K/\s1.H=s.H:=by
 rcases h with⟨_,rfl⟩| ⟨_,_,rfl⟩
 · exact⟨rfl,rfl⟩
 refine⟨?_,Qbp⟩;unfold Q4n
 split
 · rfl
 exact addM_K
section
variable {h0 h:Hp} {P:Prg} {V:PrV} {mb ph:Nat} {s:MS} {ae tp bs:List Nat}
theorem m31 {c w:Int} (S0:SH h0 [] [hpR ph s.H ae,mcR mb ph P V s tp bs] h) (X0:Q1r h0 P V) (hM:ZM P=true) (k:MOk P s):C modE 27 [Qn mb,iV c,iV w] h fun v g'=> ∃(r:Int) (s':MS) (ah tl aa:List Nat),v=iV r/\LifR P s c w r s'/\SH h (owns [hpR ph s.H ae,mcR mb ph P V s tp bs]) [hpR ph s'.H ah,mcR mb ph P V s' (tp++tl) aa] g':=by
 have SE:=S0.enterL;obtain⟨D,hD⟩: ∃D,D=owns [hpR ph s.H ae,mcR mb ph P V s tp bs]:=⟨_,rfl⟩;have ai: ∀i,i∈D->h0.n<=i:=by rw[hD];exact S0.own0L
 rw[<-hD]at SE ⊢;obtain⟨w0,hw,bm,_,SE⟩:=QJ (A:=[_]) SE;have SE:SH h D (hpR ph s.H ae::mcL mb ph P V s w0) h:=SE;have back: ∀g,SH h D (hpR ph s.H ae::mcL mb ph P V s w0) g-> ∃aa,SH h D [hpR ph s.H ae,mcR mb ph P V s tp aa] g:=fun g S=>Qr (A:=[_]) S hw bm;have X:Q1r h P V:=X0.ext (S0.all0 ai SE);obtain⟨_,_,_,_,⟨coa,coc,iE⟩,_⟩:=X.vals;refine Q9 (fu:=Tryz.f27) (by kernel_rfl) rfl ?_;have S:=SE;refine Q6<|I2 rfl<|Z5<|I1 rfl<|I6 rfl<|I0 20 rfl<|I4 rfl (S.cel 1 rfl) rfl<|Q0<|Q3 rfl (fun hb=>?_) fun hb=>?_
 · skip
   refine Q6<|I2 rfl<|Q0<|Q8 ?_;refine⟨.inl rfl,_,rfl,?_⟩
   exact(by
    obtain⟨aa,S⟩:=back _ S
    exact⟨11,s,ae,[],aa,rfl,.inl ⟨hb,rfl,rfl⟩,by rw[v0k];exact S⟩)
 refine Q4<|Q5<|Q6 ?_;have aO:s.full=false:=hb;refine I1 rfl<|Il rfl rfl<|I1 rfl ?_
 refine QS (n:=8) rfl rfl rfl gn rfl (fun hb=>by
  refine D1 hb rfl<|D1 hb rfl<|D6 hb rfl<|D0 0 hb rfl<|D0 4 hb rfl<|D4 hb rfl (S.cel 1 rfl) rfl ?_;rw[iE];refine D7 hb rfl ?_;rw[<-iE];refine Dh hb rfl rfl ?_
  exact Q0 ⟨rfl,rfl,8,rfl,rfl⟩) ?_
 refine I1 rfl ?_
 refine QS (n:=8) rfl rfl rfl gn rfl (fun hb=>by
  refine D1 hb rfl<|D6 hb rfl<|D0 9 hb rfl<|D4 hb rfl (S.cel 1 rfl) rfl<|D1 hb rfl<|D1 hb rfl<|Dc hb [_,_,_] rfl rfl (Qm (m59 (S.res 2 rfl) k.k2) ⟨ag0,?_⟩);refine Db hb rfl ?_
  exact Q0 ⟨rfl,rfl,8,rfl,rfl⟩) ?_
 refine Q0<|Q3 rfl (fun hb=>?_) fun hb=>?_
 · skip
   refine Q6<|I2 rfl<|Q0<|Q8 ?_;refine⟨.inl rfl,_,rfl,?_⟩
   exact(by
    obtain⟨aa,S⟩:=back _ S
    exact⟨10,s,ae,[],aa,rfl,.inr (.inl ⟨rfl,rfl⟩),by rw[v0k];exact S⟩)
 refine Q4<|Q6 ?_
 have ox:(decide (c <0)||decide ((P.comps.length:Int)<=c))=false/\Q6a s.K c w=true:=by
  have bk:((decide (c <0)||decide ((P.comps.length:Int)<=c))|| !Q6a s.K c w)=false:=hb;rw[v0Y]at bk;exact⟨bk.1,by simpa using bk.2⟩
 have hc:0<=c/\c <P.comps.length:=by
  have:=ox.1;simp at this;omega
 have bO:=ox.2
 have hw4:0<=w/\w<=3:=by
  unfold Q6a at bO;rw[v0h]at bO;exact Q1H bO.2
 obtain⟨vb,vo,vc,vcs,ve,vm,aZ,kG,mI,hvn,fz⟩:=X.co.at (by omega);obtain⟨⟨es,f0,f1,f2,f3,ao,fH⟩,_,_⟩:=fz c.toNat (by omega);have eE:P.comps[c.toNat]'(by omega)=coA P c:=by unfold coA;rw[v0c (by omega)];rfl
 rw[eE]at ao fH
 have hfw:([.string es,iV (coA P c).1,iV f0,iV f1,iV f2,iV f3]:List Value)[0+2+v0g w*1]?=some (iV (reg (coA P c).2 w)):=by
  rw[fH];have:w=0\/w=1\/w=2\/w=3:=by omega
  rcases this with rfl|rfl|rfl|rfl<;>rfl
 refine I1 rfl<|I6 rfl<|I0 0 rfl<|I0 4 rfl<|I4 rfl (S.cel 1 rfl) rfl<|I1 rfl ?_;rw[aZ];refine I5o 6 rfl rfl ?_;rw[<-aZ];refine I3 6 rfl kG (by omega) ?_;rw[ao];refine Qq (zv:=.agg #[.string .empty,iV 0,iV 0,iV 0,iV 0,iV 0]) S gn rfl (by kernel_rfl) fun b1 g aF S=>?_;refine Qg (n:=6) 0 S gn rfl rfl rfl (by kernel_rfl) rfl rfl (by decide) rfl (fun g S=>ag0) fun g S=>?_;have S:SH h D (cR b1 (.cells [.string es,iV (coA P c).1,iV f0,iV f1,iV f2,iV f3] 151 0)::hpR ph s.H ae::mcL mb ph P V s w0) g:=S;refine Q0 ?_
 refine ZH [(0,Qn mb),(1,iV c),(2,iV w)] (fun lv hh=>lv=[]/\ ∃(s1:MS) (tl aa:List Nat),LifM P s c w s1/\SH h D [hpR ph s.H ae,mcR mb ph P V s1 (tp++tl) aa] hh) ?_ fun lv hh hJ=>?_
 · skip
   refine Q6<|I1 rfl<|I0 2 rfl<|YT (n:=4) (e:=3) (zz:=1) gn rfl rfl rfl (by kernel_rfl) (by omega) (by omega)<|I4 rfl (S.cel 0 rfl) hfw<|Ih rfl rfl<|Q0<|Q3 rfl (fun hb=>?_) fun hb=>?_
   · skip
     refine Q5<|I9 ?_;have gT:0<=reg (coA P c).2 w:=by simpa using hb
     refine I1 rfl<|I1 rfl<|I1 rfl<|I1 rfl<|I0 2 rfl<|YT (n:=4) (e:=3) (zz:=1) gn rfl rfl rfl (by kernel_rfl) (by omega) (by omega)<|I4 rfl (S.cel 0 rfl) hfw<|I0 1 rfl<|I4 rfl (S.cel 0 rfl) rfl<|Qs (cs:=(tkV (Qde P c w)).toArray) (zv:=.agg #[iV 0,iV 0,iV 0,iV 0,iV 0,iV 0,iV 0,.bool false,iV 0,iV 0,iV 0,iV 0,iV 0,iV 0,iV 0]) (pl:=[(0,1),(1,1),(2,1),(3,1),(4,1),(5,1),(6,1),(7,1),(8,1),(9,1),(10,1),(11,1),(12,1),(13,1),(14,1)]) [(0,_),(1,_),(2,_),(3,_),(4,_),(13,_)] gn rfl (by kernel_rfl) (by kernel_rfl) rfl (by kernel_rfl) ?_
     obtain⟨bD,S⟩:=back _ S.drop;have nu:=Q7S hM hc.1 hc.2
     have dU:=Kb (nu.2 (reg (coA P c).2 w) (by
      rw[fH];have:w=0\/w=1\/w=2\/w=3:=by omega
      rcases this with rfl|rfl|rfl|rfl<;>simp[reg]) gT)
     refine Ic [_,_] rfl rfl (C.mono (m58 (t:=Qde P c w) (SH.subL (A:=[_,_]) (B:=[]) S0 ai S) X0 hM k dU.1 dU.2.1 nu.1.2 rfl rfl dU.2.2) ?_);rintro v g ⟨rfl,tl,bF,S2⟩;have S:=SH.retL (A:=[_,_]) (B:=[]) S S2;refine⟨ag0,?_⟩;refine I2 rfl<|QG<|I1 rfl<|In rfl rfl<|Q0<|Q3 rfl (fun hb=>?_) fun hb=>?_
     · skip
       refine Q6<|I1 rfl<|I2 rfl<|Q0<|Q8 ?_;refine⟨.inl rfl,_,rfl,?_⟩
       exact(by
        have an:Qbq s≠0:=by simpa using hb
        refine⟨Qbq s,Q4n P s (Qde P c w),ae,tl,bF,rfl,.inr (.inr ⟨aO,hc.1,hc.2,bO,by rw[fH];rfl,.inl ⟨gT,an,rfl,rfl⟩⟩),?_⟩
        rw[Qbp];exact S)
     refine Q4 ?_
     exact Zu [] (p:=(by
      have j7:Qbq s=0:=by simpa using hb
      exact⟨rfl,_,tl,bF,.inr ⟨gT,j7,rfl⟩,S⟩))
   refine Q4 ?_
   exact Zu [] (p:=(by
    have gT:reg (coA P c).2 w <0:=by simpa using hb
    obtain⟨bD,S⟩:=back _ S.drop
    exact⟨rfl,s,[],bD,.inl ⟨gT,rfl⟩,by rw[v0k];exact S⟩))
 obtain⟨rfl,s1,tl,bD,hL,S⟩:=hJ;obtain⟨w1,cz,jd,_,S⟩:=QJ (A:=[_]) S;have S:SH h D (hpR ph s.H ae::mcL mb ph P V s1 w1) hh:=S;obtain⟨eK,eH⟩:=Qeq hL;refine Q6<|I1 rfl<|I6 rfl<|I0 9 rfl<|I4 rfl (S.cel 1 rfl) rfl<|I1 rfl<|I1 rfl ?_;refine QZ [_,_,_] gn rfl rfl (by kernel_rfl) rfl (C.mono (m60 (K:=s1.K) (E:=s1.E) (SH.sub1 S0 ai S 2 rfl) (by rw[eK];exact k.k2)) ?_);rintro v g ⟨rfl,bF,S2⟩;have S:=S.ret 2 rfl S2;refine⟨ag0,?_⟩;refine QG<|I2 rfl<|Q0<|Q8 ?_;refine⟨.inl rfl,_,rfl,?_⟩
 exact(by
  obtain⟨fM,S⟩:=Qr (A:=[_]) (s:= {s1 with K:=goL s1.K c w}) (w:= {w1 with lbs:=bF}) S cz jd;refine⟨0,{s1 with K:=goL s1.K c w},ae,tl,fM,rfl,.inr (.inr ⟨aO,hc.1,hc.2,bO,by rw[fH];rfl,.inr ⟨rfl,s1,hL,by rw[eK]⟩⟩),?_⟩;show SH h D [hpR ph s1.H ae,_] _
  rw[eH];exact S)
end
end Go.Proofs.YtljpajcmdjmeaaaGreat
