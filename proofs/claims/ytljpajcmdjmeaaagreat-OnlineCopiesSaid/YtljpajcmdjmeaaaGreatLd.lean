/- The walks and the laws, part Ld. Conditions: none. -/
import Derived.Test.YtljpajcmdjmeaaaGreatLc
set_option maxHeartbeats 16000000
open List renaming length_take → v0E, take_add_one → v0Z, getElem?_eq_getElem → v0c, length_append → v0j, append_nil → v0k, length_set → v0q, append_assoc → v0F, getElem?_append_left → v0z, mem_of_getElem? → v0m, length_map → v0v, getElem?_map → v0D, length_modify → v0l, getElem?_eq_some_iff → v0y, getElem_mem → v0M, all_eq_true → v0u
open Nat renaming le_trans → v0t, zero_le → v0s, zero_add → v0e, mul_one → v0A, le_refl → v0b
open Int renaming toNat → v0f, toNat_natCast → v0i, le_refl → v03
open Bool renaming true_and → v0C, and_eq_true → v0g, or_eq_true → v0K, not_eq_true' → v0J, or_eq_false_iff → v06
open Option renaming some → v0h
namespace Go.Proofs.YtljpajcmdjmeaaaGreat
open Go.X Go.May Go.Mac
def mdB (P:Prg) (s:MS) (v:Int):Bool:=isO s.H v 4&&(decide (0<=(QR s.H v).of)&&decide ((QR s.H v).of <P.funs.length)&&decide (((QR s.H v).vals.length:Int)=(Qt P (QR s.H v).of).caps))
def mdT (s:MS) (id:Int) (a:MAsk) (fn:Int):MTask:=
 if a.op=28 then⟨5,a.site,0,fn,-1,id,0,false,0,0,0,0,0,s.M.length,0⟩else
 if a.op=24 then⟨4,a.site,0,fn,a.looper,id,0,true,0,0,0,0,0,s.M.length,0⟩else⟨4,a.site,0,fn,a.looper,id,0,false,a.n,0,0,0,0,s.M.length,0⟩
def mdK (a:MAsk):Int:=if a.op=28 then 5 else 4
def Q8V (s:MS) (id:Int) (i:Nat):Nat:=((s.T.take i).filter fun t=>decide (t.by'=id)).length
def mdN (s:MS) (id:Int) (a:MAsk) (fn:Int):MTask:= {mdT s id a fn with nth:=Q8V s id s.T.length}
def thS (s:MS) (id:Int) (T':MThr):MS:= {s with Th:=s.Th.set (id -1).toNat T'}
def mdS (P:Prg) (s:MS) (id:Int) (a:MAsk):MS:=
 if mdB P s a.v=true then
  if 256<=s.T.length then {s with full:=true}else
   thS (Yj (Y9 P s (mdN s id a (QR s.H a.v).of) (QR s.H a.v).vals) (mdK a) id (s.T.length+1)) id (Q1t P (Zt s id) (s.T.length+1))
 else s
def mdE (P:Prg) (s:MS) (a:MAsk):Int:=if mdB P s a.v=true/\256<=s.T.length then 11 else 0
theorem QeN {s:MS} {id fn:Int} {a:MAsk}: {mdT s id a fn with nth:=Q8V s id 0}=mdT s id a fn:=by
 unfold mdT
 split
 · rfl
 split<;>rfl
theorem QeA {s:MS} {id:Int} {i:Nat}:Q8V s id i<=i:=by
 unfold Q8V;refine v0t (List.length_filter_le ..) ?_;rw[v0E];omega
theorem Q59 {s:MS} {id:Int} {i:Nat} (hi:i <s.T.length):Q8V s id (i+1)=if(s.T[i]).by'=id then Q8V s id i+1 else Q8V s id i:=by
 unfold Q8V;rw[v0Z,v0c hi,List.filter_append,v0j];by_cases e:(s.T[i]).by'=id
 · rw[if_pos e];simp[e]
 rw[if_neg e];simp[e]
section
variable {h0 h:Hp} {P:Prg} {V:PrV} {mb ph:Nat} {s:MS} {ae tp bs:List Nat}
theorem m93 {id:Int} {a:MAsk} {sv:Value} (S0:SH h0 [] [hpR ph s.H ae,mcR mb ph P V s tp bs] h) (X0:Q1m h0 P V) (hM:ZL P=true) (k:MOk P s) (h1:1<=id) (h2:id<=s.T.length) (hm:s.M.length<=99990) (hs:cellV sv=true) (an:a.op≠28->0<=a.looper/\a.looper <P.loopers) (hd:a.op≠28->a.op≠24->0<=a.n/\a.n<=1000000000):C modE 113 [Qk mb,iV id,askV a sv] h fun v g'=>v=.tuple #[.bool (!mdB P s a.v),iV (mdE P s a)]/\ ∃ah tl aa,SH h (owns [hpR ph s.H ae,mcR mb ph P V s tp bs]) [hpR ph s.H ah,mcR mb ph P V (mdS P s id a) (tp++tl) aa] g':=by
 have SE:=S0.enterL;obtain⟨D,hD⟩: ∃D,D=owns [hpR ph s.H ae,mcR mb ph P V s tp bs]:=⟨_,rfl⟩;have aj: ∀i,i∈D->h0.n<=i:=by rw[hD];exact S0.own0L
 rw[<-hD]at SE ⊢;obtain⟨w,hw,bg,_,SE⟩:=QH (A:=[_]) SE;have SE:SH h D (hpR ph s.H ae::mcL mb ph P V s w) h:=SE;have hk:=k.t;have hkh:=k.h;obtain⟨ma,mc,jq⟩:=Q6 (SE.sl 9 rfl);obtain⟨ta,tc,br⟩:=Q6 (SE.sl 5 rfl);refine Q9 (fu:=Tryz.f113) (by kernel_rfl) rfl ?_;have S:=SE;refine Q7 ?_;refine Z9 S gn rfl rfl fun b1 g aJ S=>?_;have S:SH h D (cR b1 (.cells (YD a sv) 202 0)::hpR ph s.H ae::mcL mb ph P V s w) g:=S;refine I2 rfl<|I2 rfl<|Q0<|Q5<|Q5<|I9<|I1 rfl<|I6 rfl<|I0 8 rfl<|I4 rfl (S.cel 2 rfl) rfl<|I0 3 rfl ?_
 refine I4 rfl (S.cel 0 rfl) rfl<|Ic [_,_,_] rfl rfl (Ql (m89 (S.res 1 rfl) (by omega)) ⟨ag0,?_⟩);refine Ib rfl<|Q0<|Q2 rfl (fun hb=>?_) fun hb=>?_
 · skip
   refine Q7<|I2 rfl<|I2 rfl<|Q0<|Q8 ?_;refine⟨.inl rfl,_,rfl,?_⟩
   exact(by
    have dY:mdB P s a.v=false:=by
     unfold mdB;have:isO s.H a.v 4=false:=by simpa using hb
     rw[this];rfl
    obtain⟨aa,S⟩:=Qo (A:=[_]) S.drop hw bg;refine⟨by rw[dY];unfold mdE;rw[dY];rfl,ae,[],aa,?_⟩
    unfold mdS;rw[dY,v0k];exact S)
 refine Q4<|Q5<|I9 ?_;have fx:isO s.H a.v 4=true:=by simpa using hb
 obtain⟨RH,va,vc,vb,ob,oc,om,ocs,jo,fk,mV,hoc,hi0,cE,S,dB⟩:=Qfb S.swap (Q47 fx);obtain⟨o,ho⟩: ∃o,o=QR s.H a.v:=⟨_,rfl⟩;rw[<-ho]at hoc S dB;obtain⟨sl,bE⟩: ∃sl,sl=slR 2 0 (.slice va o.vals.length vc) (isV o.vals) o.vals.length vb:=⟨_,rfl⟩;rw[<-bE]at S dB;have S:SH h D (cR b1 (.cells (YD a sv) 202 0)::(mcL mb ph P V s w++(sl::RH))) g:=SH.comm (A:=sl::RH) (B:=cR b1 (.cells (YD a sv) 202 0)::mcL mb ph P V s w) S;refine I1 rfl<|I6 rfl<|I0 8 rfl<|I4 rfl (S.cel 1 rfl) rfl<|I6 rfl<|I0 0 rfl<|I4 rfl jo rfl<|I0 3 rfl ?_
 refine I4 rfl (S.cel 0 rfl) rfl<|Iso rfl rfl<|I5o 6 rfl rfl<|I3 6 rfl fk mV ?_;rw[hoc];refine Qx (zv:=.agg #[iV 0,iV 0,.slice none 0 0,iV 0,iV 0,iV 0]) S gn rfl (by kernel_rfl) fun b2 g bK S=>?_;refine Qi (n:=6) 0 S gn rfl rfl rfl (by kernel_rfl) rfl rfl (by decide) rfl (fun g S=>ag0) fun g S=>?_;have S:SH h D (cR b2 (.cells [iV o.kind,iV o.of,.slice va o.vals.length vc,iV o.site,iV o.by',iV o.nth] 233 0)::cR b1 (.cells (YD a sv) 202 0)::(mcL mb ph P V s w++(sl::RH))) g:=S;have X:Q1m g P V:=X0.ext (S0.all0 aj S);obtain⟨_,_,_,⟨fua,fuc,iv⟩,_⟩:=X.vals;refine Q0<|Q5<|Q5<|I9 ?_
 refine I0 1 rfl<|I4 rfl (S.cel 0 rfl) rfl<|Il rfl rfl<|I1 rfl ?_
 refine Z4 (n:=9) rfl rfl rfl gn rfl (fun hb=>by
  refine D0 1 hb rfl<|D4 hb rfl (S.cel 0 rfl) rfl<|D1 hb rfl<|D6 hb rfl<|D0 0 hb rfl<|D0 3 hb rfl<|D4 hb rfl (S.cel 2 rfl) rfl ?_;rw[iv];refine D7 hb rfl ?_;rw[<-iv];refine Dh hb rfl rfl ?_
  exact Q0 ⟨rfl,rfl,9,rfl,rfl⟩) ?_
 refine I1 rfl ?_
 refine Z4 (n:=14) rfl rfl rfl gn rfl (fun hb=>by
  have cr:0<=o.of/\o.of <P.funs.length:=by simp at hb;omega
  obtain⟨fb',fo',fc',fcs,fe,fm,cG,gu,gM,hfn,fs,fcv,iw,ew⟩:=PrgAt.fun X cr.1 cr.2;have kf:fcs[fo'+v0f o.of*4+1]?=some (iV (Qt P o.of).caps):=Qs iw (by omega) rfl;refine D0 2 hb rfl<|D4 hb rfl (S.cel 0 rfl) rfl<|D7 hb rfl<|D1 hb rfl<|D6 hb rfl<|D0 0 hb rfl<|D0 3 hb rfl<|D4 hb rfl (S.cel 2 rfl) rfl<|D0 1 hb rfl<|D4 hb rfl (S.cel 0 rfl) rfl ?_;rw[cG];refine D5o 4 hb rfl rfl ?_;rw[<-cG];refine D0 1 hb rfl<|D4 hb rfl gu kf<|Dn hb rfl rfl ?_
  exact Q0 ⟨rfl,rfl,14,rfl,rfl⟩) ?_
 refine Q0<|Q2 rfl (fun hb=>?_) fun hb=>?_
 · skip
   refine Q7<|I2 rfl<|I2 rfl<|Q0<|Q8 ?_;refine⟨.inl rfl,_,rfl,?_⟩
   exact(by
    have dY:mdB P s a.v=false:=by
     unfold mdB;rw[<-ho,fx,v0C];have aZ:((decide (o.of <0)||decide ((P.funs.length:Int)<=o.of))|| !decide ((o.vals.length:Int)=(Qt P o.of).caps))=true:=hb;rw[<-Bool.not_eq_true];intro e;simp only[v0g,decide_eq_true_eq]at e;simp only[v0K,decide_eq_true_eq,v0J,decide_eq_false_iff_not]at aZ;rcases aZ with(aZ|aZ)|aZ
     · omega
     · omega
     exact aZ e.2
    obtain⟨ah,S⟩:=dB _ _ _ _ (SH.comm (B:=sl::RH) S.drop.drop);obtain⟨aa,S⟩:=Qo (A:=[_]) S hw bg;refine⟨by rw[dY];unfold mdE;rw[dY];rfl,ah,[],aa,?_⟩
    unfold mdS;rw[dY,v0k];exact S)
 refine Q4<|Q5<|I9<|I0 1 rfl<|I4 rfl (S.cel 1 rfl) rfl<|I0 1 rfl<|I4 rfl (S.cel 0 rfl) rfl<|I0 4 rfl<|I4 rfl (S.cel 1 rfl) rfl ?_
 have cr:(0<=o.of/\o.of <P.funs.length)/\(o.vals.length:Int)=(Qt P o.of).caps:=by
  have aZ:((decide (o.of <0)||decide ((P.funs.length:Int)<=o.of))|| !decide ((o.vals.length:Int)=(Qt P o.of).caps))=false:=hb;simp only[v06,decide_eq_false_iff_not,Bool.not_eq_false',decide_eq_true_eq]at aZ;exact⟨by omega,aZ.2⟩
 have gQ:mdB P s a.v=true:=by
  unfold mdB;rw[<-ho,fx,v0C];simp only[v0g,decide_eq_true_eq];exact cr
 refine I1 rfl<|I1 rfl<|I6 rfl<|I0 16 rfl<|I4 rfl (S.cel 2 rfl) rfl ?_;rw[jq];refine I7 rfl ?_;rw[<-jq];refine Qq (cs:=(tkV ⟨4,a.site,0,o.of,a.looper,id,0,false,0,0,0,0,0,s.M.length,0⟩).toArray) (zv:=.agg #[iV 0,iV 0,iV 0,iV 0,iV 0,iV 0,iV 0,.bool false,iV 0,iV 0,iV 0,iV 0,iV 0,iV 0,iV 0]) (pl:=[(0,1),(1,1),(2,1),(3,1),(4,1),(5,1),(6,1),(7,1),(8,1),(9,1),(10,1),(11,1),(12,1),(13,1),(14,1)]) [(0,_),(1,_),(3,_),(4,_),(5,_),(13,_)] gn rfl (by kernel_rfl) (by kernel_rfl) rfl (by kernel_rfl) ?_
 refine Qx (zv:=.agg #[iV 0,iV 0,iV 0,iV 0,iV 0,iV 0,iV 0,.bool false,iV 0,iV 0,iV 0,iV 0,iV 0,iV 0,iV 0]) S gn rfl (by kernel_rfl) fun b3 g fV S=>?_;refine Qi (n:=15) 0 S gn rfl rfl rfl (by kernel_rfl) rfl rfl (by decide) rfl (fun g S=>ag0) fun g S=>?_;have S:SH h D (cR b3 (.cells (tkV ⟨4,a.site,0,o.of,a.looper,id,0,false,0,0,0,0,0,s.M.length,0⟩) 85 0)::cR b2 (.cells [iV o.kind,iV o.of,.slice va o.vals.length vc,iV o.site,iV o.by',iV o.nth] 233 0)::cR b1 (.cells (YD a sv) 202 0)::(mcL mb ph P V s w++(sl::RH))) g:=S;refine QP<|I2 rfl<|Q0 ?_
 refine ZF [(0,Qk mb),(1,iV id),(8,Qk b2),(9,Qk b3)] (fun lv hh=>lv=[(10,iV (mdK a))]/\SH h D (cR b3 (.cells (tkV (mdT s id a o.of)) 85 0)::cR b2 (.cells [iV o.kind,iV o.of,.slice va o.vals.length vc,iV o.site,iV o.by',iV o.nth] 233 0)::cR b1 (.cells (YD a sv) 202 0)::(mcL mb ph P V s w++(sl::RH))) hh) ?_ fun lv hh hJ=>?_
 · skip
   refine Q7<|I0 0 rfl<|I4 rfl (S.cel 2 rfl) rfl<|Q0<|Qb<|Q7<|Ie rfl rfl<|I2 rfl<|Q0<|Q2 rfl (fun hb=>?_) fun hb=>?_
   · skip
     refine Q7<|I0 0 rfl ?_;refine Qg 0 S gn rfl rfl rfl (by kernel_rfl) rfl (by decide) (by rw[ZK];decide) (fun g S=>ag0) fun g S=>?_;refine QP<|I0 4 rfl ?_;refine Qg 0 S gn rfl rfl rfl (by kernel_rfl) rfl (by decide) (by rw[v0q,ZK];decide) (fun g S=>ag0) fun g S=>?_;refine Q0<|Q3 (by kernel_rfl)<|I2 rfl<|Q0<|Qf ?_
     exact Zr [(10,_)] (p:=(by
      have jW:a.op=28:=of_decide_eq_true hb;unfold mdK mdT;rw[if_pos jW,if_pos jW]
      exact⟨rfl,S⟩))
   refine Q7<|Ie rfl rfl<|I2 rfl<|Q0<|Q2 rfl (fun hb=>?_) fun hb=>?_
   · skip
     refine Q3 (by kernel_rfl)<|I0 7 rfl ?_;refine Qg 0 S gn rfl rfl rfl (by kernel_rfl) rfl (by decide) (by rw[ZK];decide) (fun g S=>ag0) fun g S=>?_;refine Q0<|Qf ?_
     exact Zr [(10,_)] (p:=(by
      have ho4:a.op=24:=of_decide_eq_true hb;have jW: ¬a.op=28:=by omega
      unfold mdK mdT;rw[if_neg jW,if_neg jW,if_pos ho4]
      exact⟨rfl,S⟩))
   refine Q3 (by kernel_rfl)<|I0 2 rfl<|I4 rfl (S.cel 2 rfl) rfl<|I0 8 rfl ?_;refine Qg 0 S gn rfl rfl rfl (by kernel_rfl) rfl (by decide) (by rw[ZK];decide) (fun g S=>ag0) fun g S=>?_;refine Q0<|Qf ?_
   exact Zr [(10,_)] (p:=(by
    have jW: ¬a.op=28:=of_decide_eq_false ‹decide (a.op=28)=false›;have ho4: ¬a.op=24:=of_decide_eq_false ‹decide (a.op=24)=false›;unfold mdK mdT;rw[if_neg jW,if_neg jW,if_neg ho4]
    exact⟨rfl,S⟩))
 obtain⟨rfl,S⟩:=hJ;refine Q5<|Q7 ?_;obtain⟨t1,gT⟩: ∃t1,t1=mdT s id a o.of:=⟨_,rfl⟩;refine I2 rfl<|Q0<|Qb<|QB [(11,_)] [(0,_),(1,_),(8,_),(9,_),(10,_)] (fun kk lv hh=> ∃i:Nat,lv=[(11,iV i)]/\kk=s.T.length -i/\i<=s.T.length/\SH h D (cR b3 (.cells (tkV {mdT s id a o.of with nth:=Q8V s id i}) 85 0)::cR b2 (.cells [iV o.kind,iV o.of,.slice va o.vals.length vc,iV o.site,iV o.by',iV o.nth] 233 0)::cR b1 (.cells (YD a sv) 202 0)::(mcL mb ph P V s w++(sl::RH))) hh) (n:=s.T.length) ?_ fun kk lv hh hI=>?_
 · exact⟨0,rfl,rfl,v0s _,by rw[QeN];exact S⟩
 obtain⟨i,rfl,iS,aD,S⟩:=hI;refine Q5<|Q7<|I1 rfl<|I1 rfl<|I6 rfl<|I0 12 rfl<|I4 rfl (S.cel 3 rfl) rfl ?_;rw[br];refine I7 rfl ?_;rw[<-br];refine Il rfl rfl<|Q0<|Q2 rfl (fun hb=>?_) fun hb=>?_
 · skip
   refine Q4 ?_;have aD:i <s.T.length:=by simp at hb;omega
   obtain⟨tb,tm,tc2,tr,bh,jj,_⟩:=(S.sl 7 rfl).at (by omega)
   have kJ:(tkC s.T++tr)[0+v0f (i:Int)*15+5]?=some (iV (s.T[i]).by'):=by
    rw[v0i,v0e];exact Qs (Q4H tr (v0c aD)) (by omega) rfl
   refine Q5<|Qb<|Q7<|I1 rfl<|I6 rfl<|I0 12 rfl<|I4 rfl (S.cel 3 rfl) rfl<|I1 rfl ?_;rw[bh];refine I5o 15 rfl rfl ?_;rw[<-bh];refine I0 5 rfl<|I4 rfl jj kJ<|I1 rfl<|Ie rfl rfl<|Q0<|Q2 rfl (fun hb=>?_) fun hb=>?_
   · skip
     refine Q3 (by kernel_rfl) ?_;have iE:(s.T[i]).by'=id:=by simpa using hb
     have dy:Q8V s id i<=i:=QeA;have kn:(tkV {mdT s id a o.of with nth:=Q8V s id i})[0+6]?=some (iV ((Q8V s id i:Nat):Int)):=rfl;refine I0 6 rfl<|I4 rfl (S.cel 0 rfl) kn<|Iao rfl rfl<|I0 6 rfl ?_;refine Qg 0 S gn rfl rfl rfl (by kernel_rfl) rfl (by decide) (by rw[ZK];decide) (fun g S=>ag0) fun g S=>?_;refine Q0<|Q3 (by kernel_rfl)<|I1 rfl<|Iao rfl rfl<|I2 rfl<|Q0 ?_
     exact K3 (s.T.length - (i+1)) [(11,_)] (p:=⟨i+1,rfl,rfl,by omega,by
      rw[Q59 aD,if_pos iE];exact S⟩)
   refine Q4<|Q3 (by kernel_rfl)<|I1 rfl<|Iao rfl rfl<|I2 rfl<|Q0 ?_
   exact K3 (s.T.length - (i+1)) [(11,_)] (p:=⟨i+1,rfl,rfl,by omega,by
    have iE: ¬(s.T[i]).by'=id:=by simpa using hb
    rw[Q59 aD,if_neg iE];exact S⟩)
 refine QF<|Qh<|Qn<|QE ?_;obtain rfl:i=s.T.length:=by simp at hb;omega
 refine Q7 ?_;obtain⟨t1,gT⟩: ∃t1,t1=mdN s id a o.of:=⟨_,rfl⟩
 have f1:t1.fn=o.of/\t1.looper <P.loopers/\0<=t1.delay/\t1.delay<=1000000000:=by
  rw[gT];unfold mdN mdT
  split
  · exact⟨rfl,by show(-1:Int)<_;omega,v03 _,by show(0:Int)<=_;omega⟩
  rename_i h28
  split
  · exact⟨rfl,(an h28).2,v03 _,by show(0:Int)<=_;omega⟩
  rename_i h24;exact⟨rfl,(an h28).2,(hd h28 h24).1,(hd h28 h24).2⟩
 have S:SH h D (cR b3 (.cells (tkV t1) 85 0)::cR b2 (.cells [iV o.kind,iV o.of,.slice va o.vals.length vc,iV o.site,iV o.by',iV o.nth] 233 0)::cR b1 (.cells (YD a sv) 202 0)::(mcL mb ph P V s w++(sl::RH))) hh:=by rw[gT];exact S
 refine I1 rfl<|Zb (n:=15) gn rfl rfl (by kernel_rfl) (by kernel_rfl) (S.cel 0 rfl) (by rw[ZK];decide)<|I0 2 rfl<|I4 rfl (S.cel 1 rfl) rfl ?_;have Sm:SH h D ([cR b3 (.cells (tkV t1) 85 0),cR b2 (.cells [iV o.kind,iV o.of,.slice va o.vals.length vc,iV o.site,iV o.by',iV o.nth] 233 0),cR b1 (.cells (YD a sv) 202 0)]++mcL mb ph P V s w++(sl::RH)) hh:=S;have Sm:=SH.comm Sm;rw[<-v0F]at Sm;obtain⟨bk,Sm⟩:=Qo Sm hw bg
 have Sm:SH h D ([mcR mb ph P V s tp bk]++((sl::RH)++[cR b3 (.cells (tkV t1) 85 0),cR b2 (.cells [iV o.kind,iV o.of,.slice va o.vals.length vc,iV o.site,iV o.by',iV o.nth] 233 0),cR b1 (.cells (YD a sv) 202 0)])) hh:=SH.comm Sm;have aq:=Qc3 (v:=.slice va o.vals.length vc) (cs:=isV o.vals) (n:=o.vals.length) (vb:=vb) (e:=2) (r:=mcR mb ph P V s tp bk) (L:=(sl::RH)++[cR b3 (.cells (tkV t1) 85 0),cR b2 (.cells [iV o.kind,iV o.of,.slice va o.vals.length vc,iV o.site,iV o.by',iV o.nth] 233 0),cR b1 (.cells (YD a sv) 202 0)]) Sm (by rw[bE];simp)
 refine QZ [_,_,_] gn rfl rfl (by kernel_rfl) rfl (C.mono (m26 (t:=t1) (cells:=o.vals) (SH.sub1 S0 aj Sm 0 rfl) X0 hM k (by rw[f1.1];exact cr.1.1) (by rw[f1.1];exact cr.1.2) f1.2.1 f1.2.2 aq (by rw[f1.1];exact cr.2)) ?_);rintro v g ⟨rfl,tl,bB,S2⟩;have S:=Sm.ret 0 rfl S2;have S:SH h D ((mcR mb ph P V (Y9 P s t1 o.vals) (tp++tl) bB::(sl::RH))++[cR b3 (.cells (tkV t1) 85 0),cR b2 (.cells [iV o.kind,iV o.of,.slice va o.vals.length vc,iV o.site,iV o.by',iV o.nth] 233 0),cR b1 (.cells (YD a sv) 202 0)]) g:=S;have S:=SH.comm (A:=[_]) S.fst;obtain⟨ah,S⟩:=dB _ _ _ _ S;refine⟨ag0,?_⟩;refine I2 rfl<|Z8<|I1 rfl ?_
 refine Ie rfl rfl<|Q0<|Q2 rfl (fun hb=>?_) fun hb=>?_
 · skip
   refine Q7 ?_
   have hf:256<=s.T.length:=by
    refine Classical.byContradiction fun e=>?_;unfold QbI at hb;rw[if_neg e]at hb;simp at hb;omega
   have dv:Y9 P s t1 o.vals=s:=by unfold Y9;rw[if_pos hf]
   rw[dv]at S;refine I1 rfl<|Ic [_] rfl rfl (C.mono (m53 (SH.sub1 S0 aj S 1 rfl)) ?_);rintro v g ⟨rfl,fD,S2⟩;have S:=S.ret 1 rfl S2;refine⟨ag0,?_⟩;refine I2 rfl<|I2 rfl<|Q0<|Q8 ?_;refine⟨.inl rfl,_,rfl,?_⟩
   exact(by
    refine⟨by rw[gQ];unfold mdE;rw[if_pos ⟨gQ,hf⟩];rfl,ah,tl,fD,?_⟩
    unfold mdS;rw[if_pos gQ,if_pos hf];exact S)
 refine Q4<|Q7 ?_
 have hf: ¬256<=s.T.length:=by
  intro e;unfold QbI at hb;rw[if_pos e]at hb;simp at hb
 have ot:QbI s=s.T.length+1:=by unfold QbI;rw[if_neg hf]
 obtain⟨s1,aY⟩: ∃s1,s1=Y9 P s t1 o.vals:=⟨_,rfl⟩;rw[<-aY]at S;have eM:s1.M=s.M:=by rw[aY];unfold Y9;rw[if_neg hf]
 have eTh:s1.Th=s.Th++[⟨[Yd P t1.fn o.vals],0⟩]:=by rw[aY];unfold Y9;rw[if_neg hf]
 rw[ot];refine I1 rfl<|I1 rfl<|I1 rfl<|I1 rfl ?_;refine QZ [_,_,_,_] gn rfl rfl (by kernel_rfl) rfl (C.mono (m75 (SH.sub1 S0 aj S 1 rfl) (by rw[eM];omega)) ?_);rintro v g ⟨fD,S2⟩;have S:=S.ret 1 rfl S2;obtain⟨s2,aK⟩: ∃s2,s2=Yj s1 (mdK a) id (s.T.length+1):=⟨_,rfl⟩;have S:SH h D ([hpR ph s.H ah]++[mcR mb ph P V s2 (tp++tl) fD]) g:=by rw[aK];exact S
 obtain⟨w2,aC,aH,_,S⟩:=QH S;have S:SH h D (hpR ph s.H ah::mcL mb ph P V s2 w2) g:=S;have eTh2:s2.Th=s.Th++[⟨[Yd P t1.fn o.vals],0⟩]:=by rw[aK];exact eTh
 have e9:=k.th;have hthl:s2.Th.length=s.T.length+1:=by rw[eTh2,v0j,e9];rfl
 have eA:Zt s2 id=Zt s id:=by
  unfold Zt;rw[eTh2,v0z (by omega)]
 obtain⟨pb,pc,pcs,pm,pv,fY,hpg2,bM,aF,di⟩:=QbN (s:=s2) (w:=w2) (id:=id) (S.sl 6 rfl) aC.2 h1 (by omega)
 have dx:(hpR ph s.H ah::mcL mb ph P V s2 w2)[(id -1).toNat+s2.Q.length+10+1]?=some (thR pv.1 (pvL P V) (Zt s id) pv.2):=by
  rw[<-eA];exact Qg6 (mb:=mb) (ph:=ph) aC.1 (Jm h1 (by omega)) aF
 have hT:=k.tok _ (v0m (Jm (s:=s) h1 (by omega)));refine⟨ag0,?_⟩;refine QP<|I1 rfl<|I6 rfl<|I0 13 rfl<|I4 rfl (S.cel 1 rfl) rfl<|I1 rfl<|Iso rfl rfl ?_;rw[fY];refine I5o 1 rfl rfl ?_;rw[<-fY];refine I4 rfl hpg2 di<|I1 rfl<|Ic [_,_] rfl rfl (C.mono (m97 (SH.sub1 S0 aj S _ dx) X0 hM hT) ?_);rintro v g ⟨rfl,fC,S2⟩;have S:=S.ret _ dx S2;have S:SH h D (hpR ph s.H ah::(mcL mb ph P V s2 w2).set ((id -1).toNat+s2.Q.length+10) (thR pv.1 (pvL P V) (Q1t P (Zt s id) (s.T.length+1)) fC)) g:=S;rw[Q6A fC aC.1 (by omega) aF]at S;refine⟨ag0,?_⟩;refine QP ?_
 refine I2 rfl<|I2 rfl<|Q0<|Q8 ?_;refine⟨.inl rfl,_,rfl,?_⟩
 exact(by
  have e:mdS P s id a= {s2 with Th:=s2.Th.set (id -1).toNat (Q1t P (Zt s id) (s.T.length+1))}:=by
   unfold mdS;rw[if_pos gQ,if_neg hf,aK,aY,gT,ho];rfl
  obtain⟨lA,S⟩:=Qo (A:=[_]) S ⟨aC.1,by show(w2.ths.set _ _).length=(s2.Th.set _ _).length;rw[v0q,v0q];exact aC.2⟩ ((Q9T aF).trans aH);refine⟨by rw[gQ];unfold mdE;rw[if_neg (fun e=>hf e.2)];rfl,ah,tl,lA,?_⟩
  rw[e];exact S)
end
def ofI (s:MS) (n k:Int):Int:=if 1<=n/\n<=s.T.length/\(ZA s n).kind=k then n else 0
def mkO (o:Int):Bool:=decide (o∈([23,24,28]:List Int))
def ZU (P:Prg) (s:MS) (a:MAsk):Bool:=if mkO a.op=true then !mdB P s a.v else if a.op=25 then decide (ofI s a.v 4=0)else if a.op=29 then decide (ofI s a.v 5=0)else false
def ZE (P:Prg) (s:MS) (a:MAsk):Int:=if mkO a.op=true then mdE P s a else if a.op=30/\1024<=s.log.length then 11 else 0
def Jk (s:MS) (id:Int) (a:MAsk):MS:=
 if Q5Y s.E a.n (decide (a.op=26))=true then Yj {Ji s id a.site 6 a.n true with E:=QbC s.E a.n (decide (a.op=26)),on:=s.on.set a.n.toNat (s.M.length+1)} 7 id a.n
 else {Ji s id a.site 6 a.n true with E:=QbC s.E a.n (decide (a.op=26))}
def Zk (s:MS) (id:Int) (a:MAsk):MS×Int:=
 if a.op=9 then(Ji s id a.site 1 a.n false,reg s.G a.n)else
 if a.op=10 then({Ji s id a.site 1 a.n true with G:=s.G.set a.n.toNat a.v},0)else
 if a.op=25 then(Q2R s id a.site (ofI s a.v 4),0)else
 if decide (a.op∈([26,27]:List Int))=true then(Jk s id a,0)else
 if a.op=29 then(Yj s 6 id (ofI s a.v 5),0)else
 if a.op=30 then({Ji s id a.site 7 0 true with log:=s.log++[a.v]},0)else(s,0)
def finM (P:Prg) (s s':MS) (id n:Int):MS:=thS s' id (Q1t P (Zt s id) n)
def Y5 (P:Prg) (s:MS) (id:Int) (a:MAsk):MS:=
 if mkO a.op=true then mdS P s id a else if ZU P s a=true then s else if ZE P s a=11 then {s with full:=true}else finM P s (Zk s id a).1 id (Zk s id a).2
theorem Q5r {h:Hp} {e:Nat} {v:Value} {R:List Int} {vb:List Nat} {a:Int} (x:SlC e 0 h v (isV R) R.length vb) (h0:0<=a) (h1:a <R.length): ∃b c cs m,v=.slice (some ⟨b,0,none⟩) R.length c/\h.get b=some (.cells cs e m)/\cs[0+v0f a*1]?=some (iV (reg R a)):=by
 obtain⟨b,m,c,r,hv,hg,_⟩:=x.at (by omega);refine⟨b,c,_,m,hv,hg,?_⟩;rw[v0e,v0A,v0z (by rw[v0v];omega),v0D,Q7u h0 h1];rfl
theorem QfH {s:MS} {id z o:Int}:(Q2R s id z o).Th=s.Th/\(Q2R s id z o).Q.length=s.Q.length:=by
 unfold Q2R
 split
 · exact⟨rfl,v0l ..⟩
 exact⟨rfl,rfl⟩
theorem QcT {s:MS} {id:Int} {a:MAsk}:(Jk s id a).Th=s.Th/\(Jk s id a).Q.length=s.Q.length:=by
 unfold Jk
 split<;>exact⟨rfl,rfl⟩
theorem Qd2 {s:MS} {id:Int} {a:MAsk}:(Zk s id a).1.Th=s.Th/\(Zk s id a).1.Q.length=s.Q.length:=by
 unfold Zk
 split;exact⟨rfl,rfl⟩
 split;exact⟨rfl,rfl⟩
 split;exact QfH
 split;exact QcT
 split;exact⟨rfl,rfl⟩
 split;exact⟨rfl,rfl⟩
 exact⟨rfl,rfl⟩
section
variable {h0 h:Hp} {P:Prg} {V:PrV} {mb ph:Nat} {s:MS} {ae tp bs:List Nat}
theorem m78 {id:Int} {a:MAsk} {sv:Value} (S0:SH h0 [] [hpR ph s.H ae,mcR mb ph P V s tp bs] h) (X0:Q1m h0 P V) (hM:ZL P=true) (k:MOk P s) (h1:1<=id) (h2:id<=s.T.length) (hm:s.M.length<=99980) (hs:cellV sv=true) (an:mkO a.op=true->a.op≠28->0<=a.looper/\a.looper <P.loopers) (hd:mkO a.op=true->a.op≠28->a.op≠24->0<=a.n/\a.n<=1000000000)
 (hg:a.op=9\/a.op=10->0<=a.n/\a.n <P.globals) (he:decide (a.op∈([26,27]:List Int))=true->0<=a.n/\a.n <P.events.length) (hw: ∀n:Int,1<=n->n<=s.T.length->(ZA s n).kind=4->0<=(ZA s n).looper/\(ZA s n).looper <P.loopers):C modE 93 [Qk mb,iV id,askV a sv] h fun v g'=>v=.tuple #[.bool (ZU P s a),iV (ZE P s a)]/\ ∃ah tl aa,SH h (owns [hpR ph s.H ae,mcR mb ph P V s tp bs]) [hpR ph s.H ah,mcR mb ph P V (Y5 P s id a) (tp++tl) aa] g':=by
 have SE:=S0.enterL;obtain⟨D,hD⟩: ∃D,D=owns [hpR ph s.H ae,mcR mb ph P V s tp bs]:=⟨_,rfl⟩;have aj: ∀i,i∈D->h0.n<=i:=by rw[hD];exact S0.own0L
 rw[<-hD]at SE ⊢;have hk:=k.t;have hkh:=k.h;have e9:=k.th;have nu:=k.e;have lR:=k.on;have hkg:=k.g;have eI:=k.lg;refine Q9 (fu:=Tryz.f93) (by kernel_rfl) rfl ?_;have S:=SE;refine Q7 ?_;refine Z9 S gn rfl rfl fun b1 g aJ S=>?_;have S:SH h D ([cR b1 (.cells (YD a sv) 202 0),hpR ph s.H ae]++[mcR mb ph P V s tp bs]) g:=S;obtain⟨w,jM,bg,_,S⟩:=QH S;have S:SH h D (cR b1 (.cells (YD a sv) 202 0)::hpR ph s.H ae::mcL mb ph P V s w) g:=S;obtain⟨pb,pc,pcs,pm,pv,fY,jo,bM,aF,di⟩:=QbN (s:=s) (w:=w) (id:=id) (S.sl 7 rfl) jM.2 h1 (by omega);obtain⟨tb,ff⟩: ∃tb,tb=pv.1:=⟨_,rfl⟩
 have dF:tp[(id -1).toNat]?=some tb:=by rw[<-bg,v0D,aF,ff];rfl
 rw[<-ff]at di;refine I2 rfl<|I2 rfl<|QP<|I1 rfl<|I6 rfl<|I0 13 rfl<|I4 rfl (S.cel 2 rfl) rfl<|I1 rfl<|Iso rfl rfl ?_;rw[fY];refine I5o 1 rfl rfl ?_;rw[<-fY];refine I4 rfl jo di<|I2 rfl<|I2 rfl<|Q0 ?_;obtain⟨bz,S⟩:=Qo (A:=[_,_]) S jM bg;have S:SH h D [cR b1 (.cells (YD a sv) 202 0),hpR ph s.H ae,mcR mb ph P V s tp bz] g:=S
 refine ZF [(8,Qk tb)] (fun lv hh=>mkO a.op=false/\ZU P s a=false/\ZE P s a=0/\lv=[(9,iV (Zk s id a).2)]/\ ∃aa,SH h D [cR b1 (.cells (YD a sv) 202 0),hpR ph s.H ae,mcR mb ph P V (Zk s id a).1 tp aa] hh) ?_ fun lv hh hJ=>?_
 · skip
   refine Q7<|I0 0 rfl<|I4 rfl (S.cel 0 rfl) rfl<|Q0<|Qb<|Yt 21 [(23,23),(24,24),(28,25)] [(0,_),(1,_),(2,_),(5,_),(6,_),(7,_),(8,_),(9,_),(12,_),(13,_),(14,_),(15,_),(16,_),(17,_),(18,_),(19,_),(20,_),(21,_)] (by kernel_rfl) rfl (by repeat(first|exact trivial|refine⟨rfl,?_⟩)) (by rfl) (fun hb=>?_) fun hb=>?_
   · skip
     refine Q7 ?_;have aG:mkO a.op=true:=hb;refine I1 rfl<|I1 rfl<|I3 6 rfl (S.cel 0 rfl) (v0b _)<|Ic [_,_,_] rfl rfl (C.mono (m93 (SH.subL (A:=[_,_]) S0 aj (SH.comm (A:=[_]) S)) X0 hM k h1 h2 (by omega) hs (an aG) (hd aG)) ?_);rintro v g ⟨rfl,ah,tl,bk,S2⟩;have S:=SH.retL (A:=[_,_]) (SH.comm (A:=[_]) S) S2;refine⟨ag0,?_⟩;refine Ix rfl rfl<|Ix rfl rfl<|I2 rfl<|I2 rfl<|Q0<|Q8 ?_;refine⟨.inl rfl,_,rfl,?_⟩
     exact(by
      refine⟨by unfold ZU ZE;rw[if_pos aG,if_pos aG];rfl,ah,tl,bk,?_⟩;unfold Y5;rw[if_pos aG]
      exact SH.fst S)
   refine Q7 ?_;have aG:mkO a.op=false:=hb;refine Ie rfl rfl<|I2 rfl<|Q0<|Q2 rfl (fun hb=>?_) fun hb=>?_
   · skip
     refine Q7 ?_;have ho:a.op=9:=of_decide_eq_true hb;have hgn:=hg (.inl ho);refine I1 rfl<|I1 rfl<|I0 1 rfl<|I4 rfl (S.cel 0 rfl) rfl<|I0 2 rfl<|I4 rfl (S.cel 0 rfl) rfl<|Ic [_,_,_,_,_,_] rfl rfl (C.mono (m76 (SH.sub1 S0 aj S 2 rfl) (by omega)) ?_);rintro v g ⟨bk,S2⟩;have S:=S.ret 2 rfl S2;obtain⟨w2,aC,aH,_,S⟩:=QH (A:=[_,_]) (S:SH h D ([cR b1 (.cells (YD a sv) 202 0),hpR ph s.H ae]++[mcR mb ph P V (Ji s id a.site 1 a.n false) tp bk]) g);have S:SH h D (cR b1 (.cells (YD a sv) 202 0)::hpR ph s.H ae::mcL mb ph P V (Ji s id a.site 1 a.n false) w2) g:=S
     obtain⟨gb,gc,gcs,gm,lU,hgg,hgk⟩:=Q5r (R:=s.G) (S.sl 8 rfl) hgn.1 (by omega);refine⟨ag0,?_⟩;refine Q0<|I9<|I1 rfl<|I6 rfl<|I0 14 rfl<|I4 rfl (S.cel 2 rfl) rfl<|I0 2 rfl<|I4 rfl (S.cel 0 rfl) rfl ?_;rw[lU];refine I5o 1 rfl rfl ?_;rw[<-lU];refine I4 rfl hgg hgk<|I2 rfl<|Q0<|Qf ?_
     exact Zr [(9,_)] (p:=(by
      have e:Zk s id a=(Ji s id a.site 1 a.n false,reg s.G a.n):=by unfold Zk;rw[if_pos ho]
      rw[e];refine⟨aG,?_,?_,rfl,Qo (A:=[_,_]) S aC aH⟩
      · unfold ZU;rw[aG,if_neg (by decide),if_neg (by omega),if_neg (by omega)]
      unfold ZE;rw[aG,if_neg (by decide),if_neg (by omega)]))
   refine Q7<|Ie rfl rfl<|I2 rfl<|Q0<|Q2 rfl (fun hb=>?_) fun hb=>?_
   · skip
     refine Q7 ?_;have ho:a.op=10:=of_decide_eq_true hb;have hgn:=hg (.inr ho);refine I1 rfl<|I1 rfl<|I0 1 rfl<|I4 rfl (S.cel 0 rfl) rfl<|I0 2 rfl<|I4 rfl (S.cel 0 rfl) rfl<|Ic [_,_,_,_,_,_] rfl rfl (C.mono (m76 (SH.sub1 S0 aj S 2 rfl) (by omega)) ?_);rintro v g ⟨bk,S2⟩;have S:=S.ret 2 rfl S2;obtain⟨w2,aC,aH,_,S⟩:=QH (A:=[_,_]) (S:SH h D ([cR b1 (.cells (YD a sv) 202 0),hpR ph s.H ae]++[mcR mb ph P V (Ji s id a.site 1 a.n true) tp bk]) g);have S:SH h D (cR b1 (.cells (YD a sv) 202 0)::hpR ph s.H ae::mcL mb ph P V (Ji s id a.site 1 a.n true) w2) g:=S
     obtain⟨gb,gc,gcs,gm,lU,hgg,hgk⟩:=Q5r (R:=s.G) (S.sl 8 rfl) hgn.1 (by omega);refine⟨ag0,?_⟩;refine Q0<|I9<|I1 rfl<|I6 rfl<|I0 14 rfl<|I4 rfl (S.cel 2 rfl) rfl<|I0 2 rfl<|I4 rfl (S.cel 0 rfl) rfl<|I0 3 rfl<|I4 rfl (S.cel 0 rfl) rfl ?_;rw[lU];refine I5o 1 rfl rfl ?_;rw[<-lU];refine Zm 8 S gn rfl rfl rfl (by kernel_rfl) rfl lU (by show _ <(isV s.G).length;rw[v0v];omega) (fun g S=>ag0) fun g S=>?_
     have S:SH h D ([cR b1 (.cells (YD a sv) 202 0),hpR ph s.H ae]++mcL mb ph P V {Ji s id a.site 1 a.n true with G:=s.G.set a.n.toNat a.v} w2) g:=by
      unfold mcL mcH;show SH h D (_::_::([_,_,_,_,_,_,slR 2 0 w2.gv (isV (s.G.set a.n.toNat a.v)) (s.G.set a.n.toNat a.v).length w2.gvb,_,_,_]++_)) g;rw[<-KX,v0q];have S2:=S;rw[v0e,v0A]at S2;exact S2
     refine Q0<|Qf ?_
     exact Zr [(9,_)] (p:=(by
      have e:Zk s id a=({Ji s id a.site 1 a.n true with G:=s.G.set a.n.toNat a.v},0):=by unfold Zk;rw[if_neg (by omega),if_pos ho]
      rw[e];refine⟨aG,?_,?_,rfl,Qo (A:=[_,_]) S aC aH⟩
      · unfold ZU;rw[aG,if_neg (by decide),if_neg (by omega),if_neg (by omega)]
      unfold ZE;rw[aG,if_neg (by decide),if_neg (by omega)]))
   refine Q7<|Ie rfl rfl<|I2 rfl<|Q0<|Q2 rfl (fun hb=>?_) fun hb=>?_
   · skip
     refine Q7 ?_;have ho:a.op=25:=of_decide_eq_true hb;refine I1 rfl<|I0 3 rfl<|I4 rfl (S.cel 0 rfl) rfl<|Ic [_,_,_] rfl rfl (Ql (m94 (SH.sub1 S0 aj S 2 rfl) k) ⟨ag0,?_⟩);refine I2 rfl<|Z8<|I1 rfl<|Ie rfl rfl<|Q0<|Q2 rfl (fun hb=>?_) fun hb=>?_
     · skip
       refine Q7<|I2 rfl<|I2 rfl<|Q0<|Q8 ?_;refine⟨.inl rfl,_,rfl,?_⟩
       exact(by
        have gJ:ofI s a.v 4=0:=of_decide_eq_true hb;have eB:ZU P s a=true:=by unfold ZU;rw[aG,if_neg (by decide),if_pos ho];exact decide_eq_true gJ
        have eE:ZE P s a=0:=by unfold ZE;rw[aG,if_neg (by decide),if_neg (by omega)]
        refine⟨by rw[eB,eE];rfl,ae,[],bz,?_⟩;unfold Y5;rw[aG,if_neg (by decide),if_pos eB,v0k]
        exact S.drop)
     refine Q4<|Q3 (by kernel_rfl) ?_;have gJ: ¬ofI s a.v 4=0:=of_decide_eq_false hb
     have ia:1<=ofI s a.v 4/\ofI s a.v 4<=s.T.length/\(ZA s (ofI s a.v 4)).kind=4:=by
      unfold ofI at gJ ⊢
      split at gJ
      · rename_i hh;rw[if_pos hh];exact hh
      exact absurd rfl gJ
     refine I1 rfl<|I1 rfl<|I0 1 rfl<|I4 rfl (S.cel 0 rfl) rfl<|I1 rfl<|Ic [_,_,_,_] rfl rfl (C.mono (m95 (of':=ofI s a.v 4) (SH.sub1 S0 aj S 2 rfl) k ia.1 ia.2.1 (fun _=>hw _ ia.1 ia.2.1 ia.2.2) (by omega)) ?_);rintro v g ⟨bk,S2⟩;have S:=S.ret 2 rfl S2;refine⟨ag0,?_⟩;refine Q0<|Qf ?_
     exact Zr [(9,_)] (p:=(by
      have e:Zk s id a=(Q2R s id a.site (ofI s a.v 4),0):=by unfold Zk;rw[if_neg (by omega),if_neg (by omega),if_pos ho]
      rw[e];refine⟨aG,?_,?_,rfl,bk,S⟩
      · unfold ZU;rw[aG,if_neg (by decide),if_pos ho];exact decide_eq_false gJ
      unfold ZE;rw[aG,if_neg (by decide),if_neg (by omega)]))
   refine Yt 21 [(26,82),(27,83)] [(0,_),(1,_),(2,_),(5,_),(6,_),(7,_),(8,_),(9,_),(12,_),(13,_),(14,_),(15,_),(16,_),(17,_),(18,_),(19,_),(20,_),(21,_),(32,_),(33,_),(49,_),(50,_),(67,_),(68,_)] (by kernel_rfl) rfl (by repeat(first|exact trivial|refine⟨rfl,?_⟩)) (by rfl) (fun hb=>?_) fun hb=>?_
   · skip
     refine Q7 ?_;have h267:decide (a.op∈([26,27]:List Int))=true:=hb;have hen:=he h267;have ho:a.op=26\/a.op=27:=by simpa using h267
     refine I1 rfl<|I1 rfl<|I0 1 rfl<|I4 rfl (S.cel 0 rfl) rfl<|I0 2 rfl<|I4 rfl (S.cel 0 rfl) rfl<|Ic [_,_,_,_,_,_] rfl rfl (C.mono (m76 (SH.sub1 S0 aj S 2 rfl) (by omega)) ?_);rintro v g ⟨bk,S2⟩;have S:=S.ret 2 rfl S2;obtain⟨w2,aC,aH,_,S⟩:=QH (A:=[_,_]) (S:SH h D ([cR b1 (.cells (YD a sv) 202 0),hpR ph s.H ae]++[mcR mb ph P V (Ji s id a.site 6 a.n true) tp bk]) g);have S:SH h D (cR b1 (.cells (YD a sv) 202 0)::hpR ph s.H ae::mcL mb ph P V (Ji s id a.site 6 a.n true) w2) g:=S;refine⟨ag0,?_⟩;refine Q0<|Q5<|I9 ?_
     have hpl3:SH h0 [] [lvR w2.lb s.K s.E w2.lbs] g:=SH.sub1 S0 aj S 3 rfl;refine I1 rfl<|I6 rfl<|I0 9 rfl<|I4 rfl (S.cel 2 rfl) rfl<|I0 2 rfl<|I4 rfl (S.cel 0 rfl) rfl<|I0 0 rfl<|I4 rfl (S.cel 0 rfl) rfl<|Ie rfl rfl<|Ic [_,_,_] rfl rfl (C.mono (m96 (K:=s.K) (E:=s.E) (e:=a.n) (on:=decide (a.op=26)) (SH.sub1 S0 aj S 3 rfl) k.e2) ?_);rintro v g ⟨rfl,bB,S2⟩;have S:=S.ret 3 rfl S2;obtain⟨s1,aY⟩: ∃s1,s1= {Ji s id a.site 6 a.n true with E:=QbC s.E a.n (decide (a.op=26))}:=⟨_,rfl⟩
     obtain⟨w3,ez,dh,S⟩: ∃w3:MW,(w3.qs.length=s1.Q.length/\w3.ths.length=s1.Th.length)/\w3.ths.map Prod.fst=tp/\SH h D (cR b1 (.cells (YD a sv) 202 0)::hpR ph s.H ae::mcL mb ph P V s1 w3) g:=⟨{w2 with lbs:=bB},by rw[aY];exact aC,aH,by rw[aY];exact S⟩;have q1:s1.M=s.M++[⟨3,id,0,⟨a.site,6,a.n,0,true⟩⟩]:=by rw[aY];rfl
     have q2:s1.on=s.on:=by rw[aY];rfl
     have q3:s1.M.length=s.M.length+1:=by rw[q1];simp
     have q4:s1.on.length=s.on.length:=by rw[q2]
     obtain⟨ma,mc,jq⟩:=Q6 (S.sl 10 rfl);obtain⟨ob,oc,ocs,om,aW,fk,aT⟩:=Q5r (R:=s1.on) (S.sl 11 rfl) hen.1 (by rw[q2];omega);refine⟨ag0,?_⟩;refine Q0<|Q2 rfl (fun hb=>?_) fun hb=>?_
     · skip
       refine Q5<|I9<|I1 rfl<|I6 rfl<|I0 17 rfl<|I4 rfl (S.cel 2 rfl) rfl<|I0 2 rfl<|I4 rfl (S.cel 0 rfl) rfl<|I1 rfl<|I6 rfl<|I0 16 rfl<|I4 rfl (S.cel 2 rfl) rfl ?_;rw[jq];refine I7 rfl ?_;rw[<-jq];rw[aW];refine I5o 1 rfl rfl ?_;rw[<-aW];refine Zm 11 S gn rfl rfl rfl (by kernel_rfl) rfl aW (by rw[v0v,q2];omega) (fun g S=>ag0) fun g S=>?_;obtain⟨s2,aK⟩: ∃s2,s2= {s1 with on:=s1.on.set a.n.toNat s1.M.length}:=⟨_,rfl⟩
       have S:SH h D ([cR b1 (.cells (YD a sv) 202 0),hpR ph s.H ae]++mcL mb ph P V s2 w3) g:=by
        rw[aK];unfold mcL mcH;show SH h D (_::_::([_,_,_,_,_,_,_,_,_,slR 3 0 w3.ov (isV (s1.on.set a.n.toNat s1.M.length)) (s1.on.set a.n.toNat s1.M.length).length w3.ovb]++_)) g;rw[<-KX,v0q];have S2:=S;rw[v0e,v0A]at S2;exact S2
       obtain⟨fD,S⟩:=Qo (A:=[_,_]) S (by rw[aK];exact ez) dh;have S:SH h D [cR b1 (.cells (YD a sv) 202 0),hpR ph s.H ae,mcR mb ph P V s2 tp fD] g:=S;refine Q0<|Q3 (by kernel_rfl)<|I1 rfl<|I1 rfl<|I0 2 rfl<|I4 rfl (S.cel 0 rfl) rfl ?_;refine QZ [_,_,_,_] gn rfl rfl (by kernel_rfl) rfl (C.mono (m75 (SH.sub1 S0 aj S 2 rfl) (by rw[aK];show s1.M.length<=100000;omega)) ?_);rintro v g ⟨fC,S2⟩;have S:=S.ret 2 rfl S2;refine⟨ag0,?_⟩;refine Q0<|Qf ?_
       exact Zr [(9,_)] (p:=(by
        have ht:Q5Y s.E a.n (decide (a.op=26))=true:=hb
        have e:Zk s id a=(Yj s2 7 id a.n,0):=by
         unfold Zk;rw[if_neg (by omega),if_neg (by omega),if_neg (by omega),if_pos h267];unfold Jk;rw[if_pos ht,aK,q2,q3,aY];rfl
        rw[e];refine⟨aG,?_,?_,rfl,fC,S⟩
        · unfold ZU;rw[aG,if_neg (by decide),if_neg (by omega),if_neg (by omega)]
        unfold ZE;rw[aG,if_neg (by decide),if_neg (by omega)]))
     refine Q4<|Qf ?_
     exact Zr [(9,_)] (p:=(by
      have ht: ¬Q5Y s.E a.n (decide (a.op=26))=true:=by
       rw[show Q5Y s.E a.n (decide (a.op=26))=false from hb];decide
      have e:Zk s id a=(s1,0):=by
       unfold Zk;rw[if_neg (by omega),if_neg (by omega),if_neg (by omega),if_pos h267];unfold Jk;rw[if_neg ht,aY]
      rw[e];refine⟨aG,?_,?_,rfl,Qo (A:=[_,_]) S ez dh⟩
      · unfold ZU;rw[aG,if_neg (by decide),if_neg (by omega),if_neg (by omega)]
      unfold ZE;rw[aG,if_neg (by decide),if_neg (by omega)]))
   refine Q7 ?_
   have h267: ¬decide (a.op∈([26,27]:List Int))=true:=by
    rw[show decide (a.op∈([26,27]:List Int))=false from hb];decide
   refine Ie rfl rfl<|I2 rfl<|Q0<|Q2 rfl (fun hb=>?_) fun hb=>?_
   · skip
     refine Q7 ?_;have ho:a.op=29:=of_decide_eq_true hb;refine I1 rfl<|I0 3 rfl<|I4 rfl (S.cel 0 rfl) rfl<|Ic [_,_,_] rfl rfl (Ql (m94 (SH.sub1 S0 aj S 2 rfl) k) ⟨ag0,?_⟩);refine I2 rfl<|Z8<|I1 rfl<|Ie rfl rfl<|Q0<|Q2 rfl (fun hb=>?_) fun hb=>?_
     · skip
       refine Q7<|I2 rfl<|I2 rfl<|Q0<|Q8 ?_;refine⟨.inl rfl,_,rfl,?_⟩
       exact(by
        have gJ:ofI s a.v 5=0:=of_decide_eq_true hb;have eB:ZU P s a=true:=by unfold ZU;rw[aG,if_neg (by decide),if_neg (by omega),if_pos ho];exact decide_eq_true gJ
        have eE:ZE P s a=0:=by unfold ZE;rw[aG,if_neg (by decide),if_neg (by omega)]
        refine⟨by rw[eB,eE];rfl,ae,[],bz,?_⟩;unfold Y5;rw[aG,if_neg (by decide),if_pos eB,v0k]
        exact S.drop)
     refine Q4<|Q3 (by kernel_rfl) ?_;have gJ: ¬ofI s a.v 5=0:=of_decide_eq_false hb;refine I1 rfl<|I1 rfl<|I1 rfl<|Ic [_,_,_,_] rfl rfl (C.mono (m75 (other:=ofI s a.v 5) (SH.sub1 S0 aj S 2 rfl) (by omega)) ?_);rintro v g ⟨bk,S2⟩;have S:=S.ret 2 rfl S2;refine⟨ag0,?_⟩;refine Q0<|Qf ?_
     exact Zr [(9,_)] (p:=(by
      have e:Zk s id a=(Yj s 6 id (ofI s a.v 5),0):=by unfold Zk;rw[if_neg (by omega),if_neg (by omega),if_neg (by omega),if_neg h267,if_pos ho]
      rw[e];refine⟨aG,?_,?_,rfl,bk,S⟩
      · unfold ZU;rw[aG,if_neg (by decide),if_neg (by omega),if_pos ho];exact decide_eq_false gJ
      unfold ZE;rw[aG,if_neg (by decide),if_neg (by omega)]))
   refine Q7<|Ie rfl rfl<|I2 rfl<|Q0<|Q2 rfl (fun hb=>?_) fun hb=>?_
   · skip
     refine Q5<|Q7 ?_;have ho:a.op=30:=of_decide_eq_true hb;obtain⟨w2,aC,aH,_,S⟩:=QH (A:=[_,_]) S;have S:SH h D (cR b1 (.cells (YD a sv) 202 0)::hpR ph s.H ae::mcL mb ph P V s w2) _:=S;obtain⟨la,lc,fM⟩:=Q6 (S.sl 9 rfl);refine I1 rfl<|I6 rfl<|I0 15 rfl<|I4 rfl (S.cel 2 rfl) rfl ?_;rw[fM];refine I7 rfl ?_;rw[<-fM];refine Ih rfl rfl<|Q0<|Q2 rfl (fun hb=>?_) fun hb=>?_
     · skip
       refine Q7 ?_;have hlf:1024<=s.log.length:=by simp at hb;omega
       obtain⟨bk,S⟩:=Qo (A:=[_,_]) S aC aH;have S:SH h D [cR b1 (.cells (YD a sv) 202 0),hpR ph s.H ae,mcR mb ph P V s tp bk] _:=S;refine I1 rfl<|Ic [_] rfl rfl (C.mono (m53 (SH.sub1 S0 aj S 2 rfl)) ?_);rintro v g ⟨rfl,bB,S2⟩;have S:=S.ret 2 rfl S2;refine⟨ag0,?_⟩;refine I2 rfl<|I2 rfl<|Q0<|Q8 ?_;refine⟨.inl rfl,_,rfl,?_⟩
       exact(by
        have eB:ZU P s a=false:=by unfold ZU;rw[aG,if_neg (by decide),if_neg (by omega),if_neg (by omega)]
        have eE:ZE P s a=11:=by unfold ZE;rw[aG,if_neg (by decide),if_pos ⟨ho,hlf⟩]
        refine⟨by rw[eB,eE];rfl,ae,[],bB,?_⟩;unfold Y5;rw[aG,if_neg (by decide),eB,if_neg (by decide),if_pos eE,v0k]
        exact S.drop)
     refine Q4<|Q7 ?_;have hlf: ¬1024<=s.log.length:=by simp at hb;omega
     obtain⟨bs20,S⟩:=Qo (A:=[_,_]) S aC aH;have S:SH h D [cR b1 (.cells (YD a sv) 202 0),hpR ph s.H ae,mcR mb ph P V s tp bs20] _:=S;refine I1 rfl<|I1 rfl<|I0 1 rfl<|I4 rfl (S.cel 0 rfl) rfl<|Ic [_,_,_,_,_,_] rfl rfl (C.mono (m76 (SH.sub1 S0 aj S 2 rfl) (by omega)) ?_);rintro v g ⟨bk,S2⟩;have S:=S.ret 2 rfl S2;obtain⟨w3,ez,dh,_,S⟩:=QH (A:=[_,_]) (S:SH h D ([cR b1 (.cells (YD a sv) 202 0),hpR ph s.H ae]++[mcR mb ph P V (Ji s id a.site 7 0 true) tp bk]) g);have S:SH h D (cR b1 (.cells (YD a sv) 202 0)::hpR ph s.H ae::mcL mb ph P V (Ji s id a.site 7 0 true) w3) g:=S;refine⟨ag0,?_⟩
     refine Q0<|I9<|I1 rfl<|I1 rfl<|I6 rfl<|I0 15 rfl<|I4 rfl (S.cel 2 rfl) rfl<|I0 3 rfl<|I4 rfl (S.cel 0 rfl) rfl ?_;refine Qc (e:=2) (z:=0) (zv:=.int .i64 0) [(0,_)] S gn rfl (by kernel_rfl) (by kernel_rfl) (by kernel_rfl) (by kernel_rfl) rfl (by rfl) fun b2 g bK S=>?_;refine QM (e:=2) (z:=0) (by':=7) 10 0 S el2 gn rfl rfl rfl rfl rfl rfl (by rfl) (by show(s.log.length+1)*(7+1)<=1099511627776;omega) (fun s' aa g S=>ag0) fun s' aa g S=>?_;refine I6 rfl<|I0 15 rfl ?_;have bZ:cellV s'=true:=(S.sl 10 rfl).cellV
     refine Qg 3 S gn rfl rfl bZ (by kernel_rfl) rfl (by decide) (by simp) (fun g S=>ag0) fun g S=>?_
     have S:SH h D ([cR b1 (.cells (YD a sv) 202 0),hpR ph s.H ae]++mcL mb ph P V {Ji s id a.site 7 0 true with log:=s.log++[a.v]} {w3 with lv:=s',lvb:=aa}) g:=by
      have S2:=S.drop;unfold mcL mcH;show SH h D (_::_::([_,_,_,_,_,_,_,slR 2 0 s' (isV (s.log++[a.v])) (s.log++[a.v]).length aa,_,_]++_)) g;rw[Q0Y,show(s.log++[a.v]).length=s.log.length+1 from v0j];exact S2
     refine Q0<|Qf ?_
     exact Zr [(9,_)] (p:=(by
      have e:Zk s id a=({Ji s id a.site 7 0 true with log:=s.log++[a.v]},0):=by unfold Zk;rw[if_neg (by omega),if_neg (by omega),if_neg (by omega),if_neg h267,if_neg (by omega),if_pos ho]
      rw[e];refine⟨aG,?_,?_,rfl,Qo (A:=[_,_]) (w:= {w3 with lv:=s',lvb:=aa}) S ez dh⟩
      · unfold ZU;rw[aG,if_neg (by decide),if_neg (by omega),if_neg (by omega)]
      unfold ZE;rw[aG,if_neg (by decide),if_neg (by omega)]))
   refine Q4<|Qf ?_
   exact Zr [(9,_)] (p:=(by
    have ho: ¬a.op=30:=of_decide_eq_false hb;have n9: ¬a.op=9:=of_decide_eq_false ‹decide (a.op=9)=false›;have n10: ¬a.op=10:=of_decide_eq_false ‹decide (a.op=10)=false›;have n25: ¬a.op=25:=of_decide_eq_false ‹decide (a.op=25)=false›;have n29: ¬a.op=29:=of_decide_eq_false ‹decide (a.op=29)=false›;have e:Zk s id a=(s,0):=by unfold Zk;rw[if_neg n9,if_neg n10,if_neg n25,if_neg h267,if_neg n29,if_neg ho]
    rw[e];refine⟨aG,?_,?_,rfl,bz,S⟩
    · unfold ZU;rw[aG,if_neg (by decide),if_neg n25,if_neg n29]
    unfold ZE;rw[aG,if_neg (by decide),if_neg (by omega)]))
 obtain⟨aG,eB,eE,rfl,bk,S⟩:=hJ;obtain⟨s2,aK⟩: ∃s2,s2=(Zk s id a).1:=⟨_,rfl⟩;obtain⟨eTh,eQ⟩:=Qd2 (s:=s) (id:=id) (a:=a);rw[<-aK]at S eTh eQ;obtain⟨w2,aC,aH,_,S⟩:=QH (A:=[_,_]) (S:SH h D ([cR b1 (.cells (YD a sv) 202 0),hpR ph s.H ae]++[mcR mb ph P V s2 tp bk]) hh);have S:SH h D (cR b1 (.cells (YD a sv) 202 0)::hpR ph s.H ae::mcL mb ph P V s2 w2) hh:=S
 obtain⟨v2,dT,hv2b⟩: ∃v2,w2.ths[(id -1).toNat]?=some v2/\v2.1=tb:=by
  rw[<-aH,v0D]at dF;cases e:w2.ths[(id -1).toNat]? with
  |none=>rw[e]at dF;cases dF
  |some v2=>rw[e]at dF;exact⟨v2,rfl,v0h.inj dF⟩
 have dx:(cR b1 (.cells (YD a sv) 202 0)::hpR ph s.H ae::mcL mb ph P V s2 w2)[(id -1).toNat+s2.Q.length+10+1+1]?=some (thR tb (pvL P V) (Zt s id) v2.2):=by
  have e:=Qg6 (mb:=mb) (ph:=ph) (P:=P) (V:=V) (T:=Zt s id) aC.1 (by rw[eTh];exact Jm h1 (by omega)) dT;rw[hv2b]at e;exact e
 have hT:=k.tok _ (v0m (Jm (s:=s) h1 (by omega)));refine Q7<|I1 rfl<|I1 rfl<|Ic [_,_] rfl rfl (C.mono (m97 (SH.sub1 S0 aj S _ dx) X0 hM hT) ?_);rintro v g ⟨rfl,fC,S2⟩;have S:=S.ret _ dx S2;have S:SH h D (cR b1 (.cells (YD a sv) 202 0)::hpR ph s.H ae::(mcL mb ph P V s2 w2).set ((id -1).toNat+s2.Q.length+10) (thR tb (pvL P V) (Q1t P (Zt s id) (Zk s id a).2) fC)) g:=S;rw[<-hv2b,Q6A fC aC.1 (by rw[eTh];omega) dT]at S;refine⟨ag0,?_⟩;refine QP<|I2 rfl<|I2 rfl<|Q0<|Q8 ?_;refine⟨.inl rfl,_,rfl,?_⟩
 exact(by
  have e:Y5 P s id a= {s2 with Th:=s2.Th.set (id -1).toNat (Q1t P (Zt s id) (Zk s id a).2)}:=by
   unfold Y5;rw[aG,if_neg (by decide),eB,if_neg (by decide),eE,if_neg (by decide),aK];rfl
  obtain⟨lA,S⟩:=Qo (A:=[_,_]) S ⟨aC.1,by show(w2.ths.set _ _).length=(s2.Th.set _ _).length;rw[v0q,v0q];exact aC.2⟩ ((Q9T dT).trans aH);refine⟨by rw[eB,eE];rfl,ae,[],lA,?_⟩
  rw[e,v0k];exact S.drop)
end
def stA (s:MS) (id:Int) (A:List MAcc):MS:= {s with M:=s.M++A.map fun x=>⟨3,id,0,x⟩}
def stT (s:MS) (id:Int) (a:MAsk) (T':MThr) (H':List MObj):MS:=stA {thS s id T' with H:=H'} id a.acc
def stD (P:Prg) (s:MS) (id:Int) (a:MAsk):MS:=if a.op=0 then s else Y5 P s id a
def stK (P:Prg) (s:MS) (T':MThr) (a:MAsk):Int:=if a.op=0 then T'.trap else if ZU P s a=true then 1 else T'.trap
def Q15 (s:MS) (id k:Int):MS:=Yj (trM (stM s id 3) id k) 2 id 0
def Q8T (P:Prg) (s:MS) (id:Int) (b:Bool) (e':Int) (s':MS):Prop:= ∃(a:MAsk) (e:Int) (T':MThr) (H':List MObj),StepP P (Zt s id) s.H a e T' H'/\
 ((e ≠0/\b=false/\e'=11/\s'= {thS s id T' with H:=H',full:=true})\/
  (e=0/\a.op≠0/\ZE P (stT s id a T' H') a≠0/\b=false/\e'=ZE P (stT s id a T' H') a/\s'=Y5 P (stT s id a T' H') id a)\/
  (e =0/\(a.op≠0->ZE P (stT s id a T' H') a=0)/\e'=0/\
   ((stK P (stT s id a T' H') T' a=0/\Yc (Zt (stD P (stT s id a T' H') id a) id)=false/\b=false/\s'=stD P (stT s id a T' H') id a)\/
    (¬(stK P (stT s id a T' H') T' a=0/\Yc (Zt (stD P (stT s id a T' H') id a) id)=false)/\b=true/\s'=Q15 (stD P (stT s id a T' H') id a) id (stK P (stT s id a T' H') T' a)))))
theorem Qbz (a:MAcc):(acV a).length=5:=rfl
theorem acC_at {l:List MAcc} {j:Nat} {o:MAcc} (rest:List Value) (h:l[j]?=some o):((acC l++rest).drop (j*5)).take 5=acV o:=Q6N acV 5 Qbz rest l j o h
theorem QfZ (l:List MAcc):(acC l).length=l.length*5:=Q2r acV 5 Qbz l
theorem Q97 {P:Prg} {s:MS} {id:Int} (k:MOk P s) (h1:1<=id) (h2:id<=s.T.length):Kl P (Zt s id):=k.tok _ (v0m (Jm h1 (by rw[k.th];exact h2)))
theorem QdA {P:Prg} {s:MS} {id:Int} {a:MAsk} {e:Int} {T':MThr} {H':List MObj} (k:MOk P s) (x:StepP P (Zt s id) s.H a e T' H') (hm:s.M.length<=99990):MOk P (stT s id a T' H') where
 h:=x.h
 k:=k.k
 k2:=k.k2
 e2:=k.e2
 e:=k.e
 q:=k.q
 r:=k.r
 t:=k.t
 th:=by show(s.Th.set _ _).length=_;rw[v0q];exact k.th
 g:=k.g
 lg:=k.lg
 m :=by
   show(s.M++List.map _ a.acc).length<=100000;rw[v0j,v0v];have:=x.acc;omega
 on:=k.on
 now:=k.now
 st:=k.st
 ql:=k.ql
 tok:=fun T hT=>by
  have hT:T∈s.Th.set (id -1).toNat T':=hT;rcases List.mem_or_eq_of_mem_set hT with h|h
  · exact k.tok T h
  rw[h];exact x.t
structure AskH (P:Prg) (a:MAsk):Prop where
 lo:mkO a.op=true->a.op≠28->0<=a.looper/\a.looper <P.loopers
 d:mkO a.op=true->a.op≠28->a.op≠24->0<=a.n/\a.n<=1000000000
 g:a.op=9\/a.op=10->0<=a.n/\a.n <P.globals
 e:decide (a.op∈([26,27]:List Int))=true->0<=a.n/\a.n <P.events.length
theorem ask_h {P:Prg} {F:Fun} {x:Ins} {R:List Int} (hi:Z0 P F x=true):AskH P (Q4u x R):=by
 have hn:=Q0h hi;unfold Q1f at hn;have eo:(Q4u x R).op=x.op:=rfl;have en:(Q4u x R).n=x.n:=rfl;have el:(Q4u x R).looper=if x.op=23\/x.op=24 then x.c else 0:=rfl
 refine⟨fun h1 h2=>?_,fun h1 h2 h3=>?_,fun h=>?_,fun h=>?_⟩
 · rw[eo]at h1 h2;have h1:x.op=23\/x.op=24\/x.op=28:=by simpa[mkO]using h1
   rw[el,if_pos (by omega)];rcases h1 with h|h|h
   · rw[if_neg (by omega),if_neg (by omega),if_neg (by omega),if_pos h]at hn;simp only[v0g]at hn;exact Z5.1 hn.1
   · rw[if_neg (by omega),if_neg (by omega),if_neg (by omega),if_neg (by omega),if_pos h]at hn;exact Z5.1 hn
   exact absurd h h2
 · rw[eo]at h1 h2 h3;have h1:x.op=23\/x.op=24\/x.op=28:=by simpa[mkO]using h1
   have h:x.op=23:=by omega
   rw[if_neg (by omega),if_neg (by omega),if_neg (by omega),if_pos h]at hn;simp only[v0g]at hn;have:=Z5.1 hn.2;rw[en];omega
 · rw[eo]at h;rw[if_pos h]at hn;exact Z5.1 hn
 rw[eo]at h;have h:x.op=26\/x.op=27:=by simpa using h
 rw[if_neg (by omega),if_neg (by omega),if_neg (by omega),if_neg (by omega),if_neg (by omega),if_pos h]at hn;exact Z5.1 hn
theorem Q4O {P:Prg} {T:MThr} {H H':List MObj} {a:MAsk} {e:Int} {T':MThr} (x:StepP P T H a e T' H') (hM:ZL P=true) (hT:Kl P T) (h0:a.op≠0):AskH P a:=by
 obtain⟨he,_,_,ha,_⟩:=x.ask h0
 have aW:Yc T=false:=by
  cases hh:Yc T with
  |false=>rfl
  |true=>exact absurd he (x.over hh)
 have hl:=Q1z aW;rw[ha];exact ask_h (Q7V hM (hT.2 _ (ZZ hl)))
theorem Q90 {w:MW} {tp:List Nat} {j tb:Nat} (bg:w.ths.map Prod.fst=tp) (h:tp[j]?=some tb): ∃v,w.ths[j]?=some v/\v.1=tb:=by
 rw[<-bg,v0D]at h;cases e:w.ths[j]? with
 |none=>rw[e]at h;cases h
 |some v=>rw[e]at h;exact⟨v,rfl,v0h.inj h⟩
theorem QbW {s:MS} {id:Int} {A:List MAcc} {i:Nat} (hi:i <A.length):mkC (stA s id (A.take (i+1))).M=mkC (stA s id (A.take i)).M++mkV ⟨3,id,0,A[i]⟩:=by
 unfold stA;show mkC (s.M++List.map _ (A.take (i+1)))=mkC (s.M++List.map _ (A.take i))++_;rw[v0Z,v0c hi,List.map_append,<-v0F,<-Q3V];rfl
theorem Q1S {s:MS} {id:Int} {A:List MAcc}:(stA s id A).M.length=s.M.length+A.length:=by
 unfold stA;show(s.M++List.map _ A).length=_;rw[v0j,v0v]
theorem QdO {P:Prg} {s:MS} {t:MTask} {c:List Int}:(Y9 P s t c).H=s.H:=by
 unfold Y9
 split<;>rfl
theorem canM_H {s:MS} {id z o:Int}:(Q2R s id z o).H=s.H:=by
 unfold Q2R
 split<;>rfl
theorem Qfj {s:MS} {id:Int} {a:MAsk}:(Jk s id a).H=s.H:=by
 unfold Jk
 split<;>rfl
theorem Qfo {s:MS} {id:Int} {a:MAsk}:(Zk s id a).1.H=s.H:=by
 unfold Zk
 split;rfl
 split;rfl
 split;exact canM_H
 split;exact Qfj
 split;rfl
 split;rfl
 rfl
theorem mdS_H {P:Prg} {s:MS} {id:Int} {a:MAsk}:(mdS P s id a).H=s.H:=by
 unfold mdS
 split
 · split
   · rfl
   exact QdO
 rfl
theorem Q6V {P:Prg} {s:MS} {id:Int} {a:MAsk}:(Y5 P s id a).H=s.H:=by
 unfold Y5
 split
 · exact mdS_H
 split
 · rfl
 split
 · rfl
 exact Qfo
def Few (s s':MS):Prop:=s.T.length<=s'.T.length/\s'.M.length<=s.M.length+2
theorem stM_few {s:MS} {id k:Int}:(stM s id k).T.length=s.T.length:=v0l ..
theorem Qda {s:MS} {id z o:Int}:Few s (Q2R s id z o):=by
 unfold Q2R
 split
 · exact⟨Nat.le_of_eq stM_few.symm,by show(s.M++[_]).length<=_;simp⟩
 exact⟨v0b _,by show(s.M++[_]).length<=_;simp⟩
theorem QaP {s:MS} {id:Int} {a:MAsk}:Few s (Jk s id a):=by
 unfold Jk
 split
 · exact⟨v0b _,by show((s.M++[_])++[_]).length<=_;simp⟩
 exact⟨v0b _,by show(s.M++[_]).length<=_;simp⟩
theorem Qb8 {s:MS} {id:Int} {a:MAsk}:Few s (Zk s id a).1:=by
 unfold Zk
 split;exact⟨v0b _,by show(s.M++[_]).length<=_;simp⟩
 split;exact⟨v0b _,by show(s.M++[_]).length<=_;simp⟩
 split;exact Qda
 split;exact QaP
 split;exact⟨v0b _,by show(s.M++[_]).length<=_;simp⟩
 split;exact⟨v0b _,by show(s.M++[_]).length<=_;simp⟩
 exact⟨v0b _,by show s.M.length<=_;omega⟩
theorem QeO {P:Prg} {s:MS} {id:Int} {a:MAsk}:Few s (mdS P s id a):=by
 unfold mdS
 split
 · split
   · exact⟨v0b _,by show s.M.length<=_;omega⟩
   rename_i h;refine⟨?_,?_⟩
   · show s.T.length<=(Y9 P s _ _).T.length;unfold Y9;rw[if_neg h];show s.T.length<=(s.T++[_]).length;simp
   show((Y9 P s _ _).M++[_]).length<=_;unfold Y9;rw[if_neg h];show(s.M++[_]).length<=_;simp
 exact⟨v0b _,by show s.M.length<=_;omega⟩
theorem Q2z {P:Prg} {s:MS} {id:Int} {a:MAsk}:Few s (Y5 P s id a):=by
 unfold Y5
 split
 · exact QeO
 split
 · exact⟨v0b _,by show s.M.length<=_;omega⟩
 split
 · exact⟨v0b _,by show s.M.length<=_;omega⟩
 exact Qb8
theorem Q65 {P:Prg} {s:MS} {id:Int} {a:MAsk}:Few s (stD P s id a):=by
 unfold stD
 split
 · exact⟨v0b _,by omega⟩
 exact Q2z
section
variable {h0 h:Hp} {P:Prg} {V:PrV} {mb ph:Nat} {s:MS} {ae tp bs:List Nat}
theorem m56 {id:Int} (S0:SH h0 [] [hpR ph s.H ae,mcR mb ph P V s tp bs] h) (X0:Q1m h0 P V) (hM:ZL P=true) (k:MOk P s) (h1:1<=id) (h2:id<=s.T.length) (hm:s.M.length<=99970)
 (hw: ∀n:Int,1<=n->n<=s.T.length->(ZA s n).kind=4->0<=(ZA s n).looper/\(ZA s n).looper <P.loopers):C modE 61 [Qk mb,iV id] h fun v g'=> ∃(b:Bool) (e:Int) (s':MS) (ah tl aa:List Nat),v=.tuple #[.bool b,iV e]/\Q8T P s id b e s'/\SH h (owns [hpR ph s.H ae,mcR mb ph P V s tp bs]) [hpR ph s'.H ah,mcR mb ph P V s' (tp++tl) aa] g':=by
 have SE:=S0.enterL;obtain⟨D,hD⟩: ∃D,D=owns [hpR ph s.H ae,mcR mb ph P V s tp bs]:=⟨_,rfl⟩;have aj: ∀i,i∈D->h0.n<=i:=by rw[hD];exact S0.own0L
 rw[<-hD]at SE ⊢;have hk:=k.t;have e9:=k.th;obtain⟨w,jM,bg,_,SE⟩:=QH (A:=[_]) SE;have SE:SH h D (hpR ph s.H ae::mcL mb ph P V s w) h:=SE;obtain⟨pb,pc,pcs,pm,pv,fY,jo,bM,aF,di⟩:=QbN (s:=s) (w:=w) (id:=id) (SE.sl 6 rfl) jM.2 h1 (by omega);obtain⟨tb,ff⟩: ∃tb,tb=pv.1:=⟨_,rfl⟩;have dF:tp[(id -1).toNat]?=some tb:=by rw[<-bg,v0D,aF,ff];rfl
 have hT:=Q97 k h1 h2;have dx:=Qg6 (mb:=mb) (ph:=ph) (P:=P) (V:=V) jM.1 (Jm (s:=s) h1 (by omega)) aF;rw[<-ff]at di dx;obtain⟨kb,kc,kcs,km,hkv,hkg,hkat⟩:=Q1L (SE.sl 5 rfl) h1 h2;refine Q9 (fu:=Tryz.f61) (by kernel_rfl) rfl ?_;have S:=SE;refine Q7<|I2 rfl<|I2 rfl<|QP<|I1 rfl<|I6 rfl<|I0 13 rfl<|I4 rfl (S.cel 1 rfl) rfl<|I1 rfl<|Iso rfl rfl ?_;rw[fY];refine I5o 1 rfl rfl ?_;rw[<-fY];refine I4 rfl jo di<|I2 rfl<|Q0<|Q5 ?_
 refine Yq [(0,[]),(1,[]),(2,[]),(3,[]),(4,[]),(5,[]),(6,[]),(7,[]),(8,[]),(9,[]),(10,[]),(11,[]),(12,[]),(13,[]),(14,[]),(19,[]),(15,[]),(16,[]),(17,[]),(18,[]),(20,[]),(21,[])] (by kernel_rfl) (by kernel_rfl) (by kernel_rfl) (by kernel_rfl)<|I1 rfl<|I1 rfl<|I6 rfl<|I0 8 rfl<|I4 rfl (S.cel 1 rfl) rfl<|I1 rfl<|I1 rfl<|I6 rfl<|I0 12 rfl<|I4 rfl (S.cel 1 rfl) rfl<|I1 rfl<|Iso rfl rfl ?_;rw[hkv];refine I5o 15 rfl rfl ?_;rw[<-hkv];refine I0 10 rfl<|I4 rfl hkg (hkat 10 _ (by decide) rfl) ?_
 refine Qx (zv:=.agg #[iV 0,iV 0,iV 0,iV 0,iV 0,.slice none 0 0]) S gn rfl (by kernel_rfl) fun b1 g aJ S=>?_;obtain⟨E,hE⟩: ∃E,E=(mcL mb ph P V s w).eraseIdx ((id -1).toNat+s.Q.length+10):=⟨_,rfl⟩;have So:=SH.outAt (SH.comm (A:=[_,_]) (B:=mcL mb ph P V s w) S) dx;rw[<-hE]at So;have So:=SH.comm (A:=[_]) (SH.comm (A:=thR tb (pvL P V) (Zt s id) pv.2::E) (B:=[_,hpR ph s.H ae]) So);refine Ic [_,_,_,_] rfl rfl (C.mono (m77 (SH.subL (A:=[hpR ph s.H ae,thR tb (pvL P V) (Zt s id) pv.2]) (B:=E++[_]) S0 aj So) X0 hM hT k.h) ?_);rintro v g ⟨a,e,sv,ab,T',H',bz,dq,rfl,hP,S2⟩;have S:=SH.retL (A:=[_,_]) So S2
 have S:=SH.comm (A:=[_,_]) (B:=thR tb (pvL P V) T' bz::(E++[_])) S;have S:SH h D (thR tb (pvL P V) T' bz::((E++[cR b1 (.cells [iV 0,iV 0,iV 0,iV 0,iV 0,.slice none 0 0] 202 0)])++[slR 66 4 sv (acC a.acc) a.acc.length ab,hpR ph H' dq])) g:=S;rw[v0F,hE]at S;have S:=SH.inAt S (v0y.1 dx).1;rw[ff,Q6A bz jM.1 (by omega) aF]at S;have S:=SH.comm S;obtain⟨sa,sc,rfl⟩:=Q6 (S.sl 1 rfl);obtain⟨s1,aY⟩: ∃s1,s1= {thS s id T' with H:=H'}:=⟨_,rfl⟩
 obtain⟨w1,cp,ji,S⟩: ∃w1:MW,(w1.qs.length=s1.Q.length/\w1.ths.length=s1.Th.length)/\w1.ths.map Prod.fst=tp/\SH h D (cR b1 (.cells [iV 0,iV 0,iV 0,iV 0,iV 0,.slice none 0 0] 202 0)::slR 66 4 (.slice sa a.acc.length sc) (acC a.acc) a.acc.length ab::hpR ph H' dq::mcL mb ph P V s1 w1) g:=⟨{w with ths:=w.ths.set (id -1).toNat (pv.1,bz)},by
  rw[aY]
  exact⟨jM.1,by show(w.ths.set _ _).length=(s.Th.set _ _).length;rw[v0q,v0q];exact jM.2⟩,(Q9T aF).trans bg,by rw[aY];exact S⟩
 refine⟨ag0,?_⟩;refine I1 rfl<|Ix rfl rfl<|Ix rfl rfl ?_;refine Qi (n:=6) 0 S gn rfl rfl rfl (by kernel_rfl) rfl rfl (by decide) rfl (fun g S=>ag0) fun g S=>?_;have S:SH h D (cR b1 (.cells (YD a (.slice sa a.acc.length sc)) 202 0)::slR 66 4 (.slice sa a.acc.length sc) (acC a.acc) a.acc.length ab::hpR ph H' dq::mcL mb ph P V s1 w1) g:=S;have hs1M:s1.M=s.M:=by rw[aY];rfl
 have hs1Th:s1.Th=s.Th.set (id -1).toNat T':=by rw[aY];rfl
 have hs1T:s1.T=s.T:=by rw[aY];rfl
 have hs1H:s1.H=H':=by rw[aY]
 have eA1:Zt s1 id=T':=by
  unfold Zt;rw[hs1Th,List.getElem?_set_self (by omega)];rfl
 have eL1:s1.Th.length=s.T.length:=by rw[hs1Th,v0q,e9]
 refine I2 rfl<|Z8<|I1 rfl<|In rfl rfl<|Q0<|Q2 rfl (fun hb=>?_) fun hb=>?_
 · skip
   refine Q7 ?_;have ao:e≠0:=by simpa using hb
   obtain⟨bk,S⟩:=Qo (A:=[_,_,_]) S cp ji;have S:SH h D [cR b1 (.cells (YD a (.slice sa a.acc.length sc)) 202 0),slR 66 4 (.slice sa a.acc.length sc) (acC a.acc) a.acc.length ab,hpR ph H' dq,mcR mb ph P V s1 tp bk] _:=S;refine I1 rfl<|Ic [_] rfl rfl (C.mono (m53 (SH.sub1 S0 aj S 3 rfl)) ?_);rintro v g ⟨rfl,bB,S2⟩;have S:=S.ret 3 rfl S2;refine⟨ag0,?_⟩;refine I2 rfl<|I2 rfl<|Q0<|Q8 ?_;refine⟨.inl rfl,_,rfl,?_⟩
   exact(by
    refine⟨false,11,{s1 with full:=true},dq,[],bB,rfl,⟨a,e,T',H',hP,.inl ⟨ao,rfl,rfl,by rw[aY]⟩⟩,?_⟩;rw[v0k];show SH h D [hpR ph s1.H dq,_] _
    rw[hs1H];exact S.drop.drop)
 refine Q4<|Q5<|Q7 ?_;have lW:e=0:=by simpa using hb
 have hac:=hP.acc;refine I2 rfl<|Q0<|Qb<|QB [(9,_)] [(0,_),(1,_),(6,_),(7,_)] (fun kk lv hh=> ∃(i:Nat) (w2:MW),lv=[(9,iV i)]/\kk=a.acc.length -i/\i<=a.acc.length/\(w2.qs.length=s1.Q.length/\w2.ths.length=s1.Th.length)/\w2.ths.map Prod.fst=tp/\SH h D (cR b1 (.cells (YD a (.slice sa a.acc.length sc)) 202 0)::slR 66 4 (.slice sa a.acc.length sc) (acC a.acc) a.acc.length ab::hpR ph H' dq::mcL mb ph P V (stA s1 id (a.acc.take i)) w2) hh) (n:=a.acc.length) ?_ fun kk lv hh hI=>?_
 · exact⟨0,w1,rfl,rfl,v0s _,cp,ji,by
   have e:stA s1 id (a.acc.take 0)=s1:=by unfold stA;simp
   rw[e];exact S⟩
 obtain⟨i,w2,rfl,iS,aD,aC,aH,S⟩:=hI;refine Q5<|Q7<|I1 rfl<|I0 5 rfl<|I4 rfl (S.cel 0 rfl) rfl<|I7 rfl<|Il rfl rfl<|Q0<|Q2 rfl (fun hb=>?_) fun hb=>?_
 · skip
   refine Q4 ?_;have aD:i <a.acc.length:=by simp at hb;omega
   obtain⟨gP,am,ac2,ar,hav,oq,_⟩:=(S.sl 1 rfl).at (by omega)
   have kac:((acC a.acc++ar).drop (0+v0f (i:Int)*5)).take 5=acV (a.acc[i]):=by
    rw[v0i,v0e];exact acC_at ar (v0c aD)
   have hal:0+v0f (i:Int)*5+5<=(acC a.acc++ar).length:=by
    rw[v0i,v0j,QfZ];omega
   have bE:(stA s1 id (a.acc.take i)).M.length<=99980:=by rw[Q1S,hs1M,v0E];omega
   refine Q5<|Qb<|I9<|I1 rfl<|I1 rfl<|I6 rfl<|I0 16 rfl<|I4 rfl (S.cel 3 rfl) rfl<|I1 rfl<|I0 5 rfl<|I4 rfl (S.cel 0 rfl) rfl<|I1 rfl ?_;rw[hav];refine I5o 5 rfl rfl ?_;rw[<-hav];refine I3 5 rfl oq hal ?_;rw[kac];refine Qq (cs:=(mkV ⟨3,id,0,a.acc[i]⟩).toArray) (zv:=.agg #[iV 0,iV 0,iV 0,iV 0,iV 0,iV 0,iV 0,.bool false]) (pl:=[(0,1),(1,1),(2,1),(3,5)]) [(0,_),(1,_),(3,_)] gn rfl (by kernel_rfl) (by kernel_rfl) rfl (by kernel_rfl) ?_
   refine Qc (cs:=(mkV ⟨3,id,0,a.acc[i]⟩).toArray) (e:=68) (z:=7) (zv:=.agg #[iV 0,iV 0,iV 0,iV 0,iV 0,iV 0,iV 0,.bool false]) [(0,_)] S gn rfl (by kernel_rfl) (by kernel_rfl) (by kernel_rfl) (by kernel_rfl) rfl (by kernel_rfl) fun b2 g bK S=>?_;refine QM (e:=68) (z:=7) (by':=63) 12 0 S el36 gn rfl rfl rfl rfl rfl rfl (by rfl) (by omega) (fun s' aa g S=>ag0) fun s' aa g S=>?_;refine I6 rfl<|I0 16 rfl ?_;have bZ:cellV s'=true:=(S.sl 12 rfl).cellV;refine Qg 4 S gn rfl rfl bZ (by kernel_rfl) rfl (by decide) (by simp) (fun g S=>ag0) fun g S=>?_;refine Q0<|Q3 (by kernel_rfl)<|I1 rfl<|Iao rfl rfl ?_
   refine I2 rfl<|Q0 ?_
   exact K3 (a.acc.length - (i+1)) [(9,_)] (p:=⟨i+1,{w2 with mv:=s',mvb:=aa},rfl,rfl,by omega,aC,aH,by
    have S2:=S.drop
    have e2:(stA s1 id (a.acc.take (i+1))).M.length=(stA s1 id (a.acc.take i)).M.length+1:=by
     rw[Q1S,Q1S,v0E,v0E];omega
    unfold mcL mcH
    rw[QbW aD,e2];exact S2⟩)
 refine QF<|Qh<|Qn<|QE ?_;obtain rfl:i=a.acc.length:=by simp at hb;omega
 obtain⟨s2,aK⟩: ∃s2,s2=stT s id a T' H':=⟨_,rfl⟩;have e12:stA s1 id (a.acc.take a.acc.length)=s2:=by rw[List.take_length,aK,aY];rfl
 rw[e12]at S;have k2:MOk P s2:=by rw[aK];exact QdA k hP (by omega)
 have hs2Th:s2.Th=s1.Th:=by rw[<-e12];rfl
 have hs2T:s2.T=s.T:=by rw[<-e12];exact hs1T
 have hs2H:s2.H=H':=by rw[<-e12];exact hs1H
 have hs2M:s2.M.length<=99975:=by rw[<-e12,Q1S,hs1M,v0E];omega
 have eA2:Zt s2 id=T':=by rw[<-eA1];unfold Zt;rw[hs2Th]
 have eK2: ∀n,ZA s2 n=ZA s n:=fun n=>by unfold ZA;rw[hs2T]
 have aC:w2.qs.length=s2.Q.length/\w2.ths.length=s2.Th.length:=by rw[<-e12];exact aC
 obtain⟨v2,dT,hv2b⟩:=Q90 aH dF
 have hpq2:(cR b1 (.cells (YD a (.slice sa a.acc.length sc)) 202 0)::slR 66 4 (.slice sa a.acc.length sc) (acC a.acc) a.acc.length ab::hpR ph H' dq::mcL mb ph P V s2 w2)[(id -1).toNat+s2.Q.length+10+1+1+1]?=some (thR tb (pvL P V) T' v2.2):=by
  have e:=Qg6 (mb:=mb) (ph:=ph) (P:=P) (V:=V) (T:=T') aC.1 (by rw[<-eA2];exact Jm h1 (by rw[hs2Th,eL1];exact h2)) dT;rw[hv2b]at e;exact e
 obtain⟨ta,tc,tw,htw,_,hq,cM,_⟩:=Q1P (S.held _ hpq2);refine Q7<|I1 rfl<|I6 rfl<|I0 9 rfl<|I4 rfl hq rfl<|I2 rfl<|Q0 ?_;obtain⟨fD,S⟩:=Qo (A:=[_,_,_]) S aC aH;have S:SH h D [cR b1 (.cells (YD a (.slice sa a.acc.length sc)) 202 0),slR 66 4 (.slice sa a.acc.length sc) (acC a.acc) a.acc.length ab,hpR ph H' dq,mcR mb ph P V s2 tp fD] _:=S;rw[<-hs2H]at S
 refine ZF [(0,Qk mb),(1,iV id),(6,Qk tb)] (fun lv hh=>lv=[(10,iV (stK P s2 T' a))]/\(a.op≠0->ZE P s2 a=0)/\ ∃ah tl aa,SH h D [cR b1 (.cells (YD a (.slice sa a.acc.length sc)) 202 0),slR 66 4 (.slice sa a.acc.length sc) (acC a.acc) a.acc.length ab,hpR ph (stD P s2 id a).H ah,mcR mb ph P V (stD P s2 id a) (tp++tl) aa] hh) ?_ fun lv hh hJ=>?_
 · skip
   refine Q7<|I0 0 rfl<|I4 rfl (S.cel 0 rfl) rfl<|In rfl rfl<|Q0<|Q2 rfl (fun hb=>?_) fun hb=>?_
   · skip
     refine Q7 ?_;have dj:a.op≠0:=by simpa using hb
     have hA:=Q4O hP hM hT dj;have Sd:=SH.comm (A:=[_,_]) S;refine I1 rfl<|I1 rfl<|I3 6 rfl (S.cel 0 rfl) (v0b _) ?_;refine QZ [_,_,_] gn rfl rfl (by kernel_rfl) rfl (C.mono (m78 (SH.subL (A:=[_,_]) S0 aj Sd) X0 hM k2 h1 (by rw[hs2T];exact h2) (by omega) rfl hA.lo hA.d hA.g hA.e (fun n n1 n2 n3=>by rw[eK2]at n3 ⊢;rw[hs2T]at n2;exact hw n n1 n2 n3)) ?_);rintro v g ⟨rfl,aM,tl,fC,S2⟩;have S:=SH.comm (B:=[_,_]) (SH.retL (A:=[_,_]) Sd S2);refine⟨ag0,?_⟩;refine I1 rfl<|Ix rfl rfl<|Ix rfl rfl<|I2 rfl<|I2 rfl<|Z8<|I1 rfl<|In rfl rfl<|Q0 ?_
     refine Q2 rfl (fun hb=>?_) fun hb=>?_
     · skip
       refine Q7<|I1 rfl<|I2 rfl<|I2 rfl<|Q0<|Q8 ?_;refine⟨.inl rfl,_,rfl,?_⟩
       exact(by
        have jB:ZE P s2 a≠0:=by simpa using hb
        refine⟨false,ZE P s2 a,Y5 P s2 id a,aM,tl,fC,rfl,⟨a,e,T',H',hP,.inr (.inl ⟨lW,dj,by rw[<-aK];exact jB,rfl,by rw[<-aK],by rw[<-aK]⟩)⟩,?_⟩;have eH:(Y5 P s2 id a).H=s2.H:=Q6V
        rw[eH];exact S.drop.drop)
     refine Q4<|Q7 ?_;have jB:ZE P s2 a=0:=by simpa using hb
     refine I1 rfl<|Q0<|Q2 rfl (fun hb=>?_) fun hb=>?_
     · skip
       refine Q3 (by kernel_rfl)<|I2 rfl<|Q0 ?_
       exact Zr [(10,_)] (p:=(by
        have eK:stK P s2 T' a=1:=by unfold stK;rw[if_neg dj,if_pos (show ZU P s2 a=true from hb)]
        have eD:stD P s2 id a=Y5 P s2 id a:=by unfold stD;rw[if_neg dj]
        rw[eK,eD,Q6V]
        exact⟨rfl,fun _=>jB,aM,tl,fC,S⟩))
     refine Q4 ?_
     exact Zr [(10,_)] (p:=(by
      have eK:stK P s2 T' a=T'.trap:=by unfold stK;rw[if_neg dj,if_neg (by rw[show ZU P s2 a=false from hb];decide)]
      have eD:stD P s2 id a=Y5 P s2 id a:=by unfold stD;rw[if_neg dj]
      rw[eK,eD,Q6V]
      exact⟨rfl,fun _=>jB,aM,tl,fC,S⟩))
   refine Q4 ?_
   exact Zr [(10,_)] (p:=(by
    have dj:a.op=0:=by simpa using hb
    have eK:stK P s2 T' a=T'.trap:=by unfold stK;rw[if_pos dj]
    have eD:stD P s2 id a=s2:=by unfold stD;rw[if_pos dj]
    rw[eK,eD]
    exact⟨rfl,fun h=>absurd dj h,dq,[],fD,by rw[v0k];exact S⟩))
 obtain⟨rfl,jB,aM,tl,fC,S⟩:=hJ;obtain⟨s3,dM⟩: ∃s3,s3=stD P s2 id a:=⟨_,rfl⟩;obtain⟨K,hK⟩: ∃K,K=stK P s2 T' a:=⟨_,rfl⟩;have nI:Few s2 s3:=by rw[dM];exact Q65
 rw[<-dM]at S;rw[<-hK];obtain⟨w3,ez,dh,_,S⟩:=QH (A:=[_,_,_]) (S:SH h D ([cR b1 (.cells (YD a (.slice sa a.acc.length sc)) 202 0),slR 66 4 (.slice sa a.acc.length sc) (acC a.acc) a.acc.length ab,hpR ph s3.H aM]++[mcR mb ph P V s3 (tp++tl) fC]) hh);have S:SH h D (cR b1 (.cells (YD a (.slice sa a.acc.length sc)) 202 0)::slR 66 4 (.slice sa a.acc.length sc) (acC a.acc) a.acc.length ab::hpR ph s3.H aM::mcL mb ph P V s3 w3) hh:=S
 have mE:(tp++tl)[(id -1).toNat]?=some tb:=by
  rw[v0z (v0y.1 dF).1];exact dF
 obtain⟨v3,lH,hv3b⟩:=Q90 dh mE
 have lS:id<=s3.Th.length:=by
  have:=(v0y.1 lH).1;rw[<-ez.2];omega
 have h23:id<=s3.T.length:=by have:=nI.1;rw[hs2T]at this;omega
 have hpq3:(cR b1 (.cells (YD a (.slice sa a.acc.length sc)) 202 0)::slR 66 4 (.slice sa a.acc.length sc) (acC a.acc) a.acc.length ab::hpR ph s3.H aM::mcL mb ph P V s3 w3)[(id -1).toNat+s3.Q.length+10+1+1+1]?=some (thR tb (pvL P V) (Zt s3 id) v3.2):=by
  have e:=Qg6 (mb:=mb) (ph:=ph) (P:=P) (V:=V) ez.1 (Jm (s:=s3) h1 lS) lH;rw[hv3b]at e;exact e
 refine Q5<|Q7<|I1 rfl<|Ie rfl rfl<|I1 rfl ?_
 refine QY (n:=3) rfl rfl rfl gn rfl (fun hb=>by
  refine D1 hb rfl<|Dc hb [_] rfl rfl (Ql (m79 (S.held _ hpq3)) ⟨ag0,?_⟩);refine Db hb rfl ?_
  exact Q0 ⟨rfl,rfl,3,rfl,rfl⟩) ?_
 refine Q0<|Q2 rfl (fun hb=>?_) fun hb=>?_
 · skip
   refine Q7<|I2 rfl<|I2 rfl<|Q0<|Q8 ?_;refine⟨.inl rfl,_,rfl,?_⟩
   exact(by
    obtain⟨lA,S⟩:=Qo (A:=[_,_,_]) S ez dh;have hc:K=0/\Yc (Zt s3 id)=false:=by simpa using hb
    refine⟨false,0,s3,aM,tl,lA,rfl,⟨a,e,T',H',hP,.inr (.inr ⟨lW,by rw[<-aK];exact jB,rfl,.inl ⟨by rw[<-aK,<-hK];exact hc.1,by rw[<-aK,<-dM];exact hc.2,rfl,by rw[<-aK,<-dM]⟩⟩)⟩,?_⟩
    exact SH.drop (SH.drop S))
 refine Q4<|Q7 ?_
 have ib: ¬(K=0/\Yc (Zt s3 id)=false):=by
  rintro⟨c1,c2⟩;simp[c1,c2]at hb
 obtain⟨jb,jc,jcs,jm,hjv,hjg,hjat⟩:=Q1L (S.sl 7 rfl) h1 h23;refine I1 rfl<|I6 rfl<|I0 12 rfl<|I4 rfl (S.cel 3 rfl) rfl<|I1 rfl<|Iso rfl rfl ?_;rw[hjv];refine I5o 15 rfl rfl ?_;rw[<-hjv];refine I0 11 rfl<|Zm 7 S gn rfl rfl rfl (by kernel_rfl) rfl hjv (by rw[Q1N];omega) (fun g S=>ag0) fun g S=>?_;have S:SH h D (cR b1 (.cells (YD a (.slice sa a.acc.length sc)) 202 0)::slR 66 4 (.slice sa a.acc.length sc) (acC a.acc) a.acc.length ab::hpR ph s3.H aM::(mcL mb ph P V s3 w3).set 4 (slR 85 14 w3.tv ((tkC s3.T).set (0+v0f (id -1)*15+11) (iV 3)) s3.T.length w3.tvb)) g:=S;rw[QeP h1 h23]at S
 obtain⟨s4,lI⟩: ∃s4,s4=stM s3 id 3:=⟨_,rfl⟩;rw[<-lI]at S;have hl4:s4.T.length=s3.T.length:=by rw[lI];exact stM_few
 have h24:id<=s4.T.length:=by omega
 obtain⟨jb4,jc4,jcs4,jm4,kY,hjg4,hjat4⟩:=Q1L (s:=s4) (S.sl 7 rfl) h1 h24;refine QP<|I1 rfl<|I6 rfl<|I0 12 rfl<|I4 rfl (S.cel 3 rfl) rfl<|I1 rfl<|Iso rfl rfl<|I1 rfl ?_;rw[kY];refine I5o 15 rfl rfl ?_;rw[<-kY];refine I0 12 rfl<|Zm 7 S gn rfl rfl rfl (by kernel_rfl) rfl kY (by rw[Q1N];omega) (fun g S=>ag0) fun g S=>?_
 have S:SH h D (cR b1 (.cells (YD a (.slice sa a.acc.length sc)) 202 0)::slR 66 4 (.slice sa a.acc.length sc) (acC a.acc) a.acc.length ab::hpR ph s3.H aM::(mcL mb ph P V s4 w3).set 4 (slR 85 14 w3.tv ((tkC s4.T).set (0+v0f (id -1)*15+12) (iV K)) s4.T.length w3.tvb)) g:=S;rw[mc_tr h1 h24]at S;obtain⟨lA,S⟩:=Qo (A:=[_,_,_]) S (by rw[lI];exact ez) dh;have S:SH h D [cR b1 (.cells (YD a (.slice sa a.acc.length sc)) 202 0),slR 66 4 (.slice sa a.acc.length sc) (acC a.acc) a.acc.length ab,hpR ph s3.H aM,mcR mb ph P V (trM s4 id K) (tp++tl) lA] _:=S;refine QP<|I1 rfl<|I1 rfl ?_
 refine QZ [_,_,_,_] gn rfl rfl (by kernel_rfl) rfl (C.mono (m75 (SH.sub1 S0 aj S 3 rfl) (by rw[lI];show s3.M.length<=100000;have:=nI.2;omega)) ?_);rintro v g ⟨bs7,S2⟩;have S:=S.ret 3 rfl S2;refine⟨ag0,?_⟩;refine QP<|I2 rfl<|I2 rfl<|Q0<|Q8 ?_;refine⟨.inl rfl,_,rfl,?_⟩
 exact(by
  refine⟨true,0,Q15 s3 id K,aM,tl,bs7,rfl,⟨a,e,T',H',hP,.inr (.inr ⟨lW,by rw[<-aK];exact jB,rfl,.inr ⟨by rw[<-aK,<-hK,<-dM];exact ib,rfl,by rw[<-aK,<-hK,<-dM]⟩⟩)⟩,?_⟩;unfold Q15;rw[<-lI];have eH:(Yj (trM s4 id K) 2 id 0).H=s3.H:=by rw[lI];rfl
  rw[eH]
  exact SH.drop (SH.drop S))
end
structure RunH (P:Prg) (s:MS):Prop where
 k:MOk P s
 po: ∀n:Int,1<=n->n<=s.T.length->(ZA s n).kind=4->0<=(ZA s n).looper/\(ZA s n).looper <P.loopers
 ov:s.full=false-> ∀id,Q1q s id=true->Yc (Zt s id)=false
 it: ∀L,L∈s.Q-> ∀x,x∈L->1<=x.task/\x.task<=s.T.length
 ru: ∀r,r∈s.runs->0<=r/\r<=s.T.length
def upS (s:MS):MS:= {s with steps:=s.steps+1}
def Q8J (s:MS):MS:= {s with full:=true}
def WorkG (P:Prg) (s:MS) (id:Int):Prop:=1<=id/\id<=s.T.length/\(ZA s id).looper <0/\(ZA s id).state≠3/\Jj P s id=0
def Qg0 (P:Prg) (s:MS) (id:Int) (e:Int) (s':MS):Prop:=
 (s.full=true/\e=11/\s'=s)\/(e=10/\s'=s)\/(e=11/\s'=Q8J s)\/
 (s.full=false/\WorkG P s id/\s.steps <20000/\(((ZA s id).state=1/\e=0/\s'=JX (upS s) id)\/((ZA s id).state≠1/\ ∃b,Q8T P (upS s) id b e s')))
theorem Q9U {P:Prg} {s:MS} (k:MOk P s) (h:s.steps <20000):MOk P (upS s):=
 ⟨k.h,k.k,k.k2,k.e2,k.e,k.q,k.r,k.t,k.th,k.g,k.lg,k.m,k.on,k.now,⟨by have:=k.st.1;show 0<=s.steps+1;omega,by show s.steps+1<=20000;omega⟩,k.ql,k.tok⟩
section
variable {h0 h:Hp} {P:Prg} {V:PrV} {mb ph:Nat} {s:MS} {ae tp bs:List Nat}
theorem m28 {id:Int} (S0:SH h0 [] [hpR ph s.H ae,mcR mb ph P V s tp bs] h) (X0:Q1m h0 P V) (hM:ZL P=true) (R:RunH P s) (hm:s.M.length<=99960):C modE 24 [Qk mb,iV id] h fun v g'=> ∃(e:Int) (s':MS) (ah tl aa:List Nat),v=iV e/\Qg0 P s id e s'/\SH h (owns [hpR ph s.H ae,mcR mb ph P V s tp bs]) [hpR ph s'.H ah,mcR mb ph P V s' (tp++tl) aa] g':=by
 have SE:=S0.enterL;obtain⟨D,hD⟩: ∃D,D=owns [hpR ph s.H ae,mcR mb ph P V s tp bs]:=⟨_,rfl⟩;have aj: ∀i,i∈D->h0.n<=i:=by rw[hD];exact S0.own0L
 rw[<-hD]at SE ⊢;have k:=R.k;have hk:=k.t;have av:=k.st;obtain⟨w,hw,bg,_,SE⟩:=QH (A:=[_]) SE;have SE:SH h D (hpR ph s.H ae::mcL mb ph P V s w) h:=SE;obtain⟨ta,tc0,dg⟩:=Q6 (SE.sl 5 rfl);have back: ∀g,SH h D (hpR ph s.H ae::mcL mb ph P V s w) g-> ∃aa,SH h D [hpR ph s.H ae,mcR mb ph P V s tp aa] g:=fun g S=>Qo (A:=[_]) S hw bg;refine Q9 (fu:=Tryz.f24) (by kernel_rfl) rfl ?_;have S:=SE;refine Q7<|I2 rfl<|Z8<|I1 rfl<|I6 rfl<|I0 20 rfl<|I4 rfl (S.cel 1 rfl) rfl<|Q0<|Q2 rfl (fun hb=>?_) fun hb=>?_
 · skip
   refine Q7<|I2 rfl<|Q0<|Q8 ?_;refine⟨.inl rfl,_,rfl,?_⟩
   exact(by
    obtain⟨aa,S⟩:=back _ S
    exact⟨11,s,ae,[],aa,rfl,.inl ⟨hb,rfl,rfl⟩,by rw[v0k];exact S⟩)
 refine Q4<|ZF [(0,Qk mb),(1,iV id)] (fun lv hh=>lv=[]/\WorkG P s id/\s.full=false/\SH h D (hpR ph s.H ae::mcL mb ph P V s w) hh) ?_ fun lv hh hJ=>?_
 · skip
   refine Q7 ?_;have aL:s.full=false:=hb;refine I1 rfl<|Il rfl rfl<|I1 rfl ?_
   refine Z4 (n:=7) rfl rfl rfl gn rfl (fun hb=>by
    refine D1 hb rfl<|D1 hb rfl<|D6 hb rfl<|D0 12 hb rfl<|D4 hb rfl (S.cel 1 rfl) rfl ?_;rw[dg];refine D7 hb rfl ?_;rw[<-dg];refine Dg hb rfl rfl ?_
    exact Q0 ⟨rfl,rfl,7,rfl,rfl⟩) ?_
   refine I1 rfl ?_
   refine Z4 (n:=10) rfl rfl rfl gn rfl (fun hb=>by
    have cr:1<=id/\id<=s.T.length:=by simp at hb;omega
    obtain⟨tb,tc,cs,m,br,hg,aP⟩:=Q1L (S.sl 5 rfl) cr.1 cr.2;refine D1 hb rfl<|D6 hb rfl<|D0 12 hb rfl<|D4 hb rfl (S.cel 1 rfl) rfl<|D1 hb rfl<|Dso hb rfl rfl ?_;rw[br];refine D5o 15 hb rfl rfl ?_;rw[<-br];refine D0 4 hb rfl<|D4 hb rfl hg (aP 4 _ (by decide) rfl)<|Dh hb rfl rfl ?_
    exact Q0 ⟨rfl,rfl,10,rfl,rfl⟩) ?_
   refine I1 rfl ?_
   refine Z4 (n:=10) rfl rfl rfl gn rfl (fun hb=>by
    have cr:1<=id/\id<=s.T.length:=by simp at hb;omega
    obtain⟨tb,tc,cs,m,br,hg,aP⟩:=Q1L (S.sl 5 rfl) cr.1 cr.2;refine D1 hb rfl<|D6 hb rfl<|D0 12 hb rfl<|D4 hb rfl (S.cel 1 rfl) rfl<|D1 hb rfl<|Dso hb rfl rfl ?_;rw[br];refine D5o 15 hb rfl rfl ?_;rw[<-br];refine D0 11 hb rfl<|D4 hb rfl hg (aP 11 _ (by decide) rfl)<|De hb rfl rfl ?_
    exact Q0 ⟨rfl,rfl,10,rfl,rfl⟩) ?_
   refine I1 rfl<|ZX (dc:=46) rfl (fun dK=>?_) fun dK=>?_
   · skip
     refine ZY (n:=4) (dc:=46) (w:=false) rfl dK rfl<|IT rfl dK rfl<|Q0<|Q2 rfl (fun hb=>?_) fun hb=>?_
     · skip
       refine Q7<|I2 rfl<|Q0<|Q8 ?_;refine⟨.inl rfl,_,rfl,?_⟩
       exact(by
        obtain⟨aa,S⟩:=back _ S
        exact⟨10,s,ae,[],aa,rfl,.inr (.inl ⟨rfl,rfl⟩),by rw[v0k];exact S⟩)
     refine Q4 ?_;exact Zr [] (p:=(absurd hb (by decide)))
   refine D1 dK rfl<|D1 dK rfl ?_;obtain⟨bz,Sb⟩:=back _ S;refine Dc dK [_,_] rfl rfl (C.mono (m52 (SH.sub1 S0 aj Sb 1 rfl) X0 hM k (R.ov aL id)) ?_);rintro v g ⟨rfl,x⟩;have S:=S.grow x;refine⟨ag0,?_⟩;refine Dg dK rfl rfl<|Iu rfl dK rfl<|Q0<|Q2 rfl (fun hb=>?_) fun hb=>?_
   · skip
     refine Q7<|I2 rfl<|Q0<|Q8 ?_;refine⟨.inl rfl,_,rfl,?_⟩
     exact(by
      obtain⟨aa,S⟩:=back _ S
      exact⟨10,s,ae,[],aa,rfl,.inr (.inl ⟨rfl,rfl⟩),by rw[v0k];exact S⟩)
   refine Q4 ?_
   exact Zr [] (p:=(by
    have kj:(((decide (id <1)||decide ((s.T.length:Int)<id))||decide ((0:Int)<=(ZA s id).looper))||decide ((ZA s id).state=3))=false:=dK;simp only[v06,decide_eq_false_iff_not]at kj;have mz: ¬0 <Jj P s id:=by simpa using hb
    have jf:0<=Jj P s id:=by
     unfold Jj
     split
     · rename_i h;have:=h.2.2;unfold Q1I at this;simp at this;omega
     omega
    exact⟨rfl,⟨by omega,by omega,by omega,kj.2,by omega⟩,aL,S⟩))
 obtain⟨rfl,hG,aL,S⟩:=hJ;obtain⟨g1,g2,g3,g4,g5⟩:=hG;refine Q5<|Q7<|I1 rfl<|I6 rfl<|I0 19 rfl<|I4 rfl (S.cel 1 rfl) rfl<|Ih rfl rfl<|Q0<|Q2 rfl (fun hb=>?_) fun hb=>?_
 · skip
   refine Q7 ?_;obtain⟨bz,S⟩:=back _ S;refine I1 rfl<|Ic [_] rfl rfl (C.mono (m53 (SH.sub1 S0 aj S 1 rfl)) ?_);rintro v g ⟨rfl,bB,S2⟩;have S:=S.ret 1 rfl S2;refine⟨ag0,?_⟩;refine I2 rfl<|Q0<|Q8 ⟨.inl rfl,_,rfl,⟨11,Q8J s,ae,[],bB,rfl,.inr (.inr (.inl ⟨rfl,rfl⟩)),by rw[v0k];exact S⟩⟩
 refine Q4<|Q7 ?_;have ai:s.steps <20000:=by simp at hb;omega
 refine I1 rfl<|I6 rfl<|I0 19 rfl<|I4 rfl (S.cel 1 rfl) rfl<|Iao rfl rfl<|I6 rfl<|I0 19 rfl ?_;refine Qg 1 S gn rfl rfl rfl (by kernel_rfl) rfl (by decide) (by simp) (fun g S=>ag0) fun g S=>?_;obtain⟨s1,aY⟩: ∃s1,s1=upS s:=⟨_,rfl⟩;have S:SH h D (hpR ph s1.H ae::mcL mb ph P V s1 w) g:=by rw[aY];exact S
 have k1:MOk P s1:=by rw[aY];exact Q9U k ai
 have eT:s1.T=s.T:=by rw[aY];rfl
 have eM:s1.M=s.M:=by rw[aY];rfl
 have eA: ∀n,ZA s1 n=ZA s n:=fun n=>by unfold ZA;rw[eT]
 have cp:w.qs.length=s1.Q.length/\w.ths.length=s1.Th.length:=by rw[aY];exact hw
 obtain⟨tb,tc,cs,m,br,hg,aP⟩:=Q1L (s:=s1) (S.sl 5 rfl) g1 (by rw[eT];exact g2);have kl:=aP 11 _ (by decide) rfl;rw[eA]at kl;have htl:s1.T.length=s.T.length:=by rw[eT]
 refine Z8<|I1 rfl<|I6 rfl<|I0 12 rfl<|I4 rfl (S.cel 1 rfl) rfl<|I1 rfl<|Iso rfl rfl ?_;rw[br];refine I5o 15 rfl rfl ?_;rw[<-br];refine I0 11 rfl<|I4 rfl hg kl<|Ie rfl rfl<|Q0<|Q2 rfl (fun hb=>?_) fun hb=>?_
 · skip
   refine Q7 ?_;obtain⟨bz,S⟩:=Qo (A:=[_]) S cp bg;have S:SH h D [hpR ph s1.H ae,mcR mb ph P V s1 tp bz] _:=S;refine I1 rfl<|I1 rfl ?_;refine QZ [_,_] gn rfl rfl (by kernel_rfl) rfl (C.mono (m55 (SH.sub1 S0 aj S 1 rfl) k1 g1 (by rw[eT];exact g2) (by rw[eM];omega)) ?_);rintro v g ⟨bB,S2⟩;have S:=S.ret 1 rfl S2;refine⟨ag0,?_⟩;refine QP<|I2 rfl<|Q0<|Q8 ?_;refine⟨.inl rfl,_,rfl,?_⟩
   exact(by
    have hs:(ZA s id).state=1:=by simpa using hb
    refine⟨0,JX s1 id,ae,[],bB,rfl,.inr (.inr (.inr ⟨aL,⟨g1,g2,g3,g4,g5⟩,ai,.inl ⟨hs,rfl,by rw[aY]⟩⟩)),?_⟩;have eH:(JX s1 id).H=s1.H:=by unfold JX;split<;>rfl
    rw[eH,v0k];exact S)
 refine Q4<|Q7 ?_;obtain⟨bz,S⟩:=Qo (A:=[_]) S cp bg;have S:SH h D [hpR ph s1.H ae,mcR mb ph P V s1 tp bz] _:=S;refine I1 rfl<|I1 rfl ?_;refine QZ [_,_] gn rfl rfl (by kernel_rfl) rfl (C.mono (m56 (SH.subL (A:=[_,_]) (B:=[]) S0 aj S) X0 hM k1 g1 (by rw[eT];exact g2) (by rw[eM];omega) (fun n n1 n2 n3=>by rw[eA]at n3 ⊢;rw[eT]at n2;exact R.po n n1 n2 n3)) ?_);rintro v g ⟨b,e,s',ah,tl,bB,rfl,hR,S2⟩;have S:=SH.retL (A:=[_,_]) (B:=[]) S S2;refine⟨ag0,?_⟩;refine I1 rfl<|Ix rfl rfl<|Ix rfl rfl<|I2 rfl<|I2 rfl<|QP<|I1 rfl<|I2 rfl<|Q0 ?_
 refine Q8 ?_;refine⟨.inl rfl,_,rfl,?_⟩
 exact(by
  have hs:(ZA s id).state≠1:=by simpa using hb
  exact⟨e,s',ah,tl,bB,rfl,.inr (.inr (.inr ⟨aL,⟨g1,g2,g3,g4,g5⟩,ai,.inr ⟨hs,b,by rw[<-aY];exact hR⟩⟩)),S⟩)
end
def qAt (s:MS) (l:Int):List MItem:=(s.Q[l.toNat]?).getD []
theorem qp_at {h:Hp} {s:MS} {w:MW} {qv:Value} {bs:List Nat} {l:Int} (x:SlC 98 0 h qv (ptC w.qs) s.Q.length bs) (hw:w.qs.length=s.Q.length) (h0:0<=l) (h1:l <s.Q.length): ∃b c cs m v,qv=.slice (some ⟨b,0,none⟩) s.Q.length c/\h.get b=some (.cells cs 98 m)/\w.qs[l.toNat]?=some v/\s.Q[l.toNat]?=some (qAt s l)/\cs[0+v0f l*1]?=some (Qk v.1):=by
 obtain⟨b,m,c,r,hv,hg,_⟩:=x.at (by omega);obtain⟨v,fX⟩: ∃v,w.qs[l.toNat]?=some v:=⟨_,v0c (by omega)⟩;refine⟨b,c,_,m,v,hv,hg,fX,?_,?_⟩
 · unfold qAt;rw[v0c (by omega)];rfl
 rw[v0e,v0A,v0z (by rw[v0v];omega),v0D,fX];rfl
theorem Q6R {L:List MItem} {now:Int} (h:Q2P L now=true):Zq L now∈L:=by
 have h1:0<=Z7 L:=by
  unfold Q2P at h;simp at h;exact h.1
 have h2:=Kh L L.length (v0b _);have h2:Z7 L <L.length:=h2.2.1;unfold Zq;rw[if_pos h];unfold Ke;rw[v0c (by omega)];exact v0M _
theorem Q8c {P:Prg} {s:MS} {t:MTask} {c:List Int}:(Y9 P s t c).runs=s.runs:=by
 unfold Y9
 split<;>rfl
theorem canM_r {s:MS} {id z o:Int}:(Q2R s id z o).runs=s.runs:=by
 unfold Q2R
 split<;>rfl
theorem Qfi {s:MS} {id:Int} {a:MAsk}:(Jk s id a).runs=s.runs:=by
 unfold Jk
 split<;>rfl
theorem Qfn {s:MS} {id:Int} {a:MAsk}:(Zk s id a).1.runs=s.runs:=by
 unfold Zk
 split;rfl
 split;rfl
 split;exact canM_r
 split;exact Qfi
 split;rfl
 split;rfl
 rfl
theorem Qb7 {P:Prg} {s:MS} {id:Int} {a:MAsk}:(Y5 P s id a).runs=s.runs:=by
 unfold Y5
 split
 · unfold mdS
   split
   · split
     · rfl
     exact Q8c
   rfl
 split
 · rfl
 split
 · rfl
 exact Qfn
theorem step_r {P:Prg} {s s':MS} {id e:Int} {b:Bool} (h:Q8T P s id b e s'):s'.runs=s.runs:=by
 have hD: ∀a T' H',(stD P (stT s id a T' H') id a).runs=s.runs:=fun a T' H'=>by
  unfold stD
  split
  · rfl
  exact Qb7
 obtain⟨a,e0,T',H',_,h⟩:=h;rcases h with⟨_,_,_,rfl⟩| ⟨_,_,_,_,_,rfl⟩| ⟨_,_,_,h⟩
 · rfl
 · exact Qb7
 rcases h with⟨_,_,_,rfl⟩| ⟨_,_,rfl⟩
 · exact hD _ _ _
 exact hD _ _ _
def RunG (P:Prg) (s:MS) (l:Int):Prop:=0<=l/\l <s.Q.length/\(reg s.runs l=0->Q2P (qAt s l) s.now=true)/\(0 <reg s.runs l->Jj P s (reg s.runs l)=0)
def begR (s:MS) (l:Int):MS:=JX {upS s with Q:=s.Q.modify l.toNat fun L=>tkQ L s.now,runs:=s.runs.set l.toNat (Zq (qAt s l) s.now).task} (Zq (qAt s l) s.now).task
def ovrR (s:MS) (l:Int) (b:Bool):MS:=if b then {s with runs:=s.runs.set l.toNat 0}else s
def Qg3 (P:Prg) (s:MS) (l:Int) (e:Int) (s':MS):Prop:=
 (s.full=true/\e=11/\s'=s)\/(e=10/\s'=s)\/(e=11/\s'=Q8J s)\/
 (s.full=false/\RunG P s l/\s.steps <20000/\((reg s.runs l=0/\e=0/\s'=begR s l)\/(reg s.runs l≠0/\ ∃b s2,Q8T P (upS s) (reg s.runs l) b e s2/\s'=ovrR s2 l b)))
theorem Qb5 {L:List MItem} {t:Int}:(Q3p L t).length<=L.length:=by
 unfold Q3p
 split
 · rw[List.length_eraseIdx];split<;>omega
 exact v0b _
theorem tkQ_le {L:List MItem} {now:Int}:(tkQ L now).length<=L.length:=by
 unfold tkQ
 split
 · exact Qb5
 exact v0b _
theorem ql_tk {P:Prg} {s:MS} (k:MOk P s) {j:Nat} {L:List MItem} (h:L∈s.Q.modify j fun L=>tkQ L s.now):L.length<=s.T.length:=by
 obtain⟨i,hi,rfl⟩:=List.mem_iff_getElem.1 h;have aX:i <s.Q.length:=by rw[v0l]at hi;exact hi
 have:=k.ql _ (v0M aX);rw[List.getElem_modify]
 split
 · exact v0t tkQ_le this
 exact this
section
variable {h0 h:Hp} {P:Prg} {V:PrV} {mb ph:Nat} {s:MS} {ae tp bs:List Nat}
theorem m27 {l:Int} (S0:SH h0 [] [hpR ph s.H ae,mcR mb ph P V s tp bs] h) (X0:Q1m h0 P V) (hM:ZL P=true) (R:RunH P s) (hm:s.M.length<=99960):C modE 23 [Qk mb,iV l] h fun v g'=> ∃(e:Int) (s':MS) (ah tl aa:List Nat),v=iV e/\Qg3 P s l e s'/\SH h (owns [hpR ph s.H ae,mcR mb ph P V s tp bs]) [hpR ph s'.H ah,mcR mb ph P V s' (tp++tl) aa] g':=by
 have SE:=S0.enterL;obtain⟨D,hD⟩: ∃D,D=owns [hpR ph s.H ae,mcR mb ph P V s tp bs]:=⟨_,rfl⟩;have aj: ∀i,i∈D->h0.n<=i:=by rw[hD];exact S0.own0L
 rw[<-hD]at SE ⊢;have k:=R.k;have hk:=k.t;have av:=k.st;have hq:=k.q;have hr:=k.r;obtain⟨w,hw,bg,_,SE⟩:=QH (A:=[_]) SE;have SE:SH h D (hpR ph s.H ae::mcL mb ph P V s w) h:=SE;obtain⟨qa,qc0,mQ⟩:=Q6 (SE.sl 3 rfl);have back: ∀g,SH h D (hpR ph s.H ae::mcL mb ph P V s w) g-> ∃aa,SH h D [hpR ph s.H ae,mcR mb ph P V s tp aa] g:=fun g S=>Qo (A:=[_]) S hw bg;refine Q9 (fu:=Tryz.f23) (by kernel_rfl) rfl ?_;have S:=SE;refine Q7<|I2 rfl<|Z8<|I1 rfl<|I6 rfl<|I0 20 rfl<|I4 rfl (S.cel 1 rfl) rfl<|Q0<|Q2 rfl (fun hb=>?_) fun hb=>?_
 · skip
   refine Q7<|I2 rfl<|Q0<|Q8 ?_;refine⟨.inl rfl,_,rfl,?_⟩
   exact(by
    obtain⟨aa,S⟩:=back _ S
    exact⟨11,s,ae,[],aa,rfl,.inl ⟨hb,rfl,rfl⟩,by rw[v0k];exact S⟩)
 refine Q4<|Q5<|Q7 ?_;have aL:s.full=false:=hb;refine I1 rfl<|Il rfl rfl<|I1 rfl ?_
 refine Z4 (n:=7) rfl rfl rfl gn rfl (fun hb=>by
  refine D1 hb rfl<|D1 hb rfl<|D6 hb rfl<|D0 10 hb rfl<|D4 hb rfl (S.cel 1 rfl) rfl ?_;rw[mQ];refine D7 hb rfl ?_;rw[<-mQ];refine Dh hb rfl rfl ?_
  exact Q0 ⟨rfl,rfl,7,rfl,rfl⟩) ?_
 refine Q0<|Q2 rfl (fun hb=>?_) fun hb=>?_
 · skip
   refine Q7<|I2 rfl<|Q0<|Q8 ?_;refine⟨.inl rfl,_,rfl,?_⟩
   exact(by
    obtain⟨aa,S⟩:=back _ S
    exact⟨10,s,ae,[],aa,rfl,.inr (.inl ⟨rfl,rfl⟩),by rw[v0k];exact S⟩)
 refine Q4<|Q5<|Yq [(0,[]),(1,[]),(2,[]),(3,[]),(4,[]),(5,[]),(6,[]),(7,[]),(8,[]),(9,[]),(10,[]),(15,[]),(11,[]),(12,[]),(13,[]),(14,[]),(16,[]),(17,[])] (by kernel_rfl) (by kernel_rfl) (by kernel_rfl) (by kernel_rfl) ?_;have gi:0<=l/\l <s.Q.length:=by simp at hb;omega
 obtain⟨qb,qc,qcs,qm,qv,cy,dV,gI,kp,iP⟩:=qp_at (s:=s) (w:=w) (S.sl 3 rfl) hw.1 gi.1 gi.2;have oz:(qAt s l).length<=1000000:=v0t (k.ql _ (v0m kp)) (by omega);refine I1 rfl<|I6 rfl<|I0 10 rfl<|I4 rfl (S.cel 1 rfl) rfl<|I1 rfl ?_;rw[cy];refine I5o 1 rfl rfl ?_;rw[<-cy];refine I4 rfl dV iP<|I1 rfl<|I6 rfl<|I0 18 rfl<|I4 rfl (S.cel 1 rfl) rfl ?_;refine Qx (zv:=.agg #[iV 0,.bool false,iV 0]) S gn rfl (by kernel_rfl) fun b1 g aJ S=>?_
 have dx:(cR b1 (.cells [iV 0,.bool false,iV 0] 161 0)::hpR ph s.H ae::mcL mb ph P V s w)[l.toNat+10+1+1]?=some (quR qv.1 (qAt s l) qv.2):=mc_q (mb:=mb) (ph:=ph) kp gI;refine Ic [_,_] rfl rfl (C.mono (m51 (S.held _ dx) oz) ?_);rintro v g ⟨rfl,x⟩;have S:=S.grow x;refine⟨ag0,?_⟩;refine I1 rfl<|Ix rfl rfl<|Ix rfl rfl ?_;refine Qi (n:=3) 0 S gn rfl rfl rfl (by kernel_rfl) rfl rfl (by decide) rfl (fun g S=>ag0) fun g S=>?_;have S:SH h D (cR b1 (.cells [iV (Zq (qAt s l) s.now).task,.bool (Zq (qAt s l) s.now).front,iV (Zq (qAt s l) s.now).due] 161 0)::hpR ph s.H ae::mcL mb ph P V s w) g:=S;refine I2 rfl<|Q0 ?_
 refine ZF [(0,Qk mb),(1,iV l),(5,Qk b1)] (fun lv hh=>lv=[]/\RunG P s l/\SH h D (cR b1 (.cells [iV (Zq (qAt s l) s.now).task,.bool (Zq (qAt s l) s.now).front,iV (Zq (qAt s l) s.now).due] 161 0)::hpR ph s.H ae::mcL mb ph P V s w) hh) ?_ fun lv hh hJ=>?_
 · skip
   refine Q7 ?_;obtain⟨rb,rc,rcs,rm,bX,gH,gF⟩:=Q5r (R:=s.runs) (S.sl 5 rfl) gi.1 (by omega);refine I1 rfl<|I6 rfl<|I0 11 rfl<|I4 rfl (S.cel 2 rfl) rfl<|I1 rfl ?_;rw[bX];refine I5o 1 rfl rfl ?_;rw[<-bX];refine I4 rfl gH gF<|Ie rfl rfl<|I1 rfl ?_
   refine QY (n:=2) rfl rfl rfl gn rfl (fun hb=>by
    refine D1 hb rfl<|Db hb rfl ?_
    exact Q0 ⟨rfl,rfl,2,rfl,rfl⟩) ?_
   refine I1 rfl<|ZX (dc:=51) rfl (fun bG=>?_) fun bG=>?_
   · skip
     refine ZY (n:=20) (dc:=51) (w:=false) rfl bG rfl<|IT rfl bG rfl<|Q0<|Q2 rfl (fun hb=>?_) fun hb=>?_
     · skip
       refine Q7<|I2 rfl<|Q0<|Q8 ?_;refine⟨.inl rfl,_,rfl,?_⟩
       exact(by
        obtain⟨aa,S⟩:=back _ S.drop
        exact⟨10,s,ae,[],aa,rfl,.inr (.inl ⟨rfl,rfl⟩),by rw[v0k];exact S⟩)
     refine Q4 ?_;exact Zr [] (p:=(absurd hb (by decide)))
   refine D1 bG rfl<|D6 bG rfl<|D0 11 bG rfl<|D4 bG rfl (S.cel 2 rfl) rfl<|D1 bG rfl ?_;rw[bX];refine D5o 1 bG rfl rfl ?_;rw[<-bX];refine D4 bG rfl gH gF<|Dg bG rfl rfl<|D1 bG rfl<|ZX (dc:=60) rfl (fun bT=>?_) fun bT=>?_
   · skip
     refine D1 bT rfl<|D1 bT rfl<|D6 bT rfl<|D0 11 bT rfl<|D4 bT rfl (S.cel 2 rfl) rfl<|D1 bT rfl ?_;rw[bX];refine D5o 1 bT rfl rfl ?_;rw[<-bX];refine D4 bT rfl gH gF ?_;obtain⟨bz,Sb⟩:=back _ S.drop;refine Dc bT [_,_] rfl rfl (C.mono (m52 (SH.sub1 S0 aj Sb 1 rfl) X0 hM k (R.ov aL _)) ?_);rintro v g ⟨rfl,x⟩;have S:=S.grow x;refine⟨ag0,?_⟩;refine Dg bT rfl rfl<|DT bG rfl bT rfl<|Iu rfl bG rfl<|Q0<|Q2 rfl (fun hb=>?_) fun hb=>?_
     · skip
       refine Q7<|I2 rfl<|Q0<|Q8 ?_;refine⟨.inl rfl,_,rfl,?_⟩
       exact(by
        obtain⟨aa,S⟩:=back _ S.drop
        exact⟨10,s,ae,[],aa,rfl,.inr (.inl ⟨rfl,rfl⟩),by rw[v0k];exact S⟩)
     refine Q4 ?_
     exact Zr [] (p:=(by
      have h51:(decide (reg s.runs l=0)&& !Q2P (qAt s l) s.now)=false:=bG;have mz: ¬0 <Jj P s (reg s.runs l):=by simpa using hb
      have jf:0<=Jj P s (reg s.runs l):=by
       unfold Jj
       split
       · rename_i h;have:=h.2.2;unfold Q1I at this;simp at this;omega
       omega
      refine⟨rfl,⟨gi.1,gi.2,fun e=>?_,fun _=>by omega⟩,S⟩;rw[e]at h51
      simpa using h51))
   refine ZY (n:=10) (dc:=60) (w:=true) rfl bT rfl<|Du bG rfl bT rfl<|Iu rfl bG rfl<|Q0<|Q2 rfl (fun hb=>?_) fun hb=>?_
   · skip
     refine Q7<|I2 rfl<|Q0<|Q8 ?_;refine⟨.inl rfl,_,rfl,?_⟩
     exact(by
      obtain⟨aa,S⟩:=back _ S.drop
      exact⟨10,s,ae,[],aa,rfl,.inr (.inl ⟨rfl,rfl⟩),by rw[v0k];exact S⟩)
   refine Q4 ?_
   exact Zr [] (p:=(by
    have h51:(decide (reg s.runs l=0)&& !Q2P (qAt s l) s.now)=false:=bG;have h60: ¬0 <reg s.runs l:=by simpa using bT
    refine⟨rfl,⟨gi.1,gi.2,fun e=>?_,fun h=>absurd h h60⟩,S⟩;rw[e]at h51
    simpa using h51))
 obtain⟨rfl,hG,S⟩:=hJ;obtain⟨g1,g2,g3,g4⟩:=hG;have hG:RunG P s l:=⟨g1,g2,g3,g4⟩;refine Q5<|Q7<|I1 rfl<|I6 rfl<|I0 19 rfl<|I4 rfl (S.cel 2 rfl) rfl<|Ih rfl rfl<|Q0<|Q2 rfl (fun hb=>?_) fun hb=>?_
 · skip
   refine Q7 ?_;obtain⟨bz,S⟩:=back _ S.drop;refine I1 rfl<|Ic [_] rfl rfl (C.mono (m53 (SH.sub1 S0 aj S 1 rfl)) ?_);rintro v g ⟨rfl,bB,S2⟩;have S:=S.ret 1 rfl S2;refine⟨ag0,?_⟩;refine I2 rfl<|Q0<|Q8 ⟨.inl rfl,_,rfl,⟨11,Q8J s,ae,[],bB,rfl,.inr (.inr (.inl ⟨rfl,rfl⟩)),by rw[v0k];exact S⟩⟩
 refine Q4<|Q7 ?_;have ai:s.steps <20000:=by simp at hb;omega
 refine I1 rfl<|I6 rfl<|I0 19 rfl<|I4 rfl (S.cel 2 rfl) rfl<|Iao rfl rfl<|I6 rfl<|I0 19 rfl ?_;refine Qg 2 S gn rfl rfl rfl (by kernel_rfl) rfl (by decide) (by simp) (fun g S=>ag0) fun g S=>?_;obtain⟨s1,aY⟩: ∃s1,s1=upS s:=⟨_,rfl⟩;have S:SH h D (cR b1 (.cells [iV (Zq (qAt s l) s.now).task,.bool (Zq (qAt s l) s.now).front,iV (Zq (qAt s l) s.now).due] 161 0)::hpR ph s1.H ae::mcL mb ph P V s1 w) g:=by rw[aY];exact S
 have k1:MOk P s1:=by rw[aY];exact Q9U k ai
 have eT:s1.T=s.T:=by rw[aY];rfl
 have eM:s1.M=s.M:=by rw[aY];rfl
 have eQ:s1.Q=s.Q:=by rw[aY];rfl
 have eR:s1.runs=s.runs:=by rw[aY];rfl
 have eN:s1.now=s.now:=by rw[aY];rfl
 have eA: ∀n,ZA s1 n=ZA s n:=fun n=>by unfold ZA;rw[eT]
 have eqA:qAt s1 l=qAt s l:=by unfold qAt;rw[eQ]
 have cp:w.qs.length=s1.Q.length/\w.ths.length=s1.Th.length:=by rw[aY];exact hw
 have hql1:s1.Q.length=s.Q.length:=by rw[eQ]
 have hrl1:s1.runs.length=s.runs.length:=by rw[eR]
 obtain⟨rb,rc,rcs,rm,bX,gH,gF⟩:=Q5r (R:=s1.runs) (a:=l) (S.sl 5 rfl) g1 (by omega);have mL:rcs[0+v0f l*1]?=some (iV (reg s.runs l)):=by rw[<-eR];exact gF
 refine Z8<|I1 rfl<|I6 rfl<|I0 11 rfl<|I4 rfl (S.cel 2 rfl) rfl<|I1 rfl ?_;rw[bX];refine I5o 1 rfl rfl ?_;rw[<-bX];refine I4 rfl gH mL<|Ie rfl rfl<|Q0<|Q2 rfl (fun hb=>?_) fun hb=>?_
 · skip
   refine Q5<|I9 ?_;have dG:reg s.runs l=0:=by simpa using hb
   have hdm:=Q6R (g3 dG);obtain⟨qb,qc,qcs,qm,qv,cy,dV,gI,kp,iP⟩:=qp_at (s:=s1) (w:=w) (S.sl 4 rfl) cp.1 g1 (by omega);rw[eqA]at kp;have oz:(qAt s l).length<=1000000:=v0t (k1.ql _ (v0m kp)) (by rw[eT];omega);have lT:=R.it _ (by rw[<-eQ];exact v0m kp) _ hdm;refine I1 rfl<|I6 rfl<|I0 10 rfl<|I4 rfl (S.cel 2 rfl) rfl<|I1 rfl ?_;rw[cy];refine I5o 1 rfl rfl ?_;rw[<-cy];refine I4 rfl dV iP<|I1 rfl<|I6 rfl<|I0 18 rfl<|I4 rfl (S.cel 2 rfl) rfl ?_
   have dx:(cR b1 (.cells [iV (Zq (qAt s l) s.now).task,.bool (Zq (qAt s l) s.now).front,iV (Zq (qAt s l) s.now).due] 161 0)::hpR ph s1.H ae::mcL mb ph P V s1 w)[l.toNat+10+1+1]?=some (quR qv.1 (qAt s l) qv.2):=mc_q (mb:=mb) (ph:=ph) kp gI;refine Ic [_,_] rfl rfl (C.mono (m54 (SH.sub1 S0 aj S _ dx) oz) ?_);rintro v g ⟨rfl,bB,S2⟩;have S:=S.ret _ dx S2;have S:SH h D (cR b1 (.cells [iV (Zq (qAt s l) s.now).task,.bool (Zq (qAt s l) s.now).front,iV (Zq (qAt s l) s.now).due] 161 0)::hpR ph s1.H ae::(mcL mb ph P V s1 w).set (l.toNat+10) (quR qv.1 (tkQ (qAt s l) s1.now) bB)) g:=S;rw[Q6B (fun L=>tkQ L s1.now) bB kp gI]at S
   obtain⟨s2,aK⟩: ∃s2,s2= {s1 with Q:=s1.Q.modify l.toNat fun L=>tkQ L s1.now}:=⟨_,rfl⟩
   obtain⟨w2,aC,aH,S⟩: ∃w2:MW,(w2.qs.length=s2.Q.length/\w2.ths.length=s2.Th.length)/\w2.ths.map Prod.fst=tp/\SH h D (cR b1 (.cells [iV (Zq (qAt s l) s.now).task,.bool (Zq (qAt s l) s.now).front,iV (Zq (qAt s l) s.now).due] 161 0)::hpR ph s1.H ae::mcL mb ph P V s2 w2) g:=⟨{w with qs:=w.qs.set l.toNat (qv.1,bB)},by
    rw[aK]
    exact⟨by show(w.qs.set _ _).length=(s1.Q.modify _ _).length;rw[v0q,v0l];exact cp.1,cp.2⟩,bg,by rw[aK];exact S⟩
   have eR2:s2.runs=s.runs:=by rw[aK];exact eR
   have hrl2:s2.runs.length=s.runs.length:=by rw[eR2]
   obtain⟨rb,rc,rcs,rm,bX,gH,gF⟩:=Q5r (R:=s2.runs) (a:=l) (S.sl 5 rfl) g1 (by omega);refine⟨ag0,?_⟩;refine Q0<|Q5<|I9<|I1 rfl<|I6 rfl<|I0 11 rfl<|I4 rfl (S.cel 2 rfl) rfl<|I1 rfl<|I0 0 rfl<|I4 rfl (S.cel 0 rfl) rfl ?_;rw[bX];refine I5o 1 rfl rfl ?_;rw[<-bX];refine Zm 5 S gn rfl rfl rfl (by kernel_rfl) rfl bX (by rw[v0v];omega) (fun g S=>ag0) fun g S=>?_;obtain⟨s3,dM⟩: ∃s3,s3= {s2 with runs:=s2.runs.set l.toNat (Zq (qAt s l) s.now).task}:=⟨_,rfl⟩
   have S:SH h D ([cR b1 (.cells [iV (Zq (qAt s l) s.now).task,.bool (Zq (qAt s l) s.now).front,iV (Zq (qAt s l) s.now).due] 161 0),hpR ph s1.H ae]++mcL mb ph P V s3 w2) g:=by
    rw[dM];unfold mcL mcH;show SH h D (_::_::([_,_,_,slR 3 0 w2.rv (isV (s2.runs.set l.toNat (Zq (qAt s l) s.now).task)) (s2.runs.set l.toNat (Zq (qAt s l) s.now).task).length w2.rvb,_,_,_,_,_,_]++_)) g;rw[<-KX,v0q];have S2:=S;rw[v0e,v0A]at S2;exact S2
   obtain⟨fD,S⟩:=Qo (A:=[_,_]) S (by rw[dM];exact aC) aH;have S:SH h D [cR b1 (.cells [iV (Zq (qAt s l) s.now).task,.bool (Zq (qAt s l) s.now).front,iV (Zq (qAt s l) s.now).due] 161 0),hpR ph s1.H ae,mcR mb ph P V s3 tp fD] g:=S;have eT3:s3.T=s.T:=by rw[dM,aK];exact eT
   have eM3:s3.M=s.M:=by rw[dM,aK];exact eM
   have k3:MOk P s3:=by
    rw[dM,aK];exact⟨k1.h,k1.k,k1.k2,k1.e2,k1.e,by show(s1.Q.modify _ _).length=_;rw[v0l];exact k1.q,by show(s1.runs.set _ _).length=_;rw[v0q];exact k1.r,k1.t,k1.th,k1.g,k1.lg,k1.m,k1.on,k1.now,k1.st,fun L hL=>ql_tk k1 hL,k1.tok⟩
   refine QP<|I1 rfl<|I0 0 rfl<|I4 rfl (S.cel 0 rfl) rfl ?_;refine QZ [_,_] gn rfl rfl (by kernel_rfl) rfl (C.mono (m55 (SH.sub1 S0 aj S 2 rfl) k3 lT.1 (by rw[eT3];exact lT.2) (by rw[eM3];omega)) ?_);rintro v g ⟨fC,S2⟩;have S:=S.ret 2 rfl S2;refine⟨ag0,?_⟩;refine QP<|I2 rfl<|Q0<|Q8 ?_;refine⟨.inl rfl,_,rfl,?_⟩
   exact(by
    have e:begR s l=JX s3 (Zq (qAt s l) s.now).task:=by
     unfold begR;rw[dM,aK,aY];rfl
    refine⟨0,JX s3 (Zq (qAt s l) s.now).task,ae,[],fC,rfl,.inr (.inr (.inr ⟨aL,hG,ai,.inl ⟨dG,rfl,e.symm⟩⟩)),?_⟩;have eH:(JX s3 (Zq (qAt s l) s.now).task).H=s1.H:=by unfold JX;split<;>(rw[dM,aK];rfl)
    rw[eH,v0k];exact S.drop)
 refine Q4<|Q7 ?_;have dG:reg s.runs l≠0:=by simpa using hb
 have jQ:=R.ru (reg s.runs l) (v0m (Q7u g1 (by omega)));refine I1 rfl<|I1 rfl<|I6 rfl<|I0 11 rfl<|I4 rfl (S.cel 2 rfl) rfl<|I1 rfl ?_;rw[bX];refine I5o 1 rfl rfl ?_;rw[<-bX];refine I4 rfl gH mL ?_;obtain⟨bz,S⟩:=Qo (A:=[_]) S.drop cp bg;have S:SH h D [hpR ph s1.H ae,mcR mb ph P V s1 tp bz] _:=S;refine QZ [_,_] gn rfl rfl (by kernel_rfl) rfl (C.mono (m56 (SH.subL (A:=[_,_]) (B:=[]) S0 aj S) X0 hM k1 (by omega) (by rw[eT];exact jQ.2) (by rw[eM];omega) (fun n n1 n2 n3=>by rw[eA]at n3 ⊢;rw[eT]at n2;exact R.po n n1 n2 n3)) ?_);rintro v g ⟨b,e,s2,ah,tl,bB,rfl,hR,S2⟩
 have S:=SH.retL (A:=[_,_]) (B:=[]) S S2;have S:SH h D ([hpR ph s2.H ah]++[mcR mb ph P V s2 (tp++tl) bB]) g:=S;refine⟨ag0,?_⟩;refine I1 rfl<|Ix rfl rfl<|Ix rfl rfl<|I2 rfl<|I2 rfl<|Z8<|I1 rfl<|Q0<|Q2 rfl (fun hb=>?_) fun hb=>?_
 · skip
   refine Q3 (by kernel_rfl) ?_;have hbt:b=true:=hb;obtain⟨w2,aC,aH,_,S⟩:=QH S;have S:SH h D (hpR ph s2.H ah::mcL mb ph P V s2 w2) _:=S;have eR2:s2.runs=s.runs:=(step_r hR).trans eR;have hrl2:s2.runs.length=s.runs.length:=by rw[eR2]
   obtain⟨rb,rc,rcs,rm,bX,gH,gF⟩:=Q5r (R:=s2.runs) (a:=l) (S.sl 4 rfl) g1 (by omega);refine I1 rfl<|I6 rfl<|I0 11 rfl<|I4 rfl (S.cel 1 rfl) rfl<|I1 rfl ?_;rw[bX];refine I5o 1 rfl rfl ?_;rw[<-bX];refine Zm 4 S gn rfl rfl rfl (by kernel_rfl) rfl bX (by rw[v0v];omega) (fun g S=>ag0) fun g S=>?_
   have S:SH h D ([hpR ph s2.H ah]++mcL mb ph P V {s2 with runs:=s2.runs.set l.toNat 0} w2) g:=by
    unfold mcL mcH;show SH h D (_::([_,_,_,slR 3 0 w2.rv (isV (s2.runs.set l.toNat 0)) (s2.runs.set l.toNat 0).length w2.rvb,_,_,_,_,_,_]++_)) g;rw[<-KX,v0q];have S2:=S;rw[v0e,v0A]at S2;exact S2
   obtain⟨fD,S⟩:=Qo (A:=[_]) S aC aH;refine QP<|I1 rfl<|I2 rfl<|Q0<|Q8 ?_;refine⟨.inl rfl,_,rfl,?_⟩
   exact(by
    refine⟨e,{s2 with runs:=s2.runs.set l.toNat 0},ah,tl,fD,rfl,.inr (.inr (.inr ⟨aL,hG,ai,.inr ⟨dG,b,s2,by rw[<-aY];exact hR,by rw[hbt];rfl⟩⟩)),?_⟩
    exact S)
 refine Q4<|Q7<|I1 rfl<|I2 rfl<|Q0<|Q8 ?_;refine⟨.inl rfl,_,rfl,?_⟩
 exact(by
  have hbt:b=false:=hb;refine⟨e,s2,ah,tl,bB,rfl,.inr (.inr (.inr ⟨aL,hG,ai,.inr ⟨dG,b,s2,by rw[<-aY];exact hR,by rw[hbt];rfl⟩⟩)),?_⟩
  exact S)
end
def TickR (s:MS) (n e:Int) (s':MS):Prop:=(s.full=true/\e=11/\s'=s)\/(e=10/\s'=s)\/(s.full=false/\e=0/\1<=n/\s.now+n<=1000000000000/\s'= {s with now:=s.now+n})
def tkN (s:MS) (i:Nat):MTask:=(s.T[i]?).getD default
def KI (s:MS) (t:MTask):Nat->MTask
 |0=>t
 |i+1=>if(decide ((tkN s i).kind=t.kind)&&decide ((tkN s i).of'=t.of'))=true then {KI s t i with prev:=i+1,nth:=(KI s t i).nth+1}else KI s t i
theorem Q0l {s:MS} {t:MTask}: ∀i,(KI s t i).kind=t.kind/\(KI s t i).of'=t.of'/\(KI s t i).fn=t.fn/\(KI s t i).looper=t.looper/\(KI s t i).delay=t.delay/\t.nth<=(KI s t i).nth/\(KI s t i).nth<=t.nth+i
 |0=>⟨rfl,rfl,rfl,rfl,rfl,v03 _,by show t.nth<=t.nth+0;omega⟩
 | i+1=>by
   obtain⟨h1,h2,h3,h4,h5,h6,h7⟩:=Q0l (s:=s) (t:=t) i;unfold KI
   split
   · exact⟨h1,h2,h3,h4,h5,by show t.nth<=(KI s t i).nth+1;omega,by show(KI s t i).nth+1<=t.nth+((i:Int)+1);omega⟩
   exact⟨h1,h2,h3,h4,h5,h6,by show(KI s t i).nth<=t.nth+((i:Int)+1);omega⟩
def Q4g (P:Prg) (s:MS) (t:MTask):MS:=if 256<=s.T.length then Q8J s else Y9 P s (KI s t s.T.length) []
def QaO (s:MS):Int:=if 256<=s.T.length then 11 else 0
section
variable {h0 h:Hp} {P:Prg} {V:PrV} {mb ph:Nat} {s:MS} {ae tp bs:List Nat}
theorem m29 {n:Int} (S0:SH h0 [] [hpR ph s.H ae,mcR mb ph P V s tp bs] h) (k:MOk P s):C modE 25 [Qk mb,iV n] h fun v g'=> ∃(e:Int) (s':MS) (ah tl aa:List Nat),v=iV e/\TickR s n e s'/\SH h (owns [hpR ph s.H ae,mcR mb ph P V s tp bs]) [hpR ph s'.H ah,mcR mb ph P V s' (tp++tl) aa] g':=by
 have SE:=S0.enterL;obtain⟨D,hD⟩: ∃D,D=owns [hpR ph s.H ae,mcR mb ph P V s tp bs]:=⟨_,rfl⟩;rw[<-hD]at SE ⊢;obtain⟨mX,mW⟩:=k.now;obtain⟨w,hw,bg,_,SE⟩:=QH (A:=[_]) SE;have SE:SH h D (hpR ph s.H ae::mcL mb ph P V s w) h:=SE;refine Q9 (fu:=Tryz.f25) (by kernel_rfl) rfl ?_;have S:=SE;refine Q7<|I2 rfl<|Z8<|I1 rfl<|I6 rfl<|I0 20 rfl<|I4 rfl (S.cel 1 rfl) rfl<|Q0<|Q2 rfl (fun hb=>?_) fun hb=>?_
 · skip
   refine Q7<|I2 rfl<|Q0<|Q8 ?_;refine⟨.inl rfl,_,rfl,?_⟩
   exact(by
    obtain⟨aa,S⟩:=Qo (A:=[_]) S hw bg
    exact⟨11,s,ae,[],aa,rfl,.inl ⟨hb,rfl,rfl⟩,by rw[v0k];exact S⟩)
 refine Q4<|Q5<|Q7 ?_;have aL:s.full=false:=hb;refine I1 rfl<|Il rfl rfl<|I1 rfl ?_
 refine Z4 (n:=2) rfl rfl rfl gn rfl (fun hb=>by
  refine D1 hb rfl<|Dg hb rfl rfl ?_
  exact Q0 ⟨rfl,rfl,2,rfl,rfl⟩) ?_
 refine I1 rfl ?_
 refine Z4 (n:=7) rfl rfl rfl gn rfl (fun hb=>by
  have jY:1<=n/\n<=1000000000000:=by simp at hb;omega
  refine D1 hb rfl<|D6 hb rfl<|D0 18 hb rfl<|D4 hb rfl (S.cel 1 rfl) rfl<|D1 hb rfl<|Dao hb rfl rfl<|Dg hb rfl rfl ?_
  exact Q0 ⟨rfl,rfl,7,rfl,rfl⟩) ?_
 refine Q0<|Q2 rfl (fun hb=>?_) fun hb=>?_
 · skip
   refine Q7<|I2 rfl<|Q0<|Q8 ?_;refine⟨.inl rfl,_,rfl,?_⟩
   exact(by
    obtain⟨aa,S⟩:=Qo (A:=[_]) S hw bg
    exact⟨10,s,ae,[],aa,rfl,.inr (.inl ⟨rfl,rfl⟩),by rw[v0k];exact S⟩)
 refine Q4<|Q7 ?_;have jY:1<=n/\n<=1000000000000/\s.now+n<=1000000000000:=by simp at hb;omega
 refine I1 rfl<|I1 rfl<|I6 rfl<|I0 18 rfl<|I4 rfl (S.cel 1 rfl) rfl<|I1 rfl<|Iao rfl rfl<|I6 rfl<|I0 18 rfl ?_;refine Qg 1 S gn rfl rfl rfl (by kernel_rfl) rfl (by decide) (by simp) (fun g S=>ag0) fun g S=>?_;refine QP<|I2 rfl<|Q0<|Q8 ?_;refine⟨.inl rfl,_,rfl,?_⟩
 exact(by
  obtain⟨aa,S⟩:=Qo (A:=[_]) (s:= {s with now:=s.now+n}) (w:=w) S hw bg
  exact⟨0,{s with now:=s.now+n},ae,[],aa,rfl,.inr (.inr ⟨aL,rfl,jY.1,jY.2.2,rfl⟩),by rw[v0k];exact S⟩)
theorem m58 {t:MTask} (S0:SH h0 [] [hpR ph s.H ae,mcR mb ph P V s tp bs] h) (X0:Q1m h0 P V) (hM:ZL P=true) (k:MOk P s) (f0:0<=t.fn) (f1:t.fn <P.funs.length) (an:t.looper <P.loopers) (hd:t.delay=0) (hn:t.nth=0) (cH:(Qt P t.fn).caps=0):C modE 63 [Qk mb,.agg (tkV t).toArray] h fun v g'=>v=iV (QaO s)/\ ∃tl aa,SH h (owns [hpR ph s.H ae,mcR mb ph P V s tp bs]) [hpR ph s.H ae,mcR mb ph P V (Q4g P s t) (tp++tl) aa] g':=by
 have SE:=S0.enterL;obtain⟨D,hD⟩: ∃D,D=owns [hpR ph s.H ae,mcR mb ph P V s tp bs]:=⟨_,rfl⟩;have aj: ∀i,i∈D->h0.n<=i:=by rw[hD];exact S0.own0L
 rw[<-hD]at SE ⊢;have hk:=k.t;obtain⟨w,hw,bg,_,SE⟩:=QH (A:=[_]) SE;have SE:SH h D (hpR ph s.H ae::mcL mb ph P V s w) h:=SE;obtain⟨ta,tc,br⟩:=Q6 (SE.sl 5 rfl);refine Q9 (fu:=Tryz.f63) (by kernel_rfl) rfl ?_;have S:=SE;refine Q7 ?_;refine Z9 S gn rfl rfl fun b1 g aJ S=>?_;have S:SH h D (cR b1 (.cells (tkV t) 85 0)::hpR ph s.H ae::mcL mb ph P V s w) g:=S;refine I2 rfl<|Z8<|I2 rfl<|Q0<|Qb ?_
 refine QB [(5,_)] [(0,_),(3,_)] (fun kk lv hh=> ∃i:Nat,lv=[(5,iV i)]/\kk=s.T.length -i/\i<=s.T.length/\SH h D (cR b1 (.cells (tkV (KI s t i)) 85 0)::hpR ph s.H ae::mcL mb ph P V s w) hh) (n:=s.T.length) ?_ fun kk lv hh hI=>?_
 · exact⟨0,rfl,rfl,v0s _,S⟩
 obtain⟨i,rfl,iS,aD,S⟩:=hI;refine Q5<|Q7<|I1 rfl<|I1 rfl<|I6 rfl<|I0 12 rfl<|I4 rfl (S.cel 2 rfl) rfl ?_;rw[br];refine I7 rfl ?_;rw[<-br];refine Il rfl rfl<|Q0<|Q2 rfl (fun hb=>?_) fun hb=>?_
 · skip
   refine Q4 ?_;have aD:i <s.T.length:=by simp at hb;omega
   obtain⟨tb,tm,tc2,tr,bh,jj,_⟩:=(S.sl 6 rfl).at (by omega);have eN:s.T[i]?=some (tkN s i):=by unfold tkN;rw[v0c aD];rfl
   have aP:=Q4H tr eN
   have k0:(tkC s.T++tr)[0+v0f (i:Int)*15+0]?=some (iV (tkN s i).kind):=by
    rw[v0i,v0e];exact Qs aP (by omega) rfl
   have k1:(tkC s.T++tr)[0+v0f (i:Int)*15+1]?=some (iV (tkN s i).of'):=by
    rw[v0i,v0e];exact Qs aP (by omega) rfl
   obtain⟨e1,e2,_,_,_,e6,e7⟩:=Q0l (s:=s) (t:=t) i;have c0:(tkV (KI s t i))[0+0]?=some (iV t.kind):=by rw[<-e1];rfl
   have c1:(tkV (KI s t i))[0+1]?=some (iV t.of'):=by rw[<-e2];rfl
   refine Q5<|Qb<|Q5<|I9<|I1 rfl<|I6 rfl<|I0 12 rfl<|I4 rfl (S.cel 2 rfl) rfl<|I1 rfl ?_;rw[bh];refine I5o 15 rfl rfl ?_;rw[<-bh];refine I0 0 rfl<|I4 rfl jj k0<|I0 0 rfl<|I4 rfl (S.cel 0 rfl) c0<|Ie rfl rfl<|I1 rfl ?_
   refine QY (n:=11) rfl rfl rfl gn rfl (fun hb=>by
    refine D1 hb rfl<|D6 hb rfl<|D0 12 hb rfl<|D4 hb rfl (S.cel 2 rfl) rfl<|D1 hb rfl ?_;rw[bh];refine D5o 15 hb rfl rfl ?_;rw[<-bh];refine D0 1 hb rfl<|D4 hb rfl jj k1<|D0 1 hb rfl<|D4 hb rfl (S.cel 0 rfl) c1<|De hb rfl rfl ?_
    exact Q0 ⟨rfl,rfl,11,rfl,rfl⟩) ?_
   refine Q0<|Q2 rfl (fun hb=>?_) fun hb=>?_
   · skip
     refine Q7<|I1 rfl<|Iao rfl rfl<|I0 14 rfl ?_;refine Qg 0 S gn rfl rfl rfl (by kernel_rfl) rfl (by decide) (by rw[ZK];decide) (fun g S=>ag0) fun g S=>?_;have c6:((tkV (KI s t i)).set (0+14) (iV ((i:Int)+1)))[0+6]?=some (iV (KI s t i).nth):=rfl;refine Q0<|Q3 (by kernel_rfl)<|I0 6 rfl<|I4 rfl (S.cel 0 rfl) c6<|Iao rfl rfl<|I0 6 rfl ?_;refine Qg 0 S gn rfl rfl rfl (by kernel_rfl) rfl (by decide) (by rw[v0q,ZK];decide) (fun g S=>ag0) fun g S=>?_;refine Q0<|Q3 (by kernel_rfl)<|I1 rfl<|Iao rfl rfl<|I2 rfl<|Q0 ?_
     exact K3 (s.T.length - (i+1)) [(5,_)] (p:=⟨i+1,rfl,rfl,by omega,by
      have e:KI s t (i+1)= {KI s t i with prev:=i+1,nth:=(KI s t i).nth+1}:=if_pos hb
      rw[e];exact S⟩)
   refine Q4<|Q3 (by kernel_rfl)<|I1 rfl<|Iao rfl rfl<|I2 rfl<|Q0 ?_
   exact K3 (s.T.length - (i+1)) [(5,_)] (p:=⟨i+1,rfl,rfl,by omega,by
    have e:KI s t (i+1)=KI s t i:=if_neg (by rw[show(decide ((tkN s i).kind=t.kind)&&decide ((tkN s i).of'=t.of'))=false from hb];decide)
    rw[e];exact S⟩)
 refine QF<|Qh<|Qn<|QE ?_;obtain rfl:i=s.T.length:=by simp at hb;omega
 obtain⟨t1,gT⟩: ∃t1,t1=KI s t s.T.length:=⟨_,rfl⟩;obtain⟨e1,e2,e3,e4,e5,e6,e7⟩:=Q0l (s:=s) (t:=t) s.T.length;rw[<-gT]at S e1 e2 e3 e4 e5 e6 e7;obtain⟨bz,S⟩:=Qo (A:=[_,_]) S hw bg;have S:SH h D [cR b1 (.cells (tkV t1) 85 0),hpR ph s.H ae,mcR mb ph P V s tp bz] _:=S;refine Q5<|Q7<|I1 rfl<|Zb (n:=15) gn rfl rfl (by kernel_rfl) (by kernel_rfl) (S.cel 0 rfl) (by rw[ZK];decide) ?_
 refine QZ [_,_,_] gn rfl rfl (by kernel_rfl) rfl (C.mono (m26 (t:=t1) (cells:=[]) (SH.sub1 S0 aj S 2 rfl) X0 hM k (by rw[e3];exact f0) (by rw[e3];exact f1) (by rw[e4];exact an) (by rw[e5,hd];omega) (fun _ _=>RowV.nil) (by rw[e3,cH];rfl)) ?_);rintro v g ⟨rfl,tl,bk,S2⟩;have S:=S.ret 2 rfl S2;refine⟨ag0,?_⟩;refine Ie rfl rfl<|Q0<|Q2 rfl (fun hb=>?_) fun hb=>?_
 · skip
   refine Q7 ?_
   have hf:256<=s.T.length:=by
    refine Classical.byContradiction fun e=>?_;unfold QbI at hb;rw[if_neg e]at hb;simp at hb;omega
   refine I1 rfl<|Ic [_] rfl rfl (C.mono (m53 (SH.sub1 S0 aj S 2 rfl)) ?_);rintro v g ⟨rfl,bB,S2⟩;have S:=S.ret 2 rfl S2;refine⟨ag0,?_⟩;refine I2 rfl<|Q0<|Q8 ?_;refine⟨.inl rfl,_,rfl,?_⟩
   exact(by
    have dv:Y9 P s t1 []=s:=by unfold Y9;rw[if_pos hf]
    rw[dv]at S;refine⟨by unfold QaO;rw[if_pos hf];rfl,tl,bB,?_⟩
    unfold Q4g;rw[if_pos hf];exact S.drop)
 refine Q4<|Q7<|I2 rfl<|Q0<|Q8 ?_;refine⟨.inl rfl,_,rfl,?_⟩
 exact(by
  have hf: ¬256<=s.T.length:=by
   intro e;unfold QbI at hb;rw[if_pos e]at hb;simp at hb
  refine⟨by unfold QaO;rw[if_neg hf];rfl,tl,bk,?_⟩
  unfold Q4g;rw[if_neg hf,<-gT];exact S.drop)
end
def evA (P:Prg) (e:Int):Int×Int:=(P.events[e.toNat]?).getD (0,0)
def coA (P:Prg) (c:Int):Int×List Int:=(P.comps[c.toNat]?).getD (0,[])
def injT (P:Prg) (s:MS) (e n:Int):MTask:=⟨3,e,0,(evA P e).2,(evA P e).1,0,0,false,0,0,n,0,0,reg s.on e,0⟩
def InjR (P:Prg) (s:MS) (e n r:Int) (s':MS):Prop:=(s.full=true/\r=11/\s'=s)\/(r=10/\s'=s)\/(s.full=false/\0<=e/\e <P.events.length/\onL s.E e=true/\r=QaO s/\s'=Q4g P s (injT P s e n))
theorem QaN {P:Prg} {s:MS} {t:MTask}:(Q4g P s t).H=s.H:=by
 unfold Q4g
 split
 · rfl
 exact QdO
theorem K9 {P:Prg} {f:Int} (h:Q06 P f=true):0<=f/\f <P.funs.length/\(Qt P f).caps=0:=by
 unfold Q06 at h;simp only[v0g,decide_eq_true_eq]at h;obtain⟨h1,h2⟩:=h;obtain⟨h3,h4⟩:=Z5.1 h1;refine⟨h3,h4,?_⟩;unfold Jw at h2;rw[Jb h3 h4]at h2;exact h2
theorem Q5e {P:Prg} {e:Int} (hM:ZL P=true) (h0:0<=e) (h1:e <P.events.length):(0<=(evA P e).1/\(evA P e).1 <P.loopers)/\Q06 P (evA P e).2=true:=by
 unfold ZL YQ at hM;simp only[v0g,v0u]at hM;have:=hM.1.2.2.2 (evA P e) (by unfold evA;rw[v0c (by omega)];exact v0M _);unfold Q2u at this;simp only[v0g]at this;exact⟨Z5.1 this.1,this.2⟩
theorem Q7K {P:Prg} {c:Int} (hM:ZL P=true) (h0:0<=c) (h1:c <P.comps.length):(0<=(coA P c).1/\(coA P c).1 <P.loopers)/\ ∀f,f∈(coA P c).2->0<=f->Q06 P f=true:=by
 unfold ZL YQ at hM;simp only[v0g,v0u]at hM;have:=hM.1.2.2.1 (coA P c) (by unfold coA;rw[v0c (by omega)];exact v0M _);unfold Q6X at this;simp only[v0g,v0u,v0K,v0J,decide_eq_false_iff_not]at this;exact⟨Z5.1 this.2,fun f hf h=>(this.1 f hf).elim (fun k=>absurd h k) id⟩
section
variable {h0 h:Hp} {P:Prg} {V:PrV} {mb ph:Nat} {s:MS} {ae tp bs:List Nat}
theorem m30 {e n:Int} (S0:SH h0 [] [hpR ph s.H ae,mcR mb ph P V s tp bs] h) (X0:Q1m h0 P V) (hM:ZL P=true) (k:MOk P s):C modE 26 [Qk mb,iV e,iV n] h fun v g'=> ∃(r:Int) (s':MS) (ah tl aa:List Nat),v=iV r/\InjR P s e n r s'/\SH h (owns [hpR ph s.H ae,mcR mb ph P V s tp bs]) [hpR ph s'.H ah,mcR mb ph P V s' (tp++tl) aa] g':=by
 have SE:=S0.enterL;obtain⟨D,hD⟩: ∃D,D=owns [hpR ph s.H ae,mcR mb ph P V s tp bs]:=⟨_,rfl⟩;have aj: ∀i,i∈D->h0.n<=i:=by rw[hD];exact S0.own0L
 rw[<-hD]at SE ⊢;have lR:=k.on;obtain⟨w,hw,bg,_,SE⟩:=QH (A:=[_]) SE;have SE:SH h D (hpR ph s.H ae::mcL mb ph P V s w) h:=SE;have back: ∀g,SH h D (hpR ph s.H ae::mcL mb ph P V s w) g-> ∃aa,SH h D [hpR ph s.H ae,mcR mb ph P V s tp aa] g:=fun g S=>Qo (A:=[_]) S hw bg;have X:Q1m h P V:=X0.ext (S0.all0 aj SE);obtain⟨_,_,_,_,_,⟨eva,evc,iz⟩,_⟩:=X.vals;refine Q9 (fu:=Tryz.f26) (by kernel_rfl) rfl ?_;have S:=SE;refine Q7<|I2 rfl<|Z8<|I1 rfl<|I6 rfl<|I0 20 rfl<|I4 rfl (S.cel 1 rfl) rfl<|Q0<|Q2 rfl (fun hb=>?_) fun hb=>?_
 · skip
   refine Q7<|I2 rfl<|Q0<|Q8 ?_;refine⟨.inl rfl,_,rfl,?_⟩
   exact(by
    obtain⟨aa,S⟩:=back _ S
    exact⟨11,s,ae,[],aa,rfl,.inl ⟨hb,rfl,rfl⟩,by rw[v0k];exact S⟩)
 refine Q4<|Q5<|Q7 ?_;have aL:s.full=false:=hb;refine I1 rfl<|Il rfl rfl<|I1 rfl ?_
 refine Z4 (n:=8) rfl rfl rfl gn rfl (fun hb=>by
  refine D1 hb rfl<|D1 hb rfl<|D6 hb rfl<|D0 0 hb rfl<|D0 5 hb rfl<|D4 hb rfl (S.cel 1 rfl) rfl ?_;rw[iz];refine D7 hb rfl ?_;rw[<-iz];refine Dh hb rfl rfl ?_
  exact Q0 ⟨rfl,rfl,8,rfl,rfl⟩) ?_
 refine I1 rfl ?_
 refine Z4 (n:=7) rfl rfl rfl gn rfl (fun hb=>by
  refine D1 hb rfl<|D6 hb rfl<|D0 9 hb rfl<|D4 hb rfl (S.cel 1 rfl) rfl<|D1 hb rfl<|Dc hb [_,_] rfl rfl (Ql (m57 (S.res 2 rfl) k.e2) ⟨ag0,?_⟩);refine Db hb rfl ?_
  exact Q0 ⟨rfl,rfl,7,rfl,rfl⟩) ?_
 refine Q0<|Q2 rfl (fun hb=>?_) fun hb=>?_
 · skip
   refine Q7<|I2 rfl<|Q0<|Q8 ?_;refine⟨.inl rfl,_,rfl,?_⟩
   exact(by
    obtain⟨aa,S⟩:=back _ S
    exact⟨10,s,ae,[],aa,rfl,.inr (.inl ⟨rfl,rfl⟩),by rw[v0k];exact S⟩)
 refine Q4<|Q7 ?_
 have oj:(decide (e <0)||decide ((P.events.length:Int)<=e))=false/\onL s.E e=true:=by
  have aZ:((decide (e <0)||decide ((P.events.length:Int)<=e))|| !onL s.E e)=false:=hb;rw[v06]at aZ;exact⟨aZ.1,by simpa using aZ.2⟩
 have he:0<=e/\e <P.events.length:=by
  have:=oj.1;simp at this;omega
 obtain⟨vb,vo,vc,vcs,ve,vm,bR,kH,mB,hvn,e8⟩:=X.ev.at (by omega);obtain⟨⟨es,eb,aq⟩,_,_⟩:=e8 e.toNat (by omega);have eE:P.events[e.toNat]'(by omega)=evA P e:=by unfold evA;rw[v0c (by omega)];rfl
 rw[eE]at aq;refine I1 rfl<|I6 rfl<|I0 0 rfl<|I0 5 rfl<|I4 rfl (S.cel 1 rfl) rfl<|I1 rfl ?_;rw[bR];refine I5o 4 rfl rfl ?_;rw[<-bR];refine I3 4 rfl kH (by omega) ?_;rw[aq];refine Qx (zv:=.agg #[.string .empty,iV 0,.bool false,iV 0]) S gn rfl (by kernel_rfl) fun b1 g aJ S=>?_;refine Qi (n:=4) 0 S gn rfl rfl rfl (by kernel_rfl) rfl rfl (by decide) rfl (fun g S=>ag0) fun g S=>?_;have S:SH h D (cR b1 (.cells [.string es,iV (evA P e).1,.bool eb,iV (evA P e).2] 96 0)::hpR ph s.H ae::mcL mb ph P V s w) g:=S;obtain⟨ob,oc,ocs,om,aW,fk,aT⟩:=Q5r (R:=s.on) (S.sl 11 rfl) he.1 (by omega)
 refine Q0<|Q5<|I9<|I1 rfl<|I1 rfl<|I0 3 rfl<|I4 rfl (S.cel 0 rfl) rfl<|I0 1 rfl<|I4 rfl (S.cel 0 rfl) rfl<|I1 rfl<|I1 rfl<|I6 rfl<|I0 17 rfl<|I4 rfl (S.cel 2 rfl) rfl<|I1 rfl ?_;rw[aW];refine I5o 1 rfl rfl ?_;rw[<-aW];refine I4 rfl fk aT ?_
 refine Qq (cs:=(tkV (injT P s e n)).toArray) (zv:=.agg #[iV 0,iV 0,iV 0,iV 0,iV 0,iV 0,iV 0,.bool false,iV 0,iV 0,iV 0,iV 0,iV 0,iV 0,iV 0]) (pl:=[(0,1),(1,1),(2,1),(3,1),(4,1),(5,1),(6,1),(7,1),(8,1),(9,1),(10,1),(11,1),(12,1),(13,1),(14,1)]) [(0,_),(1,_),(3,_),(4,_),(10,_),(13,_)] gn rfl (by kernel_rfl) (by kernel_rfl) rfl (by kernel_rfl) ?_;obtain⟨bz,S⟩:=back _ S.drop;have m5:=Q5e hM he.1 he.2;have dN:=K9 m5.2;refine Ic [_,_] rfl rfl (C.mono (m58 (t:=injT P s e n) (SH.subL (A:=[_,_]) (B:=[]) S0 aj S) X0 hM k dN.1 dN.2.1 m5.1.2 rfl rfl dN.2.2) ?_);rintro v g ⟨rfl,tl,bB,S2⟩
 have S:=SH.retL (A:=[_,_]) (B:=[]) S S2;refine⟨ag0,?_⟩;refine I2 rfl<|Q0<|Q8 ?_;refine⟨.inl rfl,_,rfl,?_⟩
 exact(by
  refine⟨QaO s,Q4g P s (injT P s e n),ae,tl,bB,rfl,.inr (.inr ⟨aL,he.1,he.2,oj.2,rfl,rfl⟩),?_⟩
  rw[QaN];exact S)
end
def QcD (P:Prg) (c w:Int):MTask:=⟨2,c,w,reg (coA P c).2 w,(coA P c).1,0,0,false,0,0,0,0,0,-1,0⟩
def LifM (P:Prg) (s:MS) (c w:Int) (s1:MS):Prop:=(reg (coA P c).2 w <0/\s1=s)\/(0<=reg (coA P c).2 w/\QaO s=0/\s1=Q4g P s (QcD P c w))
def LifR (P:Prg) (s:MS) (c w r:Int) (s':MS):Prop:=(s.full=true/\r=11/\s'=s)\/(r=10/\s'=s)\/(s.full=false/\0<=c/\c <P.comps.length/\Q5V s.K c w=true/\(coA P c).2.length=4/\
 ((0<=reg (coA P c).2 w/\QaO s≠0/\r=QaO s/\s'=Q4g P s (QcD P c w))\/(r=0/\ ∃s1,LifM P s c w s1/\s'= {s1 with K:=goL s.K c w})))
theorem addM_K {P:Prg} {s:MS} {t:MTask} {c:List Int}:(Y9 P s t c).K=s.K:=by
 unfold Y9
 split<;>rfl
theorem QdF {P:Prg} {s s1:MS} {c w:Int} (h:LifM P s c w s1):s1.K=s.K/\s1.H=s.H:=by
 rcases h with⟨_,rfl⟩| ⟨_,_,rfl⟩
 · exact⟨rfl,rfl⟩
 refine⟨?_,QaN⟩;unfold Q4g
 split
 · rfl
 exact addM_K
section
variable {h0 h:Hp} {P:Prg} {V:PrV} {mb ph:Nat} {s:MS} {ae tp bs:List Nat}
theorem m31 {c w:Int} (S0:SH h0 [] [hpR ph s.H ae,mcR mb ph P V s tp bs] h) (X0:Q1m h0 P V) (hM:ZL P=true) (k:MOk P s):C modE 27 [Qk mb,iV c,iV w] h fun v g'=> ∃(r:Int) (s':MS) (ah tl aa:List Nat),v=iV r/\LifR P s c w r s'/\SH h (owns [hpR ph s.H ae,mcR mb ph P V s tp bs]) [hpR ph s'.H ah,mcR mb ph P V s' (tp++tl) aa] g':=by
 have SE:=S0.enterL;obtain⟨D,hD⟩: ∃D,D=owns [hpR ph s.H ae,mcR mb ph P V s tp bs]:=⟨_,rfl⟩;have aj: ∀i,i∈D->h0.n<=i:=by rw[hD];exact S0.own0L
 rw[<-hD]at SE ⊢;obtain⟨w0,hw,bg,_,SE⟩:=QH (A:=[_]) SE;have SE:SH h D (hpR ph s.H ae::mcL mb ph P V s w0) h:=SE;have back: ∀g,SH h D (hpR ph s.H ae::mcL mb ph P V s w0) g-> ∃aa,SH h D [hpR ph s.H ae,mcR mb ph P V s tp aa] g:=fun g S=>Qo (A:=[_]) S hw bg;have X:Q1m h P V:=X0.ext (S0.all0 aj SE);obtain⟨_,_,_,_,⟨coa,coc,iB⟩,_⟩:=X.vals;refine Q9 (fu:=Tryz.f27) (by kernel_rfl) rfl ?_;have S:=SE;refine Q7<|I2 rfl<|Z8<|I1 rfl<|I6 rfl<|I0 20 rfl<|I4 rfl (S.cel 1 rfl) rfl<|Q0<|Q2 rfl (fun hb=>?_) fun hb=>?_
 · skip
   refine Q7<|I2 rfl<|Q0<|Q8 ?_;refine⟨.inl rfl,_,rfl,?_⟩
   exact(by
    obtain⟨aa,S⟩:=back _ S
    exact⟨11,s,ae,[],aa,rfl,.inl ⟨hb,rfl,rfl⟩,by rw[v0k];exact S⟩)
 refine Q4<|Q5<|Q7 ?_;have aL:s.full=false:=hb;refine I1 rfl<|Il rfl rfl<|I1 rfl ?_
 refine Z4 (n:=8) rfl rfl rfl gn rfl (fun hb=>by
  refine D1 hb rfl<|D1 hb rfl<|D6 hb rfl<|D0 0 hb rfl<|D0 4 hb rfl<|D4 hb rfl (S.cel 1 rfl) rfl ?_;rw[iB];refine D7 hb rfl ?_;rw[<-iB];refine Dh hb rfl rfl ?_
  exact Q0 ⟨rfl,rfl,8,rfl,rfl⟩) ?_
 refine I1 rfl ?_
 refine Z4 (n:=8) rfl rfl rfl gn rfl (fun hb=>by
  refine D1 hb rfl<|D6 hb rfl<|D0 9 hb rfl<|D4 hb rfl (S.cel 1 rfl) rfl<|D1 hb rfl<|D1 hb rfl<|Dc hb [_,_,_] rfl rfl (Ql (m59 (S.res 2 rfl) k.k2) ⟨ag0,?_⟩);refine Db hb rfl ?_
  exact Q0 ⟨rfl,rfl,8,rfl,rfl⟩) ?_
 refine Q0<|Q2 rfl (fun hb=>?_) fun hb=>?_
 · skip
   refine Q7<|I2 rfl<|Q0<|Q8 ?_;refine⟨.inl rfl,_,rfl,?_⟩
   exact(by
    obtain⟨aa,S⟩:=back _ S
    exact⟨10,s,ae,[],aa,rfl,.inr (.inl ⟨rfl,rfl⟩),by rw[v0k];exact S⟩)
 refine Q4<|Q7 ?_
 have oj:(decide (c <0)||decide ((P.comps.length:Int)<=c))=false/\Q5V s.K c w=true:=by
  have aZ:((decide (c <0)||decide ((P.comps.length:Int)<=c))|| !Q5V s.K c w)=false:=hb;rw[v06]at aZ;exact⟨aZ.1,by simpa using aZ.2⟩
 have hc:0<=c/\c <P.comps.length:=by
  have:=oj.1;simp at this;omega
 have bN:=oj.2
 have hw4:0<=w/\w<=3:=by
  unfold Q5V at bN;rw[v0g]at bN;exact Q1C bN.2
 obtain⟨vb,vo,vc,vcs,ve,vm,bR,kH,mB,hvn,e8⟩:=X.co.at (by omega);obtain⟨⟨es,f0,f1,f2,f3,aq,fy⟩,_,_⟩:=e8 c.toNat (by omega);have eE:P.comps[c.toNat]'(by omega)=coA P c:=by unfold coA;rw[v0c (by omega)];rfl
 rw[eE]at aq fy
 have hfw:([.string es,iV (coA P c).1,iV f0,iV f1,iV f2,iV f3]:List Value)[0+2+v0f w*1]?=some (iV (reg (coA P c).2 w)):=by
  rw[fy];have:w=0\/w=1\/w=2\/w=3:=by omega
  rcases this with rfl|rfl|rfl|rfl<;>rfl
 refine I1 rfl<|I6 rfl<|I0 0 rfl<|I0 4 rfl<|I4 rfl (S.cel 1 rfl) rfl<|I1 rfl ?_;rw[bR];refine I5o 6 rfl rfl ?_;rw[<-bR];refine I3 6 rfl kH (by omega) ?_;rw[aq];refine Qx (zv:=.agg #[.string .empty,iV 0,iV 0,iV 0,iV 0,iV 0]) S gn rfl (by kernel_rfl) fun b1 g aJ S=>?_;refine Qi (n:=6) 0 S gn rfl rfl rfl (by kernel_rfl) rfl rfl (by decide) rfl (fun g S=>ag0) fun g S=>?_;have S:SH h D (cR b1 (.cells [.string es,iV (coA P c).1,iV f0,iV f1,iV f2,iV f3] 151 0)::hpR ph s.H ae::mcL mb ph P V s w0) g:=S;refine Q0 ?_
 refine ZF [(0,Qk mb),(1,iV c),(2,iV w)] (fun lv hh=>lv=[]/\ ∃(s1:MS) (tl aa:List Nat),LifM P s c w s1/\SH h D [hpR ph s.H ae,mcR mb ph P V s1 (tp++tl) aa] hh) ?_ fun lv hh hJ=>?_
 · skip
   refine Q7<|I1 rfl<|I0 2 rfl<|YR (n:=4) (e:=3) (zz:=1) gn rfl rfl rfl (by kernel_rfl) (by omega) (by omega)<|I4 rfl (S.cel 0 rfl) hfw<|Ih rfl rfl<|Q0<|Q2 rfl (fun hb=>?_) fun hb=>?_
   · skip
     refine Q5<|I9 ?_;have gN:0<=reg (coA P c).2 w:=by simpa using hb
     refine I1 rfl<|I1 rfl<|I1 rfl<|I1 rfl<|I0 2 rfl<|YR (n:=4) (e:=3) (zz:=1) gn rfl rfl rfl (by kernel_rfl) (by omega) (by omega)<|I4 rfl (S.cel 0 rfl) hfw<|I0 1 rfl<|I4 rfl (S.cel 0 rfl) rfl<|Qq (cs:=(tkV (QcD P c w)).toArray) (zv:=.agg #[iV 0,iV 0,iV 0,iV 0,iV 0,iV 0,iV 0,.bool false,iV 0,iV 0,iV 0,iV 0,iV 0,iV 0,iV 0]) (pl:=[(0,1),(1,1),(2,1),(3,1),(4,1),(5,1),(6,1),(7,1),(8,1),(9,1),(10,1),(11,1),(12,1),(13,1),(14,1)]) [(0,_),(1,_),(2,_),(3,_),(4,_),(13,_)] gn rfl (by kernel_rfl) (by kernel_rfl) rfl (by kernel_rfl) ?_
     obtain⟨bz,S⟩:=back _ S.drop;have m5:=Q7K hM hc.1 hc.2
     have dN:=K9 (m5.2 (reg (coA P c).2 w) (by
      rw[fy];have:w=0\/w=1\/w=2\/w=3:=by omega
      rcases this with rfl|rfl|rfl|rfl<;>simp[reg]) gN)
     refine Ic [_,_] rfl rfl (C.mono (m58 (t:=QcD P c w) (SH.subL (A:=[_,_]) (B:=[]) S0 aj S) X0 hM k dN.1 dN.2.1 m5.1.2 rfl rfl dN.2.2) ?_);rintro v g ⟨rfl,tl,bB,S2⟩;have S:=SH.retL (A:=[_,_]) (B:=[]) S S2;refine⟨ag0,?_⟩;refine I2 rfl<|QP<|I1 rfl<|In rfl rfl<|Q0<|Q2 rfl (fun hb=>?_) fun hb=>?_
     · skip
       refine Q7<|I1 rfl<|I2 rfl<|Q0<|Q8 ?_;refine⟨.inl rfl,_,rfl,?_⟩
       exact(by
        have ao:QaO s≠0:=by simpa using hb
        refine⟨QaO s,Q4g P s (QcD P c w),ae,tl,bB,rfl,.inr (.inr ⟨aL,hc.1,hc.2,bN,by rw[fy];rfl,.inl ⟨gN,ao,rfl,rfl⟩⟩),?_⟩
        rw[QaN];exact S)
     refine Q4 ?_
     exact Zr [] (p:=(by
      have lW:QaO s=0:=by simpa using hb
      exact⟨rfl,_,tl,bB,.inr ⟨gN,lW,rfl⟩,S⟩))
   refine Q4 ?_
   exact Zr [] (p:=(by
    have gN:reg (coA P c).2 w <0:=by simpa using hb
    obtain⟨bz,S⟩:=back _ S.drop
    exact⟨rfl,s,[],bz,.inl ⟨gN,rfl⟩,by rw[v0k];exact S⟩))
 obtain⟨rfl,s1,tl,bz,hL,S⟩:=hJ;obtain⟨w1,cp,ji,_,S⟩:=QH (A:=[_]) S;have S:SH h D (hpR ph s.H ae::mcL mb ph P V s1 w1) hh:=S;obtain⟨eK,eH⟩:=QdF hL;refine Q7<|I1 rfl<|I6 rfl<|I0 9 rfl<|I4 rfl (S.cel 1 rfl) rfl<|I1 rfl<|I1 rfl ?_;refine QZ [_,_,_] gn rfl rfl (by kernel_rfl) rfl (C.mono (m60 (K:=s1.K) (E:=s1.E) (SH.sub1 S0 aj S 2 rfl) (by rw[eK];exact k.k2)) ?_);rintro v g ⟨rfl,bB,S2⟩;have S:=S.ret 2 rfl S2;refine⟨ag0,?_⟩;refine QP<|I2 rfl<|Q0<|Q8 ?_;refine⟨.inl rfl,_,rfl,?_⟩
 exact(by
  obtain⟨fD,S⟩:=Qo (A:=[_]) (s:= {s1 with K:=goL s1.K c w}) (w:= {w1 with lbs:=bB}) S cp ji;refine⟨0,{s1 with K:=goL s1.K c w},ae,tl,fD,rfl,.inr (.inr ⟨aL,hc.1,hc.2,bN,by rw[fy];rfl,.inr ⟨rfl,s1,hL,by rw[eK]⟩⟩),?_⟩;show SH h D [hpR ph s1.H ae,_] _
  rw[eH];exact S)
end
end Go.Proofs.YtljpajcmdjmeaaaGreat
