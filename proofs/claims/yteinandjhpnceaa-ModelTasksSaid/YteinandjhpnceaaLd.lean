/- The document's machine: a task made of a closure. Conditions: it is one's own, of a program that may be. The document's machine: what a task asks for. Conditions: it is one's own, of a program that may be. The document's machine: a task's step. Conditions: it is one's own, of a program that may be. The document's machine: a task's step. Conditions: it is one's own, of a program that may be. The document's machine: a worker's step. Conditions: it is one's own, of a program that may be. The document's machine: a looper's step. Conditions: it is one's own, of a program that may be. The document's machine: time goes on; a task that follows. Conditions: it is one's own, of a program that may be. The document's machine: events and lives. Conditions: it is one's own, of a program that may be. The document's machine: lives. Conditions: it is one's own, of a program that may be. -/
import Derived.Test.YteinandjhpnceaaLc
namespace Go.Proofs.Yteinandjhpnceaa
open Go.X Go.May Go.Mac
def mdB (P:Prg) (s:MS) (v:Int):Bool:=isO s.H v 4&&(decide (0<=(QR s.H v).of)&&decide ((QR s.H v).of <P.funs.length)&&decide (((QR s.H v).vals.length:Int)=(Qt P (QR s.H v).of).caps))
def mdT (s:MS) (id:Int) (a:MAsk) (fn:Int):MTask:=
 if a.op=28 then⟨5,a.site,0,fn,-1,id,0,false,0,0,0,0,0,s.M.length,0⟩else
 if a.op=24 then⟨4,a.site,0,fn,a.looper,id,0,true,0,0,0,0,0,s.M.length,0⟩else⟨4,a.site,0,fn,a.looper,id,0,false,a.n,0,0,0,0,s.M.length,0⟩
def mdK (a:MAsk):Int:=if a.op=28 then 5 else 4
def Q9C (s:MS) (id:Int) (i:Nat):Nat:=((s.T.take i).filter fun t=>decide (t.by'=id)).length
def mdN (s:MS) (id:Int) (a:MAsk) (fn:Int):MTask:= {mdT s id a fn with nth:=Q9C s id s.T.length}
def thS (s:MS) (id:Int) (T':MThr):MS:= {s with Th:=s.Th.set (id -1).toNat T'}
def mdS (P:Prg) (s:MS) (id:Int) (a:MAsk):MS:=
 if mdB P s a.v=true then
  if 256<=s.T.length then {s with full:=true}else
   thS (Yj (Y4 P s (mdN s id a (QR s.H a.v).of) (QR s.H a.v).vals) (mdK a) id (s.T.length+1)) id (Q1n P (Zt s id) (s.T.length+1))
 else s
def mdE (P:Prg) (s:MS) (a:MAsk):Int:=if mdB P s a.v=true/\256<=s.T.length then 11 else 0
theorem QfC {s:MS} {id fn:Int} {a:MAsk}: {mdT s id a fn with nth:=Q9C s id 0}=mdT s id a fn:=by
 unfold mdT
 split
 · rfl
 split<;>rfl
theorem Qft {s:MS} {id:Int} {i:Nat}:Q9C s id i<=i:=by
 unfold Q9C;refine Nat.le_trans (List.length_filter_le ..) ?_;rw[List.length_take];omega
theorem Q5s {s:MS} {id:Int} {i:Nat} (hi:i <s.T.length):Q9C s id (i+1)=if(s.T[i]).by'=id then Q9C s id i+1 else Q9C s id i:=by
 unfold Q9C;rw[List.take_add_one,List.getElem?_eq_getElem hi,List.filter_append,List.length_append];by_cases e:(s.T[i]).by'=id
 · rw[if_pos e];simp[e]
 rw[if_neg e];simp[e]
section
variable {h0 h:Hp} {P:Prg} {V:PrV} {mb ph:Nat} {s:MS} {hbs tp bs:List Nat}
set_option maxHeartbeats 4000000 in
theorem m93 {id:Int} {a:MAsk} {sv:Value} (S0:SH h0 [] [hpR ph s.H hbs,mcR mb ph P V s tp bs] h) (X0:Q1f h0 P V) (hM:ZJ P=true) (k:MOk P s) (h1:1<=id) (h2:id<=s.T.length) (hm:s.M.length<=99990) (hs:cellV sv=true) (hlo:a.op≠28->0<=a.looper/\a.looper <P.loopers) (hd:a.op≠28->a.op≠24->0<=a.n/\a.n<=1000000000):C modE 93 [Qw mb,iV id,askV a sv] h fun v g'=>v=.tuple #[.bool (!mdB P s a.v),iV (mdE P s a)]/\ ∃hbs' tl bs',SH h (owns [hpR ph s.H hbs,mcR mb ph P V s tp bs]) [hpR ph s.H hbs',mcR mb ph P V (mdS P s id a) (tp++tl) bs'] g':=by
 have SE:=S0.enterL;obtain⟨D,hD⟩: ∃D,D=owns [hpR ph s.H hbs,mcR mb ph P V s tp bs]:=⟨_,rfl⟩;have hown: ∀i,i∈D->h0.n<=i:=by rw[hD];exact S0.own0L
 rw[<-hD]at SE ⊢;obtain⟨w,hw,htp,_,SE⟩:=QG (A:=[_]) SE;have SE:SH h D (hpR ph s.H hbs::mcL mb ph P V s w) h:=SE;have hk:=k.t;have hkh:=k.h;obtain⟨ma,mc,hmv⟩:=Qa (SE.sl 9 rfl);obtain⟨ta,tc,htv⟩:=Qa (SE.sl 5 rfl);refine Q8 (fu:=Try.f93) (by kernel_rfl) rfl ?_;have S:=SE;refine Q6 ?_;refine QX S gn rfl rfl fun b1 g nb1 S=>?_;have S:SH h D (cR b1 (.cells (YF a sv) 172 0)::hpR ph s.H hbs::mcL mb ph P V s w) g:=S;refine I2 rfl<|I2 rfl<|Q0<|Q3<|Q3<|I9<|I1 rfl<|I6 rfl<|I0 8 rfl<|I4 rfl (S.cel 2 rfl) rfl<|I0 3 rfl ?_
 refine I4 rfl (S.cel 0 rfl) rfl<|Ic [_,_,_] rfl rfl (Qr (m89 (S.res 1 rfl) (by omega)) ⟨ag0,?_⟩);refine Ib rfl<|Q0<|Q2 rfl (fun hb=>?_) fun hb=>?_
 · skip
   refine Q6<|I2 rfl<|I2 rfl<|Q0<|Q7 ?_;refine⟨.inl rfl,_,rfl,?_⟩
   exact(by
    have hno:mdB P s a.v=false:=by
     unfold mdB;have:isO s.H a.v 4=false:=by simpa using hb
     rw[this];rfl
    obtain⟨bs',S⟩:=Qq (A:=[_]) S.drop hw htp;refine⟨by rw[hno];unfold mdE;rw[hno];rfl,hbs,[],bs',?_⟩
    unfold mdS;rw[hno,List.append_nil];exact S)
 refine Q4<|Q3<|I9 ?_;have hisO:isO s.H a.v 4=true:=by simpa using hb
 obtain⟨RH,va,vc,vb,ob,oc,om,ocs,hpg,hog,hol,hoc,hi0,hi1,S,hback⟩:=QfU S.swap (Q4j hisO);obtain⟨o,ho⟩: ∃o,o=QR s.H a.v:=⟨_,rfl⟩;rw[<-ho]at hoc S hback;obtain⟨sl,hsl⟩: ∃sl,sl=slR 2 0 (.slice va o.vals.length vc) (isV o.vals) o.vals.length vb:=⟨_,rfl⟩;rw[<-hsl]at S hback;have S:SH h D (cR b1 (.cells (YF a sv) 172 0)::(mcL mb ph P V s w++(sl::RH))) g:=SH.comm (A:=sl::RH) (B:=cR b1 (.cells (YF a sv) 172 0)::mcL mb ph P V s w) S;refine I1 rfl<|I6 rfl<|I0 8 rfl<|I4 rfl (S.cel 1 rfl) rfl<|I6 rfl<|I0 0 rfl<|I4 rfl hpg rfl<|I0 3 rfl ?_
 refine I4 rfl (S.cel 0 rfl) rfl<|Iso rfl rfl<|I5o 6 rfl rfl<|I3 6 rfl hog hol ?_;rw[hoc];refine Qo (zv:=.agg #[.int .i64 0,.int .i64 0,.slice none 0 0,.int .i64 0,.int .i64 0,.int .i64 0]) S gn rfl (by kernel_rfl) fun b2 g nb2 S=>?_;refine Qe (n:=6) 0 S gn rfl rfl rfl (by kernel_rfl) rfl rfl (by decide) rfl (fun g S=>ag0) fun g S=>?_;have S:SH h D (cR b2 (.cells [iV o.kind,iV o.of,.slice va o.vals.length vc,iV o.site,iV o.by',iV o.nth] 197 0)::cR b1 (.cells (YF a sv) 172 0)::(mcL mb ph P V s w++(sl::RH))) g:=S;have X:Q1f g P V:=X0.ext (S0.all0 hown S);obtain⟨_,_,_,⟨fua,fuc,hfu0⟩,_⟩:=X.vals;refine Q0 ?_
 refine Q3<|Q3<|I9<|I0 1 rfl<|I4 rfl (S.cel 0 rfl) rfl<|Il rfl rfl<|I1 rfl ?_
 refine QT (n:=9) rfl rfl rfl gn rfl (fun hb=>by
  refine D0 1 hb rfl<|D4 hb rfl (S.cel 0 rfl) rfl<|D1 hb rfl<|D6 hb rfl<|D0 0 hb rfl<|D0 3 hb rfl<|D4 hb rfl (S.cel 2 rfl) rfl ?_;rw[hfu0];refine D7 hb rfl ?_;rw[<-hfu0];refine Dh hb rfl rfl ?_
  exact Q0 ⟨rfl,rfl,9,rfl,rfl⟩) ?_
 refine I1 rfl ?_
 refine QT (n:=14) rfl rfl rfl gn rfl (fun hb=>by
  have hbb:0<=o.of/\o.of <P.funs.length:=by simp at hb;omega
  obtain⟨fb',fo',fc',fcs,fe,fm,hfu,hfg,hfl,hfn,fs,fcv,hfc,hco⟩:=PrgAt.fun X hbb.1 hbb.2;have kf:fcs[fo'+Int.toNat o.of*4+1]?=some (iV (Qt P o.of).caps):=Qs hfc (by omega) rfl;refine D0 2 hb rfl<|D4 hb rfl (S.cel 0 rfl) rfl<|D7 hb rfl<|D1 hb rfl<|D6 hb rfl<|D0 0 hb rfl<|D0 3 hb rfl<|D4 hb rfl (S.cel 2 rfl) rfl<|D0 1 hb rfl<|D4 hb rfl (S.cel 0 rfl) rfl ?_;rw[hfu];refine D5o 4 hb rfl rfl ?_;rw[<-hfu];refine D0 1 hb rfl<|D4 hb rfl hfg kf<|Dn hb rfl rfl ?_
  exact Q0 ⟨rfl,rfl,14,rfl,rfl⟩) ?_
 refine Q0<|Q2 rfl (fun hb=>?_) fun hb=>?_
 · skip
   refine Q6<|I2 rfl<|I2 rfl<|Q0<|Q7 ?_;refine⟨.inl rfl,_,rfl,?_⟩
   exact(by
    have hno:mdB P s a.v=false:=by
     unfold mdB;rw[<-ho,hisO,Bool.true_and];have hb':((decide (o.of <0)||decide ((P.funs.length:Int)<=o.of))|| !decide ((o.vals.length:Int)=(Qt P o.of).caps))=true:=hb;rw[<-Bool.not_eq_true];intro e;simp only[Bool.and_eq_true,decide_eq_true_eq]at e;simp only[Bool.or_eq_true,decide_eq_true_eq,Bool.not_eq_true',decide_eq_false_iff_not]at hb';rcases hb' with(hb'|hb')|hb'
     · omega
     · omega
     exact hb' e.2
    obtain⟨hbs',S⟩:=hback _ _ _ _ (SH.comm (B:=sl::RH) S.drop.drop);obtain⟨bs',S⟩:=Qq (A:=[_]) S hw htp;refine⟨by rw[hno];unfold mdE;rw[hno];rfl,hbs',[],bs',?_⟩
    unfold mdS;rw[hno,List.append_nil];exact S)
 refine Q4<|Q3<|I9<|I0 1 rfl<|I4 rfl (S.cel 1 rfl) rfl<|I0 1 rfl<|I4 rfl (S.cel 0 rfl) rfl<|I0 4 rfl<|I4 rfl (S.cel 1 rfl) rfl ?_
 have hbb:(0<=o.of/\o.of <P.funs.length)/\(o.vals.length:Int)=(Qt P o.of).caps:=by
  have hb':((decide (o.of <0)||decide ((P.funs.length:Int)<=o.of))|| !decide ((o.vals.length:Int)=(Qt P o.of).caps))=false:=hb;simp only[Bool.or_eq_false_iff,decide_eq_false_iff_not,Bool.not_eq_false',decide_eq_true_eq]at hb';exact⟨by omega,hb'.2⟩
 have hyes:mdB P s a.v=true:=by
  unfold mdB;rw[<-ho,hisO,Bool.true_and];simp only[Bool.and_eq_true,decide_eq_true_eq];exact hbb
 refine I1 rfl<|I1 rfl<|I6 rfl<|I0 16 rfl<|I4 rfl (S.cel 2 rfl) rfl ?_;rw[hmv];refine I7 rfl ?_;rw[<-hmv]
 refine Qz (cs:=(tkV ⟨4,a.site,0,o.of,a.looper,id,0,false,0,0,0,0,0,s.M.length,0⟩).toArray) (zv:=.agg #[.int .i64 0,.int .i64 0,.int .i64 0,.int .i64 0,.int .i64 0,.int .i64 0,.int .i64 0,.bool false,.int .i64 0,.int .i64 0,.int .i64 0,.int .i64 0,.int .i64 0,.int .i64 0,.int .i64 0]) (pl:=[(0,1),(1,1),(2,1),(3,1),(4,1),(5,1),(6,1),(7,1),(8,1),(9,1),(10,1),(11,1),(12,1),(13,1),(14,1)]) [(0,_),(1,_),(3,_),(4,_),(5,_),(13,_)] gn rfl (by kernel_rfl) (by kernel_rfl) rfl (by kernel_rfl) ?_
 refine Qo (zv:=.agg #[.int .i64 0,.int .i64 0,.int .i64 0,.int .i64 0,.int .i64 0,.int .i64 0,.int .i64 0,.bool false,.int .i64 0,.int .i64 0,.int .i64 0,.int .i64 0,.int .i64 0,.int .i64 0,.int .i64 0]) S gn rfl (by kernel_rfl) fun b3 g nb3 S=>?_;refine Qe (n:=15) 0 S gn rfl rfl rfl (by kernel_rfl) rfl rfl (by decide) rfl (fun g S=>ag0) fun g S=>?_;have S:SH h D (cR b3 (.cells (tkV ⟨4,a.site,0,o.of,a.looper,id,0,false,0,0,0,0,0,s.M.length,0⟩) 27 0)::cR b2 (.cells [iV o.kind,iV o.of,.slice va o.vals.length vc,iV o.site,iV o.by',iV o.nth] 197 0)::cR b1 (.cells (YF a sv) 172 0)::(mcL mb ph P V s w++(sl::RH))) g:=S;refine QL ?_
 refine I2 rfl<|Q0<|Y1 [(0,Qw mb),(1,iV id),(8,Qw b2),(9,Qw b3)] (fun lv hh=>lv=[(10,iV (mdK a))]/\SH h D (cR b3 (.cells (tkV (mdT s id a o.of)) 27 0)::cR b2 (.cells [iV o.kind,iV o.of,.slice va o.vals.length vc,iV o.site,iV o.by',iV o.nth] 197 0)::cR b1 (.cells (YF a sv) 172 0)::(mcL mb ph P V s w++(sl::RH))) hh) ?_ fun lv hh hJ=>?_
 · skip
   refine Q6<|I0 0 rfl<|I4 rfl (S.cel 2 rfl) rfl<|Q0<|Q5<|Q6<|Ie rfl rfl<|I2 rfl<|Q0<|Q2 rfl (fun hb=>?_) fun hb=>?_
   · skip
     refine Q6<|I0 0 rfl ?_;refine Qi 0 S gn rfl rfl rfl (by kernel_rfl) rfl (by decide) (by rw[ZK];decide) (fun g S=>ag0) fun g S=>?_;refine QL<|I0 4 rfl ?_;refine Qi 0 S gn rfl rfl rfl (by kernel_rfl) rfl (by decide) (by rw[List.length_set,ZK];decide) (fun g S=>ag0) fun g S=>?_;refine Q0<|Q1 (by kernel_rfl)<|I2 rfl<|Q0<|Qk ?_
     exact ZF [(10,_)] (by repeat(first|exact trivial|refine⟨rfl,?_⟩)) (by
      have ho8:a.op=28:=of_decide_eq_true hb;unfold mdK mdT;rw[if_pos ho8,if_pos ho8]
      exact⟨rfl,S⟩)
   refine Q6<|Ie rfl rfl<|I2 rfl<|Q0<|Q2 rfl (fun hb=>?_) fun hb=>?_
   · skip
     refine Q1 (by kernel_rfl)<|I0 7 rfl ?_;refine Qi 0 S gn rfl rfl rfl (by kernel_rfl) rfl (by decide) (by rw[ZK];decide) (fun g S=>ag0) fun g S=>?_;refine Q0<|Qk ?_
     exact ZF [(10,_)] (by repeat(first|exact trivial|refine⟨rfl,?_⟩)) (by
      have ho4:a.op=24:=of_decide_eq_true hb;have ho8: ¬a.op=28:=by omega
      unfold mdK mdT;rw[if_neg ho8,if_neg ho8,if_pos ho4]
      exact⟨rfl,S⟩)
   refine Q1 (by kernel_rfl)<|I0 2 rfl<|I4 rfl (S.cel 2 rfl) rfl<|I0 8 rfl ?_;refine Qi 0 S gn rfl rfl rfl (by kernel_rfl) rfl (by decide) (by rw[ZK];decide) (fun g S=>ag0) fun g S=>?_;refine Q0<|Qk ?_
   exact ZF [(10,_)] (by repeat(first|exact trivial|refine⟨rfl,?_⟩)) (by
    have ho8: ¬a.op=28:=of_decide_eq_false ‹decide (a.op=28)=false›;have ho4: ¬a.op=24:=of_decide_eq_false ‹decide (a.op=24)=false›;unfold mdK mdT;rw[if_neg ho8,if_neg ho8,if_neg ho4]
    exact⟨rfl,S⟩)
 obtain⟨rfl,S⟩:=hJ;refine Q3<|Q6 ?_;obtain⟨t1,ht1⟩: ∃t1,t1=mdT s id a o.of:=⟨_,rfl⟩;refine I2 rfl<|Q0<|Q5<|Qh [(11,_)] [(0,_),(1,_),(8,_),(9,_),(10,_)] (by repeat(first|exact trivial|refine⟨rfl,?_⟩)) (fun kk lv hh=> ∃i:Nat,lv=[(11,iV i)]/\kk=s.T.length -i/\i<=s.T.length/\SH h D (cR b3 (.cells (tkV {mdT s id a o.of with nth:=Q9C s id i}) 27 0)::cR b2 (.cells [iV o.kind,iV o.of,.slice va o.vals.length vc,iV o.site,iV o.by',iV o.nth] 197 0)::cR b1 (.cells (YF a sv) 172 0)::(mcL mb ph P V s w++(sl::RH))) hh) (n:=s.T.length) ?_ fun kk lv hh hI=>?_
 · exact⟨0,rfl,rfl,Nat.zero_le _,by rw[QfC];exact S⟩
 obtain⟨i,rfl,hkk,hin,S⟩:=hI;refine Q3<|Q6<|I1 rfl<|I1 rfl<|I6 rfl<|I0 12 rfl<|I4 rfl (S.cel 3 rfl) rfl ?_;rw[htv];refine I7 rfl ?_;rw[<-htv];refine Il rfl rfl<|Q0<|Q2 rfl (fun hb=>?_) fun hb=>?_
 · skip
   refine Q4 ?_;have hin:i <s.T.length:=by simp at hb;omega
   obtain⟨tb,tm,tc2,tr,htv2,htg,_⟩:=(S.sl 7 rfl).at (by omega)
   have htk:(tkC s.T++tr)[0+Int.toNat (i:Int)*15+5]?=some (iV (s.T[i]).by'):=by
    rw[Int.toNat_natCast,Nat.zero_add];exact Qs (Q4U tr (List.getElem?_eq_getElem hin)) (by omega) rfl
   refine Q3<|Q5<|Q6<|I1 rfl<|I6 rfl<|I0 12 rfl<|I4 rfl (S.cel 3 rfl) rfl<|I1 rfl ?_;rw[htv2];refine I5o 15 rfl rfl ?_;rw[<-htv2];refine I0 5 rfl<|I4 rfl htg htk<|I1 rfl<|Ie rfl rfl<|Q0<|Q2 rfl (fun hb=>?_) fun hb=>?_
   · skip
     refine Q1 (by kernel_rfl) ?_;have hby:(s.T[i]).by'=id:=by simpa using hb
     have hnl:Q9C s id i<=i:=Qft;have kn:(tkV {mdT s id a o.of with nth:=Q9C s id i})[0+6]?=some (iV ((Q9C s id i:Nat):Int)):=rfl;refine I0 6 rfl<|I4 rfl (S.cel 0 rfl) kn<|Iao rfl rfl<|I0 6 rfl ?_;refine Qi 0 S gn rfl rfl rfl (by kernel_rfl) rfl (by decide) (by rw[ZK];decide) (fun g S=>ag0) fun g S=>?_;refine Q0<|Q1 (by kernel_rfl)<|I1 rfl<|Iao rfl rfl<|I2 rfl<|Q0 ?_
     exact Z6 (s.T.length - (i+1)) (by omega) [(11,_)] (by repeat(first|exact trivial|refine⟨rfl,?_⟩)) ⟨i+1,rfl,rfl,by omega,by
      rw[Q5s hin,if_pos hby];exact S⟩
   refine Q4<|Q1 (by kernel_rfl)<|I1 rfl<|Iao rfl rfl<|I2 rfl<|Q0 ?_
   exact Z6 (s.T.length - (i+1)) (by omega) [(11,_)] (by repeat(first|exact trivial|refine⟨rfl,?_⟩)) ⟨i+1,rfl,rfl,by omega,by
    have hby: ¬(s.T[i]).by'=id:=by simpa using hb
    rw[Q5s hin,if_neg hby];exact S⟩
 refine Ql<|Q9<|Qc<|Qm ?_;obtain rfl:i=s.T.length:=by simp at hb;omega
 refine Q6 ?_;obtain⟨t1,ht1⟩: ∃t1,t1=mdN s id a o.of:=⟨_,rfl⟩
 have f1:t1.fn=o.of/\t1.looper <P.loopers/\0<=t1.delay/\t1.delay<=1000000000:=by
  rw[ht1];unfold mdN mdT
  split
  · exact⟨rfl,by show(-1:Int)<_;omega,Int.le_refl _,by show(0:Int)<=_;omega⟩
  rename_i h28
  split
  · exact⟨rfl,(hlo h28).2,Int.le_refl _,by show(0:Int)<=_;omega⟩
  rename_i h24;exact⟨rfl,(hlo h28).2,(hd h28 h24).1,(hd h28 h24).2⟩
 have S:SH h D (cR b3 (.cells (tkV t1) 27 0)::cR b2 (.cells [iV o.kind,iV o.of,.slice va o.vals.length vc,iV o.site,iV o.by',iV o.nth] 197 0)::cR b1 (.cells (YF a sv) 172 0)::(mcL mb ph P V s w++(sl::RH))) hh:=by rw[ht1];exact S
 refine I1 rfl<|Z4 (n:=15) gn rfl rfl (by kernel_rfl) (by kernel_rfl) (S.cel 0 rfl) (by rw[ZK];decide)<|I0 2 rfl<|I4 rfl (S.cel 1 rfl) rfl ?_;have Sm:SH h D ([cR b3 (.cells (tkV t1) 27 0),cR b2 (.cells [iV o.kind,iV o.of,.slice va o.vals.length vc,iV o.site,iV o.by',iV o.nth] 197 0),cR b1 (.cells (YF a sv) 172 0)]++mcL mb ph P V s w++(sl::RH)) hh:=S;have Sm:=SH.comm Sm;rw[<-List.append_assoc]at Sm;obtain⟨bs2,Sm⟩:=Qq Sm hw htp
 have Sm:SH h D ([mcR mb ph P V s tp bs2]++((sl::RH)++[cR b3 (.cells (tkV t1) 27 0),cR b2 (.cells [iV o.kind,iV o.of,.slice va o.vals.length vc,iV o.site,iV o.by',iV o.nth] 197 0),cR b1 (.cells (YF a sv) 172 0)])) hh:=SH.comm Sm;have hrow:=Qd0 (v:=.slice va o.vals.length vc) (cs:=isV o.vals) (n:=o.vals.length) (vb:=vb) (e:=2) (r:=mcR mb ph P V s tp bs2) (L:=(sl::RH)++[cR b3 (.cells (tkV t1) 27 0),cR b2 (.cells [iV o.kind,iV o.of,.slice va o.vals.length vc,iV o.site,iV o.by',iV o.nth] 197 0),cR b1 (.cells (YF a sv) 172 0)]) Sm (by rw[hsl];simp)
 refine Z1 [_,_,_] gn rfl rfl (by kernel_rfl) rfl (C.mono (m26 (t:=t1) (cells:=o.vals) (SH.sub1 S0 hown Sm 0 rfl) X0 hM k (by rw[f1.1];exact hbb.1.1) (by rw[f1.1];exact hbb.1.2) f1.2.1 f1.2.2 hrow (by rw[f1.1];exact hbb.2)) ?_);rintro v g ⟨rfl,tl,bs3,S2⟩;have S:=Sm.ret 0 rfl S2;have S:SH h D ((mcR mb ph P V (Y4 P s t1 o.vals) (tp++tl) bs3::(sl::RH))++[cR b3 (.cells (tkV t1) 27 0),cR b2 (.cells [iV o.kind,iV o.of,.slice va o.vals.length vc,iV o.site,iV o.by',iV o.nth] 197 0),cR b1 (.cells (YF a sv) 172 0)]) g:=S;have S:=SH.comm (A:=[_]) S.fst;obtain⟨hbs',S⟩:=hback _ _ _ _ S;refine⟨ag0,?_⟩;refine I2 rfl<|Z7<|I1 rfl ?_
 refine Ie rfl rfl<|Q0<|Q2 rfl (fun hb=>?_) fun hb=>?_
 · skip
   refine Q6 ?_
   have hf:256<=s.T.length:=by
    refine Classical.byContradiction fun e=>?_;unfold QcG at hb;rw[if_neg e]at hb;simp at hb;omega
   have hadd:Y4 P s t1 o.vals=s:=by unfold Y4;rw[if_pos hf]
   rw[hadd]at S;refine I1 rfl<|Ic [_] rfl rfl (C.mono (m53 (SH.sub1 S0 hown S 1 rfl)) ?_);rintro v g ⟨rfl,bs4,S2⟩;have S:=S.ret 1 rfl S2;refine⟨ag0,?_⟩;refine I2 rfl<|I2 rfl<|Q0<|Q7 ?_;refine⟨.inl rfl,_,rfl,?_⟩
   exact(by
    refine⟨by rw[hyes];unfold mdE;rw[if_pos ⟨hyes,hf⟩];rfl,hbs',tl,bs4,?_⟩
    unfold mdS;rw[if_pos hyes,if_pos hf];exact S)
 refine Q4<|Q6 ?_
 have hf: ¬256<=s.T.length:=by
  intro e;unfold QcG at hb;rw[if_pos e]at hb;simp at hb
 have haddI:QcG s=s.T.length+1:=by unfold QcG;rw[if_neg hf]
 obtain⟨s1,hs1⟩: ∃s1,s1=Y4 P s t1 o.vals:=⟨_,rfl⟩;rw[<-hs1]at S;have eM:s1.M=s.M:=by rw[hs1];unfold Y4;rw[if_neg hf]
 have eTh:s1.Th=s.Th++[⟨[Y9 P t1.fn o.vals],0⟩]:=by rw[hs1];unfold Y4;rw[if_neg hf]
 rw[haddI];refine I1 rfl<|I1 rfl<|I1 rfl<|I1 rfl ?_;refine Z1 [_,_,_,_] gn rfl rfl (by kernel_rfl) rfl (C.mono (m75 (SH.sub1 S0 hown S 1 rfl) (by rw[eM];omega)) ?_);rintro v g ⟨bs4,S2⟩;have S:=S.ret 1 rfl S2;obtain⟨s2,hs2⟩: ∃s2,s2=Yj s1 (mdK a) id (s.T.length+1):=⟨_,rfl⟩;have S:SH h D ([hpR ph s.H hbs']++[mcR mb ph P V s2 (tp++tl) bs4]) g:=by rw[hs2];exact S
 obtain⟨w2,hw2,htp2,_,S⟩:=QG S;have S:SH h D (hpR ph s.H hbs'::mcL mb ph P V s2 w2) g:=S;have eTh2:s2.Th=s.Th++[⟨[Y9 P t1.fn o.vals],0⟩]:=by rw[hs2];exact eTh
 have hth:=k.th;have hthl:s2.Th.length=s.T.length+1:=by rw[eTh2,List.length_append,hth];rfl
 have eA:Zt s2 id=Zt s id:=by
  unfold Zt;rw[eTh2,List.getElem?_append_left (by omega)]
 obtain⟨pb,pc,pcs,pm,pv,hpv,hpg2,hpl,hpj,hpk⟩:=QcO (s:=s2) (w:=w2) (id:=id) (S.sl 6 rfl) hw2.2 h1 (by omega)
 have hpq:(hpR ph s.H hbs'::mcL mb ph P V s2 w2)[(id -1).toNat+s2.Q.length+10+1]?=some (thR pv.1 (pvL P V) (Zt s id) pv.2):=by
  rw[<-eA];exact Qgq (mb:=mb) (ph:=ph) hw2.1 (Jl h1 (by omega)) hpj
 have hT:=k.tok _ (List.mem_of_getElem? (Jl (s:=s) h1 (by omega)));refine⟨ag0,?_⟩;refine QL<|I1 rfl<|I6 rfl<|I0 13 rfl<|I4 rfl (S.cel 1 rfl) rfl<|I1 rfl<|Iso rfl rfl ?_;rw[hpv];refine I5o 1 rfl rfl ?_;rw[<-hpv];refine I4 rfl hpg2 hpk<|I1 rfl<|Ic [_,_] rfl rfl (C.mono (m97 (SH.sub1 S0 hown S _ hpq) X0 hM hT) ?_);rintro v g ⟨rfl,bs5,S2⟩;have S:=S.ret _ hpq S2;have S:SH h D (hpR ph s.H hbs'::(mcL mb ph P V s2 w2).set ((id -1).toNat+s2.Q.length+10) (thR pv.1 (pvL P V) (Q1n P (Zt s id) (s.T.length+1)) bs5)) g:=S;rw[Q71 bs5 hw2.1 (by omega) hpj]at S;refine⟨ag0,?_⟩;refine QL ?_
 refine I2 rfl<|I2 rfl<|Q0<|Q7 ?_;refine⟨.inl rfl,_,rfl,?_⟩
 exact(by
  have e:mdS P s id a= {s2 with Th:=s2.Th.set (id -1).toNat (Q1n P (Zt s id) (s.T.length+1))}:=by
   unfold mdS;rw[if_pos hyes,if_neg hf,hs2,hs1,ht1,ho];rfl
  obtain⟨bs6,S⟩:=Qq (A:=[_]) S ⟨hw2.1,by show(w2.ths.set _ _).length=(s2.Th.set _ _).length;rw[List.length_set,List.length_set];exact hw2.2⟩ ((QaP hpj).trans htp2);refine⟨by rw[hyes];unfold mdE;rw[if_neg (fun e=>hf e.2)];rfl,hbs',tl,bs6,?_⟩
  rw[e];exact S)
end
end Go.Proofs.Yteinandjhpnceaa
namespace Go.Proofs.Yteinandjhpnceaa
open Go.X Go.May Go.Mac
def ofI (s:MS) (n k:Int):Int:=if 1<=n/\n<=s.T.length/\(ZB s n).kind=k then n else 0
def mkO (o:Int):Bool:=decide (o∈([23,24,28]:List Int))
def ZU (P:Prg) (s:MS) (a:MAsk):Bool:=if mkO a.op=true then !mdB P s a.v else if a.op=25 then decide (ofI s a.v 4=0)else if a.op=29 then decide (ofI s a.v 5=0)else false
def ZE (P:Prg) (s:MS) (a:MAsk):Int:=if mkO a.op=true then mdE P s a else if a.op=30/\1024<=s.log.length then 11 else 0
def Jj (s:MS) (id:Int) (a:MAsk):MS:=
 if Q6n s.E a.n (decide (a.op=26))=true then Yj {Je s id a.site 6 a.n true with E:=QcB s.E a.n (decide (a.op=26)),on:=s.on.set a.n.toNat (s.M.length+1)} 7 id a.n
 else {Je s id a.site 6 a.n true with E:=QcB s.E a.n (decide (a.op=26))}
def Zm (s:MS) (id:Int) (a:MAsk):MS×Int:=
 if a.op=9 then(Je s id a.site 1 a.n false,reg s.G a.n)else
 if a.op=10 then({Je s id a.site 1 a.n true with G:=s.G.set a.n.toNat a.v},0)else
 if a.op=25 then(Q2U s id a.site (ofI s a.v 4),0)else
 if decide (a.op∈([26,27]:List Int))=true then(Jj s id a,0)else
 if a.op=29 then(Yj s 6 id (ofI s a.v 5),0)else
 if a.op=30 then({Je s id a.site 7 0 true with log:=s.log++[a.v]},0)else(s,0)
def finM (P:Prg) (s s':MS) (id n:Int):MS:=thS s' id (Q1n P (Zt s id) n)
def Y0 (P:Prg) (s:MS) (id:Int) (a:MAsk):MS:=
 if mkO a.op=true then mdS P s id a else if ZU P s a=true then s else if ZE P s a=11 then {s with full:=true}else finM P s (Zm s id a).1 id (Zm s id a).2
theorem Q5I {h:Hp} {e:Nat} {v:Value} {R:List Int} {vb:List Nat} {a:Int} (x:SlC e 0 h v (isV R) R.length vb) (h0:0<=a) (h1:a <R.length): ∃b c cs m,v=.slice (some ⟨b,0,none⟩) R.length c/\h.get b=some (.cells cs e m)/\cs[0+Int.toNat a*1]?=some (iV (reg R a)):=by
 obtain⟨b,m,c,r,hv,hg,_⟩:=x.at (by omega);refine⟨b,c,_,m,hv,hg,?_⟩;rw[Nat.zero_add,Nat.mul_one,List.getElem?_append_left (by rw[List.length_map];omega),List.getElem?_map,Q7M h0 h1];rfl
theorem Qgd {s:MS} {id z o:Int}:(Q2U s id z o).Th=s.Th/\(Q2U s id z o).Q.length=s.Q.length:=by
 unfold Q2U
 split
 · exact⟨rfl,List.length_modify ..⟩
 exact⟨rfl,rfl⟩
theorem QdQ {s:MS} {id:Int} {a:MAsk}:(Jj s id a).Th=s.Th/\(Jj s id a).Q.length=s.Q.length:=by
 unfold Jj
 split<;>exact⟨rfl,rfl⟩
theorem QdZ {s:MS} {id:Int} {a:MAsk}:(Zm s id a).1.Th=s.Th/\(Zm s id a).1.Q.length=s.Q.length:=by
 unfold Zm
 split;exact⟨rfl,rfl⟩
 split;exact⟨rfl,rfl⟩
 split;exact Qgd
 split;exact QdQ
 split;exact⟨rfl,rfl⟩
 split;exact⟨rfl,rfl⟩
 exact⟨rfl,rfl⟩
section
variable {h0 h:Hp} {P:Prg} {V:PrV} {mb ph:Nat} {s:MS} {hbs tp bs:List Nat}
set_option maxHeartbeats 8000000 in
theorem m78 {id:Int} {a:MAsk} {sv:Value} (S0:SH h0 [] [hpR ph s.H hbs,mcR mb ph P V s tp bs] h) (X0:Q1f h0 P V) (hM:ZJ P=true) (k:MOk P s) (h1:1<=id) (h2:id<=s.T.length) (hm:s.M.length<=99980) (hs:cellV sv=true) (hlo:mkO a.op=true->a.op≠28->0<=a.looper/\a.looper <P.loopers) (hd:mkO a.op=true->a.op≠28->a.op≠24->0<=a.n/\a.n<=1000000000)
 (hg:a.op=9\/a.op=10->0<=a.n/\a.n <P.globals) (he:decide (a.op∈([26,27]:List Int))=true->0<=a.n/\a.n <P.events.length) (hw: ∀n:Int,1<=n->n<=s.T.length->(ZB s n).kind=4->0<=(ZB s n).looper/\(ZB s n).looper <P.loopers):C modE 78 [Qw mb,iV id,askV a sv] h fun v g'=>v=.tuple #[.bool (ZU P s a),iV (ZE P s a)]/\ ∃hbs' tl bs',SH h (owns [hpR ph s.H hbs,mcR mb ph P V s tp bs]) [hpR ph s.H hbs',mcR mb ph P V (Y0 P s id a) (tp++tl) bs'] g':=by
 have SE:=S0.enterL;obtain⟨D,hD⟩: ∃D,D=owns [hpR ph s.H hbs,mcR mb ph P V s tp bs]:=⟨_,rfl⟩;have hown: ∀i,i∈D->h0.n<=i:=by rw[hD];exact S0.own0L
 rw[<-hD]at SE ⊢;have hk:=k.t;have hkh:=k.h;have hth:=k.th;have hke:=k.e;have hko:=k.on;have hkg:=k.g;have hkl:=k.lg;refine Q8 (fu:=Try.f78) (by kernel_rfl) rfl ?_;have S:=SE;refine Q6 ?_;refine QX S gn rfl rfl fun b1 g nb1 S=>?_;have S:SH h D ([cR b1 (.cells (YF a sv) 172 0),hpR ph s.H hbs]++[mcR mb ph P V s tp bs]) g:=S;obtain⟨w,hww,htp,_,S⟩:=QG S;have S:SH h D (cR b1 (.cells (YF a sv) 172 0)::hpR ph s.H hbs::mcL mb ph P V s w) g:=S;obtain⟨pb,pc,pcs,pm,pv,hpv,hpg,hpl,hpj,hpk⟩:=QcO (s:=s) (w:=w) (id:=id) (S.sl 7 rfl) hww.2 h1 (by omega);obtain⟨tb,htb⟩: ∃tb,tb=pv.1:=⟨_,rfl⟩
 have htbp:tp[(id -1).toNat]?=some tb:=by rw[<-htp,List.getElem?_map,hpj,htb];rfl
 rw[<-htb]at hpk;refine I2 rfl<|I2 rfl<|QL<|I1 rfl<|I6 rfl<|I0 13 rfl<|I4 rfl (S.cel 2 rfl) rfl<|I1 rfl<|Iso rfl rfl ?_;rw[hpv];refine I5o 1 rfl rfl ?_;rw[<-hpv];refine I4 rfl hpg hpk<|I2 rfl<|I2 rfl<|Q0 ?_;obtain⟨bs1,S⟩:=Qq (A:=[_,_]) S hww htp;have S:SH h D [cR b1 (.cells (YF a sv) 172 0),hpR ph s.H hbs,mcR mb ph P V s tp bs1] g:=S
 refine Y1 [(8,Qw tb)] (fun lv hh=>mkO a.op=false/\ZU P s a=false/\ZE P s a=0/\lv=[(9,iV (Zm s id a).2)]/\ ∃bs',SH h D [cR b1 (.cells (YF a sv) 172 0),hpR ph s.H hbs,mcR mb ph P V (Zm s id a).1 tp bs'] hh) ?_ fun lv hh hJ=>?_
 · skip
   refine Q6<|I0 0 rfl<|I4 rfl (S.cel 0 rfl) rfl<|Q0<|Q5<|Yt 21 [(23,23),(24,24),(28,25)] [(0,_),(1,_),(2,_),(5,_),(6,_),(7,_),(8,_),(9,_),(12,_),(13,_),(14,_),(15,_),(16,_),(17,_),(18,_),(19,_),(20,_),(21,_)] (by kernel_rfl) rfl (by repeat(first|exact trivial|refine⟨rfl,?_⟩)) (by rfl) (fun hb=>?_) fun hb=>?_
   · skip
     refine Q6 ?_;have hmk:mkO a.op=true:=hb;refine I1 rfl<|I1 rfl<|I3 6 rfl (S.cel 0 rfl) (Nat.le_refl _)<|Ic [_,_,_] rfl rfl (C.mono (m93 (SH.subL (A:=[_,_]) S0 hown (SH.comm (A:=[_]) S)) X0 hM k h1 h2 (by omega) hs (hlo hmk) (hd hmk)) ?_);rintro v g ⟨rfl,hbs',tl,bs2,S2⟩;have S:=SH.retL (A:=[_,_]) (SH.comm (A:=[_]) S) S2;refine⟨ag0,?_⟩;refine Ix rfl rfl<|Ix rfl rfl<|I2 rfl<|I2 rfl<|Q0<|Q7 ?_;refine⟨.inl rfl,_,rfl,?_⟩
     exact(by
      refine⟨by unfold ZU ZE;rw[if_pos hmk,if_pos hmk];rfl,hbs',tl,bs2,?_⟩;unfold Y0;rw[if_pos hmk]
      exact SH.fst S)
   refine Q6 ?_;have hmk:mkO a.op=false:=hb;refine Ie rfl rfl<|I2 rfl<|Q0<|Q2 rfl (fun hb=>?_) fun hb=>?_
   · skip
     refine Q6 ?_;have ho:a.op=9:=of_decide_eq_true hb;have hgn:=hg (.inl ho);refine I1 rfl<|I1 rfl<|I0 1 rfl<|I4 rfl (S.cel 0 rfl) rfl<|I0 2 rfl<|I4 rfl (S.cel 0 rfl) rfl<|Ic [_,_,_,_,_,_] rfl rfl (C.mono (m76 (SH.sub1 S0 hown S 2 rfl) (by omega)) ?_);rintro v g ⟨bs2,S2⟩;have S:=S.ret 2 rfl S2;obtain⟨w2,hw2,htp2,_,S⟩:=QG (A:=[_,_]) (S:SH h D ([cR b1 (.cells (YF a sv) 172 0),hpR ph s.H hbs]++[mcR mb ph P V (Je s id a.site 1 a.n false) tp bs2]) g);have S:SH h D (cR b1 (.cells (YF a sv) 172 0)::hpR ph s.H hbs::mcL mb ph P V (Je s id a.site 1 a.n false) w2) g:=S
     obtain⟨gb,gc,gcs,gm,hgv,hgg,hgk⟩:=Q5I (R:=s.G) (S.sl 8 rfl) hgn.1 (by omega);refine⟨ag0,?_⟩;refine Q0<|I9<|I1 rfl<|I6 rfl<|I0 14 rfl<|I4 rfl (S.cel 2 rfl) rfl<|I0 2 rfl<|I4 rfl (S.cel 0 rfl) rfl ?_;rw[hgv];refine I5o 1 rfl rfl ?_;rw[<-hgv];refine I4 rfl hgg hgk<|I2 rfl<|Q0<|Qk ?_
     exact ZF [(9,_)] (by repeat(first|exact trivial|refine⟨rfl,?_⟩)) (by
      have e:Zm s id a=(Je s id a.site 1 a.n false,reg s.G a.n):=by unfold Zm;rw[if_pos ho]
      rw[e];refine⟨hmk,?_,?_,rfl,Qq (A:=[_,_]) S hw2 htp2⟩
      · unfold ZU;rw[hmk,if_neg (by decide),if_neg (by omega),if_neg (by omega)]
      unfold ZE;rw[hmk,if_neg (by decide),if_neg (by omega)])
   refine Q6<|Ie rfl rfl<|I2 rfl<|Q0<|Q2 rfl (fun hb=>?_) fun hb=>?_
   · skip
     refine Q6 ?_;have ho:a.op=10:=of_decide_eq_true hb;have hgn:=hg (.inr ho);refine I1 rfl<|I1 rfl<|I0 1 rfl<|I4 rfl (S.cel 0 rfl) rfl<|I0 2 rfl<|I4 rfl (S.cel 0 rfl) rfl<|Ic [_,_,_,_,_,_] rfl rfl (C.mono (m76 (SH.sub1 S0 hown S 2 rfl) (by omega)) ?_);rintro v g ⟨bs2,S2⟩;have S:=S.ret 2 rfl S2;obtain⟨w2,hw2,htp2,_,S⟩:=QG (A:=[_,_]) (S:SH h D ([cR b1 (.cells (YF a sv) 172 0),hpR ph s.H hbs]++[mcR mb ph P V (Je s id a.site 1 a.n true) tp bs2]) g);have S:SH h D (cR b1 (.cells (YF a sv) 172 0)::hpR ph s.H hbs::mcL mb ph P V (Je s id a.site 1 a.n true) w2) g:=S
     obtain⟨gb,gc,gcs,gm,hgv,hgg,hgk⟩:=Q5I (R:=s.G) (S.sl 8 rfl) hgn.1 (by omega);refine⟨ag0,?_⟩;refine Q0<|I9<|I1 rfl<|I6 rfl<|I0 14 rfl<|I4 rfl (S.cel 2 rfl) rfl<|I0 2 rfl<|I4 rfl (S.cel 0 rfl) rfl<|I0 3 rfl<|I4 rfl (S.cel 0 rfl) rfl ?_;rw[hgv];refine I5o 1 rfl rfl ?_;rw[<-hgv];refine ZG 8 S gn rfl rfl rfl (by kernel_rfl) rfl hgv (by show _ <(isV s.G).length;rw[List.length_map];omega) (fun g S=>ag0) fun g S=>?_
     have S:SH h D ([cR b1 (.cells (YF a sv) 172 0),hpR ph s.H hbs]++mcL mb ph P V {Je s id a.site 1 a.n true with G:=s.G.set a.n.toNat a.v} w2) g:=by
      unfold mcL mcH;show SH h D (_::_::([_,_,_,_,_,_,slR 2 0 w2.gv (isV (s.G.set a.n.toNat a.v)) (s.G.set a.n.toNat a.v).length w2.gvb,_,_,_]++_)) g;rw[<-KU,List.length_set];have S2:=S;rw[Nat.zero_add,Nat.mul_one]at S2;exact S2
     refine Q0<|Qk ?_
     exact ZF [(9,_)] (by repeat(first|exact trivial|refine⟨rfl,?_⟩)) (by
      have e:Zm s id a=({Je s id a.site 1 a.n true with G:=s.G.set a.n.toNat a.v},0):=by unfold Zm;rw[if_neg (by omega),if_pos ho]
      rw[e];refine⟨hmk,?_,?_,rfl,Qq (A:=[_,_]) S hw2 htp2⟩
      · unfold ZU;rw[hmk,if_neg (by decide),if_neg (by omega),if_neg (by omega)]
      unfold ZE;rw[hmk,if_neg (by decide),if_neg (by omega)])
   refine Q6<|Ie rfl rfl<|I2 rfl<|Q0<|Q2 rfl (fun hb=>?_) fun hb=>?_
   · skip
     refine Q6 ?_;have ho:a.op=25:=of_decide_eq_true hb;refine I1 rfl<|I0 3 rfl<|I4 rfl (S.cel 0 rfl) rfl<|Ic [_,_,_] rfl rfl (Qr (m94 (SH.sub1 S0 hown S 2 rfl) k) ⟨ag0,?_⟩);refine I2 rfl<|Z7<|I1 rfl<|Ie rfl rfl<|Q0<|Q2 rfl (fun hb=>?_) fun hb=>?_
     · skip
       refine Q6<|I2 rfl<|I2 rfl<|Q0<|Q7 ?_;refine⟨.inl rfl,_,rfl,?_⟩
       exact(by
        have hof:ofI s a.v 4=0:=of_decide_eq_true hb;have eB:ZU P s a=true:=by unfold ZU;rw[hmk,if_neg (by decide),if_pos ho];exact decide_eq_true hof
        have eE:ZE P s a=0:=by unfold ZE;rw[hmk,if_neg (by decide),if_neg (by omega)]
        refine⟨by rw[eB,eE];rfl,hbs,[],bs1,?_⟩;unfold Y0;rw[hmk,if_neg (by decide),if_pos eB,List.append_nil]
        exact S.drop)
     refine Q4<|Q1 (by kernel_rfl) ?_;have hof: ¬ofI s a.v 4=0:=of_decide_eq_false hb
     have hofi:1<=ofI s a.v 4/\ofI s a.v 4<=s.T.length/\(ZB s (ofI s a.v 4)).kind=4:=by
      unfold ofI at hof ⊢
      split at hof
      · rename_i hh;rw[if_pos hh];exact hh
      exact absurd rfl hof
     refine I1 rfl<|I1 rfl<|I0 1 rfl<|I4 rfl (S.cel 0 rfl) rfl<|I1 rfl<|Ic [_,_,_,_] rfl rfl (C.mono (m95 (of':=ofI s a.v 4) (SH.sub1 S0 hown S 2 rfl) k hofi.1 hofi.2.1 (fun _=>hw _ hofi.1 hofi.2.1 hofi.2.2) (by omega)) ?_);rintro v g ⟨bs2,S2⟩;have S:=S.ret 2 rfl S2;refine⟨ag0,?_⟩;refine Q0<|Qk ?_
     exact ZF [(9,_)] (by repeat(first|exact trivial|refine⟨rfl,?_⟩)) (by
      have e:Zm s id a=(Q2U s id a.site (ofI s a.v 4),0):=by unfold Zm;rw[if_neg (by omega),if_neg (by omega),if_pos ho]
      rw[e];refine⟨hmk,?_,?_,rfl,bs2,S⟩
      · unfold ZU;rw[hmk,if_neg (by decide),if_pos ho];exact decide_eq_false hof
      unfold ZE;rw[hmk,if_neg (by decide),if_neg (by omega)])
   refine Yt 21 [(26,82),(27,83)] [(0,_),(1,_),(2,_),(5,_),(6,_),(7,_),(8,_),(9,_),(12,_),(13,_),(14,_),(15,_),(16,_),(17,_),(18,_),(19,_),(20,_),(21,_),(32,_),(33,_),(49,_),(50,_),(67,_),(68,_)] (by kernel_rfl) rfl (by repeat(first|exact trivial|refine⟨rfl,?_⟩)) (by rfl) (fun hb=>?_) fun hb=>?_
   · skip
     refine Q6 ?_;have h267:decide (a.op∈([26,27]:List Int))=true:=hb;have hen:=he h267;have ho:a.op=26\/a.op=27:=by simpa using h267
     refine I1 rfl<|I1 rfl<|I0 1 rfl<|I4 rfl (S.cel 0 rfl) rfl<|I0 2 rfl<|I4 rfl (S.cel 0 rfl) rfl<|Ic [_,_,_,_,_,_] rfl rfl (C.mono (m76 (SH.sub1 S0 hown S 2 rfl) (by omega)) ?_);rintro v g ⟨bs2,S2⟩;have S:=S.ret 2 rfl S2;obtain⟨w2,hw2,htp2,_,S⟩:=QG (A:=[_,_]) (S:SH h D ([cR b1 (.cells (YF a sv) 172 0),hpR ph s.H hbs]++[mcR mb ph P V (Je s id a.site 6 a.n true) tp bs2]) g);have S:SH h D (cR b1 (.cells (YF a sv) 172 0)::hpR ph s.H hbs::mcL mb ph P V (Je s id a.site 6 a.n true) w2) g:=S;refine⟨ag0,?_⟩;refine Q0<|Q3<|I9 ?_
     have hpl3:SH h0 [] [lvR w2.lb s.K s.E w2.lbs] g:=SH.sub1 S0 hown S 3 rfl;refine I1 rfl<|I6 rfl<|I0 9 rfl<|I4 rfl (S.cel 2 rfl) rfl<|I0 2 rfl<|I4 rfl (S.cel 0 rfl) rfl<|I0 0 rfl<|I4 rfl (S.cel 0 rfl) rfl<|Ie rfl rfl<|Ic [_,_,_] rfl rfl (C.mono (m96 (K:=s.K) (E:=s.E) (e:=a.n) (on:=decide (a.op=26)) (SH.sub1 S0 hown S 3 rfl) k.e2) ?_);rintro v g ⟨rfl,bs3,S2⟩;have S:=S.ret 3 rfl S2;obtain⟨s1,hs1⟩: ∃s1,s1= {Je s id a.site 6 a.n true with E:=QcB s.E a.n (decide (a.op=26))}:=⟨_,rfl⟩
     obtain⟨w3,hw3,htp3,S⟩: ∃w3:MW,(w3.qs.length=s1.Q.length/\w3.ths.length=s1.Th.length)/\w3.ths.map Prod.fst=tp/\SH h D (cR b1 (.cells (YF a sv) 172 0)::hpR ph s.H hbs::mcL mb ph P V s1 w3) g:=⟨{w2 with lbs:=bs3},by rw[hs1];exact hw2,htp2,by rw[hs1];exact S⟩;have q1:s1.M=s.M++[⟨3,id,0,⟨a.site,6,a.n,0,true⟩⟩]:=by rw[hs1];rfl
     have q2:s1.on=s.on:=by rw[hs1];rfl
     have q3:s1.M.length=s.M.length+1:=by rw[q1];simp
     have q4:s1.on.length=s.on.length:=by rw[q2]
     obtain⟨ma,mc,hmv⟩:=Qa (S.sl 10 rfl);obtain⟨ob,oc,ocs,om,hov,hog,hok⟩:=Q5I (R:=s1.on) (S.sl 11 rfl) hen.1 (by rw[q2];omega);refine⟨ag0,?_⟩;refine Q0<|Q2 rfl (fun hb=>?_) fun hb=>?_
     · skip
       refine Q3<|I9<|I1 rfl<|I6 rfl<|I0 17 rfl<|I4 rfl (S.cel 2 rfl) rfl<|I0 2 rfl<|I4 rfl (S.cel 0 rfl) rfl<|I1 rfl<|I6 rfl<|I0 16 rfl<|I4 rfl (S.cel 2 rfl) rfl ?_;rw[hmv];refine I7 rfl ?_;rw[<-hmv];rw[hov];refine I5o 1 rfl rfl ?_;rw[<-hov];refine ZG 11 S gn rfl rfl rfl (by kernel_rfl) rfl hov (by rw[List.length_map,q2];omega) (fun g S=>ag0) fun g S=>?_;obtain⟨s2,hs2⟩: ∃s2,s2= {s1 with on:=s1.on.set a.n.toNat s1.M.length}:=⟨_,rfl⟩
       have S:SH h D ([cR b1 (.cells (YF a sv) 172 0),hpR ph s.H hbs]++mcL mb ph P V s2 w3) g:=by
        rw[hs2];unfold mcL mcH;show SH h D (_::_::([_,_,_,_,_,_,_,_,_,slR 3 0 w3.ov (isV (s1.on.set a.n.toNat s1.M.length)) (s1.on.set a.n.toNat s1.M.length).length w3.ovb]++_)) g;rw[<-KU,List.length_set];have S2:=S;rw[Nat.zero_add,Nat.mul_one]at S2;exact S2
       obtain⟨bs4,S⟩:=Qq (A:=[_,_]) S (by rw[hs2];exact hw3) htp3;have S:SH h D [cR b1 (.cells (YF a sv) 172 0),hpR ph s.H hbs,mcR mb ph P V s2 tp bs4] g:=S;refine Q0<|Q1 (by kernel_rfl)<|I1 rfl<|I1 rfl<|I0 2 rfl<|I4 rfl (S.cel 0 rfl) rfl ?_;refine Z1 [_,_,_,_] gn rfl rfl (by kernel_rfl) rfl (C.mono (m75 (SH.sub1 S0 hown S 2 rfl) (by rw[hs2];show s1.M.length<=100000;omega)) ?_);rintro v g ⟨bs5,S2⟩;have S:=S.ret 2 rfl S2;refine⟨ag0,?_⟩;refine Q0<|Qk ?_
       exact ZF [(9,_)] (by repeat(first|exact trivial|refine⟨rfl,?_⟩)) (by
        have ht:Q6n s.E a.n (decide (a.op=26))=true:=hb
        have e:Zm s id a=(Yj s2 7 id a.n,0):=by
         unfold Zm;rw[if_neg (by omega),if_neg (by omega),if_neg (by omega),if_pos h267];unfold Jj;rw[if_pos ht,hs2,q2,q3,hs1];rfl
        rw[e];refine⟨hmk,?_,?_,rfl,bs5,S⟩
        · unfold ZU;rw[hmk,if_neg (by decide),if_neg (by omega),if_neg (by omega)]
        unfold ZE;rw[hmk,if_neg (by decide),if_neg (by omega)])
     refine Q4<|Qk ?_
     exact ZF [(9,_)] (by repeat(first|exact trivial|refine⟨rfl,?_⟩)) (by
      have ht: ¬Q6n s.E a.n (decide (a.op=26))=true:=by
       rw[show Q6n s.E a.n (decide (a.op=26))=false from hb];decide
      have e:Zm s id a=(s1,0):=by
       unfold Zm;rw[if_neg (by omega),if_neg (by omega),if_neg (by omega),if_pos h267];unfold Jj;rw[if_neg ht,hs1]
      rw[e];refine⟨hmk,?_,?_,rfl,Qq (A:=[_,_]) S hw3 htp3⟩
      · unfold ZU;rw[hmk,if_neg (by decide),if_neg (by omega),if_neg (by omega)]
      unfold ZE;rw[hmk,if_neg (by decide),if_neg (by omega)])
   refine Q6 ?_
   have h267: ¬decide (a.op∈([26,27]:List Int))=true:=by
    rw[show decide (a.op∈([26,27]:List Int))=false from hb];decide
   refine Ie rfl rfl<|I2 rfl<|Q0<|Q2 rfl (fun hb=>?_) fun hb=>?_
   · skip
     refine Q6 ?_;have ho:a.op=29:=of_decide_eq_true hb;refine I1 rfl<|I0 3 rfl<|I4 rfl (S.cel 0 rfl) rfl<|Ic [_,_,_] rfl rfl (Qr (m94 (SH.sub1 S0 hown S 2 rfl) k) ⟨ag0,?_⟩);refine I2 rfl<|Z7<|I1 rfl<|Ie rfl rfl<|Q0<|Q2 rfl (fun hb=>?_) fun hb=>?_
     · skip
       refine Q6<|I2 rfl<|I2 rfl<|Q0<|Q7 ?_;refine⟨.inl rfl,_,rfl,?_⟩
       exact(by
        have hof:ofI s a.v 5=0:=of_decide_eq_true hb;have eB:ZU P s a=true:=by unfold ZU;rw[hmk,if_neg (by decide),if_neg (by omega),if_pos ho];exact decide_eq_true hof
        have eE:ZE P s a=0:=by unfold ZE;rw[hmk,if_neg (by decide),if_neg (by omega)]
        refine⟨by rw[eB,eE];rfl,hbs,[],bs1,?_⟩;unfold Y0;rw[hmk,if_neg (by decide),if_pos eB,List.append_nil]
        exact S.drop)
     refine Q4<|Q1 (by kernel_rfl) ?_;have hof: ¬ofI s a.v 5=0:=of_decide_eq_false hb;refine I1 rfl<|I1 rfl<|I1 rfl<|Ic [_,_,_,_] rfl rfl (C.mono (m75 (other:=ofI s a.v 5) (SH.sub1 S0 hown S 2 rfl) (by omega)) ?_);rintro v g ⟨bs2,S2⟩;have S:=S.ret 2 rfl S2;refine⟨ag0,?_⟩;refine Q0<|Qk ?_
     exact ZF [(9,_)] (by repeat(first|exact trivial|refine⟨rfl,?_⟩)) (by
      have e:Zm s id a=(Yj s 6 id (ofI s a.v 5),0):=by unfold Zm;rw[if_neg (by omega),if_neg (by omega),if_neg (by omega),if_neg h267,if_pos ho]
      rw[e];refine⟨hmk,?_,?_,rfl,bs2,S⟩
      · unfold ZU;rw[hmk,if_neg (by decide),if_neg (by omega),if_pos ho];exact decide_eq_false hof
      unfold ZE;rw[hmk,if_neg (by decide),if_neg (by omega)])
   refine Q6<|Ie rfl rfl<|I2 rfl<|Q0<|Q2 rfl (fun hb=>?_) fun hb=>?_
   · skip
     refine Q3<|Q6 ?_;have ho:a.op=30:=of_decide_eq_true hb;obtain⟨w2,hw2,htp2,_,S⟩:=QG (A:=[_,_]) S;have S:SH h D (cR b1 (.cells (YF a sv) 172 0)::hpR ph s.H hbs::mcL mb ph P V s w2) _:=S;obtain⟨la,lc,hlv⟩:=Qa (S.sl 9 rfl);refine I1 rfl<|I6 rfl<|I0 15 rfl<|I4 rfl (S.cel 2 rfl) rfl ?_;rw[hlv];refine I7 rfl ?_;rw[<-hlv];refine Ih rfl rfl<|Q0<|Q2 rfl (fun hb=>?_) fun hb=>?_
     · skip
       refine Q6 ?_;have hlf:1024<=s.log.length:=by simp at hb;omega
       obtain⟨bs2,S⟩:=Qq (A:=[_,_]) S hw2 htp2;have S:SH h D [cR b1 (.cells (YF a sv) 172 0),hpR ph s.H hbs,mcR mb ph P V s tp bs2] _:=S;refine I1 rfl<|Ic [_] rfl rfl (C.mono (m53 (SH.sub1 S0 hown S 2 rfl)) ?_);rintro v g ⟨rfl,bs3,S2⟩;have S:=S.ret 2 rfl S2;refine⟨ag0,?_⟩;refine I2 rfl<|I2 rfl<|Q0<|Q7 ?_;refine⟨.inl rfl,_,rfl,?_⟩
       exact(by
        have eB:ZU P s a=false:=by unfold ZU;rw[hmk,if_neg (by decide),if_neg (by omega),if_neg (by omega)]
        have eE:ZE P s a=11:=by unfold ZE;rw[hmk,if_neg (by decide),if_pos ⟨ho,hlf⟩]
        refine⟨by rw[eB,eE];rfl,hbs,[],bs3,?_⟩;unfold Y0;rw[hmk,if_neg (by decide),eB,if_neg (by decide),if_pos eE,List.append_nil]
        exact S.drop)
     refine Q4<|Q6 ?_;have hlf: ¬1024<=s.log.length:=by simp at hb;omega
     obtain⟨bs20,S⟩:=Qq (A:=[_,_]) S hw2 htp2;have S:SH h D [cR b1 (.cells (YF a sv) 172 0),hpR ph s.H hbs,mcR mb ph P V s tp bs20] _:=S;refine I1 rfl<|I1 rfl<|I0 1 rfl<|I4 rfl (S.cel 0 rfl) rfl<|Ic [_,_,_,_,_,_] rfl rfl (C.mono (m76 (SH.sub1 S0 hown S 2 rfl) (by omega)) ?_);rintro v g ⟨bs2,S2⟩;have S:=S.ret 2 rfl S2;obtain⟨w3,hw3,htp3,_,S⟩:=QG (A:=[_,_]) (S:SH h D ([cR b1 (.cells (YF a sv) 172 0),hpR ph s.H hbs]++[mcR mb ph P V (Je s id a.site 7 0 true) tp bs2]) g);have S:SH h D (cR b1 (.cells (YF a sv) 172 0)::hpR ph s.H hbs::mcL mb ph P V (Je s id a.site 7 0 true) w3) g:=S;refine⟨ag0,?_⟩
     refine Q0<|I9<|I1 rfl<|I1 rfl<|I6 rfl<|I0 15 rfl<|I4 rfl (S.cel 2 rfl) rfl<|I0 3 rfl<|I4 rfl (S.cel 0 rfl) rfl ?_;refine Qf (e:=2) (z:=0) (zv:=.int .i64 0) [(0,_)] S gn rfl (by kernel_rfl) (by kernel_rfl) (by kernel_rfl) (by kernel_rfl) rfl (by rfl) fun b2 g nb2 S=>?_;refine QE (e:=2) (z:=0) (by':=7) 10 0 S el2 gn rfl rfl rfl rfl rfl rfl (by rfl) (by show(s.log.length+1)*(7+1)<=1099511627776;omega) (fun s' bs' g S=>ag0) fun s' bs' g S=>?_;refine I6 rfl<|I0 15 rfl ?_;have hcv:cellV s'=true:=(S.sl 10 rfl).cellV
     refine Qi 3 S gn rfl rfl hcv (by kernel_rfl) rfl (by decide) (by simp) (fun g S=>ag0) fun g S=>?_
     have S:SH h D ([cR b1 (.cells (YF a sv) 172 0),hpR ph s.H hbs]++mcL mb ph P V {Je s id a.site 7 0 true with log:=s.log++[a.v]} {w3 with lv:=s',lvb:=bs'}) g:=by
      have S2:=S.drop;unfold mcL mcH;show SH h D (_::_::([_,_,_,_,_,_,_,slR 2 0 s' (isV (s.log++[a.v])) (s.log++[a.v]).length bs',_,_]++_)) g;rw[Q2l,show(s.log++[a.v]).length=s.log.length+1 from List.length_append];exact S2
     refine Q0<|Qk ?_
     exact ZF [(9,_)] (by repeat(first|exact trivial|refine⟨rfl,?_⟩)) (by
      have e:Zm s id a=({Je s id a.site 7 0 true with log:=s.log++[a.v]},0):=by unfold Zm;rw[if_neg (by omega),if_neg (by omega),if_neg (by omega),if_neg h267,if_neg (by omega),if_pos ho]
      rw[e];refine⟨hmk,?_,?_,rfl,Qq (A:=[_,_]) (w:= {w3 with lv:=s',lvb:=bs'}) S hw3 htp3⟩
      · unfold ZU;rw[hmk,if_neg (by decide),if_neg (by omega),if_neg (by omega)]
      unfold ZE;rw[hmk,if_neg (by decide),if_neg (by omega)])
   refine Q4<|Qk ?_
   exact ZF [(9,_)] (by repeat(first|exact trivial|refine⟨rfl,?_⟩)) (by
    have ho: ¬a.op=30:=of_decide_eq_false hb;have n9: ¬a.op=9:=of_decide_eq_false ‹decide (a.op=9)=false›;have n10: ¬a.op=10:=of_decide_eq_false ‹decide (a.op=10)=false›;have n25: ¬a.op=25:=of_decide_eq_false ‹decide (a.op=25)=false›;have n29: ¬a.op=29:=of_decide_eq_false ‹decide (a.op=29)=false›;have e:Zm s id a=(s,0):=by unfold Zm;rw[if_neg n9,if_neg n10,if_neg n25,if_neg h267,if_neg n29,if_neg ho]
    rw[e];refine⟨hmk,?_,?_,rfl,bs1,S⟩
    · unfold ZU;rw[hmk,if_neg (by decide),if_neg n25,if_neg n29]
    unfold ZE;rw[hmk,if_neg (by decide),if_neg (by omega)])
 obtain⟨hmk,eB,eE,rfl,bs2,S⟩:=hJ;obtain⟨s2,hs2⟩: ∃s2,s2=(Zm s id a).1:=⟨_,rfl⟩;obtain⟨eTh,eQ⟩:=QdZ (s:=s) (id:=id) (a:=a);rw[<-hs2]at S eTh eQ;obtain⟨w2,hw2,htp2,_,S⟩:=QG (A:=[_,_]) (S:SH h D ([cR b1 (.cells (YF a sv) 172 0),hpR ph s.H hbs]++[mcR mb ph P V s2 tp bs2]) hh);have S:SH h D (cR b1 (.cells (YF a sv) 172 0)::hpR ph s.H hbs::mcL mb ph P V s2 w2) hh:=S
 obtain⟨v2,hv2,hv2b⟩: ∃v2,w2.ths[(id -1).toNat]?=some v2/\v2.1=tb:=by
  rw[<-htp2,List.getElem?_map]at htbp;cases e:w2.ths[(id -1).toNat]? with
  |none=>rw[e]at htbp;cases htbp
  |some v2=>rw[e]at htbp;exact⟨v2,rfl,Option.some.inj htbp⟩
 have hpq:(cR b1 (.cells (YF a sv) 172 0)::hpR ph s.H hbs::mcL mb ph P V s2 w2)[(id -1).toNat+s2.Q.length+10+1+1]?=some (thR tb (pvL P V) (Zt s id) v2.2):=by
  have e:=Qgq (mb:=mb) (ph:=ph) (P:=P) (V:=V) (T:=Zt s id) hw2.1 (by rw[eTh];exact Jl h1 (by omega)) hv2;rw[hv2b]at e;exact e
 have hT:=k.tok _ (List.mem_of_getElem? (Jl (s:=s) h1 (by omega)));refine Q6<|I1 rfl<|I1 rfl<|Ic [_,_] rfl rfl (C.mono (m97 (SH.sub1 S0 hown S _ hpq) X0 hM hT) ?_);rintro v g ⟨rfl,bs5,S2⟩;have S:=S.ret _ hpq S2;have S:SH h D (cR b1 (.cells (YF a sv) 172 0)::hpR ph s.H hbs::(mcL mb ph P V s2 w2).set ((id -1).toNat+s2.Q.length+10) (thR tb (pvL P V) (Q1n P (Zt s id) (Zm s id a).2) bs5)) g:=S;rw[<-hv2b,Q71 bs5 hw2.1 (by rw[eTh];omega) hv2]at S;refine⟨ag0,?_⟩;refine QL<|I2 rfl<|I2 rfl<|Q0<|Q7 ?_;refine⟨.inl rfl,_,rfl,?_⟩
 exact(by
  have e:Y0 P s id a= {s2 with Th:=s2.Th.set (id -1).toNat (Q1n P (Zt s id) (Zm s id a).2)}:=by
   unfold Y0;rw[hmk,if_neg (by decide),eB,if_neg (by decide),eE,if_neg (by decide),hs2];rfl
  obtain⟨bs6,S⟩:=Qq (A:=[_,_]) S ⟨hw2.1,by show(w2.ths.set _ _).length=(s2.Th.set _ _).length;rw[List.length_set,List.length_set];exact hw2.2⟩ ((QaP hv2).trans htp2);refine⟨by rw[eB,eE];rfl,hbs,[],bs6,?_⟩
  rw[e,List.append_nil];exact S.drop)
end
end Go.Proofs.Yteinandjhpnceaa
namespace Go.Proofs.Yteinandjhpnceaa
open Go.X Go.May Go.Mac
def stA (s:MS) (id:Int) (A:List MAcc):MS:= {s with M:=s.M++A.map fun x=>⟨3,id,0,x⟩}
def stT (s:MS) (id:Int) (a:MAsk) (T':MThr) (H':List MObj):MS:=stA {thS s id T' with H:=H'} id a.acc
def stD (P:Prg) (s:MS) (id:Int) (a:MAsk):MS:=if a.op=0 then s else Y0 P s id a
def stK (P:Prg) (s:MS) (T':MThr) (a:MAsk):Int:=if a.op=0 then T'.trap else if ZU P s a=true then 1 else T'.trap
def Q0Y (s:MS) (id k:Int):MS:=Yj (trM (stM s id 3) id k) 2 id 0
def Q9v (P:Prg) (s:MS) (id:Int) (b:Bool) (e':Int) (s':MS):Prop:= ∃(a:MAsk) (e:Int) (T':MThr) (H':List MObj),StepP P (Zt s id) s.H a e T' H'/\
 ((e ≠0/\b=false/\e'=11/\s'= {thS s id T' with H:=H',full:=true})\/
  (e=0/\a.op≠0/\ZE P (stT s id a T' H') a≠0/\b=false/\e'=ZE P (stT s id a T' H') a/\s'=Y0 P (stT s id a T' H') id a)\/
  (e =0/\(a.op≠0->ZE P (stT s id a T' H') a=0)/\e'=0/\
   ((stK P (stT s id a T' H') T' a=0/\Y7 (Zt (stD P (stT s id a T' H') id a) id)=false/\b=false/\s'=stD P (stT s id a T' H') id a)\/
    (¬(stK P (stT s id a T' H') T' a=0/\Y7 (Zt (stD P (stT s id a T' H') id a) id)=false)/\b=true/\s'=Q0Y (stD P (stT s id a T' H') id a) id (stK P (stT s id a T' H') T' a)))))
theorem Qcz (a:MAcc):(acV a).length=5:=rfl
theorem acC_at {l:List MAcc} {j:Nat} {o:MAcc} (rest:List Value) (h:l[j]?=some o):((acC l++rest).drop (j*5)).take 5=acV o:=QbL acV 5 Qcz rest l j o h
theorem Qgl (l:List MAcc):(acC l).length=l.length*5:=Q5S acV 5 Qcz l
theorem Q9S {P:Prg} {s:MS} {id:Int} (k:MOk P s) (h1:1<=id) (h2:id<=s.T.length):Km P (Zt s id):=k.tok _ (List.mem_of_getElem? (Jl h1 (by rw[k.th];exact h2)))
theorem Qez {P:Prg} {s:MS} {id:Int} {a:MAsk} {e:Int} {T':MThr} {H':List MObj} (k:MOk P s) (x:StepP P (Zt s id) s.H a e T' H') (hm:s.M.length<=99990):MOk P (stT s id a T' H') where
 h:=x.h
 k:=k.k
 k2:=k.k2
 e2:=k.e2
 e:=k.e
 q:=k.q
 r:=k.r
 t:=k.t
 th:=by show(s.Th.set _ _).length=_;rw[List.length_set];exact k.th
 g:=k.g
 lg:=k.lg
 m :=by
   show(s.M++List.map _ a.acc).length<=100000;rw[List.length_append,List.length_map];have:=x.acc;omega
 on:=k.on
 now:=k.now
 st:=k.st
 ql:=k.ql
 tok:=fun T hT=>by
  have hT:T∈s.Th.set (id -1).toNat T':=hT;rcases List.mem_or_eq_of_mem_set hT with h|h
  · exact k.tok T h
  rw[h];exact x.t
structure AskH (P:Prg) (a:MAsk):Prop where
 lo:mkO a.op=true->a.op≠28->0<=a.looper/\a.looper <P.loopers
 d:mkO a.op=true->a.op≠28->a.op≠24->0<=a.n/\a.n<=1000000000
 g:a.op=9\/a.op=10->0<=a.n/\a.n <P.globals
 e:decide (a.op∈([26,27]:List Int))=true->0<=a.n/\a.n <P.events.length
theorem ask_h {P:Prg} {F:Fun} {x:Ins} {R:List Int} (hi:Z2 P F x=true):AskH P (Q4G x R):=by
 have hn:=Q0e hi;unfold Q18 at hn;have eo:(Q4G x R).op=x.op:=rfl;have en:(Q4G x R).n=x.n:=rfl;have el:(Q4G x R).looper=if x.op=23\/x.op=24 then x.c else 0:=rfl
 refine⟨fun h1 h2=>?_,fun h1 h2 h3=>?_,fun h=>?_,fun h=>?_⟩
 · rw[eo]at h1 h2;have h1:x.op=23\/x.op=24\/x.op=28:=by simpa[mkO]using h1
   rw[el,if_pos (by omega)];rcases h1 with h|h|h
   · rw[if_neg (by omega),if_neg (by omega),if_neg (by omega),if_pos h]at hn;simp only[Bool.and_eq_true]at hn;exact Z9.1 hn.1
   · rw[if_neg (by omega),if_neg (by omega),if_neg (by omega),if_neg (by omega),if_pos h]at hn;exact Z9.1 hn
   exact absurd h h2
 · rw[eo]at h1 h2 h3;have h1:x.op=23\/x.op=24\/x.op=28:=by simpa[mkO]using h1
   have h:x.op=23:=by omega
   rw[if_neg (by omega),if_neg (by omega),if_neg (by omega),if_pos h]at hn;simp only[Bool.and_eq_true]at hn;have:=Z9.1 hn.2;rw[en];omega
 · rw[eo]at h;rw[if_pos h]at hn;exact Z9.1 hn
 rw[eo]at h;have h:x.op=26\/x.op=27:=by simpa using h
 rw[if_neg (by omega),if_neg (by omega),if_neg (by omega),if_neg (by omega),if_neg (by omega),if_pos h]at hn;exact Z9.1 hn
theorem Q4Z {P:Prg} {T:MThr} {H H':List MObj} {a:MAsk} {e:Int} {T':MThr} (x:StepP P T H a e T' H') (hM:ZJ P=true) (hT:Km P T) (h0:a.op≠0):AskH P a:=by
 obtain⟨he,_,_,ha,_⟩:=x.ask h0
 have hov:Y7 T=false:=by
  cases hh:Y7 T with
  |false=>rfl
  |true=>exact absurd he (x.over hh)
 have hl:=Q1t hov;rw[ha];exact ask_h (Q8q hM (hT.2 _ (ZW hl)))
end Go.Proofs.Yteinandjhpnceaa
namespace Go.Proofs.Yteinandjhpnceaa
open Go.X Go.May Go.Mac
theorem Q9L {w:MW} {tp:List Nat} {j tb:Nat} (htp:w.ths.map Prod.fst=tp) (h:tp[j]?=some tb): ∃v,w.ths[j]?=some v/\v.1=tb:=by
 rw[<-htp,List.getElem?_map]at h;cases e:w.ths[j]? with
 |none=>rw[e]at h;cases h
 |some v=>rw[e]at h;exact⟨v,rfl,Option.some.inj h⟩
theorem QcW {s:MS} {id:Int} {A:List MAcc} {i:Nat} (hi:i <A.length):mkC (stA s id (A.take (i+1))).M=mkC (stA s id (A.take i)).M++mkV ⟨3,id,0,A[i]⟩:=by
 unfold stA;show mkC (s.M++List.map _ (A.take (i+1)))=mkC (s.M++List.map _ (A.take i))++_;rw[List.take_add_one,List.getElem?_eq_getElem hi,List.map_append,<-List.append_assoc,<-Q44];rfl
theorem Q1Q {s:MS} {id:Int} {A:List MAcc}:(stA s id A).M.length=s.M.length+A.length:=by
 unfold stA;show(s.M++List.map _ A).length=_;rw[List.length_append,List.length_map]
theorem QeP {P:Prg} {s:MS} {t:MTask} {c:List Int}:(Y4 P s t c).H=s.H:=by
 unfold Y4
 split<;>rfl
theorem canM_H {s:MS} {id z o:Int}:(Q2U s id z o).H=s.H:=by
 unfold Q2U
 split<;>rfl
theorem Qg1 {s:MS} {id:Int} {a:MAsk}:(Jj s id a).H=s.H:=by
 unfold Jj
 split<;>rfl
theorem Qg5 {s:MS} {id:Int} {a:MAsk}:(Zm s id a).1.H=s.H:=by
 unfold Zm
 split;rfl
 split;rfl
 split;exact canM_H
 split;exact Qg1
 split;rfl
 split;rfl
 rfl
theorem mdS_H {P:Prg} {s:MS} {id:Int} {a:MAsk}:(mdS P s id a).H=s.H:=by
 unfold mdS
 split
 · split
   · rfl
   exact QeP
 rfl
theorem Q7f {P:Prg} {s:MS} {id:Int} {a:MAsk}:(Y0 P s id a).H=s.H:=by
 unfold Y0
 split
 · exact mdS_H
 split
 · rfl
 split
 · rfl
 exact Qg5
def Few (s s':MS):Prop:=s.T.length<=s'.T.length/\s'.M.length<=s.M.length+2
theorem stM_few {s:MS} {id k:Int}:(stM s id k).T.length=s.T.length:=List.length_modify ..
theorem Qe6 {s:MS} {id z o:Int}:Few s (Q2U s id z o):=by
 unfold Q2U
 split
 · exact⟨Nat.le_of_eq stM_few.symm,by show(s.M++[_]).length<=_;simp⟩
 exact⟨Nat.le_refl _,by show(s.M++[_]).length<=_;simp⟩
theorem QbM {s:MS} {id:Int} {a:MAsk}:Few s (Jj s id a):=by
 unfold Jj
 split
 · exact⟨Nat.le_refl _,by show((s.M++[_])++[_]).length<=_;simp⟩
 exact⟨Nat.le_refl _,by show(s.M++[_]).length<=_;simp⟩
theorem Qc6 {s:MS} {id:Int} {a:MAsk}:Few s (Zm s id a).1:=by
 unfold Zm
 split;exact⟨Nat.le_refl _,by show(s.M++[_]).length<=_;simp⟩
 split;exact⟨Nat.le_refl _,by show(s.M++[_]).length<=_;simp⟩
 split;exact Qe6
 split;exact QbM
 split;exact⟨Nat.le_refl _,by show(s.M++[_]).length<=_;simp⟩
 split;exact⟨Nat.le_refl _,by show(s.M++[_]).length<=_;simp⟩
 exact⟨Nat.le_refl _,by show s.M.length<=_;omega⟩
theorem QfD {P:Prg} {s:MS} {id:Int} {a:MAsk}:Few s (mdS P s id a):=by
 unfold mdS
 split
 · split
   · exact⟨Nat.le_refl _,by show s.M.length<=_;omega⟩
   rename_i h;refine⟨?_,?_⟩
   · show s.T.length<=(Y4 P s _ _).T.length;unfold Y4;rw[if_neg h];show s.T.length<=(s.T++[_]).length;simp
   show((Y4 P s _ _).M++[_]).length<=_;unfold Y4;rw[if_neg h];show(s.M++[_]).length<=_;simp
 exact⟨Nat.le_refl _,by show s.M.length<=_;omega⟩
theorem Q2D {P:Prg} {s:MS} {id:Int} {a:MAsk}:Few s (Y0 P s id a):=by
 unfold Y0
 split
 · exact QfD
 split
 · exact⟨Nat.le_refl _,by show s.M.length<=_;omega⟩
 split
 · exact⟨Nat.le_refl _,by show s.M.length<=_;omega⟩
 exact Qc6
theorem Q6v {P:Prg} {s:MS} {id:Int} {a:MAsk}:Few s (stD P s id a):=by
 unfold stD
 split
 · exact⟨Nat.le_refl _,by omega⟩
 exact Q2D
section
variable {h0 h:Hp} {P:Prg} {V:PrV} {mb ph:Nat} {s:MS} {hbs tp bs:List Nat}
set_option maxHeartbeats 8000000 in
theorem m56 {id:Int} (S0:SH h0 [] [hpR ph s.H hbs,mcR mb ph P V s tp bs] h) (X0:Q1f h0 P V) (hM:ZJ P=true) (k:MOk P s) (h1:1<=id) (h2:id<=s.T.length) (hm:s.M.length<=99970)
 (hw: ∀n:Int,1<=n->n<=s.T.length->(ZB s n).kind=4->0<=(ZB s n).looper/\(ZB s n).looper <P.loopers):C modE 56 [Qw mb,iV id] h fun v g'=> ∃(b:Bool) (e:Int) (s':MS) (hbs' tl bs':List Nat),v=.tuple #[.bool b,iV e]/\Q9v P s id b e s'/\SH h (owns [hpR ph s.H hbs,mcR mb ph P V s tp bs]) [hpR ph s'.H hbs',mcR mb ph P V s' (tp++tl) bs'] g':=by
 have SE:=S0.enterL;obtain⟨D,hD⟩: ∃D,D=owns [hpR ph s.H hbs,mcR mb ph P V s tp bs]:=⟨_,rfl⟩;have hown: ∀i,i∈D->h0.n<=i:=by rw[hD];exact S0.own0L
 rw[<-hD]at SE ⊢;have hk:=k.t;have hth:=k.th;obtain⟨w,hww,htp,_,SE⟩:=QG (A:=[_]) SE;have SE:SH h D (hpR ph s.H hbs::mcL mb ph P V s w) h:=SE;obtain⟨pb,pc,pcs,pm,pv,hpv,hpg,hpl,hpj,hpk⟩:=QcO (s:=s) (w:=w) (id:=id) (SE.sl 6 rfl) hww.2 h1 (by omega);obtain⟨tb,htb⟩: ∃tb,tb=pv.1:=⟨_,rfl⟩;have htbp:tp[(id -1).toNat]?=some tb:=by rw[<-htp,List.getElem?_map,hpj,htb];rfl
 have hT:=Q9S k h1 h2;have hpq:=Qgq (mb:=mb) (ph:=ph) (P:=P) (V:=V) hww.1 (Jl (s:=s) h1 (by omega)) hpj;rw[<-htb]at hpk hpq;obtain⟨kb,kc,kcs,km,hkv,hkg,hkat⟩:=Q1J (SE.sl 5 rfl) h1 h2;refine Q8 (fu:=Try.f56) (by kernel_rfl) rfl ?_;have S:=SE;refine Q6<|I2 rfl<|I2 rfl<|QL<|I1 rfl<|I6 rfl<|I0 13 rfl<|I4 rfl (S.cel 1 rfl) rfl<|I1 rfl<|Iso rfl rfl ?_;rw[hpv];refine I5o 1 rfl rfl ?_;rw[<-hpv];refine I4 rfl hpg hpk<|I2 rfl<|Q0<|Q3 ?_
 refine Yq [(0,[]),(1,[]),(2,[]),(3,[]),(4,[]),(5,[]),(6,[]),(7,[]),(8,[]),(9,[]),(10,[]),(11,[]),(12,[]),(13,[]),(14,[]),(19,[]),(15,[]),(16,[]),(17,[]),(18,[]),(20,[]),(21,[])] (by kernel_rfl) (by kernel_rfl) (by kernel_rfl) (by kernel_rfl)<|I1 rfl<|I1 rfl<|I6 rfl<|I0 8 rfl<|I4 rfl (S.cel 1 rfl) rfl<|I1 rfl<|I1 rfl<|I6 rfl<|I0 12 rfl<|I4 rfl (S.cel 1 rfl) rfl<|I1 rfl<|Iso rfl rfl ?_;rw[hkv];refine I5o 15 rfl rfl ?_;rw[<-hkv];refine I0 10 rfl<|I4 rfl hkg (hkat 10 _ (by decide) rfl) ?_
 refine Qo (zv:=.agg #[.int .i64 0,.int .i64 0,.int .i64 0,.int .i64 0,.int .i64 0,.slice none 0 0]) S gn rfl (by kernel_rfl) fun b1 g nb1 S=>?_;obtain⟨E,hE⟩: ∃E,E=(mcL mb ph P V s w).eraseIdx ((id -1).toNat+s.Q.length+10):=⟨_,rfl⟩;have So:=SH.outAt (SH.comm (A:=[_,_]) (B:=mcL mb ph P V s w) S) hpq;rw[<-hE]at So;have So:=SH.comm (A:=[_]) (SH.comm (A:=thR tb (pvL P V) (Zt s id) pv.2::E) (B:=[_,hpR ph s.H hbs]) So);refine Ic [_,_,_,_] rfl rfl (C.mono (m77 (SH.subL (A:=[hpR ph s.H hbs,thR tb (pvL P V) (Zt s id) pv.2]) (B:=E++[_]) S0 hown So) X0 hM hT k.h) ?_);rintro v g ⟨a,e,sv,ab,T',H',bs1,hbs1,rfl,hP,S2⟩
 have S:=SH.retL (A:=[_,_]) So S2;have S:=SH.comm (A:=[_,_]) (B:=thR tb (pvL P V) T' bs1::(E++[_])) S;have S:SH h D (thR tb (pvL P V) T' bs1::((E++[cR b1 (.cells [iV 0,iV 0,iV 0,iV 0,iV 0,.slice none 0 0] 172 0)])++[slR 34 4 sv (acC a.acc) a.acc.length ab,hpR ph H' hbs1])) g:=S;rw[List.append_assoc,hE]at S;have S:=SH.inAt S (List.getElem?_eq_some_iff.1 hpq).1;rw[htb,Q71 bs1 hww.1 (by omega) hpj]at S;have S:=SH.comm S;obtain⟨sa,sc,rfl⟩:=Qa (S.sl 1 rfl);obtain⟨s1,hs1⟩: ∃s1,s1= {thS s id T' with H:=H'}:=⟨_,rfl⟩
 obtain⟨w1,hw1,htp1,S⟩: ∃w1:MW,(w1.qs.length=s1.Q.length/\w1.ths.length=s1.Th.length)/\w1.ths.map Prod.fst=tp/\SH h D (cR b1 (.cells [iV 0,iV 0,iV 0,iV 0,iV 0,.slice none 0 0] 172 0)::slR 34 4 (.slice sa a.acc.length sc) (acC a.acc) a.acc.length ab::hpR ph H' hbs1::mcL mb ph P V s1 w1) g:=⟨{w with ths:=w.ths.set (id -1).toNat (pv.1,bs1)},by
  rw[hs1]
  exact⟨hww.1,by show(w.ths.set _ _).length=(s.Th.set _ _).length;rw[List.length_set,List.length_set];exact hww.2⟩,(QaP hpj).trans htp,by rw[hs1];exact S⟩
 refine⟨ag0,?_⟩;refine I1 rfl<|Ix rfl rfl<|Ix rfl rfl ?_;refine Qe (n:=6) 0 S gn rfl rfl rfl (by kernel_rfl) rfl rfl (by decide) rfl (fun g S=>ag0) fun g S=>?_;have S:SH h D (cR b1 (.cells (YF a (.slice sa a.acc.length sc)) 172 0)::slR 34 4 (.slice sa a.acc.length sc) (acC a.acc) a.acc.length ab::hpR ph H' hbs1::mcL mb ph P V s1 w1) g:=S;have hs1M:s1.M=s.M:=by rw[hs1];rfl
 have hs1Th:s1.Th=s.Th.set (id -1).toNat T':=by rw[hs1];rfl
 have hs1T:s1.T=s.T:=by rw[hs1];rfl
 have hs1H:s1.H=H':=by rw[hs1]
 have eA1:Zt s1 id=T':=by
  unfold Zt;rw[hs1Th,List.getElem?_set_self (by omega)];rfl
 have eL1:s1.Th.length=s.T.length:=by rw[hs1Th,List.length_set,hth]
 refine I2 rfl<|Z7<|I1 rfl<|In rfl rfl<|Q0<|Q2 rfl (fun hb=>?_) fun hb=>?_
 · skip
   refine Q6 ?_;have hne:e≠0:=by simpa using hb
   obtain⟨bs2,S⟩:=Qq (A:=[_,_,_]) S hw1 htp1;have S:SH h D [cR b1 (.cells (YF a (.slice sa a.acc.length sc)) 172 0),slR 34 4 (.slice sa a.acc.length sc) (acC a.acc) a.acc.length ab,hpR ph H' hbs1,mcR mb ph P V s1 tp bs2] _:=S;refine I1 rfl<|Ic [_] rfl rfl (C.mono (m53 (SH.sub1 S0 hown S 3 rfl)) ?_);rintro v g ⟨rfl,bs3,S2⟩;have S:=S.ret 3 rfl S2;refine⟨ag0,?_⟩;refine I2 rfl<|I2 rfl<|Q0<|Q7 ?_;refine⟨.inl rfl,_,rfl,?_⟩
   exact(by
    refine⟨false,11,{s1 with full:=true},hbs1,[],bs3,rfl,⟨a,e,T',H',hP,.inl ⟨hne,rfl,rfl,by rw[hs1]⟩⟩,?_⟩;rw[List.append_nil];show SH h D [hpR ph s1.H hbs1,_] _
    rw[hs1H];exact S.drop.drop)
 refine Q4<|Q3<|Q6 ?_;have he0:e=0:=by simpa using hb
 have hac:=hP.acc;refine I2 rfl<|Q0<|Q5<|Qh [(9,_)] [(0,_),(1,_),(6,_),(7,_)] (by repeat(first|exact trivial|refine⟨rfl,?_⟩)) (fun kk lv hh=> ∃(i:Nat) (w2:MW),lv=[(9,iV i)]/\kk=a.acc.length -i/\i<=a.acc.length/\(w2.qs.length=s1.Q.length/\w2.ths.length=s1.Th.length)/\w2.ths.map Prod.fst=tp/\SH h D (cR b1 (.cells (YF a (.slice sa a.acc.length sc)) 172 0)::slR 34 4 (.slice sa a.acc.length sc) (acC a.acc) a.acc.length ab::hpR ph H' hbs1::mcL mb ph P V (stA s1 id (a.acc.take i)) w2) hh) (n:=a.acc.length) ?_ fun kk lv hh hI=>?_
 · exact⟨0,w1,rfl,rfl,Nat.zero_le _,hw1,htp1,by
   have e:stA s1 id (a.acc.take 0)=s1:=by unfold stA;simp
   rw[e];exact S⟩
 obtain⟨i,w2,rfl,hkk,hin,hw2,htp2,S⟩:=hI;refine Q3<|Q6<|I1 rfl<|I0 5 rfl<|I4 rfl (S.cel 0 rfl) rfl<|I7 rfl<|Il rfl rfl<|Q0<|Q2 rfl (fun hb=>?_) fun hb=>?_
 · skip
   refine Q4 ?_;have hin:i <a.acc.length:=by simp at hb;omega
   obtain⟨ab2,am,ac2,ar,hav,hag,_⟩:=(S.sl 1 rfl).at (by omega)
   have kac:((acC a.acc++ar).drop (0+Int.toNat (i:Int)*5)).take 5=acV (a.acc[i]):=by
    rw[Int.toNat_natCast,Nat.zero_add];exact acC_at ar (List.getElem?_eq_getElem hin)
   have hal:0+Int.toNat (i:Int)*5+5<=(acC a.acc++ar).length:=by
    rw[Int.toNat_natCast,List.length_append,Qgl];omega
   have hsl:(stA s1 id (a.acc.take i)).M.length<=99980:=by rw[Q1Q,hs1M,List.length_take];omega
   refine Q3<|Q5<|I9<|I1 rfl<|I1 rfl<|I6 rfl<|I0 16 rfl<|I4 rfl (S.cel 3 rfl) rfl<|I1 rfl<|I0 5 rfl<|I4 rfl (S.cel 0 rfl) rfl<|I1 rfl ?_;rw[hav];refine I5o 5 rfl rfl ?_;rw[<-hav];refine I3 5 rfl hag hal ?_;rw[kac];refine Qz (cs:=(mkV ⟨3,id,0,a.acc[i]⟩).toArray) (zv:=.agg #[.int .i64 0,.int .i64 0,.int .i64 0,.int .i64 0,.int .i64 0,.int .i64 0,.int .i64 0,.bool false]) (pl:=[(0,1),(1,1),(2,1),(3,5)]) [(0,_),(1,_),(3,_)] gn rfl (by kernel_rfl) (by kernel_rfl) rfl (by kernel_rfl) ?_
   refine Qf (cs:=(mkV ⟨3,id,0,a.acc[i]⟩).toArray) (e:=36) (z:=7) (zv:=.agg #[.int .i64 0,.int .i64 0,.int .i64 0,.int .i64 0,.int .i64 0,.int .i64 0,.int .i64 0,.bool false]) [(0,_)] S gn rfl (by kernel_rfl) (by kernel_rfl) (by kernel_rfl) (by kernel_rfl) rfl (by kernel_rfl) fun b2 g nb2 S=>?_;refine QE (e:=36) (z:=7) (by':=63) 12 0 S el36 gn rfl rfl rfl rfl rfl rfl (by rfl) (by omega) (fun s' bs' g S=>ag0) fun s' bs' g S=>?_;refine I6 rfl<|I0 16 rfl ?_;have hcv:cellV s'=true:=(S.sl 12 rfl).cellV;refine Qi 4 S gn rfl rfl hcv (by kernel_rfl) rfl (by decide) (by simp) (fun g S=>ag0) fun g S=>?_;refine Q0<|Q1 (by kernel_rfl) ?_
   refine I1 rfl<|Iao rfl rfl<|I2 rfl<|Q0 ?_
   exact Z6 (a.acc.length - (i+1)) (by omega) [(9,_)] (by repeat(first|exact trivial|refine⟨rfl,?_⟩)) ⟨i+1,{w2 with mv:=s',mvb:=bs'},rfl,rfl,by omega,hw2,htp2,by
    have S2:=S.drop
    have e2:(stA s1 id (a.acc.take (i+1))).M.length=(stA s1 id (a.acc.take i)).M.length+1:=by
     rw[Q1Q,Q1Q,List.length_take,List.length_take];omega
    unfold mcL mcH
    rw[QcW hin,e2];exact S2⟩
 refine Ql<|Q9<|Qc<|Qm ?_;obtain rfl:i=a.acc.length:=by simp at hb;omega
 obtain⟨s2,hs2⟩: ∃s2,s2=stT s id a T' H':=⟨_,rfl⟩;have e12:stA s1 id (a.acc.take a.acc.length)=s2:=by rw[List.take_length,hs2,hs1];rfl
 rw[e12]at S;have k2:MOk P s2:=by rw[hs2];exact Qez k hP (by omega)
 have hs2Th:s2.Th=s1.Th:=by rw[<-e12];rfl
 have hs2T:s2.T=s.T:=by rw[<-e12];exact hs1T
 have hs2H:s2.H=H':=by rw[<-e12];exact hs1H
 have hs2M:s2.M.length<=99975:=by rw[<-e12,Q1Q,hs1M,List.length_take];omega
 have eA2:Zt s2 id=T':=by rw[<-eA1];unfold Zt;rw[hs2Th]
 have eK2: ∀n,ZB s2 n=ZB s n:=fun n=>by unfold ZB;rw[hs2T]
 have hw2:w2.qs.length=s2.Q.length/\w2.ths.length=s2.Th.length:=by rw[<-e12];exact hw2
 obtain⟨v2,hv2,hv2b⟩:=Q9L htp2 htbp
 have hpq2:(cR b1 (.cells (YF a (.slice sa a.acc.length sc)) 172 0)::slR 34 4 (.slice sa a.acc.length sc) (acC a.acc) a.acc.length ab::hpR ph H' hbs1::mcL mb ph P V s2 w2)[(id -1).toNat+s2.Q.length+10+1+1+1]?=some (thR tb (pvL P V) T' v2.2):=by
  have e:=Qgq (mb:=mb) (ph:=ph) (P:=P) (V:=V) (T:=T') hw2.1 (by rw[<-eA2];exact Jl h1 (by rw[hs2Th,eL1];exact h2)) hv2;rw[hv2b]at e;exact e
 obtain⟨ta,tc,tw,htw,_,hq,hql,_⟩:=Q1N (S.held _ hpq2);refine Q6<|I1 rfl<|I6 rfl<|I0 9 rfl<|I4 rfl hq rfl<|I2 rfl<|Q0 ?_;obtain⟨bs4,S⟩:=Qq (A:=[_,_,_]) S hw2 htp2;have S:SH h D [cR b1 (.cells (YF a (.slice sa a.acc.length sc)) 172 0),slR 34 4 (.slice sa a.acc.length sc) (acC a.acc) a.acc.length ab,hpR ph H' hbs1,mcR mb ph P V s2 tp bs4] _:=S;rw[<-hs2H]at S
 refine Y1 [(0,Qw mb),(1,iV id),(6,Qw tb)] (fun lv hh=>lv=[(10,iV (stK P s2 T' a))]/\(a.op≠0->ZE P s2 a=0)/\ ∃hbs' tl bs',SH h D [cR b1 (.cells (YF a (.slice sa a.acc.length sc)) 172 0),slR 34 4 (.slice sa a.acc.length sc) (acC a.acc) a.acc.length ab,hpR ph (stD P s2 id a).H hbs',mcR mb ph P V (stD P s2 id a) (tp++tl) bs'] hh) ?_ fun lv hh hJ=>?_
 · skip
   refine Q6<|I0 0 rfl<|I4 rfl (S.cel 0 rfl) rfl<|In rfl rfl<|Q0<|Q2 rfl (fun hb=>?_) fun hb=>?_
   · skip
     refine Q6 ?_;have hop:a.op≠0:=by simpa using hb
     have hA:=Q4Z hP hM hT hop;have Sd:=SH.comm (A:=[_,_]) S;refine I1 rfl<|I1 rfl<|I3 6 rfl (S.cel 0 rfl) (Nat.le_refl _) ?_;refine Z1 [_,_,_] gn rfl rfl (by kernel_rfl) rfl (C.mono (m78 (SH.subL (A:=[_,_]) S0 hown Sd) X0 hM k2 h1 (by rw[hs2T];exact h2) (by omega) rfl hA.lo hA.d hA.g hA.e (fun n n1 n2 n3=>by rw[eK2]at n3 ⊢;rw[hs2T]at n2;exact hw n n1 n2 n3)) ?_);rintro v g ⟨rfl,hbs2,tl,bs5,S2⟩;have S:=SH.comm (B:=[_,_]) (SH.retL (A:=[_,_]) Sd S2);refine⟨ag0,?_⟩;refine I1 rfl<|Ix rfl rfl<|Ix rfl rfl<|I2 rfl<|I2 rfl<|Z7<|I1 rfl<|In rfl rfl<|Q0 ?_
     refine Q2 rfl (fun hb=>?_) fun hb=>?_
     · skip
       refine Q6<|I1 rfl<|I2 rfl<|I2 rfl<|Q0<|Q7 ?_;refine⟨.inl rfl,_,rfl,?_⟩
       exact(by
        have hde:ZE P s2 a≠0:=by simpa using hb
        refine⟨false,ZE P s2 a,Y0 P s2 id a,hbs2,tl,bs5,rfl,⟨a,e,T',H',hP,.inr (.inl ⟨he0,hop,by rw[<-hs2];exact hde,rfl,by rw[<-hs2],by rw[<-hs2]⟩)⟩,?_⟩;have eH:(Y0 P s2 id a).H=s2.H:=Q7f
        rw[eH];exact S.drop.drop)
     refine Q4<|Q6 ?_;have hde:ZE P s2 a=0:=by simpa using hb
     refine I1 rfl<|Q0<|Q2 rfl (fun hb=>?_) fun hb=>?_
     · skip
       refine Q1 (by kernel_rfl)<|I2 rfl<|Q0 ?_
       exact ZF [(10,_)] (by repeat(first|exact trivial|refine⟨rfl,?_⟩)) (by
        have eK:stK P s2 T' a=1:=by unfold stK;rw[if_neg hop,if_pos (show ZU P s2 a=true from hb)]
        have eD:stD P s2 id a=Y0 P s2 id a:=by unfold stD;rw[if_neg hop]
        rw[eK,eD,Q7f]
        exact⟨rfl,fun _=>hde,hbs2,tl,bs5,S⟩)
     refine Q4 ?_
     exact ZF [(10,_)] (by repeat(first|exact trivial|refine⟨rfl,?_⟩)) (by
      have eK:stK P s2 T' a=T'.trap:=by unfold stK;rw[if_neg hop,if_neg (by rw[show ZU P s2 a=false from hb];decide)]
      have eD:stD P s2 id a=Y0 P s2 id a:=by unfold stD;rw[if_neg hop]
      rw[eK,eD,Q7f]
      exact⟨rfl,fun _=>hde,hbs2,tl,bs5,S⟩)
   refine Q4 ?_
   exact ZF [(10,_)] (by repeat(first|exact trivial|refine⟨rfl,?_⟩)) (by
    have hop:a.op=0:=by simpa using hb
    have eK:stK P s2 T' a=T'.trap:=by unfold stK;rw[if_pos hop]
    have eD:stD P s2 id a=s2:=by unfold stD;rw[if_pos hop]
    rw[eK,eD]
    exact⟨rfl,fun h=>absurd hop h,hbs1,[],bs4,by rw[List.append_nil];exact S⟩)
 obtain⟨rfl,hde,hbs2,tl,bs5,S⟩:=hJ;obtain⟨s3,hs3⟩: ∃s3,s3=stD P s2 id a:=⟨_,rfl⟩;obtain⟨K,hK⟩: ∃K,K=stK P s2 T' a:=⟨_,rfl⟩;have hfew:Few s2 s3:=by rw[hs3];exact Q6v
 rw[<-hs3]at S;rw[<-hK];obtain⟨w3,hw3,htp3,_,S⟩:=QG (A:=[_,_,_]) (S:SH h D ([cR b1 (.cells (YF a (.slice sa a.acc.length sc)) 172 0),slR 34 4 (.slice sa a.acc.length sc) (acC a.acc) a.acc.length ab,hpR ph s3.H hbs2]++[mcR mb ph P V s3 (tp++tl) bs5]) hh);have S:SH h D (cR b1 (.cells (YF a (.slice sa a.acc.length sc)) 172 0)::slR 34 4 (.slice sa a.acc.length sc) (acC a.acc) a.acc.length ab::hpR ph s3.H hbs2::mcL mb ph P V s3 w3) hh:=S
 have htbp3:(tp++tl)[(id -1).toNat]?=some tb:=by
  rw[List.getElem?_append_left (List.getElem?_eq_some_iff.1 htbp).1];exact htbp
 obtain⟨v3,hv3,hv3b⟩:=Q9L htp3 htbp3
 have hj3:id<=s3.Th.length:=by
  have:=(List.getElem?_eq_some_iff.1 hv3).1;rw[<-hw3.2];omega
 have h23:id<=s3.T.length:=by have:=hfew.1;rw[hs2T]at this;omega
 have hpq3:(cR b1 (.cells (YF a (.slice sa a.acc.length sc)) 172 0)::slR 34 4 (.slice sa a.acc.length sc) (acC a.acc) a.acc.length ab::hpR ph s3.H hbs2::mcL mb ph P V s3 w3)[(id -1).toNat+s3.Q.length+10+1+1+1]?=some (thR tb (pvL P V) (Zt s3 id) v3.2):=by
  have e:=Qgq (mb:=mb) (ph:=ph) (P:=P) (V:=V) hw3.1 (Jl (s:=s3) h1 hj3) hv3;rw[hv3b]at e;exact e
 refine Q3<|Q6<|I1 rfl<|Ie rfl rfl<|I1 rfl ?_
 refine Qp (n:=3) rfl rfl rfl gn rfl (fun hb=>by
  refine D1 hb rfl<|Dc hb [_] rfl rfl (Qr (m79 (S.held _ hpq3)) ⟨ag0,?_⟩);refine Db hb rfl ?_
  exact Q0 ⟨rfl,rfl,3,rfl,rfl⟩) ?_
 refine Q0<|Q2 rfl (fun hb=>?_) fun hb=>?_
 · skip
   refine Q6<|I2 rfl<|I2 rfl<|Q0<|Q7 ?_;refine⟨.inl rfl,_,rfl,?_⟩
   exact(by
    obtain⟨bs6,S⟩:=Qq (A:=[_,_,_]) S hw3 htp3;have hc:K=0/\Y7 (Zt s3 id)=false:=by simpa using hb
    refine⟨false,0,s3,hbs2,tl,bs6,rfl,⟨a,e,T',H',hP,.inr (.inr ⟨he0,by rw[<-hs2];exact hde,rfl,.inl ⟨by rw[<-hs2,<-hK];exact hc.1,by rw[<-hs2,<-hs3];exact hc.2,rfl,by rw[<-hs2,<-hs3]⟩⟩)⟩,?_⟩
    exact SH.drop (SH.drop S))
 refine Q4<|Q6 ?_
 have hnc: ¬(K=0/\Y7 (Zt s3 id)=false):=by
  rintro⟨c1,c2⟩;simp[c1,c2]at hb
 obtain⟨jb,jc,jcs,jm,hjv,hjg,hjat⟩:=Q1J (S.sl 7 rfl) h1 h23;refine I1 rfl<|I6 rfl<|I0 12 rfl<|I4 rfl (S.cel 3 rfl) rfl<|I1 rfl<|Iso rfl rfl ?_;rw[hjv];refine I5o 15 rfl rfl ?_;rw[<-hjv];refine I0 11 rfl<|ZG 7 S gn rfl rfl rfl (by kernel_rfl) rfl hjv (by rw[Q1L];omega) (fun g S=>ag0) fun g S=>?_;have S:SH h D (cR b1 (.cells (YF a (.slice sa a.acc.length sc)) 172 0)::slR 34 4 (.slice sa a.acc.length sc) (acC a.acc) a.acc.length ab::hpR ph s3.H hbs2::(mcL mb ph P V s3 w3).set 4 (slR 27 14 w3.tv ((tkC s3.T).set (0+Int.toNat (id -1)*15+11) (iV 3)) s3.T.length w3.tvb)) g:=S;rw[QfE h1 h23]at S
 obtain⟨s4,hs4⟩: ∃s4,s4=stM s3 id 3:=⟨_,rfl⟩;rw[<-hs4]at S;have hl4:s4.T.length=s3.T.length:=by rw[hs4];exact stM_few
 have h24:id<=s4.T.length:=by omega
 obtain⟨jb4,jc4,jcs4,jm4,hjv4,hjg4,hjat4⟩:=Q1J (s:=s4) (S.sl 7 rfl) h1 h24;refine QL<|I1 rfl<|I6 rfl<|I0 12 rfl<|I4 rfl (S.cel 3 rfl) rfl<|I1 rfl<|Iso rfl rfl<|I1 rfl ?_;rw[hjv4];refine I5o 15 rfl rfl ?_;rw[<-hjv4];refine I0 12 rfl<|ZG 7 S gn rfl rfl rfl (by kernel_rfl) rfl hjv4 (by rw[Q1L];omega) (fun g S=>ag0) fun g S=>?_
 have S:SH h D (cR b1 (.cells (YF a (.slice sa a.acc.length sc)) 172 0)::slR 34 4 (.slice sa a.acc.length sc) (acC a.acc) a.acc.length ab::hpR ph s3.H hbs2::(mcL mb ph P V s4 w3).set 4 (slR 27 14 w3.tv ((tkC s4.T).set (0+Int.toNat (id -1)*15+12) (iV K)) s4.T.length w3.tvb)) g:=S;rw[mc_tr h1 h24]at S;obtain⟨bs6,S⟩:=Qq (A:=[_,_,_]) S (by rw[hs4];exact hw3) htp3;have S:SH h D [cR b1 (.cells (YF a (.slice sa a.acc.length sc)) 172 0),slR 34 4 (.slice sa a.acc.length sc) (acC a.acc) a.acc.length ab,hpR ph s3.H hbs2,mcR mb ph P V (trM s4 id K) (tp++tl) bs6] _:=S;refine QL<|I1 rfl<|I1 rfl ?_
 refine Z1 [_,_,_,_] gn rfl rfl (by kernel_rfl) rfl (C.mono (m75 (SH.sub1 S0 hown S 3 rfl) (by rw[hs4];show s3.M.length<=100000;have:=hfew.2;omega)) ?_);rintro v g ⟨bs7,S2⟩;have S:=S.ret 3 rfl S2;refine⟨ag0,?_⟩;refine QL<|I2 rfl<|I2 rfl<|Q0<|Q7 ?_;refine⟨.inl rfl,_,rfl,?_⟩
 exact(by
  refine⟨true,0,Q0Y s3 id K,hbs2,tl,bs7,rfl,⟨a,e,T',H',hP,.inr (.inr ⟨he0,by rw[<-hs2];exact hde,rfl,.inr ⟨by rw[<-hs2,<-hK,<-hs3];exact hnc,rfl,by rw[<-hs2,<-hK,<-hs3]⟩⟩)⟩,?_⟩;unfold Q0Y;rw[<-hs4];have eH:(Yj (trM s4 id K) 2 id 0).H=s3.H:=by rw[hs4];rfl
  rw[eH]
  exact SH.drop (SH.drop S))
end
end Go.Proofs.Yteinandjhpnceaa
namespace Go.Proofs.Yteinandjhpnceaa
open Go.X Go.May Go.Mac
structure RunH (P:Prg) (s:MS):Prop where
 k:MOk P s
 po: ∀n:Int,1<=n->n<=s.T.length->(ZB s n).kind=4->0<=(ZB s n).looper/\(ZB s n).looper <P.loopers
 ov:s.full=false-> ∀id,Q1h s id=true->Y7 (Zt s id)=false
 it: ∀L,L∈s.Q-> ∀x,x∈L->1<=x.task/\x.task<=s.T.length
 ru: ∀r,r∈s.runs->0<=r/\r<=s.T.length
def upS (s:MS):MS:= {s with steps:=s.steps+1}
def Q9e (s:MS):MS:= {s with full:=true}
def WorkG (P:Prg) (s:MS) (id:Int):Prop:=1<=id/\id<=s.T.length/\(ZB s id).looper <0/\(ZB s id).state≠3/\Jf P s id=0
def Qgm (P:Prg) (s:MS) (id:Int) (e:Int) (s':MS):Prop:=
 (s.full=true/\e=11/\s'=s)\/(e=10/\s'=s)\/(e=11/\s'=Q9e s)\/
 (s.full=false/\WorkG P s id/\s.steps <20000/\(((ZB s id).state=1/\e=0/\s'=JH (upS s) id)\/((ZB s id).state≠1/\ ∃b,Q9v P (upS s) id b e s')))
theorem QaQ {P:Prg} {s:MS} (k:MOk P s) (h:s.steps <20000):MOk P (upS s):=
 ⟨k.h,k.k,k.k2,k.e2,k.e,k.q,k.r,k.t,k.th,k.g,k.lg,k.m,k.on,k.now,⟨by have:=k.st.1;show 0<=s.steps+1;omega,by show s.steps+1<=20000;omega⟩,k.ql,k.tok⟩
section
variable {h0 h:Hp} {P:Prg} {V:PrV} {mb ph:Nat} {s:MS} {hbs tp bs:List Nat}
set_option maxHeartbeats 4000000 in
theorem m28 {id:Int} (S0:SH h0 [] [hpR ph s.H hbs,mcR mb ph P V s tp bs] h) (X0:Q1f h0 P V) (hM:ZJ P=true) (R:RunH P s) (hm:s.M.length<=99960):C modE 28 [Qw mb,iV id] h fun v g'=> ∃(e:Int) (s':MS) (hbs' tl bs':List Nat),v=iV e/\Qgm P s id e s'/\SH h (owns [hpR ph s.H hbs,mcR mb ph P V s tp bs]) [hpR ph s'.H hbs',mcR mb ph P V s' (tp++tl) bs'] g':=by
 have SE:=S0.enterL;obtain⟨D,hD⟩: ∃D,D=owns [hpR ph s.H hbs,mcR mb ph P V s tp bs]:=⟨_,rfl⟩;have hown: ∀i,i∈D->h0.n<=i:=by rw[hD];exact S0.own0L
 rw[<-hD]at SE ⊢;have k:=R.k;have hk:=k.t;have hst:=k.st;obtain⟨w,hw,htp,_,SE⟩:=QG (A:=[_]) SE;have SE:SH h D (hpR ph s.H hbs::mcL mb ph P V s w) h:=SE;obtain⟨ta,tc0,htv0⟩:=Qa (SE.sl 5 rfl);have back: ∀g,SH h D (hpR ph s.H hbs::mcL mb ph P V s w) g-> ∃bs',SH h D [hpR ph s.H hbs,mcR mb ph P V s tp bs'] g:=fun g S=>Qq (A:=[_]) S hw htp;refine Q8 (fu:=Try.f28) (by kernel_rfl) rfl ?_;have S:=SE;refine Q6<|I2 rfl<|Z7<|I1 rfl<|I6 rfl<|I0 20 rfl<|I4 rfl (S.cel 1 rfl) rfl<|Q0<|Q2 rfl (fun hb=>?_) fun hb=>?_
 · skip
   refine Q6<|I2 rfl<|Q0<|Q7 ?_;refine⟨.inl rfl,_,rfl,?_⟩
   exact(by
    obtain⟨bs',S⟩:=back _ S
    exact⟨11,s,hbs,[],bs',rfl,.inl ⟨hb,rfl,rfl⟩,by rw[List.append_nil];exact S⟩)
 refine Q4<|Y1 [(0,Qw mb),(1,iV id)] (fun lv hh=>lv=[]/\WorkG P s id/\s.full=false/\SH h D (hpR ph s.H hbs::mcL mb ph P V s w) hh) ?_ fun lv hh hJ=>?_
 · skip
   refine Q6 ?_;have hfull:s.full=false:=hb;refine I1 rfl<|Il rfl rfl<|I1 rfl ?_
   refine QT (n:=7) rfl rfl rfl gn rfl (fun hb=>by
    refine D1 hb rfl<|D1 hb rfl<|D6 hb rfl<|D0 12 hb rfl<|D4 hb rfl (S.cel 1 rfl) rfl ?_;rw[htv0];refine D7 hb rfl ?_;rw[<-htv0];refine Dg hb rfl rfl ?_
    exact Q0 ⟨rfl,rfl,7,rfl,rfl⟩) ?_
   refine I1 rfl ?_
   refine QT (n:=10) rfl rfl rfl gn rfl (fun hb=>by
    have hbb:1<=id/\id<=s.T.length:=by simp at hb;omega
    obtain⟨tb,tc,cs,m,htv,hg,hat⟩:=Q1J (S.sl 5 rfl) hbb.1 hbb.2;refine D1 hb rfl<|D6 hb rfl<|D0 12 hb rfl<|D4 hb rfl (S.cel 1 rfl) rfl<|D1 hb rfl<|Dso hb rfl rfl ?_;rw[htv];refine D5o 15 hb rfl rfl ?_;rw[<-htv];refine D0 4 hb rfl<|D4 hb rfl hg (hat 4 _ (by decide) rfl)<|Dh hb rfl rfl ?_
    exact Q0 ⟨rfl,rfl,10,rfl,rfl⟩) ?_
   refine I1 rfl ?_
   refine QT (n:=10) rfl rfl rfl gn rfl (fun hb=>by
    have hbb:1<=id/\id<=s.T.length:=by simp at hb;omega
    obtain⟨tb,tc,cs,m,htv,hg,hat⟩:=Q1J (S.sl 5 rfl) hbb.1 hbb.2;refine D1 hb rfl<|D6 hb rfl<|D0 12 hb rfl<|D4 hb rfl (S.cel 1 rfl) rfl<|D1 hb rfl<|Dso hb rfl rfl ?_;rw[htv];refine D5o 15 hb rfl rfl ?_;rw[<-htv];refine D0 11 hb rfl<|D4 hb rfl hg (hat 11 _ (by decide) rfl)<|De hb rfl rfl ?_
    exact Q0 ⟨rfl,rfl,10,rfl,rfl⟩) ?_
   refine I1 rfl<|Ze (dc:=46) rfl (fun hb46=>?_) fun hb46=>?_
   · skip
     refine ZI (n:=4) (dc:=46) (w:=false) rfl hb46 rfl<|IT rfl hb46 rfl<|Q0<|Q2 rfl (fun hb=>?_) fun hb=>?_
     · skip
       refine Q6<|I2 rfl<|Q0<|Q7 ?_;refine⟨.inl rfl,_,rfl,?_⟩
       exact(by
        obtain⟨bs',S⟩:=back _ S
        exact⟨10,s,hbs,[],bs',rfl,.inr (.inl ⟨rfl,rfl⟩),by rw[List.append_nil];exact S⟩)
     refine Q4 ?_;exact ZF [] (by repeat(first|exact trivial|refine⟨rfl,?_⟩)) (absurd hb (by decide))
   refine D1 hb46 rfl<|D1 hb46 rfl ?_;obtain⟨bs1,Sb⟩:=back _ S;refine Dc hb46 [_,_] rfl rfl (C.mono (m52 (SH.sub1 S0 hown Sb 1 rfl) X0 hM k (R.ov hfull id)) ?_);rintro v g ⟨rfl,x⟩;have S:=S.grow x;refine⟨ag0,?_⟩;refine Dg hb46 rfl rfl<|Iu rfl hb46 rfl<|Q0<|Q2 rfl (fun hb=>?_) fun hb=>?_
   · skip
     refine Q6<|I2 rfl<|Q0<|Q7 ?_;refine⟨.inl rfl,_,rfl,?_⟩
     exact(by
      obtain⟨bs',S⟩:=back _ S
      exact⟨10,s,hbs,[],bs',rfl,.inr (.inl ⟨rfl,rfl⟩),by rw[List.append_nil];exact S⟩)
   refine Q4 ?_
   exact ZF [] (by repeat(first|exact trivial|refine⟨rfl,?_⟩)) (by
    have hb46':(((decide (id <1)||decide ((s.T.length:Int)<id))||decide ((0:Int)<=(ZB s id).looper))||decide ((ZB s id).state=3))=false:=hb46;simp only[Bool.or_eq_false_iff,decide_eq_false_iff_not]at hb46';have hwt: ¬0 <Jf P s id:=by simpa using hb
    have hw0:0<=Jf P s id:=by
     unfold Jf
     split
     · rename_i h;have:=h.2.2;unfold Q1G at this;simp at this;omega
     omega
    exact⟨rfl,⟨by omega,by omega,by omega,hb46'.2,by omega⟩,hfull,S⟩)
 obtain⟨rfl,hG,hfull,S⟩:=hJ;obtain⟨g1,g2,g3,g4,g5⟩:=hG;refine Q3<|Q6<|I1 rfl<|I6 rfl<|I0 19 rfl<|I4 rfl (S.cel 1 rfl) rfl<|Ih rfl rfl<|Q0<|Q2 rfl (fun hb=>?_) fun hb=>?_
 · skip
   refine Q6 ?_;obtain⟨bs1,S⟩:=back _ S;refine I1 rfl<|Ic [_] rfl rfl (C.mono (m53 (SH.sub1 S0 hown S 1 rfl)) ?_);rintro v g ⟨rfl,bs3,S2⟩;have S:=S.ret 1 rfl S2;refine⟨ag0,?_⟩;refine I2 rfl<|Q0<|Q7 ?_;refine⟨.inl rfl,_,rfl,?_⟩;exact⟨11,Q9e s,hbs,[],bs3,rfl,.inr (.inr (.inl ⟨rfl,rfl⟩)),by rw[List.append_nil];exact S⟩
 refine Q4<|Q6 ?_;have hlt:s.steps <20000:=by simp at hb;omega
 refine I1 rfl<|I6 rfl<|I0 19 rfl<|I4 rfl (S.cel 1 rfl) rfl<|Iao rfl rfl<|I6 rfl<|I0 19 rfl ?_;refine Qi 1 S gn rfl rfl rfl (by kernel_rfl) rfl (by decide) (by simp) (fun g S=>ag0) fun g S=>?_;obtain⟨s1,hs1⟩: ∃s1,s1=upS s:=⟨_,rfl⟩;have S:SH h D (hpR ph s1.H hbs::mcL mb ph P V s1 w) g:=by rw[hs1];exact S
 have k1:MOk P s1:=by rw[hs1];exact QaQ k hlt
 have eT:s1.T=s.T:=by rw[hs1];rfl
 have eM:s1.M=s.M:=by rw[hs1];rfl
 have eA: ∀n,ZB s1 n=ZB s n:=fun n=>by unfold ZB;rw[eT]
 have hw1:w.qs.length=s1.Q.length/\w.ths.length=s1.Th.length:=by rw[hs1];exact hw
 obtain⟨tb,tc,cs,m,htv,hg,hat⟩:=Q1J (s:=s1) (S.sl 5 rfl) g1 (by rw[eT];exact g2);have hat11:=hat 11 _ (by decide) rfl;rw[eA]at hat11;have htl:s1.T.length=s.T.length:=by rw[eT]
 refine Z7<|I1 rfl<|I6 rfl<|I0 12 rfl<|I4 rfl (S.cel 1 rfl) rfl<|I1 rfl<|Iso rfl rfl ?_;rw[htv];refine I5o 15 rfl rfl ?_;rw[<-htv];refine I0 11 rfl<|I4 rfl hg hat11<|Ie rfl rfl<|Q0<|Q2 rfl (fun hb=>?_) fun hb=>?_
 · skip
   refine Q6 ?_;obtain⟨bs1,S⟩:=Qq (A:=[_]) S hw1 htp;have S:SH h D [hpR ph s1.H hbs,mcR mb ph P V s1 tp bs1] _:=S;refine I1 rfl<|I1 rfl ?_;refine Z1 [_,_] gn rfl rfl (by kernel_rfl) rfl (C.mono (m55 (SH.sub1 S0 hown S 1 rfl) k1 g1 (by rw[eT];exact g2) (by rw[eM];omega)) ?_);rintro v g ⟨bs3,S2⟩;have S:=S.ret 1 rfl S2;refine⟨ag0,?_⟩;refine QL<|I2 rfl<|Q0<|Q7 ?_;refine⟨.inl rfl,_,rfl,?_⟩
   exact(by
    have hs:(ZB s id).state=1:=by simpa using hb
    refine⟨0,JH s1 id,hbs,[],bs3,rfl,.inr (.inr (.inr ⟨hfull,⟨g1,g2,g3,g4,g5⟩,hlt,.inl ⟨hs,rfl,by rw[hs1]⟩⟩)),?_⟩;have eH:(JH s1 id).H=s1.H:=by unfold JH;split<;>rfl
    rw[eH,List.append_nil];exact S)
 refine Q4<|Q6 ?_;obtain⟨bs1,S⟩:=Qq (A:=[_]) S hw1 htp;have S:SH h D [hpR ph s1.H hbs,mcR mb ph P V s1 tp bs1] _:=S;refine I1 rfl<|I1 rfl ?_;refine Z1 [_,_] gn rfl rfl (by kernel_rfl) rfl (C.mono (m56 (SH.subL (A:=[_,_]) (B:=[]) S0 hown S) X0 hM k1 g1 (by rw[eT];exact g2) (by rw[eM];omega) (fun n n1 n2 n3=>by rw[eA]at n3 ⊢;rw[eT]at n2;exact R.po n n1 n2 n3)) ?_);rintro v g ⟨b,e,s',hbs',tl,bs3,rfl,hR,S2⟩;have S:=SH.retL (A:=[_,_]) (B:=[]) S S2;refine⟨ag0,?_⟩;refine I1 rfl<|Ix rfl rfl<|Ix rfl rfl<|I2 rfl<|I2 rfl<|QL<|I1 rfl<|I2 rfl<|Q0 ?_
 refine Q7 ?_;refine⟨.inl rfl,_,rfl,?_⟩
 exact(by
  have hs:(ZB s id).state≠1:=by simpa using hb
  exact⟨e,s',hbs',tl,bs3,rfl,.inr (.inr (.inr ⟨hfull,⟨g1,g2,g3,g4,g5⟩,hlt,.inr ⟨hs,b,by rw[<-hs1];exact hR⟩⟩)),S⟩)
end
end Go.Proofs.Yteinandjhpnceaa
namespace Go.Proofs.Yteinandjhpnceaa
open Go.X Go.May Go.Mac
def qAt (s:MS) (l:Int):List MItem:=(s.Q[l.toNat]?).getD []
theorem qp_at {h:Hp} {s:MS} {w:MW} {qv:Value} {bs:List Nat} {l:Int} (x:SlC 104 0 h qv (ptC w.qs) s.Q.length bs) (hw:w.qs.length=s.Q.length) (h0:0<=l) (h1:l <s.Q.length): ∃b c cs m v,qv=.slice (some ⟨b,0,none⟩) s.Q.length c/\h.get b=some (.cells cs 104 m)/\w.qs[l.toNat]?=some v/\s.Q[l.toNat]?=some (qAt s l)/\cs[0+Int.toNat l*1]?=some (Qw v.1):=by
 obtain⟨b,m,c,r,hv,hg,_⟩:=x.at (by omega);obtain⟨v,hvj⟩: ∃v,w.qs[l.toNat]?=some v:=⟨_,List.getElem?_eq_getElem (by omega)⟩;refine⟨b,c,_,m,v,hv,hg,hvj,?_,?_⟩
 · unfold qAt;rw[List.getElem?_eq_getElem (by omega)];rfl
 rw[Nat.zero_add,Nat.mul_one,List.getElem?_append_left (by rw[List.length_map];omega),List.getElem?_map,hvj];rfl
theorem Q7d {L:List MItem} {now:Int} (h:Q2S L now=true):Zr L now∈L:=by
 have h1:0<=Zb L:=by
  unfold Q2S at h;simp at h;exact h.1
 have h2:=Kj L L.length (Nat.le_refl _);have h2:Zb L <L.length:=h2.2.1;unfold Zr;rw[if_pos h];unfold Ki;rw[List.getElem?_eq_getElem (by omega)];exact List.getElem_mem _
theorem Q8G {P:Prg} {s:MS} {t:MTask} {c:List Int}:(Y4 P s t c).runs=s.runs:=by
 unfold Y4
 split<;>rfl
theorem canM_r {s:MS} {id z o:Int}:(Q2U s id z o).runs=s.runs:=by
 unfold Q2U
 split<;>rfl
theorem Qg0 {s:MS} {id:Int} {a:MAsk}:(Jj s id a).runs=s.runs:=by
 unfold Jj
 split<;>rfl
theorem Qg4 {s:MS} {id:Int} {a:MAsk}:(Zm s id a).1.runs=s.runs:=by
 unfold Zm
 split;rfl
 split;rfl
 split;exact canM_r
 split;exact Qg0
 split;rfl
 split;rfl
 rfl
theorem Qc5 {P:Prg} {s:MS} {id:Int} {a:MAsk}:(Y0 P s id a).runs=s.runs:=by
 unfold Y0
 split
 · unfold mdS
   split
   · split
     · rfl
     exact Q8G
   rfl
 split
 · rfl
 split
 · rfl
 exact Qg4
theorem step_r {P:Prg} {s s':MS} {id e:Int} {b:Bool} (h:Q9v P s id b e s'):s'.runs=s.runs:=by
 have hD: ∀a T' H',(stD P (stT s id a T' H') id a).runs=s.runs:=fun a T' H'=>by
  unfold stD
  split
  · rfl
  exact Qc5
 obtain⟨a,e0,T',H',_,h⟩:=h;rcases h with⟨_,_,_,rfl⟩| ⟨_,_,_,_,_,rfl⟩| ⟨_,_,_,h⟩
 · rfl
 · exact Qc5
 rcases h with⟨_,_,_,rfl⟩| ⟨_,_,rfl⟩
 · exact hD _ _ _
 exact hD _ _ _
def RunG (P:Prg) (s:MS) (l:Int):Prop:=0<=l/\l <s.Q.length/\(reg s.runs l=0->Q2S (qAt s l) s.now=true)/\(0 <reg s.runs l->Jf P s (reg s.runs l)=0)
def begR (s:MS) (l:Int):MS:=JH {upS s with Q:=s.Q.modify l.toNat fun L=>tkQ L s.now,runs:=s.runs.set l.toNat (Zr (qAt s l) s.now).task} (Zr (qAt s l) s.now).task
def ovrR (s:MS) (l:Int) (b:Bool):MS:=if b then {s with runs:=s.runs.set l.toNat 0}else s
def Qgn (P:Prg) (s:MS) (l:Int) (e:Int) (s':MS):Prop:=
 (s.full=true/\e=11/\s'=s)\/(e=10/\s'=s)\/(e=11/\s'=Q9e s)\/
 (s.full=false/\RunG P s l/\s.steps <20000/\((reg s.runs l=0/\e=0/\s'=begR s l)\/(reg s.runs l≠0/\ ∃b s2,Q9v P (upS s) (reg s.runs l) b e s2/\s'=ovrR s2 l b)))
theorem Qc3 {L:List MItem} {t:Int}:(Q3w L t).length<=L.length:=by
 unfold Q3w
 split
 · rw[List.length_eraseIdx];split<;>omega
 exact Nat.le_refl _
theorem tkQ_le {L:List MItem} {now:Int}:(tkQ L now).length<=L.length:=by
 unfold tkQ
 split
 · exact Qc3
 exact Nat.le_refl _
theorem ql_tk {P:Prg} {s:MS} (k:MOk P s) {j:Nat} {L:List MItem} (h:L∈s.Q.modify j fun L=>tkQ L s.now):L.length<=s.T.length:=by
 obtain⟨i,hi,rfl⟩:=List.mem_iff_getElem.1 h;have hi':i <s.Q.length:=by rw[List.length_modify]at hi;exact hi
 have:=k.ql _ (List.getElem_mem hi');rw[List.getElem_modify]
 split
 · exact Nat.le_trans tkQ_le this
 exact this
section
variable {h0 h:Hp} {P:Prg} {V:PrV} {mb ph:Nat} {s:MS} {hbs tp bs:List Nat}
set_option maxHeartbeats 8000000 in
theorem m27 {l:Int} (S0:SH h0 [] [hpR ph s.H hbs,mcR mb ph P V s tp bs] h) (X0:Q1f h0 P V) (hM:ZJ P=true) (R:RunH P s) (hm:s.M.length<=99960):C modE 27 [Qw mb,iV l] h fun v g'=> ∃(e:Int) (s':MS) (hbs' tl bs':List Nat),v=iV e/\Qgn P s l e s'/\SH h (owns [hpR ph s.H hbs,mcR mb ph P V s tp bs]) [hpR ph s'.H hbs',mcR mb ph P V s' (tp++tl) bs'] g':=by
 have SE:=S0.enterL;obtain⟨D,hD⟩: ∃D,D=owns [hpR ph s.H hbs,mcR mb ph P V s tp bs]:=⟨_,rfl⟩;have hown: ∀i,i∈D->h0.n<=i:=by rw[hD];exact S0.own0L
 rw[<-hD]at SE ⊢;have k:=R.k;have hk:=k.t;have hst:=k.st;have hq:=k.q;have hr:=k.r;obtain⟨w,hw,htp,_,SE⟩:=QG (A:=[_]) SE;have SE:SH h D (hpR ph s.H hbs::mcL mb ph P V s w) h:=SE;obtain⟨qa,qc0,hqv0⟩:=Qa (SE.sl 3 rfl);have back: ∀g,SH h D (hpR ph s.H hbs::mcL mb ph P V s w) g-> ∃bs',SH h D [hpR ph s.H hbs,mcR mb ph P V s tp bs'] g:=fun g S=>Qq (A:=[_]) S hw htp;refine Q8 (fu:=Try.f27) (by kernel_rfl) rfl ?_;have S:=SE;refine Q6<|I2 rfl<|Z7<|I1 rfl<|I6 rfl<|I0 20 rfl<|I4 rfl (S.cel 1 rfl) rfl<|Q0<|Q2 rfl (fun hb=>?_) fun hb=>?_
 · skip
   refine Q6<|I2 rfl<|Q0<|Q7 ?_;refine⟨.inl rfl,_,rfl,?_⟩
   exact(by
    obtain⟨bs',S⟩:=back _ S
    exact⟨11,s,hbs,[],bs',rfl,.inl ⟨hb,rfl,rfl⟩,by rw[List.append_nil];exact S⟩)
 refine Q4<|Q3<|Q6 ?_;have hfull:s.full=false:=hb;refine I1 rfl<|Il rfl rfl<|I1 rfl ?_
 refine QT (n:=7) rfl rfl rfl gn rfl (fun hb=>by
  refine D1 hb rfl<|D1 hb rfl<|D6 hb rfl<|D0 10 hb rfl<|D4 hb rfl (S.cel 1 rfl) rfl ?_;rw[hqv0];refine D7 hb rfl ?_;rw[<-hqv0];refine Dh hb rfl rfl ?_
  exact Q0 ⟨rfl,rfl,7,rfl,rfl⟩) ?_
 refine Q0<|Q2 rfl (fun hb=>?_) fun hb=>?_
 · skip
   refine Q6<|I2 rfl<|Q0<|Q7 ?_;refine⟨.inl rfl,_,rfl,?_⟩
   exact(by
    obtain⟨bs',S⟩:=back _ S
    exact⟨10,s,hbs,[],bs',rfl,.inr (.inl ⟨rfl,rfl⟩),by rw[List.append_nil];exact S⟩)
 refine Q4<|Q3<|Yq [(0,[]),(1,[]),(2,[]),(3,[]),(4,[]),(5,[]),(6,[]),(7,[]),(8,[]),(9,[]),(10,[]),(15,[]),(11,[]),(12,[]),(13,[]),(14,[]),(16,[]),(17,[])] (by kernel_rfl) (by kernel_rfl) (by kernel_rfl) (by kernel_rfl) ?_;have hl0:0<=l/\l <s.Q.length:=by simp at hb;omega
 obtain⟨qb,qc,qcs,qm,qv,hqv,hqg,hqj,hQj,hqk⟩:=qp_at (s:=s) (w:=w) (S.sl 3 rfl) hw.1 hl0.1 hl0.2;have hLm:(qAt s l).length<=1000000:=Nat.le_trans (k.ql _ (List.mem_of_getElem? hQj)) (by omega);refine I1 rfl<|I6 rfl<|I0 10 rfl<|I4 rfl (S.cel 1 rfl) rfl<|I1 rfl ?_;rw[hqv];refine I5o 1 rfl rfl ?_;rw[<-hqv];refine I4 rfl hqg hqk<|I1 rfl<|I6 rfl<|I0 18 rfl<|I4 rfl (S.cel 1 rfl) rfl ?_;refine Qo (zv:=.agg #[.int .i64 0,.bool false,.int .i64 0]) S gn rfl (by kernel_rfl) fun b1 g nb1 S=>?_
 have hpq:(cR b1 (.cells [iV 0,.bool false,iV 0] 144 0)::hpR ph s.H hbs::mcL mb ph P V s w)[l.toNat+10+1+1]?=some (quR qv.1 (qAt s l) qv.2):=mc_q (mb:=mb) (ph:=ph) hQj hqj;refine Ic [_,_] rfl rfl (C.mono (m51 (S.held _ hpq) hLm) ?_);rintro v g ⟨rfl,x⟩;have S:=S.grow x;refine⟨ag0,?_⟩;refine I1 rfl<|Ix rfl rfl<|Ix rfl rfl ?_;refine Qe (n:=3) 0 S gn rfl rfl rfl (by kernel_rfl) rfl rfl (by decide) rfl (fun g S=>ag0) fun g S=>?_;have S:SH h D (cR b1 (.cells [iV (Zr (qAt s l) s.now).task,.bool (Zr (qAt s l) s.now).front,iV (Zr (qAt s l) s.now).due] 144 0)::hpR ph s.H hbs::mcL mb ph P V s w) g:=S;refine I2 rfl<|Q0 ?_
 refine Y1 [(0,Qw mb),(1,iV l),(5,Qw b1)] (fun lv hh=>lv=[]/\RunG P s l/\SH h D (cR b1 (.cells [iV (Zr (qAt s l) s.now).task,.bool (Zr (qAt s l) s.now).front,iV (Zr (qAt s l) s.now).due] 144 0)::hpR ph s.H hbs::mcL mb ph P V s w) hh) ?_ fun lv hh hJ=>?_
 · skip
   refine Q6 ?_;obtain⟨rb,rc,rcs,rm,hrv,hrg,hrk⟩:=Q5I (R:=s.runs) (S.sl 5 rfl) hl0.1 (by omega);refine I1 rfl<|I6 rfl<|I0 11 rfl<|I4 rfl (S.cel 2 rfl) rfl<|I1 rfl ?_;rw[hrv];refine I5o 1 rfl rfl ?_;rw[<-hrv];refine I4 rfl hrg hrk<|Ie rfl rfl<|I1 rfl ?_
   refine Qp (n:=2) rfl rfl rfl gn rfl (fun hb=>by
    refine D1 hb rfl<|Db hb rfl ?_
    exact Q0 ⟨rfl,rfl,2,rfl,rfl⟩) ?_
   refine I1 rfl<|Ze (dc:=51) rfl (fun hb51=>?_) fun hb51=>?_
   · skip
     refine ZI (n:=20) (dc:=51) (w:=false) rfl hb51 rfl<|IT rfl hb51 rfl<|Q0<|Q2 rfl (fun hb=>?_) fun hb=>?_
     · skip
       refine Q6<|I2 rfl<|Q0<|Q7 ?_;refine⟨.inl rfl,_,rfl,?_⟩
       exact(by
        obtain⟨bs',S⟩:=back _ S.drop
        exact⟨10,s,hbs,[],bs',rfl,.inr (.inl ⟨rfl,rfl⟩),by rw[List.append_nil];exact S⟩)
     refine Q4 ?_;exact ZF [] (by repeat(first|exact trivial|refine⟨rfl,?_⟩)) (absurd hb (by decide))
   refine D1 hb51 rfl<|D6 hb51 rfl<|D0 11 hb51 rfl<|D4 hb51 rfl (S.cel 2 rfl) rfl<|D1 hb51 rfl ?_;rw[hrv];refine D5o 1 hb51 rfl rfl ?_;rw[<-hrv];refine D4 hb51 rfl hrg hrk<|Dg hb51 rfl rfl<|D1 hb51 rfl<|Ze (dc:=60) rfl (fun hb60=>?_) fun hb60=>?_
   · skip
     refine D1 hb60 rfl<|D1 hb60 rfl<|D6 hb60 rfl<|D0 11 hb60 rfl<|D4 hb60 rfl (S.cel 2 rfl) rfl<|D1 hb60 rfl ?_;rw[hrv];refine D5o 1 hb60 rfl rfl ?_;rw[<-hrv];refine D4 hb60 rfl hrg hrk ?_;obtain⟨bs1,Sb⟩:=back _ S.drop;refine Dc hb60 [_,_] rfl rfl (C.mono (m52 (SH.sub1 S0 hown Sb 1 rfl) X0 hM k (R.ov hfull _)) ?_);rintro v g ⟨rfl,x⟩;have S:=S.grow x;refine⟨ag0,?_⟩;refine Dg hb60 rfl rfl<|DT hb51 rfl hb60 rfl<|Iu rfl hb51 rfl<|Q0<|Q2 rfl (fun hb=>?_) fun hb=>?_
     · skip
       refine Q6<|I2 rfl<|Q0<|Q7 ?_;refine⟨.inl rfl,_,rfl,?_⟩
       exact(by
        obtain⟨bs',S⟩:=back _ S.drop
        exact⟨10,s,hbs,[],bs',rfl,.inr (.inl ⟨rfl,rfl⟩),by rw[List.append_nil];exact S⟩)
     refine Q4 ?_
     exact ZF [] (by repeat(first|exact trivial|refine⟨rfl,?_⟩)) (by
      have h51:(decide (reg s.runs l=0)&& !Q2S (qAt s l) s.now)=false:=hb51;have hwt: ¬0 <Jf P s (reg s.runs l):=by simpa using hb
      have hw0:0<=Jf P s (reg s.runs l):=by
       unfold Jf
       split
       · rename_i h;have:=h.2.2;unfold Q1G at this;simp at this;omega
       omega
      refine⟨rfl,⟨hl0.1,hl0.2,fun e=>?_,fun _=>by omega⟩,S⟩;rw[e]at h51
      simpa using h51)
   refine ZI (n:=10) (dc:=60) (w:=true) rfl hb60 rfl<|Du hb51 rfl hb60 rfl<|Iu rfl hb51 rfl<|Q0<|Q2 rfl (fun hb=>?_) fun hb=>?_
   · skip
     refine Q6<|I2 rfl<|Q0<|Q7 ?_;refine⟨.inl rfl,_,rfl,?_⟩
     exact(by
      obtain⟨bs',S⟩:=back _ S.drop
      exact⟨10,s,hbs,[],bs',rfl,.inr (.inl ⟨rfl,rfl⟩),by rw[List.append_nil];exact S⟩)
   refine Q4 ?_
   exact ZF [] (by repeat(first|exact trivial|refine⟨rfl,?_⟩)) (by
    have h51:(decide (reg s.runs l=0)&& !Q2S (qAt s l) s.now)=false:=hb51;have h60: ¬0 <reg s.runs l:=by simpa using hb60
    refine⟨rfl,⟨hl0.1,hl0.2,fun e=>?_,fun h=>absurd h h60⟩,S⟩;rw[e]at h51
    simpa using h51)
 obtain⟨rfl,hG,S⟩:=hJ;obtain⟨g1,g2,g3,g4⟩:=hG;have hG:RunG P s l:=⟨g1,g2,g3,g4⟩;refine Q3<|Q6<|I1 rfl<|I6 rfl<|I0 19 rfl<|I4 rfl (S.cel 2 rfl) rfl<|Ih rfl rfl<|Q0<|Q2 rfl (fun hb=>?_) fun hb=>?_
 · skip
   refine Q6 ?_;obtain⟨bs1,S⟩:=back _ S.drop;refine I1 rfl<|Ic [_] rfl rfl (C.mono (m53 (SH.sub1 S0 hown S 1 rfl)) ?_);rintro v g ⟨rfl,bs3,S2⟩;have S:=S.ret 1 rfl S2;refine⟨ag0,?_⟩;refine I2 rfl<|Q0<|Q7 ?_;refine⟨.inl rfl,_,rfl,?_⟩;exact⟨11,Q9e s,hbs,[],bs3,rfl,.inr (.inr (.inl ⟨rfl,rfl⟩)),by rw[List.append_nil];exact S⟩
 refine Q4<|Q6 ?_;have hlt:s.steps <20000:=by simp at hb;omega
 refine I1 rfl<|I6 rfl<|I0 19 rfl<|I4 rfl (S.cel 2 rfl) rfl<|Iao rfl rfl<|I6 rfl<|I0 19 rfl ?_;refine Qi 2 S gn rfl rfl rfl (by kernel_rfl) rfl (by decide) (by simp) (fun g S=>ag0) fun g S=>?_;obtain⟨s1,hs1⟩: ∃s1,s1=upS s:=⟨_,rfl⟩;have S:SH h D (cR b1 (.cells [iV (Zr (qAt s l) s.now).task,.bool (Zr (qAt s l) s.now).front,iV (Zr (qAt s l) s.now).due] 144 0)::hpR ph s1.H hbs::mcL mb ph P V s1 w) g:=by rw[hs1];exact S
 have k1:MOk P s1:=by rw[hs1];exact QaQ k hlt
 have eT:s1.T=s.T:=by rw[hs1];rfl
 have eM:s1.M=s.M:=by rw[hs1];rfl
 have eQ:s1.Q=s.Q:=by rw[hs1];rfl
 have eR:s1.runs=s.runs:=by rw[hs1];rfl
 have eN:s1.now=s.now:=by rw[hs1];rfl
 have eA: ∀n,ZB s1 n=ZB s n:=fun n=>by unfold ZB;rw[eT]
 have eqA:qAt s1 l=qAt s l:=by unfold qAt;rw[eQ]
 have hw1:w.qs.length=s1.Q.length/\w.ths.length=s1.Th.length:=by rw[hs1];exact hw
 have hql1:s1.Q.length=s.Q.length:=by rw[eQ]
 have hrl1:s1.runs.length=s.runs.length:=by rw[eR]
 obtain⟨rb,rc,rcs,rm,hrv,hrg,hrk⟩:=Q5I (R:=s1.runs) (a:=l) (S.sl 5 rfl) g1 (by omega);have hrk':rcs[0+Int.toNat l*1]?=some (iV (reg s.runs l)):=by rw[<-eR];exact hrk
 refine Z7<|I1 rfl<|I6 rfl<|I0 11 rfl<|I4 rfl (S.cel 2 rfl) rfl<|I1 rfl ?_;rw[hrv];refine I5o 1 rfl rfl ?_;rw[<-hrv];refine I4 rfl hrg hrk'<|Ie rfl rfl<|Q0<|Q2 rfl (fun hb=>?_) fun hb=>?_
 · skip
   refine Q3<|I9 ?_;have hr0:reg s.runs l=0:=by simpa using hb
   have hdm:=Q7d (g3 hr0);obtain⟨qb,qc,qcs,qm,qv,hqv,hqg,hqj,hQj,hqk⟩:=qp_at (s:=s1) (w:=w) (S.sl 4 rfl) hw1.1 g1 (by omega);rw[eqA]at hQj;have hLm:(qAt s l).length<=1000000:=Nat.le_trans (k1.ql _ (List.mem_of_getElem? hQj)) (by rw[eT];omega);have hit:=R.it _ (by rw[<-eQ];exact List.mem_of_getElem? hQj) _ hdm;refine I1 rfl<|I6 rfl<|I0 10 rfl<|I4 rfl (S.cel 2 rfl) rfl<|I1 rfl ?_;rw[hqv];refine I5o 1 rfl rfl ?_;rw[<-hqv];refine I4 rfl hqg hqk<|I1 rfl<|I6 rfl<|I0 18 rfl<|I4 rfl (S.cel 2 rfl) rfl ?_
   have hpq:(cR b1 (.cells [iV (Zr (qAt s l) s.now).task,.bool (Zr (qAt s l) s.now).front,iV (Zr (qAt s l) s.now).due] 144 0)::hpR ph s1.H hbs::mcL mb ph P V s1 w)[l.toNat+10+1+1]?=some (quR qv.1 (qAt s l) qv.2):=mc_q (mb:=mb) (ph:=ph) hQj hqj;refine Ic [_,_] rfl rfl (C.mono (m54 (SH.sub1 S0 hown S _ hpq) hLm) ?_);rintro v g ⟨rfl,bs3,S2⟩;have S:=S.ret _ hpq S2;have S:SH h D (cR b1 (.cells [iV (Zr (qAt s l) s.now).task,.bool (Zr (qAt s l) s.now).front,iV (Zr (qAt s l) s.now).due] 144 0)::hpR ph s1.H hbs::(mcL mb ph P V s1 w).set (l.toNat+10) (quR qv.1 (tkQ (qAt s l) s1.now) bs3)) g:=S;rw[Q72 (fun L=>tkQ L s1.now) bs3 hQj hqj]at S
   obtain⟨s2,hs2⟩: ∃s2,s2= {s1 with Q:=s1.Q.modify l.toNat fun L=>tkQ L s1.now}:=⟨_,rfl⟩
   obtain⟨w2,hw2,htp2,S⟩: ∃w2:MW,(w2.qs.length=s2.Q.length/\w2.ths.length=s2.Th.length)/\w2.ths.map Prod.fst=tp/\SH h D (cR b1 (.cells [iV (Zr (qAt s l) s.now).task,.bool (Zr (qAt s l) s.now).front,iV (Zr (qAt s l) s.now).due] 144 0)::hpR ph s1.H hbs::mcL mb ph P V s2 w2) g:=⟨{w with qs:=w.qs.set l.toNat (qv.1,bs3)},by
    rw[hs2]
    exact⟨by show(w.qs.set _ _).length=(s1.Q.modify _ _).length;rw[List.length_set,List.length_modify];exact hw1.1,hw1.2⟩,htp,by rw[hs2];exact S⟩
   have eR2:s2.runs=s.runs:=by rw[hs2];exact eR
   have hrl2:s2.runs.length=s.runs.length:=by rw[eR2]
   obtain⟨rb,rc,rcs,rm,hrv,hrg,hrk⟩:=Q5I (R:=s2.runs) (a:=l) (S.sl 5 rfl) g1 (by omega);refine⟨ag0,?_⟩;refine Q0<|Q3<|I9<|I1 rfl<|I6 rfl<|I0 11 rfl<|I4 rfl (S.cel 2 rfl) rfl<|I1 rfl<|I0 0 rfl<|I4 rfl (S.cel 0 rfl) rfl ?_;rw[hrv];refine I5o 1 rfl rfl ?_;rw[<-hrv];refine ZG 5 S gn rfl rfl rfl (by kernel_rfl) rfl hrv (by rw[List.length_map];omega) (fun g S=>ag0) fun g S=>?_;obtain⟨s3,hs3⟩: ∃s3,s3= {s2 with runs:=s2.runs.set l.toNat (Zr (qAt s l) s.now).task}:=⟨_,rfl⟩
   have S:SH h D ([cR b1 (.cells [iV (Zr (qAt s l) s.now).task,.bool (Zr (qAt s l) s.now).front,iV (Zr (qAt s l) s.now).due] 144 0),hpR ph s1.H hbs]++mcL mb ph P V s3 w2) g:=by
    rw[hs3];unfold mcL mcH;show SH h D (_::_::([_,_,_,slR 3 0 w2.rv (isV (s2.runs.set l.toNat (Zr (qAt s l) s.now).task)) (s2.runs.set l.toNat (Zr (qAt s l) s.now).task).length w2.rvb,_,_,_,_,_,_]++_)) g;rw[<-KU,List.length_set];have S2:=S;rw[Nat.zero_add,Nat.mul_one]at S2;exact S2
   obtain⟨bs4,S⟩:=Qq (A:=[_,_]) S (by rw[hs3];exact hw2) htp2;have S:SH h D [cR b1 (.cells [iV (Zr (qAt s l) s.now).task,.bool (Zr (qAt s l) s.now).front,iV (Zr (qAt s l) s.now).due] 144 0),hpR ph s1.H hbs,mcR mb ph P V s3 tp bs4] g:=S;have eT3:s3.T=s.T:=by rw[hs3,hs2];exact eT
   have eM3:s3.M=s.M:=by rw[hs3,hs2];exact eM
   have k3:MOk P s3:=by
    rw[hs3,hs2];exact⟨k1.h,k1.k,k1.k2,k1.e2,k1.e,by show(s1.Q.modify _ _).length=_;rw[List.length_modify];exact k1.q,by show(s1.runs.set _ _).length=_;rw[List.length_set];exact k1.r,k1.t,k1.th,k1.g,k1.lg,k1.m,k1.on,k1.now,k1.st,fun L hL=>ql_tk k1 hL,k1.tok⟩
   refine QL<|I1 rfl<|I0 0 rfl<|I4 rfl (S.cel 0 rfl) rfl ?_;refine Z1 [_,_] gn rfl rfl (by kernel_rfl) rfl (C.mono (m55 (SH.sub1 S0 hown S 2 rfl) k3 hit.1 (by rw[eT3];exact hit.2) (by rw[eM3];omega)) ?_);rintro v g ⟨bs5,S2⟩;have S:=S.ret 2 rfl S2;refine⟨ag0,?_⟩;refine QL<|I2 rfl<|Q0<|Q7 ?_;refine⟨.inl rfl,_,rfl,?_⟩
   exact(by
    have e:begR s l=JH s3 (Zr (qAt s l) s.now).task:=by
     unfold begR;rw[hs3,hs2,hs1];rfl
    refine⟨0,JH s3 (Zr (qAt s l) s.now).task,hbs,[],bs5,rfl,.inr (.inr (.inr ⟨hfull,hG,hlt,.inl ⟨hr0,rfl,e.symm⟩⟩)),?_⟩;have eH:(JH s3 (Zr (qAt s l) s.now).task).H=s1.H:=by unfold JH;split<;>(rw[hs3,hs2];rfl)
    rw[eH,List.append_nil];exact S.drop)
 refine Q4<|Q6 ?_;have hr0:reg s.runs l≠0:=by simpa using hb
 have hrm:=R.ru (reg s.runs l) (List.mem_of_getElem? (Q7M g1 (by omega)));refine I1 rfl<|I1 rfl<|I6 rfl<|I0 11 rfl<|I4 rfl (S.cel 2 rfl) rfl<|I1 rfl ?_;rw[hrv];refine I5o 1 rfl rfl ?_;rw[<-hrv];refine I4 rfl hrg hrk' ?_;obtain⟨bs1,S⟩:=Qq (A:=[_]) S.drop hw1 htp;have S:SH h D [hpR ph s1.H hbs,mcR mb ph P V s1 tp bs1] _:=S;refine Z1 [_,_] gn rfl rfl (by kernel_rfl) rfl (C.mono (m56 (SH.subL (A:=[_,_]) (B:=[]) S0 hown S) X0 hM k1 (by omega) (by rw[eT];exact hrm.2) (by rw[eM];omega) (fun n n1 n2 n3=>by rw[eA]at n3 ⊢;rw[eT]at n2;exact R.po n n1 n2 n3)) ?_);rintro v g ⟨b,e,s2,hbs',tl,bs3,rfl,hR,S2⟩
 have S:=SH.retL (A:=[_,_]) (B:=[]) S S2;have S:SH h D ([hpR ph s2.H hbs']++[mcR mb ph P V s2 (tp++tl) bs3]) g:=S;refine⟨ag0,?_⟩;refine I1 rfl<|Ix rfl rfl<|Ix rfl rfl<|I2 rfl<|I2 rfl<|Z7<|I1 rfl<|Q0<|Q2 rfl (fun hb=>?_) fun hb=>?_
 · skip
   refine Q1 (by kernel_rfl) ?_;have hbt:b=true:=hb;obtain⟨w2,hw2,htp2,_,S⟩:=QG S;have S:SH h D (hpR ph s2.H hbs'::mcL mb ph P V s2 w2) _:=S;have eR2:s2.runs=s.runs:=(step_r hR).trans eR;have hrl2:s2.runs.length=s.runs.length:=by rw[eR2]
   obtain⟨rb,rc,rcs,rm,hrv,hrg,hrk⟩:=Q5I (R:=s2.runs) (a:=l) (S.sl 4 rfl) g1 (by omega);refine I1 rfl<|I6 rfl<|I0 11 rfl<|I4 rfl (S.cel 1 rfl) rfl<|I1 rfl ?_;rw[hrv];refine I5o 1 rfl rfl ?_;rw[<-hrv];refine ZG 4 S gn rfl rfl rfl (by kernel_rfl) rfl hrv (by rw[List.length_map];omega) (fun g S=>ag0) fun g S=>?_
   have S:SH h D ([hpR ph s2.H hbs']++mcL mb ph P V {s2 with runs:=s2.runs.set l.toNat 0} w2) g:=by
    unfold mcL mcH;show SH h D (_::([_,_,_,slR 3 0 w2.rv (isV (s2.runs.set l.toNat 0)) (s2.runs.set l.toNat 0).length w2.rvb,_,_,_,_,_,_]++_)) g;rw[<-KU,List.length_set];have S2:=S;rw[Nat.zero_add,Nat.mul_one]at S2;exact S2
   obtain⟨bs4,S⟩:=Qq (A:=[_]) S hw2 htp2;refine QL<|I1 rfl<|I2 rfl<|Q0<|Q7 ?_;refine⟨.inl rfl,_,rfl,?_⟩
   exact(by
    refine⟨e,{s2 with runs:=s2.runs.set l.toNat 0},hbs',tl,bs4,rfl,.inr (.inr (.inr ⟨hfull,hG,hlt,.inr ⟨hr0,b,s2,by rw[<-hs1];exact hR,by rw[hbt];rfl⟩⟩)),?_⟩
    exact S)
 refine Q4<|Q6<|I1 rfl<|I2 rfl<|Q0<|Q7 ?_;refine⟨.inl rfl,_,rfl,?_⟩
 exact(by
  have hbt:b=false:=hb;refine⟨e,s2,hbs',tl,bs3,rfl,.inr (.inr (.inr ⟨hfull,hG,hlt,.inr ⟨hr0,b,s2,by rw[<-hs1];exact hR,by rw[hbt];rfl⟩⟩)),?_⟩
  exact S)
end
end Go.Proofs.Yteinandjhpnceaa
namespace Go.Proofs.Yteinandjhpnceaa
open Go.X Go.May Go.Mac
def TickR (s:MS) (n e:Int) (s':MS):Prop:=(s.full=true/\e=11/\s'=s)\/(e=10/\s'=s)\/(s.full=false/\e=0/\1<=n/\s.now+n<=1000000000000/\s'= {s with now:=s.now+n})
def tkN (s:MS) (i:Nat):MTask:=(s.T[i]?).getD default
def KG (s:MS) (t:MTask):Nat->MTask
 |0=>t
 |i+1=>if(decide ((tkN s i).kind=t.kind)&&decide ((tkN s i).of'=t.of'))=true then {KG s t i with prev:=i+1,nth:=(KG s t i).nth+1}else KG s t i
theorem Q0i {s:MS} {t:MTask}: ∀i,(KG s t i).kind=t.kind/\(KG s t i).of'=t.of'/\(KG s t i).fn=t.fn/\(KG s t i).looper=t.looper/\(KG s t i).delay=t.delay/\t.nth<=(KG s t i).nth/\(KG s t i).nth<=t.nth+i
 |0=>⟨rfl,rfl,rfl,rfl,rfl,Int.le_refl _,by show t.nth<=t.nth+0;omega⟩
 | i+1=>by
   obtain⟨h1,h2,h3,h4,h5,h6,h7⟩:=Q0i (s:=s) (t:=t) i;unfold KG
   split
   · exact⟨h1,h2,h3,h4,h5,by show t.nth<=(KG s t i).nth+1;omega,by show(KG s t i).nth+1<=t.nth+((i:Int)+1);omega⟩
   exact⟨h1,h2,h3,h4,h5,h6,by show(KG s t i).nth<=t.nth+((i:Int)+1);omega⟩
def Q4s (P:Prg) (s:MS) (t:MTask):MS:=if 256<=s.T.length then Q9e s else Y4 P s (KG s t s.T.length) []
def QbJ (s:MS):Int:=if 256<=s.T.length then 11 else 0
section
variable {h0 h:Hp} {P:Prg} {V:PrV} {mb ph:Nat} {s:MS} {hbs tp bs:List Nat}
set_option maxHeartbeats 2000000 in
theorem m29 {n:Int} (S0:SH h0 [] [hpR ph s.H hbs,mcR mb ph P V s tp bs] h) (k:MOk P s):C modE 29 [Qw mb,iV n] h fun v g'=> ∃(e:Int) (s':MS) (hbs' tl bs':List Nat),v=iV e/\TickR s n e s'/\SH h (owns [hpR ph s.H hbs,mcR mb ph P V s tp bs]) [hpR ph s'.H hbs',mcR mb ph P V s' (tp++tl) bs'] g':=by
 have SE:=S0.enterL;obtain⟨D,hD⟩: ∃D,D=owns [hpR ph s.H hbs,mcR mb ph P V s tp bs]:=⟨_,rfl⟩;rw[<-hD]at SE ⊢;obtain⟨hnow0,hnow1⟩:=k.now;obtain⟨w,hw,htp,_,SE⟩:=QG (A:=[_]) SE;have SE:SH h D (hpR ph s.H hbs::mcL mb ph P V s w) h:=SE;refine Q8 (fu:=Try.f29) (by kernel_rfl) rfl ?_;have S:=SE;refine Q6<|I2 rfl<|Z7<|I1 rfl<|I6 rfl<|I0 20 rfl<|I4 rfl (S.cel 1 rfl) rfl<|Q0<|Q2 rfl (fun hb=>?_) fun hb=>?_
 · skip
   refine Q6<|I2 rfl<|Q0<|Q7 ?_;refine⟨.inl rfl,_,rfl,?_⟩
   exact(by
    obtain⟨bs',S⟩:=Qq (A:=[_]) S hw htp
    exact⟨11,s,hbs,[],bs',rfl,.inl ⟨hb,rfl,rfl⟩,by rw[List.append_nil];exact S⟩)
 refine Q4<|Q3<|Q6 ?_;have hfull:s.full=false:=hb;refine I1 rfl<|Il rfl rfl<|I1 rfl ?_
 refine QT (n:=2) rfl rfl rfl gn rfl (fun hb=>by
  refine D1 hb rfl<|Dg hb rfl rfl ?_
  exact Q0 ⟨rfl,rfl,2,rfl,rfl⟩) ?_
 refine I1 rfl ?_
 refine QT (n:=7) rfl rfl rfl gn rfl (fun hb=>by
  have hnn:1<=n/\n<=1000000000000:=by simp at hb;omega
  refine D1 hb rfl<|D6 hb rfl<|D0 18 hb rfl<|D4 hb rfl (S.cel 1 rfl) rfl<|D1 hb rfl<|Dao hb rfl rfl<|Dg hb rfl rfl ?_
  exact Q0 ⟨rfl,rfl,7,rfl,rfl⟩) ?_
 refine Q0<|Q2 rfl (fun hb=>?_) fun hb=>?_
 · skip
   refine Q6<|I2 rfl<|Q0<|Q7 ?_;refine⟨.inl rfl,_,rfl,?_⟩
   exact(by
    obtain⟨bs',S⟩:=Qq (A:=[_]) S hw htp
    exact⟨10,s,hbs,[],bs',rfl,.inr (.inl ⟨rfl,rfl⟩),by rw[List.append_nil];exact S⟩)
 refine Q4<|Q6 ?_;have hnn:1<=n/\n<=1000000000000/\s.now+n<=1000000000000:=by simp at hb;omega
 refine I1 rfl<|I1 rfl<|I6 rfl<|I0 18 rfl<|I4 rfl (S.cel 1 rfl) rfl<|I1 rfl<|Iao rfl rfl<|I6 rfl<|I0 18 rfl ?_;refine Qi 1 S gn rfl rfl rfl (by kernel_rfl) rfl (by decide) (by simp) (fun g S=>ag0) fun g S=>?_;refine QL<|I2 rfl<|Q0<|Q7 ?_;refine⟨.inl rfl,_,rfl,?_⟩
 exact(by
  obtain⟨bs',S⟩:=Qq (A:=[_]) (s:= {s with now:=s.now+n}) (w:=w) S hw htp
  exact⟨0,{s with now:=s.now+n},hbs,[],bs',rfl,.inr (.inr ⟨hfull,rfl,hnn.1,hnn.2.2,rfl⟩),by rw[List.append_nil];exact S⟩)
set_option maxHeartbeats 4000000 in
theorem m58 {t:MTask} (S0:SH h0 [] [hpR ph s.H hbs,mcR mb ph P V s tp bs] h) (X0:Q1f h0 P V) (hM:ZJ P=true) (k:MOk P s) (f0:0<=t.fn) (f1:t.fn <P.funs.length) (hlo:t.looper <P.loopers) (hd:t.delay=0) (hn:t.nth=0) (hcap:(Qt P t.fn).caps=0):C modE 58 [Qw mb,.agg (tkV t).toArray] h fun v g'=>v=iV (QbJ s)/\ ∃tl bs',SH h (owns [hpR ph s.H hbs,mcR mb ph P V s tp bs]) [hpR ph s.H hbs,mcR mb ph P V (Q4s P s t) (tp++tl) bs'] g':=by
 have SE:=S0.enterL;obtain⟨D,hD⟩: ∃D,D=owns [hpR ph s.H hbs,mcR mb ph P V s tp bs]:=⟨_,rfl⟩;have hown: ∀i,i∈D->h0.n<=i:=by rw[hD];exact S0.own0L
 rw[<-hD]at SE ⊢;have hk:=k.t;obtain⟨w,hw,htp,_,SE⟩:=QG (A:=[_]) SE;have SE:SH h D (hpR ph s.H hbs::mcL mb ph P V s w) h:=SE;obtain⟨ta,tc,htv⟩:=Qa (SE.sl 5 rfl);refine Q8 (fu:=Try.f58) (by kernel_rfl) rfl ?_;have S:=SE;refine Q6 ?_;refine QX S gn rfl rfl fun b1 g nb1 S=>?_;have S:SH h D (cR b1 (.cells (tkV t) 27 0)::hpR ph s.H hbs::mcL mb ph P V s w) g:=S;refine I2 rfl<|Z7<|I2 rfl<|Q0<|Q5 ?_
 refine Qh [(5,_)] [(0,_),(3,_)] (by repeat(first|exact trivial|refine⟨rfl,?_⟩)) (fun kk lv hh=> ∃i:Nat,lv=[(5,iV i)]/\kk=s.T.length -i/\i<=s.T.length/\SH h D (cR b1 (.cells (tkV (KG s t i)) 27 0)::hpR ph s.H hbs::mcL mb ph P V s w) hh) (n:=s.T.length) ?_ fun kk lv hh hI=>?_
 · exact⟨0,rfl,rfl,Nat.zero_le _,S⟩
 obtain⟨i,rfl,hkk,hin,S⟩:=hI;refine Q3<|Q6<|I1 rfl<|I1 rfl<|I6 rfl<|I0 12 rfl<|I4 rfl (S.cel 2 rfl) rfl ?_;rw[htv];refine I7 rfl ?_;rw[<-htv];refine Il rfl rfl<|Q0<|Q2 rfl (fun hb=>?_) fun hb=>?_
 · skip
   refine Q4 ?_;have hin:i <s.T.length:=by simp at hb;omega
   obtain⟨tb,tm,tc2,tr,htv2,htg,_⟩:=(S.sl 6 rfl).at (by omega);have eN:s.T[i]?=some (tkN s i):=by unfold tkN;rw[List.getElem?_eq_getElem hin];rfl
   have hat:=Q4U tr eN
   have k0:(tkC s.T++tr)[0+Int.toNat (i:Int)*15+0]?=some (iV (tkN s i).kind):=by
    rw[Int.toNat_natCast,Nat.zero_add];exact Qs hat (by omega) rfl
   have k1:(tkC s.T++tr)[0+Int.toNat (i:Int)*15+1]?=some (iV (tkN s i).of'):=by
    rw[Int.toNat_natCast,Nat.zero_add];exact Qs hat (by omega) rfl
   obtain⟨e1,e2,_,_,_,e6,e7⟩:=Q0i (s:=s) (t:=t) i;have c0:(tkV (KG s t i))[0+0]?=some (iV t.kind):=by rw[<-e1];rfl
   have c1:(tkV (KG s t i))[0+1]?=some (iV t.of'):=by rw[<-e2];rfl
   refine Q3<|Q5<|Q3<|I9<|I1 rfl<|I6 rfl<|I0 12 rfl<|I4 rfl (S.cel 2 rfl) rfl<|I1 rfl ?_;rw[htv2];refine I5o 15 rfl rfl ?_;rw[<-htv2];refine I0 0 rfl<|I4 rfl htg k0<|I0 0 rfl<|I4 rfl (S.cel 0 rfl) c0<|Ie rfl rfl<|I1 rfl ?_
   refine Qp (n:=11) rfl rfl rfl gn rfl (fun hb=>by
    refine D1 hb rfl<|D6 hb rfl<|D0 12 hb rfl<|D4 hb rfl (S.cel 2 rfl) rfl<|D1 hb rfl ?_;rw[htv2];refine D5o 15 hb rfl rfl ?_;rw[<-htv2];refine D0 1 hb rfl<|D4 hb rfl htg k1<|D0 1 hb rfl<|D4 hb rfl (S.cel 0 rfl) c1<|De hb rfl rfl ?_
    exact Q0 ⟨rfl,rfl,11,rfl,rfl⟩) ?_
   refine Q0<|Q2 rfl (fun hb=>?_) fun hb=>?_
   · skip
     refine Q6<|I1 rfl<|Iao rfl rfl<|I0 14 rfl ?_;refine Qi 0 S gn rfl rfl rfl (by kernel_rfl) rfl (by decide) (by rw[ZK];decide) (fun g S=>ag0) fun g S=>?_;have c6:((tkV (KG s t i)).set (0+14) (iV ((i:Int)+1)))[0+6]?=some (iV (KG s t i).nth):=rfl;refine Q0<|Q1 (by kernel_rfl)<|I0 6 rfl<|I4 rfl (S.cel 0 rfl) c6<|Iao rfl rfl<|I0 6 rfl ?_;refine Qi 0 S gn rfl rfl rfl (by kernel_rfl) rfl (by decide) (by rw[List.length_set,ZK];decide) (fun g S=>ag0) fun g S=>?_;refine Q0<|Q1 (by kernel_rfl)<|I1 rfl<|Iao rfl rfl<|I2 rfl<|Q0 ?_
     exact Z6 (s.T.length - (i+1)) (by omega) [(5,_)] (by repeat(first|exact trivial|refine⟨rfl,?_⟩)) ⟨i+1,rfl,rfl,by omega,by
      have e:KG s t (i+1)= {KG s t i with prev:=i+1,nth:=(KG s t i).nth+1}:=if_pos hb
      rw[e];exact S⟩
   refine Q4<|Q1 (by kernel_rfl)<|I1 rfl<|Iao rfl rfl<|I2 rfl<|Q0 ?_
   exact Z6 (s.T.length - (i+1)) (by omega) [(5,_)] (by repeat(first|exact trivial|refine⟨rfl,?_⟩)) ⟨i+1,rfl,rfl,by omega,by
    have e:KG s t (i+1)=KG s t i:=if_neg (by rw[show(decide ((tkN s i).kind=t.kind)&&decide ((tkN s i).of'=t.of'))=false from hb];decide)
    rw[e];exact S⟩
 refine Ql<|Q9<|Qc<|Qm ?_;obtain rfl:i=s.T.length:=by simp at hb;omega
 obtain⟨t1,ht1⟩: ∃t1,t1=KG s t s.T.length:=⟨_,rfl⟩;obtain⟨e1,e2,e3,e4,e5,e6,e7⟩:=Q0i (s:=s) (t:=t) s.T.length;rw[<-ht1]at S e1 e2 e3 e4 e5 e6 e7;obtain⟨bs1,S⟩:=Qq (A:=[_,_]) S hw htp;have S:SH h D [cR b1 (.cells (tkV t1) 27 0),hpR ph s.H hbs,mcR mb ph P V s tp bs1] _:=S;refine Q3<|Q6<|I1 rfl<|Z4 (n:=15) gn rfl rfl (by kernel_rfl) (by kernel_rfl) (S.cel 0 rfl) (by rw[ZK];decide) ?_
 refine Z1 [_,_,_] gn rfl rfl (by kernel_rfl) rfl (C.mono (m26 (t:=t1) (cells:=[]) (SH.sub1 S0 hown S 2 rfl) X0 hM k (by rw[e3];exact f0) (by rw[e3];exact f1) (by rw[e4];exact hlo) (by rw[e5,hd];omega) (fun _ _=>RowV.nil) (by rw[e3,hcap];rfl)) ?_);rintro v g ⟨rfl,tl,bs2,S2⟩;have S:=S.ret 2 rfl S2;refine⟨ag0,?_⟩;refine Ie rfl rfl<|Q0<|Q2 rfl (fun hb=>?_) fun hb=>?_
 · skip
   refine Q6 ?_
   have hf:256<=s.T.length:=by
    refine Classical.byContradiction fun e=>?_;unfold QcG at hb;rw[if_neg e]at hb;simp at hb;omega
   refine I1 rfl<|Ic [_] rfl rfl (C.mono (m53 (SH.sub1 S0 hown S 2 rfl)) ?_);rintro v g ⟨rfl,bs3,S2⟩;have S:=S.ret 2 rfl S2;refine⟨ag0,?_⟩;refine I2 rfl<|Q0<|Q7 ?_;refine⟨.inl rfl,_,rfl,?_⟩
   exact(by
    have hadd:Y4 P s t1 []=s:=by unfold Y4;rw[if_pos hf]
    rw[hadd]at S;refine⟨by unfold QbJ;rw[if_pos hf];rfl,tl,bs3,?_⟩
    unfold Q4s;rw[if_pos hf];exact S.drop)
 refine Q4<|Q6<|I2 rfl<|Q0<|Q7 ?_;refine⟨.inl rfl,_,rfl,?_⟩
 exact(by
  have hf: ¬256<=s.T.length:=by
   intro e;unfold QcG at hb;rw[if_pos e]at hb;simp at hb
  refine⟨by unfold QbJ;rw[if_neg hf];rfl,tl,bs2,?_⟩
  unfold Q4s;rw[if_neg hf,<-ht1];exact S.drop)
end
end Go.Proofs.Yteinandjhpnceaa
namespace Go.Proofs.Yteinandjhpnceaa
open Go.X Go.May Go.Mac
def evA (P:Prg) (e:Int):Int×Int:=(P.events[e.toNat]?).getD (0,0)
def coA (P:Prg) (c:Int):Int×List Int:=(P.comps[c.toNat]?).getD (0,[])
def injT (P:Prg) (s:MS) (e n:Int):MTask:=⟨3,e,0,(evA P e).2,(evA P e).1,0,0,false,0,0,n,0,0,reg s.on e,0⟩
def InjR (P:Prg) (s:MS) (e n r:Int) (s':MS):Prop:=(s.full=true/\r=11/\s'=s)\/(r=10/\s'=s)\/(s.full=false/\0<=e/\e <P.events.length/\onL s.E e=true/\r=QbJ s/\s'=Q4s P s (injT P s e n))
theorem QbI {P:Prg} {s:MS} {t:MTask}:(Q4s P s t).H=s.H:=by
 unfold Q4s
 split
 · rfl
 exact QeP
theorem Kc {P:Prg} {f:Int} (h:JX P f=true):0<=f/\f <P.funs.length/\(Qt P f).caps=0:=by
 unfold JX at h;simp only[Bool.and_eq_true,decide_eq_true_eq]at h;obtain⟨h1,h2⟩:=h;obtain⟨h3,h4⟩:=Z9.1 h1;refine⟨h3,h4,?_⟩;unfold Js at h2;rw[J9 h3 h4]at h2;exact h2
theorem Q5w {P:Prg} {e:Int} (hM:ZJ P=true) (h0:0<=e) (h1:e <P.events.length):(0<=(evA P e).1/\(evA P e).1 <P.loopers)/\JX P (evA P e).2=true:=by
 unfold ZJ YU at hM;simp only[Bool.and_eq_true,List.all_eq_true]at hM;have:=hM.1.2.2.2 (evA P e) (by unfold evA;rw[List.getElem?_eq_getElem (by omega)];exact List.getElem_mem _);unfold Q2v at this;simp only[Bool.and_eq_true]at this;exact⟨Z9.1 this.1,this.2⟩
theorem Q8c {P:Prg} {c:Int} (hM:ZJ P=true) (h0:0<=c) (h1:c <P.comps.length):(0<=(coA P c).1/\(coA P c).1 <P.loopers)/\ ∀f,f∈(coA P c).2->0<=f->JX P f=true:=by
 unfold ZJ YU at hM;simp only[Bool.and_eq_true,List.all_eq_true]at hM;have:=hM.1.2.2.1 (coA P c) (by unfold coA;rw[List.getElem?_eq_getElem (by omega)];exact List.getElem_mem _);unfold Q7i at this;simp only[Bool.and_eq_true,List.all_eq_true,Bool.or_eq_true,Bool.not_eq_true',decide_eq_false_iff_not]at this;exact⟨Z9.1 this.2,fun f hf h=>(this.1 f hf).elim (fun k=>absurd h k) id⟩
section
variable {h0 h:Hp} {P:Prg} {V:PrV} {mb ph:Nat} {s:MS} {hbs tp bs:List Nat}
set_option maxHeartbeats 4000000 in
theorem m30 {e n:Int} (S0:SH h0 [] [hpR ph s.H hbs,mcR mb ph P V s tp bs] h) (X0:Q1f h0 P V) (hM:ZJ P=true) (k:MOk P s):C modE 30 [Qw mb,iV e,iV n] h fun v g'=> ∃(r:Int) (s':MS) (hbs' tl bs':List Nat),v=iV r/\InjR P s e n r s'/\SH h (owns [hpR ph s.H hbs,mcR mb ph P V s tp bs]) [hpR ph s'.H hbs',mcR mb ph P V s' (tp++tl) bs'] g':=by
 have SE:=S0.enterL;obtain⟨D,hD⟩: ∃D,D=owns [hpR ph s.H hbs,mcR mb ph P V s tp bs]:=⟨_,rfl⟩;have hown: ∀i,i∈D->h0.n<=i:=by rw[hD];exact S0.own0L
 rw[<-hD]at SE ⊢;have hko:=k.on;obtain⟨w,hw,htp,_,SE⟩:=QG (A:=[_]) SE;have SE:SH h D (hpR ph s.H hbs::mcL mb ph P V s w) h:=SE;have back: ∀g,SH h D (hpR ph s.H hbs::mcL mb ph P V s w) g-> ∃bs',SH h D [hpR ph s.H hbs,mcR mb ph P V s tp bs'] g:=fun g S=>Qq (A:=[_]) S hw htp;have X:Q1f h P V:=X0.ext (S0.all0 hown SE);obtain⟨_,_,_,_,_,⟨eva,evc,hev0⟩,_⟩:=X.vals;refine Q8 (fu:=Try.f30) (by kernel_rfl) rfl ?_;have S:=SE;refine Q6<|I2 rfl<|Z7<|I1 rfl<|I6 rfl<|I0 20 rfl<|I4 rfl (S.cel 1 rfl) rfl<|Q0<|Q2 rfl (fun hb=>?_) fun hb=>?_
 · skip
   refine Q6<|I2 rfl<|Q0<|Q7 ?_;refine⟨.inl rfl,_,rfl,?_⟩
   exact(by
    obtain⟨bs',S⟩:=back _ S
    exact⟨11,s,hbs,[],bs',rfl,.inl ⟨hb,rfl,rfl⟩,by rw[List.append_nil];exact S⟩)
 refine Q4<|Q3<|Q6 ?_;have hfull:s.full=false:=hb;refine I1 rfl<|Il rfl rfl<|I1 rfl ?_
 refine QT (n:=8) rfl rfl rfl gn rfl (fun hb=>by
  refine D1 hb rfl<|D1 hb rfl<|D6 hb rfl<|D0 0 hb rfl<|D0 5 hb rfl<|D4 hb rfl (S.cel 1 rfl) rfl ?_;rw[hev0];refine D7 hb rfl ?_;rw[<-hev0];refine Dh hb rfl rfl ?_
  exact Q0 ⟨rfl,rfl,8,rfl,rfl⟩) ?_
 refine I1 rfl ?_
 refine QT (n:=7) rfl rfl rfl gn rfl (fun hb=>by
  refine D1 hb rfl<|D6 hb rfl<|D0 9 hb rfl<|D4 hb rfl (S.cel 1 rfl) rfl<|D1 hb rfl<|Dc hb [_,_] rfl rfl (Qr (m57 (S.res 2 rfl) k.e2) ⟨ag0,?_⟩);refine Db hb rfl ?_
  exact Q0 ⟨rfl,rfl,7,rfl,rfl⟩) ?_
 refine Q0<|Q2 rfl (fun hb=>?_) fun hb=>?_
 · skip
   refine Q6<|I2 rfl<|Q0<|Q7 ?_;refine⟨.inl rfl,_,rfl,?_⟩
   exact(by
    obtain⟨bs',S⟩:=back _ S
    exact⟨10,s,hbs,[],bs',rfl,.inr (.inl ⟨rfl,rfl⟩),by rw[List.append_nil];exact S⟩)
 refine Q4<|Q6 ?_
 have hb5:(decide (e <0)||decide ((P.events.length:Int)<=e))=false/\onL s.E e=true:=by
  have hb':((decide (e <0)||decide ((P.events.length:Int)<=e))|| !onL s.E e)=false:=hb;rw[Bool.or_eq_false_iff]at hb';exact⟨hb'.1,by simpa using hb'.2⟩
 have he:0<=e/\e <P.events.length:=by
  have:=hb5.1;simp at this;omega
 obtain⟨vb,vo,vc,vcs,ve,vm,hev,hvg,hvl,hvn,hvat⟩:=X.ev.at (by omega);obtain⟨⟨es,eb,hrow⟩,_,_⟩:=hvat e.toNat (by omega);have eE:P.events[e.toNat]'(by omega)=evA P e:=by unfold evA;rw[List.getElem?_eq_getElem (by omega)];rfl
 rw[eE]at hrow;refine I1 rfl<|I6 rfl<|I0 0 rfl<|I0 5 rfl<|I4 rfl (S.cel 1 rfl) rfl<|I1 rfl ?_;rw[hev];refine I5o 4 rfl rfl ?_;rw[<-hev];refine I3 4 rfl hvg (by omega) ?_;rw[hrow];refine Qo (zv:=.agg #[.string .empty,.int .i64 0,.bool false,.int .i64 0]) S gn rfl (by kernel_rfl) fun b1 g nb1 S=>?_;refine Qe (n:=4) 0 S gn rfl rfl rfl (by kernel_rfl) rfl rfl (by decide) rfl (fun g S=>ag0) fun g S=>?_;have S:SH h D (cR b1 (.cells [.string es,iV (evA P e).1,.bool eb,iV (evA P e).2] 102 0)::hpR ph s.H hbs::mcL mb ph P V s w) g:=S
 obtain⟨ob,oc,ocs,om,hov,hog,hok⟩:=Q5I (R:=s.on) (S.sl 11 rfl) he.1 (by omega);refine Q0<|Q3<|I9<|I1 rfl<|I1 rfl<|I0 3 rfl<|I4 rfl (S.cel 0 rfl) rfl<|I0 1 rfl<|I4 rfl (S.cel 0 rfl) rfl<|I1 rfl<|I1 rfl<|I6 rfl<|I0 17 rfl<|I4 rfl (S.cel 2 rfl) rfl<|I1 rfl ?_;rw[hov];refine I5o 1 rfl rfl ?_;rw[<-hov];refine I4 rfl hog hok ?_
 refine Qz (cs:=(tkV (injT P s e n)).toArray) (zv:=.agg #[.int .i64 0,.int .i64 0,.int .i64 0,.int .i64 0,.int .i64 0,.int .i64 0,.int .i64 0,.bool false,.int .i64 0,.int .i64 0,.int .i64 0,.int .i64 0,.int .i64 0,.int .i64 0,.int .i64 0]) (pl:=[(0,1),(1,1),(2,1),(3,1),(4,1),(5,1),(6,1),(7,1),(8,1),(9,1),(10,1),(11,1),(12,1),(13,1),(14,1)]) [(0,_),(1,_),(3,_),(4,_),(10,_),(13,_)] gn rfl (by kernel_rfl) (by kernel_rfl) rfl (by kernel_rfl) ?_;obtain⟨bs1,S⟩:=back _ S.drop;have hme:=Q5w hM he.1 he.2;have hrt:=Kc hme.2
 refine Ic [_,_] rfl rfl (C.mono (m58 (t:=injT P s e n) (SH.subL (A:=[_,_]) (B:=[]) S0 hown S) X0 hM k hrt.1 hrt.2.1 hme.1.2 rfl rfl hrt.2.2) ?_);rintro v g ⟨rfl,tl,bs3,S2⟩;have S:=SH.retL (A:=[_,_]) (B:=[]) S S2;refine⟨ag0,?_⟩;refine I2 rfl<|Q0<|Q7 ?_;refine⟨.inl rfl,_,rfl,?_⟩
 exact(by
  refine⟨QbJ s,Q4s P s (injT P s e n),hbs,tl,bs3,rfl,.inr (.inr ⟨hfull,he.1,he.2,hb5.2,rfl,rfl⟩),?_⟩
  rw[QbI];exact S)
end
end Go.Proofs.Yteinandjhpnceaa
namespace Go.Proofs.Yteinandjhpnceaa
open Go.X Go.May Go.Mac
def QdC (P:Prg) (c w:Int):MTask:=⟨2,c,w,reg (coA P c).2 w,(coA P c).1,0,0,false,0,0,0,0,0,-1,0⟩
def LifM (P:Prg) (s:MS) (c w:Int) (s1:MS):Prop:=(reg (coA P c).2 w <0/\s1=s)\/(0<=reg (coA P c).2 w/\QbJ s=0/\s1=Q4s P s (QdC P c w))
def LifR (P:Prg) (s:MS) (c w r:Int) (s':MS):Prop:=(s.full=true/\r=11/\s'=s)\/(r=10/\s'=s)\/(s.full=false/\0<=c/\c <P.comps.length/\Q6j s.K c w=true/\(coA P c).2.length=4/\
 ((0<=reg (coA P c).2 w/\QbJ s≠0/\r=QbJ s/\s'=Q4s P s (QdC P c w))\/(r=0/\ ∃s1,LifM P s c w s1/\s'= {s1 with K:=goL s.K c w})))
theorem addM_K {P:Prg} {s:MS} {t:MTask} {c:List Int}:(Y4 P s t c).K=s.K:=by
 unfold Y4
 split<;>rfl
theorem QeD {P:Prg} {s s1:MS} {c w:Int} (h:LifM P s c w s1):s1.K=s.K/\s1.H=s.H:=by
 rcases h with⟨_,rfl⟩| ⟨_,_,rfl⟩
 · exact⟨rfl,rfl⟩
 refine⟨?_,QbI⟩;unfold Q4s
 split
 · rfl
 exact addM_K
section
variable {h0 h:Hp} {P:Prg} {V:PrV} {mb ph:Nat} {s:MS} {hbs tp bs:List Nat}
set_option maxHeartbeats 4000000 in
theorem m31 {c w:Int} (S0:SH h0 [] [hpR ph s.H hbs,mcR mb ph P V s tp bs] h) (X0:Q1f h0 P V) (hM:ZJ P=true) (k:MOk P s):C modE 31 [Qw mb,iV c,iV w] h fun v g'=> ∃(r:Int) (s':MS) (hbs' tl bs':List Nat),v=iV r/\LifR P s c w r s'/\SH h (owns [hpR ph s.H hbs,mcR mb ph P V s tp bs]) [hpR ph s'.H hbs',mcR mb ph P V s' (tp++tl) bs'] g':=by
 have SE:=S0.enterL;obtain⟨D,hD⟩: ∃D,D=owns [hpR ph s.H hbs,mcR mb ph P V s tp bs]:=⟨_,rfl⟩;have hown: ∀i,i∈D->h0.n<=i:=by rw[hD];exact S0.own0L
 rw[<-hD]at SE ⊢;obtain⟨w0,hw,htp,_,SE⟩:=QG (A:=[_]) SE;have SE:SH h D (hpR ph s.H hbs::mcL mb ph P V s w0) h:=SE;have back: ∀g,SH h D (hpR ph s.H hbs::mcL mb ph P V s w0) g-> ∃bs',SH h D [hpR ph s.H hbs,mcR mb ph P V s tp bs'] g:=fun g S=>Qq (A:=[_]) S hw htp;have X:Q1f h P V:=X0.ext (S0.all0 hown SE);obtain⟨_,_,_,_,⟨coa,coc,hco0⟩,_⟩:=X.vals;refine Q8 (fu:=Try.f31) (by kernel_rfl) rfl ?_;have S:=SE;refine Q6<|I2 rfl<|Z7<|I1 rfl<|I6 rfl<|I0 20 rfl<|I4 rfl (S.cel 1 rfl) rfl<|Q0<|Q2 rfl (fun hb=>?_) fun hb=>?_
 · skip
   refine Q6<|I2 rfl<|Q0<|Q7 ?_;refine⟨.inl rfl,_,rfl,?_⟩
   exact(by
    obtain⟨bs',S⟩:=back _ S
    exact⟨11,s,hbs,[],bs',rfl,.inl ⟨hb,rfl,rfl⟩,by rw[List.append_nil];exact S⟩)
 refine Q4<|Q3<|Q6 ?_;have hfull:s.full=false:=hb;refine I1 rfl<|Il rfl rfl<|I1 rfl ?_
 refine QT (n:=8) rfl rfl rfl gn rfl (fun hb=>by
  refine D1 hb rfl<|D1 hb rfl<|D6 hb rfl<|D0 0 hb rfl<|D0 4 hb rfl<|D4 hb rfl (S.cel 1 rfl) rfl ?_;rw[hco0];refine D7 hb rfl ?_;rw[<-hco0];refine Dh hb rfl rfl ?_
  exact Q0 ⟨rfl,rfl,8,rfl,rfl⟩) ?_
 refine I1 rfl ?_
 refine QT (n:=8) rfl rfl rfl gn rfl (fun hb=>by
  refine D1 hb rfl<|D6 hb rfl<|D0 9 hb rfl<|D4 hb rfl (S.cel 1 rfl) rfl<|D1 hb rfl<|D1 hb rfl<|Dc hb [_,_,_] rfl rfl (Qr (m59 (S.res 2 rfl) k.k2) ⟨ag0,?_⟩);refine Db hb rfl ?_
  exact Q0 ⟨rfl,rfl,8,rfl,rfl⟩) ?_
 refine Q0<|Q2 rfl (fun hb=>?_) fun hb=>?_
 · skip
   refine Q6<|I2 rfl<|Q0<|Q7 ?_;refine⟨.inl rfl,_,rfl,?_⟩
   exact(by
    obtain⟨bs',S⟩:=back _ S
    exact⟨10,s,hbs,[],bs',rfl,.inr (.inl ⟨rfl,rfl⟩),by rw[List.append_nil];exact S⟩)
 refine Q4<|Q6 ?_
 have hb5:(decide (c <0)||decide ((P.comps.length:Int)<=c))=false/\Q6j s.K c w=true:=by
  have hb':((decide (c <0)||decide ((P.comps.length:Int)<=c))|| !Q6j s.K c w)=false:=hb;rw[Bool.or_eq_false_iff]at hb';exact⟨hb'.1,by simpa using hb'.2⟩
 have hc:0<=c/\c <P.comps.length:=by
  have:=hb5.1;simp at this;omega
 have hmay:=hb5.2
 have hw4:0<=w/\w<=3:=by
  unfold Q6j at hmay;rw[Bool.and_eq_true]at hmay;exact Q1z hmay.2
 obtain⟨vb,vo,vc,vcs,ve,vm,hev,hvg,hvl,hvn,hvat⟩:=X.co.at (by omega);obtain⟨⟨es,f0,f1,f2,f3,hrow,hfs⟩,_,_⟩:=hvat c.toNat (by omega);have eE:P.comps[c.toNat]'(by omega)=coA P c:=by unfold coA;rw[List.getElem?_eq_getElem (by omega)];rfl
 rw[eE]at hrow hfs
 have hfw:([.string es,iV (coA P c).1,iV f0,iV f1,iV f2,iV f3]:List Value)[0+2+Int.toNat w*1]?=some (iV (reg (coA P c).2 w)):=by
  rw[hfs];have:w=0\/w=1\/w=2\/w=3:=by omega
  rcases this with rfl|rfl|rfl|rfl<;>rfl
 refine I1 rfl<|I6 rfl<|I0 0 rfl<|I0 4 rfl<|I4 rfl (S.cel 1 rfl) rfl<|I1 rfl ?_;rw[hev];refine I5o 6 rfl rfl ?_;rw[<-hev];refine I3 6 rfl hvg (by omega) ?_;rw[hrow];refine Qo (zv:=.agg #[.string .empty,.int .i64 0,.int .i64 0,.int .i64 0,.int .i64 0,.int .i64 0]) S gn rfl (by kernel_rfl) fun b1 g nb1 S=>?_;refine Qe (n:=6) 0 S gn rfl rfl rfl (by kernel_rfl) rfl rfl (by decide) rfl (fun g S=>ag0) fun g S=>?_;have S:SH h D (cR b1 (.cells [.string es,iV (coA P c).1,iV f0,iV f1,iV f2,iV f3] 134 0)::hpR ph s.H hbs::mcL mb ph P V s w0) g:=S;refine Q0 ?_
 refine Y1 [(0,Qw mb),(1,iV c),(2,iV w)] (fun lv hh=>lv=[]/\ ∃(s1:MS) (tl bs':List Nat),LifM P s c w s1/\SH h D [hpR ph s.H hbs,mcR mb ph P V s1 (tp++tl) bs'] hh) ?_ fun lv hh hJ=>?_
 · skip
   refine Q6<|I1 rfl<|I0 2 rfl<|QW (n:=4) (e:=3) (zz:=1) gn rfl rfl rfl (by kernel_rfl) (by omega) (by omega)<|I4 rfl (S.cel 0 rfl) hfw<|Ih rfl rfl<|Q0<|Q2 rfl (fun hb=>?_) fun hb=>?_
   · skip
     refine Q3<|I9 ?_;have hf0:0<=reg (coA P c).2 w:=by simpa using hb
     refine I1 rfl<|I1 rfl<|I1 rfl<|I1 rfl<|I0 2 rfl<|QW (n:=4) (e:=3) (zz:=1) gn rfl rfl rfl (by kernel_rfl) (by omega) (by omega)<|I4 rfl (S.cel 0 rfl) hfw<|I0 1 rfl<|I4 rfl (S.cel 0 rfl) rfl ?_
     refine Qz (cs:=(tkV (QdC P c w)).toArray) (zv:=.agg #[.int .i64 0,.int .i64 0,.int .i64 0,.int .i64 0,.int .i64 0,.int .i64 0,.int .i64 0,.bool false,.int .i64 0,.int .i64 0,.int .i64 0,.int .i64 0,.int .i64 0,.int .i64 0,.int .i64 0]) (pl:=[(0,1),(1,1),(2,1),(3,1),(4,1),(5,1),(6,1),(7,1),(8,1),(9,1),(10,1),(11,1),(12,1),(13,1),(14,1)]) [(0,_),(1,_),(2,_),(3,_),(4,_),(13,_)] gn rfl (by kernel_rfl) (by kernel_rfl) rfl (by kernel_rfl) ?_;obtain⟨bs1,S⟩:=back _ S.drop;have hme:=Q8c hM hc.1 hc.2
     have hrt:=Kc (hme.2 (reg (coA P c).2 w) (by
      rw[hfs];have:w=0\/w=1\/w=2\/w=3:=by omega
      rcases this with rfl|rfl|rfl|rfl<;>simp[reg]) hf0)
     refine Ic [_,_] rfl rfl (C.mono (m58 (t:=QdC P c w) (SH.subL (A:=[_,_]) (B:=[]) S0 hown S) X0 hM k hrt.1 hrt.2.1 hme.1.2 rfl rfl hrt.2.2) ?_);rintro v g ⟨rfl,tl,bs3,S2⟩;have S:=SH.retL (A:=[_,_]) (B:=[]) S S2;refine⟨ag0,?_⟩;refine I2 rfl<|QL<|I1 rfl<|In rfl rfl<|Q0<|Q2 rfl (fun hb=>?_) fun hb=>?_
     · skip
       refine Q6<|I1 rfl<|I2 rfl<|Q0<|Q7 ?_;refine⟨.inl rfl,_,rfl,?_⟩
       exact(by
        have hne:QbJ s≠0:=by simpa using hb
        refine⟨QbJ s,Q4s P s (QdC P c w),hbs,tl,bs3,rfl,.inr (.inr ⟨hfull,hc.1,hc.2,hmay,by rw[hfs];rfl,.inl ⟨hf0,hne,rfl,rfl⟩⟩),?_⟩
        rw[QbI];exact S)
     refine Q4 ?_
     exact ZF [] (by repeat(first|exact trivial|refine⟨rfl,?_⟩)) (by
      have he0:QbJ s=0:=by simpa using hb
      exact⟨rfl,_,tl,bs3,.inr ⟨hf0,he0,rfl⟩,S⟩)
   refine Q4 ?_
   exact ZF [] (by repeat(first|exact trivial|refine⟨rfl,?_⟩)) (by
    have hf0:reg (coA P c).2 w <0:=by simpa using hb
    obtain⟨bs1,S⟩:=back _ S.drop
    exact⟨rfl,s,[],bs1,.inl ⟨hf0,rfl⟩,by rw[List.append_nil];exact S⟩)
 obtain⟨rfl,s1,tl,bs1,hL,S⟩:=hJ;obtain⟨w1,hw1,htp1,_,S⟩:=QG (A:=[_]) S;have S:SH h D (hpR ph s.H hbs::mcL mb ph P V s1 w1) hh:=S;obtain⟨eK,eH⟩:=QeD hL;refine Q6<|I1 rfl<|I6 rfl<|I0 9 rfl<|I4 rfl (S.cel 1 rfl) rfl<|I1 rfl<|I1 rfl ?_;refine Z1 [_,_,_] gn rfl rfl (by kernel_rfl) rfl (C.mono (m60 (K:=s1.K) (E:=s1.E) (SH.sub1 S0 hown S 2 rfl) (by rw[eK];exact k.k2)) ?_);rintro v g ⟨rfl,bs3,S2⟩;have S:=S.ret 2 rfl S2;refine⟨ag0,?_⟩;refine QL<|I2 rfl<|Q0<|Q7 ?_;refine⟨.inl rfl,_,rfl,?_⟩
 exact(by
  obtain⟨bs4,S⟩:=Qq (A:=[_]) (s:= {s1 with K:=goL s1.K c w}) (w:= {w1 with lbs:=bs3}) S hw1 htp1;refine⟨0,{s1 with K:=goL s1.K c w},hbs,tl,bs4,rfl,.inr (.inr ⟨hfull,hc.1,hc.2,hmay,by rw[hfs];rfl,.inr ⟨rfl,s1,hL,by rw[eK]⟩⟩),?_⟩;show SH h D [hpR ph s1.H hbs,_] _
  rw[eH];exact S)
end
end Go.Proofs.Yteinandjhpnceaa
