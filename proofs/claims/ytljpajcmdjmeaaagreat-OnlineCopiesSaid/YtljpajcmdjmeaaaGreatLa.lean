/- The walks and the laws, part La. Conditions: none. -/
import Derived.Test.YtljpajcmdjmeaaaGreatXa
import Derived.Shelf.SlIterI.Nil
import Derived.Shelf.SortM.Plain
import Derived.Shelf.SortM.SortNone
import Derived.Ground.GgzProg
import Derived.Ground.SlgmProg
import Derived.Test.YtljpajcmdjmeaaaGreatProg
import Derived.Test.YtljpajcmdjmeaaaGreatXd
import Derived.Test.YtljpajcmdjmeaaaGreatRows
import Derived.Test.YtljpajcmdjmeaaaGreatXe
open List renaming replicate → v0o, getElem?_eq_getElem → v0c, findIdx?_eq_some_iff_getElem → v14, length_append → v0j, cons_append → v08, append_assoc → v0F, length_cons → v07, take_add_one → v0Z, append_nil → v0k, length_take → v0E, take_append_drop → v01, drop_eq_getElem_cons → v1J, getElem?_append_right → v0Q, mem_of_getElem? → v0m, all_eq_true → v0u, mem_iff_getElem → v0N, getElem_mem → v0M, length_set → v0q, getElem?_cons_zero → v0W, getElem?_drop → v1m, getElem?_take_of_lt → v2b, mem_cons → v0r, modify_succ_cons → v1d, length_map → v0v, length_modify → v0l, length_replicate → v0O
open Nat renaming zero_add → v0e, zero_le → v0s, mul_one → v0A, le_refl → v0b
open Int renaming toNat_natCast → v0i, toNat → v0f
open Bool renaming and_true → v1k, and_false → v0Y, false_and → v05, true_and → v0C, and_eq_true → v0g, not_eq_true → v1L, or_eq_true → v0K, or_eq_false_iff → v06
open Option renaming toList_some → v1R, some → v0h
namespace Go.Mac
structure MObj where
 kind:Int
 of:Int
 vals:List Int
 site:Int
 by':Int
 nth:Int
instance:Inhabited MObj:=⟨⟨0,0,[],0,0,0⟩⟩
def hasB (H:List MObj) (id:Int):Bool:=decide (1<=id)&&decide (id<=H.length)
def QR (H:List MObj) (id:Int):MObj:=(H[(id -1).toNat]?).getD default
def isO (H:List MObj) (id kind:Int):Bool:=hasB H id&&decide ((QR H id).kind=kind)
def Q5W (H:List MObj) (id:Int):Nat:=if hasB H id=true then(QR H id).vals.length else 0
def inH (H:List MObj) (id i:Int):Bool:=decide (0<=i)&&decide (i <Q5W H id)
def getV (H:List MObj) (id i:Int):Int:=if inH H id i=true then((QR H id).vals[i.toNat]?).getD 0 else 0
def setH (H:List MObj) (id i n:Int):List MObj:=if inH H id i=true/\isO H id 4=false then H.modify (id -1).toNat fun o=> {o with vals:=o.vals.set i.toNat n}else H
def Q29 (H:List MObj) (b:Int):Nat:=(H.filter fun o=>decide (o.by'=b)).length
def Qde (H:List MObj) (o:MObj):List MObj:=if 1024<=H.length then H else H++[{o with nth:=Q29 H o.by'}]
def addN (H:List MObj):Int:=if 1024<=H.length then 0 else H.length+1
def addE (H:List MObj):Int:=if 1024<=H.length then 11 else 0
def Q2M (kind size:Int):Bool:=(decide (kind=1)||decide (kind=2)||decide (kind=3))&&decide (0<=size)&&decide (size<=64)&& !(decide (kind=3)&&decide (size≠1))
def Qa8 (H:List MObj) (kind of size site b:Int):List MObj:=if Q2M kind size=true then Qde H ⟨kind,of,v0o size.toNat 0,site,b,0⟩else H
def QeU (H:List MObj) (kind size:Int):Int:=if Q2M kind size=true then addN H else 0
def QeV (H:List MObj) (kind size:Int):Int:=if Q2M kind size=true then addE H else 2
def Qbg (H:List MObj) (of:Int) (cells:List Int) (site b:Int):List MObj:=if cells.length<=256 then Qde H ⟨4,of,cells,site,b,0⟩else H
def QfB (H:List MObj) (n:Nat):Int:=if n<=256 then addN H else 0
def QfC (H:List MObj) (n:Nat):Int:=if n<=256 then addE H else 2
theorem Qcg {H:List MObj} {id:Int} {j:Nat} {o:MObj} (h:H[j]?=some o) (e:id=j+1):QR H id=o:=by
 unfold QR;rw[show(id -1).toNat=j by omega,h];rfl
theorem QcQ {H:List MObj} {id:Int}:hasB H id=true↔1<=id/\id<=H.length:=by
 simp[hasB]
theorem Q3i {H:List MObj} {id:Int} (h:hasB H id=true): ∃(j:Nat) (o:MObj),id=j+1/\H[j]?=some o/\QR H id=o/\j <H.length:=by
 have h1:=QcQ.1 h;have hj:(id -1).toNat <H.length:=by omega
 exact⟨(id -1).toNat,_,by omega,v0c hj,Qcg (v0c hj) (by omega),hj⟩
structure MItem where
 task:Int
 front:Bool
 due:Int
instance:Inhabited MItem:=⟨⟨0,false,0⟩⟩
def Ke (L:List MItem) (i:Int):MItem:=(L[i.toNat]?).getD default
def ofQ (L:List MItem) (t:Int):Int:=match L.findIdx? (fun x=>decide (x.task=t))with
 |some i=>i
 |none=> -1
def K7 (x f:MItem):Bool:=x.front||(!f.front&&decide (x.due <f.due))
def Qu (L:List MItem):Nat->Int
 |0=> -1
 |k+1=>if Qu L k <0 then k else if K7 (Ke L k) (Ke L (Qu L k))=true then k else Qu L k
def Z7 (L:List MItem):Int:=Qu L L.length
def Q2P (L:List MItem) (now:Int):Bool:= !(decide (Z7 L <0)||(!(Ke L (Z7 L)).front&&decide (now <(Ke L (Z7 L)).due)))
def Zq (L:List MItem) (now:Int):MItem:=if Q2P L now=true then Ke L (Z7 L)else default
def Qdr (L:List MItem) (x:MItem):Bool:= !(decide (x.task <0)||decide (x.due <0))&&decide (ofQ L x.task <0)
def putE (L:List MItem) (x:MItem):Int:=if(decide (x.task <0)||decide (x.due <0))=true then 2 else if 0<=ofQ L x.task then 7 else 0
def Q4z (L:List MItem) (x:MItem):List MItem:=if Qdr L x=true then L++[x]else L
def Q3p (L:List MItem) (t:Int):List MItem:=if 0<=ofQ L t then L.eraseIdx (ofQ L t).toNat else L
def tkQ (L:List MItem) (now:Int):List MItem:=if Q2P L now=true then Q3p L (Zq L now).task else L
theorem Kh (L:List MItem): ∀k,k<=L.length-> -1<=Qu L k/\Qu L k <L.length/\Qu L k <k
 |0,_=>by simp[Qu];omega
 | k+1,h=>by
   have:=Kh L k (by omega);unfold Qu
   split
   · omega
   split<;>omega
theorem Q7C {L:List MItem} {t:Int} (h: ∀x,x∈L->x.task≠t):ofQ L t= -1:=by
 unfold ofQ
 have:L.findIdx? (fun x=>decide (x.task=t))=none:=by
  rw[List.findIdx?_eq_none_iff];intro x hx;simpa using h x hx
 rw[this]
theorem Qce {L:List MItem} {t:Int} {i:Nat} (hi:i <L.length) (h1:L[i].task=t) (h2: ∀j (hj:j <L.length),j <i->L[j].task≠t):ofQ L t=i:=by
 unfold ofQ
 have:L.findIdx? (fun x=>decide (x.task=t))=some i:=by
  rw[v14];exact⟨hi,by simpa using h1,fun j hj=>by simpa using h2 j (by omega) hj⟩
 rw[this]
theorem Qdw {L:List MItem} {t:Int} (h:0<=ofQ L t):(ofQ L t).toNat <L.length/\(Ke L (ofQ L t)).task=t:=by
 unfold ofQ at h ⊢;cases e:L.findIdx? (fun x=>decide (x.task=t))with
 |none=>rw[e]at h;simp at h
 | some i=>
   rw[v14]at e;obtain⟨h1,h2,_⟩:=e;refine⟨by simpa using h1,?_⟩;unfold Ke;simp only[v0i,v0c h1,Option.getD_some];simpa using h2
def Q0e (was which:Int):Bool:=
 if which=0 then decide (was= -1)else if which=1 then decide (was=0)||decide (was=2)else if which=2 then decide (was=1)else if which=3 then decide (was=0)||decide (was=2)else false
def inL {α:Type} (l:List α) (i:Int):Bool:=decide (0<=i)&&decide (i <l.length)
def Q5V (C:List Int) (c which:Int):Bool:=inL C c&&Q0e ((C[c.toNat]?).getD 0) which
def goL (C:List Int) (c which:Int):List Int:=if Q5V C c which=true then C.set c.toNat which else C
def onL (E:List Bool) (e:Int):Bool:=inL E e&&(E[e.toNat]?).getD false
def QbC (E:List Bool) (e:Int) (on:Bool):List Bool:=if inL E e=true then E.set e.toNat on else E
def Q5Y (E:List Bool) (e:Int) (on:Bool):Bool:=inL E e&&(on&& !(E[e.toNat]?).getD false)
theorem Q1C {was which:Int} (h:Q0e was which=true):0<=which/\which<=3:=by
 unfold Q0e at h
 split at h
 · omega
 split at h
 · omega
 split at h
 · omega
 split at h
 · omega
 cases h
end Go.Mac
namespace Go.May
structure Ins where
 op:Int
 a:Int
 b:Int
 c:Int
 n:Int
 l:List Int
 site:Int
structure Fun where
 caps:Int
 regs:Int
 code:List Ins
structure Prg where
 loopers:Nat
 classes:List (Nat×Nat)
 globals:Nat
 funs:List Fun
 comps:List (Int×List Int)
 events:List (Int×Int)
 main:Int
 sites:List (Int×Int)
def inB (n most:Int):Bool:=decide (0<=n)&&decide (n <most)
def ones:List Int:=[1,8,9,10,11,14,21,22,25,29,30,32]
def Q96:List Int:=[3,4,5,6,7,18,19]
def Q6t:List Int:=[26,27,31,33]
def Yo (o:Int):Nat:=if o∈Q6t then 0 else if o∈ones then 1 else if o∈Q96 then 3 else 2
def Q1p (o:Int):Bool:=decide (9<=o)&&decide (o<=30)&&decide (o≠20)
def Jw (P:Prg) (n:Int):Int:=((P.funs[n.toNat]?).map Fun.caps).getD 0
def Q1f (P:Prg) (F:Fun) (x:Ins):Bool:=
 if x.op=9\/x.op=10 then inB x.n P.globals
 else if x.op=14 then inB x.n P.classes.length
 else if x.op=21 then inB x.n P.funs.length&&decide (Jw P x.n=x.l.length)
 else if x.op=23 then inB x.c P.loopers&&inB x.n 1000001
 else if x.op=24 then inB x.c P.loopers
 else if x.op=26\/x.op=27 then inB x.n P.events.length
 else if x.op=31\/x.op=32 then inB x.n F.code.length
 else true
def Q2K (F:Fun) (x:Ins):Bool:=([x.a,x.b,x.c].take (Yo x.op)).all fun r=>inB r F.regs
def lB (F:Fun) (x:Ins):Bool:=x.l.all fun r=>decide (x.op=21)&&inB r F.regs
def Z0 (P:Prg) (F:Fun) (x:Ins):Bool:=(decide (1<=x.op)&&decide (x.op<=33))&&(Q2K F x&&(lB F x&&Q1f P F x))
def okI (P:Prg) (F:Fun) (x:Ins) (n:Nat):Bool:=Z0 P F x&&decide (x.site=if Q1p x.op=true then(n:Int)else -1)
def Q0r (P:Prg) (F:Fun):Nat->List Ins->Bool
 |_,[]=>true
 |n,x::r=>okI P F x n&&Q0r P F (if Q1p x.op=true then n+1 else n) r
def Ze (i:Nat):Nat->List Ins->List (Int×Int)
 |_,[]=>[]
 |k,x::r=>(if Q1p x.op=true then[((i:Int),(k:Int))]else[])++Ze i (k+1) r
def cnt:List Ins->Nat
 | []=>0
 |x::r=>(if Q1p x.op=true then 1 else 0)+cnt r
theorem Q0G (i:Nat): ∀(k:Nat) (l:List Ins),(Ze i k l).length=cnt l
 |_,[]=>rfl
 | k,x::r=>by
   rw[Ze,cnt,v0j,Q0G i (k+1) r]
   split<;>rfl
theorem Q0H (i:Nat): ∀(k:Nat) (l m:List Ins),Ze i k (l++m)=Ze i k l++Ze i (k+l.length) m
 |_,[],m=>by simp[Ze]
 | k,x::l,m=>by
   rw[v08,Ze,Ze,Q0H i (k+1) l m,v0F,v07]
   congr 3
   omega
theorem Qbe: ∀(l m:List Ins),cnt (l++m)=cnt l+cnt m
 | [],m=>by simp[cnt]
 | x::l,m=>by
   rw[v08,cnt,cnt,Qbe l m];omega
theorem Q2C (P:Prg) (F:Fun): ∀(n:Nat) (l m:List Ins),Q0r P F n (l++m)=(Q0r P F n l&&Q0r P F (n+cnt l) m)
 |n,[],m=>by simp[Q0r,cnt]
 | n,x::l,m=>by
   rw[v08,Q0r,Q0r,Q2C P F _ l m,Bool.and_assoc,cnt]
   congr 3
   split<;>omega
section
variable {P:Prg} {F:Fun} {n:Nat} {l:List Ins} {i at':Nat}
theorem Q17 (h:at' <l.length):Q0r P F n (l.take (at'+1))=(Q0r P F n (l.take at')&&okI P F l[at'] (n+cnt (l.take at'))):=by
 rw[v0Z,v0c h,v1R,Q2C,Q0r,Q0r,v1k]
theorem Q86 (h:at' <l.length):cnt (l.take (at'+1))=cnt (l.take at')+if Q1p l[at'].op=true then 1 else 0:=by
 rw[v0Z,v0c h,v1R,Qbe,cnt,cnt,Nat.add_zero]
theorem Q1W (h:at' <l.length):Ze i 0 (l.take (at'+1))=Ze i 0 (l.take at')++if Q1p l[at'].op=true then[((i:Int),(at':Int))]else[]:=by
 rw[v0Z,v0c h,v1R,Q0H,Ze,Ze,v0k,v0E,v0e,Nat.min_eq_left (by omega)]
theorem Q8P (h:at' <l.length) (hf:okI P F l[at'] (n+cnt (l.take at'))=false):Q0r P F n l=false:=by
 have e:l=l.take (at'+1)++l.drop (at'+1):=(v01 _ _).symm;rw[e,Q2C,Q17 h,hf,v0Y,v05]
end
def KU (l:List Ins):Int:=((l.getLast?).map Ins.op).getD 0
def Q2o (F:Fun):Bool:=(inB F.regs 257&&inB F.caps (F.regs+1))&&(decide (1<=F.code.length)&&decide (F.code.length<=512))
def Q40 (F:Fun):Bool:=decide (KU F.code=33)||decide (KU F.code=31)
def QdI (P:Prg) (F:Fun) (n:Nat):Bool:=Q2o F&&(Q0r P F n F.code&&Q40 F)
def Q74 (P:Prg):Nat->List Fun->Bool
 |_,[]=>true
 |n,F::r=>QdI P F n&&Q74 P (n+cnt F.code) r
def Zu:Nat->List Fun->List (Int×Int)
 |_,[]=>[]
 |i,F::r=>Ze i 0 F.code++Zu (i+1) r
def cntF:List Fun->Nat
 | []=>0
 |F::r=>cnt F.code+cntF r
theorem Q2Z: ∀(i:Nat) (l:List Fun),(Zu i l).length=cntF l
 |_,[]=>rfl
 |i,F::r=>by rw[Zu,cntF,v0j,Q0G,Q2Z (i+1) r]
theorem Q0F: ∀(i:Nat) (l m:List Fun),Zu i (l++m)=Zu i l++Zu (i+l.length) m
 |_,[],m=>by simp[Zu]
 | i,F::l,m=>by
   rw[v08,Zu,Zu,Q0F (i+1) l m,v0F,v07]
   congr 3
   omega
theorem Q87: ∀(l m:List Fun),cntF (l++m)=cntF l+cntF m
 | [],m=>by simp[cntF]
 |F::l,m=>by rw[v08,cntF,cntF,Q87 l m];omega
theorem Q4y (P:Prg): ∀(n:Nat) (l m:List Fun),Q74 P n (l++m)=(Q74 P n l&&Q74 P (n+cntF l) m)
 |n,[],m=>by simp[Q74,cntF]
 | n,F::l,m=>by
   rw[v08,Q74,Q74,Q4y P _ l m,Bool.and_assoc,cntF]
   congr 3
   omega
section
variable {P:Prg} {n:Nat} {l:List Fun} {i:Nat}
theorem Q5T (h:i <l.length):Q74 P n (l.take (i+1))=(Q74 P n (l.take i)&&QdI P l[i] (n+cntF (l.take i))):=by
 rw[v0Z,v0c h,v1R,Q4y,Q74,Q74,v1k]
theorem Q2D (h:i <l.length):cntF (l.take (i+1))=cntF (l.take i)+cnt l[i].code:=by
 rw[v0Z,v0c h,v1R,Q87,cntF,cntF,Nat.add_zero]
theorem Q6d (h:i <l.length):Zu 0 (l.take (i+1))=Zu 0 (l.take i)++Ze i 0 l[i].code:=by
 rw[v0Z,v0c h,v1R,Q0F,Zu,Zu,v0k,v0E,v0e,Nat.min_eq_left (by omega)]
theorem Qbu (h:i <l.length) (hf:QdI P l[i] (n+cntF (l.take i))=false):Q74 P n l=false:=by
 have e:l=l.take (i+1)++l.drop (i+1):=(v01 _ _).symm;rw[e,Q4y,Q5T h,hf,v0Y,v05]
end
def Q06 (P:Prg) (f:Int):Bool:=inB f P.funs.length&&decide (Jw P f=0)
def Q2E (c:Nat×Nat):Bool:=decide (c.2<=8)&&decide (c.1=c.2)
def Q6X (P:Prg) (c:Int×List Int):Bool:=(c.2.all fun f=> !decide (0<=f)||Q06 P f)&&inB c.1 P.loopers
def Q2u (P:Prg) (e:Int×Int):Bool:=inB e.1 P.loopers&&Q06 P e.2
def Q8i (P:Prg):Bool:=(decide (1<=P.loopers)&&decide (P.loopers<=8))&&((decide (P.classes.length<=16)&&decide (P.globals<=32))&&((decide (P.comps.length<=8)&&decide (P.events.length<=8))&&((decide (1<=P.funs.length)&&decide (P.funs.length<=64))&&Q06 P P.main)))
def YQ (P:Prg):Bool:=Q8i P&&(P.classes.all Q2E&&(P.comps.all (Q6X P)&&P.events.all (Q2u P)))
def ZL (P:Prg):Bool:=YQ P&&(Q74 P 0 P.funs&&(decide (Zu 0 P.funs=P.sites)&&decide (P.sites.length<=512)))
theorem Qfh {l:List Fun} {i:Nat} (h:i <l.length):l=l.take i++l[i]::l.drop (i+1):=by
 rw[<-v1J h,v01]
theorem Qfw {l:List Ins} {i:Nat} (h:i <l.length):l=l.take i++l[i]::l.drop (i+1):=by
 rw[<-v1J h,v01]
section
variable {P:Prg}
theorem QbX {i at':Nat} (h:i <P.funs.length) (ha:at' <(P.funs[i]).code.length) (hs:Q1p ((P.funs[i]).code[at']).op=true):(Zu 0 P.funs)[cntF (P.funs.take i)+cnt ((P.funs[i]).code.take at')]?=some ((i:Int),(at':Int)):=by
 have e1:Zu 0 P.funs=Zu 0 (P.funs.take i)++Zu i (P.funs[i]::P.funs.drop (i+1)):=by
  conv=>lhs;rw[Qfh h]
  rw[Q0F,v0E,v0e,Nat.min_eq_left (by omega)]
 have e2:Ze i 0 (P.funs[i]).code=Ze i 0 ((P.funs[i]).code.take at')++Ze i at' ((P.funs[i]).code[at']::(P.funs[i]).code.drop (at'+1)):=by
  conv=>lhs;rw[Qfw ha]
  rw[Q0H,v0E,v0e,Nat.min_eq_left (by omega)]
 rw[e1,Zu,e2,Ze,if_pos hs,v0F,<-Q2Z 0,<-Q0G i 0,v0Q (by omega),Nat.add_sub_cancel_left,v0Q (by omega),Nat.sub_self];rfl
theorem Qa1 (h:YQ P=false):ZL P=false:=by rw[ZL,h,v05]
theorem Q6C {i:Nat} (h:i <P.funs.length) (hf:QdI P P.funs[i] (cntF (P.funs.take i))=false):ZL P=false:=by
 rw[ZL,Qbu (n:=0) h (by rw[v0e];exact hf),v05,v0Y]
theorem Qcu {i at':Nat} (h:i <P.funs.length) (ha:at' <(P.funs[i]).code.length) (hs:Q1p ((P.funs[i]).code[at']).op=true) (hn:P.sites[cntF (P.funs.take i)+cnt ((P.funs[i]).code.take at')]?≠some ((i:Int),(at':Int))):ZL P=false:=by
 have:Zu 0 P.funs≠P.sites:=fun e=>hn (by rw[<-e];exact QbX h ha hs);rw[ZL,decide_eq_false this,v05,v0Y,v0Y]
theorem Q3X {i at':Nat} (h:i <P.funs.length) (ha:at' <(P.funs[i]).code.length) (hf:okI P P.funs[i] (P.funs[i]).code[at'] (cntF (P.funs.take i)+cnt ((P.funs[i]).code.take at'))=false):ZL P=false:=by
 refine Q6C h ?_;rw[QdI,Q8P ha hf,v05,v0Y]
theorem Q7J {i:Nat} (h:i <P.funs.length) (hf:Q2o P.funs[i]=false):ZL P=false:=Q6C h (by rw[QdI,hf,v05])
theorem Q7I {i:Nat} (h:i <P.funs.length) (hf:Q40 P.funs[i]=false):ZL P=false:=Q6C h (by rw[QdI,hf,v0Y,v0Y])
theorem QeS (hp:YQ P=true) (ha:Q74 P 0 P.funs=true):ZL P=(decide (Zu 0 P.funs=P.sites)&&decide (P.sites.length<=512)):=by
 rw[ZL,hp,ha,v0C,v0C]
theorem last_at {F:Fun} (h:0 <F.code.length):KU F.code=(F.code[F.code.length -1]'(by omega)).op:=by
 rw[KU,List.getLast?_eq_getElem?,v0c (by omega)];rfl
theorem QfF {n:Nat} (h:n <P.funs.length):Jw P (n:Int)=P.funs[n].caps:=by
 rw[Jw,v0i,v0c h];rfl
end
theorem QcN {F:Fun} (h:Q2o F=true):0 <F.code.length:=by
 simp only[Q2o,v0g,decide_eq_true_eq]at h;omega
theorem Z5 {n m:Int}:inB n m=true↔0<=n/\n <m:=by simp[inB]
end Go.May
namespace Go.Mac
open Go.May
instance:Inhabited Ins:=⟨⟨0,0,0,0,0,[],0⟩⟩
instance:Inhabited Fun:=⟨⟨0,0,[]⟩⟩
structure MFrm where
 fn:Int
 at':Int
 regs:List Int
instance:Inhabited MFrm:=⟨⟨0,0,[]⟩⟩
structure MThr where
 F:List MFrm
 trap:Int
structure MAcc where
 site:Int
 kind:Int
 a:Int
 b:Int
 write:Bool
structure MAsk where
 op:Int
 site:Int
 n:Int
 v:Int
 looper:Int
 acc:List MAcc
def wr (n:Int):Int:=Go.IntKind.wrap .i64 n
def Qt (P:Prg) (f:Int):Fun:=(P.funs[f.toNat]?).getD default
def Q0Z (P:Prg) (f a:Int):Ins:=((Qt P f).code[a.toNat]?).getD default
def reg (R:List Int) (a:Int):Int:=(R[a.toNat]?).getD 0
def Yc (T:MThr):Bool:=decide (T.F.length=0)||decide (T.trap≠0)
def Qv (T:MThr):MFrm:=(T.F[T.F.length -1]?).getD default
def Qa (P:Prg) (T:MThr):Ins:=Q0Z P (Qv T).fn (Qv T).at'
def atF (F:List MFrm) (k:Nat) (n:Int):List MFrm:=F.modify k fun x=> {x with at':=n}
def Qfa (F:List MFrm) (k:Nat):List MFrm:=F.modify k fun x=> {x with at':=x.at'+1}
def Q34 (F:List MFrm) (k:Nat) (a n:Int):List MFrm:=F.modify k fun x=> {x with regs:=x.regs.set a.toNat n}
def onT (T:MThr) (ahead:Nat):MThr:= {T with F:=Qfa T.F (T.F.length -1 -ahead)}
def setT (T:MThr) (a n:Int):MThr:= {T with F:=Q34 T.F (T.F.length -1) a n}
def K0 (o:Int):Bool:=decide (o=9)||decide (o=10)||(decide (23<=o)&&decide (o<=30))
structure FrOk (P:Prg) (x:MFrm):Prop where
 f0:0<=x.fn
 f1:x.fn <P.funs.length
 a0:0<=x.at'
 a1:x.at' <(Qt P x.fn).code.length
 r:(x.regs.length:Int)=(Qt P x.fn).regs
def Kl (P:Prg) (T:MThr):Prop:=T.F.length<=32/\ ∀x,x∈T.F->FrOk P x
theorem Ya {T:MThr} (h:0 <T.F.length):T.F[T.F.length -1]?=some (Qv T):=by
 unfold Qv;rw[v0c (by omega)];rfl
theorem ZZ {T:MThr} (h:0 <T.F.length):Qv T∈T.F:=v0m (Ya h)
theorem Jb {P:Prg} {f:Int} (h0:0<=f) (h1:f <P.funs.length):P.funs[f.toNat]?=some (Qt P f):=by
 unfold Qt;rw[v0c (by omega)];rfl
theorem Q4a {P:Prg} {x:MFrm} (h:FrOk P x):(Qt P x.fn).code[x.at'.toNat]?=some (Q0Z P x.fn x.at'):=by
 unfold Q0Z;have:=h.a0;have:=h.a1;rw[v0c (by omega)];rfl
def ZS (x:Ins) (R:List Int) (it:Int):Option Int:=
 if x.op=1 then some x.n else if x.op=2 then some (reg R x.b)else if x.op=3 then some (wr (reg R x.b+reg R x.c))else if x.op=4 then some (wr (reg R x.b -reg R x.c))else
 if x.op=5 then some (wr (reg R x.b*reg R x.c))else if x.op=6 then some (if reg R x.b <reg R x.c then 1 else 0)else if x.op=7 then some (if reg R x.b=reg R x.c then 1 else 0)else if x.op=8 then some it else none
def Q4u (x:Ins) (R:List Int):MAsk:=
 ⟨x.op,x.site,x.n,if x.op=10\/x.op=25\/x.op=29\/x.op=30 then reg R x.a else if x.op=23\/x.op=24\/x.op=28 then reg R x.b else 0,if x.op=23\/x.op=24 then x.c else 0,[]⟩
def Yd (P:Prg) (f:Int) (cells:List Int):MFrm:=⟨f,0,cells++v0o ((Qt P f).regs.toNat -cells.length) 0⟩
def Q0q (P:Prg) (T:MThr):Bool:= !Yc T&&K0 (Qa P T).op
def Q1t (P:Prg) (T:MThr) (n:Int):MThr:=
 if Q0q P T=true then onT (if(Qa P T).op=9\/(Qa P T).op=23\/(Qa P T).op=24\/(Qa P T).op=28 then setT T (Qa P T).a n else T) 0 else T
section
variable {P:Prg} {f a:Int} {x:Ins} {F:Fun}
theorem Qa4 (h:ZL P=true) (h0:0<=f) (h1:f <P.funs.length):Q2o (Qt P f)=true:=by
 have hj:f.toNat <P.funs.length:=by omega
 have e1:P.funs[f.toNat]=Qt P f:=by
  have:=Jb h0 h1;rw[v0c hj]at this;exact v0h.inj this
 cases hh:Q2o (Qt P f)with
 |true=>rfl
 |false=>rw[<-e1]at hh;rw[Q7J hj hh]at h;cases h
theorem Yz (h:ZL P=true) (h0:0<=f) (h1:f <P.funs.length):0<=(Qt P f).regs/\(Qt P f).regs<=256/\0<=(Qt P f).caps/\(Qt P f).caps<=(Qt P f).regs/\1<=(Qt P f).code.length/\(Qt P f).code.length<=512:=by
 have:=Qa4 h h0 h1;simp only[Q2o,v0g,Z5,decide_eq_true_eq]at this;omega
theorem QeR (h:ZL P=true) (h0:0<=f) (h1:f <P.funs.length) (a0:0<=a) (a1:a <(Qt P f).code.length): ∃n,okI P (Qt P f) (Q0Z P f a) n=true:=by
 have hj:f.toNat <P.funs.length:=by omega
 have e1:P.funs[f.toNat]=Qt P f:=by
  have:=Jb h0 h1;rw[v0c hj]at this;exact v0h.inj this
 have ha:a.toNat <(P.funs[f.toNat]).code.length:=by rw[e1];omega
 have e2:(P.funs[f.toNat]).code[a.toNat]=Q0Z P f a:=by
  unfold Q0Z;rw[<-e1,v0c ha];rfl
 refine⟨cntF (P.funs.take f.toNat)+cnt ((P.funs[f.toNat]).code.take a.toNat),?_⟩;cases hh:okI P (Qt P f) (Q0Z P f a) (cntF (P.funs.take f.toNat)+cnt ((P.funs[f.toNat]).code.take a.toNat))with
 |true=>rfl
 |false=>rw[<-e2,<-e1]at hh;rw[Q3X hj ha hh]at h;cases h
theorem Qa3 (h:ZL P=true) (h0:0<=f) (h1:f <P.funs.length) (a0:0<=a) (a1:a <(Qt P f).code.length):Z0 P (Qt P f) (Q0Z P f a)=true:=by
 obtain⟨n,hn⟩:=QeR h h0 h1 a0 a1;simp only[okI,v0g]at hn;exact hn.1
theorem Q49 (h:Z0 P F x=true):Q2K F x=true:=by
 simp only[Z0,v0g]at h;exact h.2.1
theorem Q0h (h:Z0 P F x=true):Q1f P F x=true:=by
 simp only[Z0,v0g]at h;exact h.2.2.2
theorem ins_l (h:Z0 P F x=true): ∀r,r∈x.l->0<=r/\r <F.regs:=by
 simp only[Z0,v0g]at h;have:=h.2.2.1;simp only[lB,v0u,v0g,Z5]at this;exact fun r hr=>(this r hr).2
theorem Q08 (h:Z0 P F x=true) (hn:1<=Yo x.op):0<=x.a/\x.a <F.regs:=by
 have:=Q49 h;unfold Q2K at this;rw[v0u]at this;obtain⟨k,hk⟩: ∃k,Yo x.op=k+1:=⟨Yo x.op -1,by omega⟩;rw[hk]at this;exact Z5.1 (this x.a (by simp))
theorem Q21 (h:Z0 P F x=true) (hn:2<=Yo x.op):0<=x.b/\x.b <F.regs:=by
 have:=Q49 h;unfold Q2K at this;rw[v0u]at this;obtain⟨k,hk⟩: ∃k,Yo x.op=k+2:=⟨Yo x.op -2,by omega⟩;rw[hk]at this;exact Z5.1 (this x.b (by simp))
theorem Qek (h:Z0 P F x=true) (hn:3<=Yo x.op):0<=x.c/\x.c <F.regs:=by
 have:=Q49 h;unfold Q2K at this;rw[v0u]at this;obtain⟨k,hk⟩: ∃k,Yo x.op=k+3:=⟨Yo x.op -3,by omega⟩;rw[hk]at this;exact Z5.1 (this x.c (by simp))
theorem Q7V {x:MFrm} (h:ZL P=true) (k:FrOk P x):Z0 P (Qt P x.fn) (Q0Z P x.fn x.at')=true:=Qa3 h k.f0 k.f1 k.a0 k.a1
theorem Kx {x:MFrm} (h:ZL P=true) (k:FrOk P x):x.at'<=1000000/\x.regs.length<=256:=by
 have h1:=Yz h k.f0 k.f1;have h2:=k.a1;have h3:=k.r;omega
theorem Q04 {T:MThr} {n:Int} (h:Kl P T):Kl P (setT T a n)/\(setT T a n).F.length=T.F.length:=by
 have hl:(setT T a n).F.length=T.F.length:=by simp[setT,Q34]
 refine⟨⟨by rw[hl];exact h.1,fun x hx=>?_⟩,hl⟩;obtain⟨i,hi,rfl⟩:=v0N.1 hx;have aX:i <T.F.length:=by rw[<-hl];exact hi
 have k:=h.2 _ (v0M aX)
 have e:(setT T a n).F[i]=if T.F.length -1=i then {T.F[i]with regs:=T.F[i].regs.set a.toNat n}else T.F[i]:=by
  have:(setT T a n).F[i]?=some (if T.F.length -1=i then {T.F[i]with regs:=T.F[i].regs.set a.toNat n}else T.F[i]):=by
   unfold setT Q34;rw[List.getElem?_modify,v0c aX];simp only[Option.map_eq_map,Option.map_some]
  rw[v0c hi]at this;exact v0h.inj this
 rw[e]
 split
 · exact⟨k.f0,k.f1,k.a0,k.a1,by rw[v0q];exact k.r⟩
 exact k
theorem Q7u {R:List Int} {a:Int} (h0:0<=a) (h1:a <R.length):R[a.toNat]?=some (reg R a):=by
 unfold reg;rw[v0c (by omega)];rfl
end
structure MTask where
 kind:Int
 of':Int
 which:Int
 fn:Int
 looper:Int
 by':Int
 nth:Int
 front:Bool
 delay:Int
 due:Int
 payload:Int
 state:Int
 trap:Int
 mark:Int
 prev:Int
instance:Inhabited MTask:=⟨⟨0,0,0,0,0,0,0,false,0,0,0,0,0,0,0⟩⟩
structure MMark where
 kind:Int
 task:Int
 other:Int
 acc:MAcc
instance:Inhabited MMark:=⟨⟨0,0,0,⟨0,0,0,0,false⟩⟩⟩
structure MS where
 H:List MObj
 K:List Int
 E:List Bool
 Q:List (List MItem)
 runs:List Int
 T:List MTask
 Th:List MThr
 G:List Int
 log:List Int
 M:List MMark
 on:List Int
 now:Int
 steps:Int
 full:Bool
def Q6v:MAcc:=⟨0,0,0,0,false⟩
def Yj (s:MS) (k task other:Int):MS:= {s with M:=s.M++[⟨k,task,other,Q6v⟩]}
def Ji (s:MS) (task site k a:Int) (write:Bool):MS:= {s with M:=s.M++[⟨3,task,0,⟨site,k,a,0,write⟩⟩]}
def ZA (s:MS) (id:Int):MTask:=(s.T[(id -1).toNat]?).getD default
def Zt (s:MS) (id:Int):MThr:=(s.Th[(id -1).toNat]?).getD ⟨[],0⟩
def stM (s:MS) (id st:Int):MS:= {s with T:=s.T.modify (id -1).toNat fun t=> {t with state:=st}}
def JX (s:MS) (id:Int):MS:=if(ZA s id).kind=4 then Ji (Yj (stM s id 2) 1 id 0) id (ZA s id).of' 5 id true else Yj (stM s id 2) 1 id 0
def Ym (s:MS) (t:MTask):MTask:= {t with state:=1,due:=s.now+t.delay}
def Y9 (P:Prg) (s:MS) (t:MTask) (cells:List Int):MS:=
 if 256<=s.T.length then s else {s with
  T:=s.T++[Ym s t]
  Th:=s.Th++[⟨[Yd P t.fn cells],0⟩]
  Q:=if 0<=t.looper then s.Q.modify t.looper.toNat fun L=>Q4z L ⟨(s.T.length:Int)+1,t.front,s.now+t.delay⟩else s.Q}
def QbI (s:MS):Int:=if 256<=s.T.length then 0 else s.T.length+1
structure MOk (P:Prg) (s:MS):Prop where
 h:s.H.length<=1024
 k:s.K.length=P.comps.length
 k2:s.K.length<=1000
 e2:s.E.length<=1000
 e:s.E.length=P.events.length
 q:s.Q.length=P.loopers
 r:s.runs.length=P.loopers
 t:s.T.length<=256
 th:s.Th.length=s.T.length
 g:s.G.length=P.globals
 lg:s.log.length<=1024
 m:s.M.length<=100000
 on:s.on.length=P.events.length
 now:0<=s.now/\s.now<=1000000000000
 st:0<=s.steps/\s.steps<=20000
 ql: ∀L,L∈s.Q->L.length<=s.T.length
 tok: ∀T,T∈s.Th->Kl P T
end Go.Mac
namespace Go.Proofs
open Go.Shelf
def Tryz.keysA_ren:Go.Shelf.Ren:=⟨fun|7=>102|10=>120|n=>n,fun|23=>175|26=>3|3=>3|28=>210|0=>0|27=>209|33=>114|4=>4|n=>n,fun|n=>n⟩
theorem Tryz.keysA:Go.Proofs.SlLaysZI.n7 Tryz.prog Tryz.keysA_ren:= {
 mixed:=by kernel_rfl
 f7:=⟨Tryz.f102.name,by decide,Tryz.func102.trans (congrArg some (by kernel_rfl))⟩
 f10:=⟨Tryz.f120.name,by decide,Tryz.func120.trans (congrArg some (by kernel_rfl))⟩
 t0:=Tryz.underlying0
 a0:=Tryz.isAgg0
 z0:=Tryz.sizeOf0
 v0:=Tryz.zeroValue0
 t4:=Tryz.underlying4
 a4:=Tryz.isAgg4
 z4:=Tryz.sizeOf4
 v4:=Tryz.zeroValue4
 t23:=Tryz.underlying175
 a23:=Tryz.isAgg175
 z23:=Tryz.sizeOf175
 v23:=Tryz.zeroValue175
 t26:=Tryz.underlying3
 a26:=Tryz.isAgg3
 z26:=Tryz.sizeOf3
 v26:=Tryz.zeroValue3
 t27:=Tryz.underlying209
 a27:=Tryz.isAgg209
 z27:=Tryz.sizeOf209
 v27:=Tryz.zeroValue209
 t28:=Tryz.underlying210
 a28:=Tryz.isAgg210
 z28:=Tryz.sizeOf210
 v28:=Tryz.zeroValue210
 t33:=Tryz.underlying114
 a33:=Tryz.isAgg114
 z33:=Tryz.sizeOf114
 v33:=Tryz.zeroValue114}
def Tryz.sortedA_ren:Go.Shelf.Ren:=⟨fun|6=>101|8=>118|9=>119|11=>126|13=>128|12=>127|23=>139|24=>140|14=>130|15=>131|16=>132|17=>133|18=>134|19=>135|20=>136|21=>137|22=>138|25=>141|26=>142|27=>143|28=>144|29=>145|30=>146|31=>147|n=>n,fun|26=>3|28=>210|24=>39|0=>0|3=>3|37=>237|48=>248|50=>250|4=>4|40=>241|39=>240|45=>245|5=>5|9=>9|51=>251|55=>255|57=>257|58=>225|33=>114|n=>n,fun|n=>n⟩
theorem Tryz.sortedA:Go.Proofs.SlLaysZI.n6 Tryz.prog Tryz.sortedA_ren:= {
 mixed:=by kernel_rfl
 f6:=⟨Tryz.f101.name,by decide,Tryz.func101.trans (congrArg some (by kernel_rfl))⟩
 f8:=⟨Tryz.f118.name,by decide,Tryz.func118.trans (congrArg some (by kernel_rfl))⟩
 f11:=⟨Tryz.f126.name,by decide,Tryz.func126.trans (congrArg some (by kernel_rfl))⟩
 t0:=Tryz.underlying0
 a0:=Tryz.isAgg0
 z0:=Tryz.sizeOf0
 v0:=Tryz.zeroValue0
 t24:=Tryz.underlying39
 a24:=Tryz.isAgg39
 z24:=Tryz.sizeOf39
 v24:=Tryz.zeroValue39
 t26:=Tryz.underlying3
 a26:=Tryz.isAgg3
 z26:=Tryz.sizeOf3
 v26:=Tryz.zeroValue3
 t28:=Tryz.underlying210
 a28:=Tryz.isAgg210
 z28:=Tryz.sizeOf210
 v28:=Tryz.zeroValue210
 i26:=by kernel_rfl}
def Tryz.sortA_ren:Go.Shelf.Ren:=⟨fun|5=>119|8=>128|7=>127|19=>139|20=>140|10=>130|11=>131|12=>132|13=>133|14=>134|15=>135|16=>136|17=>137|18=>138|30=>141|31=>142|32=>143|33=>144|34=>145|35=>146|40=>147|n=>n,fun|23=>39|25=>3|3=>3|32=>237|22=>39|0=>0|44=>248|46=>250|4=>4|36=>241|35=>240|41=>245|5=>5|9=>9|53=>251|57=>255|63=>257|64=>225|n=>n,fun|n=>n⟩
theorem Tryz.sortA:Go.Proofs.SlLaysM.n5 Tryz.prog Tryz.sortA_ren:= {
 mixed:=by kernel_rfl
 f5:=⟨Tryz.f119.name,by decide,Tryz.func119.trans (congrArg some (by kernel_rfl))⟩
 f7:=⟨Tryz.f127.name,by decide,Tryz.func127.trans (congrArg some (by kernel_rfl))⟩
 f8:=Tryz.func128.trans (congrArg some (by kernel_rfl))
 f10:=⟨Tryz.f130.name,by decide,Tryz.func130.trans (congrArg some (by kernel_rfl))⟩
 f11:=⟨Tryz.f131.name,by decide,Tryz.func131.trans (congrArg some (by kernel_rfl))⟩
 f12:=⟨Tryz.f132.name,by decide,Tryz.func132.trans (congrArg some (by kernel_rfl))⟩
 f13:=⟨Tryz.f133.name,by decide,Tryz.func133.trans (congrArg some (by kernel_rfl))⟩
 f14:=⟨Tryz.f134.name,by decide,Tryz.func134.trans (congrArg some (by kernel_rfl))⟩
 f15:=⟨Tryz.f135.name,by decide,Tryz.func135.trans (congrArg some (by kernel_rfl))⟩
 f16:=⟨Tryz.f136.name,by decide,Tryz.func136.trans (congrArg some (by kernel_rfl))⟩
 f17:=⟨Tryz.f137.name,by decide,Tryz.func137.trans (congrArg some (by kernel_rfl))⟩
 f18:=⟨Tryz.f138.name,by decide,Tryz.func138.trans (congrArg some (by kernel_rfl))⟩
 f19:=Tryz.func139.trans (congrArg some (by kernel_rfl))
 f20:=Tryz.func140.trans (congrArg some (by kernel_rfl))
 f30:=⟨Tryz.f141.name,by decide,Tryz.func141.trans (congrArg some (by kernel_rfl))⟩
 f31:=Tryz.func142.trans (congrArg some (by kernel_rfl))
 f32:=Tryz.func143.trans (congrArg some (by kernel_rfl))
 f33:=⟨Tryz.f144.name,by decide,Tryz.func144.trans (congrArg some (by kernel_rfl))⟩
 f34:=⟨Tryz.f145.name,by decide,Tryz.func145.trans (congrArg some (by kernel_rfl))⟩
 f35:=⟨Tryz.f146.name,by decide,Tryz.func146.trans (congrArg some (by kernel_rfl))⟩
 f40:=⟨Tryz.f147.name,by decide,Tryz.func147.trans (congrArg some (by kernel_rfl))⟩
 t0:=Tryz.underlying0
 a0:=Tryz.isAgg0
 z0:=Tryz.sizeOf0
 v0:=Tryz.zeroValue0
 t3:=Tryz.underlying3
 a3:=Tryz.isAgg3
 z3:=Tryz.sizeOf3
 v3:=Tryz.zeroValue3
 t4:=Tryz.underlying4
 a4:=Tryz.isAgg4
 z4:=Tryz.sizeOf4
 v4:=Tryz.zeroValue4
 t5:=Tryz.underlying5
 a5:=Tryz.isAgg5
 z5:=Tryz.sizeOf5
 v5:=Tryz.zeroValue5
 t9:=Tryz.underlying9
 a9:=Tryz.isAgg9
 z9:=Tryz.sizeOf9
 v9:=Tryz.zeroValue9
 t22:=Tryz.underlying39
 a22:=Tryz.isAgg39
 z22:=Tryz.sizeOf39
 v22:=Tryz.zeroValue39
 t23:=Tryz.underlying39
 a23:=Tryz.isAgg39
 z23:=Tryz.sizeOf39
 v23:=Tryz.zeroValue39
 t25:=Tryz.underlying3
 a25:=Tryz.isAgg3
 z25:=Tryz.sizeOf3
 v25:=Tryz.zeroValue3
 t32:=Tryz.underlying237
 a32:=Tryz.isAgg237
 z32:=Tryz.sizeOf237
 v32:=Tryz.zeroValue237
 t35:=Tryz.underlying240
 a35:=Tryz.isAgg240
 z35:=Tryz.sizeOf240
 v35:=Tryz.zeroValue240
 t36:=Tryz.underlying241
 a36:=Tryz.isAgg241
 z36:=Tryz.sizeOf241
 v36:=Tryz.zeroValue241
 t41:=Tryz.underlying245
 a41:=Tryz.isAgg245
 z41:=Tryz.sizeOf245
 v41:=Tryz.zeroValue245
 t44:=Tryz.underlying248
 a44:=Tryz.isAgg248
 z44:=Tryz.sizeOf248
 v44:=Tryz.zeroValue248
 t46:=Tryz.underlying250
 a46:=Tryz.isAgg250
 z46:=Tryz.sizeOf250
 v46:=Tryz.zeroValue250
 t53:=Tryz.underlying251
 a53:=Tryz.isAgg251
 z53:=Tryz.sizeOf251
 v53:=Tryz.zeroValue251
 t57:=Tryz.underlying255
 a57:=Tryz.isAgg255
 z57:=Tryz.sizeOf255
 v57:=Tryz.zeroValue255
 t63:=Tryz.underlying257
 a63:=Tryz.isAgg257
 z63:=Tryz.sizeOf257
 v63:=Tryz.zeroValue257
 t64:=Tryz.underlying225
 a64:=Tryz.isAgg225
 z64:=Tryz.sizeOf225
 v64:=Tryz.zeroValue225}
end Go.Proofs
namespace Go.Model
open Go.X
end Go.Model
namespace Go.Proofs.YtljpajcmdjmeaaaGreat
open Go.X Go.RowKit Go.Maps Go.Sort Go.Shelf
theorem Q5d:Tryz.prog.follows .mixedOrders=true:=by kernel_rfl
theorem Qdo (m:Nat):AnyZI.SortsIn Tryz.prog Tryz.sortedA_ren Fence.wide m:=
 ⟨fun blk off cap ss W hH hblk cq=>callsIn_wide.2 (AnyM.slices_Sort_int Tryz.sortA blk off cap ss W hH hblk cq),
  fun p cap W=>callsIn_wide.2 (AnyM.slices_Sort_int_none Tryz.sortA p cap W)⟩
theorem Qeu:SortKeys Tryz.prog 101 120 3 where
 ty:=Tryz.underlying3
 yes :=fun Bm b nn D0 R w hB hc aj hmax lh=>by
  refine(callsIn_wide (n:=6)).1 ?_
  have kM:SeqGives Fence.wide 3 Tryz.prog 120 #[.pointer (some ⟨Bm,0,none⟩)] encZ (fun ss=>ss.Perm (intKeys D0)) (Maps.size D0) w:=
   AnyZI.keys_gives (ρ:=Tryz.keysA_ren) {Tryz.keysA with} Fence.wide _ trivial rfl (by omega) Bm b nn D0 _ hB hc aj
  have cS:=AnyZI.sorted_in Tryz.sortedA Fence.wide 6 trivial trivial trivial trivial rfl (by omega) (Qdo _) (enters_of Tryz.func119 (by kernel_rfl) rfl) 120 #[.pointer (some ⟨Bm,0,none⟩)] trivial (enters_of Tryz.func120 (by kernel_rfl) rfl) _ _ hmax lh _ kM;change CallsIn _ _ Tryz.prog 101 _ _ _ at cS;exact cS
 no:=fun Bm w hB hc=>by
  refine(callsIn_wide (n:=6)).1 ?_
  have kM:SeqGives Fence.wide 3 Tryz.prog 120 #[.pointer (some ⟨Bm,0,none⟩)] encZ (fun ss:List Int=>ss=[]) 0 w:=
   AnyZI.keys_gives_nil (ρ:=Tryz.keysA_ren) {Tryz.keysA with} Fence.wide _ trivial rfl Bm _ hB hc
  have cS:=AnyZI.sorted_in Tryz.sortedA Fence.wide 6 trivial trivial trivial trivial rfl (by omega) (Qdo _) (enters_of Tryz.func119 (by kernel_rfl) rfl) 120 #[.pointer (some ⟨Bm,0,none⟩)] trivial (enters_of Tryz.func120 (by kernel_rfl) rfl) _ 0 (v0s _) (by omega) _ kM;change CallsIn _ _ Tryz.prog 101 _ _ _ at cS;exact cS.mono fun e w' ⟨v,ss,he,hs,_,hn,hb⟩=>⟨by rw[he,hn.2 hs],hb⟩
noncomputable def onE0:Env:=QcZ Tryz.prog 99 Tryz.f99 Tryz.func99 (by kernel_rfl) (by kernel_rfl) (by kernel_rfl) (by kernel_rfl)
noncomputable def onE1:Env:=envSm onE0 101 (JA 120 3) (Q66 Qeu)
theorem Q9Y:Q4F onE1 7 20000=true:=by kernel_rfl
noncomputable def modE:Env:=QcY onE1 7 (Q61 onE1 Q5d Q9Y)
abbrev iV (k:Int):Value:=.int .i64 k
abbrev isV (l:List Int):List Value:=l.map fun n=>.int .i64 n
abbrev Qk (i:Nat):Value:=.pointer (some ⟨i,0,none⟩)
open Go.Mac
structure HpW where
 ov:Value
 ob:List Nat
 vs:List (Value×List Nat)
def obC:List MObj->List (Value×List Nat)->List Value
 |o::l,v::c=>[iV o.kind,iV o.of,v.1,iV o.site,iV o.by',iV o.nth]++obC l c
 |_,_=>[]
def obP:List MObj->List (Value×List Nat)->List Res
 |o::l,v::c=>slR 2 0 v.1 (isV o.vals) o.vals.length v.2::obP l c
 |_,_=>[]
def hpL (hb:Nat) (H:List MObj) (w:HpW):List Res:=cR hb (.cells [w.ov] 93 0)::slR 233 5 w.ov (obC H w.vs) H.length w.ob::obP H w.vs
def hpR (hb:Nat) (H:List MObj) (bs:List Nat):Res:=Q3r (fun L=> ∃w:HpW,w.vs.length=H.length/\L=hpL hb H w) bs
theorem Q56: ∀(l:List MObj) (c:List (Value×List Nat)) (rest:List Value) (j:Nat) (o:MObj) (v:Value×List Nat),l[j]?=some o->c[j]?=some v->((obC l c++rest).drop (j*6)).take 6=[iV o.kind,iV o.of,v.1,iV o.site,iV o.by',iV o.nth]
 | o::l,v::c,rest,0,o',v',h1,h2=>by
   simp only[v0W,v0h.injEq]at h1 h2;subst h1;subst h2;rfl
 | o::l,v::c,rest,j+1,o',v',h1,h2=>by
   show(([_,_,_,_,_,_]++obC l c++rest).drop ((j+1)*6)).take 6=_;rw[show(j+1)*6=6+j*6 by omega,v0F,<-List.drop_drop,List.drop_left' (by rfl)];exact Q56 l c rest j o' v' (by simpa using h1) (by simpa using h2)
 | [],_,_,_,_,_,h1,_=>by simp at h1
 |_::_,[],_,_,_,_,_,h2=>by simp at h2
theorem Q7E: ∀(l:List MObj) (c:List (Value×List Nat)) (j:Nat) (o:MObj) (v:Value×List Nat),l[j]?=some o->c[j]?=some v->(obP l c)[j]?=some (slR 2 0 v.1 (isV o.vals) o.vals.length v.2)
 | o::l,v::c,0,o',v',h1,h2=>by
   simp only[v0W,v0h.injEq]at h1 h2;subst h1;subst h2;rfl
 |o::l,v::c,j+1,o',v',h1,h2=>Q7E l c j o' v' (by simpa using h1) (by simpa using h2)
 | [],_,_,_,_,h1,_=>by simp at h1
 |_::_,[],_,_,_,_,h2=>by simp at h2
theorem Qs {cs r:List Value} {p z f:Nat} {v:Value} (h:(cs.drop p).take z=r) (hf:f <z) (hr:r[f]?=some v):cs[p+f]?=some v:=by
 rw[<-v1m,<-v2b hf,h];exact hr
theorem Q6 {e z n:Nat} {h:Hp} {s:Value} {cs:List Value} {bs:List Nat} (x:SlC e z h s cs n bs): ∃a c,s=.slice a n c:=by
 rcases x with⟨h1,_,h3,_⟩| ⟨b,m,c,rest,h1,_⟩
 · exact⟨none,0,by rw[h1,h3]⟩
 exact⟨_,_,h1⟩
structure HpG (h:Hp) (hb:Nat) (H:List MObj) (oa:Option Addr) (oc:Nat) (w:HpW):Prop where
 vs:w.vs.length=H.length
 ov:w.ov=.slice oa H.length oc
 cel:h.get hb=some (.cells [.slice oa H.length oc] 93 0)
 row:SlC 233 5 h (.slice oa H.length oc) (obC H w.vs) H.length w.ob
 val: ∀(j:Nat) o v,H[j]?=some o->w.vs[j]?=some v->SlC 2 0 h v.1 (isV o.vals) o.vals.length v.2
theorem Q2n {h:Hp} {hb:Nat} {H:List MObj} {bs:List Nat} (p:(hpR hb H bs).P h): ∃oa oc w,HpG h hb H oa oc w:=by
 obtain⟨L,⟨w,hw,rfl⟩,_,hp⟩:=p;have h1:SlC 233 5 h w.ov (obC H w.vs) H.length w.ob:=hp (slR 233 5 w.ov (obC H w.vs) H.length w.ob) (by simp[hpL]);obtain⟨oa,oc,e⟩:=Q6 h1;have h0:h.get hb=some (.cells [w.ov] 93 0):=hp (cR hb (.cells [w.ov] 93 0)) (by simp[hpL]);rw[e]at h0 h1
 exact⟨oa,oc,w,hw,e,h0,h1,fun j o v h1 h2=>hp (slR 2 0 v.1 (isV o.vals) o.vals.length v.2) (by
  have:=v0m (Q7E _ _ _ _ _ h1 h2)
  simp only[hpL,v0r];exact .inr (.inr this))⟩
theorem HpG.obj {h:Hp} {hb:Nat} {H:List MObj} {oa:Option Addr} {oc:Nat} {w:HpW} (G:HpG h hb H oa oc w) {j:Nat} {o:MObj} (hj:H[j]?=some o): ∃(b:Nat) (cs:List Value) (m:Nat) (v:Value) (bs:List Nat),oa=some ⟨b,0,none⟩/\h.get b=some (.cells cs 233 m)/\w.vs[j]?=some (v,bs)/\(cs.drop (j*6)).take 6=[iV o.kind,iV o.of,v,iV o.site,iV o.by',iV o.nth]/\H.length*6<=cs.length/\SlC 2 0 h v (isV o.vals) o.vals.length bs:=by
 have hl:=(List.getElem?_eq_some_iff.1 hj).1;obtain⟨b,c,hv,hb,cK⟩:=Q03 G.row (by omega);obtain⟨rfl,rfl⟩:oa=some ⟨b,0,none⟩/\oc=c:=by simpa using hv
 obtain⟨r,m,hg⟩:=Q4S G.row;obtain⟨⟨v,bs⟩,fX⟩: ∃v,w.vs[j]?=some v:=⟨_,v0c (by rw[G.vs];exact hl)⟩;exact⟨b,_,m,v,bs,rfl,hg,fX,Q56 _ _ _ _ _ _ hj fX,by rw[v0j,cK];omega,G.val j o _ hj fX⟩
section
variable {h:Hp} {hb:Nat} {H:List MObj} {bs:List Nat} {id:Int}
theorem m102 (p:(hpR hb H bs).P h):CP modE 125 [Qk hb,iV id] h (.bool (hasB H id)):=by
 obtain⟨oa,oc,w,G⟩:=Q2n p;refine Q9 (fu:=Tryz.f125) (by kernel_rfl) rfl ?_;refine Q7<|I2 rfl<|QP<|I1 rfl<|Ih rfl rfl<|I1 rfl ?_
 refine QY (n:=7) rfl rfl rfl gn rfl (fun hb=>by
  refine D1 hb rfl<|D1 hb rfl<|D6 hb rfl<|D0 0 hb rfl<|D4 hb rfl G.cel rfl<|D7 hb rfl<|Dm hb rfl rfl ?_
  exact Q0 ⟨rfl,rfl,7,rfl,rfl⟩) ?_
 refine I2 rfl<|Q0<|Q8 ⟨.inl rfl,_,rfl,⟨by unfold hasB;rfl,rfl⟩⟩
theorem m89 {k:Int} (p:(hpR hb H bs).P h) (hH:H.length<=1000000):CP modE 109 [Qk hb,iV id,iV k] h (.bool (isO H id k)):=by
 obtain⟨oa,oc,w,G⟩:=Q2n p;refine Q9 (fu:=Tryz.f109) (by kernel_rfl) rfl ?_;refine Q7<|I2 rfl<|QP<|I1 rfl<|I1 rfl<|Ic [_,_] rfl rfl (Ql (m102 p) ⟨ag0,?_⟩);refine I1 rfl ?_
 refine QY (n:=11) rfl rfl rfl gn rfl (fun hb=>by
  obtain⟨j,o,bU,hj,ho,bH⟩:=Q3i hb;obtain⟨b,cs,m,v,vb,cO,hg,hv,hc,hl,_⟩:=G.obj hj;have k0:cs[0+v0f (id -1)*6+0]?=some (iV (QR H id).kind):=by rw[ho,show v0f (id -1)=j by omega,v0e];exact Qs hc (by omega) rfl
  refine D1 hb rfl<|D6 hb rfl<|D0 0 hb rfl<|D4 hb rfl G.cel rfl<|D1 hb rfl<|Dso hb rfl rfl ?_;rw[cO];refine D5o 6 hb rfl rfl ?_;rw[<-cO];refine D0 0 hb rfl<|D4 hb rfl hg k0<|D1 hb rfl<|De hb rfl rfl ?_
  exact Q0 ⟨rfl,rfl,11,rfl,rfl⟩) ?_
 refine I2 rfl<|Q0<|Q8 ⟨.inl rfl,_,rfl,⟨by unfold isO;cases hb:hasB H id<;>rfl,rfl⟩⟩
theorem m90 (p:(hpR hb H bs).P h) (hH:H.length<=1000000):CP modE 110 [Qk hb,iV id] h (iV (Q5W H id)):=by
 obtain⟨oa,oc,w,G⟩:=Q2n p;refine Q9 (fu:=Tryz.f110) (by kernel_rfl) rfl ?_;refine Q7<|I2 rfl<|Z8<|I1 rfl<|I1 rfl<|Ic [_,_] rfl rfl (Ql (m102 p) ⟨ag0,?_⟩);refine Ib rfl<|Q0<|Q2 rfl (fun hb=>?_) fun hb=>?_
 · skip
   refine Q7<|I2 rfl<|Q0<|Q8 ?_;refine⟨.inl rfl,_,rfl,?_⟩
   exact⟨by
    have:hasB H id=false:=by simpa using hb
    unfold Q5W;rw[this];rfl,rfl⟩
 refine Q4 ?_;have aZ:hasB H id=true:=by simpa using hb
 have hlen:Q5W H id=(QR H id).vals.length:=if_pos aZ;obtain⟨j,o,rfl,hj,ho,bH⟩:=Q3i aZ;obtain⟨b,cs,m,v,vb,rfl,hg,hv,hc,hl,bE⟩:=G.obj hj;obtain⟨va,vc,rfl⟩:=Q6 bE;have k0:cs[0+v0f ((j:Int)+1 -1)*6+2]?=some (.slice va o.vals.length vc):=by rw[show v0f ((j:Int)+1 -1)=j by omega,v0e];exact Qs hc (by omega) rfl
 refine Q7<|I1 rfl<|I6 rfl<|I0 0 rfl<|I4 rfl G.cel rfl<|I1 rfl<|Iso rfl rfl<|I5o 6 rfl rfl<|I0 2 rfl<|I4 rfl hg k0<|I7 rfl<|I2 rfl<|Q0<|Q8 ⟨.inl rfl,_,rfl,⟨by rw[hlen,ho];rfl,rfl⟩⟩
theorem m101 {i:Int} (p:(hpR hb H bs).P h) (hH:H.length<=1000000):CP modE 124 [Qk hb,iV id,iV i] h (.tuple #[iV (getV H id i),iV (if inH H id i=true then 0 else 13)]):=by
 obtain⟨oa,oc,w,G⟩:=Q2n p;refine Q9 (fu:=Tryz.f124) (by kernel_rfl) rfl ?_;refine Q7<|I2 rfl<|I2 rfl<|Z8<|I1 rfl<|Il rfl rfl<|I1 rfl ?_
 refine Z4 (n:=5) rfl rfl rfl gn rfl (fun hb=>by
  refine D1 hb rfl<|D1 hb rfl<|D1 hb rfl<|Dc hb [_,_] rfl rfl (Ql (m90 p hH) ⟨ag0,?_⟩);refine Dh hb rfl rfl ?_
  exact Q0 ⟨rfl,rfl,5,rfl,rfl⟩) ?_
 refine Q0<|Q2 rfl (fun hb=>?_) fun hb=>?_
 · skip
   refine Q7<|I2 rfl<|I2 rfl<|Q0<|Q8 ?_;refine⟨.inl rfl,_,rfl,?_⟩
   exact⟨by
    have h1:inH H id i=false:=by unfold inH;simp at hb ⊢;omega
    unfold getV;rw[h1];rfl,rfl⟩
 refine Q4 ?_;have h1:inH H id i=true:=by unfold inH;simp at hb ⊢;omega
 obtain⟨hi0,cE⟩:0<=i/\i <Q5W H id:=by unfold inH at h1;simpa using h1
 have aZ:hasB H id=true:=by
  cases e:hasB H id with
  |true=>rfl
  |false=>unfold Q5W at cE;rw[e]at cE;simp at cE;omega
 have hlen:Q5W H id=(QR H id).vals.length:=if_pos aZ;obtain⟨j,o,rfl,hj,ho,bH⟩:=Q3i aZ;rw[hlen,ho]at cE;obtain⟨b,cs,m,v,vb,rfl,hg,hv,hc,hl,bE⟩:=G.obj hj;obtain⟨b2,o2,c2,cY,e2,m2,rfl,da,ju,ey⟩:=bE.row.atM (by omega);have k0:cs[0+v0f ((j:Int)+1 -1)*6+2]?=some (.slice (some ⟨b2,o2,none⟩) o.vals.length c2):=by rw[show v0f ((j:Int)+1 -1)=j by omega,v0e];exact Qs hc (by omega) rfl
 have aD:i.toNat <o.vals.length:=by omega
 have k1:cY[o2+v0f i*1]?=some (iV o.vals[i.toNat]):=by rw[v0A];exact ey _ aD
 refine Q7<|I1 rfl<|I6 rfl<|I0 0 rfl<|I4 rfl G.cel rfl<|I1 rfl<|Iso rfl rfl<|I5o 6 rfl rfl<|I0 2 rfl<|I4 rfl hg k0<|I1 rfl<|I5o 1 rfl rfl<|I4 rfl da k1<|I2 rfl<|I2 rfl<|Q0 ?_;refine Q8 ⟨.inl rfl,_,rfl,⟨by unfold getV;rw[h1,ho,v0c aD];rfl,rfl⟩⟩
end
theorem Q7F: ∀(l:List MObj) (c:List (Value×List Nat)) (o:MObj) (v:Value×List Nat),c.length=l.length->obC (l++[o]) (c++[v])=obC l c++[iV o.kind,iV o.of,v.1,iV o.site,iV o.by',iV o.nth]
 | [],[],_,_,_=>rfl
 | [],_::_,_,_,h=>by simp at h
 |_::_,[],_,_,h=>by simp at h
 | o::l,v::c,o',v',h=>by
   show[_,_,_,_,_,_]++obC (l++[o']) (c++[v'])=_;rw[Q7F l c o' v' (by simpa using h)];rfl
theorem Q7D: ∀(l:List MObj) (c:List (Value×List Nat)) (o:MObj) (v:Value×List Nat),c.length=l.length->obP (l++[o]) (c++[v])=obP l c++[slR 2 0 v.1 (isV o.vals) o.vals.length v.2]
 | [],[],_,_,_=>rfl
 | [],_::_,_,_,h=>by simp at h
 |_::_,[],_,_,h=>by simp at h
 | o::l,v::c,o',v',h=>by
   show _::obP (l++[o']) (c++[v'])=_;rw[Q7D l c o' v' (by simpa using h)];rfl
theorem Q9N (i:Nat) (k:Int): ∀(l:List MObj) (c:List (Value×List Nat)) (j:Nat),obC (l.modify j fun o=> {o with vals:=o.vals.set i k}) c=obC l c
 | [],c,j=>by cases j<;>rfl
 | o::l,[],j=>by
   cases j with
   |zero=>rfl
   |succ j=>rw[v1d];rfl
 |o::l,v::c,0=>rfl
 | o::l,v::c,j+1=>by
   rw[v1d];show[_,_,_,_,_,_]++obC (l.modify j _) c=_;rw[Q9N i k l c j];rfl
theorem KX (l:List Int) (i:Nat) (k:Int):(isV l).set i (iV k)=isV (l.set i k):=by simp
theorem Q9M (i:Nat) (k:Int): ∀(l:List MObj) (c:List (Value×List Nat)) (j:Nat) (o:MObj) (v:Value×List Nat),l[j]?=some o->c[j]?=some v->(obP l c).set j (slR 2 0 v.1 ((isV o.vals).set i (iV k)) o.vals.length v.2)=obP (l.modify j fun o=> {o with vals:=o.vals.set i k}) c
 | o::l,v::c,0,o',v',h1,h2=>by
   simp only[v0W,v0h.injEq]at h1 h2;subst h1;subst h2;show slR 2 0 v.1 ((isV o.vals).set i (iV k)) o.vals.length v.2::obP l c=slR 2 0 v.1 (isV (o.vals.set i k)) (o.vals.set i k).length v.2::obP l c;rw[KX,v0q]
 | o::l,v::c,j+1,o',v',h1,h2=>by
   rw[v1d];show _::(obP l c).set j _=_::obP (l.modify j _) c;rw[Q9M i k l c j o' v' (by simpa using h1) (by simpa using h2)]
 | [],_,_,_,_,h1,_=>by simp at h1
 |_::_,[],_,_,_,_,h2=>by simp at h2
section
variable {h0 h:Hp} {ds:List Nat} {A:List Res} {ph:Nat} {H:List MObj} {bs:List Nat}
theorem QaA (S:SH h0 ds (A++[hpR ph H bs]) h): ∃w:HpW,w.vs.length=H.length/\owns (hpL ph H w)=bs/\SH h0 ds (A++hpL ph H w) h:=by
 obtain⟨L,⟨w,hw,rfl⟩,h2,h3⟩:=Q0u S;exact⟨w,hw,h2,h3⟩
theorem Qaz {w:HpW} (S:SH h0 ds (A++hpL ph H w) h) (hw:w.vs.length=H.length):SH h0 ds (A++[hpR ph H (owns (hpL ph H w))]) h:=Jg S ⟨w,hw,rfl⟩
theorem QaB {w:HpW} (S:SH h0 ds (hpL ph H w) h) (hw:w.vs.length=H.length): ∃aa,SH h0 ds [hpR ph H aa] h:=⟨_,Qaz (A:=[]) S hw⟩
end
section
variable {h0 h:Hp} {ph:Nat} {H:List MObj} {bs:List Nat} {id:Int}
theorem m100 {i n:Int} (S0:SH h0 [] [hpR ph H bs] h) (hH:H.length<=1000000):C modE 123 [Qk ph,iV id,iV i,iV n] h fun v g'=>v=iV (if inH H id i=true/\isO H id 4=false then 0 else 13)/\ ∃aa,SH h bs [hpR ph (setH H id i n) aa] g':=by
 have p:=S0.res 0 rfl;have SE:=S0.enter;refine Q9 (fu:=Tryz.f123) (by kernel_rfl) rfl ?_;have S:=SH.start h;refine Q7<|I2 rfl<|Z8<|I1 rfl<|Il rfl rfl<|I1 rfl ?_
 refine Z4 (n:=5) rfl rfl rfl gn rfl (fun hb=>by
  refine D1 hb rfl<|D1 hb rfl<|D1 hb rfl<|Dc hb [_,_] rfl rfl (Ql (m90 p hH) ⟨ag0,?_⟩);refine Dh hb rfl rfl ?_
  exact Q0 ⟨rfl,rfl,5,rfl,rfl⟩) ?_
 refine I1 rfl ?_
 refine Z4 (n:=3) rfl rfl rfl gn rfl (fun hb=>by
  refine D1 hb rfl<|D1 hb rfl<|Dc hb [_,_,_] rfl rfl (Ql (m89 p hH) ⟨ag0,?_⟩)
  exact Q0 ⟨rfl,rfl,3,rfl,rfl⟩) ?_
 refine Q0<|Q2 rfl (fun hb=>?_) fun hb=>?_
 · skip
   refine Q7<|I2 rfl<|Q0<|Q8 ?_;refine⟨.inl rfl,_,rfl,?_⟩
   exact⟨by
    have h1: ¬(inH H id i=true/\isO H id 4=false):=by
     unfold inH;rintro⟨h1,h2⟩;rw[h2]at hb;simp at hb h1;omega
    rw[if_neg h1];rfl,by
    have h1: ¬(inH H id i=true/\isO H id 4=false):=by
     unfold inH;rintro⟨h1,h2⟩;rw[h2]at hb;simp at hb h1;omega
    unfold setH;rw[if_neg h1];exact⟨bs,SE⟩⟩
 refine Q4 ?_
 have h2:isO H id 4=false:=by
  cases e:isO H id 4 with
  |false=>rfl
  |true=>rw[e]at hb;simp at hb
 have h1:inH H id i=true:=by unfold inH;rw[h2]at hb;simp at hb ⊢;omega
 obtain⟨hi0,cE⟩:0<=i/\i <Q5W H id:=by unfold inH at h1;simpa using h1
 have aZ:hasB H id=true:=by
  cases e:hasB H id with
  |true=>rfl
  |false=>unfold Q5W at cE;rw[e]at cE;simp at cE;omega
 have hlen:Q5W H id=(QR H id).vals.length:=if_pos aZ;obtain⟨j,o,rfl,hj,ho,bH⟩:=Q3i aZ;rw[hlen,ho]at cE;obtain⟨w,hw,aj,S⟩:=QaA (A:=[]) SE;rw[List.nil_append]at S;obtain⟨⟨v,vb⟩,fX⟩: ∃v,w.vs[j]?=some v:=⟨_,v0c (by omega)⟩;obtain⟨b,c,aW,_,cK⟩:=Q03 (S.sl 1 rfl) (by omega);have aq:=S.sl 1 rfl;rw[aW]at aq;obtain⟨r,m,bC⟩:=Q4S aq;have dp:=S.cel 0 rfl;rw[aW]at dp
 have aF:(hpL ph H w)[2+j]?=some (slR 2 0 v (isV o.vals) o.vals.length vb):=by
  rw[show 2+j=j+1+1 by omega];exact Q7E _ _ _ _ _ hj fX
 obtain⟨b2,c2,hv,_,hcl2⟩:=Q03 (S.sl (2+j) aF) (by omega);have aD:i.toNat <o.vals.length:=by omega
 have k0:(obC H w.vs++r)[0+v0f ((j:Int)+1 -1)*6+2]?=some v:=by rw[show v0f ((j:Int)+1 -1)=j by omega,v0e];exact Qs (Q56 _ _ _ _ _ _ hj fX) (by omega) rfl
 refine Q7<|I1 rfl<|I6 rfl<|I0 0 rfl<|I4 rfl dp rfl<|I1 rfl<|Iso rfl rfl<|I5o 6 rfl rfl<|I0 2 rfl<|I4 rfl bC k0<|I1 rfl<|I1 rfl ?_;rw[hv];refine I5o 1 rfl rfl ?_;rw[<-hv];refine Zm (2+j) S gn rfl rfl rfl (by kernel_rfl) aF hv (by rw[v0v];omega) (fun g S=>ag0) fun g S=>?_;refine QP<|I2 rfl<|Q0<|Q8 ?_;refine⟨.inl rfl,_,rfl,?_⟩
 exact⟨by rw[if_pos ⟨h1,h2⟩];rfl,by
  have e:(hpL ph H w).set (2+j) (slR 2 0 v ((isV o.vals).set (0+i.toNat*1) (iV n)) o.vals.length vb)=hpL ph (setH H ((j:Int)+1) i n) w:=by
   unfold setH;rw[if_pos ⟨h1,h2⟩,show v0f ((j:Int)+1 -1)=j by omega,show 2+j=j+1+1 by omega,v0e,v0A];show cR ph (.cells [w.ov] 93 0)::slR 233 5 w.ov (obC H w.vs) H.length w.ob::(obP H w.vs).set j (slR 2 0 v ((isV o.vals).set i.toNat (iV n)) o.vals.length vb)=_;rw[Q9M i.toNat n H w.vs j o (v,vb) hj fX];unfold hpL;rw[Q9N,v0l]
  rw[e]at S
  exact QaB S (by unfold setH;rw[if_pos ⟨h1,h2⟩,v0l];exact hw)⟩
end
theorem el197:ElN modE 91 233 5 63:=⟨by kernel_rfl,by kernel_rfl,by kernel_rfl,.agg #[.int .i64 0,.int .i64 0,.slice none 0 0,.int .i64 0,.int .i64 0,.int .i64 0],by kernel_rfl,rfl⟩
theorem el2:ElN modE 42 2 0 7:=⟨by kernel_rfl,by kernel_rfl,by kernel_rfl,.int .i64 0,by kernel_rfl,rfl⟩
theorem Q33 (n:Nat):Qj [iV 0] n=isV (v0o n 0):=by
 induction n with
 |zero=>rfl
 |succ n ih=>simp only[Qj,List.replicate_succ,List.map_cons]at ih ⊢;rw[ih];rfl
theorem Q8y {H:List MObj} {b:Int} {i:Nat} {o:MObj} (h:H[i]?=some o):Q29 (H.take (i+1)) b=Q29 (H.take i) b+(if o.by'=b then 1 else 0):=by
 unfold Q29;rw[v0Z,h,List.filter_append,v0j]
 congr 1
 by_cases e:o.by'=b<;>simp[e]
theorem Qcn (H:List MObj) (b:Int):Q29 H b<=H.length:=List.length_filter_le _ _
abbrev obV (o:MObj) (v:Value):Value:=.agg #[iV o.kind,iV o.of,v,iV o.site,iV o.by',iV o.nth]
theorem QcI (l:List Int):(isV l).all cellV=true:=by
 rw[v0u];intro v hv;obtain⟨k,_,rfl⟩:=List.mem_map.1 hv;rfl
theorem Qcf {o:MObj} {v:Value} (kv:cellV v=true):(obV o v).cells.toList.all cellV=true:=by
 show([iV o.kind,iV o.of,v,iV o.site,iV o.by',iV o.nth]:List Value).all cellV=true;simp only[List.all_cons,List.all_nil,kv,v1k];rfl
section
variable {h0 h:Hp} {ph:Nat} {H:List MObj} {bs vb:List Nat} {v:Value} {o:MObj}
theorem m103 (S0:SH h0 [] [slR 2 0 v (isV o.vals) o.vals.length vb,hpR ph H bs] h):C modE 129 [Qk ph,obV o v] h fun r g'=>r=.tuple #[iV (addN H),iV (addE H)]/\ ∃aa,SH h (owns [slR 2 0 v (isV o.vals) o.vals.length vb,hpR ph H bs]) [hpR ph (Qde H o) aa] g':=by
 have SE:=S0.enterL;obtain⟨w,hw,aj,S1⟩:=QaA (A:=[_]) SE;have aq:=S1.sl 2 rfl;obtain⟨oa,oc,aW⟩:=Q6 aq
 have mS:0 <H.length-> ∃b,oa=some ⟨b,0,none⟩:=fun hl=>by
  obtain⟨b,c,e,_⟩:=Q03 aq hl;rw[aW]at e;exact⟨b,by simpa using(Value.slice.inj e).1⟩
 have S1:SH h (owns [slR 2 0 v (isV o.vals) o.vals.length vb,hpR ph H bs]) (slR 2 0 v (isV o.vals) o.vals.length vb::cR ph (.cells [.slice oa H.length oc] 93 0)::slR 233 5 (.slice oa H.length oc) (obC H w.vs) H.length w.ob::obP H w.vs) h:=by
  have:=S1;unfold hpL at this;rw[aW]at this;exact this
 refine Q9 (fu:=Tryz.f129) (by kernel_rfl) rfl ?_;have S:=S1;refine Q7 ?_;refine Z9 S gn rfl rfl fun b1 g aJ S=>?_;refine I2 rfl<|I2 rfl<|Z8<|I1 rfl<|I6 rfl<|I0 0 rfl<|I4 rfl (S.cel 2 rfl) rfl<|I7 rfl<|Ih rfl rfl<|Q0<|Q2 rfl (fun hb=>?_) fun hb=>?_
 · skip
   refine Q7<|I2 rfl<|I2 rfl<|Q0<|Q8 ?_;refine⟨.inl rfl,_,rfl,?_⟩
   exact⟨by
    have:1024<=H.length:=by simp at hb;omega
    unfold addN addE;rw[if_pos this,if_pos this];rfl,by
    have:1024<=H.length:=by simp at hb;omega
    unfold Qde;rw[if_pos this];refine⟨_,Qaz (A:=[]) (w:=w) ?_ hw⟩
    unfold hpL;rw[aW];exact S.drop.drop⟩
 refine Q4 ?_;have ai:H.length <1024:=by simp at hb;omega
 have S:SH h (owns [slR 2 0 v (isV o.vals) o.vals.length vb,hpR ph H bs]) (cR b1 (.cells [iV o.kind,iV o.of,v,iV o.site,iV o.by',iV o.nth] 233 0)::slR 2 0 v (isV o.vals) o.vals.length vb::cR ph (.cells [.slice oa H.length oc] 93 0)::slR 233 5 (.slice oa H.length oc) (obC H w.vs) H.length w.ob::obP H w.vs) g:=S;refine Q7<|I0 5 rfl ?_;refine Qg 0 S gn rfl rfl rfl (by kernel_rfl) rfl (by decide) (by simp) (fun g S=>ag0) fun g S=>?_;refine Z8<|I2 rfl<|Q0<|Qb ?_
 refine QB [(6,_)] [(0,_),(3,_)] (fun kk lv hh=> ∃i:Nat,lv=[(6,iV i)]/\kk=H.length -i/\i<=H.length/\SH h (owns [slR 2 0 v (isV o.vals) o.vals.length vb,hpR ph H bs]) (cR b1 (.cells [iV o.kind,iV o.of,v,iV o.site,iV o.by',iV (Q29 (H.take i) o.by')] 233 0)::slR 2 0 v (isV o.vals) o.vals.length vb::cR ph (.cells [.slice oa H.length oc] 93 0)::slR 233 5 (.slice oa H.length oc) (obC H w.vs) H.length w.ob::obP H w.vs) hh) (n:=H.length) ?_ fun kk lv hh hI=>?_
 · exact⟨0,rfl,rfl,v0s _,S⟩
 obtain⟨i,rfl,iS,hi,S⟩:=hI;refine Q5<|Q7<|I1 rfl<|I1 rfl<|I6 rfl<|I0 0 rfl<|I4 rfl (S.cel 2 rfl) rfl<|I7 rfl<|Il rfl rfl<|Q0<|Q2 rfl (fun hb=>?_) fun hb=>?_
 · skip
   refine Q4 ?_;have hi:i <H.length:=by simp at hb;omega
   obtain⟨b,rfl⟩:=mS (by omega);obtain⟨r,m,bC⟩:=Q4S (S.sl 3 rfl);obtain⟨x,hx⟩: ∃x,H[i]?=some x:=⟨_,v0c hi⟩;obtain⟨xv,hxv⟩: ∃x,w.vs[i]?=some x:=⟨_,v0c (by omega)⟩;have k0:(obC H w.vs++r)[0+v0f (i:Int)*6+4]?=some (iV x.by'):=by rw[v0i,v0e];exact Qs (Q56 _ _ _ _ _ _ hx hxv) (by omega) rfl
   have hnt:=Q8y (b:=o.by') hx;have dy:=Qcn (H.take i) o.by'
   rw[v0E]at dy;refine Q5<|Qb<|Q5<|I9<|I1 rfl<|I6 rfl<|I0 0 rfl<|I4 rfl (S.cel 2 rfl) rfl<|I1 rfl<|I5o 6 rfl rfl<|I0 4 rfl<|I4 rfl bC k0<|I0 4 rfl<|I4 rfl (S.cel 0 rfl) rfl<|Ie rfl rfl<|Q0 ?_;refine Q2 rfl (fun hb=>?_) fun hb=>?_
   · skip
     refine Q3 (by kernel_rfl)<|I0 5 rfl<|I4 rfl (S.cel 0 rfl) rfl<|Iao rfl rfl<|I0 5 rfl ?_;refine Qg 0 S gn rfl rfl rfl (by kernel_rfl) rfl (by decide) (by simp) (fun g S=>ag0) fun g S=>?_;refine Q0<|Q3 (by kernel_rfl)<|I1 rfl<|Iao rfl rfl<|I2 rfl<|Q0 ?_
     exact K3 (H.length - (i+1)) [(6,_)] (p:=⟨i+1,rfl,rfl,by omega,by
      have e:x.by'=o.by':=by simpa using hb
      rw[hnt,if_pos e];exact S⟩)
   refine Q4<|Q3 (by kernel_rfl)<|I1 rfl<|Iao rfl rfl<|I2 rfl<|Q0 ?_
   exact K3 (H.length - (i+1)) [(6,_)] (p:=⟨i+1,rfl,rfl,by omega,by
    have e: ¬x.by'=o.by':=by simpa using hb
    rw[hnt,if_neg e];exact S⟩)
 refine QF<|Qh<|Qn<|QE ?_;obtain rfl:i=H.length:=by simp at hb;omega
 rw[List.take_length]at S;refine Q5<|I9<|I1 rfl<|I1 rfl<|I6 rfl<|I0 0 rfl<|I4 rfl (S.cel 2 rfl) rfl<|I3 6 rfl (S.cel 0 rfl) (v0b _) ?_;refine Qc (cs:= #[iV o.kind,iV o.of,v,iV o.site,iV o.by',iV (Q29 H o.by')]) (e:=233) (z:=5) (zv:=.agg #[iV 0,iV 0,.slice none 0 0,iV 0,iV 0,iV 0]) [(0,_)] S gn rfl (by kernel_rfl) (by kernel_rfl) (by kernel_rfl) (by kernel_rfl) rfl (by kernel_rfl) fun b2 g bK S=>?_
 refine QM (e:=233) (z:=5) (by':=63) 4 0 S el197 gn rfl rfl rfl rfl rfl rfl (Qcf (o:= {o with nth:=Q29 H o.by'}) (S0.sl 0 rfl).cellV) (by omega) (fun s' aa g S=>ag0) fun s' aa g S=>?_;obtain⟨sa,sc,rfl⟩:=Q6 (S.sl 4 rfl);refine I6 rfl<|I0 0 rfl ?_;refine Qg 3 S gn rfl rfl (S.sl 4 rfl).cellV (by kernel_rfl) rfl (by decide) (by exact Nat.zero_lt_one) (fun g S=>ag0) fun g S=>?_;refine QP<|I1 rfl<|I6 rfl<|I0 0 rfl<|I4 rfl (S.cel 3 rfl) rfl<|I7 rfl<|I2 rfl<|I2 rfl<|Q0<|Q8 ?_;refine⟨.inl rfl,_,rfl,?_⟩
 exact⟨by unfold addN addE;rw[if_neg (by omega),if_neg (by omega)];rfl,by
  have S2:SH h (owns [slR 2 0 v (isV o.vals) o.vals.length vb,hpR ph H bs]) ([slR 2 0 v (isV o.vals) o.vals.length vb]++cR ph (.cells [.slice sa (H.length+1) sc] 93 0)::slR 233 5 (.slice sa (H.length+1) sc) (obC H w.vs++[iV o.kind,iV o.of,v,iV o.site,iV o.by',iV (Q29 H o.by')]) (H.length+1) aa::obP H w.vs) g:=S.drop.drop;have S3:=S2.comm;have ea:Qde H o=H++[{o with nth:=Q29 H o.by'}]:=by unfold Qde;rw[if_neg (by omega)]
  have e:(cR ph (.cells [.slice sa (H.length+1) sc] 93 0)::slR 233 5 (.slice sa (H.length+1) sc) (obC H w.vs++[iV o.kind,iV o.of,v,iV o.site,iV o.by',iV (Q29 H o.by')]) (H.length+1) aa::obP H w.vs)++[slR 2 0 v (isV o.vals) o.vals.length vb]=hpL ph (Qde H o) ⟨.slice sa (H.length+1) sc,aa,w.vs++[(v,vb)]⟩:=by
   rw[ea];unfold hpL;rw[Q7F _ _ _ _ hw,Q7D _ _ _ _ hw,v0j];rfl
  rw[e]at S3
  exact QaB S3 (by rw[ea];simp[hw])⟩
theorem m98 {kind of size site b:Int} (S0:SH h0 [] [hpR ph H bs] h):C modE 121 [Qk ph,iV kind,iV of,iV size,iV site,iV b] h fun r g'=>r=.tuple #[iV (QeU H kind size),iV (QeV H kind size)]/\ ∃aa,SH h bs [hpR ph (Qa8 H kind of size site b) aa] g':=by
 have SE:=S0.enter;refine Q9 (fu:=Tryz.f121) (by kernel_rfl) rfl ?_;have S:=SE;refine Q7<|I2 rfl<|I2 rfl<|Z8<|I1 rfl<|In rfl rfl<|I1 rfl ?_
 refine QY (n:=2) rfl rfl rfl gn rfl (fun hb=>by
  refine D1 hb rfl<|Dn hb rfl rfl ?_
  exact Q0 ⟨rfl,rfl,2,rfl,rfl⟩) ?_
 refine I1 rfl ?_
 refine QY (n:=2) rfl rfl rfl gn rfl (fun hb=>by
  refine D1 hb rfl<|Dn hb rfl rfl ?_
  exact Q0 ⟨rfl,rfl,2,rfl,rfl⟩) ?_
 refine I1 rfl ?_
 refine Z4 (n:=2) rfl rfl rfl gn rfl (fun hb=>by
  refine D1 hb rfl<|Dl hb rfl rfl ?_
  exact Q0 ⟨rfl,rfl,2,rfl,rfl⟩) ?_
 refine I1 rfl ?_
 refine Z4 (n:=2) rfl rfl rfl gn rfl (fun hb=>by
  refine D1 hb rfl<|Dg hb rfl rfl ?_
  exact Q0 ⟨rfl,rfl,2,rfl,rfl⟩) ?_
 refine I1 rfl ?_
 refine Z4 (n:=6) rfl rfl rfl gn rfl (fun hb=>by
  refine D1 hb rfl<|De hb rfl rfl<|D1 hb rfl ?_
  refine QY (n:=2) rfl rfl rfl (gy rfl rfl rfl hb) rfl (fun hb=>by
   refine D1 hb rfl<|Dn hb rfl rfl ?_
   exact Q0 ⟨rfl,rfl,2,rfl,rfl⟩) ?_
  exact Q0 ⟨rfl,rfl,4,rfl,rfl⟩) ?_
 refine Q0<|Q2 rfl (fun hb=>?_) fun hb=>?_
 · skip
   refine Q7<|I2 rfl<|I2 rfl<|Q0<|Q8 ?_;refine⟨.inl rfl,_,rfl,?_⟩
   exact⟨by
    have:Q2M kind size=false:=by
     unfold Q2M;by_cases e1:kind=1<;>by_cases e2:kind=2<;>by_cases e3:kind=3<;>simp[e1,e2,e3]at hb ⊢ <;>omega
    unfold QeU QeV;rw[this];rfl,by
    have:Q2M kind size=false:=by
     unfold Q2M;by_cases e1:kind=1<;>by_cases e2:kind=2<;>by_cases e3:kind=3<;>simp[e1,e2,e3]at hb ⊢ <;>omega
    unfold Qa8;rw[this];exact⟨bs,S⟩⟩
 refine Q4 ?_
 have aG:Q2M kind size=true:=by
  unfold Q2M;by_cases e1:kind=1<;>by_cases e2:kind=2<;>by_cases e3:kind=3<;>simp[e1,e2,e3]at hb ⊢ <;>omega
 obtain⟨mJ,aY⟩:0<=size/\size<=64:=by
  unfold Q2M at aG;simp only[v0g,decide_eq_true_eq]at aG;exact⟨aG.1.1.2,aG.1.2⟩
 refine Q7<|I1 rfl<|I1 rfl<|I1 rfl<|I1 rfl ?_;refine JC (e:=2) (z:=0) (zv:=.int .i64 0) (by':=8) S gn rfl rfl rfl (by kernel_rfl) (by kernel_rfl) (by kernel_rfl) (by kernel_rfl) (by decide) (by omega) (by omega) (by omega) (by omega) fun b1 g aJ S=>?_;have S:=S.toSl (z:=0) (n:=size.toNat) 0 rfl (.inl rfl) (by rw[show(Value.int .i64 0).cells.toList=[iV 0] from rfl,Q33];simp);rw[show(Value.int .i64 0).cells.toList=[iV 0] from rfl,Q33]at S;have S:SH h bs [slR 2 0 (.slice (some ⟨b1,0,none⟩) size.toNat size.toNat) (isV (v0o size.toNat 0)) size.toNat [b1],hpR ph H bs] g:=S
 have el:(v0o size.toNat (0:Int)).length=size.toNat:=v0O;refine I1 rfl<|I1 rfl<|Qq (zv:=.agg #[iV 0,iV 0,.slice none 0 0,iV 0,iV 0,iV 0]) (pl:=[(0,1),(1,1),(2,1),(3,1),(4,1),(5,1)]) [(0,_),(1,_),(2,_),(3,_),(4,_)] gn rfl (by kernel_rfl) (by kernel_rfl) rfl (by rfl) ?_
 refine QZ [_,_] gn rfl rfl (by kernel_rfl) rfl (C.mono (m103 (o:=⟨kind,of,v0o size.toNat 0,site,b,0⟩) (vb:=[b1]) (v:=.slice (some ⟨b1,0,none⟩) size.toNat size.toNat) (SH.subL (A:=[_,_]) (B:=[]) S0 S0.own0 (by rw[show MObj.vals ⟨kind,of,v0o size.toNat 0,site,b,0⟩=v0o size.toNat 0 from rfl,el];exact S))) ?_);rintro v g ⟨rfl,aa,S2⟩;rw[show MObj.vals ⟨kind,of,v0o size.toNat 0,site,b,0⟩=v0o size.toNat 0 from rfl,el]at S2;have S:=SH.retL (A:=[_,_]) (B:=[]) S S2;refine⟨ag0,?_⟩;refine Ix rfl rfl<|Ix rfl rfl<|I2 rfl<|I2 rfl<|Q0 ?_
 refine Q8 ⟨.inl rfl,_,rfl,⟨by unfold QeU QeV;rw[aG];rfl,aa,by unfold Qa8;rw[if_pos aG];exact S⟩⟩
theorem m99 {of site b:Int} {cells:List Int} {cv:Value} (S0:SH h0 [] [hpR ph H bs] h) (hc:RowV h cv (isV cells)) (hl:cells.length<=1000000):C modE 122 [Qk ph,iV of,cv,iV site,iV b] h fun r g'=>r=.tuple #[iV (QfB H cells.length),iV (QfC H cells.length)]/\ ∃aa,SH h bs [hpR ph (Qbg H of cells site b) aa] g':=by
 obtain⟨ca,cc,rfl⟩:=hc.valM;have bL:=hc.src;rw[v0v]at bL;have SE:=S0.enter;refine Q9 (fu:=Tryz.f122) (by kernel_rfl) rfl ?_;have S:=SE;refine Q7<|I2 rfl<|I2 rfl<|Z8<|I1 rfl<|I7 rfl<|Ig rfl rfl<|Q0<|Q2 rfl (fun hb=>?_) fun hb=>?_
 · skip
   refine Q7<|I2 rfl<|I2 rfl<|Q0<|Q8 ?_;refine⟨.inl rfl,_,rfl,?_⟩
   exact⟨by
    have: ¬cells.length<=256:=by simp at hb;omega
    unfold QfB QfC;rw[if_neg this,if_neg this];rfl,by
    have: ¬cells.length<=256:=by simp at hb;omega
    unfold Qbg;rw[if_neg this];exact⟨bs,S⟩⟩
 refine Q4 ?_;have hc6:cells.length<=256:=by simp at hb;omega
 refine Q7<|I1 rfl<|I1 rfl<|I1 rfl ?_;refine Qdq S el2 gn rfl rfl rfl bL (QcI cells) (by omega) (fun s' aa g S=>ag0) fun s' aa g S=>?_;obtain⟨sa,sc,rfl⟩:=Q6 (S.sl 0 rfl);refine I1 rfl<|I1 rfl<|Qq (zv:=.agg #[iV 0,iV 0,.slice none 0 0,iV 0,iV 0,iV 0]) (pl:=[(0,1),(1,1),(2,1),(3,1),(4,1),(5,1)]) [(0,_),(1,_),(2,_),(3,_),(4,_)] gn rfl (by kernel_rfl) (by kernel_rfl) rfl (by rfl)<|Ic [_,_] rfl rfl (C.mono (m103 (o:=⟨4,of,cells,site,b,0⟩) (vb:=aa) (v:=.slice sa cells.length sc) (SH.subL (A:=[_,_]) (B:=[]) S0 S0.own0 S)) ?_);rintro v g ⟨rfl,bs'',S2⟩
 have S:=SH.retL (A:=[_,_]) (B:=[]) S S2;refine⟨ag0,?_⟩;refine Ix rfl rfl<|Ix rfl rfl<|I2 rfl<|I2 rfl<|Q0<|Q8 ⟨.inl rfl,_,rfl,⟨by unfold QfB QfC;rw[if_pos hc6,if_pos hc6];rfl,bs'',by unfold Qbg;rw[if_pos hc6];exact S⟩⟩
end
def itC (L:List MItem):List Value:=L.flatMap fun x=>[iV x.task,.bool x.front,iV x.due]
def quL (qb:Nat) (L:List MItem) (s:Value) (nb:List Nat):List Res:=[cR qb (.cells [s] 101 0),slR 161 2 s (itC L) L.length nb]
def quR (qb:Nat) (L:List MItem) (bs:List Nat):Res:=Q3r (fun Ls=> ∃s nb,Ls=quL qb L s nb) bs
theorem Q6I: ∀l:List MItem,(itC l).length=l.length*3
 | []=>rfl
 | x::l=>by
   show([_,_,_]++itC l).length=_;rw[v0j,Q6I l];simp;omega
theorem Q5s: ∀(l:List MItem) (rest:List Value) (j:Nat) (x:MItem),l[j]?=some x->((itC l++rest).drop (j*3)).take 3=[iV x.task,.bool x.front,iV x.due]
 | x::l,rest,0,x',h=>by
   simp only[v0W,v0h.injEq]at h;subst h;rfl
 | x::l,rest,j+1,x',h=>by
   show(([_,_,_]++itC l++rest).drop ((j+1)*3)).take 3=_;rw[show(j+1)*3=3+j*3 by omega,v0F,<-List.drop_drop,List.drop_left' (by rfl)];exact Q5s l rest j x' (by simpa using h)
 | [],_,_,_,h=>by simp at h
theorem Qal (l m:List MItem):itC (l++m)=itC l++itC m:=by simp[itC]
theorem Q44: ∀(l:List MItem) (j:Nat),(itC l).take (j*3)=itC (l.take j)
 | [],j=>by simp[itC]
 |x::l,0=>by simp[itC]
 | x::l,j+1=>by
   show([_,_,_]++itC l).take ((j+1)*3)=[_,_,_]++itC (l.take j);rw[show(j+1)*3=j*3+1+1+1 by omega,<-Q44 l j];rfl
theorem Q45: ∀(l:List MItem) (j:Nat),(itC l).drop (j*3)=itC (l.drop j)
 | [],j=>by simp[itC]
 |x::l,0=>by simp
 | x::l,j+1=>by
   show([_,_,_]++itC l).drop ((j+1)*3)=itC (l.drop j);rw[show(j+1)*3=3+j*3 by omega,<-List.drop_drop,List.drop_left' (by rfl)];exact Q45 l j
theorem Q46 (l:List MItem):(itC l).all cellV=true:=by
 rw[v0u];intro v hv;obtain⟨x,_,hv⟩:=List.mem_flatMap.1 hv;simp only[v0r,List.not_mem_nil,or_false]at hv;rcases hv with rfl|rfl|rfl<;>rfl
theorem Q8M:ElN modE 99 161 2 23:=⟨by kernel_rfl,by kernel_rfl,by kernel_rfl,.agg #[.int .i64 0,.bool false,.int .i64 0],by kernel_rfl,rfl⟩
section
variable {h0 h:Hp} {ds:List Nat} {A:List Res} {qb:Nat} {L:List MItem} {bs:List Nat}
theorem Q9z (S:SH h0 ds (A++[quR qb L bs]) h): ∃s nb,owns (quL qb L s nb)=bs/\SH h0 ds (A++quL qb L s nb) h:=by
 obtain⟨Ls,⟨s,nb,rfl⟩,h2,h3⟩:=Q0u S;exact⟨s,nb,h2,h3⟩
theorem Q25 {s:Value} {nb:List Nat} (S:SH h0 ds (quL qb L s nb) h): ∃aa,SH h0 ds [quR qb L aa] h:=⟨_,Jg (A:=[]) S ⟨s,nb,rfl⟩⟩
theorem Qem (p:(quR qb L bs).P h): ∃a c nb,h.get qb=some (.cells [.slice a L.length c] 101 0)/\SlC 161 2 h (.slice a L.length c) (itC L) L.length nb:=by
 obtain⟨Ls,⟨s,nb,rfl⟩,_,hp⟩:=p;have h1:SlC 161 2 h s (itC L) L.length nb:=hp (slR 161 2 s (itC L) L.length nb) (by simp[quL]);have h0:h.get qb=some (.cells [s] 101 0):=hp (cR qb (.cells [s] 101 0)) (by simp[quL]);obtain⟨a,c,rfl⟩:=Q6 h1;exact⟨a,c,nb,h0,h1⟩
theorem Q9B {a:Option Addr} {c:Nat} {nb:List Nat} (x:SlC 161 2 h (.slice a L.length c) (itC L) L.length nb) (hl:0 <L.length): ∃b r m,a=some ⟨b,0,none⟩/\h.get b=some (.cells (itC L++r) 161 m)/\nb=[b]/\(m=0\/m=5):=by
 obtain⟨b,c',hv,hb,_⟩:=Q03 x hl;obtain⟨rfl,rfl⟩:a=some ⟨b,0,none⟩/\c=c':=by simpa using hv
 rcases x with⟨h1,_⟩| ⟨b',m,c',r,h1,h2,h3,_⟩
 · cases h1
 cases h1;exact⟨b,r,m,rfl,h2,hb,h3⟩
theorem it_at {j:Nat} {x:MItem} (h:L[j]?=some x):Ke L j=x:=by
 unfold Ke;rw[v0i,h];rfl
end
section
variable {h0 h:Hp} {qb:Nat} {L:List MItem} {bs:List Nat} {t now:Int}
theorem m71 (p:(quR qb L bs).P h) (hL:L.length<=1000000):CP modE 86 [Qk qb,iV t] h (iV (ofQ L t)):=by
 obtain⟨a,c,nb,hq,hr⟩:=Qem p;refine Q9 (fu:=Tryz.f86) (by kernel_rfl) rfl ?_;refine Q7<|I2 rfl<|Z8<|I2 rfl<|Q0<|Qb<|Q1J [(0,Qk qb),(1,iV t),(5,iV 0)] (by repeat(first|exact trivial|refine⟨rfl,?_⟩)) ?_;refine Q8Y (fun k l hh=> ∃i:Nat,i<=L.length/\k=L.length -i/\hh=h/\l=[(0,Qk qb),(1,iV t),(5,iV i)]/\ ∀j (hj:j <L.length),j <i->L[j].task≠t) (n:=L.length) ?_ fun k l hh hI=>?_
 · exact⟨0,v0s _,rfl,rfl,rfl,fun j _ hj=>by omega⟩
 obtain⟨i,hi,rfl,rfl,rfl,hs⟩:=hI;refine Q5<|Q7<|I1 rfl<|I1 rfl<|I6 rfl<|I0 0 rfl<|I4 rfl hq rfl<|I7 rfl<|Il rfl rfl<|Q0<|Q2 rfl (fun hb=>?_) fun hb=>?_
 · skip
   refine Q4 ?_;have hi:i <L.length:=by simp at hb;omega
   obtain⟨b,r,m,rfl,bC,_,_⟩:=Q9B hr (by omega);have k0:(itC L++r)[0+v0f (i:Int)*3+0]?=some (iV L[i].task):=by rw[v0i,v0e];exact Qs (Q5s _ _ _ _ (v0c hi)) (by omega) rfl
   refine Q5<|Qb<|Q7<|I1 rfl<|I6 rfl<|I0 0 rfl<|I4 rfl hq rfl<|I1 rfl<|I5o 3 rfl rfl<|I0 0 rfl<|I4 rfl bC k0<|I1 rfl<|Ie rfl rfl<|Q0<|Q2 rfl (fun hb=>?_) fun hb=>?_
   · skip
     refine Q7<|I1 rfl<|I2 rfl<|Q0<|Q8 ?_;refine⟨.inl rfl,_,rfl,?_⟩
     exact⟨by
      have:L[i].task=t:=by simpa using hb
      rw[Qce hi this hs];rfl,rfl⟩
   refine Q4<|Q3 (by kernel_rfl)<|I1 rfl<|Iao rfl rfl<|I2 rfl<|Q0 ?_
   exact⟨(L.length - (i+1)),by omega,_,(by repeat(first|exact trivial|refine⟨rfl,?_⟩)),⟨i+1,by omega,rfl,rfl,rfl,fun j hj nv=>by
    by_cases e:j=i
    · subst e;simpa using hb
    exact hs j hj (by omega)⟩⟩
 refine QF<|Qh<|Qn<|QE<|Q7<|I2 rfl<|Q0<|Q8 ?_;refine⟨.inl rfl,_,rfl,?_⟩
 exact⟨by
  rw[Q7C];rfl;intro x hx;obtain⟨j,hj,rfl⟩:=v0N.1 hx
  exact hs j hj (by simp at hb;omega),rfl⟩
end
section
variable {h0 h:Hp} {qb:Nat} {L:List MItem} {bs:List Nat} {t now:Int}
theorem Q9A (p:Held (quR qb L bs) h): ∃a c nb,h.get qb=some (.cells [.slice a L.length c] 101 0)/\qb <h.n/\SlC 161 2 h (.slice a L.length c) (itC L) L.length nb/\ ∀i,i∈nb->i <h.n:=by
 obtain⟨⟨Ls,⟨s,nb,rfl⟩,ho,hp⟩,hl⟩:=p;have h1:SlC 161 2 h s (itC L) L.length nb:=hp (slR 161 2 s (itC L) L.length nb) (by simp[quL]);have h0:h.get qb=some (.cells [s] 101 0):=hp (cR qb (.cells [s] 101 0)) (by simp[quL]);obtain⟨a,c,rfl⟩:=Q6 h1;refine⟨a,c,nb,h0,hl qb ?_,h1,fun i hi=>hl i ?_⟩
 · show qb∈bs;rw[<-ho];simp[quL,owns,cR]
 show i∈bs;rw[<-ho];simp[quL,owns,cR,slR,hi]
theorem m72 (p:Held (quR qb L bs) h) (hL:L.length<=1000000):C modE 87 [Qk qb] h fun v h'=>v=iV (Z7 L)/\Ext h h':=by
 obtain⟨a,c,nb,hq,cM,hr,dy⟩:=Q9A p;refine Q9 (fu:=Tryz.f87) (by kernel_rfl) rfl ?_;have S:=SH.start h;refine Q7<|I2 rfl<|QP<|I2 rfl<|Z8<|I2 rfl<|Q0<|Qb<|QB [(3,_),(4,_)] [(0,_)] (fun kk lv hh=> ∃i:Nat,lv=[(3,iV (Qu L i)),(4,iV i)]/\kk=L.length -i/\i<=L.length/\SH h [] [] hh) (n:=L.length) ?_ fun kk lv hh hI=>?_
 · exact⟨0,rfl,rfl,v0s _,S⟩
 obtain⟨i,rfl,iS,hi,S⟩:=hI;refine Q5<|Q7<|I1 rfl<|I1 rfl<|I6 rfl<|I0 0 rfl<|I4 rfl (S.old0 hq cM) rfl<|I7 rfl<|Il rfl rfl<|Q0<|Q2 rfl (fun hb=>?_) fun hb=>?_
 · skip
   refine Q4 ?_;have hi:i <L.length:=by simp at hb;omega
   obtain⟨b,r,m,rfl,bC,rfl,_⟩:=Q9B hr (by omega);have dR:=dy b (by simp);have k0:((itC L++r).drop (0+v0f (i:Int)*3)).take 3=[iV L[i].task,.bool L[i].front,iV L[i].due]:=by rw[v0i,v0e];exact Q5s _ _ _ _ (v0c hi)
   have cP:(itC L++r).length=L.length*3+r.length:=by rw[v0j,Q6I]
   have hxi:Ke L i=L[i]:=it_at (v0c hi);refine Q5<|Qb<|Q7<|I1 rfl<|I6 rfl<|I0 0 rfl<|I4 rfl (S.old0 hq cM) rfl<|I1 rfl<|I5o 3 rfl rfl<|Zb (n:=3) gn rfl rfl (by kernel_rfl) (by kernel_rfl) (S.old0 bC dR) (by rw[cP,v0i];omega) ?_;rw[k0];refine Qx (zv:=.agg #[iV 0,.bool false,iV 0]) S gn rfl (by kernel_rfl) fun b1 g aJ S=>?_;refine Qi (n:=3) 0 S gn rfl rfl (by kernel_rfl) (by kernel_rfl) rfl rfl (by decide) rfl (fun g S=>ag0) fun g S=>?_;refine Z8<|I1 rfl<|Il rfl rfl<|Q0 ?_
   refine Q2 rfl (fun hb=>?_) fun hb=>?_
   · skip
     refine Q7<|I1 rfl<|I2 rfl<|Q0<|QF<|Qh<|QE<|Q3 (by kernel_rfl)<|I1 rfl<|Iao rfl rfl<|I2 rfl<|Q0 ?_
     exact K3 (L.length - (i+1)) [(3,_),(4,_)] (p:=⟨i+1,by
      have:Qu L i <0:=by simpa using hb
      unfold Qu;rw[if_pos this];rfl,rfl,by omega,S.drop⟩)
   refine Q4 ?_;have gN: ¬Qu L i <0:=by simpa using hb
   have jz:=Kh L i (by omega);have gM:(Qu L i).toNat <L.length:=by omega
   have k1:((itC L++r).drop (0+v0f (Qu L i)*3)).take 3=[iV L[(Qu L i).toNat].task,.bool L[(Qu L i).toNat].front,iV L[(Qu L i).toNat].due]:=by rw[v0e];exact Q5s _ _ _ _ (v0c gM)
   have hxf:Ke L (Qu L i)=L[(Qu L i).toNat]:=by unfold Ke;rw[v0c gM];rfl
   refine Q7<|I1 rfl<|I6 rfl<|I0 0 rfl<|I4 rfl (S.old0 hq cM) rfl<|I1 rfl<|I5o 3 rfl rfl<|Zb (n:=3) gn rfl rfl (by kernel_rfl) (by kernel_rfl) (S.old0 bC dR) (by rw[cP];omega) ?_;rw[k1];refine Qx (zv:=.agg #[iV 0,.bool false,iV 0]) S gn rfl (by kernel_rfl) fun b2 g bK S=>?_;refine Qi (n:=3) 0 S gn rfl rfl (by kernel_rfl) (by kernel_rfl) rfl rfl (by decide) rfl (fun g S=>ag0) fun g S=>?_;refine QP<|I0 1 rfl<|I4 rfl (S.cel 1 rfl) rfl<|I1 rfl ?_
   refine Z4 (n:=10) rfl rfl rfl gn rfl (fun hb=>by
    refine D0 1 hb rfl<|D4 hb rfl (S.cel 0 rfl) rfl<|Db hb rfl<|D1 hb rfl ?_
    refine QY (n:=5) rfl rfl rfl (gy rfl rfl rfl hb) rfl (fun hb=>by
     refine D0 2 hb rfl<|D4 hb rfl (S.cel 1 rfl) rfl<|D0 2 hb rfl<|D4 hb rfl (S.cel 0 rfl) rfl<|Dl hb rfl rfl ?_
     exact Q0 ⟨rfl,rfl,5,rfl,rfl⟩) ?_
    exact Q0 ⟨rfl,rfl,5,rfl,rfl⟩) ?_
   refine Q0<|Q2 rfl (fun hb=>?_) fun hb=>?_
   · skip
     refine Q3 (by kernel_rfl)<|I1 rfl<|I2 rfl<|Q0<|Q3 (by kernel_rfl)<|I1 rfl<|Iao rfl rfl<|I2 rfl<|Q0 ?_
     exact K3 (L.length - (i+1)) [(3,_),(4,_)] (p:=⟨i+1,by
      have:K7 (Ke L i) (Ke L (Qu L i))=true:=by unfold K7;rw[hxi,hxf];exact hb
      conv=>rhs;unfold Qu
      rw[if_neg gN,if_pos this];rfl,rfl,by omega,S.drop.drop⟩)
   refine Q4<|Q3 (by kernel_rfl)<|I1 rfl<|Iao rfl rfl<|I2 rfl<|Q0 ?_
   exact K3 (L.length - (i+1)) [(3,_),(4,_)] (p:=⟨i+1,by
    have:K7 (Ke L i) (Ke L (Qu L i))=false:=by unfold K7;rw[hxi,hxf];exact hb
    conv=>rhs;unfold Qu
    rw[if_neg gN,if_neg (by rw[this];decide)];rfl,rfl,by omega,S.drop.drop⟩)
 refine QF<|Qh<|Qn<|QE<|Q7<|I1 rfl<|I2 rfl<|Q0<|Q8 ?_;refine⟨.inl rfl,_,rfl,?_⟩
 exact⟨by
  have:i=L.length:=by simp at hb;omega
  unfold Z7;rw[<-this];rfl,S.e0⟩
abbrev itV (x:MItem):Value:=.agg #[iV x.task,.bool x.front,iV x.due]
theorem it_k {r:List Value} {i:Int} (h0:0<=i) (h1:i <L.length):((itC L++r).drop (0+v0f i*3)).take 3=[iV (Ke L i).task,.bool (Ke L i).front,iV (Ke L i).due]:=by
 have hj:i.toNat <L.length:=by omega
 have:Ke L i=L[i.toNat]:=by unfold Ke;rw[v0c hj];rfl
 rw[this,v0e];exact Q5s _ _ _ _ (v0c hj)
theorem m51 (p:Held (quR qb L bs) h) (hL:L.length<=1000000):C modE 56 [Qk qb,iV now] h fun v h'=>v=.tuple #[itV (Zq L now),.bool (Q2P L now)]/\Ext h h':=by
 obtain⟨a,c,nb,hq,cM,hr,dy⟩:=Q9A p;have jz:=Kh L L.length (v0b _);refine YW (fu:=Tryz.f56) (by kernel_rfl) rfl ?_;have S:=SH.start h;refine Q7 ?_;refine Qx (zv:=.agg #[iV 0,.bool false,iV 0]) S gn rfl (by kernel_rfl) fun b1 g aJ S=>?_;refine I2 rfl<|QP<|I1 rfl<|Ic [_] rfl rfl (C.mono (m72 (p.ext S.e0) hL) ?_);rintro v g ⟨rfl,x⟩;have S:=S.grow x;refine⟨ag0,?_⟩;refine I2 rfl<|Z8<|I1 rfl<|Il rfl rfl<|I1 rfl ?_;have hf: -1<=Z7 L/\Z7 L <L.length:=by unfold Z7;omega
 refine Z4 (n:=21) rfl rfl rfl gn rfl (fun hb=>by
  have gN: ¬Z7 L <0:=by simpa using hb
  obtain⟨b,r,m,cO,bC,dP,_⟩:=Q9B hr (by omega);have dR:=dy b (by rw[dP];simp);have k0:=Qs (f:=1) (it_k (L:=L) (r:=r) (i:=Z7 L) (by omega) (by omega)) (by omega) rfl;have k1:=Qs (f:=2) (it_k (L:=L) (r:=r) (i:=Z7 L) (by omega) (by omega)) (by omega) rfl;refine D1 hb rfl<|D6 hb rfl<|D0 0 hb rfl<|D4 hb rfl (S.old0 hq cM) rfl<|D1 hb rfl ?_;rw[cO];refine D5o 3 hb rfl rfl ?_;rw[<-cO];refine D0 1 hb rfl<|D4 hb rfl (S.old0 bC dR) k0<|Db hb rfl<|D1 hb rfl ?_
  refine QY (n:=10) rfl rfl rfl (gy rfl rfl rfl hb) rfl (fun hb=>by
   refine D1 hb rfl<|D6 hb rfl<|D0 0 hb rfl<|D4 hb rfl (S.old0 hq cM) rfl<|D1 hb rfl ?_;rw[cO];refine D5o 3 hb rfl rfl ?_;rw[<-cO];refine D0 2 hb rfl<|D4 hb rfl (S.old0 bC dR) k1<|D1 hb rfl<|Dg hb rfl rfl ?_
   exact Q0 ⟨rfl,rfl,10,rfl,rfl⟩) ?_
  exact Q0 ⟨rfl,rfl,11,rfl,rfl⟩) ?_
 refine Q0<|Q2 rfl (fun hb=>?_) fun hb=>?_
 · skip
   refine Q7<|Qq (zv:=.agg #[iV 0,.bool false,iV 0]) (pl:=[(0,1),(1,1),(2,1)]) [] gn rfl (by kernel_rfl) (by kernel_rfl) rfl (by rfl) ?_;refine Qi (n:=3) 0 S gn rfl rfl (by kernel_rfl) (by kernel_rfl) rfl rfl (by decide) rfl (fun g S=>ag0) fun g S=>?_;refine I2 rfl<|Q0<|Q8 ?_;refine⟨.inl rfl,_,(Zn rfl (by kernel_rfl) (by kernel_rfl) (S.cel 0 rfl) rfl (Yv rfl rfl)),?_⟩
   exact⟨by
    have:Q2P L now=false:=by unfold Q2P;rw[hb];rfl
    unfold Zq;rw[this];rfl,S.e0⟩
 refine Q4 ?_;have nJ:Q2P L now=true:=by unfold Q2P;rw[hb];rfl
 have gN: ¬Z7 L <0:=by
  intro e;rw[decide_eq_true e]at hb;cases hb
 have hf: -1<=Z7 L/\Z7 L <L.length:=by unfold Z7;omega
 obtain⟨b,r,m,rfl,bC,rfl,_⟩:=Q9B hr (by omega);have dR:=dy b (by simp);have k0:=it_k (L:=L) (r:=r) (i:=Z7 L) (by omega) (by omega);refine Q7<|I1 rfl<|I6 rfl<|I0 0 rfl<|I4 rfl (S.old0 hq cM) rfl<|I1 rfl<|I5o 3 rfl rfl<|Zb (n:=3) gn rfl rfl (by kernel_rfl) (by kernel_rfl) (S.old0 bC dR) (by rw[v0j,Q6I];omega) ?_;rw[k0];refine Qi (n:=3) 0 S gn rfl rfl (by kernel_rfl) (by kernel_rfl) rfl rfl (by decide) rfl (fun g S=>ag0) fun g S=>?_;refine I2 rfl<|Q0<|Q8 ?_
 refine⟨.inl rfl,_,(Zn rfl (by kernel_rfl) (by kernel_rfl) (S.cel 0 rfl) rfl (Yv rfl rfl)),?_⟩;exact⟨by unfold Zq;rw[if_pos nJ,nJ];rfl,S.e0⟩
theorem m50 {x:MItem} (S0:SH h0 [] [quR qb L bs] h) (hL:L.length<=1000000):C modE 55 [Qk qb,itV x] h fun v g'=>v=iV (putE L x)/\ ∃aa,SH h bs [quR qb (Q4z L x) aa] g':=by
 have SE:=S0.enter;have p:=S0.held 0 rfl;obtain⟨s,nb,aj,S1⟩:=Q9z (A:=[]) SE;obtain⟨a,c,rfl⟩:=Q6 (S1.sl 1 rfl);have S1:SH h bs [cR qb (.cells [.slice a L.length c] 101 0),slR 161 2 (.slice a L.length c) (itC L) L.length nb] h:=S1;refine Q9 (fu:=Tryz.f55) (by kernel_rfl) rfl ?_;have S:=S1;refine Q7 ?_;refine Z9 S gn rfl rfl fun b1 g aJ S=>?_;refine I2 rfl<|Z8<|I0 0 rfl<|I4 rfl (S.cel 0 rfl) rfl<|Il rfl rfl<|I1 rfl ?_
 refine Z4 (n:=3) rfl rfl rfl gn rfl (fun hb=>by
  refine D0 2 hb rfl<|D4 hb rfl (S.cel 0 rfl) rfl<|Dl hb rfl rfl ?_
  exact Q0 ⟨rfl,rfl,3,rfl,rfl⟩) ?_
 refine Q0<|Q2 rfl (fun hb=>?_) fun hb=>?_
 · skip
   refine Q7<|I2 rfl<|Q0<|Q8 ?_;refine⟨.inl rfl,_,rfl,?_⟩
   exact⟨by unfold putE;rw[if_pos hb];rfl,by
    have:Qdr L x=false:=by unfold Qdr;rw[show(decide (x.task <0)||decide (x.due <0))=true from hb];rfl
    unfold Q4z;rw[this];exact Q25 S.drop⟩
 refine Q4 ?_;have fQ:(decide (x.task <0)||decide (x.due <0))=false:=hb
 have pq:(quR qb L bs).P g:=⟨quL qb L (.slice a L.length c) nb,⟨_,_,rfl⟩,aj,fun r hr=>by
  have hr:r∈[cR qb (.cells [.slice a L.length c] 101 0),slR 161 2 (.slice a L.length c) (itC L) L.length nb]:=hr
  exact S.drop.hold r hr⟩
 refine Q5<|Q7<|I1 rfl<|I0 0 rfl<|I4 rfl (S.cel 0 rfl) rfl<|Ic [_,_] rfl rfl (Ql (m71 pq hL) ⟨ag0,?_⟩);refine Ih rfl rfl<|Q0<|Q2 rfl (fun hb=>?_) fun hb=>?_
 · skip
   refine Q7<|I2 rfl<|Q0<|Q8 ?_;refine⟨.inl rfl,_,rfl,?_⟩
   exact⟨by
    have h2:0<=ofQ L x.task:=by simpa using hb
    unfold putE;rw[if_neg (by rw[fQ];decide),if_pos h2];rfl,by
    have h2:0<=ofQ L x.task:=by simpa using hb
    have:Qdr L x=false:=by unfold Qdr;rw[decide_eq_false (by omega: ¬ofQ L x.task <0),v0Y]
    unfold Q4z;rw[this];exact Q25 S.drop⟩
 refine Q4 ?_;have h2:ofQ L x.task <0:=by simp at hb;omega
 have hput:Qdr L x=true:=by unfold Qdr;rw[fQ,decide_eq_true h2];rfl
 have hsr:=(S.sl 2 rfl).src;refine Q5<|Yq [(0,[]),(1,[]),(2,[]),(3,[]),(4,[]),(6,[]),(7,[]),(5,[6]),(8,[]),(9,[]),(10,[]),(11,[])] (by kernel_rfl) (by kernel_rfl) (by kernel_rfl) (by kernel_rfl)<|I1 rfl<|I1 rfl<|I6 rfl<|I0 0 rfl<|I4 rfl (S.cel 1 rfl) rfl<|I3 3 rfl (S.cel 0 rfl) (v0b _) ?_;refine Qc (cs:= #[iV x.task,.bool x.front,iV x.due]) (e:=161) (z:=2) (zv:=.agg #[iV 0,.bool false,iV 0]) [(0,_)] S gn rfl (by kernel_rfl) (by kernel_rfl) (by kernel_rfl) (by kernel_rfl) rfl (by kernel_rfl) fun b2 g bK S=>?_
 refine Q9o S Q8M gn rfl rfl rfl (S.sl 3 rfl).src (Q46 L) (by omega) (fun s' aa g _ S=>ag1 (Q1H (n:=3) gn rfl (by kernel_rfl) (by kernel_rfl) (S.cel 2 rfl) (v0b _) rfl (by show sameV 20 (itV x) (itV x)=true;simp[sameV,sameV.sameL,KF])) ag0) fun s' aa g _ S=>?_;have S:=S.toC 0 rfl;refine QM (e:=161) (z:=2) (by':=23) 0 1 S Q8M gn rfl rfl rfl rfl rfl rfl (by rfl) (by omega) (fun s' aa g S=>ag0) fun s' aa g S=>?_;obtain⟨sa,sc,rfl⟩:=Q6 (S.sl 0 rfl);refine I6 rfl<|I0 0 rfl ?_;refine Qg 3 S gn rfl rfl rfl (by kernel_rfl) rfl (by decide) (by exact Nat.zero_lt_one) (fun g S=>ag0) fun g S=>?_;refine QP<|I2 rfl<|Q0 ?_
 refine Q8 ?_;refine⟨.inl rfl,_,rfl,?_⟩
 exact⟨by unfold putE;rw[if_neg (by rw[fQ];decide),if_neg (by omega)];rfl,by
  unfold Q4z;rw[if_pos hput];have S2:=(SH.fst (A:=[_,_]) (B:=[_,_,_]) (S.ordr [3,0,1,2,4] 5 rfl (by decide)));refine Q25 (s:=.slice sa (L.length+1) sc) (nb:=aa) ?_
  have e:quL qb (L++[x]) (.slice sa (L.length+1) sc) aa=[cR qb (.cells [.slice sa (L.length+1) sc] 101 0),slR 161 2 (.slice sa (L.length+1) sc) (itC L++[iV x.task,.bool x.front,iV x.due]) (L.length+1) aa]:=by
   unfold quL;rw[Qal,v0j];rfl
  rw[e];exact S2⟩
theorem m74 (S0:SH h0 [] [quR qb L bs] h) (hL:L.length<=1000000):C modE 89 [Qk qb,iV t] h fun v g'=>v=.bool (decide (0<=ofQ L t))/\ ∃aa,SH h bs [quR qb (Q3p L t) aa] g':=by
 have SE:=S0.enter;have p:=S0.held 0 rfl;obtain⟨s,nb,aj,S1⟩:=Q9z (A:=[]) SE;obtain⟨a,c,rfl⟩:=Q6 (S1.sl 1 rfl);have S1:SH h bs [cR qb (.cells [.slice a L.length c] 101 0),slR 161 2 (.slice a L.length c) (itC L) L.length nb] h:=S1;refine Q9 (fu:=Tryz.f89) (by kernel_rfl) rfl ?_;have S:=S1;refine Q7<|I2 rfl<|QP<|I1 rfl<|I1 rfl<|Ic [_,_] rfl rfl (Ql (m71 p.1 hL) ⟨ag0,?_⟩);refine I2 rfl<|Z8<|I1 rfl<|Il rfl rfl<|Q0<|Q2 rfl (fun hb=>?_) fun hb=>?_
 · skip
   refine Q7<|I2 rfl<|Q0<|Q8 ?_;refine⟨.inl rfl,_,rfl,?_⟩
   exact⟨by
    have h2: ¬0<=ofQ L t:=by simp at hb;omega
    rw[decide_eq_false h2];rfl,by
    have h2: ¬0<=ofQ L t:=by simp at hb;omega
    unfold Q3p;rw[if_neg h2];exact Q25 S⟩
 refine Q4 ?_;have h2:0<=ofQ L t:=by simp at hb;omega
 obtain⟨cZ,_⟩:=Qdw h2;have jB:decide (0<=ofQ L t)=true:=decide_eq_true h2;have hdr:Q3p L t=L.eraseIdx (ofQ L t).toNat:=if_pos h2;rw[hdr,jB];obtain⟨j,hj⟩: ∃j:Nat,ofQ L t=j:=⟨_,(Int.toNat_of_nonneg h2).symm⟩;rw[hj]at cZ ⊢;rw[v0i]at cZ ⊢;obtain⟨b,r,m,rfl,bC,rfl,hm5⟩:=Q9B (S.sl 1 rfl) (by omega);have S1x:=S;obtain⟨fv,hsm,hF⟩:=Q8g (j:=j+1) Q8M (S.sl 1 rfl) (by omega);refine Q5 ?_
 refine Yq [(0,[]),(1,[]),(2,[]),(3,[]),(4,[]),(5,[]),(6,[]),(8,[]),(9,[]),(10,[]),(11,[]),(12,[]),(13,[]),(14,[]),(7,[11,13,14]),(15,[]),(16,[]),(17,[]),(18,[])] (by kernel_rfl) (by kernel_rfl) (by kernel_rfl) (by kernel_rfl)<|I1 rfl<|I1 rfl<|I6 rfl<|I0 0 rfl<|I4 rfl (S.cel 0 rfl) rfl<|I1 rfl<|Q39 Q8M gn rfl rfl rfl bC hm5 (by omega) (by have:=(Q9i (S.sl 1 rfl)).choose_spec;have:=(Q9i (S.sl 1 rfl)).choose_spec.choose_spec.2.2;omega)<|I1 rfl<|I6 rfl<|I0 0 rfl<|I4 rfl (S.cel 0 rfl) rfl<|I1 rfl<|Iao rfl rfl ?_
 refine Qcj gn rfl rfl rfl (hF _ (fun _ _=>rfl)).1 ?_;refine Q9o S Q8M gn rfl rfl rfl (Q6b (S.sl 1 rfl) (by omega)) (by rw[Q44];exact Q46 _) (by omega) (fun s' aa g x S=>ag1 (ZO gn rfl (by kernel_rfl) (S.cel 1 rfl) rfl rfl K8) (ag1 (ag_add gn rfl rfl (by omega) (by omega) rfl) (ag1 (Qbv gn rfl rfl (hF g (fun i hi=>x.get i (S1x.lt i (by simp[owns,cR,slR];exact .inr (by simpa using hi))))).1 rfl hsm) ag0))) fun s' aa g x S=>?_;refine Q9p 0 S Q8M gn rfl rfl rfl rfl (hF g (fun i hi=>x.get i (S1x.lt i (by simp[owns,cR,slR];exact .inr (by simpa using hi))))).2 (by rw[Q45];exact Q46 _) (by omega) (fun s' aa g S=>ag0) fun s' aa g S=>?_;have S:=S.toC 0 rfl
 obtain⟨sa,sc,rfl⟩:=Q6 (S.sl 0 rfl);refine I6 rfl<|I0 0 rfl ?_;refine Qg 1 S gn rfl rfl rfl (by kernel_rfl) rfl (by decide) (by exact Nat.zero_lt_one) (fun g S=>ag0) fun g S=>?_;refine QP<|I2 rfl<|Q0<|Q8 ?_;refine⟨.inl rfl,_,rfl,?_⟩
 exact⟨rfl,by
  have S2:=(SH.fst (A:=[_,_]) (B:=[_]) (S.ordr [1,0,2] 3 rfl (by decide)));have el:L.eraseIdx j=L.take j++L.drop (j+1):=List.eraseIdx_eq_take_drop_succ ..;have en:(L.eraseIdx j).length=j+(L.length - (j+1)):=by rw[el];simp;omega
  refine Q25 (s:=.slice sa (j+(L.length - (j+1))) sc) (nb:=aa) ?_
  have e:quL qb (L.eraseIdx j) (.slice sa (j+(L.length - (j+1))) sc) aa=[cR qb (.cells [.slice sa (j+(L.length - (j+1))) sc] 101 0),slR 161 2 (.slice sa (j+(L.length - (j+1))) sc) ((itC L).take (j*3)++(itC L).drop ((j+1)*3)) (j+(L.length - (j+1))) aa]:=by
   unfold quL;rw[en,el,Qal,Q44,Q45]
  rw[e];exact S2⟩
theorem m54 (S0:SH h0 [] [quR qb L bs] h) (hL:L.length<=1000000):C modE 59 [Qk qb,iV now] h fun v g'=>v=.tuple #[itV (Zq L now),.bool (Q2P L now)]/\ ∃aa,SH h bs [quR qb (tkQ L now) aa] g':=by
 have SE:=S0.enter;refine YW (fu:=Tryz.f59) (by kernel_rfl) rfl ?_;have S:=SE;refine Q7 ?_;refine Qx (zv:=.agg #[iV 0,.bool false,iV 0]) S gn rfl (by kernel_rfl) fun b1 g aJ S=>?_;refine I2 rfl<|QP<|I1 rfl<|I1 rfl<|Ic [_,_] rfl rfl (C.mono (m51 (S.held 1 rfl) hL) ?_);rintro v g ⟨rfl,x⟩;have S:=S.grow x;refine⟨ag0,?_⟩;refine I1 rfl<|Ix rfl rfl<|Ix rfl rfl ?_;refine Qx (zv:=.agg #[iV 0,.bool false,iV 0]) S gn rfl (by kernel_rfl) fun b2 g bK S=>?_;refine Qi (n:=3) 0 S gn rfl rfl (by kernel_rfl) (by kernel_rfl) rfl rfl (by decide) rfl (fun g S=>ag0) fun g S=>?_;refine I2 rfl<|Z8 ?_
 refine I1 rfl<|Q0<|Q2 rfl (fun hb=>?_) fun hb=>?_
 · skip
   refine Q3 (by kernel_rfl)<|I1 rfl<|I0 0 rfl<|I4 rfl (S.cel 0 rfl) rfl<|Ic [_,_] rfl rfl (C.mono (m74 (SH.sub1 S0 S0.own0 S 2 rfl) hL) ?_);rintro v g ⟨rfl,aa,S2⟩;have S:=S.ret 2 rfl S2;have S:SH h bs [cR b2 (.cells [iV (Zq L now).task,.bool (Zq L now).front,iV (Zq L now).due] 161 0),cR b1 (.cells [iV 0,.bool false,iV 0] 161 0),quR qb (Q3p L (Zq L now).task) aa] g:=S;refine⟨ag0,?_⟩;refine QP<|I3 3 rfl (S.cel 0 rfl) (v0b _)<|I1 rfl ?_;refine Qi (n:=3) 1 S gn rfl rfl (by kernel_rfl) (by kernel_rfl) rfl rfl (by decide) rfl (fun g S=>ag0) fun g S=>?_;refine I2 rfl<|Q0<|Q8 ?_
   refine⟨.inl rfl,_,(Zn rfl (by kernel_rfl) (by kernel_rfl) (S.cel 1 rfl) rfl (Yv rfl rfl)),?_⟩
   exact⟨by rw[show Q2P L now=true from hb];rfl,by
    unfold tkQ;rw[if_pos (show Q2P L now=true from hb)]
    exact⟨_,S.drop.drop⟩⟩
 refine Q4<|Q7<|I3 3 rfl (S.cel 0 rfl) (v0b _)<|I1 rfl ?_;refine Qi (n:=3) 1 S gn rfl rfl (by kernel_rfl) (by kernel_rfl) rfl rfl (by decide) rfl (fun g S=>ag0) fun g S=>?_;refine I2 rfl<|Q0<|Q8 ?_;refine⟨.inl rfl,_,(Zn rfl (by kernel_rfl) (by kernel_rfl) (S.cel 1 rfl) rfl (Yv rfl rfl)),?_⟩
 exact⟨by rw[show Q2P L now=false from hb];rfl,by
  unfold tkQ;rw[if_neg (by rw[show Q2P L now=false from hb];decide)]
  exact⟨_,S.drop.drop⟩⟩
end
abbrev bsV (l:List Bool):List Value:=l.map Value.bool
def lvL (vb:Nat) (K:List Int) (E:List Bool) (s u:Value) (cb eb:List Nat):List Res:=[cR vb (.cells [s,u] 155 0),slR 3 0 s (isV K) K.length cb,slR 4 0 u (bsV E) E.length eb]
def lvR (vb:Nat) (K:List Int) (E:List Bool) (bs:List Nat):Res:=Q3r (fun Ls=> ∃s u cb eb,Ls=lvL vb K E s u cb eb) bs
theorem el3:ElN modE 39 3 0 7:=⟨by kernel_rfl,by kernel_rfl,by kernel_rfl,.int .i64 0,by kernel_rfl,rfl⟩
theorem el4:ElN modE 94 4 0 0:=⟨by kernel_rfl,by kernel_rfl,by kernel_rfl,.bool false,by kernel_rfl,rfl⟩
theorem Qdc (l:List Bool):(bsV l).all cellV=true:=by
 rw[v0u];intro v hv;obtain⟨k,_,rfl⟩:=List.mem_map.1 hv;rfl
section
variable {h0 h:Hp} {ds:List Nat} {A:List Res} {vb:Nat} {K:List Int} {E:List Bool} {bs:List Nat}
theorem Qaa (S:SH h0 ds (A++[lvR vb K E bs]) h): ∃s u cb eb,owns (lvL vb K E s u cb eb)=bs/\SH h0 ds (A++lvL vb K E s u cb eb) h:=by
 obtain⟨Ls,⟨s,u,cb,eb,rfl⟩,h2,h3⟩:=Q0u S;exact⟨s,u,cb,eb,h2,h3⟩
theorem Q0T {s u:Value} {cb eb:List Nat} (S:SH h0 ds (lvL vb K E s u cb eb) h): ∃aa,SH h0 ds [lvR vb K E aa] h:=⟨_,Jg (A:=[]) S ⟨s,u,cb,eb,rfl⟩⟩
theorem Qa9 (p:(lvR vb K E bs).P h): ∃a c a' c',h.get vb=some (.cells [.slice a K.length c,.slice a' E.length c'] 155 0)/\RowV h (.slice a K.length c) (isV K)/\RowV h (.slice a' E.length c') (bsV E):=by
 obtain⟨Ls,⟨s,u,cb,eb,rfl⟩,_,hp⟩:=p;have h1:SlC 3 0 h s (isV K) K.length cb:=hp (slR 3 0 s (isV K) K.length cb) (by simp[lvL]);have h2:SlC 4 0 h u (bsV E) E.length eb:=hp (slR 4 0 u (bsV E) E.length eb) (by simp[lvL]);have h0:h.get vb=some (.cells [s,u] 155 0):=hp (cR vb (.cells [s,u] 155 0)) (by simp[lvL]);obtain⟨a,c,rfl⟩:=Q6 h1;obtain⟨a',c',rfl⟩:=Q6 h2;exact⟨a,c,a',c',h0,h1.row,h2.row⟩
end
theorem Q0Y (l m:List Int):isV (l++m)=isV l++isV m:=List.map_append ..
theorem KZ {α:Type} {l:List α} {i:Int}:inL l i=true↔0<=i/\i <l.length:=by simp[inL]
section
variable {h0 h:Hp} {vb:Nat} {K:List Int} {E:List Bool} {bs:List Nat} {c w e:Int}
theorem m80:CP modE 95 [iV c,iV w] h (.bool (Q0e c w)):=by
 refine Q9 (fu:=Tryz.f95) (by kernel_rfl) rfl ?_;refine Q7<|I2 rfl<|Z8<|I1 rfl<|Q0<|Qb<|Q7<|Ie rfl rfl<|I2 rfl<|Q0<|Q2 rfl (fun hb=>?_) fun hb=>?_
 · skip
   refine Q7<|I1 rfl<|Ie rfl rfl<|I2 rfl<|Q0<|Q8 ⟨.inl rfl,_,rfl,⟨by unfold Q0e;rw[if_pos (by simpa using hb)];rfl,rfl⟩⟩
 refine Q7<|Ie rfl rfl<|I2 rfl<|Q0<|Q2 rfl (fun hb=>?_) fun hb=>?_
 · skip
   refine Q7<|I1 rfl<|Ie rfl rfl<|I1 rfl ?_
   refine Z4 (n:=2) rfl rfl rfl gn rfl (fun hb=>by
    refine D1 hb rfl<|De hb rfl rfl ?_
    exact Q0 ⟨rfl,rfl,2,rfl,rfl⟩) ?_
   refine I2 rfl<|Q0<|Q8 ⟨.inl rfl,_,rfl,⟨by simp at*;unfold Q0e;simp[*];rfl,rfl⟩⟩
 refine Q7<|Ie rfl rfl<|I2 rfl<|Q0<|Q2 rfl (fun hb=>?_) fun hb=>?_
 · skip
   refine Q7<|I1 rfl<|Ie rfl rfl<|I2 rfl<|Q0<|Q8 ⟨.inl rfl,_,rfl,⟨by simp at*;unfold Q0e;simp[*];rfl,rfl⟩⟩
 refine Q7<|Ie rfl rfl<|I2 rfl<|Q0<|Q2 rfl (fun hb=>?_) fun hb=>?_
 · skip
   refine Q7<|I1 rfl<|Ie rfl rfl<|I1 rfl ?_
   refine Z4 (n:=2) rfl rfl rfl gn rfl (fun hb=>by
    refine D1 hb rfl<|De hb rfl rfl ?_
    exact Q0 ⟨rfl,rfl,2,rfl,rfl⟩) ?_
   refine I2 rfl<|Q0<|Q8 ⟨.inl rfl,_,rfl,⟨by simp at*;unfold Q0e;simp[*];rfl,rfl⟩⟩
 refine Q4<|Q7<|I2 rfl<|Q0<|Q8 ⟨.inl rfl,_,rfl,⟨by simp at*;unfold Q0e;simp[*];rfl,rfl⟩⟩
theorem m59 (p:(lvR vb K E bs).P h) (hC:K.length<=1000):CP modE 64 [Qk vb,iV c,iV w] h (.bool (Q5V K c w)):=by
 obtain⟨a,cc,a',c',hv,hr,_⟩:=Qa9 p;refine Q9 (fu:=Tryz.f64) (by kernel_rfl) rfl ?_;refine Q7<|I2 rfl<|QP<|I1 rfl<|Ih rfl rfl<|I1 rfl ?_
 refine QY (n:=7) rfl rfl rfl gn rfl (fun hb=>by
  refine D1 hb rfl<|D1 hb rfl<|D6 hb rfl<|D0 0 hb rfl<|D4 hb rfl hv rfl<|D7 hb rfl<|Dl hb rfl rfl ?_
  exact Q0 ⟨rfl,rfl,7,rfl,rfl⟩) ?_
 refine I1 rfl ?_
 refine QY (n:=9) rfl rfl rfl gn rfl (fun hb=>by
  have aD:inL K c=true:=hb;obtain⟨h0,h1⟩:=KZ.1 aD;obtain⟨b,o,c2,cs,e2,m,hs,hg,ai,aP⟩:=hr.atM (by omega);have cO:a=some ⟨b,o,none⟩:=by injection hs
  have k0:cs[o+v0f c*1]?=some (iV ((K[c.toNat]?).getD 0)):=by rw[v0A,aP _ (by omega),v0c (by omega)];rfl
  refine D1 hb rfl<|D6 hb rfl<|D0 0 hb rfl<|D4 hb rfl hv rfl<|D1 hb rfl ?_;rw[cO];refine D5o 1 hb rfl rfl ?_;rw[<-cO];refine D4 hb rfl hg k0<|D1 hb rfl<|Dc hb [_,_] rfl rfl (Ql (m80) ⟨ag0,?_⟩)
  exact Q0 ⟨rfl,rfl,9,rfl,rfl⟩) ?_
 refine I2 rfl<|Q0<|Q8 ⟨.inl rfl,_,rfl,⟨by unfold Q5V inL;rfl,rfl⟩⟩
theorem m57 (p:(lvR vb K E bs).P h) (hE:E.length<=1000):CP modE 62 [Qk vb,iV e] h (.bool (onL E e)):=by
 obtain⟨a,cc,a',c',hv,_,hr⟩:=Qa9 p;refine Q9 (fu:=Tryz.f62) (by kernel_rfl) rfl ?_;refine Q7<|I2 rfl<|QP<|I1 rfl<|Ih rfl rfl<|I1 rfl ?_
 refine QY (n:=7) rfl rfl rfl gn rfl (fun hb=>by
  refine D1 hb rfl<|D1 hb rfl<|D6 hb rfl<|D0 1 hb rfl<|D4 hb rfl hv rfl<|D7 hb rfl<|Dl hb rfl rfl ?_
  exact Q0 ⟨rfl,rfl,7,rfl,rfl⟩) ?_
 refine I1 rfl ?_
 refine QY (n:=7) rfl rfl rfl gn rfl (fun hb=>by
  have aD:inL E e=true:=hb;obtain⟨h0,h1⟩:=KZ.1 aD;obtain⟨b,o,c2,cs,e2,m,hs,hg,ai,aP⟩:=hr.atM (by omega);have cO:a'=some ⟨b,o,none⟩:=by injection hs
  have k0:cs[o+v0f e*1]?=some (.bool ((E[e.toNat]?).getD false)):=by rw[v0A,aP _ (by omega),v0c (by omega)];rfl
  refine D1 hb rfl<|D6 hb rfl<|D0 1 hb rfl<|D4 hb rfl hv rfl<|D1 hb rfl ?_;rw[cO];refine D5o 1 hb rfl rfl ?_;rw[<-cO];refine D4 hb rfl hg k0 ?_
  exact Q0 ⟨rfl,rfl,7,rfl,rfl⟩) ?_
 refine I2 rfl<|Q0<|Q8 ⟨.inl rfl,_,rfl,⟨by unfold onL inL;rfl,rfl⟩⟩
theorem m60 (S0:SH h0 [] [lvR vb K E bs] h) (hC:K.length<=1000):C modE 65 [Qk vb,iV c,iV w] h fun v g'=>v=iV (if Q5V K c w=true then 0 else if inL K c=true/\0<=w/\w<=3 then 10 else 2)/\ ∃aa,SH h bs [lvR vb (goL K c w) E aa] g':=by
 have SE:=S0.enter;have p:=S0.res 0 rfl;obtain⟨s,u,cb,eb,aj,S1⟩:=Qaa (A:=[]) SE;obtain⟨a,cc,rfl⟩:=Q6 (S1.sl 1 rfl);have S1:SH h bs [cR vb (.cells [.slice a K.length cc,u] 155 0),slR 3 0 (.slice a K.length cc) (isV K) K.length cb,slR 4 0 u (bsV E) E.length eb] h:=S1;refine Q9 (fu:=Tryz.f65) (by kernel_rfl) rfl ?_;have S:=S1;refine Q7<|I2 rfl<|Z8<|I1 rfl<|Il rfl rfl<|I1 rfl ?_
 refine Z4 (n:=7) rfl rfl rfl gn rfl (fun hb=>by
  refine D1 hb rfl<|D1 hb rfl<|D6 hb rfl<|D0 0 hb rfl<|D4 hb rfl (S.cel 0 rfl) rfl<|D7 hb rfl<|Dh hb rfl rfl ?_
  exact Q0 ⟨rfl,rfl,7,rfl,rfl⟩) ?_
 refine I1 rfl ?_
 refine Z4 (n:=2) rfl rfl rfl gn rfl (fun hb=>by
  refine D1 hb rfl<|Dl hb rfl rfl ?_
  exact Q0 ⟨rfl,rfl,2,rfl,rfl⟩) ?_
 refine I1 rfl ?_
 refine Z4 (n:=2) rfl rfl rfl gn rfl (fun hb=>by
  refine D1 hb rfl<|Dg hb rfl rfl ?_
  exact Q0 ⟨rfl,rfl,2,rfl,rfl⟩) ?_
 refine Q0<|Q2 rfl (fun hb=>?_) fun hb=>?_
 · skip
   refine Q7<|I2 rfl<|Q0<|Q8 ?_;refine⟨.inl rfl,_,rfl,?_⟩
   exact⟨by
    have h1: ¬(inL K c=true/\0<=w/\w<=3):=by
     rw[KZ];intro h1;simp at hb;omega
    have h2: ¬Q5V K c w=true:=by
     unfold Q5V;simp only[v0g];exact fun⟨h3,h4⟩=>h1 ⟨h3,Q1C h4⟩
    rw[if_neg h2,if_neg h1];rfl,by
    have h1: ¬(inL K c=true/\0<=w/\w<=3):=by
     rw[KZ];intro h1;simp at hb;omega
    have h2: ¬Q5V K c w=true:=by
     unfold Q5V;simp only[v0g];exact fun⟨h3,h4⟩=>h1 ⟨h3,Q1C h4⟩
    unfold goL;rw[if_neg h2];exact Q0T S⟩
 refine Q4 ?_
 have aD:inL K c=true/\0<=w/\w<=3:=by
  rw[KZ];simp at hb;omega
 refine Q5<|Q7<|I1 rfl<|I1 rfl<|I1 rfl<|Ic [_,_,_] rfl rfl (Ql (m59 p hC) ⟨ag0,?_⟩);refine Ib rfl<|Q0<|Q2 rfl (fun hb=>?_) fun hb=>?_
 · skip
   refine Q7<|I2 rfl<|Q0<|Q8 ?_;refine⟨.inl rfl,_,rfl,?_⟩
   exact⟨by
    have h2: ¬Q5V K c w=true:=by simpa using hb
    rw[if_neg h2,if_pos aD];rfl,by
    have h2: ¬Q5V K c w=true:=by simpa using hb
    unfold goL;rw[if_neg h2];exact Q0T S⟩
 refine Q4 ?_;have h2:Q5V K c w=true:=by simpa using hb
 obtain⟨gO,lY⟩:=KZ.1 aD.1;obtain⟨b,c2,hs,_,cK⟩:=Q03 (S.sl 1 rfl) (by omega);obtain⟨rfl,rfl⟩:a=some ⟨b,0,none⟩/\cc=c2:=by simpa using hs
 refine Q7<|I1 rfl<|I6 rfl<|I0 0 rfl<|I4 rfl (S.cel 0 rfl) rfl<|I1 rfl<|I1 rfl<|I5o 1 rfl rfl<|Zm 1 S gn rfl rfl rfl (by kernel_rfl) rfl rfl (by rw[v0v];omega) (fun g S=>ag0) fun g S=>?_;refine QP<|I2 rfl<|Q0<|Q8 ?_;refine⟨.inl rfl,_,rfl,?_⟩
 exact⟨by rw[if_pos h2];rfl,by
  unfold goL;rw[if_pos h2];have e:isV (K.set c.toNat w)=(isV K).set (0+c.toNat*1) (iV w):=by rw[v0e,v0A,KX]
  refine Q0T (s:=.slice (some ⟨b,0,none⟩) K.length cc) (u:=u) (cb:=cb) (eb:=eb) ?_
  unfold lvL;rw[e,v0q];exact S⟩
theorem m96 {on:Bool} (S0:SH h0 [] [lvR vb K E bs] h) (hE:E.length<=1000):C modE 116 [Qk vb,iV e,.bool on] h fun v g'=>v=.bool (Q5Y E e on)/\ ∃aa,SH h bs [lvR vb K (QbC E e on) aa] g':=by
 have SE:=S0.enter;obtain⟨s,u,cb,eb,aj,S1⟩:=Qaa (A:=[]) SE;obtain⟨a,cc,rfl⟩:=Q6 (S1.sl 2 rfl);have S1:SH h bs [cR vb (.cells [s,.slice a E.length cc] 155 0),slR 3 0 s (isV K) K.length cb,slR 4 0 (.slice a E.length cc) (bsV E) E.length eb] h:=S1;refine Q9 (fu:=Tryz.f116) (by kernel_rfl) rfl ?_;have S:=S1;refine Q7<|I2 rfl<|Z8<|I1 rfl<|Il rfl rfl<|I1 rfl ?_
 refine Z4 (n:=7) rfl rfl rfl gn rfl (fun hb=>by
  refine D1 hb rfl<|D1 hb rfl<|D6 hb rfl<|D0 1 hb rfl<|D4 hb rfl (S.cel 0 rfl) rfl<|D7 hb rfl<|Dh hb rfl rfl ?_
  exact Q0 ⟨rfl,rfl,7,rfl,rfl⟩) ?_
 refine Q0<|Q2 rfl (fun hb=>?_) fun hb=>?_
 · skip
   refine Q7<|I2 rfl<|Q0<|Q8 ?_;refine⟨.inl rfl,_,rfl,?_⟩
   exact⟨by
    have h1:inL E e=false:=by unfold inL;simp at hb ⊢;omega
    unfold Q5Y;rw[h1];rfl,by
    have h1:inL E e=false:=by unfold inL;simp at hb ⊢;omega
    unfold QbC;rw[h1];exact Q0T S⟩
 refine Q4 ?_;have h1:inL E e=true:=by rw[KZ];simp at hb;omega
 obtain⟨lW,he1⟩:=KZ.1 h1;obtain⟨b,c2,hs,_,cK⟩:=Q03 (S.sl 2 rfl) (by omega);obtain⟨rfl,rfl⟩:a=some ⟨b,0,none⟩/\cc=c2:=by simpa using hs
 obtain⟨r,m,bC⟩:=Q4S (S.sl 2 rfl);have ai:e.toNat <E.length:=by omega
 have k0:(bsV E++r)[0+v0f e*1]?=some (.bool ((E[e.toNat]?).getD false)):=by
  rw[v0e,v0A,List.getElem?_append_left (by rw[v0v];exact ai),List.getElem?_map,v0c ai];rfl
 refine Q7<|I1 rfl<|I1 rfl ?_
 refine QY (n:=8) rfl rfl rfl gn rfl (fun hb=>by
  refine D1 hb rfl<|D6 hb rfl<|D0 1 hb rfl<|D4 hb rfl (S.cel 0 rfl) rfl<|D1 hb rfl<|D5o 1 hb rfl rfl<|D4 hb rfl bC k0<|Db hb rfl ?_
  exact Q0 ⟨rfl,rfl,8,rfl,rfl⟩) ?_
 refine I2 rfl<|QP<|I1 rfl<|I6 rfl<|I0 1 rfl<|I4 rfl (S.cel 0 rfl) rfl<|I1 rfl<|I1 rfl<|I5o 1 rfl rfl<|Zm 2 S gn rfl rfl rfl (by kernel_rfl) rfl rfl (by rw[v0v];omega) (fun g S=>ag0) fun g S=>?_;refine QP<|I1 rfl<|I2 rfl<|Q0<|Q8 ?_;refine⟨.inl rfl,_,rfl,?_⟩
 exact⟨by unfold Q5Y;rw[h1];rfl,by
  unfold QbC;rw[if_pos h1];have e2:bsV (E.set e.toNat on)=(bsV E).set (0+e.toNat*1) (.bool on):=by rw[v0e,v0A];simp
  refine Q0T (s:=s) (u:=.slice (some ⟨b,0,none⟩) E.length cc) (cb:=cb) (eb:=eb) ?_
  unfold lvL;rw[e2,v0q];exact S⟩
theorem m25 {n:Nat} {ov:Value} (R:RowV h ov (bsV E)) (hE:E.length<=1000) (hn:n<=1000):C modE 21 [iV n,ov] h fun v g'=> ∃b aa,v=Qk b/\SH h [] [lvR b (v0o n (-1)) E aa] g':=by
 obtain⟨oa,oc,rfl⟩:=R.valM;have bL:=R.src;rw[v0v]at bL;refine Q9 (fu:=Tryz.f21) (by kernel_rfl) rfl ?_;have S:=SH.start h;refine Q7<|I2 rfl<|QP<|I1 rfl ?_;refine Qdq S el4 gn rfl rfl rfl bL (Qdc E) (by omega) (fun s' aa g S=>ag0) fun s' aa g S=>?_;obtain⟨ea,ec,rfl⟩:=Q6 (S.sl 0 rfl);refine Qq (zv:=.agg #[.slice none 0 0,.slice none 0 0]) (pl:=[(0,1),(1,1)]) [(1,_)] gn rfl (by kernel_rfl) (by kernel_rfl) rfl (by rfl) ?_;refine Z9 S gn rfl rfl fun b1 g aJ S=>?_;have S:=S.nilSl 3 0
 have S:SH h [] [slR 3 0 (.slice none 0 0) [] 0 [],cR b1 (.cells [.slice none 0 0,.slice ea E.length ec] 155 0),slR 4 0 (.slice ea E.length ec) (bsV E) E.length aa] g:=S;refine I2 rfl<|Z8<|I2 rfl<|Q0<|Qb<|QB [(6,_)] [(0,_),(5,_)] (fun kk lv hh=> ∃(i:Nat) (sa:Option Addr) (sc:Nat) (cb:List Nat),lv=[(6,iV i)]/\kk=n -i/\i<=n/\SH h [] [slR 3 0 (.slice sa i sc) (isV (v0o i (-1))) i cb,cR b1 (.cells [.slice sa i sc,.slice ea E.length ec] 155 0),slR 4 0 (.slice ea E.length ec) (bsV E) E.length aa] hh) (n:=n) ?_ fun kk lv hh hI=>?_
 · exact⟨0,none,0,[],rfl,rfl,v0s _,S⟩
 obtain⟨i,sa,sc,cb,rfl,iS,hi,S⟩:=hI;refine Q5<|Q7<|I1 rfl<|I1 rfl<|Il rfl rfl<|Q0<|Q2 rfl (fun hb=>?_) fun hb=>?_
 · skip
   refine Q4 ?_;have hi:i <n:=by simp at hb;omega
   refine Q5<|Qb<|Q3 (by kernel_rfl)<|I1 rfl<|I1 rfl<|I6 rfl<|I0 0 rfl<|I4 rfl (S.cel 1 rfl) rfl ?_;refine Qc (e:=3) (z:=0) (zv:=.int .i64 0) [(0,_)] S gn rfl (by kernel_rfl) (by kernel_rfl) (by kernel_rfl) (by kernel_rfl) rfl (by rfl) fun b2 g bK S=>?_;refine QM (e:=3) (z:=0) (by':=7) 1 0 S el3 gn rfl rfl rfl rfl rfl rfl (by rfl) (by omega) (fun s' aa g S=>ag0) fun s' aa g S=>?_;obtain⟨sa',sc',rfl⟩:=Q6 (S.sl 1 rfl);refine I6 rfl<|I0 0 rfl ?_;refine Qg 2 S gn rfl rfl rfl (by kernel_rfl) rfl (by decide) (by simp) (fun g S=>ag0) fun g S=>?_;refine Q0 ?_
   refine Q3 (by kernel_rfl)<|I1 rfl<|Iao rfl rfl<|I2 rfl<|Q0 ?_
   exact K3 (n - (i+1)) [(6,_)] (p:=⟨i+1,sa',sc',_,rfl,rfl,by omega,by
    have:=S.drop
    rw[List.replicate_succ',Q0Y];exact this⟩)
 refine QF<|Qh<|Qn<|QE ?_;obtain rfl:i=n:=by simp at hb;omega
 refine Q7<|I1 rfl<|I2 rfl<|Q0<|Q8 ?_;refine⟨.inl rfl,_,rfl,?_⟩
 exact⟨b1,by
  have S2:=S.ordr [1,0,2] 3 rfl (by decide);obtain⟨bk,S3⟩:=Q0T (vb:=b1) (K:=v0o i (-1)) (E:=E) (s:=.slice sa i sc) (u:=.slice ea E.length ec) (cb:=cb) (eb:=aa) (by unfold lvL;rw[v0O];exact S2)
  exact⟨bk,rfl,S3⟩⟩
end
end Go.Proofs.YtljpajcmdjmeaaaGreat
namespace Go.May
open Go.X
abbrev iV (k:Int):Value:=.int .i64 k
abbrev isV (l:List Int):List Value:=l.map fun n=>.int .i64 n
def RowP {α:Type} (w:Nat) (D:List Value->α->Prop) (h:Hp) (v:Value) (l:List α):Prop:=
 (l=[]/\ ∃a c,v=.slice a 0 c)\/ ∃b o c cs e m,v=.slice (some ⟨b,o,none⟩) l.length c/\h.get b=some (.cells cs e m)/\b <h.n/\o+l.length*w<=cs.length/\ ∀i (hi:i <l.length),D ((cs.drop (o+i*w)).take w) l[i]
section
variable {α:Type} {w:Nat} {D D':List Value->α->Prop} {h h':Hp} {v:Value} {l:List α}
theorem RowP.ext (x:RowP w D h v l) (g:Ext h h') (hd: ∀c a,D c a->D' c a):RowP w D' h' v l:=by
 rcases x with x| ⟨b,o,c,cs,e,m,h1,h2,h3,h4,h5⟩
 · exact .inl x
 exact .inr ⟨b,o,c,cs,e,m,h1,(g.get b h3).trans h2,Nat.lt_of_lt_of_le h3 g.n,h4,fun i hi=>hd _ _ (h5 i hi)⟩
theorem RowP.val (x:RowP w D h v l): ∃a c,v=.slice a l.length c:=by
 rcases x with⟨rfl,a,c,h1⟩| ⟨b,o,c,cs,e,m,h1,_⟩
 · exact⟨a,c,h1⟩
 exact⟨_,c,h1⟩
theorem RowP.at (x:RowP w D h v l) (hn:0 <l.length): ∃b o c cs e m,v=.slice (some ⟨b,o,none⟩) l.length c/\h.get b=some (.cells cs e m)/\b <h.n/\o+l.length*w<=cs.length/\ ∀i (hi:i <l.length),D ((cs.drop (o+i*w)).take w) l[i]:=by
 rcases x with⟨rfl,_⟩|x
 · simp at hn
 exact x
end
theorem Jv {cs r:List Value} {p z f:Nat} {v:Value} (h:(cs.drop p).take z=r) (hf:f <z) (hr:r[f]?=some v):cs[p+f]?=some v:=by
 rw[<-v1m,<-v2b hf,h];exact hr
abbrev I64 (n:Int):Prop:= -9223372036854775808<=n/\n<=9223372036854775807
abbrev insC (x:Ins) (lv:Value) (ln:Int):List Value:=[iV x.op,iV x.a,iV x.b,iV x.c,iV x.n,lv,iV x.site,iV ln]
structure InsD (h:Hp) (cs:List Value) (x:Ins):Prop where
 row: ∃lv ln,cs=insC x lv ln/\RowV h lv (isV x.l)
 op:I64 x.op
 a:I64 x.a
 b:I64 x.b
 c:I64 x.c
 n:I64 x.n
 len:x.l.length<=17592186043904
 l: ∀k,k∈x.l->I64 k
 site:I64 x.site
abbrev Qg8 (s:ByteArray) (F:Fun) (cv:Value):List Value:=[.string s,iV F.caps,iV F.regs,cv]
structure FunD (h:Hp) (cs:List Value) (F:Fun):Prop where
 row: ∃s cv,cs=Qg8 s F cv/\RowP 8 (InsD h) h cv F.code
 caps:I64 F.caps
 regs:I64 F.regs
 len:F.code.length<=9223372036854775807
structure ClassD (cs:List Value) (c:Nat×Nat):Prop where
 row: ∃s a b d e,cs=[.string s,.slice a c.1 b,.slice d c.2 e]
 l1:c.1<=9223372036854775807
 l2:c.2<=9223372036854775807
structure CompD (cs:List Value) (c:Int×List Int):Prop where
 row: ∃s f0 f1 f2 f3,cs=[.string s,iV c.1,iV f0,iV f1,iV f2,iV f3]/\c.2=[f0,f1,f2,f3]
 lo:I64 c.1
 fs: ∀k,k∈c.2->I64 k
structure EventD (cs:List Value) (c:Int×Int):Prop where
 row: ∃s b,cs=[.string s,iV c.1,.bool b,iV c.2]
 lo:I64 c.1
 f:I64 c.2
structure SiteD (cs:List Value) (c:Int×Int):Prop where
 row:cs=[iV c.1,iV c.2]
 f:I64 c.1
 at':I64 c.2
structure PrgAt (h:Hp) (P:Prg) (lo cl gl fu co ev si:Value):Prop where
 lo: ∃a c,lo=.slice a P.loopers c
 cl:RowP 3 ClassD h cl P.classes
 gl: ∃a c,gl=.slice a P.globals c
 fu:RowP 4 (FunD h) h fu P.funs
 co:RowP 6 CompD h co P.comps
 ev:RowP 4 EventD h ev P.events
 si:RowP 2 SiteD h si P.sites
 main:I64 P.main
 zlo:P.loopers<=9223372036854775807
 zcl:P.classes.length<=9223372036854775807
 zgl:P.globals<=9223372036854775807
 zfu:P.funs.length<=9223372036854775807
 zco:P.comps.length<=9223372036854775807
 zev:P.events.length<=9223372036854775807
 zsi:P.sites.length<=9223372036854775807
abbrev Q8U (P:Prg) (lo cl gl fu co ev si:Value):List Value:=[lo,cl,gl,fu,co,ev,iV P.main,si]
section
variable {h h':Hp} {P:Prg} {lo cl gl fu co ev si:Value} {cs:List Value}
theorem InsD.ext {x:Ins} (d:InsD h cs x) (g:Ext h h'):InsD h' cs x:=by
 obtain⟨⟨lv,ln,h1,h2⟩,a1,a2,a3,a4,a5,a6,a7,a8⟩:=d;exact⟨⟨lv,ln,h1,h2.ext g⟩,a1,a2,a3,a4,a5,a6,a7,a8⟩
theorem FunD.ext {F:Fun} (d:FunD h cs F) (g:Ext h h'):FunD h' cs F:=by
 obtain⟨⟨s,cv,h1,h2⟩,a1,a2,a3⟩:=d;exact⟨⟨s,cv,h1,h2.ext g fun _ _ d=>d.ext g⟩,a1,a2,a3⟩
theorem PrgAt.ext (x:PrgAt h P lo cl gl fu co ev si) (g:Ext h h'):PrgAt h' P lo cl gl fu co ev si:=by
 obtain⟨a1,a2,a3,a4,a5,a6,a7,a8,r1,r2,r3,r4,r5,r6,r7⟩:=x;exact⟨a1,a2.ext g fun _ _ d=>d,a3,a4.ext g fun _ _ d=>d.ext g,a5.ext g fun _ _ d=>d,a6.ext g fun _ _ d=>d,a7.ext g fun _ _ d=>d,a8,r1,r2,r3,r4,r5,r6,r7⟩
end
abbrev Qds (P:Prg) (lo cl gl fu co ev si:Value):Value:=.agg #[lo,cl,gl,fu,co,ev,iV P.main,si]
abbrev funV (s:ByteArray) (F:Fun) (cv:Value):Value:=.agg #[.string s,iV F.caps,iV F.regs,cv]
abbrev Qf6 (x:Ins) (lv:Value) (ln:Int):Value:=.agg #[iV x.op,iV x.a,iV x.b,iV x.c,iV x.n,lv,iV x.site,iV ln]
section
variable {h:Hp} {P:Prg} {lo cl gl fu co ev si:Value} {f:Int}
theorem PrgAt.caps (X:PrgAt h P lo cl gl fu co ev si) (hf:inB f P.funs.length=true): ∃b o c cs e m,fu=.slice (some ⟨b,o,none⟩) P.funs.length c/\h.get b=some (.cells cs e m)/\b <h.n/\0<=f/\f <P.funs.length/\cs[o+f.toNat*4+1]?=some (iV (Jw P f)):=by
 obtain⟨h1,h2⟩:=Z5.1 hf;obtain⟨b,o,c,cs,e,m,hv,hg,bO,nj,aP⟩:=X.fu.at (by omega);refine⟨b,o,c,cs,e,m,hv,hg,bO,h1,h2,?_⟩;obtain⟨j,rfl⟩:=Int.eq_ofNat_of_zero_le h1;have hj:j <P.funs.length:=by omega
 obtain⟨s,cv,e1,_⟩:=(aP j hj).row;rw[v0i,QfF hj];exact Jv e1 (by omega) rfl
theorem PrgAt.vals (X:PrgAt h P lo cl gl fu co ev si):(∃a c,lo=.slice a P.loopers c)/\(∃a c,cl=.slice a P.classes.length c)/\(∃a c,gl=.slice a P.globals c)/\(∃a c,fu=.slice a P.funs.length c)/\(∃a c,co=.slice a P.comps.length c)/\(∃a c,ev=.slice a P.events.length c)/\ ∃a c,si=.slice a P.sites.length c:=
 ⟨X.lo,X.cl.val,X.gl,X.fu.val,X.co.val,X.ev.val,X.si.val⟩
end
section
variable {F:Fun} {x:Ins}
theorem regs3 (o:Int):Yo o<=3:=by
 unfold Yo;split<;>(try split)<;>(try split)<;>omega
theorem Q9x {j:Nat} (hj:j <3):([x.a,x.b,x.c].take (j+1)).all (fun r=>inB r F.regs)=(([x.a,x.b,x.c].take j).all (fun r=>inB r F.regs)&&inB ([x.a,x.b,x.c][j]) F.regs):=by
 rw[v0Z,v0c (by simpa using hj),List.all_append];simp
theorem Q9y {j:Nat} (hj:j <Yo x.op) (lS:j <3) (hf:inB ([x.a,x.b,x.c][j]) F.regs=false):Q2K F x=false:=by
 unfold Q2K;rw[<-v1L];intro h;have:=v0u.1 h ([x.a,x.b,x.c][j]) (List.mem_take_iff_getElem.2 ⟨j,by simp;omega,rfl⟩);rw[hf]at this;cases this
theorem l_step {j:Nat} (hj:j <x.l.length):((x.l.take (j+1)).all fun r=>decide (x.op=21)&&inB r F.regs)=(((x.l.take j).all fun r=>decide (x.op=21)&&inB r F.regs)&&(decide (x.op=21)&&inB x.l[j] F.regs)):=by
 rw[v0Z,v0c hj,List.all_append];simp
theorem l_fail {j:Nat} (hj:j <x.l.length) (hf:(decide (x.op=21)&&inB x.l[j] F.regs)=false):lB F x=false:=by
 unfold lB;rw[<-v1L];intro h;have:=v0u.1 h _ (v0M hj);rw[hf]at this;cases this
theorem Qau {P:Prg} (h:(decide (1<=x.op)&&decide (x.op<=33))=false):Z0 P F x=false:=by rw[Z0,h,v05]
theorem Qat {P:Prg} (h:Q2K F x=false):Z0 P F x=false:=by rw[Z0,h,v05,v0Y]
theorem Qas {P:Prg} (h:lB F x=false):Z0 P F x=false:=by rw[Z0,h,v05,v0Y,v0Y]
theorem Qar {P:Prg} (h1:(decide (1<=x.op)&&decide (x.op<=33))=true) (h2:Q2K F x=true) (h3:lB F x=true):Z0 P F x=Q1f P F x:=by rw[Z0,h1,h2,h3,v0C,v0C,v0C]
theorem op_out {o:Int} (h:(decide (o <1)||decide (33 <o))=true):(decide (1<=o)&&decide (o<=33))=false:=by
 simp only[v0K,decide_eq_true_eq]at h;rw[Bool.and_eq_false_iff,decide_eq_false_iff_not,decide_eq_false_iff_not];omega
theorem op_in {o:Int} (h:(decide (o <1)||decide (33 <o))=false):(decide (1<=o)&&decide (o<=33))=true:=by
 simp only[v06,decide_eq_false_iff_not]at h;rw[v0g,decide_eq_true_eq,decide_eq_true_eq];omega
end
theorem Q0z {α:Type} {p:α->Bool} {l:List α} {j:Nat} (hj:j <l.length):(l.take (j+1)).all p=((l.take j).all p&&p l[j]):=by
 rw[v0Z,v0c hj,List.all_append];simp
theorem Jh {α:Type} {p:α->Bool} {l:List α} {j:Nat} (hj:j <l.length) (h:p l[j]=false):l.all p=false:=by
 rw[<-v1L];intro h';have:=v0u.1 h' _ (v0M hj);rw[h]at this;cases this
section
variable {cs:List Value} {p:Nat}
theorem CompD.len {c:Int×List Int} {r:List Value} (d:CompD r c):c.2.length=4:=by
 obtain⟨s,f0,f1,f2,f3,_,e⟩:=d.row;rw[e];rfl
theorem CompD.fn {c:Int×List Int} (d:CompD ((cs.drop p).take 6) c) {k:Nat} (hk:k <c.2.length):cs[p+2+k]?=some (iV c.2[k]):=by
 have h4:=d.len;obtain⟨s,f0,f1,f2,f3,e,e2⟩:=d.row
 have h:cs[p+(2+k)]?=some (iV c.2[k]):=by
  refine Jv e (by omega) ?_;simp only[e2];have kX:k <4:=by omega
  match k,kX with
  |0,_=>rfl
  |1,_=>rfl
  |2,_=>rfl
  |3,_=>rfl
 rw[<-Nat.add_assoc]at h;exact h
theorem CompD.lp {c:Int×List Int} (d:CompD ((cs.drop p).take 6) c):cs[p+1]?=some (iV c.1):=by
 obtain⟨s,f0,f1,f2,f3,e,_⟩:=d.row;exact Jv e (by omega) rfl
theorem EventD.lp {c:Int×Int} (d:EventD ((cs.drop p).take 4) c):cs[p+1]?=some (iV c.1)/\cs[p+3]?=some (iV c.2):=by
 obtain⟨s,b,e⟩:=d.row;exact⟨Jv e (by omega) rfl,Jv e (by omega) rfl⟩
theorem ClassD.at {c:Nat×Nat} (d:ClassD ((cs.drop p).take 3) c): ∃a b e g,cs[p+1]?=some (.slice a c.1 b)/\cs[p+2]?=some (.slice e c.2 g):=by
 obtain⟨s,a,b,e,g,h⟩:=d.row;exact⟨a,b,e,g,Jv h (by omega) rfl,Jv h (by omega) rfl⟩
end
section
variable {P:Prg} {r:Bool}
def Q8h (P:Prg):Bool:=(((((((decide ((P.loopers:Int)<1)||decide ((8:Int)<P.loopers))||decide ((16:Int)<P.classes.length))||decide ((32:Int)<P.globals))||decide ((8:Int)<P.comps.length))||decide ((8:Int)<P.events.length))||decide ((P.funs.length:Int)<1))||decide ((64:Int)<P.funs.length))
theorem Qe6 (h:Q8h P=true):YQ P=false:=by
 simp only[Q8h,v0K,decide_eq_true_eq]at h
 have:Q8i P=false:=by
  rw[<-v1L];intro h';simp only[Q8i,v0g,decide_eq_true_eq]at h';omega
 rw[YQ,this,v05]
theorem Q7m (h:Q8h P=false):Q8i P=Q06 P P.main:=by
 simp only[Q8h,v06,decide_eq_false_iff_not]at h;rw[Q8i,decide_eq_true (by omega:1<=P.loopers),decide_eq_true (by omega:P.loopers<=8),decide_eq_true (by omega:P.classes.length<=16),decide_eq_true (by omega:P.globals<=32),decide_eq_true (by omega:P.comps.length<=8),decide_eq_true (by omega:P.events.length<=8),decide_eq_true (by omega:1<=P.funs.length),decide_eq_true (by omega:P.funs.length<=64)];simp
theorem Q9j (h:Q8h P=false) (hr:Q06 P P.main=false):YQ P=false:=by rw[YQ,Q7m h,hr,v05]
theorem Q9H (h:Q8h P=false) (hr:Q06 P P.main=true):YQ P=(P.classes.all Q2E&&(P.comps.all (Q6X P)&&P.events.all (Q2u P))):=by rw[YQ,Q7m h,hr,v0C]
theorem Qd6 {c:Nat×Nat} (h:(decide ((8:Int)<c.2)|| !decide ((c.1:Int)=c.2))=true):Q2E c=false:=by
 rw[<-v1L];intro h';simp only[Q2E,v0g,decide_eq_true_eq]at h';simp at h;omega
theorem Qbh {c:Nat×Nat} (h:(decide ((8:Int)<c.2)|| !decide ((c.1:Int)=c.2))=false):Q2E c=true:=by
 simp at h;rw[Q2E,decide_eq_true (by omega:c.2<=8),decide_eq_true (by omega:c.1=c.2)];rfl
end
end Go.May
namespace Go.Proofs.YtljpajcmdjmeaaaGreat
open Go.X Go.May
section
variable {h:Hp} {n m o:Int}
theorem c18:CP modE 51 [iV n,iV m] h (.bool (inB n m)):=by
 refine Q9 (fu:=Tryz.f51) (by kernel_rfl) rfl ?_;refine Q7<|I2 rfl<|QP<|I1 rfl<|Ih rfl rfl<|I1 rfl ?_
 refine QY (n:=3) rfl rfl rfl gn rfl (fun hb=>by
  refine D1 hb rfl<|D1 hb rfl<|Dl hb rfl rfl ?_
  exact Q0 ⟨rfl,rfl,3,rfl,rfl⟩) ?_
 refine I2 rfl<|Q0<|Q8 ⟨.inl rfl,_,rfl,⟨rfl,rfl⟩⟩
theorem c19:CP modE 52 [iV o] h (iV (Yo o)):=by
 refine Q9 (fu:=Tryz.f52) (by kernel_rfl) rfl ?_;have S:=SH.start h;refine Q7<|I2 rfl<|Z8<|I1 rfl<|Q0<|Qb<|Yt 3 [(26,5),(27,6),(31,7),(33,8)] [(3,_)] (by kernel_rfl) rfl (by repeat(first|exact trivial|refine⟨rfl,?_⟩)) (by rfl) (fun hb=>?_) fun hb=>?_
 · skip
   refine Q7<|I2 rfl<|Q0<|Q8 ⟨.inl rfl,_,rfl,⟨by rw[Yo,if_pos (show o∈Q6t from of_decide_eq_true hb)];rfl,rfl⟩⟩
 have fQ:o∉Q6t:=of_decide_eq_false hb;refine Yt 3 [(1,10),(8,11),(9,12),(10,13),(11,14),(14,15),(21,16),(22,17),(25,18),(29,19),(30,20),(32,21)] [(3,_)] (by kernel_rfl) rfl (by repeat(first|exact trivial|refine⟨rfl,?_⟩)) (by rfl) (fun hb=>?_) fun hb=>?_
 · skip
   refine Q7<|I2 rfl<|Q0<|Q8 ⟨.inl rfl,_,rfl,⟨by rw[Yo,if_neg fQ,if_pos (show o∈ones from of_decide_eq_true hb)];rfl,rfl⟩⟩
 have hb2:o∉ones:=of_decide_eq_false hb;refine Yt 3 [(3,23),(4,24),(5,25),(6,26),(7,27),(18,28),(19,29)] [] (by kernel_rfl) rfl (by repeat(first|exact trivial|refine⟨rfl,?_⟩)) (by rfl) (fun hb=>?_) fun hb=>?_
 · skip
   refine Q7<|I2 rfl<|Q0<|Q8 ⟨.inl rfl,_,rfl,⟨by rw[Yo,if_neg fQ,if_neg hb2,if_pos (show o∈Q96 from of_decide_eq_true hb)];rfl,rfl⟩⟩
 refine Q4<|Q7<|I2 rfl<|Q0<|Q8 ⟨.inl rfl,_,rfl,⟨by rw[Yo,if_neg fQ,if_neg hb2,if_neg (show o∉Q96 from of_decide_eq_false hb)];rfl,rfl⟩⟩
theorem c10:CP modE 19 [iV o] h (.bool (Q1p o)):=by
 refine Q9 (fu:=Tryz.f19) (by kernel_rfl) rfl ?_;refine Q7<|I2 rfl<|QP<|I1 rfl<|Ih rfl rfl<|I1 rfl ?_
 refine QY (n:=2) rfl rfl rfl gn rfl (fun hb=>by
  refine D1 hb rfl<|Dm hb rfl rfl ?_
  exact Q0 ⟨rfl,rfl,2,rfl,rfl⟩) ?_
 refine I1 rfl ?_
 refine QY (n:=2) rfl rfl rfl gn rfl (fun hb=>by
  refine D1 hb rfl<|Dn hb rfl rfl ?_
  exact Q0 ⟨rfl,rfl,2,rfl,rfl⟩) ?_
 refine I2 rfl<|Q0<|Q8 ⟨.inl rfl,_,rfl,⟨by rw[Q1p,decide_not];rfl,rfl⟩⟩
end
section
variable {h g:Hp} {P:Prg} {lo cl gl fu co ev si sv:Value} {f:Int} {kb:Nat}
theorem c17 (X:PrgAt h P lo cl gl fu co ev si):C modE 50 [Qds P lo cl gl fu co ev si,iV f] h fun v h'=>v=.bool (Q06 P f)/\Ext h h':=by
 obtain⟨-,-,-,⟨fa,fc,rfl⟩,-⟩:=X.vals;refine Q9 (fu:=Tryz.f50) (by kernel_rfl) rfl ?_;have S:=SH.start h;refine Q7 ?_;refine Z9 S gn rfl rfl fun b1 g aJ S=>?_;refine I2 rfl<|QP<|I1 rfl<|I0 3 rfl<|I4 rfl (S.cel 0 rfl) rfl<|I7 rfl<|Ic [_,_] rfl rfl (Ql (c18) ⟨ag0,?_⟩);refine I1 rfl ?_
 refine QY (B:=decide (Jw P f=0)) (n:=7) rfl rfl rfl gn rfl (fun hb=>by
  refine D0 3 hb rfl<|D4 hb rfl (S.cel 0 rfl) rfl<|D1 hb rfl ?_;obtain⟨b,o,c,cs,e,m,hv,hg,bO,gN,hf1,hw⟩:=X.caps hb;have bD:fa=some ⟨b,o,none⟩:=by injection hv
  rw[bD];refine D5o 4 hb rfl rfl<|D0 1 hb rfl<|D4 hb rfl (S.old0 hg bO) hw<|De hb rfl rfl ?_;rw[<-bD]
  exact Q0 ⟨rfl,rfl,7,rfl,rfl⟩) ?_
 refine I2 rfl<|Q0<|Q8 ⟨.inl rfl,_,rfl,⟨rfl,S.e0⟩⟩
end
end Go.Proofs.YtljpajcmdjmeaaaGreat
