/- A heap of objects, plainly. Conditions: none. A queue of items, lives of components and events, plainly. Conditions: none. Programs of instructions, and which may be (plain). Conditions: none. Programs of instructions that may not be (plain). Conditions: none. Threads: calls, what an instruction does, plainly. Conditions: none. A machine of tasks, plainly. Conditions: none. Chapter 14, one task's marks: rows of words, plainly. Conditions: none. Chapter 14: the machine over the chapter's program; known answers true. Conditions: none. The document's heap, as it lies in the memory: reading it. Conditions: none. The document's heap: writing it. Conditions: it is one's own; at most so many objects as may be. The document's heap: objects made. Conditions: it is one's own; at most so many objects as may be. The document's queue and lives, as they lie in the memory. Conditions: they are one's own; at most so many items. The document's queue: what comes first, put, dropped, taken. Conditions: it is one's own; at most so many items. The document's lives. Conditions: they are one's own; at most so many components and events. Programs of instructions, as they lie in a memory. Conditions: none. Programs of instructions: what is found where. Conditions: none. Chapter 14: what instructions name, whether they have sites. Conditions: none. Chapter 14: roots, as the document and the program have them. Conditions: none. Chapter 14: may an instruction be, as the document has it. Conditions: none. -/
import Derived.Test.YteinandjhpnceaaXa
import Derived.Test.YteinandjhpnceaaXc
import Derived.Test.YteinandjhpnceaaRows
import Derived.Test.YteinandjhpnceaaXd
namespace Go.Mac
structure MObj where
 kind:Int
 of:Int
 vals:List Int
 site:Int
 by':Int
 nth:Int
instance:Inhabited MObj:=⟨⟨0,0,[],0,0,0⟩⟩
def hasB (H:List MObj) (id:Int):Bool:=decide (1<=id)&&decide (id<=H.length)
def QR (H:List MObj) (id:Int):MObj:=(H[(id -1).toNat]?).getD default
def isO (H:List MObj) (id kind:Int):Bool:=hasB H id&&decide ((QR H id).kind=kind)
def Q6k (H:List MObj) (id:Int):Nat:=if hasB H id=true then(QR H id).vals.length else 0
def inH (H:List MObj) (id i:Int):Bool:=decide (0<=i)&&decide (i <Q6k H id)
def getV (H:List MObj) (id i:Int):Int:=if inH H id i=true then((QR H id).vals[i.toNat]?).getD 0 else 0
def setH (H:List MObj) (id i n:Int):List MObj:=if inH H id i=true/\isO H id 4=false then H.modify (id -1).toNat fun o=> {o with vals:=o.vals.set i.toNat n}else H
def Q29 (H:List MObj) (b:Int):Nat:=(H.filter fun o=>decide (o.by'=b)).length
def Qec (H:List MObj) (o:MObj):List MObj:=if 1024<=H.length then H else H++[{o with nth:=Q29 H o.by'}]
def addN (H:List MObj):Int:=if 1024<=H.length then 0 else H.length+1
def addE (H:List MObj):Int:=if 1024<=H.length then 11 else 0
def Q2R (kind size:Int):Bool:=(decide (kind=1)||decide (kind=2)||decide (kind=3))&&decide (0<=size)&&decide (size<=64)&& !(decide (kind=3)&&decide (size≠1))
def Qb7 (H:List MObj) (kind of size site b:Int):List MObj:=if Q2R kind size=true then Qec H ⟨kind,of,List.replicate size.toNat 0,site,b,0⟩else H
def QfI (H:List MObj) (kind size:Int):Int:=if Q2R kind size=true then addN H else 0
def QfJ (H:List MObj) (kind size:Int):Int:=if Q2R kind size=true then addE H else 2
def Qcg (H:List MObj) (of:Int) (cells:List Int) (site b:Int):List MObj:=if cells.length<=256 then Qec H ⟨4,of,cells,site,b,0⟩else H
def Qg8 (H:List MObj) (n:Nat):Int:=if n<=256 then addN H else 0
def Qg9 (H:List MObj) (n:Nat):Int:=if n<=256 then addE H else 2
theorem Qdj {H:List MObj} {id:Int} {j:Nat} {o:MObj} (h:H[j]?=some o) (e:id=j+1):QR H id=o:=by
 unfold QR;rw[show(id -1).toNat=j by omega,h];rfl
theorem QdL {H:List MObj} {id:Int}:hasB H id=true↔1<=id/\id<=H.length:=by
 simp[hasB]
theorem Q3o {H:List MObj} {id:Int} (h:hasB H id=true): ∃(j:Nat) (o:MObj),id=j+1/\H[j]?=some o/\QR H id=o/\j <H.length:=by
 have h1:=QdL.1 h;have hj:(id -1).toNat <H.length:=by omega
 exact⟨(id -1).toNat,_,by omega,List.getElem?_eq_getElem hj,Qdj (List.getElem?_eq_getElem hj) (by omega),hj⟩
end Go.Mac
namespace Go.Mac
structure MItem where
 task:Int
 front:Bool
 due:Int
instance:Inhabited MItem:=⟨⟨0,false,0⟩⟩
def Ki (L:List MItem) (i:Int):MItem:=(L[i.toNat]?).getD default
def ofQ (L:List MItem) (t:Int):Int:=match L.findIdx? (fun x=>decide (x.task=t))with
 |some i=>i
 |none=> -1
def K9 (x f:MItem):Bool:=x.front||(!f.front&&decide (x.due <f.due))
def Qu (L:List MItem):Nat->Int
 |0=> -1
 |k+1=>if Qu L k <0 then k else if K9 (Ki L k) (Ki L (Qu L k))=true then k else Qu L k
def Zb (L:List MItem):Int:=Qu L L.length
def Q2S (L:List MItem) (now:Int):Bool:= !(decide (Zb L <0)||(!(Ki L (Zb L)).front&&decide (now <(Ki L (Zb L)).due)))
def Zr (L:List MItem) (now:Int):MItem:=if Q2S L now=true then Ki L (Zb L)else default
def Qeq (L:List MItem) (x:MItem):Bool:= !(decide (x.task <0)||decide (x.due <0))&&decide (ofQ L x.task <0)
def putE (L:List MItem) (x:MItem):Int:=if(decide (x.task <0)||decide (x.due <0))=true then 2 else if 0<=ofQ L x.task then 7 else 0
def Q4N (L:List MItem) (x:MItem):List MItem:=if Qeq L x=true then L++[x]else L
def Q3w (L:List MItem) (t:Int):List MItem:=if 0<=ofQ L t then L.eraseIdx (ofQ L t).toNat else L
def tkQ (L:List MItem) (now:Int):List MItem:=if Q2S L now=true then Q3w L (Zr L now).task else L
theorem Kj (L:List MItem): ∀k,k<=L.length-> -1<=Qu L k/\Qu L k <L.length/\Qu L k <k
 |0,_=>by simp[Qu];omega
 | k+1,h=>by
   have:=Kj L k (by omega);unfold Qu
   split
   · omega
   split<;>omega
theorem Q7Z {L:List MItem} {t:Int} (h: ∀x,x∈L->x.task≠t):ofQ L t= -1:=by
 unfold ofQ
 have:L.findIdx? (fun x=>decide (x.task=t))=none:=by
  rw[List.findIdx?_eq_none_iff];intro x hx;simpa using h x hx
 rw[this]
theorem Qdh {L:List MItem} {t:Int} {i:Nat} (hi:i <L.length) (h1:L[i].task=t) (h2: ∀j (hj:j <L.length),j <i->L[j].task≠t):ofQ L t=i:=by
 unfold ofQ
 have:L.findIdx? (fun x=>decide (x.task=t))=some i:=by
  rw[List.findIdx?_eq_some_iff_getElem];exact⟨hi,by simpa using h1,fun j hj=>by simpa using h2 j (by omega) hj⟩
 rw[this]
theorem Qes {L:List MItem} {t:Int} (h:0<=ofQ L t):(ofQ L t).toNat <L.length/\(Ki L (ofQ L t)).task=t:=by
 unfold ofQ at h ⊢;cases e:L.findIdx? (fun x=>decide (x.task=t))with
 |none=>rw[e]at h;simp at h
 | some i=>
   rw[List.findIdx?_eq_some_iff_getElem]at e;obtain⟨h1,h2,_⟩:=e;refine⟨by simpa using h1,?_⟩;unfold Ki;simp only[Int.toNat_natCast,List.getElem?_eq_getElem h1,Option.getD_some];simpa using h2
def Q0c (was which:Int):Bool:=
 if which=0 then decide (was= -1)else if which=1 then decide (was=0)||decide (was=2)else if which=2 then decide (was=1)else if which=3 then decide (was=0)||decide (was=2)else false
def inL {α:Type} (l:List α) (i:Int):Bool:=decide (0<=i)&&decide (i <l.length)
def Q6j (C:List Int) (c which:Int):Bool:=inL C c&&Q0c ((C[c.toNat]?).getD 0) which
def goL (C:List Int) (c which:Int):List Int:=if Q6j C c which=true then C.set c.toNat which else C
def onL (E:List Bool) (e:Int):Bool:=inL E e&&(E[e.toNat]?).getD false
def QcB (E:List Bool) (e:Int) (on:Bool):List Bool:=if inL E e=true then E.set e.toNat on else E
def Q6n (E:List Bool) (e:Int) (on:Bool):Bool:=inL E e&&(on&& !(E[e.toNat]?).getD false)
theorem Q1z {was which:Int} (h:Q0c was which=true):0<=which/\which<=3:=by
 unfold Q0c at h
 split at h
 · omega
 split at h
 · omega
 split at h
 · omega
 split at h
 · omega
 cases h
end Go.Mac
namespace Go.May
structure Ins where
 op:Int
 a:Int
 b:Int
 c:Int
 n:Int
 l:List Int
 site:Int
structure Fun where
 caps:Int
 regs:Int
 code:List Ins
structure Prg where
 loopers:Nat
 classes:List (Nat×Nat)
 globals:Nat
 funs:List Fun
 comps:List (Int×List Int)
 events:List (Int×Int)
 main:Int
 sites:List (Int×Int)
def inB (n most:Int):Bool:=decide (0<=n)&&decide (n <most)
def ones:List Int:=[1,8,9,10,11,14,21,22,25,29,30,32]
def Q9R:List Int:=[3,4,5,6,7,18,19]
def Q6W:List Int:=[26,27,31,33]
def Yo (o:Int):Nat:=if o∈Q6W then 0 else if o∈ones then 1 else if o∈Q9R then 3 else 2
def Q1g (o:Int):Bool:=decide (9<=o)&&decide (o<=30)&&decide (o≠20)
def Js (P:Prg) (n:Int):Int:=((P.funs[n.toNat]?).map Fun.caps).getD 0
def Q18 (P:Prg) (F:Fun) (x:Ins):Bool:=
 if x.op=9\/x.op=10 then inB x.n P.globals
 else if x.op=14 then inB x.n P.classes.length
 else if x.op=21 then inB x.n P.funs.length&&decide (Js P x.n=x.l.length)
 else if x.op=23 then inB x.c P.loopers&&inB x.n 1000001
 else if x.op=24 then inB x.c P.loopers
 else if x.op=26\/x.op=27 then inB x.n P.events.length
 else if x.op=31\/x.op=32 then inB x.n F.code.length
 else true
def Q2Q (F:Fun) (x:Ins):Bool:=([x.a,x.b,x.c].take (Yo x.op)).all fun r=>inB r F.regs
def lB (F:Fun) (x:Ins):Bool:=x.l.all fun r=>decide (x.op=21)&&inB r F.regs
def Z2 (P:Prg) (F:Fun) (x:Ins):Bool:=(decide (1<=x.op)&&decide (x.op<=33))&&(Q2Q F x&&(lB F x&&Q18 P F x))
def okI (P:Prg) (F:Fun) (x:Ins) (n:Nat):Bool:=Z2 P F x&&decide (x.site=if Q1g x.op=true then(n:Int)else -1)
def Q0o (P:Prg) (F:Fun):Nat->List Ins->Bool
 |_,[]=>true
 |n,x::r=>okI P F x n&&Q0o P F (if Q1g x.op=true then n+1 else n) r
def Zi (i:Nat):Nat->List Ins->List (Int×Int)
 |_,[]=>[]
 |k,x::r=>(if Q1g x.op=true then[((i:Int),(k:Int))]else[])++Zi i (k+1) r
def cnt:List Ins->Nat
 | []=>0
 |x::r=>(if Q1g x.op=true then 1 else 0)+cnt r
theorem Q0A (i:Nat): ∀(k:Nat) (l:List Ins),(Zi i k l).length=cnt l
 |_,[]=>rfl
 | k,x::r=>by
   rw[Zi,cnt,List.length_append,Q0A i (k+1) r]
   split<;>rfl
theorem Q0B (i:Nat): ∀(k:Nat) (l m:List Ins),Zi i k (l++m)=Zi i k l++Zi i (k+l.length) m
 |_,[],m=>by simp[Zi]
 | k,x::l,m=>by
   rw[List.cons_append,Zi,Zi,Q0B i (k+1) l m,List.append_assoc,List.length_cons]
   congr 3
   omega
theorem Qcd: ∀(l m:List Ins),cnt (l++m)=cnt l+cnt m
 | [],m=>by simp[cnt]
 | x::l,m=>by
   rw[List.cons_append,cnt,cnt,Qcd l m];omega
theorem Q2E (P:Prg) (F:Fun): ∀(n:Nat) (l m:List Ins),Q0o P F n (l++m)=(Q0o P F n l&&Q0o P F (n+cnt l) m)
 |n,[],m=>by simp[Q0o,cnt]
 | n,x::l,m=>by
   rw[List.cons_append,Q0o,Q0o,Q2E P F _ l m,Bool.and_assoc,cnt]
   congr 3
   split<;>omega
section
variable {P:Prg} {F:Fun} {n:Nat} {l:List Ins} {i at':Nat}
theorem Q0Z (h:at' <l.length):Q0o P F n (l.take (at'+1))=(Q0o P F n (l.take at')&&okI P F l[at'] (n+cnt (l.take at'))):=by
 rw[List.take_add_one,List.getElem?_eq_getElem h,Option.toList_some,Q2E,Q0o,Q0o,Bool.and_true]
theorem Q8x (h:at' <l.length):cnt (l.take (at'+1))=cnt (l.take at')+if Q1g l[at'].op=true then 1 else 0:=by
 rw[List.take_add_one,List.getElem?_eq_getElem h,Option.toList_some,Qcd,cnt,cnt,Nat.add_zero]
theorem Q1S (h:at' <l.length):Zi i 0 (l.take (at'+1))=Zi i 0 (l.take at')++if Q1g l[at'].op=true then[((i:Int),(at':Int))]else[]:=by
 rw[List.take_add_one,List.getElem?_eq_getElem h,Option.toList_some,Q0B,Zi,Zi,List.append_nil,List.length_take,Nat.zero_add,Nat.min_eq_left (by omega)]
theorem Q9p (h:at' <l.length) (hf:okI P F l[at'] (n+cnt (l.take at'))=false):Q0o P F n l=false:=by
 have e:l=l.take (at'+1)++l.drop (at'+1):=(List.take_append_drop _ _).symm;rw[e,Q2E,Q0Z h,hf,Bool.and_false,Bool.false_and]
end
def KS (l:List Ins):Int:=((l.getLast?).map Ins.op).getD 0
def Q2o (F:Fun):Bool:=(inB F.regs 257&&inB F.caps (F.regs+1))&&(decide (1<=F.code.length)&&decide (F.code.length<=512))
def Q4b (F:Fun):Bool:=decide (KS F.code=33)||decide (KS F.code=31)
def QeG (P:Prg) (F:Fun) (n:Nat):Bool:=Q2o F&&(Q0o P F n F.code&&Q4b F)
def Q7n (P:Prg):Nat->List Fun->Bool
 |_,[]=>true
 |n,F::r=>QeG P F n&&Q7n P (n+cnt F.code) r
def Zu:Nat->List Fun->List (Int×Int)
 |_,[]=>[]
 |i,F::r=>Zi i 0 F.code++Zu (i+1) r
def cntF:List Fun->Nat
 | []=>0
 |F::r=>cnt F.code+cntF r
theorem Q30: ∀(i:Nat) (l:List Fun),(Zu i l).length=cntF l
 |_,[]=>rfl
 |i,F::r=>by rw[Zu,cntF,List.length_append,Q0A,Q30 (i+1) r]
theorem Q0z: ∀(i:Nat) (l m:List Fun),Zu i (l++m)=Zu i l++Zu (i+l.length) m
 |_,[],m=>by simp[Zu]
 | i,F::l,m=>by
   rw[List.cons_append,Zu,Zu,Q0z (i+1) l m,List.append_assoc,List.length_cons]
   congr 3
   omega
theorem Q8y: ∀(l m:List Fun),cntF (l++m)=cntF l+cntF m
 | [],m=>by simp[cntF]
 |F::l,m=>by rw[List.cons_append,cntF,cntF,Q8y l m];omega
theorem Q4L (P:Prg): ∀(n:Nat) (l m:List Fun),Q7n P n (l++m)=(Q7n P n l&&Q7n P (n+cntF l) m)
 |n,[],m=>by simp[Q7n,cntF]
 | n,F::l,m=>by
   rw[List.cons_append,Q7n,Q7n,Q4L P _ l m,Bool.and_assoc,cntF]
   congr 3
   omega
section
variable {P:Prg} {n:Nat} {l:List Fun} {i:Nat}
theorem Q6e (h:i <l.length):Q7n P n (l.take (i+1))=(Q7n P n (l.take i)&&QeG P l[i] (n+cntF (l.take i))):=by
 rw[List.take_add_one,List.getElem?_eq_getElem h,Option.toList_some,Q4L,Q7n,Q7n,Bool.and_true]
theorem Q2F (h:i <l.length):cntF (l.take (i+1))=cntF (l.take i)+cnt l[i].code:=by
 rw[List.take_add_one,List.getElem?_eq_getElem h,Option.toList_some,Q8y,cntF,cntF,Nat.add_zero]
theorem Q6y (h:i <l.length):Zu 0 (l.take (i+1))=Zu 0 (l.take i)++Zi i 0 l[i].code:=by
 rw[List.take_add_one,List.getElem?_eq_getElem h,Option.toList_some,Q0z,Zu,Zu,List.append_nil,List.length_take,Nat.zero_add,Nat.min_eq_left (by omega)]
theorem Qct (h:i <l.length) (hf:QeG P l[i] (n+cntF (l.take i))=false):Q7n P n l=false:=by
 have e:l=l.take (i+1)++l.drop (i+1):=(List.take_append_drop _ _).symm;rw[e,Q4L,Q6e h,hf,Bool.and_false,Bool.false_and]
end
def JX (P:Prg) (f:Int):Bool:=inB f P.funs.length&&decide (Js P f=0)
def Q2G (c:Nat×Nat):Bool:=decide (c.2<=8)&&decide (c.1=c.2)
def Q7i (P:Prg) (c:Int×List Int):Bool:=(c.2.all fun f=> !decide (0<=f)||JX P f)&&inB c.1 P.loopers
def Q2v (P:Prg) (e:Int×Int):Bool:=inB e.1 P.loopers&&JX P e.2
def Q8L (P:Prg):Bool:=(decide (1<=P.loopers)&&decide (P.loopers<=8))&&((decide (P.classes.length<=16)&&decide (P.globals<=32))&&((decide (P.comps.length<=8)&&decide (P.events.length<=8))&&((decide (1<=P.funs.length)&&decide (P.funs.length<=64))&&JX P P.main)))
def YU (P:Prg):Bool:=Q8L P&&(P.classes.all Q2G&&(P.comps.all (Q7i P)&&P.events.all (Q2v P)))
def ZJ (P:Prg):Bool:=YU P&&(Q7n P 0 P.funs&&(decide (Zu 0 P.funs=P.sites)&&decide (P.sites.length<=512)))
end Go.May
namespace Go.May
theorem QfY {l:List Fun} {i:Nat} (h:i <l.length):l=l.take i++l[i]::l.drop (i+1):=by
 rw[<-List.drop_eq_getElem_cons h,List.take_append_drop]
theorem Qg7 {l:List Ins} {i:Nat} (h:i <l.length):l=l.take i++l[i]::l.drop (i+1):=by
 rw[<-List.drop_eq_getElem_cons h,List.take_append_drop]
section
variable {P:Prg}
theorem QcX {i at':Nat} (h:i <P.funs.length) (ha:at' <(P.funs[i]).code.length) (hs:Q1g ((P.funs[i]).code[at']).op=true):(Zu 0 P.funs)[cntF (P.funs.take i)+cnt ((P.funs[i]).code.take at')]?=some ((i:Int),(at':Int)):=by
 have e1:Zu 0 P.funs=Zu 0 (P.funs.take i)++Zu i (P.funs[i]::P.funs.drop (i+1)):=by
  conv=>lhs;rw[QfY h]
  rw[Q0z,List.length_take,Nat.zero_add,Nat.min_eq_left (by omega)]
 have e2:Zi i 0 (P.funs[i]).code=Zi i 0 ((P.funs[i]).code.take at')++Zi i at' ((P.funs[i]).code[at']::(P.funs[i]).code.drop (at'+1)):=by
  conv=>lhs;rw[Qg7 ha]
  rw[Q0B,List.length_take,Nat.zero_add,Nat.min_eq_left (by omega)]
 rw[e1,Zu,e2,Zi,if_pos hs,List.append_assoc,<-Q30 0,<-Q0A i 0,List.getElem?_append_right (by omega),Nat.add_sub_cancel_left,List.getElem?_append_right (by omega),Nat.sub_self];rfl
theorem QaZ (h:YU P=false):ZJ P=false:=by rw[ZJ,h,Bool.false_and]
theorem Q73 {i:Nat} (h:i <P.funs.length) (hf:QeG P P.funs[i] (cntF (P.funs.take i))=false):ZJ P=false:=by
 rw[ZJ,Qct (n:=0) h (by rw[Nat.zero_add];exact hf),Bool.false_and,Bool.and_false]
theorem Qdw {i at':Nat} (h:i <P.funs.length) (ha:at' <(P.funs[i]).code.length) (hs:Q1g ((P.funs[i]).code[at']).op=true) (hn:P.sites[cntF (P.funs.take i)+cnt ((P.funs[i]).code.take at')]?≠some ((i:Int),(at':Int))):ZJ P=false:=by
 have:Zu 0 P.funs≠P.sites:=fun e=>hn (by rw[<-e];exact QcX h ha hs);rw[ZJ,decide_eq_false this,Bool.false_and,Bool.and_false,Bool.and_false]
theorem Q47 {i at':Nat} (h:i <P.funs.length) (ha:at' <(P.funs[i]).code.length) (hf:okI P P.funs[i] (P.funs[i]).code[at'] (cntF (P.funs.take i)+cnt ((P.funs[i]).code.take at'))=false):ZJ P=false:=by
 refine Q73 h ?_;rw[QeG,Q9p ha hf,Bool.false_and,Bool.and_false]
theorem Q8b {i:Nat} (h:i <P.funs.length) (hf:Q2o P.funs[i]=false):ZJ P=false:=Q73 h (by rw[QeG,hf,Bool.false_and])
theorem Q8a {i:Nat} (h:i <P.funs.length) (hf:Q4b P.funs[i]=false):ZJ P=false:=Q73 h (by rw[QeG,hf,Bool.and_false,Bool.and_false])
theorem QfG (hp:YU P=true) (ha:Q7n P 0 P.funs=true):ZJ P=(decide (Zu 0 P.funs=P.sites)&&decide (P.sites.length<=512)):=by
 rw[ZJ,hp,ha,Bool.true_and,Bool.true_and]
theorem last_at {F:Fun} (h:0 <F.code.length):KS F.code=(F.code[F.code.length -1]'(by omega)).op:=by
 rw[KS,List.getLast?_eq_getElem?,List.getElem?_eq_getElem (by omega)];rfl
theorem Qgc {n:Nat} (h:n <P.funs.length):Js P (n:Int)=P.funs[n].caps:=by
 rw[Js,Int.toNat_natCast,List.getElem?_eq_getElem h];rfl
end
theorem QdJ {F:Fun} (h:Q2o F=true):0 <F.code.length:=by
 simp only[Q2o,Bool.and_eq_true,decide_eq_true_eq]at h;omega
theorem Z9 {n m:Int}:inB n m=true↔0<=n/\n <m:=by simp[inB]
end Go.May
namespace Go.Mac
open Go.May
instance:Inhabited Ins:=⟨⟨0,0,0,0,0,[],0⟩⟩
instance:Inhabited Fun:=⟨⟨0,0,[]⟩⟩
structure MFrm where
 fn:Int
 at':Int
 regs:List Int
instance:Inhabited MFrm:=⟨⟨0,0,[]⟩⟩
structure MThr where
 F:List MFrm
 trap:Int
structure MAcc where
 site:Int
 kind:Int
 a:Int
 b:Int
 write:Bool
structure MAsk where
 op:Int
 site:Int
 n:Int
 v:Int
 looper:Int
 acc:List MAcc
def wr (n:Int):Int:=Go.IntKind.wrap .i64 n
def Qt (P:Prg) (f:Int):Fun:=(P.funs[f.toNat]?).getD default
def Q0U (P:Prg) (f a:Int):Ins:=((Qt P f).code[a.toNat]?).getD default
def reg (R:List Int) (a:Int):Int:=(R[a.toNat]?).getD 0
def Y7 (T:MThr):Bool:=decide (T.F.length=0)||decide (T.trap≠0)
def Qv (T:MThr):MFrm:=(T.F[T.F.length -1]?).getD default
def Qb (P:Prg) (T:MThr):Ins:=Q0U P (Qv T).fn (Qv T).at'
def atF (F:List MFrm) (k:Nat) (n:Int):List MFrm:=F.modify k fun x=> {x with at':=n}
def QfT (F:List MFrm) (k:Nat):List MFrm:=F.modify k fun x=> {x with at':=x.at'+1}
def Q36 (F:List MFrm) (k:Nat) (a n:Int):List MFrm:=F.modify k fun x=> {x with regs:=x.regs.set a.toNat n}
def onT (T:MThr) (ahead:Nat):MThr:= {T with F:=QfT T.F (T.F.length -1 -ahead)}
def setT (T:MThr) (a n:Int):MThr:= {T with F:=Q36 T.F (T.F.length -1) a n}
def K6 (o:Int):Bool:=decide (o=9)||decide (o=10)||(decide (23<=o)&&decide (o<=30))
structure FrOk (P:Prg) (x:MFrm):Prop where
 f0:0<=x.fn
 f1:x.fn <P.funs.length
 a0:0<=x.at'
 a1:x.at' <(Qt P x.fn).code.length
 r:(x.regs.length:Int)=(Qt P x.fn).regs
def Km (P:Prg) (T:MThr):Prop:=T.F.length<=32/\ ∀x,x∈T.F->FrOk P x
theorem Y5 {T:MThr} (h:0 <T.F.length):T.F[T.F.length -1]?=some (Qv T):=by
 unfold Qv;rw[List.getElem?_eq_getElem (by omega)];rfl
theorem ZW {T:MThr} (h:0 <T.F.length):Qv T∈T.F:=List.mem_of_getElem? (Y5 h)
theorem J9 {P:Prg} {f:Int} (h0:0<=f) (h1:f <P.funs.length):P.funs[f.toNat]?=some (Qt P f):=by
 unfold Qt;rw[List.getElem?_eq_getElem (by omega)];rfl
theorem Q4m {P:Prg} {x:MFrm} (h:FrOk P x):(Qt P x.fn).code[x.at'.toNat]?=some (Q0U P x.fn x.at'):=by
 unfold Q0U;have:=h.a0;have:=h.a1;rw[List.getElem?_eq_getElem (by omega)];rfl
def ZT (x:Ins) (R:List Int) (it:Int):Option Int:=
 if x.op=1 then some x.n else if x.op=2 then some (reg R x.b)else if x.op=3 then some (wr (reg R x.b+reg R x.c))else if x.op=4 then some (wr (reg R x.b -reg R x.c))else
 if x.op=5 then some (wr (reg R x.b*reg R x.c))else if x.op=6 then some (if reg R x.b <reg R x.c then 1 else 0)else if x.op=7 then some (if reg R x.b=reg R x.c then 1 else 0)else if x.op=8 then some it else none
def Q4G (x:Ins) (R:List Int):MAsk:=
 ⟨x.op,x.site,x.n,if x.op=10\/x.op=25\/x.op=29\/x.op=30 then reg R x.a else if x.op=23\/x.op=24\/x.op=28 then reg R x.b else 0,if x.op=23\/x.op=24 then x.c else 0,[]⟩
def Y9 (P:Prg) (f:Int) (cells:List Int):MFrm:=⟨f,0,cells++List.replicate ((Qt P f).regs.toNat -cells.length) 0⟩
def Q0n (P:Prg) (T:MThr):Bool:= !Y7 T&&K6 (Qb P T).op
def Q1n (P:Prg) (T:MThr) (n:Int):MThr:=
 if Q0n P T=true then onT (if(Qb P T).op=9\/(Qb P T).op=23\/(Qb P T).op=24\/(Qb P T).op=28 then setT T (Qb P T).a n else T) 0 else T
section
variable {P:Prg} {f a:Int} {x:Ins} {F:Fun}
theorem Qb2 (h:ZJ P=true) (h0:0<=f) (h1:f <P.funs.length):Q2o (Qt P f)=true:=by
 have hj:f.toNat <P.funs.length:=by omega
 have e1:P.funs[f.toNat]=Qt P f:=by
  have:=J9 h0 h1;rw[List.getElem?_eq_getElem hj]at this;exact Option.some.inj this
 cases hh:Q2o (Qt P f)with
 |true=>rfl
 |false=>rw[<-e1]at hh;rw[Q8b hj hh]at h;cases h
theorem Yz (h:ZJ P=true) (h0:0<=f) (h1:f <P.funs.length):0<=(Qt P f).regs/\(Qt P f).regs<=256/\0<=(Qt P f).caps/\(Qt P f).caps<=(Qt P f).regs/\1<=(Qt P f).code.length/\(Qt P f).code.length<=512:=by
 have:=Qb2 h h0 h1;simp only[Q2o,Bool.and_eq_true,Z9,decide_eq_true_eq]at this;omega
theorem QfF (h:ZJ P=true) (h0:0<=f) (h1:f <P.funs.length) (a0:0<=a) (a1:a <(Qt P f).code.length): ∃n,okI P (Qt P f) (Q0U P f a) n=true:=by
 have hj:f.toNat <P.funs.length:=by omega
 have e1:P.funs[f.toNat]=Qt P f:=by
  have:=J9 h0 h1;rw[List.getElem?_eq_getElem hj]at this;exact Option.some.inj this
 have ha:a.toNat <(P.funs[f.toNat]).code.length:=by rw[e1];omega
 have e2:(P.funs[f.toNat]).code[a.toNat]=Q0U P f a:=by
  unfold Q0U;rw[<-e1,List.getElem?_eq_getElem ha];rfl
 refine⟨cntF (P.funs.take f.toNat)+cnt ((P.funs[f.toNat]).code.take a.toNat),?_⟩;cases hh:okI P (Qt P f) (Q0U P f a) (cntF (P.funs.take f.toNat)+cnt ((P.funs[f.toNat]).code.take a.toNat))with
 |true=>rfl
 |false=>rw[<-e2,<-e1]at hh;rw[Q47 hj ha hh]at h;cases h
theorem Qb1 (h:ZJ P=true) (h0:0<=f) (h1:f <P.funs.length) (a0:0<=a) (a1:a <(Qt P f).code.length):Z2 P (Qt P f) (Q0U P f a)=true:=by
 obtain⟨n,hn⟩:=QfF h h0 h1 a0 a1;simp only[okI,Bool.and_eq_true]at hn;exact hn.1
theorem Q4l (h:Z2 P F x=true):Q2Q F x=true:=by
 simp only[Z2,Bool.and_eq_true]at h;exact h.2.1
theorem Q0e (h:Z2 P F x=true):Q18 P F x=true:=by
 simp only[Z2,Bool.and_eq_true]at h;exact h.2.2.2
theorem ins_l (h:Z2 P F x=true): ∀r,r∈x.l->0<=r/\r <F.regs:=by
 simp only[Z2,Bool.and_eq_true]at h;have:=h.2.2.1;simp only[lB,List.all_eq_true,Bool.and_eq_true,Z9]at this;exact fun r hr=>(this r hr).2
theorem Q01 (h:Z2 P F x=true) (hn:1<=Yo x.op):0<=x.a/\x.a <F.regs:=by
 have:=Q4l h;unfold Q2Q at this;rw[List.all_eq_true]at this;obtain⟨k,hk⟩: ∃k,Yo x.op=k+1:=⟨Yo x.op -1,by omega⟩;rw[hk]at this;exact Z9.1 (this x.a (by simp))
theorem Q1X (h:Z2 P F x=true) (hn:2<=Yo x.op):0<=x.b/\x.b <F.regs:=by
 have:=Q4l h;unfold Q2Q at this;rw[List.all_eq_true]at this;obtain⟨k,hk⟩: ∃k,Yo x.op=k+2:=⟨Yo x.op -2,by omega⟩;rw[hk]at this;exact Z9.1 (this x.b (by simp))
theorem Qfc (h:Z2 P F x=true) (hn:3<=Yo x.op):0<=x.c/\x.c <F.regs:=by
 have:=Q4l h;unfold Q2Q at this;rw[List.all_eq_true]at this;obtain⟨k,hk⟩: ∃k,Yo x.op=k+3:=⟨Yo x.op -3,by omega⟩;rw[hk]at this;exact Z9.1 (this x.c (by simp))
theorem Q8q {x:MFrm} (h:ZJ P=true) (k:FrOk P x):Z2 P (Qt P x.fn) (Q0U P x.fn x.at')=true:=Qb1 h k.f0 k.f1 k.a0 k.a1
theorem Kv {x:MFrm} (h:ZJ P=true) (k:FrOk P x):x.at'<=1000000/\x.regs.length<=256:=by
 have h1:=Yz h k.f0 k.f1;have h2:=k.a1;have h3:=k.r;omega
theorem JS {T:MThr} {n:Int} (h:Km P T):Km P (setT T a n)/\(setT T a n).F.length=T.F.length:=by
 have hl:(setT T a n).F.length=T.F.length:=by simp[setT,Q36]
 refine⟨⟨by rw[hl];exact h.1,fun x hx=>?_⟩,hl⟩;obtain⟨i,hi,rfl⟩:=List.mem_iff_getElem.1 hx;have hi':i <T.F.length:=by rw[<-hl];exact hi
 have k:=h.2 _ (List.getElem_mem hi')
 have e:(setT T a n).F[i]=if T.F.length -1=i then {T.F[i]with regs:=T.F[i].regs.set a.toNat n}else T.F[i]:=by
  have:(setT T a n).F[i]?=some (if T.F.length -1=i then {T.F[i]with regs:=T.F[i].regs.set a.toNat n}else T.F[i]):=by
   unfold setT Q36;rw[List.getElem?_modify,List.getElem?_eq_getElem hi'];simp only[Option.map_eq_map,Option.map_some]
  rw[List.getElem?_eq_getElem hi]at this;exact Option.some.inj this
 rw[e]
 split
 · exact⟨k.f0,k.f1,k.a0,k.a1,by rw[List.length_set];exact k.r⟩
 exact k
theorem Q7M {R:List Int} {a:Int} (h0:0<=a) (h1:a <R.length):R[a.toNat]?=some (reg R a):=by
 unfold reg;rw[List.getElem?_eq_getElem (by omega)];rfl
end
end Go.Mac
namespace Go.Mac
open Go.May
structure MTask where
 kind:Int
 of':Int
 which:Int
 fn:Int
 looper:Int
 by':Int
 nth:Int
 front:Bool
 delay:Int
 due:Int
 payload:Int
 state:Int
 trap:Int
 mark:Int
 prev:Int
instance:Inhabited MTask:=⟨⟨0,0,0,0,0,0,0,false,0,0,0,0,0,0,0⟩⟩
structure MMark where
 kind:Int
 task:Int
 other:Int
 acc:MAcc
instance:Inhabited MMark:=⟨⟨0,0,0,⟨0,0,0,0,false⟩⟩⟩
structure MS where
 H:List MObj
 K:List Int
 E:List Bool
 Q:List (List MItem)
 runs:List Int
 T:List MTask
 Th:List MThr
 G:List Int
 log:List Int
 M:List MMark
 on:List Int
 now:Int
 steps:Int
 full:Bool
def Q6X:MAcc:=⟨0,0,0,0,false⟩
def Yj (s:MS) (k task other:Int):MS:= {s with M:=s.M++[⟨k,task,other,Q6X⟩]}
def Je (s:MS) (task site k a:Int) (write:Bool):MS:= {s with M:=s.M++[⟨3,task,0,⟨site,k,a,0,write⟩⟩]}
def ZB (s:MS) (id:Int):MTask:=(s.T[(id -1).toNat]?).getD default
def Zt (s:MS) (id:Int):MThr:=(s.Th[(id -1).toNat]?).getD ⟨[],0⟩
def stM (s:MS) (id st:Int):MS:= {s with T:=s.T.modify (id -1).toNat fun t=> {t with state:=st}}
def JH (s:MS) (id:Int):MS:=if(ZB s id).kind=4 then Je (Yj (stM s id 2) 1 id 0) id (ZB s id).of' 5 id true else Yj (stM s id 2) 1 id 0
def Ym (s:MS) (t:MTask):MTask:= {t with state:=1,due:=s.now+t.delay}
def Y4 (P:Prg) (s:MS) (t:MTask) (cells:List Int):MS:=
 if 256<=s.T.length then s else {s with
  T:=s.T++[Ym s t]
  Th:=s.Th++[⟨[Y9 P t.fn cells],0⟩]
  Q:=if 0<=t.looper then s.Q.modify t.looper.toNat fun L=>Q4N L ⟨(s.T.length:Int)+1,t.front,s.now+t.delay⟩else s.Q}
def QcG (s:MS):Int:=if 256<=s.T.length then 0 else s.T.length+1
structure MOk (P:Prg) (s:MS):Prop where
 h:s.H.length<=1024
 k:s.K.length=P.comps.length
 k2:s.K.length<=1000
 e2:s.E.length<=1000
 e:s.E.length=P.events.length
 q:s.Q.length=P.loopers
 r:s.runs.length=P.loopers
 t:s.T.length<=256
 th:s.Th.length=s.T.length
 g:s.G.length=P.globals
 lg:s.log.length<=1024
 m:s.M.length<=100000
 on:s.on.length=P.events.length
 now:0<=s.now/\s.now<=1000000000000
 st:0<=s.steps/\s.steps<=20000
 ql: ∀L,L∈s.Q->L.length<=s.T.length
 tok: ∀T,T∈s.Th->Km P T
end Go.Mac
namespace Go.Model
open Go.X
def QS (W:Nat->BitVec 64) (i:Nat):Bool:=(W (i/64)).getLsbD (i%64)
def Zc (n:Nat) (W:Nat->Nat->BitVec 64):List Value:=(List.range (n*19)).map fun k=>uV (W (k/19) (k%19))
def Qek (W:Nat->Nat->BitVec 64) (a w:Nat) (x:BitVec 64):Nat->Nat->BitVec 64:=fun a' w'=>if a'=a/\w'=w then x else W a' w'
theorem Q59 (n:Nat) (W:Nat->Nat->BitVec 64):(Zc n W).length=n*19:=by simp[Zc]
theorem JW {n a w:Nat} (W:Nat->Nat->BitVec 64) (ha:a <n) (hw:w <19):(Zc n W)[a*19+w]?=some (uV (W a w)):=by
 have h1:a*19+w <n*19:=by omega
 have h2:(a*19+w)/19=a:=by omega
 have h3:(a*19+w)%19=w:=by omega
 simp[Zc,List.getElem?_map,List.getElem?_range h1,h2,h3]
theorem Q58 {n a w:Nat} (W:Nat->Nat->BitVec 64) (x:BitVec 64) (_:a <n) (hw:w <19):(Zc n W).set (a*19+w) (uV x)=Zc n (Qek W a w x):=by
 apply List.ext_getElem
 · simp[Zc]
 intro k h1 h2;have hk:k <n*19:=by simpa[Zc]using h2
 simp only[Zc,List.getElem_set,List.getElem_map,List.getElem_range,Qek];by_cases e:a*19+w=k
 · subst e;have h2:(a*19+w)/19=a:=by omega
   have h3:(a*19+w)%19=w:=by omega
   simp[h2,h3]
 rw[if_neg e,if_neg (by omega)]
theorem Qge (W:Nat->Nat->BitVec 64) (a w:Nat) (x:BitVec 64) (a' i:Nat):QS (Qek W a w x a') i=if a'=a/\i/64=w then x.getLsbD (i%64)else QS (W a') i:=by
 unfold QS Qek
 split<;>rfl
theorem Qfm (n j:Nat) (hj:j <64):(1#64 <<<n).getLsbD j=decide (j=n):=by
 simp only[BitVec.getLsbD_shiftLeft,BitVec.getLsbD_one];by_cases e:j=n
 · subst e;simp[hj]
 by_cases h:j <n
 · simp[h,e]
 have:j -n≠0:=by omega
 simp[h,e,this]
theorem Qgf (W:Nat->Nat->BitVec 64) (a b a' i:Nat):QS (Qek W a (b/64) (W a (b/64)|||1#64 <<<(b%64)) a') i=(QS (W a') i||(decide (a'=a)&&decide (i=b))):=by
 rw[Qge];by_cases h:a'=a/\i/64=b/64
 · obtain⟨rfl,h2⟩:=h;rw[if_pos ⟨rfl,h2⟩,BitVec.getLsbD_or,Qfm _ _ (Nat.mod_lt _ (by decide))];unfold QS;rw[<-h2];have:(i%64=b%64)↔i=b:=by omega
   simp[this]
 rw[if_neg h];have: ¬(a'=a/\i=b):=fun⟨e1,e2⟩=>h ⟨e1,by rw[e2]⟩;by_cases e1:a'=a
 · have e2:i≠b:=fun e2=>this ⟨e1,e2⟩;simp[e1,e2]
 simp[e1]
theorem QfX (x:BitVec 64) (k:Nat):decide ((((x>>>k)&&& 1#64).toNat:Int)=1)=x.getLsbD k:=by
 have h:((x>>>k)&&& 1#64)=if x.getLsbD k then 1#64 else 0#64:=by
  apply BitVec.eq_of_getLsbD_eq;intro j hj;rw[BitVec.getLsbD_and,BitVec.getLsbD_ushiftRight,BitVec.getLsbD_one];by_cases e:j=0
  · subst e;cases x.getLsbD k<;>simp
  cases x.getLsbD k<;>simp[e]
 rw[h];cases x.getLsbD k<;>simp
def Q6R (W:Nat->Nat->BitVec 64) (a b w:Nat):Nat->Nat->BitVec 64:=fun a' w'=>if a'=a/\w' <w then W a w'|||W b w' else W a' w'
theorem Qau (W:Nat->Nat->BitVec 64) (a b:Nat):Q6R W a b 0=W:=by
 funext a' w';simp[Q6R]
theorem Qav (W:Nat->Nat->BitVec 64) {a b:Nat} (hab:b≠a) (w:Nat):Q6R W a b (w+1)=Qek (Q6R W a b w) a w (Q6R W a b w a w|||Q6R W a b w b w):=by
 funext a' w'
 simp only[Q6R,Qek];by_cases e1:a'=a
 · subst e1;by_cases e2:w'=w
   · subst e2;simp[hab]
   by_cases e3:w' <w
   · simp[e2,e3,show w' <w+1 by omega]
   simp[e2,e3,show ¬w' <w+1 by omega]
 simp[e1]
theorem K0 (W:Nat->Nat->BitVec 64) (a b a' i:Nat) (hi:i <1216):QS (Q6R W a b 19 a') i=if a'=a then QS (W a) i||QS (W b) i else QS (W a') i:=by
 have:i/64 <19:=by omega
 unfold QS Q6R;by_cases e:a'=a
 · subst e;simp[this,BitVec.getLsbD_or]
 simp[e]
end Go.Model
namespace Go.Proofs.Yteinandjhpnceaa
open Go.X Go.RowKit
theorem Q2b:Try.prog.follows .mixedOrders=true:=by kernel_rfl
theorem Qdu:Q7v (envQ Try.prog) 6 20000 Hp.empty=true:=by kernel_rfl
theorem QaV (w:World):Calls Try.prog 6 #[] w fun e w'=>e=.returned (.bool true)/\Below w.heap.size w w':=by
 obtain⟨m,hm⟩:=QcN Qdu;exact Q6q (envQ Try.prog) Q2b hm w
abbrev iV (k:Int):Value:=.int .i64 k
abbrev isV (l:List Int):List Value:=l.map fun n=>.int .i64 n
abbrev Qw (i:Nat):Value:=.pointer (some ⟨i,0,none⟩)
noncomputable def modE:Env:=QdX (envOf Try.prog) 6 QaV
end Go.Proofs.Yteinandjhpnceaa
namespace Go.Proofs.Yteinandjhpnceaa
open Go.X Go.Mac
structure HpW where
 ov:Value
 ob:List Nat
 vs:List (Value×List Nat)
def obC:List MObj->List (Value×List Nat)->List Value
 |o::l,v::c=>[iV o.kind,iV o.of,v.1,iV o.site,iV o.by',iV o.nth]++obC l c
 |_,_=>[]
def obP:List MObj->List (Value×List Nat)->List Res
 |o::l,v::c=>slR 2 0 v.1 (isV o.vals) o.vals.length v.2::obP l c
 |_,_=>[]
def hpL (hb:Nat) (H:List MObj) (w:HpW):List Res:=cR hb (.cells [w.ov] 100 0)::slR 197 5 w.ov (obC H w.vs) H.length w.ob::obP H w.vs
def hpR (hb:Nat) (H:List MObj) (bs:List Nat):Res:=Q4E (fun L=> ∃w:HpW,w.vs.length=H.length/\L=hpL hb H w) bs
theorem Q5q: ∀(l:List MObj) (c:List (Value×List Nat)) (rest:List Value) (j:Nat) (o:MObj) (v:Value×List Nat),l[j]?=some o->c[j]?=some v->((obC l c++rest).drop (j*6)).take 6=[iV o.kind,iV o.of,v.1,iV o.site,iV o.by',iV o.nth]
 | o::l,v::c,rest,0,o',v',h1,h2=>by
   simp only[List.getElem?_cons_zero,Option.some.injEq]at h1 h2;subst h1;subst h2;rfl
 | o::l,v::c,rest,j+1,o',v',h1,h2=>by
   show(([_,_,_,_,_,_]++obC l c++rest).drop ((j+1)*6)).take 6=_;rw[show(j+1)*6=6+j*6 by omega,List.append_assoc,<-List.drop_drop,List.drop_left' (by rfl)];exact Q5q l c rest j o' v' (by simpa using h1) (by simpa using h2)
 | [],_,_,_,_,_,h1,_=>by simp at h1
 |_::_,[],_,_,_,_,_,h2=>by simp at h2
theorem Q81: ∀(l:List MObj) (c:List (Value×List Nat)) (j:Nat) (o:MObj) (v:Value×List Nat),l[j]?=some o->c[j]?=some v->(obP l c)[j]?=some (slR 2 0 v.1 (isV o.vals) o.vals.length v.2)
 | o::l,v::c,0,o',v',h1,h2=>by
   simp only[List.getElem?_cons_zero,Option.some.injEq]at h1 h2;subst h1;subst h2;rfl
 |o::l,v::c,j+1,o',v',h1,h2=>Q81 l c j o' v' (by simpa using h1) (by simpa using h2)
 | [],_,_,_,_,h1,_=>by simp at h1
 |_::_,[],_,_,_,_,h2=>by simp at h2
theorem Qs {cs r:List Value} {p z f:Nat} {v:Value} (h:(cs.drop p).take z=r) (hf:f <z) (hr:r[f]?=some v):cs[p+f]?=some v:=by
 rw[<-List.getElem?_drop,<-List.getElem?_take_of_lt hf,h];exact hr
theorem Qa {e z n:Nat} {h:Hp} {s:Value} {cs:List Value} {bs:List Nat} (x:SlC e z h s cs n bs): ∃a c,s=.slice a n c:=by
 rcases x with⟨h1,_,h3,_⟩| ⟨b,m,c,rest,h1,_⟩
 · exact⟨none,0,by rw[h1,h3]⟩
 exact⟨_,_,h1⟩
structure HpG (h:Hp) (hb:Nat) (H:List MObj) (oa:Option Addr) (oc:Nat) (w:HpW):Prop where
 vs:w.vs.length=H.length
 ov:w.ov=.slice oa H.length oc
 cel:h.get hb=some (.cells [.slice oa H.length oc] 100 0)
 row:SlC 197 5 h (.slice oa H.length oc) (obC H w.vs) H.length w.ob
 val: ∀(j:Nat) o v,H[j]?=some o->w.vs[j]?=some v->SlC 2 0 h v.1 (isV o.vals) o.vals.length v.2
theorem Q2n {h:Hp} {hb:Nat} {H:List MObj} {bs:List Nat} (p:(hpR hb H bs).P h): ∃oa oc w,HpG h hb H oa oc w:=by
 obtain⟨L,⟨w,hw,rfl⟩,_,hp⟩:=p;have h1:SlC 197 5 h w.ov (obC H w.vs) H.length w.ob:=hp (slR 197 5 w.ov (obC H w.vs) H.length w.ob) (by simp[hpL]);obtain⟨oa,oc,e⟩:=Qa h1;have h0:h.get hb=some (.cells [w.ov] 100 0):=hp (cR hb (.cells [w.ov] 100 0)) (by simp[hpL]);rw[e]at h0 h1
 exact⟨oa,oc,w,hw,e,h0,h1,fun j o v h1 h2=>hp (slR 2 0 v.1 (isV o.vals) o.vals.length v.2) (by
  have:=List.mem_of_getElem? (Q81 _ _ _ _ _ h1 h2)
  simp only[hpL,List.mem_cons];exact .inr (.inr this))⟩
theorem HpG.obj {h:Hp} {hb:Nat} {H:List MObj} {oa:Option Addr} {oc:Nat} {w:HpW} (G:HpG h hb H oa oc w) {j:Nat} {o:MObj} (hj:H[j]?=some o): ∃(b:Nat) (cs:List Value) (m:Nat) (v:Value) (bs:List Nat),oa=some ⟨b,0,none⟩/\h.get b=some (.cells cs 197 m)/\w.vs[j]?=some (v,bs)/\(cs.drop (j*6)).take 6=[iV o.kind,iV o.of,v,iV o.site,iV o.by',iV o.nth]/\H.length*6<=cs.length/\SlC 2 0 h v (isV o.vals) o.vals.length bs:=by
 have hl:=(List.getElem?_eq_some_iff.1 hj).1;obtain⟨b,c,hv,hb,hcl⟩:=JR G.row (by omega);obtain⟨rfl,rfl⟩:oa=some ⟨b,0,none⟩/\oc=c:=by simpa using hv
 obtain⟨r,m,hg⟩:=Q52 G.row;obtain⟨⟨v,bs⟩,hvj⟩: ∃v,w.vs[j]?=some v:=⟨_,List.getElem?_eq_getElem (by rw[G.vs];exact hl)⟩;exact⟨b,_,m,v,bs,rfl,hg,hvj,Q5q _ _ _ _ _ _ hj hvj,by rw[List.length_append,hcl];omega,G.val j o _ hj hvj⟩
section
variable {h:Hp} {hb:Nat} {H:List MObj} {bs:List Nat} {id:Int}
theorem m102 (p:(hpR hb H bs).P h):CP modE 102 [Qw hb,iV id] h (.bool (hasB H id)):=by
 obtain⟨oa,oc,w,G⟩:=Q2n p;refine Q8 (fu:=Try.f102) (by kernel_rfl) rfl ?_;refine Q6<|I2 rfl<|QL<|I1 rfl<|Ih rfl rfl<|I1 rfl ?_
 refine Qp (n:=7) rfl rfl rfl gn rfl (fun hb=>by
  refine D1 hb rfl<|D1 hb rfl<|D6 hb rfl<|D0 0 hb rfl<|D4 hb rfl G.cel rfl<|D7 hb rfl<|Dm hb rfl rfl ?_
  exact Q0 ⟨rfl,rfl,7,rfl,rfl⟩) ?_
 refine I2 rfl<|Q0<|Q7 ?_;refine⟨.inl rfl,_,rfl,?_⟩;exact⟨by unfold hasB;rfl,rfl⟩
theorem m89 {k:Int} (p:(hpR hb H bs).P h) (hH:H.length<=1000000):CP modE 89 [Qw hb,iV id,iV k] h (.bool (isO H id k)):=by
 obtain⟨oa,oc,w,G⟩:=Q2n p;refine Q8 (fu:=Try.f89) (by kernel_rfl) rfl ?_;refine Q6<|I2 rfl<|QL<|I1 rfl<|I1 rfl<|Ic [_,_] rfl rfl (Qr (m102 p) ⟨ag0,?_⟩);refine I1 rfl ?_
 refine Qp (n:=11) rfl rfl rfl gn rfl (fun hb=>by
  obtain⟨j,o,hid,hj,ho,hjl⟩:=Q3o hb;obtain⟨b,cs,m,v,vb,hoa,hg,hv,hc,hl,_⟩:=G.obj hj;have k0:cs[0+Int.toNat (id -1)*6+0]?=some (iV (QR H id).kind):=by rw[ho,show Int.toNat (id -1)=j by omega,Nat.zero_add];exact Qs hc (by omega) rfl
  refine D1 hb rfl<|D6 hb rfl<|D0 0 hb rfl<|D4 hb rfl G.cel rfl<|D1 hb rfl<|Dso hb rfl rfl ?_;rw[hoa];refine D5o 6 hb rfl rfl ?_;rw[<-hoa];refine D0 0 hb rfl<|D4 hb rfl hg k0<|D1 hb rfl<|De hb rfl rfl ?_
  exact Q0 ⟨rfl,rfl,11,rfl,rfl⟩) ?_
 refine I2 rfl<|Q0<|Q7 ?_;refine⟨.inl rfl,_,rfl,?_⟩;exact⟨by unfold isO;cases hb:hasB H id<;>rfl,rfl⟩
theorem m90 (p:(hpR hb H bs).P h) (hH:H.length<=1000000):CP modE 90 [Qw hb,iV id] h (iV (Q6k H id)):=by
 obtain⟨oa,oc,w,G⟩:=Q2n p;refine Q8 (fu:=Try.f90) (by kernel_rfl) rfl ?_;refine Q6<|I2 rfl<|Z7<|I1 rfl<|I1 rfl<|Ic [_,_] rfl rfl (Qr (m102 p) ⟨ag0,?_⟩);refine Ib rfl<|Q0<|Q2 rfl (fun hb=>?_) fun hb=>?_
 · skip
   refine Q6<|I2 rfl<|Q0<|Q7 ?_;refine⟨.inl rfl,_,rfl,?_⟩
   exact⟨by
    have:hasB H id=false:=by simpa using hb
    unfold Q6k;rw[this];rfl,rfl⟩
 refine Q4 ?_;have hb':hasB H id=true:=by simpa using hb
 have hlen:Q6k H id=(QR H id).vals.length:=if_pos hb';obtain⟨j,o,rfl,hj,ho,hjl⟩:=Q3o hb';obtain⟨b,cs,m,v,vb,rfl,hg,hv,hc,hl,hsl⟩:=G.obj hj;obtain⟨va,vc,rfl⟩:=Qa hsl;have k0:cs[0+Int.toNat ((j:Int)+1 -1)*6+2]?=some (.slice va o.vals.length vc):=by rw[show Int.toNat ((j:Int)+1 -1)=j by omega,Nat.zero_add];exact Qs hc (by omega) rfl
 refine Q6<|I1 rfl<|I6 rfl<|I0 0 rfl<|I4 rfl G.cel rfl<|I1 rfl<|Iso rfl rfl<|I5o 6 rfl rfl<|I0 2 rfl<|I4 rfl hg k0<|I7 rfl<|I2 rfl<|Q0<|Q7 ?_;refine⟨.inl rfl,_,rfl,?_⟩;exact⟨by rw[hlen,ho];rfl,rfl⟩
theorem m101 {i:Int} (p:(hpR hb H bs).P h) (hH:H.length<=1000000):CP modE 101 [Qw hb,iV id,iV i] h (.tuple #[iV (getV H id i),iV (if inH H id i=true then 0 else 13)]):=by
 obtain⟨oa,oc,w,G⟩:=Q2n p;refine Q8 (fu:=Try.f101) (by kernel_rfl) rfl ?_;refine Q6<|I2 rfl<|I2 rfl<|Z7<|I1 rfl<|Il rfl rfl<|I1 rfl ?_
 refine QT (n:=5) rfl rfl rfl gn rfl (fun hb=>by
  refine D1 hb rfl<|D1 hb rfl<|D1 hb rfl<|Dc hb [_,_] rfl rfl (Qr (m90 p hH) ⟨ag0,?_⟩);refine Dh hb rfl rfl ?_
  exact Q0 ⟨rfl,rfl,5,rfl,rfl⟩) ?_
 refine Q0<|Q2 rfl (fun hb=>?_) fun hb=>?_
 · skip
   refine Q6<|I2 rfl<|I2 rfl<|Q0<|Q7 ?_;refine⟨.inl rfl,_,rfl,?_⟩
   exact⟨by
    have h1:inH H id i=false:=by unfold inH;simp at hb ⊢;omega
    unfold getV;rw[h1];rfl,rfl⟩
 refine Q4 ?_;have h1:inH H id i=true:=by unfold inH;simp at hb ⊢;omega
 obtain⟨hi0,hi1⟩:0<=i/\i <Q6k H id:=by unfold inH at h1;simpa using h1
 have hb':hasB H id=true:=by
  cases e:hasB H id with
  |true=>rfl
  |false=>unfold Q6k at hi1;rw[e]at hi1;simp at hi1;omega
 have hlen:Q6k H id=(QR H id).vals.length:=if_pos hb';obtain⟨j,o,rfl,hj,ho,hjl⟩:=Q3o hb';rw[hlen,ho]at hi1;obtain⟨b,cs,m,v,vb,rfl,hg,hv,hc,hl,hsl⟩:=G.obj hj;obtain⟨b2,o2,c2,cs2,e2,m2,rfl,hg2,hlt2,hat2⟩:=hsl.row.atM (by omega);have k0:cs[0+Int.toNat ((j:Int)+1 -1)*6+2]?=some (.slice (some ⟨b2,o2,none⟩) o.vals.length c2):=by rw[show Int.toNat ((j:Int)+1 -1)=j by omega,Nat.zero_add];exact Qs hc (by omega) rfl
 have hin:i.toNat <o.vals.length:=by omega
 have k1:cs2[o2+Int.toNat i*1]?=some (iV o.vals[i.toNat]):=by rw[Nat.mul_one];exact hat2 _ hin
 refine Q6<|I1 rfl<|I6 rfl<|I0 0 rfl<|I4 rfl G.cel rfl<|I1 rfl<|Iso rfl rfl<|I5o 6 rfl rfl<|I0 2 rfl<|I4 rfl hg k0<|I1 rfl<|I5o 1 rfl rfl<|I4 rfl hg2 k1<|I2 rfl<|I2 rfl<|Q0 ?_;refine Q7 ?_;refine⟨.inl rfl,_,rfl,?_⟩;exact⟨by unfold getV;rw[h1,ho,List.getElem?_eq_getElem hin];rfl,rfl⟩
end
end Go.Proofs.Yteinandjhpnceaa
namespace Go.Proofs.Yteinandjhpnceaa
open Go.X Go.Mac
theorem Q82: ∀(l:List MObj) (c:List (Value×List Nat)) (o:MObj) (v:Value×List Nat),c.length=l.length->obC (l++[o]) (c++[v])=obC l c++[iV o.kind,iV o.of,v.1,iV o.site,iV o.by',iV o.nth]
 | [],[],_,_,_=>rfl
 | [],_::_,_,_,h=>by simp at h
 |_::_,[],_,_,h=>by simp at h
 | o::l,v::c,o',v',h=>by
   show[_,_,_,_,_,_]++obC (l++[o']) (c++[v'])=_;rw[Q82 l c o' v' (by simpa using h)];rfl
theorem Q80: ∀(l:List MObj) (c:List (Value×List Nat)) (o:MObj) (v:Value×List Nat),c.length=l.length->obP (l++[o]) (c++[v])=obP l c++[slR 2 0 v.1 (isV o.vals) o.vals.length v.2]
 | [],[],_,_,_=>rfl
 | [],_::_,_,_,h=>by simp at h
 |_::_,[],_,_,h=>by simp at h
 | o::l,v::c,o',v',h=>by
   show _::obP (l++[o']) (c++[v'])=_;rw[Q80 l c o' v' (by simpa using h)];rfl
theorem Qaz (i:Nat) (k:Int): ∀(l:List MObj) (c:List (Value×List Nat)) (j:Nat),obC (l.modify j fun o=> {o with vals:=o.vals.set i k}) c=obC l c
 | [],c,j=>by cases j<;>rfl
 | o::l,[],j=>by
   cases j with
   |zero=>rfl
   |succ j=>rw[List.modify_succ_cons];rfl
 |o::l,v::c,0=>rfl
 | o::l,v::c,j+1=>by
   rw[List.modify_succ_cons];show[_,_,_,_,_,_]++obC (l.modify j _) c=_;rw[Qaz i k l c j];rfl
theorem KU (l:List Int) (i:Nat) (k:Int):(isV l).set i (iV k)=isV (l.set i k):=by simp
theorem Qay (i:Nat) (k:Int): ∀(l:List MObj) (c:List (Value×List Nat)) (j:Nat) (o:MObj) (v:Value×List Nat),l[j]?=some o->c[j]?=some v->(obP l c).set j (slR 2 0 v.1 ((isV o.vals).set i (iV k)) o.vals.length v.2)=obP (l.modify j fun o=> {o with vals:=o.vals.set i k}) c
 | o::l,v::c,0,o',v',h1,h2=>by
   simp only[List.getElem?_cons_zero,Option.some.injEq]at h1 h2;subst h1;subst h2;show slR 2 0 v.1 ((isV o.vals).set i (iV k)) o.vals.length v.2::obP l c=slR 2 0 v.1 (isV (o.vals.set i k)) (o.vals.set i k).length v.2::obP l c;rw[KU,List.length_set]
 | o::l,v::c,j+1,o',v',h1,h2=>by
   rw[List.modify_succ_cons];show _::(obP l c).set j _=_::obP (l.modify j _) c;rw[Qay i k l c j o' v' (by simpa using h1) (by simpa using h2)]
 | [],_,_,_,_,h1,_=>by simp at h1
 |_::_,[],_,_,_,_,h2=>by simp at h2
section
variable {h0 h:Hp} {ds:List Nat} {A:List Res} {ph:Nat} {H:List MObj} {bs:List Nat}
theorem Qbv (S:SH h0 ds (A++[hpR ph H bs]) h): ∃w:HpW,w.vs.length=H.length/\owns (hpL ph H w)=bs/\SH h0 ds (A++hpL ph H w) h:=by
 obtain⟨L,⟨w,hw,rfl⟩,h2,h3⟩:=Jc S;exact⟨w,hw,h2,h3⟩
theorem Qbu {w:HpW} (S:SH h0 ds (A++hpL ph H w) h) (hw:w.vs.length=H.length):SH h0 ds (A++[hpR ph H (owns (hpL ph H w))]) h:=Kz S ⟨w,hw,rfl⟩
theorem Qbw {w:HpW} (S:SH h0 ds (hpL ph H w) h) (hw:w.vs.length=H.length): ∃bs',SH h0 ds [hpR ph H bs'] h:=⟨_,Qbu (A:=[]) S hw⟩
end
section
variable {h0 h:Hp} {ph:Nat} {H:List MObj} {bs:List Nat} {id:Int}
theorem m100 {i n:Int} (S0:SH h0 [] [hpR ph H bs] h) (hH:H.length<=1000000):C modE 100 [Qw ph,iV id,iV i,iV n] h fun v g'=>v=iV (if inH H id i=true/\isO H id 4=false then 0 else 13)/\ ∃bs',SH h bs [hpR ph (setH H id i n) bs'] g':=by
 have p:=S0.res 0 rfl;have SE:=S0.enter;refine Q8 (fu:=Try.f100) (by kernel_rfl) rfl ?_;have S:=SH.start h;refine Q6<|I2 rfl<|Z7<|I1 rfl<|Il rfl rfl<|I1 rfl ?_
 refine QT (n:=5) rfl rfl rfl gn rfl (fun hb=>by
  refine D1 hb rfl<|D1 hb rfl<|D1 hb rfl<|Dc hb [_,_] rfl rfl (Qr (m90 p hH) ⟨ag0,?_⟩);refine Dh hb rfl rfl ?_
  exact Q0 ⟨rfl,rfl,5,rfl,rfl⟩) ?_
 refine I1 rfl ?_
 refine QT (n:=3) rfl rfl rfl gn rfl (fun hb=>by
  refine D1 hb rfl<|D1 hb rfl<|Dc hb [_,_,_] rfl rfl (Qr (m89 p hH) ⟨ag0,?_⟩)
  exact Q0 ⟨rfl,rfl,3,rfl,rfl⟩) ?_
 refine Q0<|Q2 rfl (fun hb=>?_) fun hb=>?_
 · skip
   refine Q6<|I2 rfl<|Q0<|Q7 ?_;refine⟨.inl rfl,_,rfl,?_⟩
   exact⟨by
    have h1: ¬(inH H id i=true/\isO H id 4=false):=by
     unfold inH;rintro⟨h1,h2⟩;rw[h2]at hb;simp at hb h1;omega
    rw[if_neg h1];rfl,by
    have h1: ¬(inH H id i=true/\isO H id 4=false):=by
     unfold inH;rintro⟨h1,h2⟩;rw[h2]at hb;simp at hb h1;omega
    unfold setH;rw[if_neg h1];exact⟨bs,SE⟩⟩
 refine Q4 ?_
 have h2:isO H id 4=false:=by
  cases e:isO H id 4 with
  |false=>rfl
  |true=>rw[e]at hb;simp at hb
 have h1:inH H id i=true:=by unfold inH;rw[h2]at hb;simp at hb ⊢;omega
 obtain⟨hi0,hi1⟩:0<=i/\i <Q6k H id:=by unfold inH at h1;simpa using h1
 have hb':hasB H id=true:=by
  cases e:hasB H id with
  |true=>rfl
  |false=>unfold Q6k at hi1;rw[e]at hi1;simp at hi1;omega
 have hlen:Q6k H id=(QR H id).vals.length:=if_pos hb';obtain⟨j,o,rfl,hj,ho,hjl⟩:=Q3o hb';rw[hlen,ho]at hi1;obtain⟨w,hw,hown,S⟩:=Qbv (A:=[]) SE;rw[List.nil_append]at S;obtain⟨⟨v,vb⟩,hvj⟩: ∃v,w.vs[j]?=some v:=⟨_,List.getElem?_eq_getElem (by omega)⟩;obtain⟨b,c,hov,_,hcl⟩:=JR (S.sl 1 rfl) (by omega);have hrow:=S.sl 1 rfl;rw[hov]at hrow;obtain⟨r,m,hgr⟩:=Q52 hrow;have hcel:=S.cel 0 rfl;rw[hov]at hcel
 have hpj:(hpL ph H w)[2+j]?=some (slR 2 0 v (isV o.vals) o.vals.length vb):=by
  rw[show 2+j=j+1+1 by omega];exact Q81 _ _ _ _ _ hj hvj
 obtain⟨b2,c2,hv,_,hcl2⟩:=JR (S.sl (2+j) hpj) (by omega);have hin:i.toNat <o.vals.length:=by omega
 have k0:(obC H w.vs++r)[0+Int.toNat ((j:Int)+1 -1)*6+2]?=some v:=by rw[show Int.toNat ((j:Int)+1 -1)=j by omega,Nat.zero_add];exact Qs (Q5q _ _ _ _ _ _ hj hvj) (by omega) rfl
 refine Q6<|I1 rfl<|I6 rfl<|I0 0 rfl<|I4 rfl hcel rfl<|I1 rfl<|Iso rfl rfl<|I5o 6 rfl rfl<|I0 2 rfl<|I4 rfl hgr k0<|I1 rfl<|I1 rfl ?_;rw[hv];refine I5o 1 rfl rfl ?_;rw[<-hv];refine ZG (2+j) S gn rfl rfl rfl (by kernel_rfl) hpj hv (by rw[List.length_map];omega) (fun g S=>ag0) fun g S=>?_;refine QL<|I2 rfl<|Q0<|Q7 ?_;refine⟨.inl rfl,_,rfl,?_⟩
 exact⟨by rw[if_pos ⟨h1,h2⟩];rfl,by
  have e:(hpL ph H w).set (2+j) (slR 2 0 v ((isV o.vals).set (0+i.toNat*1) (iV n)) o.vals.length vb)=hpL ph (setH H ((j:Int)+1) i n) w:=by
   unfold setH;rw[if_pos ⟨h1,h2⟩,show Int.toNat ((j:Int)+1 -1)=j by omega,show 2+j=j+1+1 by omega,Nat.zero_add,Nat.mul_one];show cR ph (.cells [w.ov] 100 0)::slR 197 5 w.ov (obC H w.vs) H.length w.ob::(obP H w.vs).set j (slR 2 0 v ((isV o.vals).set i.toNat (iV n)) o.vals.length vb)=_;rw[Qay i.toNat n H w.vs j o (v,vb) hj hvj];unfold hpL;rw[Qaz,List.length_modify]
  rw[e]at S
  exact Qbw S (by unfold setH;rw[if_pos ⟨h1,h2⟩,List.length_modify];exact hw)⟩
end
end Go.Proofs.Yteinandjhpnceaa
namespace Go.Proofs.Yteinandjhpnceaa
open Go.X Go.Mac
theorem el197:ElN modE 98 197 5 63:=⟨by kernel_rfl,by kernel_rfl,by kernel_rfl,.agg #[.int .i64 0,.int .i64 0,.slice none 0 0,.int .i64 0,.int .i64 0,.int .i64 0],by kernel_rfl,rfl⟩
theorem el2:ElN modE 65 2 0 7:=⟨by kernel_rfl,by kernel_rfl,by kernel_rfl,.int .i64 0,by kernel_rfl,rfl⟩
theorem Q35 (n:Nat):Qd [iV 0] n=isV (List.replicate n 0):=by
 induction n with
 |zero=>rfl
 |succ n ih=>simp only[Qd,List.replicate_succ,List.map_cons]at ih ⊢;rw[ih];rfl
theorem Q96 {H:List MObj} {b:Int} {i:Nat} {o:MObj} (h:H[i]?=some o):Q29 (H.take (i+1)) b=Q29 (H.take i) b+(if o.by'=b then 1 else 0):=by
 unfold Q29;rw[List.take_add_one,h,List.filter_append,List.length_append]
 congr 1
 by_cases e:o.by'=b<;>simp[e]
theorem Qdo (H:List MObj) (b:Int):Q29 H b<=H.length:=List.length_filter_le _ _
abbrev obV (o:MObj) (v:Value):Value:=.agg #[iV o.kind,iV o.of,v,iV o.site,iV o.by',iV o.nth]
theorem QdF (l:List Int):(isV l).all cellV=true:=by
 rw[List.all_eq_true];intro v hv;obtain⟨k,_,rfl⟩:=List.mem_map.1 hv;rfl
theorem Qdi {o:MObj} {v:Value} (kv:cellV v=true):(obV o v).cells.toList.all cellV=true:=by
 show([iV o.kind,iV o.of,v,iV o.site,iV o.by',iV o.nth]:List Value).all cellV=true;simp only[List.all_cons,List.all_nil,kv,Bool.and_true];rfl
section
variable {h0 h:Hp} {ph:Nat} {H:List MObj} {bs vb:List Nat} {v:Value} {o:MObj}
theorem m103 (S0:SH h0 [] [slR 2 0 v (isV o.vals) o.vals.length vb,hpR ph H bs] h):C modE 103 [Qw ph,obV o v] h fun r g'=>r=.tuple #[iV (addN H),iV (addE H)]/\ ∃bs',SH h (owns [slR 2 0 v (isV o.vals) o.vals.length vb,hpR ph H bs]) [hpR ph (Qec H o) bs'] g':=by
 have SE:=S0.enterL;obtain⟨w,hw,hown,S1⟩:=Qbv (A:=[_]) SE;have hrow:=S1.sl 2 rfl;obtain⟨oa,oc,hov⟩:=Qa hrow
 have hpos:0 <H.length-> ∃b,oa=some ⟨b,0,none⟩:=fun hl=>by
  obtain⟨b,c,e,_⟩:=JR hrow hl;rw[hov]at e;exact⟨b,by simpa using(Value.slice.inj e).1⟩
 have S1:SH h (owns [slR 2 0 v (isV o.vals) o.vals.length vb,hpR ph H bs]) (slR 2 0 v (isV o.vals) o.vals.length vb::cR ph (.cells [.slice oa H.length oc] 100 0)::slR 197 5 (.slice oa H.length oc) (obC H w.vs) H.length w.ob::obP H w.vs) h:=by
  have:=S1;unfold hpL at this;rw[hov]at this;exact this
 refine Q8 (fu:=Try.f103) (by kernel_rfl) rfl ?_;have S:=S1;refine Q6 ?_;refine QX S gn rfl rfl fun b1 g nb1 S=>?_;refine I2 rfl<|I2 rfl<|Z7<|I1 rfl<|I6 rfl<|I0 0 rfl<|I4 rfl (S.cel 2 rfl) rfl<|I7 rfl<|Ih rfl rfl<|Q0<|Q2 rfl (fun hb=>?_) fun hb=>?_
 · skip
   refine Q6<|I2 rfl<|I2 rfl<|Q0<|Q7 ?_;refine⟨.inl rfl,_,rfl,?_⟩
   exact⟨by
    have:1024<=H.length:=by simp at hb;omega
    unfold addN addE;rw[if_pos this,if_pos this];rfl,by
    have:1024<=H.length:=by simp at hb;omega
    unfold Qec;rw[if_pos this];refine⟨_,Qbu (A:=[]) (w:=w) ?_ hw⟩
    unfold hpL;rw[hov];exact S.drop.drop⟩
 refine Q4 ?_;have hlt:H.length <1024:=by simp at hb;omega
 have S:SH h (owns [slR 2 0 v (isV o.vals) o.vals.length vb,hpR ph H bs]) (cR b1 (.cells [iV o.kind,iV o.of,v,iV o.site,iV o.by',iV o.nth] 197 0)::slR 2 0 v (isV o.vals) o.vals.length vb::cR ph (.cells [.slice oa H.length oc] 100 0)::slR 197 5 (.slice oa H.length oc) (obC H w.vs) H.length w.ob::obP H w.vs) g:=S;refine Q6<|I0 5 rfl ?_;refine Qi 0 S gn rfl rfl rfl (by kernel_rfl) rfl (by decide) (by simp) (fun g S=>ag0) fun g S=>?_;refine Z7<|I2 rfl<|Q0<|Q5 ?_
 refine Qh [(6,_)] [(0,_),(3,_)] (by repeat(first|exact trivial|refine⟨rfl,?_⟩)) (fun kk lv hh=> ∃i:Nat,lv=[(6,iV i)]/\kk=H.length -i/\i<=H.length/\SH h (owns [slR 2 0 v (isV o.vals) o.vals.length vb,hpR ph H bs]) (cR b1 (.cells [iV o.kind,iV o.of,v,iV o.site,iV o.by',iV (Q29 (H.take i) o.by')] 197 0)::slR 2 0 v (isV o.vals) o.vals.length vb::cR ph (.cells [.slice oa H.length oc] 100 0)::slR 197 5 (.slice oa H.length oc) (obC H w.vs) H.length w.ob::obP H w.vs) hh) (n:=H.length) ?_ fun kk lv hh hI=>?_
 · exact⟨0,rfl,rfl,Nat.zero_le _,S⟩
 obtain⟨i,rfl,hkk,hi,S⟩:=hI;refine Q3<|Q6<|I1 rfl<|I1 rfl<|I6 rfl<|I0 0 rfl<|I4 rfl (S.cel 2 rfl) rfl<|I7 rfl<|Il rfl rfl<|Q0<|Q2 rfl (fun hb=>?_) fun hb=>?_
 · skip
   refine Q4 ?_;have hi:i <H.length:=by simp at hb;omega
   obtain⟨b,rfl⟩:=hpos (by omega);obtain⟨r,m,hgr⟩:=Q52 (S.sl 3 rfl);obtain⟨x,hx⟩: ∃x,H[i]?=some x:=⟨_,List.getElem?_eq_getElem hi⟩;obtain⟨xv,hxv⟩: ∃x,w.vs[i]?=some x:=⟨_,List.getElem?_eq_getElem (by omega)⟩;have k0:(obC H w.vs++r)[0+Int.toNat (i:Int)*6+4]?=some (iV x.by'):=by rw[Int.toNat_natCast,Nat.zero_add];exact Qs (Q5q _ _ _ _ _ _ hx hxv) (by omega) rfl
   have hnt:=Q96 (b:=o.by') hx;have hnl:=Qdo (H.take i) o.by'
   rw[List.length_take]at hnl;refine Q3<|Q5<|Q3<|I9<|I1 rfl<|I6 rfl<|I0 0 rfl<|I4 rfl (S.cel 2 rfl) rfl<|I1 rfl<|I5o 6 rfl rfl<|I0 4 rfl<|I4 rfl hgr k0<|I0 4 rfl<|I4 rfl (S.cel 0 rfl) rfl<|Ie rfl rfl<|Q0 ?_;refine Q2 rfl (fun hb=>?_) fun hb=>?_
   · skip
     refine Q1 (by kernel_rfl)<|I0 5 rfl<|I4 rfl (S.cel 0 rfl) rfl<|Iao rfl rfl<|I0 5 rfl ?_;refine Qi 0 S gn rfl rfl rfl (by kernel_rfl) rfl (by decide) (by simp) (fun g S=>ag0) fun g S=>?_;refine Q0<|Q1 (by kernel_rfl)<|I1 rfl<|Iao rfl rfl<|I2 rfl<|Q0 ?_
     exact Z6 (H.length - (i+1)) (by omega) [(6,_)] (by repeat(first|exact trivial|refine⟨rfl,?_⟩)) ⟨i+1,rfl,rfl,by omega,by
      have e:x.by'=o.by':=by simpa using hb
      rw[hnt,if_pos e];exact S⟩
   refine Q4<|Q1 (by kernel_rfl)<|I1 rfl<|Iao rfl rfl<|I2 rfl<|Q0 ?_
   exact Z6 (H.length - (i+1)) (by omega) [(6,_)] (by repeat(first|exact trivial|refine⟨rfl,?_⟩)) ⟨i+1,rfl,rfl,by omega,by
    have e: ¬x.by'=o.by':=by simpa using hb
    rw[hnt,if_neg e];exact S⟩
 refine Ql<|Q9<|Qc<|Qm ?_;obtain rfl:i=H.length:=by simp at hb;omega
 rw[List.take_length]at S;refine Q3<|I9<|I1 rfl<|I1 rfl<|I6 rfl<|I0 0 rfl<|I4 rfl (S.cel 2 rfl) rfl<|I3 6 rfl (S.cel 0 rfl) (Nat.le_refl _) ?_;refine Qf (cs:= #[iV o.kind,iV o.of,v,iV o.site,iV o.by',iV (Q29 H o.by')]) (e:=197) (z:=5) (zv:=.agg #[.int .i64 0,.int .i64 0,.slice none 0 0,.int .i64 0,.int .i64 0,.int .i64 0]) [(0,_)] S gn rfl (by kernel_rfl) (by kernel_rfl) (by kernel_rfl) (by kernel_rfl) rfl (by kernel_rfl) fun b2 g nb2 S=>?_
 refine QE (e:=197) (z:=5) (by':=63) 4 0 S el197 gn rfl rfl rfl rfl rfl rfl (Qdi (o:= {o with nth:=Q29 H o.by'}) (S0.sl 0 rfl).cellV) (by omega) (fun s' bs' g S=>ag0) fun s' bs' g S=>?_;obtain⟨sa,sc,rfl⟩:=Qa (S.sl 4 rfl);refine I6 rfl<|I0 0 rfl ?_;refine Qi 3 S gn rfl rfl (S.sl 4 rfl).cellV (by kernel_rfl) rfl (by decide) (by exact Nat.zero_lt_one) (fun g S=>ag0) fun g S=>?_;refine QL<|I1 rfl<|I6 rfl<|I0 0 rfl<|I4 rfl (S.cel 3 rfl) rfl<|I7 rfl<|I2 rfl<|I2 rfl<|Q0<|Q7 ?_;refine⟨.inl rfl,_,rfl,?_⟩
 exact⟨by unfold addN addE;rw[if_neg (by omega),if_neg (by omega)];rfl,by
  have S2:SH h (owns [slR 2 0 v (isV o.vals) o.vals.length vb,hpR ph H bs]) ([slR 2 0 v (isV o.vals) o.vals.length vb]++cR ph (.cells [.slice sa (H.length+1) sc] 100 0)::slR 197 5 (.slice sa (H.length+1) sc) (obC H w.vs++[iV o.kind,iV o.of,v,iV o.site,iV o.by',iV (Q29 H o.by')]) (H.length+1) bs'::obP H w.vs) g:=S.drop.drop;have S3:=S2.comm;have ea:Qec H o=H++[{o with nth:=Q29 H o.by'}]:=by unfold Qec;rw[if_neg (by omega)]
  have e:(cR ph (.cells [.slice sa (H.length+1) sc] 100 0)::slR 197 5 (.slice sa (H.length+1) sc) (obC H w.vs++[iV o.kind,iV o.of,v,iV o.site,iV o.by',iV (Q29 H o.by')]) (H.length+1) bs'::obP H w.vs)++[slR 2 0 v (isV o.vals) o.vals.length vb]=hpL ph (Qec H o) ⟨.slice sa (H.length+1) sc,bs',w.vs++[(v,vb)]⟩:=by
   rw[ea];unfold hpL;rw[Q82 _ _ _ _ hw,Q80 _ _ _ _ hw,List.length_append];rfl
  rw[e]at S3
  exact Qbw S3 (by rw[ea];simp[hw])⟩
theorem m98 {kind of size site b:Int} (S0:SH h0 [] [hpR ph H bs] h):C modE 98 [Qw ph,iV kind,iV of,iV size,iV site,iV b] h fun r g'=>r=.tuple #[iV (QfI H kind size),iV (QfJ H kind size)]/\ ∃bs',SH h bs [hpR ph (Qb7 H kind of size site b) bs'] g':=by
 have SE:=S0.enter;refine Q8 (fu:=Try.f98) (by kernel_rfl) rfl ?_;have S:=SE;refine Q6<|I2 rfl<|I2 rfl<|Z7<|I1 rfl<|In rfl rfl<|I1 rfl ?_
 refine Qp (n:=2) rfl rfl rfl gn rfl (fun hb=>by
  refine D1 hb rfl<|Dn hb rfl rfl ?_
  exact Q0 ⟨rfl,rfl,2,rfl,rfl⟩) ?_
 refine I1 rfl ?_
 refine Qp (n:=2) rfl rfl rfl gn rfl (fun hb=>by
  refine D1 hb rfl<|Dn hb rfl rfl ?_
  exact Q0 ⟨rfl,rfl,2,rfl,rfl⟩) ?_
 refine I1 rfl ?_
 refine QT (n:=2) rfl rfl rfl gn rfl (fun hb=>by
  refine D1 hb rfl<|Dl hb rfl rfl ?_
  exact Q0 ⟨rfl,rfl,2,rfl,rfl⟩) ?_
 refine I1 rfl ?_
 refine QT (n:=2) rfl rfl rfl gn rfl (fun hb=>by
  refine D1 hb rfl<|Dg hb rfl rfl ?_
  exact Q0 ⟨rfl,rfl,2,rfl,rfl⟩) ?_
 refine I1 rfl ?_
 refine QT (n:=6) rfl rfl rfl gn rfl (fun hb=>by
  refine D1 hb rfl<|De hb rfl rfl<|D1 hb rfl ?_
  refine Qp (n:=2) rfl rfl rfl (gy rfl rfl rfl hb) rfl (fun hb=>by
   refine D1 hb rfl<|Dn hb rfl rfl ?_
   exact Q0 ⟨rfl,rfl,2,rfl,rfl⟩) ?_
  exact Q0 ⟨rfl,rfl,4,rfl,rfl⟩) ?_
 refine Q0<|Q2 rfl (fun hb=>?_) fun hb=>?_
 · skip
   refine Q6<|I2 rfl<|I2 rfl<|Q0<|Q7 ?_;refine⟨.inl rfl,_,rfl,?_⟩
   exact⟨by
    have:Q2R kind size=false:=by
     unfold Q2R;by_cases e1:kind=1<;>by_cases e2:kind=2<;>by_cases e3:kind=3<;>simp[e1,e2,e3]at hb ⊢ <;>omega
    unfold QfI QfJ;rw[this];rfl,by
    have:Q2R kind size=false:=by
     unfold Q2R;by_cases e1:kind=1<;>by_cases e2:kind=2<;>by_cases e3:kind=3<;>simp[e1,e2,e3]at hb ⊢ <;>omega
    unfold Qb7;rw[this];exact⟨bs,S⟩⟩
 refine Q4 ?_
 have hmk:Q2R kind size=true:=by
  unfold Q2R;by_cases e1:kind=1<;>by_cases e2:kind=2<;>by_cases e3:kind=3<;>simp[e1,e2,e3]at hb ⊢ <;>omega
 obtain⟨hs0,hs1⟩:0<=size/\size<=64:=by
  unfold Q2R at hmk;simp only[Bool.and_eq_true,decide_eq_true_eq]at hmk;exact⟨hmk.1.1.2,hmk.1.2⟩
 refine Q6<|I1 rfl<|I1 rfl<|I1 rfl<|I1 rfl ?_;refine Z3 (e:=2) (z:=0) (zv:=.int .i64 0) (by':=8) S gn rfl rfl rfl (by kernel_rfl) (by kernel_rfl) (by kernel_rfl) (by kernel_rfl) (by decide) (by omega) (by omega) (by omega) (by omega) fun b1 g nb1 S=>?_;have S:=S.toSl (z:=0) (n:=size.toNat) 0 rfl (.inl rfl) (by rw[show(Value.int .i64 0).cells.toList=[iV 0] from rfl,Q35];simp);rw[show(Value.int .i64 0).cells.toList=[iV 0] from rfl,Q35]at S;have S:SH h bs [slR 2 0 (.slice (some ⟨b1,0,none⟩) size.toNat size.toNat) (isV (List.replicate size.toNat 0)) size.toNat [b1],hpR ph H bs] g:=S
 have el:(List.replicate size.toNat (0:Int)).length=size.toNat:=List.length_replicate;refine I1 rfl<|I1 rfl<|Qz (zv:=.agg #[.int .i64 0,.int .i64 0,.slice none 0 0,.int .i64 0,.int .i64 0,.int .i64 0]) (pl:=[(0,1),(1,1),(2,1),(3,1),(4,1),(5,1)]) [(0,_),(1,_),(2,_),(3,_),(4,_)] gn rfl (by kernel_rfl) (by kernel_rfl) rfl (by rfl) ?_
 refine Z1 [_,_] gn rfl rfl (by kernel_rfl) rfl (C.mono (m103 (o:=⟨kind,of,List.replicate size.toNat 0,site,b,0⟩) (vb:=[b1]) (v:=.slice (some ⟨b1,0,none⟩) size.toNat size.toNat) (SH.subL (A:=[_,_]) (B:=[]) S0 S0.own0 (by rw[show MObj.vals ⟨kind,of,List.replicate size.toNat 0,site,b,0⟩=List.replicate size.toNat 0 from rfl,el];exact S))) ?_);rintro v g ⟨rfl,bs',S2⟩;rw[show MObj.vals ⟨kind,of,List.replicate size.toNat 0,site,b,0⟩=List.replicate size.toNat 0 from rfl,el]at S2;have S:=SH.retL (A:=[_,_]) (B:=[]) S S2;refine⟨ag0,?_⟩;refine Ix rfl rfl<|Ix rfl rfl<|I2 rfl<|I2 rfl<|Q0<|Q7 ?_
 refine⟨.inl rfl,_,rfl,?_⟩;exact⟨by unfold QfI QfJ;rw[hmk];rfl,bs',by unfold Qb7;rw[if_pos hmk];exact S⟩
theorem m99 {of site b:Int} {cells:List Int} {cv:Value} (S0:SH h0 [] [hpR ph H bs] h) (hc:RowV h cv (isV cells)) (hl:cells.length<=1000000):C modE 99 [Qw ph,iV of,cv,iV site,iV b] h fun r g'=>r=.tuple #[iV (Qg8 H cells.length),iV (Qg9 H cells.length)]/\ ∃bs',SH h bs [hpR ph (Qcg H of cells site b) bs'] g':=by
 obtain⟨ca,cc,rfl⟩:=hc.valM;have hsrc:=hc.src;rw[List.length_map]at hsrc;have SE:=S0.enter;refine Q8 (fu:=Try.f99) (by kernel_rfl) rfl ?_;have S:=SE;refine Q6<|I2 rfl<|I2 rfl<|Z7<|I1 rfl<|I7 rfl<|Ig rfl rfl<|Q0<|Q2 rfl (fun hb=>?_) fun hb=>?_
 · skip
   refine Q6<|I2 rfl<|I2 rfl<|Q0<|Q7 ?_;refine⟨.inl rfl,_,rfl,?_⟩
   exact⟨by
    have: ¬cells.length<=256:=by simp at hb;omega
    unfold Qg8 Qg9;rw[if_neg this,if_neg this];rfl,by
    have: ¬cells.length<=256:=by simp at hb;omega
    unfold Qcg;rw[if_neg this];exact⟨bs,S⟩⟩
 refine Q4 ?_;have hc6:cells.length<=256:=by simp at hb;omega
 refine Q6<|I1 rfl<|I1 rfl<|I1 rfl ?_;refine Qep S el2 gn rfl rfl rfl hsrc (QdF cells) (by omega) (fun s' bs' g S=>ag0) fun s' bs' g S=>?_;obtain⟨sa,sc,rfl⟩:=Qa (S.sl 0 rfl);refine I1 rfl<|I1 rfl<|Qz (zv:=.agg #[.int .i64 0,.int .i64 0,.slice none 0 0,.int .i64 0,.int .i64 0,.int .i64 0]) (pl:=[(0,1),(1,1),(2,1),(3,1),(4,1),(5,1)]) [(0,_),(1,_),(2,_),(3,_),(4,_)] gn rfl (by kernel_rfl) (by kernel_rfl) rfl (by rfl)<|Ic [_,_] rfl rfl (C.mono (m103 (o:=⟨4,of,cells,site,b,0⟩) (vb:=bs') (v:=.slice sa cells.length sc) (SH.subL (A:=[_,_]) (B:=[]) S0 S0.own0 S)) ?_)
 rintro v g ⟨rfl,bs'',S2⟩;have S:=SH.retL (A:=[_,_]) (B:=[]) S S2;refine⟨ag0,?_⟩;refine Ix rfl rfl<|Ix rfl rfl<|I2 rfl<|I2 rfl<|Q0<|Q7 ?_;refine⟨.inl rfl,_,rfl,?_⟩;exact⟨by unfold Qg8 Qg9;rw[if_pos hc6,if_pos hc6];rfl,bs'',by unfold Qcg;rw[if_pos hc6];exact S⟩
end
end Go.Proofs.Yteinandjhpnceaa
namespace Go.Proofs.Yteinandjhpnceaa
open Go.X Go.Mac
def itC (L:List MItem):List Value:=L.flatMap fun x=>[iV x.task,.bool x.front,iV x.due]
def quL (qb:Nat) (L:List MItem) (s:Value) (nb:List Nat):List Res:=[cR qb (.cells [s] 107 0),slR 144 2 s (itC L) L.length nb]
def quR (qb:Nat) (L:List MItem) (bs:List Nat):Res:=Q4E (fun Ls=> ∃s nb,Ls=quL qb L s nb) bs
theorem Q76: ∀l:List MItem,(itC l).length=l.length*3
 | []=>rfl
 | x::l=>by
   show([_,_,_]++itC l).length=_;rw[List.length_append,Q76 l];simp;omega
theorem Q5J: ∀(l:List MItem) (rest:List Value) (j:Nat) (x:MItem),l[j]?=some x->((itC l++rest).drop (j*3)).take 3=[iV x.task,.bool x.front,iV x.due]
 | x::l,rest,0,x',h=>by
   simp only[List.getElem?_cons_zero,Option.some.injEq]at h;subst h;rfl
 | x::l,rest,j+1,x',h=>by
   show(([_,_,_]++itC l++rest).drop ((j+1)*3)).take 3=_;rw[show(j+1)*3=3+j*3 by omega,List.append_assoc,<-List.drop_drop,List.drop_left' (by rfl)];exact Q5J l rest j x' (by simpa using h)
 | [],_,_,_,h=>by simp at h
theorem Qbm (l m:List MItem):itC (l++m)=itC l++itC m:=by simp[itC]
theorem Q4g: ∀(l:List MItem) (j:Nat),(itC l).take (j*3)=itC (l.take j)
 | [],j=>by simp[itC]
 |x::l,0=>by simp[itC]
 | x::l,j+1=>by
   show([_,_,_]++itC l).take ((j+1)*3)=[_,_,_]++itC (l.take j);rw[show(j+1)*3=j*3+1+1+1 by omega,<-Q4g l j];rfl
theorem Q4h: ∀(l:List MItem) (j:Nat),(itC l).drop (j*3)=itC (l.drop j)
 | [],j=>by simp[itC]
 |x::l,0=>by simp
 | x::l,j+1=>by
   show([_,_,_]++itC l).drop ((j+1)*3)=itC (l.drop j);rw[show(j+1)*3=3+j*3 by omega,<-List.drop_drop,List.drop_left' (by rfl)];exact Q4h l j
theorem Q4i (l:List MItem):(itC l).all cellV=true:=by
 rw[List.all_eq_true];intro v hv;obtain⟨x,_,hv⟩:=List.mem_flatMap.1 hv;simp only[List.mem_cons,List.not_mem_nil,or_false]at hv;rcases hv with rfl|rfl|rfl<;>rfl
theorem Q9l:ElN modE 105 144 2 23:=⟨by kernel_rfl,by kernel_rfl,by kernel_rfl,.agg #[.int .i64 0,.bool false,.int .i64 0],by kernel_rfl,rfl⟩
section
variable {h0 h:Hp} {ds:List Nat} {A:List Res} {qb:Nat} {L:List MItem} {bs:List Nat}
theorem Qai (S:SH h0 ds (A++[quR qb L bs]) h): ∃s nb,owns (quL qb L s nb)=bs/\SH h0 ds (A++quL qb L s nb) h:=by
 obtain⟨Ls,⟨s,nb,rfl⟩,h2,h3⟩:=Jc S;exact⟨s,nb,h2,h3⟩
theorem Q20 {s:Value} {nb:List Nat} (S:SH h0 ds (quL qb L s nb) h): ∃bs',SH h0 ds [quR qb L bs'] h:=⟨_,Kz (A:=[]) S ⟨s,nb,rfl⟩⟩
theorem Qfd (p:(quR qb L bs).P h): ∃a c nb,h.get qb=some (.cells [.slice a L.length c] 107 0)/\SlC 144 2 h (.slice a L.length c) (itC L) L.length nb:=by
 obtain⟨Ls,⟨s,nb,rfl⟩,_,hp⟩:=p;have h1:SlC 144 2 h s (itC L) L.length nb:=hp (slR 144 2 s (itC L) L.length nb) (by simp[quL]);have h0:h.get qb=some (.cells [s] 107 0):=hp (cR qb (.cells [s] 107 0)) (by simp[quL]);obtain⟨a,c,rfl⟩:=Qa h1;exact⟨a,c,nb,h0,h1⟩
theorem Qak {a:Option Addr} {c:Nat} {nb:List Nat} (x:SlC 144 2 h (.slice a L.length c) (itC L) L.length nb) (hl:0 <L.length): ∃b r m,a=some ⟨b,0,none⟩/\h.get b=some (.cells (itC L++r) 144 m)/\nb=[b]/\(m=0\/m=5):=by
 obtain⟨b,c',hv,hb,_⟩:=JR x hl;obtain⟨rfl,rfl⟩:a=some ⟨b,0,none⟩/\c=c':=by simpa using hv
 rcases x with⟨h1,_⟩| ⟨b',m,c',r,h1,h2,h3,_⟩
 · cases h1
 cases h1;exact⟨b,r,m,rfl,h2,hb,h3⟩
theorem it_at {j:Nat} {x:MItem} (h:L[j]?=some x):Ki L j=x:=by
 unfold Ki;rw[Int.toNat_natCast,h];rfl
end
section
variable {h0 h:Hp} {qb:Nat} {L:List MItem} {bs:List Nat} {t now:Int}
theorem m71 (p:(quR qb L bs).P h) (hL:L.length<=1000000):CP modE 71 [Qw qb,iV t] h (iV (ofQ L t)):=by
 obtain⟨a,c,nb,hq,hr⟩:=Qfd p;refine Q8 (fu:=Try.f71) (by kernel_rfl) rfl ?_;refine Q6<|I2 rfl<|Z7<|I2 rfl<|Q0<|Q5<|Q4Q [(0,Qw qb),(1,iV t),(5,iV 0)] (by repeat(first|exact trivial|refine⟨rfl,?_⟩)) ?_;refine Qei (fun k l hh=> ∃i:Nat,i<=L.length/\k=L.length -i/\hh=h/\l=[(0,Qw qb),(1,iV t),(5,iV i)]/\ ∀j (hj:j <L.length),j <i->L[j].task≠t) (n:=L.length) ?_ fun k l hh hI=>?_
 · exact⟨0,Nat.zero_le _,rfl,rfl,rfl,fun j _ hj=>by omega⟩
 obtain⟨i,hi,rfl,rfl,rfl,hs⟩:=hI;refine Q3<|Q6<|I1 rfl<|I1 rfl<|I6 rfl<|I0 0 rfl<|I4 rfl hq rfl<|I7 rfl<|Il rfl rfl<|Q0<|Q2 rfl (fun hb=>?_) fun hb=>?_
 · skip
   refine Q4 ?_;have hi:i <L.length:=by simp at hb;omega
   obtain⟨b,r,m,rfl,hgr,_,_⟩:=Qak hr (by omega);have k0:(itC L++r)[0+Int.toNat (i:Int)*3+0]?=some (iV L[i].task):=by rw[Int.toNat_natCast,Nat.zero_add];exact Qs (Q5J _ _ _ _ (List.getElem?_eq_getElem hi)) (by omega) rfl
   refine Q3<|Q5<|Q6<|I1 rfl<|I6 rfl<|I0 0 rfl<|I4 rfl hq rfl<|I1 rfl<|I5o 3 rfl rfl<|I0 0 rfl<|I4 rfl hgr k0<|I1 rfl<|Ie rfl rfl<|Q0<|Q2 rfl (fun hb=>?_) fun hb=>?_
   · skip
     refine Q6<|I1 rfl<|I2 rfl<|Q0<|Q7 ?_;refine⟨.inl rfl,_,rfl,?_⟩
     exact⟨by
      have:L[i].task=t:=by simpa using hb
      rw[Qdh hi this hs];rfl,rfl⟩
   refine Q4<|Q1 (by kernel_rfl)<|I1 rfl<|Iao rfl rfl<|I2 rfl<|Q0 ?_
   exact⟨(L.length - (i+1)),by omega,_,(by repeat(first|exact trivial|refine⟨rfl,?_⟩)),⟨i+1,by omega,rfl,rfl,rfl,fun j hj hji=>by
    by_cases e:j=i
    · subst e;simpa using hb
    exact hs j hj (by omega)⟩⟩
 refine Ql<|Q9<|Qc<|Qm<|Q6<|I2 rfl<|Q0<|Q7 ?_;refine⟨.inl rfl,_,rfl,?_⟩
 exact⟨by
  rw[Q7Z];rfl;intro x hx;obtain⟨j,hj,rfl⟩:=List.mem_iff_getElem.1 hx
  exact hs j hj (by simp at hb;omega),rfl⟩
end
end Go.Proofs.Yteinandjhpnceaa
namespace Go.Proofs.Yteinandjhpnceaa
open Go.X Go.Mac
section
variable {h0 h:Hp} {qb:Nat} {L:List MItem} {bs:List Nat} {t now:Int}
theorem Qaj (p:Held (quR qb L bs) h): ∃a c nb,h.get qb=some (.cells [.slice a L.length c] 107 0)/\qb <h.n/\SlC 144 2 h (.slice a L.length c) (itC L) L.length nb/\ ∀i,i∈nb->i <h.n:=by
 obtain⟨⟨Ls,⟨s,nb,rfl⟩,ho,hp⟩,hl⟩:=p;have h1:SlC 144 2 h s (itC L) L.length nb:=hp (slR 144 2 s (itC L) L.length nb) (by simp[quL]);have h0:h.get qb=some (.cells [s] 107 0):=hp (cR qb (.cells [s] 107 0)) (by simp[quL]);obtain⟨a,c,rfl⟩:=Qa h1;refine⟨a,c,nb,h0,hl qb ?_,h1,fun i hi=>hl i ?_⟩
 · show qb∈bs;rw[<-ho];simp[quL,owns,cR]
 show i∈bs;rw[<-ho];simp[quL,owns,cR,slR,hi]
theorem m72 (p:Held (quR qb L bs) h) (hL:L.length<=1000000):C modE 72 [Qw qb] h fun v h'=>v=iV (Zb L)/\Ext h h':=by
 obtain⟨a,c,nb,hq,hql,hr,hnl⟩:=Qaj p;refine Q8 (fu:=Try.f72) (by kernel_rfl) rfl ?_;have S:=SH.start h;refine Q6<|I2 rfl<|QL<|I2 rfl<|Z7<|I2 rfl<|Q0<|Q5<|Qh [(3,_),(4,_)] [(0,_)] (by repeat(first|exact trivial|refine⟨rfl,?_⟩)) (fun kk lv hh=> ∃i:Nat,lv=[(3,iV (Qu L i)),(4,iV i)]/\kk=L.length -i/\i<=L.length/\SH h [] [] hh) (n:=L.length) ?_ fun kk lv hh hI=>?_
 · exact⟨0,rfl,rfl,Nat.zero_le _,S⟩
 obtain⟨i,rfl,hkk,hi,S⟩:=hI;refine Q3<|Q6<|I1 rfl<|I1 rfl<|I6 rfl<|I0 0 rfl<|I4 rfl (S.old0 hq hql) rfl<|I7 rfl<|Il rfl rfl<|Q0<|Q2 rfl (fun hb=>?_) fun hb=>?_
 · skip
   refine Q4 ?_;have hi:i <L.length:=by simp at hb;omega
   obtain⟨b,r,m,rfl,hgr,rfl,_⟩:=Qak hr (by omega);have hbl:=hnl b (by simp);have k0:((itC L++r).drop (0+Int.toNat (i:Int)*3)).take 3=[iV L[i].task,.bool L[i].front,iV L[i].due]:=by rw[Int.toNat_natCast,Nat.zero_add];exact Q5J _ _ _ _ (List.getElem?_eq_getElem hi)
   have hll:(itC L++r).length=L.length*3+r.length:=by rw[List.length_append,Q76]
   have hxi:Ki L i=L[i]:=it_at (List.getElem?_eq_getElem hi);refine Q3<|Q5<|Q6<|I1 rfl<|I6 rfl<|I0 0 rfl<|I4 rfl (S.old0 hq hql) rfl<|I1 rfl<|I5o 3 rfl rfl<|Z4 (n:=3) gn rfl rfl (by kernel_rfl) (by kernel_rfl) (S.old0 hgr hbl) (by rw[hll,Int.toNat_natCast];omega) ?_;rw[k0];refine Qo (zv:=.agg #[.int .i64 0,.bool false,.int .i64 0]) S gn rfl (by kernel_rfl) fun b1 g nb1 S=>?_;refine Qe (n:=3) 0 S gn rfl rfl (by kernel_rfl) (by kernel_rfl) rfl rfl (by decide) rfl (fun g S=>ag0) fun g S=>?_;refine Z7<|I1 rfl<|Il rfl rfl<|Q0 ?_
   refine Q2 rfl (fun hb=>?_) fun hb=>?_
   · skip
     refine Q6<|I1 rfl<|I2 rfl<|Q0<|Ql<|Q9<|Qm<|Q1 (by kernel_rfl)<|I1 rfl<|Iao rfl rfl<|I2 rfl<|Q0 ?_
     exact Z6 (L.length - (i+1)) (by omega) [(3,_),(4,_)] (by repeat(first|exact trivial|refine⟨rfl,?_⟩)) ⟨i+1,by
      have:Qu L i <0:=by simpa using hb
      unfold Qu;rw[if_pos this];rfl,rfl,by omega,S.drop⟩
   refine Q4 ?_;have hf0: ¬Qu L i <0:=by simpa using hb
   have hfi:=Kj L i (by omega);have hfl:(Qu L i).toNat <L.length:=by omega
   have k1:((itC L++r).drop (0+Int.toNat (Qu L i)*3)).take 3=[iV L[(Qu L i).toNat].task,.bool L[(Qu L i).toNat].front,iV L[(Qu L i).toNat].due]:=by rw[Nat.zero_add];exact Q5J _ _ _ _ (List.getElem?_eq_getElem hfl)
   have hxf:Ki L (Qu L i)=L[(Qu L i).toNat]:=by unfold Ki;rw[List.getElem?_eq_getElem hfl];rfl
   refine Q6<|I1 rfl<|I6 rfl<|I0 0 rfl<|I4 rfl (S.old0 hq hql) rfl<|I1 rfl<|I5o 3 rfl rfl<|Z4 (n:=3) gn rfl rfl (by kernel_rfl) (by kernel_rfl) (S.old0 hgr hbl) (by rw[hll];omega) ?_;rw[k1];refine Qo (zv:=.agg #[.int .i64 0,.bool false,.int .i64 0]) S gn rfl (by kernel_rfl) fun b2 g nb2 S=>?_;refine Qe (n:=3) 0 S gn rfl rfl (by kernel_rfl) (by kernel_rfl) rfl rfl (by decide) rfl (fun g S=>ag0) fun g S=>?_;refine QL<|I0 1 rfl<|I4 rfl (S.cel 1 rfl) rfl<|I1 rfl ?_
   refine QT (n:=10) rfl rfl rfl gn rfl (fun hb=>by
    refine D0 1 hb rfl<|D4 hb rfl (S.cel 0 rfl) rfl<|Db hb rfl<|D1 hb rfl ?_
    refine Qp (n:=5) rfl rfl rfl (gy rfl rfl rfl hb) rfl (fun hb=>by
     refine D0 2 hb rfl<|D4 hb rfl (S.cel 1 rfl) rfl<|D0 2 hb rfl<|D4 hb rfl (S.cel 0 rfl) rfl<|Dl hb rfl rfl ?_
     exact Q0 ⟨rfl,rfl,5,rfl,rfl⟩) ?_
    exact Q0 ⟨rfl,rfl,5,rfl,rfl⟩) ?_
   refine Q0<|Q2 rfl (fun hb=>?_) fun hb=>?_
   · skip
     refine Q1 (by kernel_rfl)<|I1 rfl<|I2 rfl<|Q0<|Q1 (by kernel_rfl)<|I1 rfl<|Iao rfl rfl<|I2 rfl<|Q0 ?_
     exact Z6 (L.length - (i+1)) (by omega) [(3,_),(4,_)] (by repeat(first|exact trivial|refine⟨rfl,?_⟩)) ⟨i+1,by
      have:K9 (Ki L i) (Ki L (Qu L i))=true:=by unfold K9;rw[hxi,hxf];exact hb
      conv=>rhs;unfold Qu
      rw[if_neg hf0,if_pos this];rfl,rfl,by omega,S.drop.drop⟩
   refine Q4<|Q1 (by kernel_rfl)<|I1 rfl<|Iao rfl rfl<|I2 rfl<|Q0 ?_
   exact Z6 (L.length - (i+1)) (by omega) [(3,_),(4,_)] (by repeat(first|exact trivial|refine⟨rfl,?_⟩)) ⟨i+1,by
    have:K9 (Ki L i) (Ki L (Qu L i))=false:=by unfold K9;rw[hxi,hxf];exact hb
    conv=>rhs;unfold Qu
    rw[if_neg hf0,if_neg (by rw[this];decide)];rfl,rfl,by omega,S.drop.drop⟩
 refine Ql<|Q9<|Qc<|Qm<|Q6<|I1 rfl<|I2 rfl<|Q0<|Q7 ?_;refine⟨.inl rfl,_,rfl,?_⟩
 exact⟨by
  have:i=L.length:=by simp at hb;omega
  unfold Zb;rw[<-this];rfl,S.e0⟩
abbrev itV (x:MItem):Value:=.agg #[iV x.task,.bool x.front,iV x.due]
theorem it_k {r:List Value} {i:Int} (h0:0<=i) (h1:i <L.length):((itC L++r).drop (0+Int.toNat i*3)).take 3=[iV (Ki L i).task,.bool (Ki L i).front,iV (Ki L i).due]:=by
 have hj:i.toNat <L.length:=by omega
 have:Ki L i=L[i.toNat]:=by unfold Ki;rw[List.getElem?_eq_getElem hj];rfl
 rw[this,Nat.zero_add];exact Q5J _ _ _ _ (List.getElem?_eq_getElem hj)
theorem m51 (p:Held (quR qb L bs) h) (hL:L.length<=1000000):C modE 51 [Qw qb,iV now] h fun v h'=>v=.tuple #[itV (Zr L now),.bool (Q2S L now)]/\Ext h h':=by
 obtain⟨a,c,nb,hq,hql,hr,hnl⟩:=Qaj p;have hfi:=Kj L L.length (Nat.le_refl _);refine YZ (fu:=Try.f51) (by kernel_rfl) rfl ?_;have S:=SH.start h;refine Q6 ?_;refine Qo (zv:=.agg #[.int .i64 0,.bool false,.int .i64 0]) S gn rfl (by kernel_rfl) fun b1 g nb1 S=>?_;refine I2 rfl<|QL<|I1 rfl<|Ic [_] rfl rfl (C.mono (m72 (p.ext S.e0) hL) ?_);rintro v g ⟨rfl,x⟩;have S:=S.grow x;refine⟨ag0,?_⟩;refine I2 rfl<|Z7<|I1 rfl<|Il rfl rfl<|I1 rfl ?_;have hf: -1<=Zb L/\Zb L <L.length:=by unfold Zb;omega
 refine QT (n:=21) rfl rfl rfl gn rfl (fun hb=>by
  have hf0: ¬Zb L <0:=by simpa using hb
  obtain⟨b,r,m,hoa,hgr,hnb,_⟩:=Qak hr (by omega);have hbl:=hnl b (by rw[hnb];simp);have k0:=Qs (f:=1) (it_k (L:=L) (r:=r) (i:=Zb L) (by omega) (by omega)) (by omega) rfl;have k1:=Qs (f:=2) (it_k (L:=L) (r:=r) (i:=Zb L) (by omega) (by omega)) (by omega) rfl;refine D1 hb rfl<|D6 hb rfl<|D0 0 hb rfl<|D4 hb rfl (S.old0 hq hql) rfl<|D1 hb rfl ?_;rw[hoa];refine D5o 3 hb rfl rfl ?_;rw[<-hoa];refine D0 1 hb rfl<|D4 hb rfl (S.old0 hgr hbl) k0<|Db hb rfl<|D1 hb rfl ?_
  refine Qp (n:=10) rfl rfl rfl (gy rfl rfl rfl hb) rfl (fun hb=>by
   refine D1 hb rfl<|D6 hb rfl<|D0 0 hb rfl<|D4 hb rfl (S.old0 hq hql) rfl<|D1 hb rfl ?_;rw[hoa];refine D5o 3 hb rfl rfl ?_;rw[<-hoa];refine D0 2 hb rfl<|D4 hb rfl (S.old0 hgr hbl) k1<|D1 hb rfl<|Dg hb rfl rfl ?_
   exact Q0 ⟨rfl,rfl,10,rfl,rfl⟩) ?_
  exact Q0 ⟨rfl,rfl,11,rfl,rfl⟩) ?_
 refine Q0<|Q2 rfl (fun hb=>?_) fun hb=>?_
 · skip
   refine Q6<|Qz (zv:=.agg #[.int .i64 0,.bool false,.int .i64 0]) (pl:=[(0,1),(1,1),(2,1)]) [] gn rfl (by kernel_rfl) (by kernel_rfl) rfl (by rfl) ?_;refine Qe (n:=3) 0 S gn rfl rfl (by kernel_rfl) (by kernel_rfl) rfl rfl (by decide) rfl (fun g S=>ag0) fun g S=>?_;refine I2 rfl<|Q0<|Q7 ?_;refine⟨.inl rfl,_,(Zp rfl (by kernel_rfl) (by kernel_rfl) (S.cel 0 rfl) rfl (Yw rfl rfl)),?_⟩
   exact⟨by
    have:Q2S L now=false:=by unfold Q2S;rw[hb];rfl
    unfold Zr;rw[this];rfl,S.e0⟩
 refine Q4 ?_;have hdu:Q2S L now=true:=by unfold Q2S;rw[hb];rfl
 have hf0: ¬Zb L <0:=by
  intro e;rw[decide_eq_true e]at hb;cases hb
 have hf: -1<=Zb L/\Zb L <L.length:=by unfold Zb;omega
 obtain⟨b,r,m,rfl,hgr,rfl,_⟩:=Qak hr (by omega);have hbl:=hnl b (by simp);have k0:=it_k (L:=L) (r:=r) (i:=Zb L) (by omega) (by omega);refine Q6<|I1 rfl<|I6 rfl<|I0 0 rfl<|I4 rfl (S.old0 hq hql) rfl<|I1 rfl<|I5o 3 rfl rfl<|Z4 (n:=3) gn rfl rfl (by kernel_rfl) (by kernel_rfl) (S.old0 hgr hbl) (by rw[List.length_append,Q76];omega) ?_;rw[k0];refine Qe (n:=3) 0 S gn rfl rfl (by kernel_rfl) (by kernel_rfl) rfl rfl (by decide) rfl (fun g S=>ag0) fun g S=>?_;refine I2 rfl<|Q0<|Q7 ?_
 refine⟨.inl rfl,_,(Zp rfl (by kernel_rfl) (by kernel_rfl) (S.cel 0 rfl) rfl (Yw rfl rfl)),?_⟩;exact⟨by unfold Zr;rw[if_pos hdu,hdu];rfl,S.e0⟩
theorem m50 {x:MItem} (S0:SH h0 [] [quR qb L bs] h) (hL:L.length<=1000000):C modE 50 [Qw qb,itV x] h fun v g'=>v=iV (putE L x)/\ ∃bs',SH h bs [quR qb (Q4N L x) bs'] g':=by
 have SE:=S0.enter;have p:=S0.held 0 rfl;obtain⟨s,nb,hown,S1⟩:=Qai (A:=[]) SE;obtain⟨a,c,rfl⟩:=Qa (S1.sl 1 rfl);have S1:SH h bs [cR qb (.cells [.slice a L.length c] 107 0),slR 144 2 (.slice a L.length c) (itC L) L.length nb] h:=S1;refine Q8 (fu:=Try.f50) (by kernel_rfl) rfl ?_;have S:=S1;refine Q6 ?_;refine QX S gn rfl rfl fun b1 g nb1 S=>?_;refine I2 rfl<|Z7<|I0 0 rfl<|I4 rfl (S.cel 0 rfl) rfl<|Il rfl rfl<|I1 rfl ?_
 refine QT (n:=3) rfl rfl rfl gn rfl (fun hb=>by
  refine D0 2 hb rfl<|D4 hb rfl (S.cel 0 rfl) rfl<|Dl hb rfl rfl ?_
  exact Q0 ⟨rfl,rfl,3,rfl,rfl⟩) ?_
 refine Q0<|Q2 rfl (fun hb=>?_) fun hb=>?_
 · skip
   refine Q6<|I2 rfl<|Q0<|Q7 ?_;refine⟨.inl rfl,_,rfl,?_⟩
   exact⟨by unfold putE;rw[if_pos hb];rfl,by
    have:Qeq L x=false:=by unfold Qeq;rw[show(decide (x.task <0)||decide (x.due <0))=true from hb];rfl
    unfold Q4N;rw[this];exact Q20 S.drop⟩
 refine Q4 ?_;have hb1:(decide (x.task <0)||decide (x.due <0))=false:=hb
 have pq:(quR qb L bs).P g:=⟨quL qb L (.slice a L.length c) nb,⟨_,_,rfl⟩,hown,fun r hr=>by
  have hr:r∈[cR qb (.cells [.slice a L.length c] 107 0),slR 144 2 (.slice a L.length c) (itC L) L.length nb]:=hr
  exact S.drop.hold r hr⟩
 refine Q3<|Q6<|I1 rfl<|I0 0 rfl<|I4 rfl (S.cel 0 rfl) rfl<|Ic [_,_] rfl rfl (Qr (m71 pq hL) ⟨ag0,?_⟩);refine Ih rfl rfl<|Q0<|Q2 rfl (fun hb=>?_) fun hb=>?_
 · skip
   refine Q6<|I2 rfl<|Q0<|Q7 ?_;refine⟨.inl rfl,_,rfl,?_⟩
   exact⟨by
    have h2:0<=ofQ L x.task:=by simpa using hb
    unfold putE;rw[if_neg (by rw[hb1];decide),if_pos h2];rfl,by
    have h2:0<=ofQ L x.task:=by simpa using hb
    have:Qeq L x=false:=by unfold Qeq;rw[decide_eq_false (by omega: ¬ofQ L x.task <0),Bool.and_false]
    unfold Q4N;rw[this];exact Q20 S.drop⟩
 refine Q4 ?_;have h2:ofQ L x.task <0:=by simp at hb;omega
 have hput:Qeq L x=true:=by unfold Qeq;rw[hb1,decide_eq_true h2];rfl
 have hsr:=(S.sl 2 rfl).src;refine Q3<|Yq [(0,[]),(1,[]),(2,[]),(3,[]),(4,[]),(6,[]),(7,[]),(5,[6]),(8,[]),(9,[]),(10,[]),(11,[])] (by kernel_rfl) (by kernel_rfl) (by kernel_rfl) (by kernel_rfl)<|I1 rfl<|I1 rfl<|I6 rfl<|I0 0 rfl<|I4 rfl (S.cel 1 rfl) rfl<|I3 3 rfl (S.cel 0 rfl) (Nat.le_refl _) ?_;refine Qf (cs:= #[iV x.task,.bool x.front,iV x.due]) (e:=144) (z:=2) (zv:=.agg #[.int .i64 0,.bool false,.int .i64 0]) [(0,_)] S gn rfl (by kernel_rfl) (by kernel_rfl) (by kernel_rfl) (by kernel_rfl) rfl (by kernel_rfl) fun b2 g nb2 S=>?_
 refine Qa4 S Q9l gn rfl rfl rfl (S.sl 3 rfl).src (Q4i L) (by omega) (fun s' bs' g _ S=>ag1 (KA (n:=3) gn rfl (by kernel_rfl) (by kernel_rfl) (S.cel 2 rfl) (Nat.le_refl _) rfl (by show sameV 20 (itV x) (itV x)=true;simp[sameV,sameV.sameL,Kg])) ag0) fun s' bs' g _ S=>?_;have S:=S.toC 0 rfl;refine QE (e:=144) (z:=2) (by':=23) 0 1 S Q9l gn rfl rfl rfl rfl rfl rfl (by rfl) (by omega) (fun s' bs' g S=>ag0) fun s' bs' g S=>?_;obtain⟨sa,sc,rfl⟩:=Qa (S.sl 0 rfl);refine I6 rfl<|I0 0 rfl ?_;refine Qi 3 S gn rfl rfl rfl (by kernel_rfl) rfl (by decide) (by exact Nat.zero_lt_one) (fun g S=>ag0) fun g S=>?_;refine QL<|I2 rfl<|Q0 ?_
 refine Q7 ?_;refine⟨.inl rfl,_,rfl,?_⟩
 exact⟨by unfold putE;rw[if_neg (by rw[hb1];decide),if_neg (by omega)];rfl,by
  unfold Q4N;rw[if_pos hput];have S2:=(SH.fst (A:=[_,_]) (B:=[_,_,_]) (S.ordr [3,0,1,2,4] 5 rfl (by decide)));refine Q20 (s:=.slice sa (L.length+1) sc) (nb:=bs') ?_
  have e:quL qb (L++[x]) (.slice sa (L.length+1) sc) bs'=[cR qb (.cells [.slice sa (L.length+1) sc] 107 0),slR 144 2 (.slice sa (L.length+1) sc) (itC L++[iV x.task,.bool x.front,iV x.due]) (L.length+1) bs']:=by
   unfold quL;rw[Qbm,List.length_append];rfl
  rw[e];exact S2⟩
theorem m74 (S0:SH h0 [] [quR qb L bs] h) (hL:L.length<=1000000):C modE 74 [Qw qb,iV t] h fun v g'=>v=.bool (decide (0<=ofQ L t))/\ ∃bs',SH h bs [quR qb (Q3w L t) bs'] g':=by
 have SE:=S0.enter;have p:=S0.held 0 rfl;obtain⟨s,nb,hown,S1⟩:=Qai (A:=[]) SE;obtain⟨a,c,rfl⟩:=Qa (S1.sl 1 rfl);have S1:SH h bs [cR qb (.cells [.slice a L.length c] 107 0),slR 144 2 (.slice a L.length c) (itC L) L.length nb] h:=S1;refine Q8 (fu:=Try.f74) (by kernel_rfl) rfl ?_;have S:=S1;refine Q6<|I2 rfl<|QL<|I1 rfl<|I1 rfl<|Ic [_,_] rfl rfl (Qr (m71 p.1 hL) ⟨ag0,?_⟩);refine I2 rfl<|Z7<|I1 rfl<|Il rfl rfl<|Q0<|Q2 rfl (fun hb=>?_) fun hb=>?_
 · skip
   refine Q6<|I2 rfl<|Q0<|Q7 ?_;refine⟨.inl rfl,_,rfl,?_⟩
   exact⟨by
    have h2: ¬0<=ofQ L t:=by simp at hb;omega
    rw[decide_eq_false h2];rfl,by
    have h2: ¬0<=ofQ L t:=by simp at hb;omega
    unfold Q3w;rw[if_neg h2];exact Q20 S⟩
 refine Q4 ?_;have h2:0<=ofQ L t:=by simp at hb;omega
 obtain⟨hj1,_⟩:=Qes h2;have hde:decide (0<=ofQ L t)=true:=decide_eq_true h2;have hdr:Q3w L t=L.eraseIdx (ofQ L t).toNat:=if_pos h2;rw[hdr,hde];obtain⟨j,hj⟩: ∃j:Nat,ofQ L t=j:=⟨_,(Int.toNat_of_nonneg h2).symm⟩;rw[hj]at hj1 ⊢;rw[Int.toNat_natCast]at hj1 ⊢;obtain⟨b,r,m,rfl,hgr,rfl,hm5⟩:=Qak (S.sl 1 rfl) (by omega);have S1x:=S;obtain⟨fv,hsm,hF⟩:=Q8I (j:=j+1) Q9l (S.sl 1 rfl) (by omega);refine Q3 ?_
 refine Yq [(0,[]),(1,[]),(2,[]),(3,[]),(4,[]),(5,[]),(6,[]),(8,[]),(9,[]),(10,[]),(11,[]),(12,[]),(13,[]),(14,[]),(7,[11,13,14]),(15,[]),(16,[]),(17,[]),(18,[])] (by kernel_rfl) (by kernel_rfl) (by kernel_rfl) (by kernel_rfl)<|I1 rfl<|I1 rfl<|I6 rfl<|I0 0 rfl<|I4 rfl (S.cel 0 rfl) rfl<|I1 rfl<|Q3f Q9l gn rfl rfl rfl hgr hm5 (by omega) (by have:=(Qa0 (S.sl 1 rfl)).choose_spec;have:=(Qa0 (S.sl 1 rfl)).choose_spec.choose_spec.2.2;omega)<|I1 rfl<|I6 rfl<|I0 0 rfl<|I4 rfl (S.cel 0 rfl) rfl<|I1 rfl<|Iao rfl rfl ?_
 refine Qdl gn rfl rfl rfl (hF _ (fun _ _=>rfl)).1 ?_;refine Qa4 S Q9l gn rfl rfl rfl (Q6x (S.sl 1 rfl) (by omega)) (by rw[Q4g];exact Q4i _) (by omega) (fun s' bs' g x S=>ag1 (Kb gn rfl (by kernel_rfl) (S.cel 1 rfl) rfl rfl ZM) (ag1 (ag_add gn rfl rfl (by omega) (by omega) rfl) (ag1 (Qcv gn rfl rfl (hF g (fun i hi=>x.get i (S1x.lt i (by simp[owns,cR,slR];exact .inr (by simpa using hi))))).1 rfl hsm) ag0))) fun s' bs' g x S=>?_;refine Qa5 0 S Q9l gn rfl rfl rfl rfl (hF g (fun i hi=>x.get i (S1x.lt i (by simp[owns,cR,slR];exact .inr (by simpa using hi))))).2 (by rw[Q4h];exact Q4i _) (by omega) (fun s' bs' g S=>ag0) fun s' bs' g S=>?_;have S:=S.toC 0 rfl
 obtain⟨sa,sc,rfl⟩:=Qa (S.sl 0 rfl);refine I6 rfl<|I0 0 rfl ?_;refine Qi 1 S gn rfl rfl rfl (by kernel_rfl) rfl (by decide) (by exact Nat.zero_lt_one) (fun g S=>ag0) fun g S=>?_;refine QL<|I2 rfl<|Q0<|Q7 ?_;refine⟨.inl rfl,_,rfl,?_⟩
 exact⟨rfl,by
  have S2:=(SH.fst (A:=[_,_]) (B:=[_]) (S.ordr [1,0,2] 3 rfl (by decide)));have el:L.eraseIdx j=L.take j++L.drop (j+1):=List.eraseIdx_eq_take_drop_succ ..;have en:(L.eraseIdx j).length=j+(L.length - (j+1)):=by rw[el];simp;omega
  refine Q20 (s:=.slice sa (j+(L.length - (j+1))) sc) (nb:=bs') ?_
  have e:quL qb (L.eraseIdx j) (.slice sa (j+(L.length - (j+1))) sc) bs'=[cR qb (.cells [.slice sa (j+(L.length - (j+1))) sc] 107 0),slR 144 2 (.slice sa (j+(L.length - (j+1))) sc) ((itC L).take (j*3)++(itC L).drop ((j+1)*3)) (j+(L.length - (j+1))) bs']:=by
   unfold quL;rw[en,el,Qbm,Q4g,Q4h]
  rw[e];exact S2⟩
theorem m54 (S0:SH h0 [] [quR qb L bs] h) (hL:L.length<=1000000):C modE 54 [Qw qb,iV now] h fun v g'=>v=.tuple #[itV (Zr L now),.bool (Q2S L now)]/\ ∃bs',SH h bs [quR qb (tkQ L now) bs'] g':=by
 have SE:=S0.enter;refine YZ (fu:=Try.f54) (by kernel_rfl) rfl ?_;have S:=SE;refine Q6 ?_;refine Qo (zv:=.agg #[.int .i64 0,.bool false,.int .i64 0]) S gn rfl (by kernel_rfl) fun b1 g nb1 S=>?_;refine I2 rfl<|QL<|I1 rfl<|I1 rfl<|Ic [_,_] rfl rfl (C.mono (m51 (S.held 1 rfl) hL) ?_);rintro v g ⟨rfl,x⟩;have S:=S.grow x;refine⟨ag0,?_⟩;refine I1 rfl<|Ix rfl rfl<|Ix rfl rfl ?_;refine Qo (zv:=.agg #[.int .i64 0,.bool false,.int .i64 0]) S gn rfl (by kernel_rfl) fun b2 g nb2 S=>?_;refine Qe (n:=3) 0 S gn rfl rfl (by kernel_rfl) (by kernel_rfl) rfl rfl (by decide) rfl (fun g S=>ag0) fun g S=>?_
 refine I2 rfl<|Z7<|I1 rfl<|Q0<|Q2 rfl (fun hb=>?_) fun hb=>?_
 · skip
   refine Q1 (by kernel_rfl)<|I1 rfl<|I0 0 rfl<|I4 rfl (S.cel 0 rfl) rfl<|Ic [_,_] rfl rfl (C.mono (m74 (SH.sub1 S0 S0.own0 S 2 rfl) hL) ?_);rintro v g ⟨rfl,bs',S2⟩;have S:=S.ret 2 rfl S2;have S:SH h bs [cR b2 (.cells [iV (Zr L now).task,.bool (Zr L now).front,iV (Zr L now).due] 144 0),cR b1 (.cells [iV 0,.bool false,iV 0] 144 0),quR qb (Q3w L (Zr L now).task) bs'] g:=S;refine⟨ag0,?_⟩;refine QL<|I3 3 rfl (S.cel 0 rfl) (Nat.le_refl _)<|I1 rfl ?_;refine Qe (n:=3) 1 S gn rfl rfl (by kernel_rfl) (by kernel_rfl) rfl rfl (by decide) rfl (fun g S=>ag0) fun g S=>?_;refine I2 rfl<|Q0<|Q7 ?_
   refine⟨.inl rfl,_,(Zp rfl (by kernel_rfl) (by kernel_rfl) (S.cel 1 rfl) rfl (Yw rfl rfl)),?_⟩
   exact⟨by rw[show Q2S L now=true from hb];rfl,by
    unfold tkQ;rw[if_pos (show Q2S L now=true from hb)]
    exact⟨_,S.drop.drop⟩⟩
 refine Q4<|Q6<|I3 3 rfl (S.cel 0 rfl) (Nat.le_refl _)<|I1 rfl ?_;refine Qe (n:=3) 1 S gn rfl rfl (by kernel_rfl) (by kernel_rfl) rfl rfl (by decide) rfl (fun g S=>ag0) fun g S=>?_;refine I2 rfl<|Q0<|Q7 ?_;refine⟨.inl rfl,_,(Zp rfl (by kernel_rfl) (by kernel_rfl) (S.cel 1 rfl) rfl (Yw rfl rfl)),?_⟩
 exact⟨by rw[show Q2S L now=false from hb];rfl,by
  unfold tkQ;rw[if_neg (by rw[show Q2S L now=false from hb];decide)]
  exact⟨_,S.drop.drop⟩⟩
end
end Go.Proofs.Yteinandjhpnceaa
namespace Go.Proofs.Yteinandjhpnceaa
open Go.X Go.Mac
abbrev bsV (l:List Bool):List Value:=l.map Value.bool
def lvL (vb:Nat) (K:List Int) (E:List Bool) (s u:Value) (cb eb:List Nat):List Res:=[cR vb (.cells [s,u] 138 0),slR 3 0 s (isV K) K.length cb,slR 4 0 u (bsV E) E.length eb]
def lvR (vb:Nat) (K:List Int) (E:List Bool) (bs:List Nat):Res:=Q4E (fun Ls=> ∃s u cb eb,Ls=lvL vb K E s u cb eb) bs
theorem el3:ElN modE 63 3 0 7:=⟨by kernel_rfl,by kernel_rfl,by kernel_rfl,.int .i64 0,by kernel_rfl,rfl⟩
theorem el4:ElN modE 78 4 0 0:=⟨by kernel_rfl,by kernel_rfl,by kernel_rfl,.bool false,by kernel_rfl,rfl⟩
theorem Qe7 (l:List Bool):(bsV l).all cellV=true:=by
 rw[List.all_eq_true];intro v hv;obtain⟨k,_,rfl⟩:=List.mem_map.1 hv;rfl
section
variable {h0 h:Hp} {ds:List Nat} {A:List Res} {vb:Nat} {K:List Int} {E:List Bool} {bs:List Nat}
theorem Qb9 (S:SH h0 ds (A++[lvR vb K E bs]) h): ∃s u cb eb,owns (lvL vb K E s u cb eb)=bs/\SH h0 ds (A++lvL vb K E s u cb eb) h:=by
 obtain⟨Ls,⟨s,u,cb,eb,rfl⟩,h2,h3⟩:=Jc S;exact⟨s,u,cb,eb,h2,h3⟩
theorem Q0P {s u:Value} {cb eb:List Nat} (S:SH h0 ds (lvL vb K E s u cb eb) h): ∃bs',SH h0 ds [lvR vb K E bs'] h:=⟨_,Kz (A:=[]) S ⟨s,u,cb,eb,rfl⟩⟩
theorem Qb8 (p:(lvR vb K E bs).P h): ∃a c a' c',h.get vb=some (.cells [.slice a K.length c,.slice a' E.length c'] 138 0)/\RowV h (.slice a K.length c) (isV K)/\RowV h (.slice a' E.length c') (bsV E):=by
 obtain⟨Ls,⟨s,u,cb,eb,rfl⟩,_,hp⟩:=p;have h1:SlC 3 0 h s (isV K) K.length cb:=hp (slR 3 0 s (isV K) K.length cb) (by simp[lvL]);have h2:SlC 4 0 h u (bsV E) E.length eb:=hp (slR 4 0 u (bsV E) E.length eb) (by simp[lvL]);have h0:h.get vb=some (.cells [s,u] 138 0):=hp (cR vb (.cells [s,u] 138 0)) (by simp[lvL]);obtain⟨a,c,rfl⟩:=Qa h1;obtain⟨a',c',rfl⟩:=Qa h2;exact⟨a,c,a',c',h0,h1.row,h2.row⟩
end
theorem Q2l (l m:List Int):isV (l++m)=isV l++isV m:=List.map_append ..
theorem KV {α:Type} {l:List α} {i:Int}:inL l i=true↔0<=i/\i <l.length:=by simp[inL]
section
variable {h0 h:Hp} {vb:Nat} {K:List Int} {E:List Bool} {bs:List Nat} {c w e:Int}
theorem m80:CP modE 80 [iV c,iV w] h (.bool (Q0c c w)):=by
 refine Q8 (fu:=Try.f80) (by kernel_rfl) rfl ?_;refine Q6<|I2 rfl<|Z7<|I1 rfl<|Q0<|Q5<|Q6<|Ie rfl rfl<|I2 rfl<|Q0<|Q2 rfl (fun hb=>?_) fun hb=>?_
 · skip
   refine Q6<|I1 rfl<|Ie rfl rfl<|I2 rfl<|Q0<|Q7 ?_;refine⟨.inl rfl,_,rfl,?_⟩;exact⟨by unfold Q0c;rw[if_pos (by simpa using hb)];rfl,rfl⟩
 refine Q6<|Ie rfl rfl<|I2 rfl<|Q0<|Q2 rfl (fun hb=>?_) fun hb=>?_
 · skip
   refine Q6<|I1 rfl<|Ie rfl rfl<|I1 rfl ?_
   refine QT (n:=2) rfl rfl rfl gn rfl (fun hb=>by
    refine D1 hb rfl<|De hb rfl rfl ?_
    exact Q0 ⟨rfl,rfl,2,rfl,rfl⟩) ?_
   refine I2 rfl<|Q0<|Q7 ?_;refine⟨.inl rfl,_,rfl,?_⟩;exact⟨by simp at*;unfold Q0c;simp[*];rfl,rfl⟩
 refine Q6<|Ie rfl rfl<|I2 rfl<|Q0<|Q2 rfl (fun hb=>?_) fun hb=>?_
 · skip
   refine Q6<|I1 rfl<|Ie rfl rfl<|I2 rfl<|Q0<|Q7 ?_;refine⟨.inl rfl,_,rfl,?_⟩;exact⟨by simp at*;unfold Q0c;simp[*];rfl,rfl⟩
 refine Q6<|Ie rfl rfl<|I2 rfl<|Q0<|Q2 rfl (fun hb=>?_) fun hb=>?_
 · skip
   refine Q6<|I1 rfl<|Ie rfl rfl<|I1 rfl ?_
   refine QT (n:=2) rfl rfl rfl gn rfl (fun hb=>by
    refine D1 hb rfl<|De hb rfl rfl ?_
    exact Q0 ⟨rfl,rfl,2,rfl,rfl⟩) ?_
   refine I2 rfl<|Q0<|Q7 ?_;refine⟨.inl rfl,_,rfl,?_⟩;exact⟨by simp at*;unfold Q0c;simp[*];rfl,rfl⟩
 refine Q4<|Q6<|I2 rfl<|Q0<|Q7 ?_;refine⟨.inl rfl,_,rfl,?_⟩;exact⟨by simp at*;unfold Q0c;simp[*];rfl,rfl⟩
theorem m59 (p:(lvR vb K E bs).P h) (hC:K.length<=1000):CP modE 59 [Qw vb,iV c,iV w] h (.bool (Q6j K c w)):=by
 obtain⟨a,cc,a',c',hv,hr,_⟩:=Qb8 p;refine Q8 (fu:=Try.f59) (by kernel_rfl) rfl ?_;refine Q6<|I2 rfl<|QL<|I1 rfl<|Ih rfl rfl<|I1 rfl ?_
 refine Qp (n:=7) rfl rfl rfl gn rfl (fun hb=>by
  refine D1 hb rfl<|D1 hb rfl<|D6 hb rfl<|D0 0 hb rfl<|D4 hb rfl hv rfl<|D7 hb rfl<|Dl hb rfl rfl ?_
  exact Q0 ⟨rfl,rfl,7,rfl,rfl⟩) ?_
 refine I1 rfl ?_
 refine Qp (n:=9) rfl rfl rfl gn rfl (fun hb=>by
  have hin:inL K c=true:=hb;obtain⟨h0,h1⟩:=KV.1 hin;obtain⟨b,o,c2,cs,e2,m,hs,hg,hlt,hat⟩:=hr.atM (by omega);have hoa:a=some ⟨b,o,none⟩:=by injection hs
  have k0:cs[o+Int.toNat c*1]?=some (iV ((K[c.toNat]?).getD 0)):=by rw[Nat.mul_one,hat _ (by omega),List.getElem?_eq_getElem (by omega)];rfl
  refine D1 hb rfl<|D6 hb rfl<|D0 0 hb rfl<|D4 hb rfl hv rfl<|D1 hb rfl ?_;rw[hoa];refine D5o 1 hb rfl rfl ?_;rw[<-hoa];refine D4 hb rfl hg k0<|D1 hb rfl<|Dc hb [_,_] rfl rfl (Qr (m80) ⟨ag0,?_⟩)
  exact Q0 ⟨rfl,rfl,9,rfl,rfl⟩) ?_
 refine I2 rfl<|Q0<|Q7 ?_;refine⟨.inl rfl,_,rfl,?_⟩;exact⟨by unfold Q6j inL;rfl,rfl⟩
theorem m57 (p:(lvR vb K E bs).P h) (hE:E.length<=1000):CP modE 57 [Qw vb,iV e] h (.bool (onL E e)):=by
 obtain⟨a,cc,a',c',hv,_,hr⟩:=Qb8 p;refine Q8 (fu:=Try.f57) (by kernel_rfl) rfl ?_;refine Q6<|I2 rfl<|QL<|I1 rfl<|Ih rfl rfl<|I1 rfl ?_
 refine Qp (n:=7) rfl rfl rfl gn rfl (fun hb=>by
  refine D1 hb rfl<|D1 hb rfl<|D6 hb rfl<|D0 1 hb rfl<|D4 hb rfl hv rfl<|D7 hb rfl<|Dl hb rfl rfl ?_
  exact Q0 ⟨rfl,rfl,7,rfl,rfl⟩) ?_
 refine I1 rfl ?_
 refine Qp (n:=7) rfl rfl rfl gn rfl (fun hb=>by
  have hin:inL E e=true:=hb;obtain⟨h0,h1⟩:=KV.1 hin;obtain⟨b,o,c2,cs,e2,m,hs,hg,hlt,hat⟩:=hr.atM (by omega);have hoa:a'=some ⟨b,o,none⟩:=by injection hs
  have k0:cs[o+Int.toNat e*1]?=some (.bool ((E[e.toNat]?).getD false)):=by rw[Nat.mul_one,hat _ (by omega),List.getElem?_eq_getElem (by omega)];rfl
  refine D1 hb rfl<|D6 hb rfl<|D0 1 hb rfl<|D4 hb rfl hv rfl<|D1 hb rfl ?_;rw[hoa];refine D5o 1 hb rfl rfl ?_;rw[<-hoa];refine D4 hb rfl hg k0 ?_
  exact Q0 ⟨rfl,rfl,7,rfl,rfl⟩) ?_
 refine I2 rfl<|Q0<|Q7 ?_;refine⟨.inl rfl,_,rfl,?_⟩;exact⟨by unfold onL inL;rfl,rfl⟩
theorem m60 (S0:SH h0 [] [lvR vb K E bs] h) (hC:K.length<=1000):C modE 60 [Qw vb,iV c,iV w] h fun v g'=>v=iV (if Q6j K c w=true then 0 else if inL K c=true/\0<=w/\w<=3 then 10 else 2)/\ ∃bs',SH h bs [lvR vb (goL K c w) E bs'] g':=by
 have SE:=S0.enter;have p:=S0.res 0 rfl;obtain⟨s,u,cb,eb,hown,S1⟩:=Qb9 (A:=[]) SE;obtain⟨a,cc,rfl⟩:=Qa (S1.sl 1 rfl);have S1:SH h bs [cR vb (.cells [.slice a K.length cc,u] 138 0),slR 3 0 (.slice a K.length cc) (isV K) K.length cb,slR 4 0 u (bsV E) E.length eb] h:=S1;refine Q8 (fu:=Try.f60) (by kernel_rfl) rfl ?_;have S:=S1;refine Q6<|I2 rfl<|Z7<|I1 rfl<|Il rfl rfl<|I1 rfl ?_
 refine QT (n:=7) rfl rfl rfl gn rfl (fun hb=>by
  refine D1 hb rfl<|D1 hb rfl<|D6 hb rfl<|D0 0 hb rfl<|D4 hb rfl (S.cel 0 rfl) rfl<|D7 hb rfl<|Dh hb rfl rfl ?_
  exact Q0 ⟨rfl,rfl,7,rfl,rfl⟩) ?_
 refine I1 rfl ?_
 refine QT (n:=2) rfl rfl rfl gn rfl (fun hb=>by
  refine D1 hb rfl<|Dl hb rfl rfl ?_
  exact Q0 ⟨rfl,rfl,2,rfl,rfl⟩) ?_
 refine I1 rfl ?_
 refine QT (n:=2) rfl rfl rfl gn rfl (fun hb=>by
  refine D1 hb rfl<|Dg hb rfl rfl ?_
  exact Q0 ⟨rfl,rfl,2,rfl,rfl⟩) ?_
 refine Q0<|Q2 rfl (fun hb=>?_) fun hb=>?_
 · skip
   refine Q6<|I2 rfl<|Q0<|Q7 ?_;refine⟨.inl rfl,_,rfl,?_⟩
   exact⟨by
    have h1: ¬(inL K c=true/\0<=w/\w<=3):=by
     rw[KV];intro h1;simp at hb;omega
    have h2: ¬Q6j K c w=true:=by
     unfold Q6j;simp only[Bool.and_eq_true];exact fun⟨h3,h4⟩=>h1 ⟨h3,Q1z h4⟩
    rw[if_neg h2,if_neg h1];rfl,by
    have h1: ¬(inL K c=true/\0<=w/\w<=3):=by
     rw[KV];intro h1;simp at hb;omega
    have h2: ¬Q6j K c w=true:=by
     unfold Q6j;simp only[Bool.and_eq_true];exact fun⟨h3,h4⟩=>h1 ⟨h3,Q1z h4⟩
    unfold goL;rw[if_neg h2];exact Q0P S⟩
 refine Q4 ?_
 have hin:inL K c=true/\0<=w/\w<=3:=by
  rw[KV];simp at hb;omega
 refine Q3<|Q6<|I1 rfl<|I1 rfl<|I1 rfl<|Ic [_,_,_] rfl rfl (Qr (m59 p hC) ⟨ag0,?_⟩);refine Ib rfl<|Q0<|Q2 rfl (fun hb=>?_) fun hb=>?_
 · skip
   refine Q6<|I2 rfl<|Q0<|Q7 ?_;refine⟨.inl rfl,_,rfl,?_⟩
   exact⟨by
    have h2: ¬Q6j K c w=true:=by simpa using hb
    rw[if_neg h2,if_pos hin];rfl,by
    have h2: ¬Q6j K c w=true:=by simpa using hb
    unfold goL;rw[if_neg h2];exact Q0P S⟩
 refine Q4 ?_;have h2:Q6j K c w=true:=by simpa using hb
 obtain⟨hc0,hc1⟩:=KV.1 hin.1;obtain⟨b,c2,hs,_,hcl⟩:=JR (S.sl 1 rfl) (by omega);obtain⟨rfl,rfl⟩:a=some ⟨b,0,none⟩/\cc=c2:=by simpa using hs
 refine Q6<|I1 rfl<|I6 rfl<|I0 0 rfl<|I4 rfl (S.cel 0 rfl) rfl<|I1 rfl<|I1 rfl<|I5o 1 rfl rfl<|ZG 1 S gn rfl rfl rfl (by kernel_rfl) rfl rfl (by rw[List.length_map];omega) (fun g S=>ag0) fun g S=>?_;refine QL<|I2 rfl<|Q0<|Q7 ?_;refine⟨.inl rfl,_,rfl,?_⟩
 exact⟨by rw[if_pos h2];rfl,by
  unfold goL;rw[if_pos h2];have e:isV (K.set c.toNat w)=(isV K).set (0+c.toNat*1) (iV w):=by rw[Nat.zero_add,Nat.mul_one,KU]
  refine Q0P (s:=.slice (some ⟨b,0,none⟩) K.length cc) (u:=u) (cb:=cb) (eb:=eb) ?_
  unfold lvL;rw[e,List.length_set];exact S⟩
theorem m96 {on:Bool} (S0:SH h0 [] [lvR vb K E bs] h) (hE:E.length<=1000):C modE 96 [Qw vb,iV e,.bool on] h fun v g'=>v=.bool (Q6n E e on)/\ ∃bs',SH h bs [lvR vb K (QcB E e on) bs'] g':=by
 have SE:=S0.enter;obtain⟨s,u,cb,eb,hown,S1⟩:=Qb9 (A:=[]) SE;obtain⟨a,cc,rfl⟩:=Qa (S1.sl 2 rfl);have S1:SH h bs [cR vb (.cells [s,.slice a E.length cc] 138 0),slR 3 0 s (isV K) K.length cb,slR 4 0 (.slice a E.length cc) (bsV E) E.length eb] h:=S1;refine Q8 (fu:=Try.f96) (by kernel_rfl) rfl ?_;have S:=S1;refine Q6<|I2 rfl<|Z7<|I1 rfl<|Il rfl rfl<|I1 rfl ?_
 refine QT (n:=7) rfl rfl rfl gn rfl (fun hb=>by
  refine D1 hb rfl<|D1 hb rfl<|D6 hb rfl<|D0 1 hb rfl<|D4 hb rfl (S.cel 0 rfl) rfl<|D7 hb rfl<|Dh hb rfl rfl ?_
  exact Q0 ⟨rfl,rfl,7,rfl,rfl⟩) ?_
 refine Q0<|Q2 rfl (fun hb=>?_) fun hb=>?_
 · skip
   refine Q6<|I2 rfl<|Q0<|Q7 ?_;refine⟨.inl rfl,_,rfl,?_⟩
   exact⟨by
    have h1:inL E e=false:=by unfold inL;simp at hb ⊢;omega
    unfold Q6n;rw[h1];rfl,by
    have h1:inL E e=false:=by unfold inL;simp at hb ⊢;omega
    unfold QcB;rw[h1];exact Q0P S⟩
 refine Q4 ?_;have h1:inL E e=true:=by rw[KV];simp at hb;omega
 obtain⟨he0,he1⟩:=KV.1 h1;obtain⟨b,c2,hs,_,hcl⟩:=JR (S.sl 2 rfl) (by omega);obtain⟨rfl,rfl⟩:a=some ⟨b,0,none⟩/\cc=c2:=by simpa using hs
 obtain⟨r,m,hgr⟩:=Q52 (S.sl 2 rfl);have hlt:e.toNat <E.length:=by omega
 have k0:(bsV E++r)[0+Int.toNat e*1]?=some (.bool ((E[e.toNat]?).getD false)):=by
  rw[Nat.zero_add,Nat.mul_one,List.getElem?_append_left (by rw[List.length_map];exact hlt),List.getElem?_map,List.getElem?_eq_getElem hlt];rfl
 refine Q6<|I1 rfl<|I1 rfl ?_
 refine Qp (n:=8) rfl rfl rfl gn rfl (fun hb=>by
  refine D1 hb rfl<|D6 hb rfl<|D0 1 hb rfl<|D4 hb rfl (S.cel 0 rfl) rfl<|D1 hb rfl<|D5o 1 hb rfl rfl<|D4 hb rfl hgr k0<|Db hb rfl ?_
  exact Q0 ⟨rfl,rfl,8,rfl,rfl⟩) ?_
 refine I2 rfl<|QL<|I1 rfl<|I6 rfl<|I0 1 rfl<|I4 rfl (S.cel 0 rfl) rfl<|I1 rfl<|I1 rfl<|I5o 1 rfl rfl<|ZG 2 S gn rfl rfl rfl (by kernel_rfl) rfl rfl (by rw[List.length_map];omega) (fun g S=>ag0) fun g S=>?_;refine QL<|I1 rfl<|I2 rfl<|Q0<|Q7 ?_;refine⟨.inl rfl,_,rfl,?_⟩
 exact⟨by unfold Q6n;rw[h1];rfl,by
  unfold QcB;rw[if_pos h1];have e2:bsV (E.set e.toNat on)=(bsV E).set (0+e.toNat*1) (.bool on):=by rw[Nat.zero_add,Nat.mul_one];simp
  refine Q0P (s:=s) (u:=.slice (some ⟨b,0,none⟩) E.length cc) (cb:=cb) (eb:=eb) ?_
  unfold lvL;rw[e2,List.length_set];exact S⟩
theorem m25 {n:Nat} {ov:Value} (R:RowV h ov (bsV E)) (hE:E.length<=1000) (hn:n<=1000):C modE 25 [iV n,ov] h fun v g'=> ∃b bs',v=Qw b/\SH h [] [lvR b (List.replicate n (-1)) E bs'] g':=by
 obtain⟨oa,oc,rfl⟩:=R.valM;have hsrc:=R.src;rw[List.length_map]at hsrc;refine Q8 (fu:=Try.f25) (by kernel_rfl) rfl ?_;have S:=SH.start h;refine Q6<|I2 rfl<|QL<|I1 rfl ?_;refine Qep S el4 gn rfl rfl rfl hsrc (Qe7 E) (by omega) (fun s' bs' g S=>ag0) fun s' bs' g S=>?_;obtain⟨ea,ec,rfl⟩:=Qa (S.sl 0 rfl);refine Qz (zv:=.agg #[.slice none 0 0,.slice none 0 0]) (pl:=[(0,1),(1,1)]) [(1,_)] gn rfl (by kernel_rfl) (by kernel_rfl) rfl (by rfl) ?_;refine QX S gn rfl rfl fun b1 g nb1 S=>?_;have S:=S.nilSl 3 0
 have S:SH h [] [slR 3 0 (.slice none 0 0) [] 0 [],cR b1 (.cells [.slice none 0 0,.slice ea E.length ec] 138 0),slR 4 0 (.slice ea E.length ec) (bsV E) E.length bs'] g:=S;refine I2 rfl<|Z7<|I2 rfl<|Q0<|Q5<|Qh [(6,_)] [(0,_),(5,_)] (by repeat(first|exact trivial|refine⟨rfl,?_⟩)) (fun kk lv hh=> ∃(i:Nat) (sa:Option Addr) (sc:Nat) (cb:List Nat),lv=[(6,iV i)]/\kk=n -i/\i<=n/\SH h [] [slR 3 0 (.slice sa i sc) (isV (List.replicate i (-1))) i cb,cR b1 (.cells [.slice sa i sc,.slice ea E.length ec] 138 0),slR 4 0 (.slice ea E.length ec) (bsV E) E.length bs'] hh) (n:=n) ?_ fun kk lv hh hI=>?_
 · exact⟨0,none,0,[],rfl,rfl,Nat.zero_le _,S⟩
 obtain⟨i,sa,sc,cb,rfl,hkk,hi,S⟩:=hI;refine Q3<|Q6<|I1 rfl<|I1 rfl<|Il rfl rfl<|Q0<|Q2 rfl (fun hb=>?_) fun hb=>?_
 · skip
   refine Q4 ?_;have hi:i <n:=by simp at hb;omega
   refine Q3<|Q5<|Q1 (by kernel_rfl)<|I1 rfl<|I1 rfl<|I6 rfl<|I0 0 rfl<|I4 rfl (S.cel 1 rfl) rfl ?_;refine Qf (e:=3) (z:=0) (zv:=.int .i64 0) [(0,_)] S gn rfl (by kernel_rfl) (by kernel_rfl) (by kernel_rfl) (by kernel_rfl) rfl (by rfl) fun b2 g nb2 S=>?_;refine QE (e:=3) (z:=0) (by':=7) 1 0 S el3 gn rfl rfl rfl rfl rfl rfl (by rfl) (by omega) (fun s' bs' g S=>ag0) fun s' bs' g S=>?_;obtain⟨sa',sc',rfl⟩:=Qa (S.sl 1 rfl);refine I6 rfl<|I0 0 rfl ?_;refine Qi 2 S gn rfl rfl rfl (by kernel_rfl) rfl (by decide) (by simp) (fun g S=>ag0) fun g S=>?_;refine Q0 ?_
   refine Q1 (by kernel_rfl)<|I1 rfl<|Iao rfl rfl<|I2 rfl<|Q0 ?_
   exact Z6 (n - (i+1)) (by omega) [(6,_)] (by repeat(first|exact trivial|refine⟨rfl,?_⟩)) ⟨i+1,sa',sc',_,rfl,rfl,by omega,by
    have:=S.drop
    rw[List.replicate_succ',Q2l];exact this⟩
 refine Ql<|Q9<|Qc<|Qm ?_;obtain rfl:i=n:=by simp at hb;omega
 refine Q6<|I1 rfl<|I2 rfl<|Q0<|Q7 ?_;refine⟨.inl rfl,_,rfl,?_⟩
 exact⟨b1,by
  have S2:=S.ordr [1,0,2] 3 rfl (by decide);obtain⟨bs2,S3⟩:=Q0P (vb:=b1) (K:=List.replicate i (-1)) (E:=E) (s:=.slice sa i sc) (u:=.slice ea E.length ec) (cb:=cb) (eb:=bs') (by unfold lvL;rw[List.length_replicate];exact S2)
  exact⟨bs2,rfl,S3⟩⟩
end
end Go.Proofs.Yteinandjhpnceaa
namespace Go.May
open Go.X
abbrev iV (k:Int):Value:=.int .i64 k
abbrev isV (l:List Int):List Value:=l.map fun n=>.int .i64 n
abbrev Qw (i:Nat):Value:=.pointer (some ⟨i,0,none⟩)
def RowP {α:Type} (w:Nat) (D:List Value->α->Prop) (h:Hp) (v:Value) (l:List α):Prop:=
 (l=[]/\ ∃a c,v=.slice a 0 c)\/ ∃b o c cs e m,v=.slice (some ⟨b,o,none⟩) l.length c/\h.get b=some (.cells cs e m)/\b <h.n/\o+l.length*w<=cs.length/\ ∀i (hi:i <l.length),D ((cs.drop (o+i*w)).take w) l[i]
section
variable {α:Type} {w:Nat} {D D':List Value->α->Prop} {h h':Hp} {v:Value} {l:List α}
theorem RowP.ext (x:RowP w D h v l) (g:Ext h h') (hd: ∀c a,D c a->D' c a):RowP w D' h' v l:=by
 rcases x with x| ⟨b,o,c,cs,e,m,h1,h2,h3,h4,h5⟩
 · exact .inl x
 exact .inr ⟨b,o,c,cs,e,m,h1,(g.get b h3).trans h2,Nat.lt_of_lt_of_le h3 g.n,h4,fun i hi=>hd _ _ (h5 i hi)⟩
theorem RowP.val (x:RowP w D h v l): ∃a c,v=.slice a l.length c:=by
 rcases x with⟨rfl,a,c,h1⟩| ⟨b,o,c,cs,e,m,h1,_⟩
 · exact⟨a,c,h1⟩
 exact⟨_,c,h1⟩
theorem RowP.at (x:RowP w D h v l) (hn:0 <l.length): ∃b o c cs e m,v=.slice (some ⟨b,o,none⟩) l.length c/\h.get b=some (.cells cs e m)/\b <h.n/\o+l.length*w<=cs.length/\ ∀i (hi:i <l.length),D ((cs.drop (o+i*w)).take w) l[i]:=by
 rcases x with⟨rfl,_⟩|x
 · simp at hn
 exact x
end
theorem Jr {cs r:List Value} {p z f:Nat} {v:Value} (h:(cs.drop p).take z=r) (hf:f <z) (hr:r[f]?=some v):cs[p+f]?=some v:=by
 rw[<-List.getElem?_drop,<-List.getElem?_take_of_lt hf,h];exact hr
abbrev I64 (n:Int):Prop:= -9223372036854775808<=n/\n<=9223372036854775807
abbrev insC (x:Ins) (lv:Value) (ln:Int):List Value:=[iV x.op,iV x.a,iV x.b,iV x.c,iV x.n,lv,iV x.site,iV ln]
structure InsD (h:Hp) (cs:List Value) (x:Ins):Prop where
 row: ∃lv ln,cs=insC x lv ln/\RowV h lv (isV x.l)
 op:I64 x.op
 a:I64 x.a
 b:I64 x.b
 c:I64 x.c
 n:I64 x.n
 len:x.l.length<=17592186043904
 l: ∀k,k∈x.l->I64 k
 site:I64 x.site
abbrev Qgs (s:ByteArray) (F:Fun) (cv:Value):List Value:=[.string s,iV F.caps,iV F.regs,cv]
structure FunD (h:Hp) (cs:List Value) (F:Fun):Prop where
 row: ∃s cv,cs=Qgs s F cv/\RowP 8 (InsD h) h cv F.code
 caps:I64 F.caps
 regs:I64 F.regs
 len:F.code.length<=9223372036854775807
structure ClassD (cs:List Value) (c:Nat×Nat):Prop where
 row: ∃s a b d e,cs=[.string s,.slice a c.1 b,.slice d c.2 e]
 l1:c.1<=9223372036854775807
 l2:c.2<=9223372036854775807
structure CompD (cs:List Value) (c:Int×List Int):Prop where
 row: ∃s f0 f1 f2 f3,cs=[.string s,iV c.1,iV f0,iV f1,iV f2,iV f3]/\c.2=[f0,f1,f2,f3]
 lo:I64 c.1
 fs: ∀k,k∈c.2->I64 k
structure EventD (cs:List Value) (c:Int×Int):Prop where
 row: ∃s b,cs=[.string s,iV c.1,.bool b,iV c.2]
 lo:I64 c.1
 f:I64 c.2
structure SiteD (cs:List Value) (c:Int×Int):Prop where
 row:cs=[iV c.1,iV c.2]
 f:I64 c.1
 at':I64 c.2
structure PrgAt (h:Hp) (P:Prg) (lo cl gl fu co ev si:Value):Prop where
 lo: ∃a c,lo=.slice a P.loopers c
 cl:RowP 3 ClassD h cl P.classes
 gl: ∃a c,gl=.slice a P.globals c
 fu:RowP 4 (FunD h) h fu P.funs
 co:RowP 6 CompD h co P.comps
 ev:RowP 4 EventD h ev P.events
 si:RowP 2 SiteD h si P.sites
 main:I64 P.main
 zlo:P.loopers<=9223372036854775807
 zcl:P.classes.length<=9223372036854775807
 zgl:P.globals<=9223372036854775807
 zfu:P.funs.length<=9223372036854775807
 zco:P.comps.length<=9223372036854775807
 zev:P.events.length<=9223372036854775807
 zsi:P.sites.length<=9223372036854775807
abbrev Q9A (P:Prg) (lo cl gl fu co ev si:Value):List Value:=[lo,cl,gl,fu,co,ev,iV P.main,si]
section
variable {h h':Hp} {P:Prg} {lo cl gl fu co ev si:Value} {cs:List Value}
theorem InsD.ext {x:Ins} (d:InsD h cs x) (g:Ext h h'):InsD h' cs x:=by
 obtain⟨⟨lv,ln,h1,h2⟩,a1,a2,a3,a4,a5,a6,a7,a8⟩:=d;exact⟨⟨lv,ln,h1,h2.ext g⟩,a1,a2,a3,a4,a5,a6,a7,a8⟩
theorem FunD.ext {F:Fun} (d:FunD h cs F) (g:Ext h h'):FunD h' cs F:=by
 obtain⟨⟨s,cv,h1,h2⟩,a1,a2,a3⟩:=d;exact⟨⟨s,cv,h1,h2.ext g fun _ _ d=>d.ext g⟩,a1,a2,a3⟩
theorem PrgAt.ext (x:PrgAt h P lo cl gl fu co ev si) (g:Ext h h'):PrgAt h' P lo cl gl fu co ev si:=by
 obtain⟨a1,a2,a3,a4,a5,a6,a7,a8,r1,r2,r3,r4,r5,r6,r7⟩:=x;exact⟨a1,a2.ext g fun _ _ d=>d,a3,a4.ext g fun _ _ d=>d.ext g,a5.ext g fun _ _ d=>d,a6.ext g fun _ _ d=>d,a7.ext g fun _ _ d=>d,a8,r1,r2,r3,r4,r5,r6,r7⟩
end
end Go.May
namespace Go.May
open Go.X
abbrev QcD (P:Prg) (lo cl gl fu co ev si:Value):Value:=.agg #[lo,cl,gl,fu,co,ev,iV P.main,si]
abbrev funV (s:ByteArray) (F:Fun) (cv:Value):Value:=.agg #[.string s,iV F.caps,iV F.regs,cv]
abbrev QfQ (x:Ins) (lv:Value) (ln:Int):Value:=.agg #[iV x.op,iV x.a,iV x.b,iV x.c,iV x.n,lv,iV x.site,iV ln]
section
variable {h:Hp} {P:Prg} {lo cl gl fu co ev si:Value} {f:Int}
theorem PrgAt.caps (X:PrgAt h P lo cl gl fu co ev si) (hf:inB f P.funs.length=true): ∃b o c cs e m,fu=.slice (some ⟨b,o,none⟩) P.funs.length c/\h.get b=some (.cells cs e m)/\b <h.n/\0<=f/\f <P.funs.length/\cs[o+f.toNat*4+1]?=some (iV (Js P f)):=by
 obtain⟨h1,h2⟩:=Z9.1 hf;obtain⟨b,o,c,cs,e,m,hv,hg,hlb,hl6,hat⟩:=X.fu.at (by omega);refine⟨b,o,c,cs,e,m,hv,hg,hlb,h1,h2,?_⟩;obtain⟨j,rfl⟩:=Int.eq_ofNat_of_zero_le h1;have hj:j <P.funs.length:=by omega
 obtain⟨s,cv,e1,_⟩:=(hat j hj).row;rw[Int.toNat_natCast,Qgc hj];exact Jr e1 (by omega) rfl
theorem PrgAt.vals (X:PrgAt h P lo cl gl fu co ev si):(∃a c,lo=.slice a P.loopers c)/\(∃a c,cl=.slice a P.classes.length c)/\(∃a c,gl=.slice a P.globals c)/\(∃a c,fu=.slice a P.funs.length c)/\(∃a c,co=.slice a P.comps.length c)/\(∃a c,ev=.slice a P.events.length c)/\ ∃a c,si=.slice a P.sites.length c:=
 ⟨X.lo,X.cl.val,X.gl,X.fu.val,X.co.val,X.ev.val,X.si.val⟩
end
section
variable {F:Fun} {x:Ins}
theorem regs3 (o:Int):Yo o<=3:=by
 unfold Yo;split<;>(try split)<;>(try split)<;>omega
theorem Qaf {j:Nat} (hj:j <3):([x.a,x.b,x.c].take (j+1)).all (fun r=>inB r F.regs)=(([x.a,x.b,x.c].take j).all (fun r=>inB r F.regs)&&inB ([x.a,x.b,x.c][j]) F.regs):=by
 rw[List.take_add_one,List.getElem?_eq_getElem (by simpa using hj),List.all_append];simp
theorem Qag {j:Nat} (hj:j <Yo x.op) (hj3:j <3) (hf:inB ([x.a,x.b,x.c][j]) F.regs=false):Q2Q F x=false:=by
 unfold Q2Q;rw[<-Bool.not_eq_true];intro h;have:=List.all_eq_true.1 h ([x.a,x.b,x.c][j]) (List.mem_take_iff_getElem.2 ⟨j,by simp;omega,rfl⟩);rw[hf]at this;cases this
theorem l_step {j:Nat} (hj:j <x.l.length):((x.l.take (j+1)).all fun r=>decide (x.op=21)&&inB r F.regs)=(((x.l.take j).all fun r=>decide (x.op=21)&&inB r F.regs)&&(decide (x.op=21)&&inB x.l[j] F.regs)):=by
 rw[List.take_add_one,List.getElem?_eq_getElem hj,List.all_append];simp
theorem l_fail {j:Nat} (hj:j <x.l.length) (hf:(decide (x.op=21)&&inB x.l[j] F.regs)=false):lB F x=false:=by
 unfold lB;rw[<-Bool.not_eq_true];intro h;have:=List.all_eq_true.1 h _ (List.getElem_mem hj);rw[hf]at this;cases this
theorem Qbs {P:Prg} (h:(decide (1<=x.op)&&decide (x.op<=33))=false):Z2 P F x=false:=by rw[Z2,h,Bool.false_and]
theorem Qbr {P:Prg} (h:Q2Q F x=false):Z2 P F x=false:=by rw[Z2,h,Bool.false_and,Bool.and_false]
theorem Qbq {P:Prg} (h:lB F x=false):Z2 P F x=false:=by rw[Z2,h,Bool.false_and,Bool.and_false,Bool.and_false]
theorem Qbp {P:Prg} (h1:(decide (1<=x.op)&&decide (x.op<=33))=true) (h2:Q2Q F x=true) (h3:lB F x=true):Z2 P F x=Q18 P F x:=by rw[Z2,h1,h2,h3,Bool.true_and,Bool.true_and,Bool.true_and]
theorem op_out {o:Int} (h:(decide (o <1)||decide (33 <o))=true):(decide (1<=o)&&decide (o<=33))=false:=by
 simp only[Bool.or_eq_true,decide_eq_true_eq]at h;rw[Bool.and_eq_false_iff,decide_eq_false_iff_not,decide_eq_false_iff_not];omega
theorem op_in {o:Int} (h:(decide (o <1)||decide (33 <o))=false):(decide (1<=o)&&decide (o<=33))=true:=by
 simp only[Bool.or_eq_false_iff,decide_eq_false_iff_not]at h;rw[Bool.and_eq_true,decide_eq_true_eq,decide_eq_true_eq];omega
end
theorem Q0s {α:Type} {p:α->Bool} {l:List α} {j:Nat} (hj:j <l.length):(l.take (j+1)).all p=((l.take j).all p&&p l[j]):=by
 rw[List.take_add_one,List.getElem?_eq_getElem hj,List.all_append];simp
theorem Jd {α:Type} {p:α->Bool} {l:List α} {j:Nat} (hj:j <l.length) (h:p l[j]=false):l.all p=false:=by
 rw[<-Bool.not_eq_true];intro h';have:=List.all_eq_true.1 h' _ (List.getElem_mem hj);rw[h]at this;cases this
section
variable {cs:List Value} {p:Nat}
theorem CompD.len {c:Int×List Int} {r:List Value} (d:CompD r c):c.2.length=4:=by
 obtain⟨s,f0,f1,f2,f3,_,e⟩:=d.row;rw[e];rfl
theorem CompD.fn {c:Int×List Int} (d:CompD ((cs.drop p).take 6) c) {k:Nat} (hk:k <c.2.length):cs[p+2+k]?=some (iV c.2[k]):=by
 have h4:=d.len;obtain⟨s,f0,f1,f2,f3,e,e2⟩:=d.row
 have h:cs[p+(2+k)]?=some (iV c.2[k]):=by
  refine Jr e (by omega) ?_;simp only[e2];have hk4:k <4:=by omega
  match k,hk4 with
  |0,_=>rfl
  |1,_=>rfl
  |2,_=>rfl
  |3,_=>rfl
 rw[<-Nat.add_assoc]at h;exact h
theorem CompD.lp {c:Int×List Int} (d:CompD ((cs.drop p).take 6) c):cs[p+1]?=some (iV c.1):=by
 obtain⟨s,f0,f1,f2,f3,e,_⟩:=d.row;exact Jr e (by omega) rfl
theorem EventD.lp {c:Int×Int} (d:EventD ((cs.drop p).take 4) c):cs[p+1]?=some (iV c.1)/\cs[p+3]?=some (iV c.2):=by
 obtain⟨s,b,e⟩:=d.row;exact⟨Jr e (by omega) rfl,Jr e (by omega) rfl⟩
theorem ClassD.at {c:Nat×Nat} (d:ClassD ((cs.drop p).take 3) c): ∃a b e g,cs[p+1]?=some (.slice a c.1 b)/\cs[p+2]?=some (.slice e c.2 g):=by
 obtain⟨s,a,b,e,g,h⟩:=d.row;exact⟨a,b,e,g,Jr h (by omega) rfl,Jr h (by omega) rfl⟩
end
section
variable {P:Prg} {r:Bool}
def Q8K (P:Prg):Bool:=(((((((decide ((P.loopers:Int)<1)||decide ((8:Int)<P.loopers))||decide ((16:Int)<P.classes.length))||decide ((32:Int)<P.globals))||decide ((8:Int)<P.comps.length))||decide ((8:Int)<P.events.length))||decide ((P.funs.length:Int)<1))||decide ((64:Int)<P.funs.length))
theorem QeV (h:Q8K P=true):YU P=false:=by
 simp only[Q8K,Bool.or_eq_true,decide_eq_true_eq]at h
 have:Q8L P=false:=by
  rw[<-Bool.not_eq_true];intro h';simp only[Q8L,Bool.and_eq_true,decide_eq_true_eq]at h';omega
 rw[YU,this,Bool.false_and]
theorem Q7E (h:Q8K P=false):Q8L P=JX P P.main:=by
 simp only[Q8K,Bool.or_eq_false_iff,decide_eq_false_iff_not]at h;rw[Q8L,decide_eq_true (by omega:1<=P.loopers),decide_eq_true (by omega:P.loopers<=8),decide_eq_true (by omega:P.classes.length<=16),decide_eq_true (by omega:P.globals<=32),decide_eq_true (by omega:P.comps.length<=8),decide_eq_true (by omega:P.events.length<=8),decide_eq_true (by omega:1<=P.funs.length),decide_eq_true (by omega:P.funs.length<=64)];simp
theorem Qa1 (h:Q8K P=false) (hr:JX P P.main=false):YU P=false:=by rw[YU,Q7E h,hr,Bool.false_and]
theorem Qar (h:Q8K P=false) (hr:JX P P.main=true):YU P=(P.classes.all Q2G&&(P.comps.all (Q7i P)&&P.events.all (Q2v P))):=by rw[YU,Q7E h,hr,Bool.true_and]
theorem Qe4 {c:Nat×Nat} (h:(decide ((8:Int)<c.2)|| !decide ((c.1:Int)=c.2))=true):Q2G c=false:=by
 rw[<-Bool.not_eq_true];intro h';simp only[Q2G,Bool.and_eq_true,decide_eq_true_eq]at h';simp at h;omega
theorem Qch {c:Nat×Nat} (h:(decide ((8:Int)<c.2)|| !decide ((c.1:Int)=c.2))=false):Q2G c=true:=by
 simp at h;rw[Q2G,decide_eq_true (by omega:c.2<=8),decide_eq_true (by omega:c.1=c.2)];rfl
end
end Go.May
namespace Go.Proofs.Yteinandjhpnceaa
open Go.X Go.May
section
variable {h:Hp} {n m o:Int}
theorem c18:CP modE 47 [iV n,iV m] h (.bool (inB n m)):=by
 refine Q8 (fu:=Try.f47) (by kernel_rfl) rfl ?_;refine Q6<|I2 rfl<|QL<|I1 rfl<|Ih rfl rfl<|I1 rfl ?_
 refine Qp (n:=3) rfl rfl rfl gn rfl (fun hb=>by
  refine D1 hb rfl<|D1 hb rfl<|Dl hb rfl rfl ?_
  exact Q0 ⟨rfl,rfl,3,rfl,rfl⟩) ?_
 refine I2 rfl<|Q0<|Q7 ?_;refine⟨.inl rfl,_,rfl,?_⟩;exact⟨rfl,rfl⟩
theorem c19:CP modE 48 [iV o] h (iV (Yo o)):=by
 refine Q8 (fu:=Try.f48) (by kernel_rfl) rfl ?_;have S:=SH.start h;refine Q6<|I2 rfl<|Z7<|I1 rfl<|Q0<|Q5<|Yt 3 [(26,5),(27,6),(31,7),(33,8)] [(3,_)] (by kernel_rfl) rfl (by repeat(first|exact trivial|refine⟨rfl,?_⟩)) (by rfl) (fun hb=>?_) fun hb=>?_
 · skip
   refine Q6<|I2 rfl<|Q0<|Q7 ?_;refine⟨.inl rfl,_,rfl,?_⟩;exact⟨by rw[Yo,if_pos (show o∈Q6W from of_decide_eq_true hb)];rfl,rfl⟩
 have hb1:o∉Q6W:=of_decide_eq_false hb;refine Yt 3 [(1,10),(8,11),(9,12),(10,13),(11,14),(14,15),(21,16),(22,17),(25,18),(29,19),(30,20),(32,21)] [(3,_)] (by kernel_rfl) rfl (by repeat(first|exact trivial|refine⟨rfl,?_⟩)) (by rfl) (fun hb=>?_) fun hb=>?_
 · skip
   refine Q6<|I2 rfl<|Q0<|Q7 ?_;refine⟨.inl rfl,_,rfl,?_⟩;exact⟨by rw[Yo,if_neg hb1,if_pos (show o∈ones from of_decide_eq_true hb)];rfl,rfl⟩
 have hb2:o∉ones:=of_decide_eq_false hb;refine Yt 3 [(3,23),(4,24),(5,25),(6,26),(7,27),(18,28),(19,29)] [] (by kernel_rfl) rfl (by repeat(first|exact trivial|refine⟨rfl,?_⟩)) (by rfl) (fun hb=>?_) fun hb=>?_
 · skip
   refine Q6<|I2 rfl<|Q0<|Q7 ?_;refine⟨.inl rfl,_,rfl,?_⟩;exact⟨by rw[Yo,if_neg hb1,if_neg hb2,if_pos (show o∈Q9R from of_decide_eq_true hb)];rfl,rfl⟩
 refine Q4<|Q6<|I2 rfl<|Q0<|Q7 ?_;refine⟨.inl rfl,_,rfl,?_⟩;exact⟨by rw[Yo,if_neg hb1,if_neg hb2,if_neg (show o∉Q9R from of_decide_eq_false hb)];rfl,rfl⟩
theorem c10:CP modE 24 [iV o] h (.bool (Q1g o)):=by
 refine Q8 (fu:=Try.f24) (by kernel_rfl) rfl ?_;refine Q6<|I2 rfl<|QL<|I1 rfl<|Ih rfl rfl<|I1 rfl ?_
 refine Qp (n:=2) rfl rfl rfl gn rfl (fun hb=>by
  refine D1 hb rfl<|Dm hb rfl rfl ?_
  exact Q0 ⟨rfl,rfl,2,rfl,rfl⟩) ?_
 refine I1 rfl ?_
 refine Qp (n:=2) rfl rfl rfl gn rfl (fun hb=>by
  refine D1 hb rfl<|Dn hb rfl rfl ?_
  exact Q0 ⟨rfl,rfl,2,rfl,rfl⟩) ?_
 refine I2 rfl<|Q0<|Q7 ?_;refine⟨.inl rfl,_,rfl,?_⟩;exact⟨by rw[Q1g,decide_not];rfl,rfl⟩
end
end Go.Proofs.Yteinandjhpnceaa
namespace Go.Proofs.Yteinandjhpnceaa
open Go.X Go.May
section
variable {h g:Hp} {P:Prg} {lo cl gl fu co ev si sv:Value} {f:Int} {kb:Nat}
theorem c17 (X:PrgAt h P lo cl gl fu co ev si):C modE 46 [QcD P lo cl gl fu co ev si,iV f] h fun v h'=>v=.bool (JX P f)/\Ext h h':=by
 obtain⟨-,-,-,⟨fa,fc,rfl⟩,-⟩:=X.vals;refine Q8 (fu:=Try.f46) (by kernel_rfl) rfl ?_;have S:=SH.start h;refine Q6 ?_;refine QX S gn rfl rfl fun b1 g nb1 S=>?_;refine I2 rfl<|QL<|I1 rfl<|I0 3 rfl<|I4 rfl (S.cel 0 rfl) rfl<|I7 rfl<|Ic [_,_] rfl rfl (Qr (c18) ⟨ag0,?_⟩);refine I1 rfl ?_
 refine Qp (B:=decide (Js P f=0)) (n:=7) rfl rfl rfl gn rfl (fun hb=>by
  refine D0 3 hb rfl<|D4 hb rfl (S.cel 0 rfl) rfl<|D1 hb rfl ?_;obtain⟨b,o,c,cs,e,m,hv,hg,hlb,hf0,hf1,hw⟩:=X.caps hb;have hta:fa=some ⟨b,o,none⟩:=by injection hv
  rw[hta];refine D5o 4 hb rfl rfl<|D0 1 hb rfl<|D4 hb rfl (S.old0 hg hlb) hw<|De hb rfl rfl ?_;rw[<-hta]
  exact Q0 ⟨rfl,rfl,7,rfl,rfl⟩) ?_
 refine I2 rfl<|Q0<|Q7 ?_;refine⟨.inl rfl,_,rfl,?_⟩;exact⟨rfl,S.e0⟩
end
end Go.Proofs.Yteinandjhpnceaa
namespace Go.Proofs.Yteinandjhpnceaa
open Go.X Go.May
section
variable {h:Hp} {P:Prg} {lo cl gl fu co ev si cv lv:Value} {s:ByteArray} {F:Fun} {x:Ins} {ln:Int}
theorem abc_at {a b c:Int} {j:Nat} (hj:j <3):([iV a,iV b,iV c]:List Value)[j]?=some (iV ([a,b,c][j])):=by
 match j,hj with
 |0,_=>rfl
 |1,_=>rfl
 |2,_=>rfl
theorem mem2 {a b o:Int} (h:decide (o∈[a,b])=true):o=a\/o=b:=by simpa using h
theorem QfB {a b o:Int} (h:decide (o∈[a,b])=false): ¬(o=a\/o=b):=by simpa using h
theorem l_neg {o:Int} {b:Bool} (h:(!decide (o=21)|| !b)=true):(decide (o=21)&&b)=false:=by
 cases b<;>simp_all
theorem l_pos {o:Int} {b:Bool} (h:(!decide (o=21)|| !b)=false):(decide (o=21)&&b)=true:=by
 cases b<;>simp_all
set_option maxHeartbeats 1000000 in
theorem c9 (X:PrgAt h P lo cl gl fu co ev si) (hx:RowV h lv (isV x.l)) (hxl:x.l.length<=17592186043904) (hc: ∃a c,cv=.slice a F.code.length c):C modE 23 [QcD P lo cl gl fu co ev si,funV s F cv,QfQ x lv ln] h fun v h'=>v=.bool (Z2 P F x)/\Ext h h':=by
 obtain⟨⟨oa,oc,rfl⟩,⟨ca,cc,rfl⟩,⟨ga,gc,rfl⟩,⟨fa,fc,rfl⟩,-,⟨ea,ec,rfl⟩,-⟩:=X.vals;obtain⟨va,vc,rfl⟩:=hc;obtain⟨la,lc,rfl⟩:=hx.valM;have hr3:=regs3 x.op;refine Q8 (fu:=Try.f23) (by kernel_rfl) rfl ?_;have S:=SH.start h;refine Q6 ?_;refine QX S gn rfl rfl fun b1 g nb1 S=>?_;refine QX S gn rfl rfl fun b2 g nb2 S=>?_;refine QX S gn rfl rfl fun b3 g nb3 S=>?_;refine I2 rfl<|Z7<|I0 0 rfl<|I4 rfl (S.cel 0 rfl) rfl<|Il rfl rfl<|I1 rfl ?_
 refine QT (n:=3) rfl rfl rfl gn rfl (fun hb=>by
  refine D0 0 hb rfl<|D4 hb rfl (S.cel 0 rfl) rfl<|Dg hb rfl rfl ?_
  exact Q0 ⟨rfl,rfl,3,rfl,rfl⟩) ?_
 refine Q0<|Q2 rfl (fun hb=>?_) fun hb=>?_
 · skip
   refine Q6<|I2 rfl<|Q0<|Q7 ?_;refine⟨.inl rfl,_,rfl,?_⟩;exact⟨by rw[Qbs (op_out hb)];rfl,S.e0⟩
 refine Q4<|Q3 ?_;have hop:=op_in hb;refine Q1 (by kernel_rfl)<|I0 1 rfl<|I4 rfl (S.cel 0 rfl) rfl<|I0 2 rfl<|I4 rfl (S.cel 0 rfl) rfl<|I0 3 rfl<|I4 rfl (S.cel 0 rfl) rfl ?_;refine Qf (e:=3) (z:=0) (zv:=.int .i64 0) [(0,_),(1,_),(2,_)] S gn rfl (by kernel_rfl) (by kernel_rfl) (by kernel_rfl) (by kernel_rfl) rfl (by rfl) fun b4 g nb4 S=>?_;refine I2 rfl<|Z7<|I2 rfl<|Q0<|Q5 ?_
 refine Qh [(8,_)] [(3,_),(4,_),(5,_),(7,_)] (by repeat(first|exact trivial|refine⟨rfl,?_⟩)) (fun kk lv hh=> ∃j:Nat,lv=[(8,iV j)]/\kk=Yo x.op -j/\j<=Yo x.op/\SH h [] [cR b4 (.cells [iV x.a,iV x.b,iV x.c] 3 0),cR b3 (.cells (insC x (.slice la x.l.length lc) ln) 93 0),cR b2 (.cells (Qgs s F (.slice va F.code.length vc)) 90 0),cR b1 (.cells (Q9A P (.slice oa P.loopers oc) (.slice ca P.classes.length cc) (.slice ga P.globals gc) (.slice fa P.funs.length fc) co (.slice ea P.events.length ec) si) 55 0)] hh/\(([x.a,x.b,x.c].take j).all fun r=>inB r F.regs)=true) (n:=(Yo x.op)) ?_ fun kk lv hh hI=>?_
 · exact⟨0,rfl,rfl,by omega,S,rfl⟩
 obtain⟨j,rfl,rfl,hj,S,hall⟩:=hI;refine Q3<|Q6<|I1 rfl<|I0 0 rfl<|I4 rfl (S.cel 1 rfl) rfl<|Ic [_] rfl rfl (Qr (c19) ⟨ag0,?_⟩);refine Il rfl rfl<|Q0<|Q2 rfl (fun hb=>?_) fun hb=>?_
 · skip
   refine Q4<|Q3<|Q5<|Q3 ?_;have hj1:j <Yo x.op:=by simp at hb;omega
   have hj3:j <3:=by omega
   refine I9<|I1 rfl<|I1 rfl<|I5o 1 rfl rfl<|Y2 gn rfl rfl (by kernel_rfl) (S.cel 0 rfl) (by rw[Int.toNat_natCast,Nat.mul_one,Nat.zero_add];exact abc_at hj3)<|I0 2 rfl<|I4 rfl (S.cel 2 rfl) rfl<|Ic [_,_] rfl rfl (Qr (c18) ⟨ag0,?_⟩);refine Ib rfl<|Q0<|Q2 rfl (fun hb=>?_) fun hb=>?_
   · skip
     refine Q6<|I2 rfl<|Q0<|Q7 ?_;refine⟨.inl rfl,_,rfl,?_⟩;exact⟨by rw[Qbr (Qag hj1 hj3 (by simpa using hb))];rfl,S.e0⟩
   refine Q4<|Q1 (by kernel_rfl)<|I1 rfl<|Iao rfl rfl<|I2 rfl<|Q0 ?_;exact Z6 (Yo x.op - (j+1)) (by omega) [(8,_)] (by repeat(first|exact trivial|refine⟨rfl,?_⟩)) ⟨j+1,rfl,rfl,by omega,S,by rw[Qaf hj3,hall,Bool.true_and];simpa using hb⟩
 refine Ql<|Q9<|Qc<|Qm<|Q3<|Q3 ?_;have hje:j=Yo x.op:=by simp at hb;omega
 subst hje;have hregs:Q2Q F x=true:=hall;refine Q1 (by kernel_rfl)<|I2 rfl<|Q0<|Q5 ?_
 refine Qh [(9,_)] [(3,_),(4,_),(5,_)] (by repeat(first|exact trivial|refine⟨rfl,?_⟩)) (fun kk lv hh=> ∃j:Nat,lv=[(9,iV j)]/\kk=x.l.length -j/\j<=x.l.length/\SH h [] [cR b4 (.cells [iV x.a,iV x.b,iV x.c] 3 0),cR b3 (.cells (insC x (.slice la x.l.length lc) ln) 93 0),cR b2 (.cells (Qgs s F (.slice va F.code.length vc)) 90 0),cR b1 (.cells (Q9A P (.slice oa P.loopers oc) (.slice ca P.classes.length cc) (.slice ga P.globals gc) (.slice fa P.funs.length fc) co (.slice ea P.events.length ec) si) 55 0)] hh/\((x.l.take j).all fun r=>decide (x.op=21)&&inB r F.regs)=true) (n:=(x.l.length)) ?_ fun kk lv hh hI=>?_
 · exact⟨0,rfl,rfl,by omega,S,rfl⟩
 obtain⟨j,rfl,rfl,hj,S,hall⟩:=hI;refine Q3<|Q6<|I1 rfl<|I0 5 rfl<|I4 rfl (S.cel 1 rfl) rfl<|I7 rfl<|Il rfl rfl<|Q0<|Q2 rfl (fun hb=>?_) fun hb=>?_
 · skip
   refine Q4<|Q3<|Q5<|Q3 ?_;have hj1:j <x.l.length:=by simp at hb;omega
   refine I9<|I0 0 rfl<|I4 rfl (S.cel 1 rfl) rfl<|In rfl rfl<|I1 rfl ?_
   refine QT (B:= !inB x.l[j] F.regs) (n:=9) rfl rfl rfl gn rfl (fun hb=>by
    refine D0 5 hb rfl<|D4 hb rfl (S.cel 1 rfl) rfl<|D1 hb rfl ?_;obtain⟨b,o,c,cs,e,m,hv,hg,hlb,hat⟩:=hx.atM (by omega);have hta:la=some ⟨b,o,none⟩:=by injection hv
    rw[hta];refine D5o 1 hb rfl rfl<|Y2 (gy rfl rfl rfl hb) rfl rfl (by kernel_rfl) (S.old0 hg hlb) (by rw[Int.toNat_natCast,Nat.mul_one];exact hat j hj1)<|D0 2 hb rfl<|D4 hb rfl (S.cel 2 rfl) rfl ?_;rw[<-hta];refine Dc hb [_,_] rfl rfl (Qr (c18) ⟨ag0,?_⟩);refine Db hb rfl ?_
    exact Q0 ⟨rfl,rfl,9,rfl,rfl⟩) ?_
   refine Q0<|Q2 rfl (fun hb=>?_) fun hb=>?_
   · skip
     refine Q6<|I2 rfl<|Q0<|Q7 ?_;refine⟨.inl rfl,_,rfl,?_⟩;exact⟨by rw[Qbq (l_fail hj1 (l_neg hb))];rfl,S.e0⟩
   refine Q4<|Q1 (by kernel_rfl)<|I1 rfl<|Iao rfl rfl<|I2 rfl<|Q0 ?_;exact Z6 (x.l.length - (j+1)) (by omega) [(9,_)] (by repeat(first|exact trivial|refine⟨rfl,?_⟩)) ⟨j+1,rfl,rfl,by omega,S,by rw[l_step hj1,hall,Bool.true_and];exact l_pos hb⟩
 refine Ql<|Q9<|Qc<|Qm<|Q3<|Q3 ?_;have hje:j=x.l.length:=by simp at hb;omega
 have hl:lB F x=true:=by rw[hje,List.take_length]at hall;exact hall
 have hI:=Qbp (P:=P) hop hregs hl;unfold Q18 at hI;refine Q1 (by kernel_rfl)<|I0 0 rfl<|I4 rfl (S.cel 1 rfl) rfl<|Q0<|Q5<|Yt 62 [(9,64),(10,65)] [(3,_),(4,_),(5,_),(62,_)] (by kernel_rfl) rfl (by repeat(first|exact trivial|refine⟨rfl,?_⟩)) (by rfl) (fun hb=>?_) fun hb=>?_
 · skip
   refine Q6<|I0 4 rfl<|I4 rfl (S.cel 1 rfl) rfl<|I0 2 rfl<|I4 rfl (S.cel 3 rfl) rfl<|I7 rfl<|Ic [_,_] rfl rfl (Qr (c18) ⟨ag0,?_⟩);refine I2 rfl<|Q0<|Q7 ?_;refine⟨.inl rfl,_,rfl,?_⟩;exact⟨by rw[hI,if_pos (mem2 hb)];rfl,S.e0⟩
 refine Q3 ?_;rw[if_neg (QfB hb)]at hI;refine Q1 (by kernel_rfl)<|Ie rfl rfl<|I2 rfl<|Q0<|Q2 rfl (fun hb=>?_) fun hb=>?_
 · skip
   refine Q6<|I0 4 rfl<|I4 rfl (S.cel 1 rfl) rfl<|I0 1 rfl<|I4 rfl (S.cel 3 rfl) rfl<|I7 rfl<|Ic [_,_] rfl rfl (Qr (c18) ⟨ag0,?_⟩);refine I2 rfl<|Q0<|Q7 ?_;refine⟨.inl rfl,_,rfl,?_⟩;exact⟨by rw[hI,if_pos (of_decide_eq_true hb)];rfl,S.e0⟩
 refine Q3 ?_;rw[if_neg (of_decide_eq_false hb)]at hI;refine Q1 (by kernel_rfl)<|Ie rfl rfl<|I2 rfl<|Q0<|Q2 rfl (fun hb=>?_) fun hb=>?_
 · skip
   refine Q3 ?_;rw[if_pos (of_decide_eq_true hb)]at hI;refine I9<|I0 4 rfl<|I4 rfl (S.cel 1 rfl) rfl<|I0 3 rfl<|I4 rfl (S.cel 3 rfl) rfl<|I7 rfl<|Ic [_,_] rfl rfl (Qr (c18) ⟨ag0,?_⟩);refine I1 rfl ?_
   refine Qp (B:=decide (Js P x.n=x.l.length)) (n:=11) rfl rfl rfl gn rfl (fun hb=>by
    refine D0 3 hb rfl<|D4 hb rfl (S.cel 3 rfl) rfl<|D0 4 hb rfl<|D4 hb rfl (S.cel 1 rfl) rfl ?_;obtain⟨b,o,c,cs,e,m,hv,hg,hlb,hf0,hf1,hw⟩:=X.caps hb;have hta:fa=some ⟨b,o,none⟩:=by injection hv
    rw[hta];refine D5o 4 hb rfl rfl<|D0 1 hb rfl<|D4 hb rfl (S.old0 hg hlb) hw ?_;rw[<-hta];refine D0 5 hb rfl<|D4 hb rfl (S.cel 1 rfl) rfl<|D7 hb rfl<|De hb rfl rfl ?_
    exact Q0 ⟨rfl,rfl,11,rfl,rfl⟩) ?_
   refine I2 rfl<|Q0<|Q7 ?_;refine⟨.inl rfl,_,rfl,?_⟩;exact⟨by rw[hI];rfl,S.e0⟩
 refine Q3 ?_;rw[if_neg (of_decide_eq_false hb)]at hI;refine Q1 (by kernel_rfl)<|Ie rfl rfl<|I2 rfl<|Q0<|Q2 rfl (fun hb=>?_) fun hb=>?_
 · skip
   refine Q6<|I0 3 rfl<|I4 rfl (S.cel 1 rfl) rfl<|I0 0 rfl<|I4 rfl (S.cel 3 rfl) rfl<|I7 rfl<|Ic [_,_] rfl rfl (Qr (c18) ⟨ag0,?_⟩);refine I1 rfl ?_
   refine Qp (n:=3) rfl rfl rfl gn rfl (fun hb=>by
    refine D0 4 hb rfl<|D4 hb rfl (S.cel 1 rfl) rfl<|Dc hb [_,_] rfl rfl (Qr (c18) ⟨ag0,?_⟩)
    exact Q0 ⟨rfl,rfl,3,rfl,rfl⟩) ?_
   refine I2 rfl<|Q0<|Q7 ?_;refine⟨.inl rfl,_,rfl,?_⟩;exact⟨by rw[hI,if_pos (of_decide_eq_true hb)];rfl,S.e0⟩
 refine Q3 ?_;rw[if_neg (of_decide_eq_false hb)]at hI;refine Q1 (by kernel_rfl)<|Ie rfl rfl<|I2 rfl<|Q0<|Q2 rfl (fun hb=>?_) fun hb=>?_
 · skip
   refine Q6<|I0 3 rfl<|I4 rfl (S.cel 1 rfl) rfl<|I0 0 rfl<|I4 rfl (S.cel 3 rfl) rfl<|I7 rfl<|Ic [_,_] rfl rfl (Qr (c18) ⟨ag0,?_⟩);refine I2 rfl<|Q0<|Q7 ?_;refine⟨.inl rfl,_,rfl,?_⟩;exact⟨by rw[hI,if_pos (of_decide_eq_true hb)];rfl,S.e0⟩
 rw[if_neg (of_decide_eq_false hb)]at hI;refine Yt 62 [(26,123),(27,124)] [(3,_),(4,_),(5,_),(62,_)] (by kernel_rfl) rfl (by repeat(first|exact trivial|refine⟨rfl,?_⟩)) (by rfl) (fun hb=>?_) fun hb=>?_
 · skip
   refine Q6<|I0 4 rfl<|I4 rfl (S.cel 1 rfl) rfl<|I0 5 rfl<|I4 rfl (S.cel 3 rfl) rfl<|I7 rfl<|Ic [_,_] rfl rfl (Qr (c18) ⟨ag0,?_⟩);refine I2 rfl<|Q0<|Q7 ?_;refine⟨.inl rfl,_,rfl,?_⟩;exact⟨by rw[hI,if_pos (mem2 hb)];rfl,S.e0⟩
 rw[if_neg (QfB hb)]at hI;refine Yt 62 [(31,132),(32,133)] [(4,_),(5,_)] (by kernel_rfl) rfl (by repeat(first|exact trivial|refine⟨rfl,?_⟩)) (by rfl) (fun hb=>?_) fun hb=>?_
 · skip
   refine Q6<|I0 4 rfl<|I4 rfl (S.cel 1 rfl) rfl<|I0 3 rfl<|I4 rfl (S.cel 2 rfl) rfl<|I7 rfl<|Ic [_,_] rfl rfl (Qr (c18) ⟨ag0,?_⟩);refine I2 rfl<|Q0<|Q7 ?_;refine⟨.inl rfl,_,rfl,?_⟩;exact⟨by rw[hI,if_pos (mem2 hb)];rfl,S.e0⟩
 refine Q4<|Q6<|I2 rfl<|Q0<|Q7 ?_;refine⟨.inl rfl,_,rfl,?_⟩;exact⟨by rw[hI,if_neg (QfB hb)];rfl,S.e0⟩
end
end Go.Proofs.Yteinandjhpnceaa
