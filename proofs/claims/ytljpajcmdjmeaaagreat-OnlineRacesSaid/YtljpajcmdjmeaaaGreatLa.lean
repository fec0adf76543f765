/- The walks and the laws, part La. Conditions: none. -/
import Derived.Test.YtljpajcmdjmeaaaGreatXa
import Derived.Shelf.SlIterI.Nil
import Derived.Shelf.SortM.Plain
import Derived.Shelf.SortM.SortNone
import Derived.Ground.GgzProg
import Derived.Ground.SlgmProg
import Derived.Test.YtljpajcmdjmeaaaGreatProg
import Derived.Test.YtljpajcmdjmeaaaGreatXc
import Derived.Test.YtljpajcmdjmeaaaGreatRows
import Derived.Test.YtljpajcmdjmeaaaGreatXd
open List renaming replicate → v0n, getElem?_eq_getElem → v0c, findIdx?_eq_some_iff_getElem → v2p, length_append → v0j, cons_append → v06, append_assoc → v0B, length_cons → v1f, take_add_one → v0U, append_nil → v0k, length_take → v0D, take_append_drop → v00, drop_eq_getElem_cons → v1K, getElem?_append_right → v0Z, mem_of_getElem? → v0m, all_eq_true → v0v, mem_iff_getElem → v0J, getElem_mem → v0M, length_set → v0q, getElem?_cons_zero → v0S, getElem?_drop → v1l, getElem?_take_of_lt → v2l, mem_cons → v0w, modify_succ_cons → v07, length_map → v0s, length_modify → v0l, length_replicate → v0K
open Nat renaming zero_add → v0f, min_eq_left → v2d, zero_le → v0t, mul_one → v0x, le_refl → v0b
open Int renaming toNat_natCast → v0e, toNat → v0g
open Bool renaming and_true → v1i, and_false → v0T, false_and → v04, true_and → v0F, and_eq_true → v0h, not_eq_true → v1Q, or_eq_true → v0H, or_eq_false_iff → v0Y
open Option renaming toList_some → v1O, some → v0i
namespace Go.Mac
structure MObj where
 kind:Int
 of:Int
 vals:List Int
 site:Int
 by':Int
 nth:Int
instance:Inhabited MObj:=⟨⟨0,0,[],0,0,0⟩⟩
def hasB (H:List MObj) (id:Int):Bool:=decide (1<=id)&&decide (id<=H.length)
def QT (H:List MObj) (id:Int):MObj:=(H[(id -1).toNat]?).getD default
def isO (H:List MObj) (id kind:Int):Bool:=hasB H id&&decide ((QT H id).kind=kind)
def Q6b (H:List MObj) (id:Int):Nat:=if hasB H id=true then(QT H id).vals.length else 0
def inH (H:List MObj) (id i:Int):Bool:=decide (0<=i)&&decide (i <Q6b H id)
def getV (H:List MObj) (id i:Int):Int:=if inH H id i=true then((QT H id).vals[i.toNat]?).getD 0 else 0
def setH (H:List MObj) (id i n:Int):List MObj:=if inH H id i=true/\isO H id 4=false then H.modify (id -1).toNat fun o=> {o with vals:=o.vals.set i.toNat n}else H
def Q2e (H:List MObj) (b:Int):Nat:=(H.filter fun o=>decide (o.by'=b)).length
def QdV (H:List MObj) (o:MObj):List MObj:=if 1024<=H.length then H else H++[{o with nth:=Q2e H o.by'}]
def addN (H:List MObj):Int:=if 1024<=H.length then 0 else H.length+1
def addE (H:List MObj):Int:=if 1024<=H.length then 11 else 0
def Q2P (kind size:Int):Bool:=(decide (kind=1)||decide (kind=2)||decide (kind=3))&&decide (0<=size)&&decide (size<=64)&& !(decide (kind=3)&&decide (size≠1))
def QaH (H:List MObj) (kind of size site b:Int):List MObj:=if Q2P kind size=true then QdV H ⟨kind,of,v0n size.toNat 0,site,b,0⟩else H
def QfK (H:List MObj) (kind size:Int):Int:=if Q2P kind size=true then addN H else 0
def QfL (H:List MObj) (kind size:Int):Int:=if Q2P kind size=true then addE H else 2
def QbS (H:List MObj) (of:Int) (cells:List Int) (site b:Int):List MObj:=if cells.length<=256 then QdV H ⟨4,of,cells,site,b,0⟩else H
def Qgg (H:List MObj) (n:Nat):Int:=if n<=256 then addN H else 0
def Qgh (H:List MObj) (n:Nat):Int:=if n<=256 then addE H else 2
theorem QcS {H:List MObj} {id:Int} {j:Nat} {o:MObj} (h:H[j]?=some o) (e:id=j+1):QT H id=o:=by
 unfold QT;rw[show(id -1).toNat=j by omega,h];rfl
theorem Qdr {H:List MObj} {id:Int}:hasB H id=true↔1<=id/\id<=H.length:=by
 simp[hasB]
theorem Q3j {H:List MObj} {id:Int} (h:hasB H id=true): ∃(j:Nat) (o:MObj),id=j+1/\H[j]?=some o/\QT H id=o/\j <H.length:=by
 have h1:=Qdr.1 h;have hj:(id -1).toNat <H.length:=by omega
 exact⟨(id -1).toNat,_,by omega,v0c hj,QcS (v0c hj) (by omega),hj⟩
structure MItem where
 task:Int
 front:Bool
 due:Int
instance:Inhabited MItem:=⟨⟨0,false,0⟩⟩
def Kj (L:List MItem) (i:Int):MItem:=(L[i.toNat]?).getD default
def ofQ (L:List MItem) (t:Int):Int:=match L.findIdx? (fun x=>decide (x.task=t))with
 |some i=>i
 |none=> -1
def Ka (x f:MItem):Bool:=x.front||(!f.front&&decide (x.due <f.due))
def QA (L:List MItem):Nat->Int
 |0=> -1
 |k+1=>if QA L k <0 then k else if Ka (Kj L k) (Kj L (QA L k))=true then k else QA L k
def Zd (L:List MItem):Int:=QA L L.length
def Q2R (L:List MItem) (now:Int):Bool:= !(decide (Zd L <0)||(!(Kj L (Zd L)).front&&decide (now <(Kj L (Zd L)).due)))
def Zt (L:List MItem) (now:Int):MItem:=if Q2R L now=true then Kj L (Zd L)else default
def Qec (L:List MItem) (x:MItem):Bool:= !(decide (x.task <0)||decide (x.due <0))&&decide (ofQ L x.task <0)
def putE (L:List MItem) (x:MItem):Int:=if(decide (x.task <0)||decide (x.due <0))=true then 2 else if 0<=ofQ L x.task then 7 else 0
def Q4I (L:List MItem) (x:MItem):List MItem:=if Qec L x=true then L++[x]else L
def Q3s (L:List MItem) (t:Int):List MItem:=if 0<=ofQ L t then L.eraseIdx (ofQ L t).toNat else L
def tkQ (L:List MItem) (now:Int):List MItem:=if Q2R L now=true then Q3s L (Zt L now).task else L
theorem Km (L:List MItem): ∀k,k<=L.length-> -1<=QA L k/\QA L k <L.length/\QA L k <k
 |0,_=>by simp[QA];omega
 | k+1,h=>by
   have:=Km L k (by omega);unfold QA
   split
   · omega
   split<;>omega
theorem Q7I {L:List MItem} {t:Int} (h: ∀x,x∈L->x.task≠t):ofQ L t= -1:=by
 unfold ofQ
 have:L.findIdx? (fun x=>decide (x.task=t))=none:=by
  rw[List.findIdx?_eq_none_iff];intro x hx;simpa using h x hx
 rw[this]
theorem QcQ {L:List MItem} {t:Int} {i:Nat} (hi:i <L.length) (h1:L[i].task=t) (h2: ∀j (hj:j <L.length),j <i->L[j].task≠t):ofQ L t=i:=by
 unfold ofQ
 have:L.findIdx? (fun x=>decide (x.task=t))=some i:=by
  rw[v2p];exact⟨hi,by simpa using h1,fun j hj=>by simpa using h2 j (by omega) hj⟩
 rw[this]
theorem Qeh {L:List MItem} {t:Int} (h:0<=ofQ L t):(ofQ L t).toNat <L.length/\(Kj L (ofQ L t)).task=t:=by
 unfold ofQ at h ⊢;cases e:L.findIdx? (fun x=>decide (x.task=t))with
 |none=>rw[e]at h;simp at h
 | some i=>
   rw[v2p]at e;obtain⟨h1,h2,_⟩:=e;refine⟨by simpa using h1,?_⟩;unfold Kj;simp only[v0e,v0c h1,Option.getD_some];simpa using h2
def Q0e (was which:Int):Bool:=
 if which=0 then decide (was= -1)else if which=1 then decide (was=0)||decide (was=2)else if which=2 then decide (was=1)else if which=3 then decide (was=0)||decide (was=2)else false
def inL {α:Type} (l:List α) (i:Int):Bool:=decide (0<=i)&&decide (i <l.length)
def Q6a (C:List Int) (c which:Int):Bool:=inL C c&&Q0e ((C[c.toNat]?).getD 0) which
def goL (C:List Int) (c which:Int):List Int:=if Q6a C c which=true then C.set c.toNat which else C
def onL (E:List Bool) (e:Int):Bool:=inL E e&&(E[e.toNat]?).getD false
def Qcf (E:List Bool) (e:Int) (on:Bool):List Bool:=if inL E e=true then E.set e.toNat on else E
def Q6e (E:List Bool) (e:Int) (on:Bool):Bool:=inL E e&&(on&& !(E[e.toNat]?).getD false)
theorem Q1H {was which:Int} (h:Q0e was which=true):0<=which/\which<=3:=by
 unfold Q0e at h
 split at h
 · omega
 split at h
 · omega
 split at h
 · omega
 split at h
 · omega
 cases h
end Go.Mac
namespace Go.May
structure Ins where
 op:Int
 a:Int
 b:Int
 c:Int
 n:Int
 l:List Int
 site:Int
structure Fun where
 caps:Int
 regs:Int
 code:List Ins
structure Prg where
 loopers:Nat
 classes:List (Nat×Nat)
 globals:Nat
 funs:List Fun
 comps:List (Int×List Int)
 events:List (Int×Int)
 main:Int
 sites:List (Int×Int)
def inB (n most:Int):Bool:=decide (0<=n)&&decide (n <most)
def ones:List Int:=[1,8,9,10,11,14,21,22,25,29,30,32]
def Q9w:List Int:=[3,4,5,6,7,18,19]
def Q6I:List Int:=[26,27,31,33]
def Ys (o:Int):Nat:=if o∈Q6I then 0 else if o∈ones then 1 else if o∈Q9w then 3 else 2
def Q1t (o:Int):Bool:=decide (9<=o)&&decide (o<=30)&&decide (o≠20)
def Jx (P:Prg) (n:Int):Int:=((P.funs[n.toNat]?).map Fun.caps).getD 0
def Q1j (P:Prg) (F:Fun) (x:Ins):Bool:=
 if x.op=9\/x.op=10 then inB x.n P.globals
 else if x.op=14 then inB x.n P.classes.length
 else if x.op=21 then inB x.n P.funs.length&&decide (Jx P x.n=x.l.length)
 else if x.op=23 then inB x.c P.loopers&&inB x.n 1000001
 else if x.op=24 then inB x.c P.loopers
 else if x.op=26\/x.op=27 then inB x.n P.events.length
 else if x.op=31\/x.op=32 then inB x.n F.code.length
 else true
def Q2O (F:Fun) (x:Ins):Bool:=([x.a,x.b,x.c].take (Ys x.op)).all fun r=>inB r F.regs
def lB (F:Fun) (x:Ins):Bool:=x.l.all fun r=>decide (x.op=21)&&inB r F.regs
def Z2 (P:Prg) (F:Fun) (x:Ins):Bool:=(decide (1<=x.op)&&decide (x.op<=33))&&(Q2O F x&&(lB F x&&Q1j P F x))
def okI (P:Prg) (F:Fun) (x:Ins) (n:Nat):Bool:=Z2 P F x&&decide (x.site=if Q1t x.op=true then(n:Int)else -1)
def Q0t (P:Prg) (F:Fun):Nat->List Ins->Bool
 |_,[]=>true
 |n,x::r=>okI P F x n&&Q0t P F (if Q1t x.op=true then n+1 else n) r
def Zi (i:Nat):Nat->List Ins->List (Int×Int)
 |_,[]=>[]
 |k,x::r=>(if Q1t x.op=true then[((i:Int),(k:Int))]else[])++Zi i (k+1) r
def cnt:List Ins->Nat
 | []=>0
 |x::r=>(if Q1t x.op=true then 1 else 0)+cnt r
theorem Q0I (i:Nat): ∀(k:Nat) (l:List Ins),(Zi i k l).length=cnt l
 |_,[]=>rfl
 | k,x::r=>by
   rw[Zi,cnt,v0j,Q0I i (k+1) r]
   split<;>rfl
theorem Q0J (i:Nat): ∀(k:Nat) (l m:List Ins),Zi i k (l++m)=Zi i k l++Zi i (k+l.length) m
 |_,[],m=>by simp[Zi]
 | k,x::l,m=>by
   rw[v06,Zi,Zi,Q0J i (k+1) l m,v0B,v1f]
   congr 3
   omega
theorem QbQ: ∀(l m:List Ins),cnt (l++m)=cnt l+cnt m
 | [],m=>by simp[cnt]
 | x::l,m=>by
   rw[v06,cnt,cnt,QbQ l m];omega
theorem Q2E (P:Prg) (F:Fun): ∀(n:Nat) (l m:List Ins),Q0t P F n (l++m)=(Q0t P F n l&&Q0t P F (n+cnt l) m)
 |n,[],m=>by simp[Q0t,cnt]
 | n,x::l,m=>by
   rw[v06,Q0t,Q0t,Q2E P F _ l m,Bool.and_assoc,cnt]
   congr 3
   split<;>omega
section
variable {P:Prg} {F:Fun} {n:Nat} {l:List Ins} {i at':Nat}
theorem Q1b (h:at' <l.length):Q0t P F n (l.take (at'+1))=(Q0t P F n (l.take at')&&okI P F l[at'] (n+cnt (l.take at'))):=by
 rw[v0U,v0c h,v1O,Q2E,Q0t,Q0t,v1i]
theorem Q8g (h:at' <l.length):cnt (l.take (at'+1))=cnt (l.take at')+if Q1t l[at'].op=true then 1 else 0:=by
 rw[v0U,v0c h,v1O,QbQ,cnt,cnt,Nat.add_zero]
theorem Q20 (h:at' <l.length):Zi i 0 (l.take (at'+1))=Zi i 0 (l.take at')++if Q1t l[at'].op=true then[((i:Int),(at':Int))]else[]:=by
 rw[v0U,v0c h,v1O,Q0J,Zi,Zi,v0k,v0D,v0f,v2d (by omega)]
theorem Q99 (h:at' <l.length) (hf:okI P F l[at'] (n+cnt (l.take at'))=false):Q0t P F n l=false:=by
 have e:l=l.take (at'+1)++l.drop (at'+1):=(v00 _ _).symm;rw[e,Q2E,Q1b h,hf,v0T,v04]
end
def KV (l:List Ins):Int:=((l.getLast?).map Ins.op).getD 0
def Q2q (F:Fun):Bool:=(inB F.regs 257&&inB F.caps (F.regs+1))&&(decide (1<=F.code.length)&&decide (F.code.length<=512))
def Q48 (F:Fun):Bool:=decide (KV F.code=33)||decide (KV F.code=31)
def Qeu (P:Prg) (F:Fun) (n:Nat):Bool:=Q2q F&&(Q0t P F n F.code&&Q48 F)
def Q7d (P:Prg):Nat->List Fun->Bool
 |_,[]=>true
 |n,F::r=>Qeu P F n&&Q7d P (n+cnt F.code) r
def Zy:Nat->List Fun->List (Int×Int)
 |_,[]=>[]
 |i,F::r=>Zi i 0 F.code++Zy (i+1) r
def cntF:List Fun->Nat
 | []=>0
 |F::r=>cnt F.code+cntF r
theorem Q32: ∀(i:Nat) (l:List Fun),(Zy i l).length=cntF l
 |_,[]=>rfl
 |i,F::r=>by rw[Zy,cntF,v0j,Q0I,Q32 (i+1) r]
theorem Q0H: ∀(i:Nat) (l m:List Fun),Zy i (l++m)=Zy i l++Zy (i+l.length) m
 |_,[],m=>by simp[Zy]
 | i,F::l,m=>by
   rw[v06,Zy,Zy,Q0H (i+1) l m,v0B,v1f]
   congr 3
   omega
theorem Q8h: ∀(l m:List Fun),cntF (l++m)=cntF l+cntF m
 | [],m=>by simp[cntF]
 |F::l,m=>by rw[v06,cntF,cntF,Q8h l m];omega
theorem Q4H (P:Prg): ∀(n:Nat) (l m:List Fun),Q7d P n (l++m)=(Q7d P n l&&Q7d P (n+cntF l) m)
 |n,[],m=>by simp[Q7d,cntF]
 | n,F::l,m=>by
   rw[v06,Q7d,Q7d,Q4H P _ l m,Bool.and_assoc,cntF]
   congr 3
   omega
section
variable {P:Prg} {n:Nat} {l:List Fun} {i:Nat}
theorem Q66 (h:i <l.length):Q7d P n (l.take (i+1))=(Q7d P n (l.take i)&&Qeu P l[i] (n+cntF (l.take i))):=by
 rw[v0U,v0c h,v1O,Q4H,Q7d,Q7d,v1i]
theorem Q2F (h:i <l.length):cntF (l.take (i+1))=cntF (l.take i)+cnt l[i].code:=by
 rw[v0U,v0c h,v1O,Q8h,cntF,cntF,Nat.add_zero]
theorem Q6t (h:i <l.length):Zy 0 (l.take (i+1))=Zy 0 (l.take i)++Zi i 0 l[i].code:=by
 rw[v0U,v0c h,v1O,Q0H,Zy,Zy,v0k,v0D,v0f,v2d (by omega)]
theorem Qc8 (h:i <l.length) (hf:Qeu P l[i] (n+cntF (l.take i))=false):Q7d P n l=false:=by
 have e:l=l.take (i+1)++l.drop (i+1):=(v00 _ _).symm;rw[e,Q4H,Q66 h,hf,v0T,v04]
end
def Q05 (P:Prg) (f:Int):Bool:=inB f P.funs.length&&decide (Jx P f=0)
def Q2G (c:Nat×Nat):Bool:=decide (c.2<=8)&&decide (c.1=c.2)
def Q77 (P:Prg) (c:Int×List Int):Bool:=(c.2.all fun f=> !decide (0<=f)||Q05 P f)&&inB c.1 P.loopers
def Q2x (P:Prg) (e:Int×Int):Bool:=inB e.1 P.loopers&&Q05 P e.2
def Q8v (P:Prg):Bool:=(decide (1<=P.loopers)&&decide (P.loopers<=8))&&((decide (P.classes.length<=16)&&decide (P.globals<=32))&&((decide (P.comps.length<=8)&&decide (P.events.length<=8))&&((decide (1<=P.funs.length)&&decide (P.funs.length<=64))&&Q05 P P.main)))
def YS (P:Prg):Bool:=Q8v P&&(P.classes.all Q2G&&(P.comps.all (Q77 P)&&P.events.all (Q2x P)))
def ZM (P:Prg):Bool:=YS P&&(Q7d P 0 P.funs&&(decide (Zy 0 P.funs=P.sites)&&decide (P.sites.length<=512)))
theorem Qg6 {l:List Fun} {i:Nat} (h:i <l.length):l=l.take i++l[i]::l.drop (i+1):=by
 rw[<-v1K h,v00]
theorem Qgf {l:List Ins} {i:Nat} (h:i <l.length):l=l.take i++l[i]::l.drop (i+1):=by
 rw[<-v1K h,v00]
section
variable {P:Prg}
theorem Qcy {i at':Nat} (h:i <P.funs.length) (ha:at' <(P.funs[i]).code.length) (hs:Q1t ((P.funs[i]).code[at']).op=true):(Zy 0 P.funs)[cntF (P.funs.take i)+cnt ((P.funs[i]).code.take at')]?=some ((i:Int),(at':Int)):=by
 have e1:Zy 0 P.funs=Zy 0 (P.funs.take i)++Zy i (P.funs[i]::P.funs.drop (i+1)):=by
  conv=>lhs;rw[Qg6 h]
  rw[Q0H,v0D,v0f,v2d (by omega)]
 have e2:Zi i 0 (P.funs[i]).code=Zi i 0 ((P.funs[i]).code.take at')++Zi i at' ((P.funs[i]).code[at']::(P.funs[i]).code.drop (at'+1)):=by
  conv=>lhs;rw[Qgf ha]
  rw[Q0J,v0D,v0f,v2d (by omega)]
 rw[e1,Zy,e2,Zi,if_pos hs,v0B,<-Q32 0,<-Q0I i 0,v0Z (by omega),Nat.add_sub_cancel_left,v0Z (by omega),Nat.sub_self];rfl
theorem QaA (h:YS P=false):ZM P=false:=by rw[ZM,h,v04]
theorem Q6Q {i:Nat} (h:i <P.funs.length) (hf:Qeu P P.funs[i] (cntF (P.funs.take i))=false):ZM P=false:=by
 rw[ZM,Qc8 (n:=0) h (by rw[v0f];exact hf),v04,v0T]
theorem Qd6 {i at':Nat} (h:i <P.funs.length) (ha:at' <(P.funs[i]).code.length) (hs:Q1t ((P.funs[i]).code[at']).op=true) (hn:P.sites[cntF (P.funs.take i)+cnt ((P.funs[i]).code.take at')]?≠some ((i:Int),(at':Int))):ZM P=false:=by
 have:Zy 0 P.funs≠P.sites:=fun e=>hn (by rw[<-e];exact Qcy h ha hs);rw[ZM,decide_eq_false this,v04,v0T,v0T]
theorem Q45 {i at':Nat} (h:i <P.funs.length) (ha:at' <(P.funs[i]).code.length) (hf:okI P P.funs[i] (P.funs[i]).code[at'] (cntF (P.funs.take i)+cnt ((P.funs[i]).code.take at'))=false):ZM P=false:=by
 refine Q6Q h ?_;rw[Qeu,Q99 ha hf,v04,v0T]
theorem Q7R {i:Nat} (h:i <P.funs.length) (hf:Q2q P.funs[i]=false):ZM P=false:=Q6Q h (by rw[Qeu,hf,v04])
theorem Q7Q {i:Nat} (h:i <P.funs.length) (hf:Q48 P.funs[i]=false):ZM P=false:=Q6Q h (by rw[Qeu,hf,v0T,v0T])
theorem QfI (hp:YS P=true) (ha:Q7d P 0 P.funs=true):ZM P=(decide (Zy 0 P.funs=P.sites)&&decide (P.sites.length<=512)):=by
 rw[ZM,hp,ha,v0F,v0F]
theorem last_at {F:Fun} (h:0 <F.code.length):KV F.code=(F.code[F.code.length -1]'(by omega)).op:=by
 rw[KV,List.getLast?_eq_getElem?,v0c (by omega)];rfl
theorem Qgj {n:Nat} (h:n <P.funs.length):Jx P (n:Int)=P.funs[n].caps:=by
 rw[Jx,v0e,v0c h];rfl
end
theorem Qdp {F:Fun} (h:Q2q F=true):0 <F.code.length:=by
 simp only[Q2q,v0h,decide_eq_true_eq]at h;omega
theorem Zb {n m:Int}:inB n m=true↔0<=n/\n <m:=by simp[inB]
end Go.May
namespace Go.Mac
open Go.May
instance:Inhabited Ins:=⟨⟨0,0,0,0,0,[],0⟩⟩
instance:Inhabited Fun:=⟨⟨0,0,[]⟩⟩
structure MFrm where
 fn:Int
 at':Int
 regs:List Int
instance:Inhabited MFrm:=⟨⟨0,0,[]⟩⟩
structure MThr where
 F:List MFrm
 trap:Int
structure MAcc where
 site:Int
 kind:Int
 a:Int
 b:Int
 write:Bool
structure MAsk where
 op:Int
 site:Int
 n:Int
 v:Int
 looper:Int
 acc:List MAcc
def wr (n:Int):Int:=Go.IntKind.wrap .i64 n
def Qz (P:Prg) (f:Int):Fun:=(P.funs[f.toNat]?).getD default
def Q13 (P:Prg) (f a:Int):Ins:=((Qz P f).code[a.toNat]?).getD default
def reg (R:List Int) (a:Int):Int:=(R[a.toNat]?).getD 0
def Yc (T:MThr):Bool:=decide (T.F.length=0)||decide (T.trap≠0)
def QB (T:MThr):MFrm:=(T.F[T.F.length -1]?).getD default
def Qb (P:Prg) (T:MThr):Ins:=Q13 P (QB T).fn (QB T).at'
def atF (F:List MFrm) (k:Nat) (n:Int):List MFrm:=F.modify k fun x=> {x with at':=n}
def QfZ (F:List MFrm) (k:Nat):List MFrm:=F.modify k fun x=> {x with at':=x.at'+1}
def Q37 (F:List MFrm) (k:Nat) (a n:Int):List MFrm:=F.modify k fun x=> {x with regs:=x.regs.set a.toNat n}
def onT (T:MThr) (ahead:Nat):MThr:= {T with F:=QfZ T.F (T.F.length -1 -ahead)}
def setT (T:MThr) (a n:Int):MThr:= {T with F:=Q37 T.F (T.F.length -1) a n}
def K3 (o:Int):Bool:=decide (o=9)||decide (o=10)||(decide (23<=o)&&decide (o<=30))
structure FrOk (P:Prg) (x:MFrm):Prop where
 f0:0<=x.fn
 f1:x.fn <P.funs.length
 a0:0<=x.at'
 a1:x.at' <(Qz P x.fn).code.length
 r:(x.regs.length:Int)=(Qz P x.fn).regs
def Kr (P:Prg) (T:MThr):Prop:=T.F.length<=32/\ ∀x,x∈T.F->FrOk P x
theorem Y8 {T:MThr} (h:0 <T.F.length):T.F[T.F.length -1]?=some (QB T):=by
 unfold QB;rw[v0c (by omega)];rfl
theorem Y0 {T:MThr} (h:0 <T.F.length):QB T∈T.F:=v0m (Y8 h)
theorem Jg {P:Prg} {f:Int} (h0:0<=f) (h1:f <P.funs.length):P.funs[f.toNat]?=some (Qz P f):=by
 unfold Qz;rw[v0c (by omega)];rfl
theorem Q4i {P:Prg} {x:MFrm} (h:FrOk P x):(Qz P x.fn).code[x.at'.toNat]?=some (Q13 P x.fn x.at'):=by
 unfold Q13;have:=h.a0;have:=h.a1;rw[v0c (by omega)];rfl
def ZV (x:Ins) (R:List Int) (it:Int):Option Int:=
 if x.op=1 then some x.n else if x.op=2 then some (reg R x.b)else if x.op=3 then some (wr (reg R x.b+reg R x.c))else if x.op=4 then some (wr (reg R x.b -reg R x.c))else
 if x.op=5 then some (wr (reg R x.b*reg R x.c))else if x.op=6 then some (if reg R x.b <reg R x.c then 1 else 0)else if x.op=7 then some (if reg R x.b=reg R x.c then 1 else 0)else if x.op=8 then some it else none
def Q4C (x:Ins) (R:List Int):MAsk:=
 ⟨x.op,x.site,x.n,if x.op=10\/x.op=25\/x.op=29\/x.op=30 then reg R x.a else if x.op=23\/x.op=24\/x.op=28 then reg R x.b else 0,if x.op=23\/x.op=24 then x.c else 0,[]⟩
def Ye (P:Prg) (f:Int) (cells:List Int):MFrm:=⟨f,0,cells++v0n ((Qz P f).regs.toNat -cells.length) 0⟩
def Q0r (P:Prg) (T:MThr):Bool:= !Yc T&&K3 (Qb P T).op
def Q1y (P:Prg) (T:MThr) (n:Int):MThr:=
 if Q0r P T=true then onT (if(Qb P T).op=9\/(Qb P T).op=23\/(Qb P T).op=24\/(Qb P T).op=28 then setT T (Qb P T).a n else T) 0 else T
section
variable {P:Prg} {f a:Int} {x:Ins} {F:Fun}
theorem QaD (h:ZM P=true) (h0:0<=f) (h1:f <P.funs.length):Q2q (Qz P f)=true:=by
 have hj:f.toNat <P.funs.length:=by omega
 have e1:P.funs[f.toNat]=Qz P f:=by
  have:=Jg h0 h1;rw[v0c hj]at this;exact v0i.inj this
 cases hh:Q2q (Qz P f)with
 |true=>rfl
 |false=>rw[<-e1]at hh;rw[Q7R hj hh]at h;cases h
theorem Yz (h:ZM P=true) (h0:0<=f) (h1:f <P.funs.length):0<=(Qz P f).regs/\(Qz P f).regs<=256/\0<=(Qz P f).caps/\(Qz P f).caps<=(Qz P f).regs/\1<=(Qz P f).code.length/\(Qz P f).code.length<=512:=by
 have:=QaD h h0 h1;simp only[Q2q,v0h,Zb,decide_eq_true_eq]at this;omega
theorem QfH (h:ZM P=true) (h0:0<=f) (h1:f <P.funs.length) (a0:0<=a) (a1:a <(Qz P f).code.length): ∃n,okI P (Qz P f) (Q13 P f a) n=true:=by
 have hj:f.toNat <P.funs.length:=by omega
 have e1:P.funs[f.toNat]=Qz P f:=by
  have:=Jg h0 h1;rw[v0c hj]at this;exact v0i.inj this
 have ha:a.toNat <(P.funs[f.toNat]).code.length:=by rw[e1];omega
 have e2:(P.funs[f.toNat]).code[a.toNat]=Q13 P f a:=by
  unfold Q13;rw[<-e1,v0c ha];rfl
 refine⟨cntF (P.funs.take f.toNat)+cnt ((P.funs[f.toNat]).code.take a.toNat),?_⟩;cases hh:okI P (Qz P f) (Q13 P f a) (cntF (P.funs.take f.toNat)+cnt ((P.funs[f.toNat]).code.take a.toNat))with
 |true=>rfl
 |false=>rw[<-e2,<-e1]at hh;rw[Q45 hj ha hh]at h;cases h
theorem QaC (h:ZM P=true) (h0:0<=f) (h1:f <P.funs.length) (a0:0<=a) (a1:a <(Qz P f).code.length):Z2 P (Qz P f) (Q13 P f a)=true:=by
 obtain⟨n,hn⟩:=QfH h h0 h1 a0 a1;simp only[okI,v0h]at hn;exact hn.1
theorem Q4h (h:Z2 P F x=true):Q2O F x=true:=by
 simp only[Z2,v0h]at h;exact h.2.1
theorem Q0i (h:Z2 P F x=true):Q1j P F x=true:=by
 simp only[Z2,v0h]at h;exact h.2.2.2
theorem ins_l (h:Z2 P F x=true): ∀r,r∈x.l->0<=r/\r <F.regs:=by
 simp only[Z2,v0h]at h;have:=h.2.2.1;simp only[lB,v0v,v0h,Zb]at this;exact fun r hr=>(this r hr).2
theorem Q08 (h:Z2 P F x=true) (hn:1<=Ys x.op):0<=x.a/\x.a <F.regs:=by
 have:=Q4h h;unfold Q2O at this;rw[v0v]at this;obtain⟨k,hk⟩: ∃k,Ys x.op=k+1:=⟨Ys x.op -1,by omega⟩;rw[hk]at this;exact Zb.1 (this x.a (by simp))
theorem Q23 (h:Z2 P F x=true) (hn:2<=Ys x.op):0<=x.b/\x.b <F.regs:=by
 have:=Q4h h;unfold Q2O at this;rw[v0v]at this;obtain⟨k,hk⟩: ∃k,Ys x.op=k+2:=⟨Ys x.op -2,by omega⟩;rw[hk]at this;exact Zb.1 (this x.b (by simp))
theorem Qf5 (h:Z2 P F x=true) (hn:3<=Ys x.op):0<=x.c/\x.c <F.regs:=by
 have:=Q4h h;unfold Q2O at this;rw[v0v]at this;obtain⟨k,hk⟩: ∃k,Ys x.op=k+3:=⟨Ys x.op -3,by omega⟩;rw[hk]at this;exact Zb.1 (this x.c (by simp))
theorem Q86 {x:MFrm} (h:ZM P=true) (k:FrOk P x):Z2 P (Qz P x.fn) (Q13 P x.fn x.at')=true:=QaC h k.f0 k.f1 k.a0 k.a1
theorem KA {x:MFrm} (h:ZM P=true) (k:FrOk P x):x.at'<=1000000/\x.regs.length<=256:=by
 have h1:=Yz h k.f0 k.f1;have h2:=k.a1;have h3:=k.r;omega
theorem Q01 {T:MThr} {n:Int} (h:Kr P T):Kr P (setT T a n)/\(setT T a n).F.length=T.F.length:=by
 have hl:(setT T a n).F.length=T.F.length:=by simp[setT,Q37]
 refine⟨⟨by rw[hl];exact h.1,fun x hx=>?_⟩,hl⟩;obtain⟨i,hi,rfl⟩:=v0J.1 hx;have aY:i <T.F.length:=by rw[<-hl];exact hi
 have k:=h.2 _ (v0M aY)
 have e:(setT T a n).F[i]=if T.F.length -1=i then {T.F[i]with regs:=T.F[i].regs.set a.toNat n}else T.F[i]:=by
  have:(setT T a n).F[i]?=some (if T.F.length -1=i then {T.F[i]with regs:=T.F[i].regs.set a.toNat n}else T.F[i]):=by
   unfold setT Q37;rw[List.getElem?_modify,v0c aY];simp only[Option.map_eq_map,Option.map_some]
  rw[v0c hi]at this;exact v0i.inj this
 rw[e]
 split
 · exact⟨k.f0,k.f1,k.a0,k.a1,by rw[v0q];exact k.r⟩
 exact k
theorem Q7z {R:List Int} {a:Int} (h0:0<=a) (h1:a <R.length):R[a.toNat]?=some (reg R a):=by
 unfold reg;rw[v0c (by omega)];rfl
end
structure MTask where
 kind:Int
 of':Int
 which:Int
 fn:Int
 looper:Int
 by':Int
 nth:Int
 front:Bool
 delay:Int
 due:Int
 payload:Int
 state:Int
 trap:Int
 mark:Int
 prev:Int
instance:Inhabited MTask:=⟨⟨0,0,0,0,0,0,0,false,0,0,0,0,0,0,0⟩⟩
structure MMark where
 kind:Int
 task:Int
 other:Int
 acc:MAcc
instance:Inhabited MMark:=⟨⟨0,0,0,⟨0,0,0,0,false⟩⟩⟩
structure MS where
 H:List MObj
 K:List Int
 E:List Bool
 Q:List (List MItem)
 runs:List Int
 T:List MTask
 Th:List MThr
 G:List Int
 log:List Int
 M:List MMark
 on:List Int
 now:Int
 steps:Int
 full:Bool
def Q6K:MAcc:=⟨0,0,0,0,false⟩
def Yn (s:MS) (k task other:Int):MS:= {s with M:=s.M++[⟨k,task,other,Q6K⟩]}
def Jm (s:MS) (task site k a:Int) (write:Bool):MS:= {s with M:=s.M++[⟨3,task,0,⟨site,k,a,0,write⟩⟩]}
def ZF (s:MS) (id:Int):MTask:=(s.T[(id -1).toNat]?).getD default
def Zx (s:MS) (id:Int):MThr:=(s.Th[(id -1).toNat]?).getD ⟨[],0⟩
def stM (s:MS) (id st:Int):MS:= {s with T:=s.T.modify (id -1).toNat fun t=> {t with state:=st}}
def JS (s:MS) (id:Int):MS:=if(ZF s id).kind=4 then Jm (Yn (stM s id 2) 1 id 0) id (ZF s id).of' 5 id true else Yn (stM s id 2) 1 id 0
def Yq (s:MS) (t:MTask):MTask:= {t with state:=1,due:=s.now+t.delay}
def Y7 (P:Prg) (s:MS) (t:MTask) (cells:List Int):MS:=
 if 256<=s.T.length then s else {s with
  T:=s.T++[Yq s t]
  Th:=s.Th++[⟨[Ye P t.fn cells],0⟩]
  Q:=if 0<=t.looper then s.Q.modify t.looper.toNat fun L=>Q4I L ⟨(s.T.length:Int)+1,t.front,s.now+t.delay⟩else s.Q}
def Qcj (s:MS):Int:=if 256<=s.T.length then 0 else s.T.length+1
structure MOk (P:Prg) (s:MS):Prop where
 h:s.H.length<=1024
 k:s.K.length=P.comps.length
 k2:s.K.length<=1000
 e2:s.E.length<=1000
 e:s.E.length=P.events.length
 q:s.Q.length=P.loopers
 r:s.runs.length=P.loopers
 t:s.T.length<=256
 th:s.Th.length=s.T.length
 g:s.G.length=P.globals
 lg:s.log.length<=1024
 m:s.M.length<=100000
 on:s.on.length=P.events.length
 now:0<=s.now/\s.now<=1000000000000
 st:0<=s.steps/\s.steps<=20000
 ql: ∀L,L∈s.Q->L.length<=s.T.length
 tok: ∀T,T∈s.Th->Kr P T
end Go.Mac
namespace Go.Proofs
open Go.Shelf
def Tryz.keysA_ren:Go.Shelf.Ren:=⟨fun|7=>102|10=>120|n=>n,fun|23=>175|26=>3|3=>3|28=>210|0=>0|27=>209|33=>114|4=>4|n=>n,fun|n=>n⟩
theorem Tryz.keysA:Go.Proofs.SlLaysZI.n7 Tryz.prog Tryz.keysA_ren:= {
 mixed:=by kernel_rfl
 f7:=⟨Tryz.f102.name,by decide,Tryz.func102.trans (congrArg some (by kernel_rfl))⟩
 f10:=⟨Tryz.f120.name,by decide,Tryz.func120.trans (congrArg some (by kernel_rfl))⟩
 t0:=Tryz.underlying0
 a0:=Tryz.isAgg0
 z0:=Tryz.sizeOf0
 v0:=Tryz.zeroValue0
 t4:=Tryz.underlying4
 a4:=Tryz.isAgg4
 z4:=Tryz.sizeOf4
 v4:=Tryz.zeroValue4
 t23:=Tryz.underlying175
 a23:=Tryz.isAgg175
 z23:=Tryz.sizeOf175
 v23:=Tryz.zeroValue175
 t26:=Tryz.underlying3
 a26:=Tryz.isAgg3
 z26:=Tryz.sizeOf3
 v26:=Tryz.zeroValue3
 t27:=Tryz.underlying209
 a27:=Tryz.isAgg209
 z27:=Tryz.sizeOf209
 v27:=Tryz.zeroValue209
 t28:=Tryz.underlying210
 a28:=Tryz.isAgg210
 z28:=Tryz.sizeOf210
 v28:=Tryz.zeroValue210
 t33:=Tryz.underlying114
 a33:=Tryz.isAgg114
 z33:=Tryz.sizeOf114
 v33:=Tryz.zeroValue114}
def Tryz.sortedA_ren:Go.Shelf.Ren:=⟨fun|6=>101|8=>118|9=>119|11=>126|13=>128|12=>127|23=>139|24=>140|14=>130|15=>131|16=>132|17=>133|18=>134|19=>135|20=>136|21=>137|22=>138|25=>141|26=>142|27=>143|28=>144|29=>145|30=>146|31=>147|n=>n,fun|26=>3|28=>210|24=>39|0=>0|3=>3|37=>237|48=>248|50=>250|4=>4|40=>241|39=>240|45=>245|5=>5|9=>9|51=>251|55=>255|57=>257|58=>225|33=>114|n=>n,fun|n=>n⟩
theorem Tryz.sortedA:Go.Proofs.SlLaysZI.n6 Tryz.prog Tryz.sortedA_ren:= {
 mixed:=by kernel_rfl
 f6:=⟨Tryz.f101.name,by decide,Tryz.func101.trans (congrArg some (by kernel_rfl))⟩
 f8:=⟨Tryz.f118.name,by decide,Tryz.func118.trans (congrArg some (by kernel_rfl))⟩
 f11:=⟨Tryz.f126.name,by decide,Tryz.func126.trans (congrArg some (by kernel_rfl))⟩
 t0:=Tryz.underlying0
 a0:=Tryz.isAgg0
 z0:=Tryz.sizeOf0
 v0:=Tryz.zeroValue0
 t24:=Tryz.underlying39
 a24:=Tryz.isAgg39
 z24:=Tryz.sizeOf39
 v24:=Tryz.zeroValue39
 t26:=Tryz.underlying3
 a26:=Tryz.isAgg3
 z26:=Tryz.sizeOf3
 v26:=Tryz.zeroValue3
 t28:=Tryz.underlying210
 a28:=Tryz.isAgg210
 z28:=Tryz.sizeOf210
 v28:=Tryz.zeroValue210
 i26:=by kernel_rfl}
def Tryz.sortA_ren:Go.Shelf.Ren:=⟨fun|5=>119|8=>128|7=>127|19=>139|20=>140|10=>130|11=>131|12=>132|13=>133|14=>134|15=>135|16=>136|17=>137|18=>138|30=>141|31=>142|32=>143|33=>144|34=>145|35=>146|40=>147|n=>n,fun|23=>39|25=>3|3=>3|32=>237|22=>39|0=>0|44=>248|46=>250|4=>4|36=>241|35=>240|41=>245|5=>5|9=>9|53=>251|57=>255|63=>257|64=>225|n=>n,fun|n=>n⟩
theorem Tryz.sortA:Go.Proofs.SlLaysM.n5 Tryz.prog Tryz.sortA_ren:= {
 mixed:=by kernel_rfl
 f5:=⟨Tryz.f119.name,by decide,Tryz.func119.trans (congrArg some (by kernel_rfl))⟩
 f7:=⟨Tryz.f127.name,by decide,Tryz.func127.trans (congrArg some (by kernel_rfl))⟩
 f8:=Tryz.func128.trans (congrArg some (by kernel_rfl))
 f10:=⟨Tryz.f130.name,by decide,Tryz.func130.trans (congrArg some (by kernel_rfl))⟩
 f11:=⟨Tryz.f131.name,by decide,Tryz.func131.trans (congrArg some (by kernel_rfl))⟩
 f12:=⟨Tryz.f132.name,by decide,Tryz.func132.trans (congrArg some (by kernel_rfl))⟩
 f13:=⟨Tryz.f133.name,by decide,Tryz.func133.trans (congrArg some (by kernel_rfl))⟩
 f14:=⟨Tryz.f134.name,by decide,Tryz.func134.trans (congrArg some (by kernel_rfl))⟩
 f15:=⟨Tryz.f135.name,by decide,Tryz.func135.trans (congrArg some (by kernel_rfl))⟩
 f16:=⟨Tryz.f136.name,by decide,Tryz.func136.trans (congrArg some (by kernel_rfl))⟩
 f17:=⟨Tryz.f137.name,by decide,Tryz.func137.trans (congrArg some (by kernel_rfl))⟩
 f18:=⟨Tryz.f138.name,by decide,Tryz.func138.trans (congrArg some (by kernel_rfl))⟩
 f19:=Tryz.func139.trans (congrArg some (by kernel_rfl))
 f20:=Tryz.func140.trans (congrArg some (by kernel_rfl))
 f30:=⟨Tryz.f141.name,by decide,Tryz.func141.trans (congrArg some (by kernel_rfl))⟩
 f31:=Tryz.func142.trans (congrArg some (by kernel_rfl))
 f32:=Tryz.func143.trans (congrArg some (by kernel_rfl))
 f33:=⟨Tryz.f144.name,by decide,Tryz.func144.trans (congrArg some (by kernel_rfl))⟩
 f34:=⟨Tryz.f145.name,by decide,Tryz.func145.trans (congrArg some (by kernel_rfl))⟩
 f35:=⟨Tryz.f146.name,by decide,Tryz.func146.trans (congrArg some (by kernel_rfl))⟩
 f40:=⟨Tryz.f147.name,by decide,Tryz.func147.trans (congrArg some (by kernel_rfl))⟩
 t0:=Tryz.underlying0
 a0:=Tryz.isAgg0
 z0:=Tryz.sizeOf0
 v0:=Tryz.zeroValue0
 t3:=Tryz.underlying3
 a3:=Tryz.isAgg3
 z3:=Tryz.sizeOf3
 v3:=Tryz.zeroValue3
 t4:=Tryz.underlying4
 a4:=Tryz.isAgg4
 z4:=Tryz.sizeOf4
 v4:=Tryz.zeroValue4
 t5:=Tryz.underlying5
 a5:=Tryz.isAgg5
 z5:=Tryz.sizeOf5
 v5:=Tryz.zeroValue5
 t9:=Tryz.underlying9
 a9:=Tryz.isAgg9
 z9:=Tryz.sizeOf9
 v9:=Tryz.zeroValue9
 t22:=Tryz.underlying39
 a22:=Tryz.isAgg39
 z22:=Tryz.sizeOf39
 v22:=Tryz.zeroValue39
 t23:=Tryz.underlying39
 a23:=Tryz.isAgg39
 z23:=Tryz.sizeOf39
 v23:=Tryz.zeroValue39
 t25:=Tryz.underlying3
 a25:=Tryz.isAgg3
 z25:=Tryz.sizeOf3
 v25:=Tryz.zeroValue3
 t32:=Tryz.underlying237
 a32:=Tryz.isAgg237
 z32:=Tryz.sizeOf237
 v32:=Tryz.zeroValue237
 t35:=Tryz.underlying240
 a35:=Tryz.isAgg240
 z35:=Tryz.sizeOf240
 v35:=Tryz.zeroValue240
 t36:=Tryz.underlying241
 a36:=Tryz.isAgg241
 z36:=Tryz.sizeOf241
 v36:=Tryz.zeroValue241
 t41:=Tryz.underlying245
 a41:=Tryz.isAgg245
 z41:=Tryz.sizeOf245
 v41:=Tryz.zeroValue245
 t44:=Tryz.underlying248
 a44:=Tryz.isAgg248
 z44:=Tryz.sizeOf248
 v44:=Tryz.zeroValue248
 t46:=Tryz.underlying250
 a46:=Tryz.isAgg250
 z46:=Tryz.sizeOf250
 v46:=Tryz.zeroValue250
 t53:=Tryz.underlying251
 a53:=Tryz.isAgg251
 z53:=Tryz.sizeOf251
 v53:=Tryz.zeroValue251
 t57:=Tryz.underlying255
 a57:=Tryz.isAgg255
 z57:=Tryz.sizeOf255
 v57:=Tryz.zeroValue255
 t63:=Tryz.underlying257
 a63:=Tryz.isAgg257
 z63:=Tryz.sizeOf257
 v63:=Tryz.zeroValue257
 t64:=Tryz.underlying225
 a64:=Tryz.isAgg225
 z64:=Tryz.sizeOf225
 v64:=Tryz.zeroValue225}
end Go.Proofs
namespace Go.Model
open Go.X
end Go.Model
namespace Go.Proofs.YtljpajcmdjmeaaaGreat
open Go.X Go.RowKit Go.Maps Go.Sort Go.Shelf
theorem Q5s:Tryz.prog.follows .mixedOrders=true:=by kernel_rfl
theorem Qe8 (m:Nat):AnyZI.SortsIn Tryz.prog Tryz.sortedA_ren Fence.wide m:=
 ⟨fun blk off cap ss W hH hblk cO=>callsIn_wide.2 (AnyM.slices_Sort_int Tryz.sortA blk off cap ss W hH hblk cO),
  fun p cap W=>callsIn_wide.2 (AnyM.slices_Sort_int_none Tryz.sortA p cap W)⟩
theorem Qfh:SortKeys Tryz.prog 101 120 3 where
 ty:=Tryz.underlying3
 yes :=fun Bm b nn D0 R w hB hc ai hmax lC=>by
  refine(callsIn_wide (n:=6)).1 ?_
  have kN:SeqGives Fence.wide 3 Tryz.prog 120 #[.pointer (some ⟨Bm,0,none⟩)] encZ (fun ss=>ss.Perm (intKeys D0)) (Maps.size D0) w:=
   AnyZI.keys_gives (ρ:=Tryz.keysA_ren) {Tryz.keysA with} Fence.wide _ trivial rfl (by omega) Bm b nn D0 _ hB hc ai
  have cS:=AnyZI.sorted_in Tryz.sortedA Fence.wide 6 trivial trivial trivial trivial rfl (by omega) (Qe8 _) (enters_of Tryz.func119 (by kernel_rfl) rfl) 120 #[.pointer (some ⟨Bm,0,none⟩)] trivial (enters_of Tryz.func120 (by kernel_rfl) rfl) _ _ hmax lC _ kN;change CallsIn _ _ Tryz.prog 101 _ _ _ at cS;exact cS
 no:=fun Bm w hB hc=>by
  refine(callsIn_wide (n:=6)).1 ?_
  have kN:SeqGives Fence.wide 3 Tryz.prog 120 #[.pointer (some ⟨Bm,0,none⟩)] encZ (fun ss:List Int=>ss=[]) 0 w:=
   AnyZI.keys_gives_nil (ρ:=Tryz.keysA_ren) {Tryz.keysA with} Fence.wide _ trivial rfl Bm _ hB hc
  have cS:=AnyZI.sorted_in Tryz.sortedA Fence.wide 6 trivial trivial trivial trivial rfl (by omega) (Qe8 _) (enters_of Tryz.func119 (by kernel_rfl) rfl) 120 #[.pointer (some ⟨Bm,0,none⟩)] trivial (enters_of Tryz.func120 (by kernel_rfl) rfl) _ 0 (v0t _) (by omega) _ kN;change CallsIn _ _ Tryz.prog 101 _ _ _ at cS;exact cS.mono fun e w' ⟨v,ss,he,hs,_,hn,hb⟩=>⟨by rw[he,hn.2 hs],hb⟩
noncomputable def onE0:Env:=QdD Tryz.prog 99 Tryz.f99 Tryz.func99 (by kernel_rfl) (by kernel_rfl) (by kernel_rfl) (by kernel_rfl)
noncomputable def onE1:Env:=envSm onE0 101 (JB 120 3) (Q6m Qfh)
theorem Qaw:Q4O onE1 7 20000=true:=by kernel_rfl
noncomputable def modE:Env:=QdC onE1 7 (Q6h onE1 Q5s Qaw)
abbrev iV (k:Int):Value:=.int .i64 k
abbrev isV (l:List Int):List Value:=l.map fun n=>.int .i64 n
abbrev Qn (i:Nat):Value:=.pointer (some ⟨i,0,none⟩)
open Go.Mac
structure HpW where
 ov:Value
 ob:List Nat
 vs:List (Value×List Nat)
def obC:List MObj->List (Value×List Nat)->List Value
 |o::l,v::c=>[iV o.kind,iV o.of,v.1,iV o.site,iV o.by',iV o.nth]++obC l c
 |_,_=>[]
def obP:List MObj->List (Value×List Nat)->List Res
 |o::l,v::c=>slR 2 0 v.1 (isV o.vals) o.vals.length v.2::obP l c
 |_,_=>[]
def hpL (hb:Nat) (H:List MObj) (w:HpW):List Res:=cR hb (.cells [w.ov] 93 0)::slR 233 5 w.ov (obC H w.vs) H.length w.ob::obP H w.vs
def hpR (hb:Nat) (H:List MObj) (bs:List Nat):Res:=Q2U (fun L=> ∃w:HpW,w.vs.length=H.length/\L=hpL hb H w) bs
theorem Q5l: ∀(l:List MObj) (c:List (Value×List Nat)) (rest:List Value) (j:Nat) (o:MObj) (v:Value×List Nat),l[j]?=some o->c[j]?=some v->((obC l c++rest).drop (j*6)).take 6=[iV o.kind,iV o.of,v.1,iV o.site,iV o.by',iV o.nth]
 | o::l,v::c,rest,0,o',v',h1,h2=>by
   simp only[v0S,v0i.injEq]at h1 h2;subst h1;subst h2;rfl
 | o::l,v::c,rest,j+1,o',v',h1,h2=>by
   show(([_,_,_,_,_,_]++obC l c++rest).drop ((j+1)*6)).take 6=_;rw[show(j+1)*6=6+j*6 by omega,v0B,<-List.drop_drop,List.drop_left' (by rfl)];exact Q5l l c rest j o' v' (by simpa using h1) (by simpa using h2)
 | [],_,_,_,_,_,h1,_=>by simp at h1
 |_::_,[],_,_,_,_,_,h2=>by simp at h2
theorem Q7K: ∀(l:List MObj) (c:List (Value×List Nat)) (j:Nat) (o:MObj) (v:Value×List Nat),l[j]?=some o->c[j]?=some v->(obP l c)[j]?=some (slR 2 0 v.1 (isV o.vals) o.vals.length v.2)
 | o::l,v::c,0,o',v',h1,h2=>by
   simp only[v0S,v0i.injEq]at h1 h2;subst h1;subst h2;rfl
 |o::l,v::c,j+1,o',v',h1,h2=>Q7K l c j o' v' (by simpa using h1) (by simpa using h2)
 | [],_,_,_,_,h1,_=>by simp at h1
 |_::_,[],_,_,_,_,h2=>by simp at h2
theorem Qv {cs r:List Value} {p z f:Nat} {v:Value} (h:(cs.drop p).take z=r) (hf:f <z) (hr:r[f]?=some v):cs[p+f]?=some v:=by
 rw[<-v1l,<-v2l hf,h];exact hr
theorem Qa {e z n:Nat} {h:Hp} {s:Value} {cs:List Value} {bs:List Nat} (x:SlC e z h s cs n bs): ∃a c,s=.slice a n c:=by
 rcases x with⟨h1,_,h3,_⟩| ⟨b,m,c,rest,h1,_⟩
 · exact⟨none,0,by rw[h1,h3]⟩
 exact⟨_,_,h1⟩
structure HpG (h:Hp) (hb:Nat) (H:List MObj) (oa:Option Addr) (oc:Nat) (w:HpW):Prop where
 vs:w.vs.length=H.length
 ov:w.ov=.slice oa H.length oc
 cel:h.get hb=some (.cells [.slice oa H.length oc] 93 0)
 row:SlC 233 5 h (.slice oa H.length oc) (obC H w.vs) H.length w.ob
 val: ∀(j:Nat) o v,H[j]?=some o->w.vs[j]?=some v->SlC 2 0 h v.1 (isV o.vals) o.vals.length v.2
theorem Q2p {h:Hp} {hb:Nat} {H:List MObj} {bs:List Nat} (p:(hpR hb H bs).P h): ∃oa oc w,HpG h hb H oa oc w:=by
 obtain⟨L,⟨w,hw,rfl⟩,_,hp⟩:=p;have h1:SlC 233 5 h w.ov (obC H w.vs) H.length w.ob:=hp (slR 233 5 w.ov (obC H w.vs) H.length w.ob) (by simp[hpL]);obtain⟨oa,oc,e⟩:=Qa h1;have h0:h.get hb=some (.cells [w.ov] 93 0):=hp (cR hb (.cells [w.ov] 93 0)) (by simp[hpL]);rw[e]at h0 h1
 exact⟨oa,oc,w,hw,e,h0,h1,fun j o v h1 h2=>hp (slR 2 0 v.1 (isV o.vals) o.vals.length v.2) (by
  have:=v0m (Q7K _ _ _ _ _ h1 h2)
  simp only[hpL,v0w];exact .inr (.inr this))⟩
theorem HpG.obj {h:Hp} {hb:Nat} {H:List MObj} {oa:Option Addr} {oc:Nat} {w:HpW} (G:HpG h hb H oa oc w) {j:Nat} {o:MObj} (hj:H[j]?=some o): ∃(b:Nat) (cs:List Value) (m:Nat) (v:Value) (bs:List Nat),oa=some ⟨b,0,none⟩/\h.get b=some (.cells cs 233 m)/\w.vs[j]?=some (v,bs)/\(cs.drop (j*6)).take 6=[iV o.kind,iV o.of,v,iV o.site,iV o.by',iV o.nth]/\H.length*6<=cs.length/\SlC 2 0 h v (isV o.vals) o.vals.length bs:=by
 have hl:=(List.getElem?_eq_some_iff.1 hj).1;obtain⟨b,c,hv,hb,cK⟩:=Q00 G.row (by omega);obtain⟨rfl,rfl⟩:oa=some ⟨b,0,none⟩/\oc=c:=by simpa using hv
 obtain⟨r,m,hg⟩:=Q51 G.row;obtain⟨⟨v,bs⟩,gh⟩: ∃v,w.vs[j]?=some v:=⟨_,v0c (by rw[G.vs];exact hl)⟩;exact⟨b,_,m,v,bs,rfl,hg,gh,Q5l _ _ _ _ _ _ hj gh,by rw[v0j,cK];omega,G.val j o _ hj gh⟩
section
variable {h:Hp} {hb:Nat} {H:List MObj} {bs:List Nat} {id:Int}
theorem m102 (p:(hpR hb H bs).P h):CP modE 125 [Qn hb,iV id] h (.bool (hasB H id)):=by
 obtain⟨oa,oc,w,G⟩:=Q2p p;refine Q9 (fu:=Tryz.f125) (by kernel_rfl) rfl ?_;refine Q6<|I2 rfl<|QG<|I1 rfl<|Ih rfl rfl<|I1 rfl ?_
 refine Qt (n:=7) rfl rfl rfl gn rfl (fun hb=>by
  refine D1 hb rfl<|D1 hb rfl<|D6 hb rfl<|D0 0 hb rfl<|D4 hb rfl G.cel rfl<|D7 hb rfl<|Dm hb rfl rfl ?_
  exact Q0 ⟨rfl,rfl,7,rfl,rfl⟩) ?_
 refine I2 rfl<|Q0<|Q8 ⟨.inl rfl,_,rfl,⟨by unfold hasB;rfl,rfl⟩⟩
theorem m89 {k:Int} (p:(hpR hb H bs).P h) (hH:H.length<=1000000):CP modE 109 [Qn hb,iV id,iV k] h (.bool (isO H id k)):=by
 obtain⟨oa,oc,w,G⟩:=Q2p p;refine Q9 (fu:=Tryz.f109) (by kernel_rfl) rfl ?_;refine Q6<|I2 rfl<|QG<|I1 rfl<|I1 rfl<|Ic [_,_] rfl rfl (Qm (m102 p) ⟨ag0,?_⟩);refine I1 rfl ?_
 refine Qt (n:=11) rfl rfl rfl gn rfl (fun hb=>by
  obtain⟨j,o,bU,hj,ho,bK⟩:=Q3j hb;obtain⟨b,cs,m,v,vb,cQ,hg,hv,hc,hl,_⟩:=G.obj hj;have k0:cs[0+v0g (id -1)*6+0]?=some (iV (QT H id).kind):=by rw[ho,show v0g (id -1)=j by omega,v0f];exact Qv hc (by omega) rfl
  refine D1 hb rfl<|D6 hb rfl<|D0 0 hb rfl<|D4 hb rfl G.cel rfl<|D1 hb rfl<|Dso hb rfl rfl ?_;rw[cQ];refine D5o 6 hb rfl rfl ?_;rw[<-cQ];refine D0 0 hb rfl<|D4 hb rfl hg k0<|D1 hb rfl<|De hb rfl rfl ?_
  exact Q0 ⟨rfl,rfl,11,rfl,rfl⟩) ?_
 refine I2 rfl<|Q0<|Q8 ⟨.inl rfl,_,rfl,⟨by unfold isO;cases hb:hasB H id<;>rfl,rfl⟩⟩
theorem m90 (p:(hpR hb H bs).P h) (hH:H.length<=1000000):CP modE 110 [Qn hb,iV id] h (iV (Q6b H id)):=by
 obtain⟨oa,oc,w,G⟩:=Q2p p;refine Q9 (fu:=Tryz.f110) (by kernel_rfl) rfl ?_;refine Q6<|I2 rfl<|Z5<|I1 rfl<|I1 rfl<|Ic [_,_] rfl rfl (Qm (m102 p) ⟨ag0,?_⟩);refine Ib rfl<|Q0<|Q3 rfl (fun hb=>?_) fun hb=>?_
 · skip
   refine Q6<|I2 rfl<|Q0<|Q8 ?_;refine⟨.inl rfl,_,rfl,?_⟩
   exact⟨by
    have:hasB H id=false:=by simpa using hb
    unfold Q6b;rw[this];rfl,rfl⟩
 refine Q4 ?_;have bk:hasB H id=true:=by simpa using hb
 have hlen:Q6b H id=(QT H id).vals.length:=if_pos bk;obtain⟨j,o,rfl,hj,ho,bK⟩:=Q3j bk;obtain⟨b,cs,m,v,vb,rfl,hg,hv,hc,hl,bH⟩:=G.obj hj;obtain⟨va,vc,rfl⟩:=Qa bH;have k0:cs[0+v0g ((j:Int)+1 -1)*6+2]?=some (.slice va o.vals.length vc):=by rw[show v0g ((j:Int)+1 -1)=j by omega,v0f];exact Qv hc (by omega) rfl
 refine Q6<|I1 rfl<|I6 rfl<|I0 0 rfl<|I4 rfl G.cel rfl<|I1 rfl<|Iso rfl rfl<|I5o 6 rfl rfl<|I0 2 rfl<|I4 rfl hg k0<|I7 rfl<|I2 rfl<|Q0<|Q8 ⟨.inl rfl,_,rfl,⟨by rw[hlen,ho];rfl,rfl⟩⟩
theorem m101 {i:Int} (p:(hpR hb H bs).P h) (hH:H.length<=1000000):CP modE 124 [Qn hb,iV id,iV i] h (.tuple #[iV (getV H id i),iV (if inH H id i=true then 0 else 13)]):=by
 obtain⟨oa,oc,w,G⟩:=Q2p p;refine Q9 (fu:=Tryz.f124) (by kernel_rfl) rfl ?_;refine Q6<|I2 rfl<|I2 rfl<|Z5<|I1 rfl<|Il rfl rfl<|I1 rfl ?_
 refine QS (n:=5) rfl rfl rfl gn rfl (fun hb=>by
  refine D1 hb rfl<|D1 hb rfl<|D1 hb rfl<|Dc hb [_,_] rfl rfl (Qm (m90 p hH) ⟨ag0,?_⟩);refine Dh hb rfl rfl ?_
  exact Q0 ⟨rfl,rfl,5,rfl,rfl⟩) ?_
 refine Q0<|Q3 rfl (fun hb=>?_) fun hb=>?_
 · skip
   refine Q6<|I2 rfl<|I2 rfl<|Q0<|Q8 ?_;refine⟨.inl rfl,_,rfl,?_⟩
   exact⟨by
    have h1:inH H id i=false:=by unfold inH;simp at hb ⊢;omega
    unfold getV;rw[h1];rfl,rfl⟩
 refine Q4 ?_;have h1:inH H id i=true:=by unfold inH;simp at hb ⊢;omega
 obtain⟨hi0,cB⟩:0<=i/\i <Q6b H id:=by unfold inH at h1;simpa using h1
 have bk:hasB H id=true:=by
  cases e:hasB H id with
  |true=>rfl
  |false=>unfold Q6b at cB;rw[e]at cB;simp at cB;omega
 have hlen:Q6b H id=(QT H id).vals.length:=if_pos bk;obtain⟨j,o,rfl,hj,ho,bK⟩:=Q3j bk;rw[hlen,ho]at cB;obtain⟨b,cs,m,v,vb,rfl,hg,hv,hc,hl,bH⟩:=G.obj hj;obtain⟨b2,o2,c2,cJ,e2,m2,rfl,dM,jv,fg⟩:=bH.row.atM (by omega);have k0:cs[0+v0g ((j:Int)+1 -1)*6+2]?=some (.slice (some ⟨b2,o2,none⟩) o.vals.length c2):=by rw[show v0g ((j:Int)+1 -1)=j by omega,v0f];exact Qv hc (by omega) rfl
 have aG:i.toNat <o.vals.length:=by omega
 have k1:cJ[o2+v0g i*1]?=some (iV o.vals[i.toNat]):=by rw[v0x];exact fg _ aG
 refine Q6<|I1 rfl<|I6 rfl<|I0 0 rfl<|I4 rfl G.cel rfl<|I1 rfl<|Iso rfl rfl<|I5o 6 rfl rfl<|I0 2 rfl<|I4 rfl hg k0<|I1 rfl<|I5o 1 rfl rfl<|I4 rfl dM k1<|I2 rfl<|I2 rfl<|Q0 ?_;refine Q8 ⟨.inl rfl,_,rfl,⟨by unfold getV;rw[h1,ho,v0c aG];rfl,rfl⟩⟩
end
theorem Q7L: ∀(l:List MObj) (c:List (Value×List Nat)) (o:MObj) (v:Value×List Nat),c.length=l.length->obC (l++[o]) (c++[v])=obC l c++[iV o.kind,iV o.of,v.1,iV o.site,iV o.by',iV o.nth]
 | [],[],_,_,_=>rfl
 | [],_::_,_,_,h=>by simp at h
 |_::_,[],_,_,h=>by simp at h
 | o::l,v::c,o',v',h=>by
   show[_,_,_,_,_,_]++obC (l++[o']) (c++[v'])=_;rw[Q7L l c o' v' (by simpa using h)];rfl
theorem Q7J: ∀(l:List MObj) (c:List (Value×List Nat)) (o:MObj) (v:Value×List Nat),c.length=l.length->obP (l++[o]) (c++[v])=obP l c++[slR 2 0 v.1 (isV o.vals) o.vals.length v.2]
 | [],[],_,_,_=>rfl
 | [],_::_,_,_,h=>by simp at h
 |_::_,[],_,_,h=>by simp at h
 | o::l,v::c,o',v',h=>by
   show _::obP (l++[o']) (c++[v'])=_;rw[Q7J l c o' v' (by simpa using h)];rfl
theorem Qaj (i:Nat) (k:Int): ∀(l:List MObj) (c:List (Value×List Nat)) (j:Nat),obC (l.modify j fun o=> {o with vals:=o.vals.set i k}) c=obC l c
 | [],c,j=>by cases j<;>rfl
 | o::l,[],j=>by
   cases j with
   |zero=>rfl
   |succ j=>rw[v07];rfl
 |o::l,v::c,0=>rfl
 | o::l,v::c,j+1=>by
   rw[v07];show[_,_,_,_,_,_]++obC (l.modify j _) c=_;rw[Qaj i k l c j];rfl
theorem KZ (l:List Int) (i:Nat) (k:Int):(isV l).set i (iV k)=isV (l.set i k):=by simp
theorem Qai (i:Nat) (k:Int): ∀(l:List MObj) (c:List (Value×List Nat)) (j:Nat) (o:MObj) (v:Value×List Nat),l[j]?=some o->c[j]?=some v->(obP l c).set j (slR 2 0 v.1 ((isV o.vals).set i (iV k)) o.vals.length v.2)=obP (l.modify j fun o=> {o with vals:=o.vals.set i k}) c
 | o::l,v::c,0,o',v',h1,h2=>by
   simp only[v0S,v0i.injEq]at h1 h2;subst h1;subst h2;show slR 2 0 v.1 ((isV o.vals).set i (iV k)) o.vals.length v.2::obP l c=slR 2 0 v.1 (isV (o.vals.set i k)) (o.vals.set i k).length v.2::obP l c;rw[KZ,v0q]
 | o::l,v::c,j+1,o',v',h1,h2=>by
   rw[v07];show _::(obP l c).set j _=_::obP (l.modify j _) c;rw[Qai i k l c j o' v' (by simpa using h1) (by simpa using h2)]
 | [],_,_,_,_,h1,_=>by simp at h1
 |_::_,[],_,_,_,_,h2=>by simp at h2
section
variable {h0 h:Hp} {ds:List Nat} {A:List Res} {ph:Nat} {H:List MObj} {bs:List Nat}
theorem Qbc (S:SH h0 ds (A++[hpR ph H bs]) h): ∃w:HpW,w.vs.length=H.length/\owns (hpL ph H w)=bs/\SH h0 ds (A++hpL ph H w) h:=by
 obtain⟨L,⟨w,hw,rfl⟩,h2,h3⟩:=Jk S;exact⟨w,hw,h2,h3⟩
theorem Qbb {w:HpW} (S:SH h0 ds (A++hpL ph H w) h) (hw:w.vs.length=H.length):SH h0 ds (A++[hpR ph H (owns (hpL ph H w))]) h:=KF S ⟨w,hw,rfl⟩
theorem Qbd {w:HpW} (S:SH h0 ds (hpL ph H w) h) (hw:w.vs.length=H.length): ∃aa,SH h0 ds [hpR ph H aa] h:=⟨_,Qbb (A:=[]) S hw⟩
end
section
variable {h0 h:Hp} {ph:Nat} {H:List MObj} {bs:List Nat} {id:Int}
theorem m100 {i n:Int} (S0:SH h0 [] [hpR ph H bs] h) (hH:H.length<=1000000):C modE 123 [Qn ph,iV id,iV i,iV n] h fun v g'=>v=iV (if inH H id i=true/\isO H id 4=false then 0 else 13)/\ ∃aa,SH h bs [hpR ph (setH H id i n) aa] g':=by
 have p:=S0.res 0 rfl;have SE:=S0.enter;refine Q9 (fu:=Tryz.f123) (by kernel_rfl) rfl ?_;have S:=SH.start h;refine Q6<|I2 rfl<|Z5<|I1 rfl<|Il rfl rfl<|I1 rfl ?_
 refine QS (n:=5) rfl rfl rfl gn rfl (fun hb=>by
  refine D1 hb rfl<|D1 hb rfl<|D1 hb rfl<|Dc hb [_,_] rfl rfl (Qm (m90 p hH) ⟨ag0,?_⟩);refine Dh hb rfl rfl ?_
  exact Q0 ⟨rfl,rfl,5,rfl,rfl⟩) ?_
 refine I1 rfl ?_
 refine QS (n:=3) rfl rfl rfl gn rfl (fun hb=>by
  refine D1 hb rfl<|D1 hb rfl<|Dc hb [_,_,_] rfl rfl (Qm (m89 p hH) ⟨ag0,?_⟩)
  exact Q0 ⟨rfl,rfl,3,rfl,rfl⟩) ?_
 refine Q0<|Q3 rfl (fun hb=>?_) fun hb=>?_
 · skip
   refine Q6<|I2 rfl<|Q0<|Q8 ?_;refine⟨.inl rfl,_,rfl,?_⟩
   exact⟨by
    have h1: ¬(inH H id i=true/\isO H id 4=false):=by
     unfold inH;rintro⟨h1,h2⟩;rw[h2]at hb;simp at hb h1;omega
    rw[if_neg h1];rfl,by
    have h1: ¬(inH H id i=true/\isO H id 4=false):=by
     unfold inH;rintro⟨h1,h2⟩;rw[h2]at hb;simp at hb h1;omega
    unfold setH;rw[if_neg h1];exact⟨bs,SE⟩⟩
 refine Q4 ?_
 have h2:isO H id 4=false:=by
  cases e:isO H id 4 with
  |false=>rfl
  |true=>rw[e]at hb;simp at hb
 have h1:inH H id i=true:=by unfold inH;rw[h2]at hb;simp at hb ⊢;omega
 obtain⟨hi0,cB⟩:0<=i/\i <Q6b H id:=by unfold inH at h1;simpa using h1
 have bk:hasB H id=true:=by
  cases e:hasB H id with
  |true=>rfl
  |false=>unfold Q6b at cB;rw[e]at cB;simp at cB;omega
 have hlen:Q6b H id=(QT H id).vals.length:=if_pos bk;obtain⟨j,o,rfl,hj,ho,bK⟩:=Q3j bk;rw[hlen,ho]at cB;obtain⟨w,hw,ai,S⟩:=Qbc (A:=[]) SE;rw[List.nil_append]at S;obtain⟨⟨v,vb⟩,gh⟩: ∃v,w.vs[j]?=some v:=⟨_,v0c (by omega)⟩;obtain⟨b,c,ax,_,cK⟩:=Q00 (S.sl 1 rfl) (by omega);have ao:=S.sl 1 rfl;rw[ax]at ao;obtain⟨r,m,bN⟩:=Q51 ao;have dq:=S.cel 0 rfl;rw[ax]at dq
 have aK:(hpL ph H w)[2+j]?=some (slR 2 0 v (isV o.vals) o.vals.length vb):=by
  rw[show 2+j=j+1+1 by omega];exact Q7K _ _ _ _ _ hj gh
 obtain⟨b2,c2,hv,_,hcl2⟩:=Q00 (S.sl (2+j) aK) (by omega);have aG:i.toNat <o.vals.length:=by omega
 have k0:(obC H w.vs++r)[0+v0g ((j:Int)+1 -1)*6+2]?=some v:=by rw[show v0g ((j:Int)+1 -1)=j by omega,v0f];exact Qv (Q5l _ _ _ _ _ _ hj gh) (by omega) rfl
 refine Q6<|I1 rfl<|I6 rfl<|I0 0 rfl<|I4 rfl dq rfl<|I1 rfl<|Iso rfl rfl<|I5o 6 rfl rfl<|I0 2 rfl<|I4 rfl bN k0<|I1 rfl<|I1 rfl ?_;rw[hv];refine I5o 1 rfl rfl ?_;rw[<-hv];refine Zq (2+j) S gn rfl rfl rfl (by kernel_rfl) aK hv (by rw[v0s];omega) (fun g S=>ag0) fun g S=>?_;refine QG<|I2 rfl<|Q0<|Q8 ?_;refine⟨.inl rfl,_,rfl,?_⟩
 exact⟨by rw[if_pos ⟨h1,h2⟩];rfl,by
  have e:(hpL ph H w).set (2+j) (slR 2 0 v ((isV o.vals).set (0+i.toNat*1) (iV n)) o.vals.length vb)=hpL ph (setH H ((j:Int)+1) i n) w:=by
   unfold setH;rw[if_pos ⟨h1,h2⟩,show v0g ((j:Int)+1 -1)=j by omega,show 2+j=j+1+1 by omega,v0f,v0x];show cR ph (.cells [w.ov] 93 0)::slR 233 5 w.ov (obC H w.vs) H.length w.ob::(obP H w.vs).set j (slR 2 0 v ((isV o.vals).set i.toNat (iV n)) o.vals.length vb)=_;rw[Qai i.toNat n H w.vs j o (v,vb) hj gh];unfold hpL;rw[Qaj,v0l]
  rw[e]at S
  exact Qbd S (by unfold setH;rw[if_pos ⟨h1,h2⟩,v0l];exact hw)⟩
end
theorem el197:ElN modE 91 233 5 63:=⟨by kernel_rfl,by kernel_rfl,by kernel_rfl,.agg #[.int .i64 0,.int .i64 0,.slice none 0 0,.int .i64 0,.int .i64 0,.int .i64 0],by kernel_rfl,rfl⟩
theorem el2:ElN modE 42 2 0 7:=⟨by kernel_rfl,by kernel_rfl,by kernel_rfl,.int .i64 0,by kernel_rfl,rfl⟩
theorem Q36 (n:Nat):Qi [iV 0] n=isV (v0n n 0):=by
 induction n with
 |zero=>rfl
 |succ n ih=>simp only[Qi,List.replicate_succ,List.map_cons]at ih ⊢;rw[ih];rfl
theorem Q8O {H:List MObj} {b:Int} {i:Nat} {o:MObj} (h:H[i]?=some o):Q2e (H.take (i+1)) b=Q2e (H.take i) b+(if o.by'=b then 1 else 0):=by
 unfold Q2e;rw[v0U,h,List.filter_append,v0j]
 congr 1
 by_cases e:o.by'=b<;>simp[e]
theorem QcZ (H:List MObj) (b:Int):Q2e H b<=H.length:=List.length_filter_le _ _
abbrev obV (o:MObj) (v:Value):Value:=.agg #[iV o.kind,iV o.of,v,iV o.site,iV o.by',iV o.nth]
theorem Qdk (l:List Int):(isV l).all cellV=true:=by
 rw[v0v];intro v hv;obtain⟨k,_,rfl⟩:=List.mem_map.1 hv;rfl
theorem QcR {o:MObj} {v:Value} (kv:cellV v=true):(obV o v).cells.toList.all cellV=true:=by
 show([iV o.kind,iV o.of,v,iV o.site,iV o.by',iV o.nth]:List Value).all cellV=true;simp only[List.all_cons,List.all_nil,kv,v1i];rfl
section
variable {h0 h:Hp} {ph:Nat} {H:List MObj} {bs vb:List Nat} {v:Value} {o:MObj}
theorem m103 (S0:SH h0 [] [slR 2 0 v (isV o.vals) o.vals.length vb,hpR ph H bs] h):C modE 129 [Qn ph,obV o v] h fun r g'=>r=.tuple #[iV (addN H),iV (addE H)]/\ ∃aa,SH h (owns [slR 2 0 v (isV o.vals) o.vals.length vb,hpR ph H bs]) [hpR ph (QdV H o) aa] g':=by
 have SE:=S0.enterL;obtain⟨w,hw,ai,S1⟩:=Qbc (A:=[_]) SE;have ao:=S1.sl 2 rfl;obtain⟨oa,oc,ax⟩:=Qa ao
 have m7:0 <H.length-> ∃b,oa=some ⟨b,0,none⟩:=fun hl=>by
  obtain⟨b,c,e,_⟩:=Q00 ao hl;rw[ax]at e;exact⟨b,by simpa using(Value.slice.inj e).1⟩
 have S1:SH h (owns [slR 2 0 v (isV o.vals) o.vals.length vb,hpR ph H bs]) (slR 2 0 v (isV o.vals) o.vals.length vb::cR ph (.cells [.slice oa H.length oc] 93 0)::slR 233 5 (.slice oa H.length oc) (obC H w.vs) H.length w.ob::obP H w.vs) h:=by
  have:=S1;unfold hpL at this;rw[ax]at this;exact this
 refine Q9 (fu:=Tryz.f129) (by kernel_rfl) rfl ?_;have S:=S1;refine Q6 ?_;refine QV S gn rfl rfl fun b1 g aF S=>?_;refine I2 rfl<|I2 rfl<|Z5<|I1 rfl<|I6 rfl<|I0 0 rfl<|I4 rfl (S.cel 2 rfl) rfl<|I7 rfl<|Ih rfl rfl<|Q0<|Q3 rfl (fun hb=>?_) fun hb=>?_
 · skip
   refine Q6<|I2 rfl<|I2 rfl<|Q0<|Q8 ?_;refine⟨.inl rfl,_,rfl,?_⟩
   exact⟨by
    have:1024<=H.length:=by simp at hb;omega
    unfold addN addE;rw[if_pos this,if_pos this];rfl,by
    have:1024<=H.length:=by simp at hb;omega
    unfold QdV;rw[if_pos this];refine⟨_,Qbb (A:=[]) (w:=w) ?_ hw⟩
    unfold hpL;rw[ax];exact S.drop.drop⟩
 refine Q4 ?_;have aj:H.length <1024:=by simp at hb;omega
 have S:SH h (owns [slR 2 0 v (isV o.vals) o.vals.length vb,hpR ph H bs]) (cR b1 (.cells [iV o.kind,iV o.of,v,iV o.site,iV o.by',iV o.nth] 233 0)::slR 2 0 v (isV o.vals) o.vals.length vb::cR ph (.cells [.slice oa H.length oc] 93 0)::slR 233 5 (.slice oa H.length oc) (obC H w.vs) H.length w.ob::obP H w.vs) g:=S;refine Q6<|I0 5 rfl ?_;refine Qj 0 S gn rfl rfl rfl (by kernel_rfl) rfl (by decide) (by simp) (fun g S=>ag0) fun g S=>?_;refine Z5<|I2 rfl<|Q0<|Q7 ?_
 refine Ql [(6,_)] [(0,_),(3,_)] (fun kk lv hh=> ∃i:Nat,lv=[(6,iV i)]/\kk=H.length -i/\i<=H.length/\SH h (owns [slR 2 0 v (isV o.vals) o.vals.length vb,hpR ph H bs]) (cR b1 (.cells [iV o.kind,iV o.of,v,iV o.site,iV o.by',iV (Q2e (H.take i) o.by')] 233 0)::slR 2 0 v (isV o.vals) o.vals.length vb::cR ph (.cells [.slice oa H.length oc] 93 0)::slR 233 5 (.slice oa H.length oc) (obC H w.vs) H.length w.ob::obP H w.vs) hh) (n:=H.length) ?_ fun kk lv hh hI=>?_
 · exact⟨0,rfl,rfl,v0t _,S⟩
 obtain⟨i,rfl,eX,hi,S⟩:=hI;refine Q5<|Q6<|I1 rfl<|I1 rfl<|I6 rfl<|I0 0 rfl<|I4 rfl (S.cel 2 rfl) rfl<|I7 rfl<|Il rfl rfl<|Q0<|Q3 rfl (fun hb=>?_) fun hb=>?_
 · skip
   refine Q4 ?_;have hi:i <H.length:=by simp at hb;omega
   obtain⟨b,rfl⟩:=m7 (by omega);obtain⟨r,m,bN⟩:=Q51 (S.sl 3 rfl);obtain⟨x,hx⟩: ∃x,H[i]?=some x:=⟨_,v0c hi⟩;obtain⟨xv,hxv⟩: ∃x,w.vs[i]?=some x:=⟨_,v0c (by omega)⟩;have k0:(obC H w.vs++r)[0+v0g (i:Int)*6+4]?=some (iV x.by'):=by rw[v0e,v0f];exact Qv (Q5l _ _ _ _ _ _ hx hxv) (by omega) rfl
   have hnt:=Q8O (b:=o.by') hx;have dW:=QcZ (H.take i) o.by'
   rw[v0D]at dW;refine Q5<|Q7<|Q5<|I9<|I1 rfl<|I6 rfl<|I0 0 rfl<|I4 rfl (S.cel 2 rfl) rfl<|I1 rfl<|I5o 6 rfl rfl<|I0 4 rfl<|I4 rfl bN k0<|I0 4 rfl<|I4 rfl (S.cel 0 rfl) rfl<|Ie rfl rfl<|Q0 ?_;refine Q3 rfl (fun hb=>?_) fun hb=>?_
   · skip
     refine Q2 (by kernel_rfl)<|I0 5 rfl<|I4 rfl (S.cel 0 rfl) rfl<|Iao rfl rfl<|I0 5 rfl ?_;refine Qj 0 S gn rfl rfl rfl (by kernel_rfl) rfl (by decide) (by simp) (fun g S=>ag0) fun g S=>?_;refine Q0<|Q2 (by kernel_rfl)<|I1 rfl<|Iao rfl rfl<|I2 rfl<|Q0 ?_
     exact ZC (H.length - (i+1)) [(6,_)] (p:=⟨i+1,rfl,rfl,by omega,by
      have e:x.by'=o.by':=by simpa using hb
      rw[hnt,if_pos e];exact S⟩)
   refine Q4<|Q2 (by kernel_rfl)<|I1 rfl<|Iao rfl rfl<|I2 rfl<|Q0 ?_
   exact ZC (H.length - (i+1)) [(6,_)] (p:=⟨i+1,rfl,rfl,by omega,by
    have e: ¬x.by'=o.by':=by simpa using hb
    rw[hnt,if_neg e];exact S⟩)
 refine Qp<|Qc<|Qe<|Qo ?_;obtain rfl:i=H.length:=by simp at hb;omega
 rw[List.take_length]at S;refine Q5<|I9<|I1 rfl<|I1 rfl<|I6 rfl<|I0 0 rfl<|I4 rfl (S.cel 2 rfl) rfl<|I3 6 rfl (S.cel 0 rfl) (v0b _) ?_;refine Qd (cs:= #[iV o.kind,iV o.of,v,iV o.site,iV o.by',iV (Q2e H o.by')]) (e:=233) (z:=5) (zv:=.agg #[iV 0,iV 0,.slice none 0 0,iV 0,iV 0,iV 0]) [(0,_)] S gn rfl (by kernel_rfl) (by kernel_rfl) (by kernel_rfl) (by kernel_rfl) rfl (by kernel_rfl) fun b2 g bL S=>?_
 refine QD (e:=233) (z:=5) (by':=63) 4 0 S el197 gn rfl rfl rfl rfl rfl rfl (QcR (o:= {o with nth:=Q2e H o.by'}) (S0.sl 0 rfl).cellV) (by omega) (fun s' aa g S=>ag0) fun s' aa g S=>?_;obtain⟨sa,sc,rfl⟩:=Qa (S.sl 4 rfl);refine I6 rfl<|I0 0 rfl ?_;refine Qj 3 S gn rfl rfl (S.sl 4 rfl).cellV (by kernel_rfl) rfl (by decide) (by exact Nat.zero_lt_one) (fun g S=>ag0) fun g S=>?_;refine QG<|I1 rfl<|I6 rfl<|I0 0 rfl<|I4 rfl (S.cel 3 rfl) rfl<|I7 rfl<|I2 rfl<|I2 rfl<|Q0<|Q8 ?_;refine⟨.inl rfl,_,rfl,?_⟩
 exact⟨by unfold addN addE;rw[if_neg (by omega),if_neg (by omega)];rfl,by
  have S2:SH h (owns [slR 2 0 v (isV o.vals) o.vals.length vb,hpR ph H bs]) ([slR 2 0 v (isV o.vals) o.vals.length vb]++cR ph (.cells [.slice sa (H.length+1) sc] 93 0)::slR 233 5 (.slice sa (H.length+1) sc) (obC H w.vs++[iV o.kind,iV o.of,v,iV o.site,iV o.by',iV (Q2e H o.by')]) (H.length+1) aa::obP H w.vs) g:=S.drop.drop;have S3:=S2.comm;have ea:QdV H o=H++[{o with nth:=Q2e H o.by'}]:=by unfold QdV;rw[if_neg (by omega)]
  have e:(cR ph (.cells [.slice sa (H.length+1) sc] 93 0)::slR 233 5 (.slice sa (H.length+1) sc) (obC H w.vs++[iV o.kind,iV o.of,v,iV o.site,iV o.by',iV (Q2e H o.by')]) (H.length+1) aa::obP H w.vs)++[slR 2 0 v (isV o.vals) o.vals.length vb]=hpL ph (QdV H o) ⟨.slice sa (H.length+1) sc,aa,w.vs++[(v,vb)]⟩:=by
   rw[ea];unfold hpL;rw[Q7L _ _ _ _ hw,Q7J _ _ _ _ hw,v0j];rfl
  rw[e]at S3
  exact Qbd S3 (by rw[ea];simp[hw])⟩
theorem m98 {kind of size site b:Int} (S0:SH h0 [] [hpR ph H bs] h):C modE 121 [Qn ph,iV kind,iV of,iV size,iV site,iV b] h fun r g'=>r=.tuple #[iV (QfK H kind size),iV (QfL H kind size)]/\ ∃aa,SH h bs [hpR ph (QaH H kind of size site b) aa] g':=by
 have SE:=S0.enter;refine Q9 (fu:=Tryz.f121) (by kernel_rfl) rfl ?_;have S:=SE;refine Q6<|I2 rfl<|I2 rfl<|Z5<|I1 rfl<|In rfl rfl<|I1 rfl ?_
 refine Qt (n:=2) rfl rfl rfl gn rfl (fun hb=>by
  refine D1 hb rfl<|Dn hb rfl rfl ?_
  exact Q0 ⟨rfl,rfl,2,rfl,rfl⟩) ?_
 refine I1 rfl ?_
 refine Qt (n:=2) rfl rfl rfl gn rfl (fun hb=>by
  refine D1 hb rfl<|Dn hb rfl rfl ?_
  exact Q0 ⟨rfl,rfl,2,rfl,rfl⟩) ?_
 refine I1 rfl ?_
 refine QS (n:=2) rfl rfl rfl gn rfl (fun hb=>by
  refine D1 hb rfl<|Dl hb rfl rfl ?_
  exact Q0 ⟨rfl,rfl,2,rfl,rfl⟩) ?_
 refine I1 rfl ?_
 refine QS (n:=2) rfl rfl rfl gn rfl (fun hb=>by
  refine D1 hb rfl<|Dg hb rfl rfl ?_
  exact Q0 ⟨rfl,rfl,2,rfl,rfl⟩) ?_
 refine I1 rfl ?_
 refine QS (n:=6) rfl rfl rfl gn rfl (fun hb=>by
  refine D1 hb rfl<|De hb rfl rfl<|D1 hb rfl ?_
  refine Qt (n:=2) rfl rfl rfl (gy rfl rfl rfl hb) rfl (fun hb=>by
   refine D1 hb rfl<|Dn hb rfl rfl ?_
   exact Q0 ⟨rfl,rfl,2,rfl,rfl⟩) ?_
  exact Q0 ⟨rfl,rfl,4,rfl,rfl⟩) ?_
 refine Q0<|Q3 rfl (fun hb=>?_) fun hb=>?_
 · skip
   refine Q6<|I2 rfl<|I2 rfl<|Q0<|Q8 ?_;refine⟨.inl rfl,_,rfl,?_⟩
   exact⟨by
    have:Q2P kind size=false:=by
     unfold Q2P;by_cases e1:kind=1<;>by_cases e2:kind=2<;>by_cases e3:kind=3<;>simp[e1,e2,e3]at hb ⊢ <;>omega
    unfold QfK QfL;rw[this];rfl,by
    have:Q2P kind size=false:=by
     unfold Q2P;by_cases e1:kind=1<;>by_cases e2:kind=2<;>by_cases e3:kind=3<;>simp[e1,e2,e3]at hb ⊢ <;>omega
    unfold QaH;rw[this];exact⟨bs,S⟩⟩
 refine Q4 ?_
 have aH:Q2P kind size=true:=by
  unfold Q2P;by_cases e1:kind=1<;>by_cases e2:kind=2<;>by_cases e3:kind=3<;>simp[e1,e2,e3]at hb ⊢ <;>omega
 obtain⟨mP,aU⟩:0<=size/\size<=64:=by
  unfold Q2P at aH;simp only[v0h,decide_eq_true_eq]at aH;exact⟨aH.1.1.2,aH.1.2⟩
 refine Q6<|I1 rfl<|I1 rfl<|I1 rfl<|I1 rfl ?_;refine Yb (e:=2) (z:=0) (zv:=.int .i64 0) (by':=8) S gn rfl rfl rfl (by kernel_rfl) (by kernel_rfl) (by kernel_rfl) (by kernel_rfl) (by decide) (by omega) (by omega) (by omega) (by omega) fun b1 g aF S=>?_;have S:=S.toSl (z:=0) (n:=size.toNat) 0 rfl (.inl rfl) (by rw[show(Value.int .i64 0).cells.toList=[iV 0] from rfl,Q36];simp);rw[show(Value.int .i64 0).cells.toList=[iV 0] from rfl,Q36]at S;have S:SH h bs [slR 2 0 (.slice (some ⟨b1,0,none⟩) size.toNat size.toNat) (isV (v0n size.toNat 0)) size.toNat [b1],hpR ph H bs] g:=S
 have el:(v0n size.toNat (0:Int)).length=size.toNat:=v0K;refine I1 rfl<|I1 rfl<|Qs (zv:=.agg #[iV 0,iV 0,.slice none 0 0,iV 0,iV 0,iV 0]) (pl:=[(0,1),(1,1),(2,1),(3,1),(4,1),(5,1)]) [(0,_),(1,_),(2,_),(3,_),(4,_)] gn rfl (by kernel_rfl) (by kernel_rfl) rfl (by rfl) ?_
 refine QZ [_,_] gn rfl rfl (by kernel_rfl) rfl (C.mono (m103 (o:=⟨kind,of,v0n size.toNat 0,site,b,0⟩) (vb:=[b1]) (v:=.slice (some ⟨b1,0,none⟩) size.toNat size.toNat) (SH.subL (A:=[_,_]) (B:=[]) S0 S0.own0 (by rw[show MObj.vals ⟨kind,of,v0n size.toNat 0,site,b,0⟩=v0n size.toNat 0 from rfl,el];exact S))) ?_);rintro v g ⟨rfl,aa,S2⟩;rw[show MObj.vals ⟨kind,of,v0n size.toNat 0,site,b,0⟩=v0n size.toNat 0 from rfl,el]at S2;have S:=SH.retL (A:=[_,_]) (B:=[]) S S2;refine⟨ag0,?_⟩;refine Ix rfl rfl<|Ix rfl rfl<|I2 rfl<|I2 rfl<|Q0 ?_
 refine Q8 ⟨.inl rfl,_,rfl,⟨by unfold QfK QfL;rw[aH];rfl,aa,by unfold QaH;rw[if_pos aH];exact S⟩⟩
theorem m99 {of site b:Int} {cells:List Int} {cv:Value} (S0:SH h0 [] [hpR ph H bs] h) (hc:RowV h cv (isV cells)) (hl:cells.length<=1000000):C modE 122 [Qn ph,iV of,cv,iV site,iV b] h fun r g'=>r=.tuple #[iV (Qgg H cells.length),iV (Qgh H cells.length)]/\ ∃aa,SH h bs [hpR ph (QbS H of cells site b) aa] g':=by
 obtain⟨ca,cc,rfl⟩:=hc.valM;have ez:=hc.src;rw[v0s]at ez;have SE:=S0.enter;refine Q9 (fu:=Tryz.f122) (by kernel_rfl) rfl ?_;have S:=SE;refine Q6<|I2 rfl<|I2 rfl<|Z5<|I1 rfl<|I7 rfl<|Ig rfl rfl<|Q0<|Q3 rfl (fun hb=>?_) fun hb=>?_
 · skip
   refine Q6<|I2 rfl<|I2 rfl<|Q0<|Q8 ?_;refine⟨.inl rfl,_,rfl,?_⟩
   exact⟨by
    have: ¬cells.length<=256:=by simp at hb;omega
    unfold Qgg Qgh;rw[if_neg this,if_neg this];rfl,by
    have: ¬cells.length<=256:=by simp at hb;omega
    unfold QbS;rw[if_neg this];exact⟨bs,S⟩⟩
 refine Q4 ?_;have hc6:cells.length<=256:=by simp at hb;omega
 refine Q6<|I1 rfl<|I1 rfl<|I1 rfl ?_;refine Qeb S el2 gn rfl rfl rfl ez (Qdk cells) (by omega) (fun s' aa g S=>ag0) fun s' aa g S=>?_;obtain⟨sa,sc,rfl⟩:=Qa (S.sl 0 rfl);refine I1 rfl<|I1 rfl<|Qs (zv:=.agg #[iV 0,iV 0,.slice none 0 0,iV 0,iV 0,iV 0]) (pl:=[(0,1),(1,1),(2,1),(3,1),(4,1),(5,1)]) [(0,_),(1,_),(2,_),(3,_),(4,_)] gn rfl (by kernel_rfl) (by kernel_rfl) rfl (by rfl)<|Ic [_,_] rfl rfl (C.mono (m103 (o:=⟨4,of,cells,site,b,0⟩) (vb:=aa) (v:=.slice sa cells.length sc) (SH.subL (A:=[_,_]) (B:=[]) S0 S0.own0 S)) ?_);rintro v g ⟨rfl,bs'',S2⟩
 have S:=SH.retL (A:=[_,_]) (B:=[]) S S2;refine⟨ag0,?_⟩;refine Ix rfl rfl<|Ix rfl rfl<|I2 rfl<|I2 rfl<|Q0<|Q8 ⟨.inl rfl,_,rfl,⟨by unfold Qgg Qgh;rw[if_pos hc6,if_pos hc6];rfl,bs'',by unfold QbS;rw[if_pos hc6];exact S⟩⟩
end
def itC (L:List MItem):List Value:=L.flatMap fun x=>[iV x.task,.bool x.front,iV x.due]
def quL (qb:Nat) (L:List MItem) (s:Value) (nb:List Nat):List Res:=[cR qb (.cells [s] 101 0),slR 161 2 s (itC L) L.length nb]
def quR (qb:Nat) (L:List MItem) (bs:List Nat):Res:=Q2U (fun Ls=> ∃s nb,Ls=quL qb L s nb) bs
theorem Q6W: ∀l:List MItem,(itC l).length=l.length*3
 | []=>rfl
 | x::l=>by
   show([_,_,_]++itC l).length=_;rw[v0j,Q6W l];simp;omega
theorem Q5H: ∀(l:List MItem) (rest:List Value) (j:Nat) (x:MItem),l[j]?=some x->((itC l++rest).drop (j*3)).take 3=[iV x.task,.bool x.front,iV x.due]
 | x::l,rest,0,x',h=>by
   simp only[v0S,v0i.injEq]at h;subst h;rfl
 | x::l,rest,j+1,x',h=>by
   show(([_,_,_]++itC l++rest).drop ((j+1)*3)).take 3=_;rw[show(j+1)*3=3+j*3 by omega,v0B,<-List.drop_drop,List.drop_left' (by rfl)];exact Q5H l rest j x' (by simpa using h)
 | [],_,_,_,h=>by simp at h
theorem QaW (l m:List MItem):itC (l++m)=itC l++itC m:=by simp[itC]
theorem Q4c: ∀(l:List MItem) (j:Nat),(itC l).take (j*3)=itC (l.take j)
 | [],j=>by simp[itC]
 |x::l,0=>by simp[itC]
 | x::l,j+1=>by
   show([_,_,_]++itC l).take ((j+1)*3)=[_,_,_]++itC (l.take j);rw[show(j+1)*3=j*3+1+1+1 by omega,<-Q4c l j];rfl
theorem Q4d: ∀(l:List MItem) (j:Nat),(itC l).drop (j*3)=itC (l.drop j)
 | [],j=>by simp[itC]
 |x::l,0=>by simp
 | x::l,j+1=>by
   show([_,_,_]++itC l).drop ((j+1)*3)=itC (l.drop j);rw[show(j+1)*3=3+j*3 by omega,<-List.drop_drop,List.drop_left' (by rfl)];exact Q4d l j
theorem Q4e (l:List MItem):(itC l).all cellV=true:=by
 rw[v0v];intro v hv;obtain⟨x,_,hv⟩:=List.mem_flatMap.1 hv;simp only[v0w,List.not_mem_nil,or_false]at hv;rcases hv with rfl|rfl|rfl<;>rfl
theorem Q95:ElN modE 99 161 2 23:=⟨by kernel_rfl,by kernel_rfl,by kernel_rfl,.agg #[.int .i64 0,.bool false,.int .i64 0],by kernel_rfl,rfl⟩
section
variable {h0 h:Hp} {ds:List Nat} {A:List Res} {qb:Nat} {L:List MItem} {bs:List Nat}
theorem Qa0 (S:SH h0 ds (A++[quR qb L bs]) h): ∃s nb,owns (quL qb L s nb)=bs/\SH h0 ds (A++quL qb L s nb) h:=by
 obtain⟨Ls,⟨s,nb,rfl⟩,h2,h3⟩:=Jk S;exact⟨s,nb,h2,h3⟩
theorem Q27 {s:Value} {nb:List Nat} (S:SH h0 ds (quL qb L s nb) h): ∃aa,SH h0 ds [quR qb L aa] h:=⟨_,KF (A:=[]) S ⟨s,nb,rfl⟩⟩
theorem Qf7 (p:(quR qb L bs).P h): ∃a c nb,h.get qb=some (.cells [.slice a L.length c] 101 0)/\SlC 161 2 h (.slice a L.length c) (itC L) L.length nb:=by
 obtain⟨Ls,⟨s,nb,rfl⟩,_,hp⟩:=p;have h1:SlC 161 2 h s (itC L) L.length nb:=hp (slR 161 2 s (itC L) L.length nb) (by simp[quL]);have h0:h.get qb=some (.cells [s] 101 0):=hp (cR qb (.cells [s] 101 0)) (by simp[quL]);obtain⟨a,c,rfl⟩:=Qa h1;exact⟨a,c,nb,h0,h1⟩
theorem Qa2 {a:Option Addr} {c:Nat} {nb:List Nat} (x:SlC 161 2 h (.slice a L.length c) (itC L) L.length nb) (hl:0 <L.length): ∃b r m,a=some ⟨b,0,none⟩/\h.get b=some (.cells (itC L++r) 161 m)/\nb=[b]/\(m=0\/m=5):=by
 obtain⟨b,c',hv,hb,_⟩:=Q00 x hl;obtain⟨rfl,rfl⟩:a=some ⟨b,0,none⟩/\c=c':=by simpa using hv
 rcases x with⟨h1,_⟩| ⟨b',m,c',r,h1,h2,h3,_⟩
 · cases h1
 cases h1;exact⟨b,r,m,rfl,h2,hb,h3⟩
theorem it_at {j:Nat} {x:MItem} (h:L[j]?=some x):Kj L j=x:=by
 unfold Kj;rw[v0e,h];rfl
end
section
variable {h0 h:Hp} {qb:Nat} {L:List MItem} {bs:List Nat} {t now:Int}
theorem m71 (p:(quR qb L bs).P h) (hL:L.length<=1000000):CP modE 86 [Qn qb,iV t] h (iV (ofQ L t)):=by
 obtain⟨a,c,nb,hq,hr⟩:=Qf7 p;refine Q9 (fu:=Tryz.f86) (by kernel_rfl) rfl ?_;refine Q6<|I2 rfl<|Z5<|I2 rfl<|Q0<|Q7<|Q1N [(0,Qn qb),(1,iV t),(5,iV 0)] (by repeat(first|exact trivial|refine⟨rfl,?_⟩)) ?_;refine Q9n (fun k l hh=> ∃i:Nat,i<=L.length/\k=L.length -i/\hh=h/\l=[(0,Qn qb),(1,iV t),(5,iV i)]/\ ∀j (hj:j <L.length),j <i->L[j].task≠t) (n:=L.length) ?_ fun k l hh hI=>?_
 · exact⟨0,v0t _,rfl,rfl,rfl,fun j _ hj=>by omega⟩
 obtain⟨i,hi,rfl,rfl,rfl,hs⟩:=hI;refine Q5<|Q6<|I1 rfl<|I1 rfl<|I6 rfl<|I0 0 rfl<|I4 rfl hq rfl<|I7 rfl<|Il rfl rfl<|Q0<|Q3 rfl (fun hb=>?_) fun hb=>?_
 · skip
   refine Q4 ?_;have hi:i <L.length:=by simp at hb;omega
   obtain⟨b,r,m,rfl,bN,_,_⟩:=Qa2 hr (by omega);have k0:(itC L++r)[0+v0g (i:Int)*3+0]?=some (iV L[i].task):=by rw[v0e,v0f];exact Qv (Q5H _ _ _ _ (v0c hi)) (by omega) rfl
   refine Q5<|Q7<|Q6<|I1 rfl<|I6 rfl<|I0 0 rfl<|I4 rfl hq rfl<|I1 rfl<|I5o 3 rfl rfl<|I0 0 rfl<|I4 rfl bN k0<|I1 rfl<|Ie rfl rfl<|Q0<|Q3 rfl (fun hb=>?_) fun hb=>?_
   · skip
     refine Q6<|I1 rfl<|I2 rfl<|Q0<|Q8 ?_;refine⟨.inl rfl,_,rfl,?_⟩
     exact⟨by
      have:L[i].task=t:=by simpa using hb
      rw[QcQ hi this hs];rfl,rfl⟩
   refine Q4<|Q2 (by kernel_rfl)<|I1 rfl<|Iao rfl rfl<|I2 rfl<|Q0 ?_
   exact⟨(L.length - (i+1)),by omega,_,(by repeat(first|exact trivial|refine⟨rfl,?_⟩)),⟨i+1,by omega,rfl,rfl,rfl,fun j hj nI=>by
    by_cases e:j=i
    · subst e;simpa using hb
    exact hs j hj (by omega)⟩⟩
 refine Qp<|Qc<|Qe<|Qo<|Q6<|I2 rfl<|Q0<|Q8 ?_;refine⟨.inl rfl,_,rfl,?_⟩
 exact⟨by
  rw[Q7I];rfl;intro x hx;obtain⟨j,hj,rfl⟩:=v0J.1 hx
  exact hs j hj (by simp at hb;omega),rfl⟩
end
section
variable {h0 h:Hp} {qb:Nat} {L:List MItem} {bs:List Nat} {t now:Int}
theorem Qa1 (p:Held (quR qb L bs) h): ∃a c nb,h.get qb=some (.cells [.slice a L.length c] 101 0)/\qb <h.n/\SlC 161 2 h (.slice a L.length c) (itC L) L.length nb/\ ∀i,i∈nb->i <h.n:=by
 obtain⟨⟨Ls,⟨s,nb,rfl⟩,ho,hp⟩,hl⟩:=p;have h1:SlC 161 2 h s (itC L) L.length nb:=hp (slR 161 2 s (itC L) L.length nb) (by simp[quL]);have h0:h.get qb=some (.cells [s] 101 0):=hp (cR qb (.cells [s] 101 0)) (by simp[quL]);obtain⟨a,c,rfl⟩:=Qa h1;refine⟨a,c,nb,h0,hl qb ?_,h1,fun i hi=>hl i ?_⟩
 · show qb∈bs;rw[<-ho];simp[quL,owns,cR]
 show i∈bs;rw[<-ho];simp[quL,owns,cR,slR,hi]
theorem m72 (p:Held (quR qb L bs) h) (hL:L.length<=1000000):C modE 87 [Qn qb] h fun v h'=>v=iV (Zd L)/\Ext h h':=by
 obtain⟨a,c,nb,hq,cE,hr,dW⟩:=Qa1 p;refine Q9 (fu:=Tryz.f87) (by kernel_rfl) rfl ?_;have S:=SH.start h;refine Q6<|I2 rfl<|QG<|I2 rfl<|Z5<|I2 rfl<|Q0<|Q7<|Ql [(3,_),(4,_)] [(0,_)] (fun kk lv hh=> ∃i:Nat,lv=[(3,iV (QA L i)),(4,iV i)]/\kk=L.length -i/\i<=L.length/\SH h [] [] hh) (n:=L.length) ?_ fun kk lv hh hI=>?_
 · exact⟨0,rfl,rfl,v0t _,S⟩
 obtain⟨i,rfl,eX,hi,S⟩:=hI;refine Q5<|Q6<|I1 rfl<|I1 rfl<|I6 rfl<|I0 0 rfl<|I4 rfl (S.old0 hq cE) rfl<|I7 rfl<|Il rfl rfl<|Q0<|Q3 rfl (fun hb=>?_) fun hb=>?_
 · skip
   refine Q4 ?_;have hi:i <L.length:=by simp at hb;omega
   obtain⟨b,r,m,rfl,bN,rfl,_⟩:=Qa2 hr (by omega);have dZ:=dW b (by simp);have k0:((itC L++r).drop (0+v0g (i:Int)*3)).take 3=[iV L[i].task,.bool L[i].front,iV L[i].due]:=by rw[v0e,v0f];exact Q5H _ _ _ _ (v0c hi)
   have cT:(itC L++r).length=L.length*3+r.length:=by rw[v0j,Q6W]
   have hxi:Kj L i=L[i]:=it_at (v0c hi);refine Q5<|Q7<|Q6<|I1 rfl<|I6 rfl<|I0 0 rfl<|I4 rfl (S.old0 hq cE) rfl<|I1 rfl<|I5o 3 rfl rfl<|QY (n:=3) gn rfl rfl (by kernel_rfl) (by kernel_rfl) (S.old0 bN dZ) (by rw[cT,v0e];omega) ?_;rw[k0];refine Qq (zv:=.agg #[iV 0,.bool false,iV 0]) S gn rfl (by kernel_rfl) fun b1 g aF S=>?_;refine Qg (n:=3) 0 S gn rfl rfl (by kernel_rfl) (by kernel_rfl) rfl rfl (by decide) rfl (fun g S=>ag0) fun g S=>?_;refine Z5<|I1 rfl<|Il rfl rfl<|Q0 ?_
   refine Q3 rfl (fun hb=>?_) fun hb=>?_
   · skip
     refine Q6<|I1 rfl<|I2 rfl<|Q0<|Qp<|Qc<|Qo<|Q2 (by kernel_rfl)<|I1 rfl<|Iao rfl rfl<|I2 rfl<|Q0 ?_
     exact ZC (L.length - (i+1)) [(3,_),(4,_)] (p:=⟨i+1,by
      have:QA L i <0:=by simpa using hb
      unfold QA;rw[if_pos this];rfl,rfl,by omega,S.drop⟩)
   refine Q4 ?_;have gT: ¬QA L i <0:=by simpa using hb
   have jA:=Km L i (by omega);have fV:(QA L i).toNat <L.length:=by omega
   have k1:((itC L++r).drop (0+v0g (QA L i)*3)).take 3=[iV L[(QA L i).toNat].task,.bool L[(QA L i).toNat].front,iV L[(QA L i).toNat].due]:=by rw[v0f];exact Q5H _ _ _ _ (v0c fV)
   have hxf:Kj L (QA L i)=L[(QA L i).toNat]:=by unfold Kj;rw[v0c fV];rfl
   refine Q6<|I1 rfl<|I6 rfl<|I0 0 rfl<|I4 rfl (S.old0 hq cE) rfl<|I1 rfl<|I5o 3 rfl rfl<|QY (n:=3) gn rfl rfl (by kernel_rfl) (by kernel_rfl) (S.old0 bN dZ) (by rw[cT];omega) ?_;rw[k1];refine Qq (zv:=.agg #[iV 0,.bool false,iV 0]) S gn rfl (by kernel_rfl) fun b2 g bL S=>?_;refine Qg (n:=3) 0 S gn rfl rfl (by kernel_rfl) (by kernel_rfl) rfl rfl (by decide) rfl (fun g S=>ag0) fun g S=>?_;refine QG<|I0 1 rfl<|I4 rfl (S.cel 1 rfl) rfl<|I1 rfl ?_
   refine QS (n:=10) rfl rfl rfl gn rfl (fun hb=>by
    refine D0 1 hb rfl<|D4 hb rfl (S.cel 0 rfl) rfl<|Db hb rfl<|D1 hb rfl ?_
    refine Qt (n:=5) rfl rfl rfl (gy rfl rfl rfl hb) rfl (fun hb=>by
     refine D0 2 hb rfl<|D4 hb rfl (S.cel 1 rfl) rfl<|D0 2 hb rfl<|D4 hb rfl (S.cel 0 rfl) rfl<|Dl hb rfl rfl ?_
     exact Q0 ⟨rfl,rfl,5,rfl,rfl⟩) ?_
    exact Q0 ⟨rfl,rfl,5,rfl,rfl⟩) ?_
   refine Q0<|Q3 rfl (fun hb=>?_) fun hb=>?_
   · skip
     refine Q2 (by kernel_rfl)<|I1 rfl<|I2 rfl<|Q0<|Q2 (by kernel_rfl)<|I1 rfl<|Iao rfl rfl<|I2 rfl<|Q0 ?_
     exact ZC (L.length - (i+1)) [(3,_),(4,_)] (p:=⟨i+1,by
      have:Ka (Kj L i) (Kj L (QA L i))=true:=by unfold Ka;rw[hxi,hxf];exact hb
      conv=>rhs;unfold QA
      rw[if_neg gT,if_pos this];rfl,rfl,by omega,S.drop.drop⟩)
   refine Q4<|Q2 (by kernel_rfl)<|I1 rfl<|Iao rfl rfl<|I2 rfl<|Q0 ?_
   exact ZC (L.length - (i+1)) [(3,_),(4,_)] (p:=⟨i+1,by
    have:Ka (Kj L i) (Kj L (QA L i))=false:=by unfold Ka;rw[hxi,hxf];exact hb
    conv=>rhs;unfold QA
    rw[if_neg gT,if_neg (by rw[this];decide)];rfl,rfl,by omega,S.drop.drop⟩)
 refine Qp<|Qc<|Qe<|Qo<|Q6<|I1 rfl<|I2 rfl<|Q0<|Q8 ?_;refine⟨.inl rfl,_,rfl,?_⟩
 exact⟨by
  have:i=L.length:=by simp at hb;omega
  unfold Zd;rw[<-this];rfl,S.e0⟩
abbrev itV (x:MItem):Value:=.agg #[iV x.task,.bool x.front,iV x.due]
theorem it_k {r:List Value} {i:Int} (h0:0<=i) (h1:i <L.length):((itC L++r).drop (0+v0g i*3)).take 3=[iV (Kj L i).task,.bool (Kj L i).front,iV (Kj L i).due]:=by
 have hj:i.toNat <L.length:=by omega
 have:Kj L i=L[i.toNat]:=by unfold Kj;rw[v0c hj];rfl
 rw[this,v0f];exact Q5H _ _ _ _ (v0c hj)
theorem m51 (p:Held (quR qb L bs) h) (hL:L.length<=1000000):C modE 56 [Qn qb,iV now] h fun v h'=>v=.tuple #[itV (Zt L now),.bool (Q2R L now)]/\Ext h h':=by
 obtain⟨a,c,nb,hq,cE,hr,dW⟩:=Qa1 p;have jA:=Km L L.length (v0b _);refine YX (fu:=Tryz.f56) (by kernel_rfl) rfl ?_;have S:=SH.start h;refine Q6 ?_;refine Qq (zv:=.agg #[iV 0,.bool false,iV 0]) S gn rfl (by kernel_rfl) fun b1 g aF S=>?_;refine I2 rfl<|QG<|I1 rfl<|Ic [_] rfl rfl (C.mono (m72 (p.ext S.e0) hL) ?_);rintro v g ⟨rfl,x⟩;have S:=S.grow x;refine⟨ag0,?_⟩;refine I2 rfl<|Z5<|I1 rfl<|Il rfl rfl<|I1 rfl ?_;have hf: -1<=Zd L/\Zd L <L.length:=by unfold Zd;omega
 refine QS (n:=21) rfl rfl rfl gn rfl (fun hb=>by
  have gT: ¬Zd L <0:=by simpa using hb
  obtain⟨b,r,m,cQ,bN,dB,_⟩:=Qa2 hr (by omega);have dZ:=dW b (by rw[dB];simp);have k0:=Qv (f:=1) (it_k (L:=L) (r:=r) (i:=Zd L) (by omega) (by omega)) (by omega) rfl;have k1:=Qv (f:=2) (it_k (L:=L) (r:=r) (i:=Zd L) (by omega) (by omega)) (by omega) rfl;refine D1 hb rfl<|D6 hb rfl<|D0 0 hb rfl<|D4 hb rfl (S.old0 hq cE) rfl<|D1 hb rfl ?_;rw[cQ];refine D5o 3 hb rfl rfl ?_;rw[<-cQ];refine D0 1 hb rfl<|D4 hb rfl (S.old0 bN dZ) k0<|Db hb rfl<|D1 hb rfl ?_
  refine Qt (n:=10) rfl rfl rfl (gy rfl rfl rfl hb) rfl (fun hb=>by
   refine D1 hb rfl<|D6 hb rfl<|D0 0 hb rfl<|D4 hb rfl (S.old0 hq cE) rfl<|D1 hb rfl ?_;rw[cQ];refine D5o 3 hb rfl rfl ?_;rw[<-cQ];refine D0 2 hb rfl<|D4 hb rfl (S.old0 bN dZ) k1<|D1 hb rfl<|Dg hb rfl rfl ?_
   exact Q0 ⟨rfl,rfl,10,rfl,rfl⟩) ?_
  exact Q0 ⟨rfl,rfl,11,rfl,rfl⟩) ?_
 refine Q0<|Q3 rfl (fun hb=>?_) fun hb=>?_
 · skip
   refine Q6<|Qs (zv:=.agg #[iV 0,.bool false,iV 0]) (pl:=[(0,1),(1,1),(2,1)]) [] gn rfl (by kernel_rfl) (by kernel_rfl) rfl (by rfl) ?_;refine Qg (n:=3) 0 S gn rfl rfl (by kernel_rfl) (by kernel_rfl) rfl rfl (by decide) rfl (fun g S=>ag0) fun g S=>?_;refine I2 rfl<|Q0<|Q8 ?_;refine⟨.inl rfl,_,(Zr rfl (by kernel_rfl) (by kernel_rfl) (S.cel 0 rfl) rfl (Yw rfl rfl)),?_⟩
   exact⟨by
    have:Q2R L now=false:=by unfold Q2R;rw[hb];rfl
    unfold Zt;rw[this];rfl,S.e0⟩
 refine Q4 ?_;have nU:Q2R L now=true:=by unfold Q2R;rw[hb];rfl
 have gT: ¬Zd L <0:=by
  intro e;rw[decide_eq_true e]at hb;cases hb
 have hf: -1<=Zd L/\Zd L <L.length:=by unfold Zd;omega
 obtain⟨b,r,m,rfl,bN,rfl,_⟩:=Qa2 hr (by omega);have dZ:=dW b (by simp);have k0:=it_k (L:=L) (r:=r) (i:=Zd L) (by omega) (by omega);refine Q6<|I1 rfl<|I6 rfl<|I0 0 rfl<|I4 rfl (S.old0 hq cE) rfl<|I1 rfl<|I5o 3 rfl rfl<|QY (n:=3) gn rfl rfl (by kernel_rfl) (by kernel_rfl) (S.old0 bN dZ) (by rw[v0j,Q6W];omega) ?_;rw[k0];refine Qg (n:=3) 0 S gn rfl rfl (by kernel_rfl) (by kernel_rfl) rfl rfl (by decide) rfl (fun g S=>ag0) fun g S=>?_;refine I2 rfl<|Q0<|Q8 ?_
 refine⟨.inl rfl,_,(Zr rfl (by kernel_rfl) (by kernel_rfl) (S.cel 0 rfl) rfl (Yw rfl rfl)),?_⟩;exact⟨by unfold Zt;rw[if_pos nU,nU];rfl,S.e0⟩
theorem m50 {x:MItem} (S0:SH h0 [] [quR qb L bs] h) (hL:L.length<=1000000):C modE 55 [Qn qb,itV x] h fun v g'=>v=iV (putE L x)/\ ∃aa,SH h bs [quR qb (Q4I L x) aa] g':=by
 have SE:=S0.enter;have p:=S0.held 0 rfl;obtain⟨s,nb,ai,S1⟩:=Qa0 (A:=[]) SE;obtain⟨a,c,rfl⟩:=Qa (S1.sl 1 rfl);have S1:SH h bs [cR qb (.cells [.slice a L.length c] 101 0),slR 161 2 (.slice a L.length c) (itC L) L.length nb] h:=S1;refine Q9 (fu:=Tryz.f55) (by kernel_rfl) rfl ?_;have S:=S1;refine Q6 ?_;refine QV S gn rfl rfl fun b1 g aF S=>?_;refine I2 rfl<|Z5<|I0 0 rfl<|I4 rfl (S.cel 0 rfl) rfl<|Il rfl rfl<|I1 rfl ?_
 refine QS (n:=3) rfl rfl rfl gn rfl (fun hb=>by
  refine D0 2 hb rfl<|D4 hb rfl (S.cel 0 rfl) rfl<|Dl hb rfl rfl ?_
  exact Q0 ⟨rfl,rfl,3,rfl,rfl⟩) ?_
 refine Q0<|Q3 rfl (fun hb=>?_) fun hb=>?_
 · skip
   refine Q6<|I2 rfl<|Q0<|Q8 ?_;refine⟨.inl rfl,_,rfl,?_⟩
   exact⟨by unfold putE;rw[if_pos hb];rfl,by
    have:Qec L x=false:=by unfold Qec;rw[show(decide (x.task <0)||decide (x.due <0))=true from hb];rfl
    unfold Q4I;rw[this];exact Q27 S.drop⟩
 refine Q4 ?_;have jF:(decide (x.task <0)||decide (x.due <0))=false:=hb
 have pq:(quR qb L bs).P g:=⟨quL qb L (.slice a L.length c) nb,⟨_,_,rfl⟩,ai,fun r hr=>by
  have hr:r∈[cR qb (.cells [.slice a L.length c] 101 0),slR 161 2 (.slice a L.length c) (itC L) L.length nb]:=hr
  exact S.drop.hold r hr⟩
 refine Q5<|Q6<|I1 rfl<|I0 0 rfl<|I4 rfl (S.cel 0 rfl) rfl<|Ic [_,_] rfl rfl (Qm (m71 pq hL) ⟨ag0,?_⟩);refine Ih rfl rfl<|Q0<|Q3 rfl (fun hb=>?_) fun hb=>?_
 · skip
   refine Q6<|I2 rfl<|Q0<|Q8 ?_;refine⟨.inl rfl,_,rfl,?_⟩
   exact⟨by
    have h2:0<=ofQ L x.task:=by simpa using hb
    unfold putE;rw[if_neg (by rw[jF];decide),if_pos h2];rfl,by
    have h2:0<=ofQ L x.task:=by simpa using hb
    have:Qec L x=false:=by unfold Qec;rw[decide_eq_false (by omega: ¬ofQ L x.task <0),v0T]
    unfold Q4I;rw[this];exact Q27 S.drop⟩
 refine Q4 ?_;have h2:ofQ L x.task <0:=by simp at hb;omega
 have hput:Qec L x=true:=by unfold Qec;rw[jF,decide_eq_true h2];rfl
 have hsr:=(S.sl 2 rfl).src;refine Q5<|ZZ [(0,[]),(1,[]),(2,[]),(3,[]),(4,[]),(6,[]),(7,[]),(5,[6]),(8,[]),(9,[]),(10,[]),(11,[])] (by kernel_rfl) (by kernel_rfl) (by kernel_rfl) (by kernel_rfl)<|I1 rfl<|I1 rfl<|I6 rfl<|I0 0 rfl<|I4 rfl (S.cel 1 rfl) rfl<|I3 3 rfl (S.cel 0 rfl) (v0b _) ?_;refine Qd (cs:= #[iV x.task,.bool x.front,iV x.due]) (e:=161) (z:=2) (zv:=.agg #[iV 0,.bool false,iV 0]) [(0,_)] S gn rfl (by kernel_rfl) (by kernel_rfl) (by kernel_rfl) (by kernel_rfl) rfl (by kernel_rfl) fun b2 g bL S=>?_
 refine Q9O S Q95 gn rfl rfl rfl (S.sl 3 rfl).src (Q4e L) (by omega) (fun s' aa g _ S=>ag1 (Q0A (n:=3) gn rfl (by kernel_rfl) (by kernel_rfl) (S.cel 2 rfl) (v0b _) rfl (by show sameV 20 (itV x) (itV x)=true;simp[sameV,sameV.sameL,Kh])) ag0) fun s' aa g _ S=>?_;have S:=S.toC 0 rfl;refine QD (e:=161) (z:=2) (by':=23) 0 1 S Q95 gn rfl rfl rfl rfl rfl rfl (by rfl) (by omega) (fun s' aa g S=>ag0) fun s' aa g S=>?_;obtain⟨sa,sc,rfl⟩:=Qa (S.sl 0 rfl);refine I6 rfl<|I0 0 rfl ?_;refine Qj 3 S gn rfl rfl rfl (by kernel_rfl) rfl (by decide) (by exact Nat.zero_lt_one) (fun g S=>ag0) fun g S=>?_;refine QG<|I2 rfl<|Q0 ?_
 refine Q8 ?_;refine⟨.inl rfl,_,rfl,?_⟩
 exact⟨by unfold putE;rw[if_neg (by rw[jF];decide),if_neg (by omega)];rfl,by
  unfold Q4I;rw[if_pos hput];have S2:=(SH.fst (A:=[_,_]) (B:=[_,_,_]) (S.ordr [3,0,1,2,4] 5 rfl (by decide)));refine Q27 (s:=.slice sa (L.length+1) sc) (nb:=aa) ?_
  have e:quL qb (L++[x]) (.slice sa (L.length+1) sc) aa=[cR qb (.cells [.slice sa (L.length+1) sc] 101 0),slR 161 2 (.slice sa (L.length+1) sc) (itC L++[iV x.task,.bool x.front,iV x.due]) (L.length+1) aa]:=by
   unfold quL;rw[QaW,v0j];rfl
  rw[e];exact S2⟩
theorem m74 (S0:SH h0 [] [quR qb L bs] h) (hL:L.length<=1000000):C modE 89 [Qn qb,iV t] h fun v g'=>v=.bool (decide (0<=ofQ L t))/\ ∃aa,SH h bs [quR qb (Q3s L t) aa] g':=by
 have SE:=S0.enter;have p:=S0.held 0 rfl;obtain⟨s,nb,ai,S1⟩:=Qa0 (A:=[]) SE;obtain⟨a,c,rfl⟩:=Qa (S1.sl 1 rfl);have S1:SH h bs [cR qb (.cells [.slice a L.length c] 101 0),slR 161 2 (.slice a L.length c) (itC L) L.length nb] h:=S1;refine Q9 (fu:=Tryz.f89) (by kernel_rfl) rfl ?_;have S:=S1;refine Q6<|I2 rfl<|QG<|I1 rfl<|I1 rfl<|Ic [_,_] rfl rfl (Qm (m71 p.1 hL) ⟨ag0,?_⟩);refine I2 rfl<|Z5<|I1 rfl<|Il rfl rfl<|Q0<|Q3 rfl (fun hb=>?_) fun hb=>?_
 · skip
   refine Q6<|I2 rfl<|Q0<|Q8 ?_;refine⟨.inl rfl,_,rfl,?_⟩
   exact⟨by
    have h2: ¬0<=ofQ L t:=by simp at hb;omega
    rw[decide_eq_false h2];rfl,by
    have h2: ¬0<=ofQ L t:=by simp at hb;omega
    unfold Q3s;rw[if_neg h2];exact Q27 S⟩
 refine Q4 ?_;have h2:0<=ofQ L t:=by simp at hb;omega
 obtain⟨cZ,_⟩:=Qeh h2;have jC:decide (0<=ofQ L t)=true:=decide_eq_true h2;have hdr:Q3s L t=L.eraseIdx (ofQ L t).toNat:=if_pos h2;rw[hdr,jC];obtain⟨j,hj⟩: ∃j:Nat,ofQ L t=j:=⟨_,(Int.toNat_of_nonneg h2).symm⟩;rw[hj]at cZ ⊢;rw[v0e]at cZ ⊢;obtain⟨b,r,m,rfl,bN,rfl,hm5⟩:=Qa2 (S.sl 1 rfl) (by omega);have S1x:=S;obtain⟨fv,hsm,hF⟩:=Q8s (j:=j+1) Q95 (S.sl 1 rfl) (by omega);refine Q5 ?_
 refine ZZ [(0,[]),(1,[]),(2,[]),(3,[]),(4,[]),(5,[]),(6,[]),(8,[]),(9,[]),(10,[]),(11,[]),(12,[]),(13,[]),(14,[]),(7,[11,13,14]),(15,[]),(16,[]),(17,[]),(18,[])] (by kernel_rfl) (by kernel_rfl) (by kernel_rfl) (by kernel_rfl)<|I1 rfl<|I1 rfl<|I6 rfl<|I0 0 rfl<|I4 rfl (S.cel 0 rfl) rfl<|I1 rfl<|Q3c Q95 gn rfl rfl rfl bN hm5 (by omega) (by have:=(Q9I (S.sl 1 rfl)).choose_spec;have:=(Q9I (S.sl 1 rfl)).choose_spec.choose_spec.2.2;omega)<|I1 rfl<|I6 rfl<|I0 0 rfl<|I4 rfl (S.cel 0 rfl) rfl<|I1 rfl<|Iao rfl rfl ?_
 refine QcV gn rfl rfl rfl (hF _ (fun _ _=>rfl)).1 ?_;refine Q9O S Q95 gn rfl rfl rfl (Q6r (S.sl 1 rfl) (by omega)) (by rw[Q4c];exact Q4e _) (by omega) (fun s' aa g x S=>ag1 (Yg gn rfl (by kernel_rfl) (S.cel 1 rfl) rfl rfl Ya) (ag1 (QeC gn rfl rfl (by omega) (by omega) rfl) (ag1 (Qc9 gn rfl rfl (hF g (fun i hi=>x.get i (S1x.lt i (by simp[owns,cR,slR];exact .inr (by simpa using hi))))).1 rfl hsm) ag0))) fun s' aa g x S=>?_;refine Q9P 0 S Q95 gn rfl rfl rfl rfl (hF g (fun i hi=>x.get i (S1x.lt i (by simp[owns,cR,slR];exact .inr (by simpa using hi))))).2 (by rw[Q4d];exact Q4e _) (by omega) (fun s' aa g S=>ag0) fun s' aa g S=>?_;have S:=S.toC 0 rfl
 obtain⟨sa,sc,rfl⟩:=Qa (S.sl 0 rfl);refine I6 rfl<|I0 0 rfl ?_;refine Qj 1 S gn rfl rfl rfl (by kernel_rfl) rfl (by decide) (by exact Nat.zero_lt_one) (fun g S=>ag0) fun g S=>?_;refine QG<|I2 rfl<|Q0<|Q8 ?_;refine⟨.inl rfl,_,rfl,?_⟩
 exact⟨rfl,by
  have S2:=(SH.fst (A:=[_,_]) (B:=[_]) (S.ordr [1,0,2] 3 rfl (by decide)));have el:L.eraseIdx j=L.take j++L.drop (j+1):=List.eraseIdx_eq_take_drop_succ ..;have en:(L.eraseIdx j).length=j+(L.length - (j+1)):=by rw[el];simp;omega
  refine Q27 (s:=.slice sa (j+(L.length - (j+1))) sc) (nb:=aa) ?_
  have e:quL qb (L.eraseIdx j) (.slice sa (j+(L.length - (j+1))) sc) aa=[cR qb (.cells [.slice sa (j+(L.length - (j+1))) sc] 101 0),slR 161 2 (.slice sa (j+(L.length - (j+1))) sc) ((itC L).take (j*3)++(itC L).drop ((j+1)*3)) (j+(L.length - (j+1))) aa]:=by
   unfold quL;rw[en,el,QaW,Q4c,Q4d]
  rw[e];exact S2⟩
theorem m54 (S0:SH h0 [] [quR qb L bs] h) (hL:L.length<=1000000):C modE 59 [Qn qb,iV now] h fun v g'=>v=.tuple #[itV (Zt L now),.bool (Q2R L now)]/\ ∃aa,SH h bs [quR qb (tkQ L now) aa] g':=by
 have SE:=S0.enter;refine YX (fu:=Tryz.f59) (by kernel_rfl) rfl ?_;have S:=SE;refine Q6 ?_;refine Qq (zv:=.agg #[iV 0,.bool false,iV 0]) S gn rfl (by kernel_rfl) fun b1 g aF S=>?_;refine I2 rfl<|QG<|I1 rfl<|I1 rfl<|Ic [_,_] rfl rfl (C.mono (m51 (S.held 1 rfl) hL) ?_);rintro v g ⟨rfl,x⟩;have S:=S.grow x;refine⟨ag0,?_⟩;refine I1 rfl<|Ix rfl rfl<|Ix rfl rfl ?_;refine Qq (zv:=.agg #[iV 0,.bool false,iV 0]) S gn rfl (by kernel_rfl) fun b2 g bL S=>?_;refine Qg (n:=3) 0 S gn rfl rfl (by kernel_rfl) (by kernel_rfl) rfl rfl (by decide) rfl (fun g S=>ag0) fun g S=>?_;refine I2 rfl<|Z5 ?_
 refine I1 rfl<|Q0<|Q3 rfl (fun hb=>?_) fun hb=>?_
 · skip
   refine Q2 (by kernel_rfl)<|I1 rfl<|I0 0 rfl<|I4 rfl (S.cel 0 rfl) rfl<|Ic [_,_] rfl rfl (C.mono (m74 (SH.sub1 S0 S0.own0 S 2 rfl) hL) ?_);rintro v g ⟨rfl,aa,S2⟩;have S:=S.ret 2 rfl S2;have S:SH h bs [cR b2 (.cells [iV (Zt L now).task,.bool (Zt L now).front,iV (Zt L now).due] 161 0),cR b1 (.cells [iV 0,.bool false,iV 0] 161 0),quR qb (Q3s L (Zt L now).task) aa] g:=S;refine⟨ag0,?_⟩;refine QG<|I3 3 rfl (S.cel 0 rfl) (v0b _)<|I1 rfl ?_;refine Qg (n:=3) 1 S gn rfl rfl (by kernel_rfl) (by kernel_rfl) rfl rfl (by decide) rfl (fun g S=>ag0) fun g S=>?_;refine I2 rfl<|Q0<|Q8 ?_
   refine⟨.inl rfl,_,(Zr rfl (by kernel_rfl) (by kernel_rfl) (S.cel 1 rfl) rfl (Yw rfl rfl)),?_⟩
   exact⟨by rw[show Q2R L now=true from hb];rfl,by
    unfold tkQ;rw[if_pos (show Q2R L now=true from hb)]
    exact⟨_,S.drop.drop⟩⟩
 refine Q4<|Q6<|I3 3 rfl (S.cel 0 rfl) (v0b _)<|I1 rfl ?_;refine Qg (n:=3) 1 S gn rfl rfl (by kernel_rfl) (by kernel_rfl) rfl rfl (by decide) rfl (fun g S=>ag0) fun g S=>?_;refine I2 rfl<|Q0<|Q8 ?_;refine⟨.inl rfl,_,(Zr rfl (by kernel_rfl) (by kernel_rfl) (S.cel 1 rfl) rfl (Yw rfl rfl)),?_⟩
 exact⟨by rw[show Q2R L now=false from hb];rfl,by
  unfold tkQ;rw[if_neg (by rw[show Q2R L now=false from hb];decide)]
  exact⟨_,S.drop.drop⟩⟩
end
abbrev bsV (l:List Bool):List Value:=l.map Value.bool
def lvL (vb:Nat) (K:List Int) (E:List Bool) (s u:Value) (cb eb:List Nat):List Res:=[cR vb (.cells [s,u] 155 0),slR 3 0 s (isV K) K.length cb,slR 4 0 u (bsV E) E.length eb]
def lvR (vb:Nat) (K:List Int) (E:List Bool) (bs:List Nat):Res:=Q2U (fun Ls=> ∃s u cb eb,Ls=lvL vb K E s u cb eb) bs
theorem el3:ElN modE 39 3 0 7:=⟨by kernel_rfl,by kernel_rfl,by kernel_rfl,.int .i64 0,by kernel_rfl,rfl⟩
theorem el4:ElN modE 94 4 0 0:=⟨by kernel_rfl,by kernel_rfl,by kernel_rfl,.bool false,by kernel_rfl,rfl⟩
theorem QdP (l:List Bool):(bsV l).all cellV=true:=by
 rw[v0v];intro v hv;obtain⟨k,_,rfl⟩:=List.mem_map.1 hv;rfl
section
variable {h0 h:Hp} {ds:List Nat} {A:List Res} {vb:Nat} {K:List Int} {E:List Bool} {bs:List Nat}
theorem QaJ (S:SH h0 ds (A++[lvR vb K E bs]) h): ∃s u cb eb,owns (lvL vb K E s u cb eb)=bs/\SH h0 ds (A++lvL vb K E s u cb eb) h:=by
 obtain⟨Ls,⟨s,u,cb,eb,rfl⟩,h2,h3⟩:=Jk S;exact⟨s,u,cb,eb,h2,h3⟩
theorem Q0W {s u:Value} {cb eb:List Nat} (S:SH h0 ds (lvL vb K E s u cb eb) h): ∃aa,SH h0 ds [lvR vb K E aa] h:=⟨_,KF (A:=[]) S ⟨s,u,cb,eb,rfl⟩⟩
theorem QaI (p:(lvR vb K E bs).P h): ∃a c a' c',h.get vb=some (.cells [.slice a K.length c,.slice a' E.length c'] 155 0)/\RowV h (.slice a K.length c) (isV K)/\RowV h (.slice a' E.length c') (bsV E):=by
 obtain⟨Ls,⟨s,u,cb,eb,rfl⟩,_,hp⟩:=p;have h1:SlC 3 0 h s (isV K) K.length cb:=hp (slR 3 0 s (isV K) K.length cb) (by simp[lvL]);have h2:SlC 4 0 h u (bsV E) E.length eb:=hp (slR 4 0 u (bsV E) E.length eb) (by simp[lvL]);have h0:h.get vb=some (.cells [s,u] 155 0):=hp (cR vb (.cells [s,u] 155 0)) (by simp[lvL]);obtain⟨a,c,rfl⟩:=Qa h1;obtain⟨a',c',rfl⟩:=Qa h2;exact⟨a,c,a',c',h0,h1.row,h2.row⟩
end
theorem Q12 (l m:List Int):isV (l++m)=isV l++isV m:=List.map_append ..
theorem J1 {α:Type} {l:List α} {i:Int}:inL l i=true↔0<=i/\i <l.length:=by simp[inL]
section
variable {h0 h:Hp} {vb:Nat} {K:List Int} {E:List Bool} {bs:List Nat} {c w e:Int}
theorem m80:CP modE 95 [iV c,iV w] h (.bool (Q0e c w)):=by
 refine Q9 (fu:=Tryz.f95) (by kernel_rfl) rfl ?_;refine Q6<|I2 rfl<|Z5<|I1 rfl<|Q0<|Q7<|Q6<|Ie rfl rfl<|I2 rfl<|Q0<|Q3 rfl (fun hb=>?_) fun hb=>?_
 · skip
   refine Q6<|I1 rfl<|Ie rfl rfl<|I2 rfl<|Q0<|Q8 ⟨.inl rfl,_,rfl,⟨by unfold Q0e;rw[if_pos (by simpa using hb)];rfl,rfl⟩⟩
 refine Q6<|Ie rfl rfl<|I2 rfl<|Q0<|Q3 rfl (fun hb=>?_) fun hb=>?_
 · skip
   refine Q6<|I1 rfl<|Ie rfl rfl<|I1 rfl ?_
   refine QS (n:=2) rfl rfl rfl gn rfl (fun hb=>by
    refine D1 hb rfl<|De hb rfl rfl ?_
    exact Q0 ⟨rfl,rfl,2,rfl,rfl⟩) ?_
   refine I2 rfl<|Q0<|Q8 ⟨.inl rfl,_,rfl,⟨by simp at*;unfold Q0e;simp[*];rfl,rfl⟩⟩
 refine Q6<|Ie rfl rfl<|I2 rfl<|Q0<|Q3 rfl (fun hb=>?_) fun hb=>?_
 · skip
   refine Q6<|I1 rfl<|Ie rfl rfl<|I2 rfl<|Q0<|Q8 ⟨.inl rfl,_,rfl,⟨by simp at*;unfold Q0e;simp[*];rfl,rfl⟩⟩
 refine Q6<|Ie rfl rfl<|I2 rfl<|Q0<|Q3 rfl (fun hb=>?_) fun hb=>?_
 · skip
   refine Q6<|I1 rfl<|Ie rfl rfl<|I1 rfl ?_
   refine QS (n:=2) rfl rfl rfl gn rfl (fun hb=>by
    refine D1 hb rfl<|De hb rfl rfl ?_
    exact Q0 ⟨rfl,rfl,2,rfl,rfl⟩) ?_
   refine I2 rfl<|Q0<|Q8 ⟨.inl rfl,_,rfl,⟨by simp at*;unfold Q0e;simp[*];rfl,rfl⟩⟩
 refine Q4<|Q6<|I2 rfl<|Q0<|Q8 ⟨.inl rfl,_,rfl,⟨by simp at*;unfold Q0e;simp[*];rfl,rfl⟩⟩
theorem m59 (p:(lvR vb K E bs).P h) (hC:K.length<=1000):CP modE 64 [Qn vb,iV c,iV w] h (.bool (Q6a K c w)):=by
 obtain⟨a,cc,a',c',hv,hr,_⟩:=QaI p;refine Q9 (fu:=Tryz.f64) (by kernel_rfl) rfl ?_;refine Q6<|I2 rfl<|QG<|I1 rfl<|Ih rfl rfl<|I1 rfl ?_
 refine Qt (n:=7) rfl rfl rfl gn rfl (fun hb=>by
  refine D1 hb rfl<|D1 hb rfl<|D6 hb rfl<|D0 0 hb rfl<|D4 hb rfl hv rfl<|D7 hb rfl<|Dl hb rfl rfl ?_
  exact Q0 ⟨rfl,rfl,7,rfl,rfl⟩) ?_
 refine I1 rfl ?_
 refine Qt (n:=9) rfl rfl rfl gn rfl (fun hb=>by
  have aG:inL K c=true:=hb;obtain⟨h0,h1⟩:=J1.1 aG;obtain⟨b,o,c2,cs,e2,m,hs,hg,aj,aX⟩:=hr.atM (by omega);have cQ:a=some ⟨b,o,none⟩:=by injection hs
  have k0:cs[o+v0g c*1]?=some (iV ((K[c.toNat]?).getD 0)):=by rw[v0x,aX _ (by omega),v0c (by omega)];rfl
  refine D1 hb rfl<|D6 hb rfl<|D0 0 hb rfl<|D4 hb rfl hv rfl<|D1 hb rfl ?_;rw[cQ];refine D5o 1 hb rfl rfl ?_;rw[<-cQ];refine D4 hb rfl hg k0<|D1 hb rfl<|Dc hb [_,_] rfl rfl (Qm (m80) ⟨ag0,?_⟩)
  exact Q0 ⟨rfl,rfl,9,rfl,rfl⟩) ?_
 refine I2 rfl<|Q0<|Q8 ⟨.inl rfl,_,rfl,⟨by unfold Q6a inL;rfl,rfl⟩⟩
theorem m57 (p:(lvR vb K E bs).P h) (hE:E.length<=1000):CP modE 62 [Qn vb,iV e] h (.bool (onL E e)):=by
 obtain⟨a,cc,a',c',hv,_,hr⟩:=QaI p;refine Q9 (fu:=Tryz.f62) (by kernel_rfl) rfl ?_;refine Q6<|I2 rfl<|QG<|I1 rfl<|Ih rfl rfl<|I1 rfl ?_
 refine Qt (n:=7) rfl rfl rfl gn rfl (fun hb=>by
  refine D1 hb rfl<|D1 hb rfl<|D6 hb rfl<|D0 1 hb rfl<|D4 hb rfl hv rfl<|D7 hb rfl<|Dl hb rfl rfl ?_
  exact Q0 ⟨rfl,rfl,7,rfl,rfl⟩) ?_
 refine I1 rfl ?_
 refine Qt (n:=7) rfl rfl rfl gn rfl (fun hb=>by
  have aG:inL E e=true:=hb;obtain⟨h0,h1⟩:=J1.1 aG;obtain⟨b,o,c2,cs,e2,m,hs,hg,aj,aX⟩:=hr.atM (by omega);have cQ:a'=some ⟨b,o,none⟩:=by injection hs
  have k0:cs[o+v0g e*1]?=some (.bool ((E[e.toNat]?).getD false)):=by rw[v0x,aX _ (by omega),v0c (by omega)];rfl
  refine D1 hb rfl<|D6 hb rfl<|D0 1 hb rfl<|D4 hb rfl hv rfl<|D1 hb rfl ?_;rw[cQ];refine D5o 1 hb rfl rfl ?_;rw[<-cQ];refine D4 hb rfl hg k0 ?_
  exact Q0 ⟨rfl,rfl,7,rfl,rfl⟩) ?_
 refine I2 rfl<|Q0<|Q8 ⟨.inl rfl,_,rfl,⟨by unfold onL inL;rfl,rfl⟩⟩
theorem m60 (S0:SH h0 [] [lvR vb K E bs] h) (hC:K.length<=1000):C modE 65 [Qn vb,iV c,iV w] h fun v g'=>v=iV (if Q6a K c w=true then 0 else if inL K c=true/\0<=w/\w<=3 then 10 else 2)/\ ∃aa,SH h bs [lvR vb (goL K c w) E aa] g':=by
 have SE:=S0.enter;have p:=S0.res 0 rfl;obtain⟨s,u,cb,eb,ai,S1⟩:=QaJ (A:=[]) SE;obtain⟨a,cc,rfl⟩:=Qa (S1.sl 1 rfl);have S1:SH h bs [cR vb (.cells [.slice a K.length cc,u] 155 0),slR 3 0 (.slice a K.length cc) (isV K) K.length cb,slR 4 0 u (bsV E) E.length eb] h:=S1;refine Q9 (fu:=Tryz.f65) (by kernel_rfl) rfl ?_;have S:=S1;refine Q6<|I2 rfl<|Z5<|I1 rfl<|Il rfl rfl<|I1 rfl ?_
 refine QS (n:=7) rfl rfl rfl gn rfl (fun hb=>by
  refine D1 hb rfl<|D1 hb rfl<|D6 hb rfl<|D0 0 hb rfl<|D4 hb rfl (S.cel 0 rfl) rfl<|D7 hb rfl<|Dh hb rfl rfl ?_
  exact Q0 ⟨rfl,rfl,7,rfl,rfl⟩) ?_
 refine I1 rfl ?_
 refine QS (n:=2) rfl rfl rfl gn rfl (fun hb=>by
  refine D1 hb rfl<|Dl hb rfl rfl ?_
  exact Q0 ⟨rfl,rfl,2,rfl,rfl⟩) ?_
 refine I1 rfl ?_
 refine QS (n:=2) rfl rfl rfl gn rfl (fun hb=>by
  refine D1 hb rfl<|Dg hb rfl rfl ?_
  exact Q0 ⟨rfl,rfl,2,rfl,rfl⟩) ?_
 refine Q0<|Q3 rfl (fun hb=>?_) fun hb=>?_
 · skip
   refine Q6<|I2 rfl<|Q0<|Q8 ?_;refine⟨.inl rfl,_,rfl,?_⟩
   exact⟨by
    have h1: ¬(inL K c=true/\0<=w/\w<=3):=by
     rw[J1];intro h1;simp at hb;omega
    have h2: ¬Q6a K c w=true:=by
     unfold Q6a;simp only[v0h];exact fun⟨h3,h4⟩=>h1 ⟨h3,Q1H h4⟩
    rw[if_neg h2,if_neg h1];rfl,by
    have h1: ¬(inL K c=true/\0<=w/\w<=3):=by
     rw[J1];intro h1;simp at hb;omega
    have h2: ¬Q6a K c w=true:=by
     unfold Q6a;simp only[v0h];exact fun⟨h3,h4⟩=>h1 ⟨h3,Q1H h4⟩
    unfold goL;rw[if_neg h2];exact Q0W S⟩
 refine Q4 ?_
 have aG:inL K c=true/\0<=w/\w<=3:=by
  rw[J1];simp at hb;omega
 refine Q5<|Q6<|I1 rfl<|I1 rfl<|I1 rfl<|Ic [_,_,_] rfl rfl (Qm (m59 p hC) ⟨ag0,?_⟩);refine Ib rfl<|Q0<|Q3 rfl (fun hb=>?_) fun hb=>?_
 · skip
   refine Q6<|I2 rfl<|Q0<|Q8 ?_;refine⟨.inl rfl,_,rfl,?_⟩
   exact⟨by
    have h2: ¬Q6a K c w=true:=by simpa using hb
    rw[if_neg h2,if_pos aG];rfl,by
    have h2: ¬Q6a K c w=true:=by simpa using hb
    unfold goL;rw[if_neg h2];exact Q0W S⟩
 refine Q4 ?_;have h2:Q6a K c w=true:=by simpa using hb
 obtain⟨gV,lA⟩:=J1.1 aG.1;obtain⟨b,c2,hs,_,cK⟩:=Q00 (S.sl 1 rfl) (by omega);obtain⟨rfl,rfl⟩:a=some ⟨b,0,none⟩/\cc=c2:=by simpa using hs
 refine Q6<|I1 rfl<|I6 rfl<|I0 0 rfl<|I4 rfl (S.cel 0 rfl) rfl<|I1 rfl<|I1 rfl<|I5o 1 rfl rfl<|Zq 1 S gn rfl rfl rfl (by kernel_rfl) rfl rfl (by rw[v0s];omega) (fun g S=>ag0) fun g S=>?_;refine QG<|I2 rfl<|Q0<|Q8 ?_;refine⟨.inl rfl,_,rfl,?_⟩
 exact⟨by rw[if_pos h2];rfl,by
  unfold goL;rw[if_pos h2];have e:isV (K.set c.toNat w)=(isV K).set (0+c.toNat*1) (iV w):=by rw[v0f,v0x,KZ]
  refine Q0W (s:=.slice (some ⟨b,0,none⟩) K.length cc) (u:=u) (cb:=cb) (eb:=eb) ?_
  unfold lvL;rw[e,v0q];exact S⟩
theorem m96 {on:Bool} (S0:SH h0 [] [lvR vb K E bs] h) (hE:E.length<=1000):C modE 116 [Qn vb,iV e,.bool on] h fun v g'=>v=.bool (Q6e E e on)/\ ∃aa,SH h bs [lvR vb K (Qcf E e on) aa] g':=by
 have SE:=S0.enter;obtain⟨s,u,cb,eb,ai,S1⟩:=QaJ (A:=[]) SE;obtain⟨a,cc,rfl⟩:=Qa (S1.sl 2 rfl);have S1:SH h bs [cR vb (.cells [s,.slice a E.length cc] 155 0),slR 3 0 s (isV K) K.length cb,slR 4 0 (.slice a E.length cc) (bsV E) E.length eb] h:=S1;refine Q9 (fu:=Tryz.f116) (by kernel_rfl) rfl ?_;have S:=S1;refine Q6<|I2 rfl<|Z5<|I1 rfl<|Il rfl rfl<|I1 rfl ?_
 refine QS (n:=7) rfl rfl rfl gn rfl (fun hb=>by
  refine D1 hb rfl<|D1 hb rfl<|D6 hb rfl<|D0 1 hb rfl<|D4 hb rfl (S.cel 0 rfl) rfl<|D7 hb rfl<|Dh hb rfl rfl ?_
  exact Q0 ⟨rfl,rfl,7,rfl,rfl⟩) ?_
 refine Q0<|Q3 rfl (fun hb=>?_) fun hb=>?_
 · skip
   refine Q6<|I2 rfl<|Q0<|Q8 ?_;refine⟨.inl rfl,_,rfl,?_⟩
   exact⟨by
    have h1:inL E e=false:=by unfold inL;simp at hb ⊢;omega
    unfold Q6e;rw[h1];rfl,by
    have h1:inL E e=false:=by unfold inL;simp at hb ⊢;omega
    unfold Qcf;rw[h1];exact Q0W S⟩
 refine Q4 ?_;have h1:inL E e=true:=by rw[J1];simp at hb;omega
 obtain⟨j7,he1⟩:=J1.1 h1;obtain⟨b,c2,hs,_,cK⟩:=Q00 (S.sl 2 rfl) (by omega);obtain⟨rfl,rfl⟩:a=some ⟨b,0,none⟩/\cc=c2:=by simpa using hs
 obtain⟨r,m,bN⟩:=Q51 (S.sl 2 rfl);have aj:e.toNat <E.length:=by omega
 have k0:(bsV E++r)[0+v0g e*1]?=some (.bool ((E[e.toNat]?).getD false)):=by
  rw[v0f,v0x,List.getElem?_append_left (by rw[v0s];exact aj),List.getElem?_map,v0c aj];rfl
 refine Q6<|I1 rfl<|I1 rfl ?_
 refine Qt (n:=8) rfl rfl rfl gn rfl (fun hb=>by
  refine D1 hb rfl<|D6 hb rfl<|D0 1 hb rfl<|D4 hb rfl (S.cel 0 rfl) rfl<|D1 hb rfl<|D5o 1 hb rfl rfl<|D4 hb rfl bN k0<|Db hb rfl ?_
  exact Q0 ⟨rfl,rfl,8,rfl,rfl⟩) ?_
 refine I2 rfl<|QG<|I1 rfl<|I6 rfl<|I0 1 rfl<|I4 rfl (S.cel 0 rfl) rfl<|I1 rfl<|I1 rfl<|I5o 1 rfl rfl<|Zq 2 S gn rfl rfl rfl (by kernel_rfl) rfl rfl (by rw[v0s];omega) (fun g S=>ag0) fun g S=>?_;refine QG<|I1 rfl<|I2 rfl<|Q0<|Q8 ?_;refine⟨.inl rfl,_,rfl,?_⟩
 exact⟨by unfold Q6e;rw[h1];rfl,by
  unfold Qcf;rw[if_pos h1];have e2:bsV (E.set e.toNat on)=(bsV E).set (0+e.toNat*1) (.bool on):=by rw[v0f,v0x];simp
  refine Q0W (s:=s) (u:=.slice (some ⟨b,0,none⟩) E.length cc) (cb:=cb) (eb:=eb) ?_
  unfold lvL;rw[e2,v0q];exact S⟩
theorem m25 {n:Nat} {ov:Value} (R:RowV h ov (bsV E)) (hE:E.length<=1000) (hn:n<=1000):C modE 21 [iV n,ov] h fun v g'=> ∃b aa,v=Qn b/\SH h [] [lvR b (v0n n (-1)) E aa] g':=by
 obtain⟨oa,oc,rfl⟩:=R.valM;have ez:=R.src;rw[v0s]at ez;refine Q9 (fu:=Tryz.f21) (by kernel_rfl) rfl ?_;have S:=SH.start h;refine Q6<|I2 rfl<|QG<|I1 rfl ?_;refine Qeb S el4 gn rfl rfl rfl ez (QdP E) (by omega) (fun s' aa g S=>ag0) fun s' aa g S=>?_;obtain⟨ea,ec,rfl⟩:=Qa (S.sl 0 rfl);refine Qs (zv:=.agg #[.slice none 0 0,.slice none 0 0]) (pl:=[(0,1),(1,1)]) [(1,_)] gn rfl (by kernel_rfl) (by kernel_rfl) rfl (by rfl) ?_;refine QV S gn rfl rfl fun b1 g aF S=>?_;have S:=S.nilSl 3 0
 have S:SH h [] [slR 3 0 (.slice none 0 0) [] 0 [],cR b1 (.cells [.slice none 0 0,.slice ea E.length ec] 155 0),slR 4 0 (.slice ea E.length ec) (bsV E) E.length aa] g:=S;refine I2 rfl<|Z5<|I2 rfl<|Q0<|Q7<|Ql [(6,_)] [(0,_),(5,_)] (fun kk lv hh=> ∃(i:Nat) (sa:Option Addr) (sc:Nat) (cb:List Nat),lv=[(6,iV i)]/\kk=n -i/\i<=n/\SH h [] [slR 3 0 (.slice sa i sc) (isV (v0n i (-1))) i cb,cR b1 (.cells [.slice sa i sc,.slice ea E.length ec] 155 0),slR 4 0 (.slice ea E.length ec) (bsV E) E.length aa] hh) (n:=n) ?_ fun kk lv hh hI=>?_
 · exact⟨0,none,0,[],rfl,rfl,v0t _,S⟩
 obtain⟨i,sa,sc,cb,rfl,eX,hi,S⟩:=hI;refine Q5<|Q6<|I1 rfl<|I1 rfl<|Il rfl rfl<|Q0<|Q3 rfl (fun hb=>?_) fun hb=>?_
 · skip
   refine Q4 ?_;have hi:i <n:=by simp at hb;omega
   refine Q5<|Q7<|Q2 (by kernel_rfl)<|I1 rfl<|I1 rfl<|I6 rfl<|I0 0 rfl<|I4 rfl (S.cel 1 rfl) rfl ?_;refine Qd (e:=3) (z:=0) (zv:=.int .i64 0) [(0,_)] S gn rfl (by kernel_rfl) (by kernel_rfl) (by kernel_rfl) (by kernel_rfl) rfl (by rfl) fun b2 g bL S=>?_;refine QD (e:=3) (z:=0) (by':=7) 1 0 S el3 gn rfl rfl rfl rfl rfl rfl (by rfl) (by omega) (fun s' aa g S=>ag0) fun s' aa g S=>?_;obtain⟨sa',sc',rfl⟩:=Qa (S.sl 1 rfl);refine I6 rfl<|I0 0 rfl ?_;refine Qj 2 S gn rfl rfl rfl (by kernel_rfl) rfl (by decide) (by simp) (fun g S=>ag0) fun g S=>?_;refine Q0 ?_
   refine Q2 (by kernel_rfl)<|I1 rfl<|Iao rfl rfl<|I2 rfl<|Q0 ?_
   exact ZC (n - (i+1)) [(6,_)] (p:=⟨i+1,sa',sc',_,rfl,rfl,by omega,by
    have:=S.drop
    rw[List.replicate_succ',Q12];exact this⟩)
 refine Qp<|Qc<|Qe<|Qo ?_;obtain rfl:i=n:=by simp at hb;omega
 refine Q6<|I1 rfl<|I2 rfl<|Q0<|Q8 ?_;refine⟨.inl rfl,_,rfl,?_⟩
 exact⟨b1,by
  have S2:=S.ordr [1,0,2] 3 rfl (by decide);obtain⟨bt,S3⟩:=Q0W (vb:=b1) (K:=v0n i (-1)) (E:=E) (s:=.slice sa i sc) (u:=.slice ea E.length ec) (cb:=cb) (eb:=aa) (by unfold lvL;rw[v0K];exact S2)
  exact⟨bt,rfl,S3⟩⟩
end
end Go.Proofs.YtljpajcmdjmeaaaGreat
namespace Go.May
open Go.X
abbrev iV (k:Int):Value:=.int .i64 k
abbrev isV (l:List Int):List Value:=l.map fun n=>.int .i64 n
def RowP {α:Type} (w:Nat) (D:List Value->α->Prop) (h:Hp) (v:Value) (l:List α):Prop:=
 (l=[]/\ ∃a c,v=.slice a 0 c)\/ ∃b o c cs e m,v=.slice (some ⟨b,o,none⟩) l.length c/\h.get b=some (.cells cs e m)/\b <h.n/\o+l.length*w<=cs.length/\ ∀i (hi:i <l.length),D ((cs.drop (o+i*w)).take w) l[i]
section
variable {α:Type} {w:Nat} {D D':List Value->α->Prop} {h h':Hp} {v:Value} {l:List α}
theorem RowP.ext (x:RowP w D h v l) (g:Ext h h') (hd: ∀c a,D c a->D' c a):RowP w D' h' v l:=by
 rcases x with x| ⟨b,o,c,cs,e,m,h1,h2,h3,h4,h5⟩
 · exact .inl x
 exact .inr ⟨b,o,c,cs,e,m,h1,(g.get b h3).trans h2,Nat.lt_of_lt_of_le h3 g.n,h4,fun i hi=>hd _ _ (h5 i hi)⟩
theorem RowP.val (x:RowP w D h v l): ∃a c,v=.slice a l.length c:=by
 rcases x with⟨rfl,a,c,h1⟩| ⟨b,o,c,cs,e,m,h1,_⟩
 · exact⟨a,c,h1⟩
 exact⟨_,c,h1⟩
theorem RowP.at (x:RowP w D h v l) (hn:0 <l.length): ∃b o c cs e m,v=.slice (some ⟨b,o,none⟩) l.length c/\h.get b=some (.cells cs e m)/\b <h.n/\o+l.length*w<=cs.length/\ ∀i (hi:i <l.length),D ((cs.drop (o+i*w)).take w) l[i]:=by
 rcases x with⟨rfl,_⟩|x
 · simp at hn
 exact x
end
theorem Jw {cs r:List Value} {p z f:Nat} {v:Value} (h:(cs.drop p).take z=r) (hf:f <z) (hr:r[f]?=some v):cs[p+f]?=some v:=by
 rw[<-v1l,<-v2l hf,h];exact hr
abbrev I64 (n:Int):Prop:= -9223372036854775808<=n/\n<=9223372036854775807
abbrev insC (x:Ins) (lv:Value) (ln:Int):List Value:=[iV x.op,iV x.a,iV x.b,iV x.c,iV x.n,lv,iV x.site,iV ln]
structure InsD (h:Hp) (cs:List Value) (x:Ins):Prop where
 row: ∃lv ln,cs=insC x lv ln/\RowV h lv (isV x.l)
 op:I64 x.op
 a:I64 x.a
 b:I64 x.b
 c:I64 x.c
 n:I64 x.n
 len:x.l.length<=17592186043904
 l: ∀k,k∈x.l->I64 k
 site:I64 x.site
abbrev QgJ (s:ByteArray) (F:Fun) (cv:Value):List Value:=[.string s,iV F.caps,iV F.regs,cv]
structure FunD (h:Hp) (cs:List Value) (F:Fun):Prop where
 row: ∃s cv,cs=QgJ s F cv/\RowP 8 (InsD h) h cv F.code
 caps:I64 F.caps
 regs:I64 F.regs
 len:F.code.length<=9223372036854775807
structure ClassD (cs:List Value) (c:Nat×Nat):Prop where
 row: ∃s a b d e,cs=[.string s,.slice a c.1 b,.slice d c.2 e]
 l1:c.1<=9223372036854775807
 l2:c.2<=9223372036854775807
structure CompD (cs:List Value) (c:Int×List Int):Prop where
 row: ∃s f0 f1 f2 f3,cs=[.string s,iV c.1,iV f0,iV f1,iV f2,iV f3]/\c.2=[f0,f1,f2,f3]
 lo:I64 c.1
 fs: ∀k,k∈c.2->I64 k
structure EventD (cs:List Value) (c:Int×Int):Prop where
 row: ∃s b,cs=[.string s,iV c.1,.bool b,iV c.2]
 lo:I64 c.1
 f:I64 c.2
structure SiteD (cs:List Value) (c:Int×Int):Prop where
 row:cs=[iV c.1,iV c.2]
 f:I64 c.1
 at':I64 c.2
structure PrgAt (h:Hp) (P:Prg) (lo cl gl fu co ev si:Value):Prop where
 lo: ∃a c,lo=.slice a P.loopers c
 cl:RowP 3 ClassD h cl P.classes
 gl: ∃a c,gl=.slice a P.globals c
 fu:RowP 4 (FunD h) h fu P.funs
 co:RowP 6 CompD h co P.comps
 ev:RowP 4 EventD h ev P.events
 si:RowP 2 SiteD h si P.sites
 main:I64 P.main
 zlo:P.loopers<=9223372036854775807
 zcl:P.classes.length<=9223372036854775807
 zgl:P.globals<=9223372036854775807
 zfu:P.funs.length<=9223372036854775807
 zco:P.comps.length<=9223372036854775807
 zev:P.events.length<=9223372036854775807
 zsi:P.sites.length<=9223372036854775807
abbrev Q9h (P:Prg) (lo cl gl fu co ev si:Value):List Value:=[lo,cl,gl,fu,co,ev,iV P.main,si]
section
variable {h h':Hp} {P:Prg} {lo cl gl fu co ev si:Value} {cs:List Value}
theorem InsD.ext {x:Ins} (d:InsD h cs x) (g:Ext h h'):InsD h' cs x:=by
 obtain⟨⟨lv,ln,h1,h2⟩,a1,a2,a3,a4,a5,a6,a7,a8⟩:=d;exact⟨⟨lv,ln,h1,h2.ext g⟩,a1,a2,a3,a4,a5,a6,a7,a8⟩
theorem FunD.ext {F:Fun} (d:FunD h cs F) (g:Ext h h'):FunD h' cs F:=by
 obtain⟨⟨s,cv,h1,h2⟩,a1,a2,a3⟩:=d;exact⟨⟨s,cv,h1,h2.ext g fun _ _ d=>d.ext g⟩,a1,a2,a3⟩
theorem PrgAt.ext (x:PrgAt h P lo cl gl fu co ev si) (g:Ext h h'):PrgAt h' P lo cl gl fu co ev si:=by
 obtain⟨a1,a2,a3,a4,a5,a6,a7,a8,r1,r2,r3,r4,r5,r6,r7⟩:=x;exact⟨a1,a2.ext g fun _ _ d=>d,a3,a4.ext g fun _ _ d=>d.ext g,a5.ext g fun _ _ d=>d,a6.ext g fun _ _ d=>d,a7.ext g fun _ _ d=>d,a8,r1,r2,r3,r4,r5,r6,r7⟩
end
abbrev Qed (P:Prg) (lo cl gl fu co ev si:Value):Value:=.agg #[lo,cl,gl,fu,co,ev,iV P.main,si]
abbrev funV (s:ByteArray) (F:Fun) (cv:Value):Value:=.agg #[.string s,iV F.caps,iV F.regs,cv]
abbrev QfV (x:Ins) (lv:Value) (ln:Int):Value:=.agg #[iV x.op,iV x.a,iV x.b,iV x.c,iV x.n,lv,iV x.site,iV ln]
section
variable {h:Hp} {P:Prg} {lo cl gl fu co ev si:Value} {f:Int}
theorem PrgAt.caps (X:PrgAt h P lo cl gl fu co ev si) (hf:inB f P.funs.length=true): ∃b o c cs e m,fu=.slice (some ⟨b,o,none⟩) P.funs.length c/\h.get b=some (.cells cs e m)/\b <h.n/\0<=f/\f <P.funs.length/\cs[o+f.toNat*4+1]?=some (iV (Jx P f)):=by
 obtain⟨h1,h2⟩:=Zb.1 hf;obtain⟨b,o,c,cs,e,m,hv,hg,bP,nA,aX⟩:=X.fu.at (by omega);refine⟨b,o,c,cs,e,m,hv,hg,bP,h1,h2,?_⟩;obtain⟨j,rfl⟩:=Int.eq_ofNat_of_zero_le h1;have hj:j <P.funs.length:=by omega
 obtain⟨s,cv,e1,_⟩:=(aX j hj).row;rw[v0e,Qgj hj];exact Jw e1 (by omega) rfl
theorem PrgAt.vals (X:PrgAt h P lo cl gl fu co ev si):(∃a c,lo=.slice a P.loopers c)/\(∃a c,cl=.slice a P.classes.length c)/\(∃a c,gl=.slice a P.globals c)/\(∃a c,fu=.slice a P.funs.length c)/\(∃a c,co=.slice a P.comps.length c)/\(∃a c,ev=.slice a P.events.length c)/\ ∃a c,si=.slice a P.sites.length c:=
 ⟨X.lo,X.cl.val,X.gl,X.fu.val,X.co.val,X.ev.val,X.si.val⟩
end
section
variable {F:Fun} {x:Ins}
theorem regs3 (o:Int):Ys o<=3:=by
 unfold Ys;split<;>(try split)<;>(try split)<;>omega
theorem Q9W {j:Nat} (hj:j <3):([x.a,x.b,x.c].take (j+1)).all (fun r=>inB r F.regs)=(([x.a,x.b,x.c].take j).all (fun r=>inB r F.regs)&&inB ([x.a,x.b,x.c][j]) F.regs):=by
 rw[v0U,v0c (by simpa using hj),List.all_append];simp
theorem Q9X {j:Nat} (hj:j <Ys x.op) (mj:j <3) (hf:inB ([x.a,x.b,x.c][j]) F.regs=false):Q2O F x=false:=by
 unfold Q2O;rw[<-v1Q];intro h;have:=v0v.1 h ([x.a,x.b,x.c][j]) (List.mem_take_iff_getElem.2 ⟨j,by simp;omega,rfl⟩);rw[hf]at this;cases this
theorem l_step {j:Nat} (hj:j <x.l.length):((x.l.take (j+1)).all fun r=>decide (x.op=21)&&inB r F.regs)=(((x.l.take j).all fun r=>decide (x.op=21)&&inB r F.regs)&&(decide (x.op=21)&&inB x.l[j] F.regs)):=by
 rw[v0U,v0c hj,List.all_append];simp
theorem l_fail {j:Nat} (hj:j <x.l.length) (hf:(decide (x.op=21)&&inB x.l[j] F.regs)=false):lB F x=false:=by
 unfold lB;rw[<-v1Q];intro h;have:=v0v.1 h _ (v0M hj);rw[hf]at this;cases this
theorem Qb6 {P:Prg} (h:(decide (1<=x.op)&&decide (x.op<=33))=false):Z2 P F x=false:=by rw[Z2,h,v04]
theorem Qb5 {P:Prg} (h:Q2O F x=false):Z2 P F x=false:=by rw[Z2,h,v04,v0T]
theorem Qb4 {P:Prg} (h:lB F x=false):Z2 P F x=false:=by rw[Z2,h,v04,v0T,v0T]
theorem Qb3 {P:Prg} (h1:(decide (1<=x.op)&&decide (x.op<=33))=true) (h2:Q2O F x=true) (h3:lB F x=true):Z2 P F x=Q1j P F x:=by rw[Z2,h1,h2,h3,v0F,v0F,v0F]
theorem op_out {o:Int} (h:(decide (o <1)||decide (33 <o))=true):(decide (1<=o)&&decide (o<=33))=false:=by
 simp only[v0H,decide_eq_true_eq]at h;rw[Bool.and_eq_false_iff,decide_eq_false_iff_not,decide_eq_false_iff_not];omega
theorem op_in {o:Int} (h:(decide (o <1)||decide (33 <o))=false):(decide (1<=o)&&decide (o<=33))=true:=by
 simp only[v0Y,decide_eq_false_iff_not]at h;rw[v0h,decide_eq_true_eq,decide_eq_true_eq];omega
end
theorem Q0z {α:Type} {p:α->Bool} {l:List α} {j:Nat} (hj:j <l.length):(l.take (j+1)).all p=((l.take j).all p&&p l[j]):=by
 rw[v0U,v0c hj,List.all_append];simp
theorem Jl {α:Type} {p:α->Bool} {l:List α} {j:Nat} (hj:j <l.length) (h:p l[j]=false):l.all p=false:=by
 rw[<-v1Q];intro h';have:=v0v.1 h' _ (v0M hj);rw[h]at this;cases this
section
variable {cs:List Value} {p:Nat}
theorem CompD.len {c:Int×List Int} {r:List Value} (d:CompD r c):c.2.length=4:=by
 obtain⟨s,f0,f1,f2,f3,_,e⟩:=d.row;rw[e];rfl
theorem CompD.fn {c:Int×List Int} (d:CompD ((cs.drop p).take 6) c) {k:Nat} (hk:k <c.2.length):cs[p+2+k]?=some (iV c.2[k]):=by
 have h4:=d.len;obtain⟨s,f0,f1,f2,f3,e,e2⟩:=d.row
 have h:cs[p+(2+k)]?=some (iV c.2[k]):=by
  refine Jw e (by omega) ?_;simp only[e2];have k9:k <4:=by omega
  match k,k9 with
  |0,_=>rfl
  |1,_=>rfl
  |2,_=>rfl
  |3,_=>rfl
 rw[<-Nat.add_assoc]at h;exact h
theorem CompD.lp {c:Int×List Int} (d:CompD ((cs.drop p).take 6) c):cs[p+1]?=some (iV c.1):=by
 obtain⟨s,f0,f1,f2,f3,e,_⟩:=d.row;exact Jw e (by omega) rfl
theorem EventD.lp {c:Int×Int} (d:EventD ((cs.drop p).take 4) c):cs[p+1]?=some (iV c.1)/\cs[p+3]?=some (iV c.2):=by
 obtain⟨s,b,e⟩:=d.row;exact⟨Jw e (by omega) rfl,Jw e (by omega) rfl⟩
theorem ClassD.at {c:Nat×Nat} (d:ClassD ((cs.drop p).take 3) c): ∃a b e g,cs[p+1]?=some (.slice a c.1 b)/\cs[p+2]?=some (.slice e c.2 g):=by
 obtain⟨s,a,b,e,g,h⟩:=d.row;exact⟨a,b,e,g,Jw h (by omega) rfl,Jw h (by omega) rfl⟩
end
section
variable {P:Prg} {r:Bool}
def Q8u (P:Prg):Bool:=(((((((decide ((P.loopers:Int)<1)||decide ((8:Int)<P.loopers))||decide ((16:Int)<P.classes.length))||decide ((32:Int)<P.globals))||decide ((8:Int)<P.comps.length))||decide ((8:Int)<P.events.length))||decide ((P.funs.length:Int)<1))||decide ((64:Int)<P.funs.length))
theorem QeR (h:Q8u P=true):YS P=false:=by
 simp only[Q8u,v0H,decide_eq_true_eq]at h
 have:Q8v P=false:=by
  rw[<-v1Q];intro h';simp only[Q8v,v0h,decide_eq_true_eq]at h';omega
 rw[YS,this,v04]
theorem Q7r (h:Q8u P=false):Q8v P=Q05 P P.main:=by
 simp only[Q8u,v0Y,decide_eq_false_iff_not]at h;rw[Q8v,decide_eq_true (by omega:1<=P.loopers),decide_eq_true (by omega:P.loopers<=8),decide_eq_true (by omega:P.classes.length<=16),decide_eq_true (by omega:P.globals<=32),decide_eq_true (by omega:P.comps.length<=8),decide_eq_true (by omega:P.events.length<=8),decide_eq_true (by omega:1<=P.funs.length),decide_eq_true (by omega:P.funs.length<=64)];simp
theorem Q9J (h:Q8u P=false) (hr:Q05 P P.main=false):YS P=false:=by rw[YS,Q7r h,hr,v04]
theorem Qa9 (h:Q8u P=false) (hr:Q05 P P.main=true):YS P=(P.classes.all Q2G&&(P.comps.all (Q77 P)&&P.events.all (Q2x P))):=by rw[YS,Q7r h,hr,v0F]
theorem QdL {c:Nat×Nat} (h:(decide ((8:Int)<c.2)|| !decide ((c.1:Int)=c.2))=true):Q2G c=false:=by
 rw[<-v1Q];intro h';simp only[Q2G,v0h,decide_eq_true_eq]at h';simp at h;omega
theorem QbU {c:Nat×Nat} (h:(decide ((8:Int)<c.2)|| !decide ((c.1:Int)=c.2))=false):Q2G c=true:=by
 simp at h;rw[Q2G,decide_eq_true (by omega:c.2<=8),decide_eq_true (by omega:c.1=c.2)];rfl
end
end Go.May
namespace Go.Proofs.YtljpajcmdjmeaaaGreat
open Go.X Go.May
section
variable {h:Hp} {n m o:Int}
theorem c18:CP modE 51 [iV n,iV m] h (.bool (inB n m)):=by
 refine Q9 (fu:=Tryz.f51) (by kernel_rfl) rfl ?_;refine Q6<|I2 rfl<|QG<|I1 rfl<|Ih rfl rfl<|I1 rfl ?_
 refine Qt (n:=3) rfl rfl rfl gn rfl (fun hb=>by
  refine D1 hb rfl<|D1 hb rfl<|Dl hb rfl rfl ?_
  exact Q0 ⟨rfl,rfl,3,rfl,rfl⟩) ?_
 refine I2 rfl<|Q0<|Q8 ⟨.inl rfl,_,rfl,⟨rfl,rfl⟩⟩
theorem c19:CP modE 52 [iV o] h (iV (Ys o)):=by
 refine Q9 (fu:=Tryz.f52) (by kernel_rfl) rfl ?_;have S:=SH.start h;refine Q6<|I2 rfl<|Z5<|I1 rfl<|Q0<|Q7<|Yh 3 [(26,5),(27,6),(31,7),(33,8)] [(3,_)] (by kernel_rfl) rfl (by repeat(first|exact trivial|refine⟨rfl,?_⟩)) (by rfl) (fun hb=>?_) fun hb=>?_
 · skip
   refine Q6<|I2 rfl<|Q0<|Q8 ⟨.inl rfl,_,rfl,⟨by rw[Ys,if_pos (show o∈Q6I from of_decide_eq_true hb)];rfl,rfl⟩⟩
 have jF:o∉Q6I:=of_decide_eq_false hb;refine Yh 3 [(1,10),(8,11),(9,12),(10,13),(11,14),(14,15),(21,16),(22,17),(25,18),(29,19),(30,20),(32,21)] [(3,_)] (by kernel_rfl) rfl (by repeat(first|exact trivial|refine⟨rfl,?_⟩)) (by rfl) (fun hb=>?_) fun hb=>?_
 · skip
   refine Q6<|I2 rfl<|Q0<|Q8 ⟨.inl rfl,_,rfl,⟨by rw[Ys,if_neg jF,if_pos (show o∈ones from of_decide_eq_true hb)];rfl,rfl⟩⟩
 have hb2:o∉ones:=of_decide_eq_false hb;refine Yh 3 [(3,23),(4,24),(5,25),(6,26),(7,27),(18,28),(19,29)] [] (by kernel_rfl) rfl (by repeat(first|exact trivial|refine⟨rfl,?_⟩)) (by rfl) (fun hb=>?_) fun hb=>?_
 · skip
   refine Q6<|I2 rfl<|Q0<|Q8 ⟨.inl rfl,_,rfl,⟨by rw[Ys,if_neg jF,if_neg hb2,if_pos (show o∈Q9w from of_decide_eq_true hb)];rfl,rfl⟩⟩
 refine Q4<|Q6<|I2 rfl<|Q0<|Q8 ⟨.inl rfl,_,rfl,⟨by rw[Ys,if_neg jF,if_neg hb2,if_neg (show o∉Q9w from of_decide_eq_false hb)];rfl,rfl⟩⟩
theorem c10:CP modE 19 [iV o] h (.bool (Q1t o)):=by
 refine Q9 (fu:=Tryz.f19) (by kernel_rfl) rfl ?_;refine Q6<|I2 rfl<|QG<|I1 rfl<|Ih rfl rfl<|I1 rfl ?_
 refine Qt (n:=2) rfl rfl rfl gn rfl (fun hb=>by
  refine D1 hb rfl<|Dm hb rfl rfl ?_
  exact Q0 ⟨rfl,rfl,2,rfl,rfl⟩) ?_
 refine I1 rfl ?_
 refine Qt (n:=2) rfl rfl rfl gn rfl (fun hb=>by
  refine D1 hb rfl<|Dn hb rfl rfl ?_
  exact Q0 ⟨rfl,rfl,2,rfl,rfl⟩) ?_
 refine I2 rfl<|Q0<|Q8 ⟨.inl rfl,_,rfl,⟨by rw[Q1t,decide_not];rfl,rfl⟩⟩
end
section
variable {h g:Hp} {P:Prg} {lo cl gl fu co ev si sv:Value} {f:Int} {kb:Nat}
theorem c17 (X:PrgAt h P lo cl gl fu co ev si):C modE 50 [Qed P lo cl gl fu co ev si,iV f] h fun v h'=>v=.bool (Q05 P f)/\Ext h h':=by
 obtain⟨-,-,-,⟨fa,fc,rfl⟩,-⟩:=X.vals;refine Q9 (fu:=Tryz.f50) (by kernel_rfl) rfl ?_;have S:=SH.start h;refine Q6 ?_;refine QV S gn rfl rfl fun b1 g aF S=>?_;refine I2 rfl<|QG<|I1 rfl<|I0 3 rfl<|I4 rfl (S.cel 0 rfl) rfl<|I7 rfl<|Ic [_,_] rfl rfl (Qm (c18) ⟨ag0,?_⟩);refine I1 rfl ?_
 refine Qt (B:=decide (Jx P f=0)) (n:=7) rfl rfl rfl gn rfl (fun hb=>by
  refine D0 3 hb rfl<|D4 hb rfl (S.cel 0 rfl) rfl<|D1 hb rfl ?_;obtain⟨b,o,c,cs,e,m,hv,hg,bP,gT,hf1,hw⟩:=X.caps hb;have bG:fa=some ⟨b,o,none⟩:=by injection hv
  rw[bG];refine D5o 4 hb rfl rfl<|D0 1 hb rfl<|D4 hb rfl (S.old0 hg bP) hw<|De hb rfl rfl ?_;rw[<-bG]
  exact Q0 ⟨rfl,rfl,7,rfl,rfl⟩) ?_
 refine I2 rfl<|Q0<|Q8 ⟨.inl rfl,_,rfl,⟨rfl,S.e0⟩⟩
end
end Go.Proofs.YtljpajcmdjmeaaaGreat
