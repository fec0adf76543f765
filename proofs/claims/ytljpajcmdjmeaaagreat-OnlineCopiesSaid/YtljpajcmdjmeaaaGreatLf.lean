/- The walks and the laws, part Lf. Conditions: none. -/
import Derived.Test.YtljpajcmdjmeaaaGreatLe
import Derived.Test.YtljpajcmdjmeaaaGreatLa
import Derived.Test.YtljpajcmdjmeaaaGreatXe
open List renaming length_take → v0E, take_append_drop → v01, not_mem_nil → v1n, mem_cons → v0r, getElem?_take → v1q, getElem?_eq_getElem → v0c, mem_append → v0x, mem_singleton → v0X, range → v0w, length_filter_le → v1F, getElem?_eq_none → v02, length_set → v0q, mem_range → v1r, length_append → v0j, getElem_mem → v0M
open Nat renaming le_refl → v0b, add_sub_cancel → v2h, lt_of_lt_of_le → v0p
open Int renaming toNat_natCast → v0i, le_refl → v03, le_trans → v1Q, toNat_of_nonneg → v1S
open Bool renaming and_eq_true → v0g, or_eq_true → v0K
open Option renaming some → v0h
namespace Go.Proofs.YtljpajcmdjmeaaaGreat
open Go.X Go.May Go.Mac
section
variable {h0 h:Hp} {tb tc:Nat} {ma:Option Addr} {mc:Nat} {T:List MTask} {M L:List MMark} {k bb be:Nat} {id:Int}
theorem Q1B (hm:MadeI M (tkT T id) id) (h0:0<=(tkT T id).mark):(tkT T id).mark <M.length/\QbA (tkT T id) id (mkI M (tkT T id).mark)/\(0<=Zg M id 1->(tkT T id).mark <Zg M id 1):=by
 obtain⟨h1,x,hx,hk⟩:=hm.2 h0;have hl:=(List.getElem?_eq_some_iff.1 hx).1;have:=QdC (M:=M) h0 (by omega);rw[hx]at this;rw[<-v0h.inj this];exact⟨by omega,hk,h1⟩
end
theorem Q0X {id k:Int}: ∀(B L:List MMark),0<=Zg L id k->Zg (L++B) id k=Zg L id k
 | [],L,_=>by rw[List.append_nil]
 | x::B,L,h=>by
   have e:=Q5q (x:=x) h;have:=Q0X B (L++[x]) (by rw[e];exact h);rw[List.append_assoc]at this;exact this.trans e
theorem Q3h {T:List MTask} {M:List MMark} {k:Int} {j:Nat} (hj:j <M.length) (hk:M[j].kind=k) (h:Zg (M.take j) M[j].task k <0):Zg M M[j].task k=j:=by
 have e1:Zg (M.take j++[M[j]]) M[j].task k=j:=by
  rw[ZJ,if_neg (by omega),if_pos ⟨rfl,hk⟩,v0E];omega
 have e2:M=(M.take j++[M[j]])++M.drop (j+1):=by
  rw[List.take_append_getElem,v01]
 have:=Q0X (M.drop (j+1)) (M.take j++[M[j]]) (by rw[e1];omega) (id:=M[j].task) (k:=k);rw[<-e2,e1]at this;exact this
section
variable {h0 h:Hp} {tb tc:Nat} {ma:Option Addr} {mc:Nat} {T:List MTask} {M L:List MMark} {k bb be:Nat} {id:Int}
end
section
variable {h0 h:Hp} {tb tc:Nat} {ma:Option Addr} {mc:Nat} {T:List MTask} {M L:List MMark} {k bb be:Nat} {id:Int}
end
def rel (R:Nat->Nat->Prop) (a b:Int):Prop:=0<=a/\0<=b/\R a.toNat b.toNat
def QbB (T:List MTask) (M:List MMark) (a b:Int):Prop:=a≠b/\0<=(tkT T a).looper/\(tkT T a).looper=(tkT T b).looper/\0<=eIx M a/\eIx M a <bIx M b
def Q76 (T:List MTask) (R:Nat->Nat->Prop) (a b:Int):Prop:=(tkT T a).kind=4/\(tkT T b).kind=4/\(tkT T b).front=false/\((tkT T a).front=true\/(tkT T a).delay<=(tkT T b).delay)/\rel R (tkT T a).mark (tkT T b).mark
structure BaseP (T:List MTask) (M:List MMark) (R:Nat->Nat->Prop):Prop where
 next: ∀i k:Nat,i <k->k <M.length->(mkI M i).task=(mkI M k).task->(∀j:Nat,i <j->j <k->(mkI M j).task≠(mkI M k).task)->R i k
 join: ∀i:Nat,i <M.length->(mkI M i).kind=6->0<=eIx M (mkI M i).other->R (eIx M (mkI M i).other).toNat i
 made: ∀id:Int,1<=id->id<=T.length->0<=(tkT T id).mark->0<=bIx M id->R (tkT T id).mark.toNat (bIx M id).toNat
 fol: ∀id:Int,1<=id->id<=T.length->0 <(tkT T id).prev->0<=eIx M (tkT T id).prev->0<=bIx M id->R (eIx M (tkT T id).prev).toNat (bIx M id).toNat
structure Clo (T:List MTask) (M:List MMark) (R:Nat->Nat->Prop):Prop where
 base:BaseP T M R
 trans: ∀a b c,R a b->R b c->R a c
 seven: ∀a b:Int,1<=a->a<=T.length->1<=b->b<=T.length->QbB T M a b->Q76 T R a b->R (eIx M a).toNat (bIx M b).toNat
 eight: ∀a b:Int,1<=a->a<=T.length->1<=b->b<=T.length->QbB T M a b->rel R (bIx M a) (bIx M b)->R (eIx M a).toNat (bIx M b).toNat
def HB (T:List MTask) (M:List MMark) (i k:Nat):Prop:= ∀R,Clo T M R->R i k
theorem hb_clo {T:List MTask} {M:List MMark}:Clo T M (HB T M) where
 base:=⟨fun i k a b c d R h=>h.base.next i k a b c d,fun i a b c R h=>h.base.join i a b c,fun id a b c d R h=>h.base.made id a b c d,fun id a b c d e R h=>h.base.fol id a b c d e⟩
 trans:=fun a b c h1 h2 R h=>h.trans a b c (h1 R h) (h2 R h)
 seven:=fun a b a1 a2 b1 b2 ha hf R h=>h.seven a b a1 a2 b1 b2 ha ⟨hf.1,hf.2.1,hf.2.2.1,hf.2.2.2.1,hf.2.2.2.2.1,hf.2.2.2.2.2.1,hf.2.2.2.2.2.2 R h⟩
 eight:=fun a b a1 a2 b1 b2 ha hf R h=>h.eight a b a1 a2 b1 b2 ha ⟨hf.1,hf.2.1,hf.2.2 R h⟩
theorem KW {M:List MMark} {n:Nat} {id k:Int} (h:0<=Zg (M.take n) id k):Zg M id k=Zg (M.take n) id k:=by
 have:=Q0X (M.drop n) (M.take n) h;rwa[v01]at this
theorem Q2k {M:List MMark} {id k:Int} (h:0<=Zg M id k):Zg M id k <M.length/\(mkI M (Zg M id k)).task=id/\(mkI M (Zg M id k)).kind=k:=by
 refine⟨Yp,?_⟩;unfold Zg at h ⊢;cases e:M.findIdx? (fun x=>decide (x.task=id)&&decide (x.kind=k))with
 |none=>rw[e]at h;exact absurd h (by show ¬(0:Int)<= -1;omega)
 | some i=>
   obtain⟨hi,h2,_⟩:=List.findIdx?_eq_some_iff_getElem.1 e;simp only[v0g,decide_eq_true_eq]at h2;show(mkI M (i:Int)).task=id/\(mkI M (i:Int)).kind=k;rw[ZD hi];exact h2
section
variable {T:List MTask} {M:List MMark}
theorem QaD (ok:RunOk T M) {i k:Nat} (h:HB T M i k):i <k/\k <M.length:=by
 refine h (fun a b=>a <b/\b <M.length) ⟨⟨fun i k h1 h2 _ _=>⟨h1,h2⟩,fun i hi hk he=>?_,fun id i1 i2 hm hb=>?_,fun id i1 i2 hp he hb=>?_⟩,fun a b c h1 h2=>⟨by omega,h2.2⟩,fun a b _ _ _ _ h _=>?_,fun a b _ _ _ _ h _=>?_⟩
 · have hl:=ok.lk i hi;rw[<-ZD hi]at hl;have hj:=Q2d hl hk;have e:=KW (M:=M) (n:=i) hj.2.2;have ai:=Yp (L:=M.take i) (id:=(mkI M i).other) (k:=2);rw[v0E]at ai;refine⟨?_,hi⟩;show(Zg M (mkI M i).other 2).toNat <i;rw[e];omega
 · have:=(ok.tk.made id i1 i2).2 hm;have h2:=this.1 hb;have h3:=Yp (L:=M) (id:=id) (k:=1);have h4:bIx M id=Zg M id 1:=rfl;omega
 · have hf:=ok.tk.fol id i1 i2;rcases hf with h0| ⟨_,_,_,_,_,h6⟩
   · omega
   have:=h6 hb;have h3:=Yp (L:=M) (id:=id) (k:=1);have h4:bIx M id=Zg M id 1:=rfl;omega
 · have h3:=Yp (L:=M) (id:=b) (k:=1);have h4:bIx M b=Zg M b 1:=rfl;obtain⟨_,_,_,h5,h6⟩:=h;omega
 have h3:=Yp (L:=M) (id:=b) (k:=1);have h4:bIx M b=Zg M b 1:=rfl;obtain⟨_,_,_,h5,h6⟩:=h;omega
theorem Qff: ∀(d i k:Nat),k=i+d+1->k <M.length->(mkI M i).task=(mkI M k).task->HB T M i k:=by
 intro d
 induction d using Nat.strongRecOn with
 | _ d ih=>
   intro i k hk hl ht;by_cases h: ∀j:Nat,i <j->j <k->(mkI M j).task≠(mkI M k).task
   · exact hb_clo.base.next i k (by omega) hl ht h
   simp only[Classical.not_forall,Classical.not_not]at h;obtain⟨j,h1,h2,h3⟩:=h;exact hb_clo.trans i j k (ih (j -i -1) (by omega) i j (by omega) (by omega) (by rw[h3];exact ht)) (ih (k -j -1) (by omega) j k (by omega) hl h3)
end
open Go.Model
theorem Qe1 (t:MTask):sameV 20 (.agg (tkV t).toArray) (.agg (tkV t).toArray)=true:=by simp[sameV,sameV.sameL,tkV,Zc]
theorem orT {x y:Bool} (h:(x||y)=true):x=true\/y=true:=by cases x<;>cases y<;>simp_all
def Prv (M:List MMark) (p k:Nat):Prop:=p <k/\(mkI M p).task=(mkI M k).task/\ ∀j:Nat,p <j->j <k->(mkI M j).task≠(mkI M k).task
structure Bas (T:List MTask) (M:List MMark) (clk:Nat->Nat->Prop) (id:Int) (Y:Nat->Prop):Prop where
 mm:0<=(tkT T id).mark-> ∀j,clk (tkT T id).mark.toNat j->Y j
 pv:0 <(tkT T id).prev->0<=eIx M (tkT T id).prev-> ∀j,clk (eIx M (tkT T id).prev).toNat j->Y j
 ov: ∀a:Int,1<=a->a<=T.length->QbB T M a id->(0<=bIx M a/\Y (bIx M a).toNat)\/Q76 T (fun i k=>clk k i) a id-> ∀j,clk (eIx M a).toNat j->Y j
section
variable {T:List MTask} {M:List MMark} {clk:Nat->Nat->Prop}
theorem Y6 (ok:RunOk T M) {k:Nat} (hk:k <M.length) (h1:(mkI M k).kind=1):bIx M (mkI M k).task=k:=by
 have hl:=ok.lk k hk;rw[ZD hk]at h1 ⊢;exact Q3h (T:=T) hk h1 (hl.b.1 h1)
theorem Ko (ok:RunOk T M) {k:Nat} (hk:k <M.length):1<=(mkI M k).task/\(mkI M k).task<=T.length:=by
 rw[ZD hk];exact(ok.lk k hk).t
theorem Q1G {id:Int} (h:0<=bIx M id):(bIx M id).toNat <M.length/\(mkI M ((bIx M id).toNat:Nat)).task=id/\(mkI M ((bIx M id).toNat:Nat)).kind=1:=by
 have s:=Q2k h;have e:(((bIx M id).toNat:Nat):Int)=bIx M id:=by omega
 rw[e];exact⟨by have:bIx M id <M.length:=s.1;omega,s.2.1,s.2.2⟩
theorem Q7S (ok:RunOk T M) {k:Nat} (hk:k <M.length) (h6:(mkI M k).kind=6):0<=eIx M (mkI M k).other/\(eIx M (mkI M k).other).toNat <k:=by
 have hl:=ok.lk k hk;rw[<-ZD hk]at hl;have hj:=Q2d hl h6;have e:=KW (M:=M) (n:=k) hj.2.2;have ai:=Yp (L:=M.take k) (id:=(mkI M k).other) (k:=2);rw[v0E]at ai;have e2:eIx M (mkI M k).other=Zg M (mkI M k).other 2:=rfl;rw[e2,e];omega
theorem Q3N (ok:RunOk T M) {id:Int} (i1:1<=id) (i2:id<=T.length) (hp:0 <(tkT T id).prev) (hb:0<=bIx M id):0<=eIx M (tkT T id).prev/\eIx M (tkT T id).prev <bIx M id:=by
 rcases ok.tk.fol id i1 i2 with h0| ⟨_,_,_,_,_,h6⟩
 · omega
 exact h6 hb
theorem Q6E (ok:RunOk T M) {id:Int} (i1:1<=id) (i2:id<=T.length) (hm:0<=(tkT T id).mark) (hb:0<=bIx M id):(tkT T id).mark <bIx M id:=((ok.tk.made id i1 i2).2 hm).1 hb
theorem prv_eq {p q k:Nat} (hp:Prv M p k) (hq:q <k) (ht:(mkI M q).task=(mkI M k).task) (hn: ∀j:Nat,q <j->j <k->(mkI M j).task≠(mkI M k).task):p=q:=by
 rcases Nat.lt_trichotomy p q with h|h|h
 · exact absurd ht (hp.2.2 q h hq)
 · exact h
 exact absurd hp.2.1 (hn p h hp.1)
theorem Qfk (ok:RunOk T M) {a b:Int} (a1:1<=a) (a2:a<=T.length) (b1:1<=b) (b2:b<=T.length) (eU:a≠b) {R:Nat->Nat->Prop} (hf:Q76 T R a b):(tkT T a).mark≠(tkT T b).mark:=by
 intro e;obtain⟨k1,k2,_,_,r1,r2,_⟩:=hf;have ha:=(Q1B (ok.tk.made a a1 a2) r1).2.1;have hb:=(Q1B (ok.tk.made b b1 b2) r2).2.1;rw[e]at ha;unfold QbA at ha hb;omega
end
def Rep (c n:Nat->Int) (N:Nat) (A:Int->Int) (X:Nat->Prop):Prop:= ∀j,j <N->(n j<=A (c j)↔X j)
section
variable {c n:Nat->Int} {N:Nat} {A B:Int->Int} {X Y:Nat->Prop}
theorem Rep.cong (h:Rep c n N A X) (e: ∀j,j <N->(X j↔Y j)):Rep c n N A Y:=fun j hj=>(h j hj).trans (e j hj)
theorem Rep.join (h1:Rep c n N A X) (h2:Rep c n N B Y):Rep c n N (fun k=>max (A k) (B k)) (fun j=>X j\/Y j):=fun j hj=>by
 show n j<=max (A (c j)) (B (c j))↔X j\/Y j;rw[<-h1 j hj,<-h2 j hj];omega
theorem Rep.zero (hn: ∀j,j <N->1<=n j):Rep c n N (fun _=>0) (fun _=>False):=fun j hj=>by
 have:=hn j hj;exact⟨fun x=>by have:n j<=0:=x;omega,False.elim⟩
theorem Rep.tick (h:Rep c n N A X) (h1: ∀j,j <N->c j=c N->X j/\n j<=n N):Rep c n (N+1) (fun k=>if k=c N then n N else A k) (fun j=>j=N\/(j <N/\X j)):=fun j hj=>by
 show n j<=(if c j=c N then n N else A (c j))↔_;by_cases e:j=N
 · rw[e,if_pos rfl];simp
 have hl:j <N:=by omega
 by_cases ec:c j=c N
 · rw[if_pos ec];exact⟨fun _=>.inr ⟨hl,(h1 j hl ec).1⟩,fun _=>(h1 j hl ec).2⟩
 rw[if_neg ec,h j hl];exact⟨fun x=>.inr ⟨hl,x⟩,fun x=>x.elim (fun x=>absurd x e) (·.2)⟩
theorem Rep.stay (h:Rep c n N A X) (h1:A (c N)<n N):Rep c n (N+1) A (fun j=>j <N/\X j):=fun j hj=>by
 by_cases e:j=N
 · rw[e];exact⟨fun x=>by omega,fun x=>by omega⟩
 have hl:j <N:=by omega
 rw[h j hl];exact⟨fun x=>⟨hl,x⟩,(·.2)⟩
end
structure ORn where
 t:MTask
 ch:Int
 A:Int->Int
 fc:Int
 fn:Int
 over:Bool
def Jn (R:Int->Option ORn) (fi:Int->Prop) (l:Int) (A:Int->Int) (a:Int) (r:ORn):Prop:=R a=some r/\r.over=true/\0<=l/\r.t.looper=l/\(r.fn<=A r.fc\/fi a)
inductive Joins (R:Int->Option ORn) (fi:Int->Prop) (l:Int) (O:List Int) (A0:Int->Int):(Int->Int)->List Int->Prop
 |start:Joins R fi l O A0 A0 []
 |join {A:Int->Int} {J:List Int} {a:Int} {r:ORn} (h:Joins R fi l O A0 A J) (ha:a∈O) (hr:Jn R fi l A a r):Joins R fi l O A0 (fun k=>max (A k) (r.A k)) (a::J)
section
variable {T:List MTask} {M:List MMark} {clk:Nat->Nat->Prop}
theorem Q0o (ok:RunOk T M) {a:Int} (h:0<=eIx M a):0<=bIx M a/\bIx M a <eIx M a:=by
 have s:=Q2k h;have hl:(Zg M a 2).toNat <M.length:=by have h4:Zg M a 2 <M.length:=s.1;have h5:0<=Zg M a 2:=h;omega
 have e0:(((Zg M a 2).toNat:Nat):Int)=Zg M a 2:=by have:0<=Zg M a 2:=h;omega
 have lk:=ok.lk _ hl;rw[<-ZD hl,e0]at lk;have hb:=lk.b;rw[s.2.1,s.2.2]at hb
 have h3:0<=Zg (M.take (Zg M a 2).toNat) a 1:=by
  rcases Int.lt_or_le (Zg (M.take (Zg M a 2).toNat) a 1) 0 with e|e
  · have:=hb.2 e;omega
  exact e
 have e:=KW h3;have ai:=Yp (L:=M.take (Zg M a 2).toNat) (id:=a) (k:=1);rw[v0E]at ai;have e2:bIx M a=Zg M a 1:=rfl;have e3:eIx M a=Zg M a 2:=rfl;omega
structure BegH (T:List MTask) (M:List MMark) (clk:Nat->Nat->Prop) (c n:Nat->Int) (N:Nat) (A0:Int->Int) (R:Int->Option ORn) (fi:Int->Prop) (O:List Int):Prop where
 hN:N <M.length
 h1:(mkI M N).kind=1
 a0:Rep c n N A0 fun j=>(0<=(tkT T (mkI M N).task).mark/\clk (tkT T (mkI M N).task).mark.toNat j)\/(0 <(tkT T (mkI M N).task).prev/\clk (eIx M (tkT T (mkI M N).task).prev).toNat j)
 o: ∀a,a∈O↔1<=a/\a<=T.length/\0<=bIx M a/\bIx M a <N
 r: ∀a,a∈O-> ∃r,R a=some r/\r.t=tkT T a/\(r.over=true↔0<=eIx M a/\eIx M a <N)/\r.fc=c (bIx M a).toNat/\r.fn=n (bIx M a).toNat/\(r.over=true->Rep c n N r.A (clk (eIx M a).toNat))
 f: ∀a,a∈O->0<=eIx M a->eIx M a <N->(fi a↔Q76 T (fun i k=>clk k i) a (mkI M N).task)
theorem Qbn (ok:RunOk T M) {c n:Nat->Int} {N:Nat} {A0 A:Int->Int} {R:Int->Option ORn} {fi:Int->Prop} {O J:List Int} (H:BegH T M clk c n N A0 R fi O)
 (hJ:Joins R fi (tkT T (mkI M N).task).looper O A0 A J) (cU: ∀a r,a∈O->a∉J-> ¬Jn R fi (tkT T (mkI M N).task).looper A a r):
 ∃X:Nat->Prop,Rep c n N A X/\Bas T M clk (mkI M N).task X/\ ∀Y,Bas T M clk (mkI M N).task Y-> ∀j,X j->Y j:=by
 have hb:=Y6 ok H.hN H.h1;obtain⟨t1,t2⟩:=Ko ok H.hN;have jF:0<=bIx M (mkI M N).task:=by omega
 have key: ∀ {A:Int->Int} {J:List Int},Joins R fi (tkT T (mkI M N).task).looper O A0 A J-> ∃X:Nat->Prop,Rep c n N A X/\
  (∀j,0<=(tkT T (mkI M N).task).mark->clk (tkT T (mkI M N).task).mark.toNat j->X j)/\(∀j,0 <(tkT T (mkI M N).task).prev->clk (eIx M (tkT T (mkI M N).task).prev).toNat j->X j)/\
  (∀a,a∈J-> ∀j,clk (eIx M a).toNat j->X j)/\ ∀Y,Bas T M clk (mkI M N).task Y-> ∀j,X j->Y j:=by
  intro A J h
  induction h with
  |start=>exact⟨_,H.a0,fun j h1 h2=>.inl ⟨h1,h2⟩,fun j h1 h2=>.inr ⟨h1,h2⟩,fun a ha=>(v1n ha).elim,fun Y hY j hj=>by
   rcases hj with⟨h1,h2⟩| ⟨h1,h2⟩
   · exact hY.mm h1 j h2
   exact hY.pv h1 (Q3N ok t1 t2 h1 jF).1 j h2⟩
  | join h ha hr ih=>
    rename_i A J a r;obtain⟨X,x1,x2,x3,x4,x5⟩:=ih;obtain⟨r',fJ,rt,ro,rc,rn,rA⟩:=H.r a ha;obtain⟨j1,j2,j3,j4,j5⟩:=hr;obtain rfl:r'=r:=by rw[j1]at fJ;exact(v0h.inj fJ).symm
    obtain⟨e0,e1⟩:=ro.1 j2;obtain⟨a1,a2,b0,b1⟩:=(H.o a).1 ha;refine⟨_,x1.join (rA j2),fun j h1 h2=>.inl (x2 j h1 h2),fun j h1 h2=>.inl (x3 j h1 h2),fun x hx j hj=>?_,fun Y hY j hj=>?_⟩
    · rcases v0r.1 hx with e|e
      · rw[e]at hj;exact .inr hj
      exact .inl (x4 x e j hj)
    rcases hj with hj|hj
    · exact x5 Y hY j hj
    refine hY.ov a a1 a2 ⟨fun e=>?_,?_,?_,e0,by omega⟩ ?_ j hj
    · rw[e,hb]at b1;omega
    · rw[<-rt,j4];exact j3
    · rw[<-rt,j4]
    rcases j5 with h|h
    · refine .inl ⟨b0,x5 Y hY _ ?_⟩;rw[rn,rc]at h;exact(x1 _ (by omega)).1 h
    exact .inr ((H.f a ha e0 e1).1 h)
 obtain⟨X,x1,x2,x3,x4,x5⟩:=key hJ;refine⟨X,x1,⟨fun h j hj=>x2 j h hj,fun h _ j hj=>x3 j h hj,fun a a1 a2 hA ho j hj=>?_⟩,x5⟩;obtain⟨n1,n2,n3,n4,n5⟩:=hA;obtain⟨b0,b1⟩:=Q0o ok n4;have hO:a∈O:=(H.o a).2 ⟨a1,a2,b0,by omega⟩;by_cases hj2:a∈J
 · exact x4 a hj2 j hj
 obtain⟨r,hr,rt,ro,rc,rn,rA⟩:=H.r a hO;refine absurd ⟨hr,ro.2 ⟨n4,by omega⟩,by rw[<-n3];exact n2,by rw[rt];exact n3,?_⟩ (cU a r hO hj2);rcases ho with⟨_,h⟩|h
 · left;rw[rn,rc];exact(x1 _ (by omega)).2 h
 right;exact(H.f a hO n4 (by omega)).2 h
end
def HBe (T:List MTask) (M:List MMark) (k j:Nat):Prop:=j=k\/HB T M j k
section
variable {T:List MTask} {M:List MMark}
theorem HBe.tr {a b c:Nat} (h1:HBe T M b a) (h2:HB T M b c):HB T M a c:=by
 rcases h1 with e|e
 · rw[e];exact h2
 exact hb_clo.trans _ _ _ e h2
theorem Q2s {R S:Nat->Nat->Prop} {a b:Int} (h: ∀i k,R i k->S i k) (hf:Q76 T R a b):Q76 T S a b:=
 ⟨hf.1,hf.2.1,hf.2.2.1,hf.2.2.2.1,hf.2.2.2.2.1,hf.2.2.2.2.2.1,h _ _ hf.2.2.2.2.2.2⟩
theorem Q7U (ok:RunOk T M) {k p:Nat} (hk:k <M.length) (h1:(mkI M k).kind≠1) (hp:Prv M p k) {a:Nat} (h:HB T M a k):HBe T M p a\/((mkI M k).kind=6/\HBe T M (eIx M (mkI M k).other).toNat a):=by
 have nb: ∀id:Int,0<=bIx M id->(bIx M id).toNat≠k:=fun id hb e=>by
  obtain⟨_,_,q3⟩:=Q1G hb;rw[e]at q3;exact h1 q3
 refine(h (fun i k'=>HB T M i k'/\(k'=k->HBe T M p i\/((mkI M k).kind=6/\HBe T M (eIx M (mkI M k).other).toNat i))) ?_).2 rfl
 refine⟨⟨fun i k' ny bc ht hn=>⟨hb_clo.base.next i k' ny bc ht hn,fun e=>?_⟩,fun i hi h6 he=>⟨hb_clo.base.join i hi h6 he,fun e=>?_⟩,fun id i1 i2 hm hb=>⟨hb_clo.base.made id i1 i2 hm hb,fun e=>absurd e (nb id hb)⟩,fun id i1 i2 hp he hb=>⟨hb_clo.base.fol id i1 i2 hp he hb,fun e=>absurd e (nb id hb)⟩⟩,fun a b c x y=>⟨hb_clo.trans _ _ _ x.1 y.1,fun e=>?_⟩,fun a b a1 a2 b1 b2 ha hf=>⟨hb_clo.seven a b a1 a2 b1 b2 ha (Q2s (fun _ _ x=>x.1) hf),fun e=>absurd e (nb b (by obtain⟨_,_,_,e1,e2⟩:=ha;omega))⟩,fun a b a1 a2 b1 b2 ha hr=>⟨hb_clo.eight a b a1 a2 b1 b2 ha ⟨hr.1,hr.2.1,hr.2.2.1⟩,fun e=>absurd e (nb b hr.2.1)⟩⟩
 · subst e;exact .inl (.inl (prv_eq hp ny ht hn).symm)
 · subst e;exact .inr ⟨h6,.inl rfl⟩
 rcases y.2 e with z| ⟨z1,z2⟩
 · rcases z with z|z
   · left;right;rw[<-z];exact x.1
   left;right;exact hb_clo.trans _ _ _ x.1 z
 right;refine⟨z1,?_⟩;rcases z2 with z|z
 · right;rw[<-z];exact x.1
 right;exact hb_clo.trans _ _ _ x.1 z
theorem QaC (ok:RunOk T M) {k:Nat} (hk:k <M.length) (h1:(mkI M k).kind=1) {Y:Nat->Prop} (hY:Bas T M (HBe T M) (mkI M k).task Y) {a:Nat} (h:HB T M a k):Y a:=by
 have jF:=Y6 ok hk h1
 have only: ∀id:Int,0<=bIx M id->(bIx M id).toNat=k->id=(mkI M k).task:=fun id hb e=>by
  obtain⟨_,q2,_⟩:=Q1G hb;rw[e]at q2;exact q2.symm
 have dn: ∀m:Nat,(∀j,HBe T M m j->Y j)->Y m/\ ∀x,HB T M x m->Y x:=fun m hm=>⟨hm m (.inl rfl),fun x hx=>hm x (.inr hx)⟩;refine((h (fun i k'=>HB T M i k'/\(k'=k->Y i/\ ∀x,HB T M x i->Y x)) ?_).2 rfl).1
 refine⟨⟨fun i k' ny bc ht hn=>⟨hb_clo.base.next i k' ny bc ht hn,fun e=>?_⟩,fun i hi h6 he=>⟨hb_clo.base.join i hi h6 he,fun e=>?_⟩,fun id i1 i2 hm hb=>⟨hb_clo.base.made id i1 i2 hm hb,fun e=>?_⟩,fun id i1 i2 hp he hb=>⟨hb_clo.base.fol id i1 i2 hp he hb,fun e=>?_⟩⟩,fun a b c x y=>⟨hb_clo.trans _ _ _ x.1 y.1,fun e=>?_⟩,fun a b a1 a2 b1 b2 ha hf=>⟨hb_clo.seven a b a1 a2 b1 b2 ha (Q2s (fun _ _ x=>x.1) hf),fun e=>?_⟩,fun a b a1 a2 b1 b2 ha hr=>⟨hb_clo.eight a b a1 a2 b1 b2 ha ⟨hr.1,hr.2.1,hr.2.2.1⟩,fun e=>?_⟩⟩
 · subst e;have ai:=QaD ok (Qff (k' -i -1) i k' (by omega) bc ht);obtain⟨p,hp⟩: ∃p,Prv M p k':=⟨i,ny,ht,hn⟩;have hl:=ok.lk k' hk;rw[<-ZD hk]at hl;have hneg:=hl.b.1 h1;have fw:=ok.lk i (by omega);rw[<-ZD (by omega:i <M.length)]at fw;by_cases dA:(mkI M i).kind=1
   · have:=Y6 ok (by omega:i <M.length) dA;rw[ht]at this;omega
   have h3: ¬bIx (M.take i) (mkI M k').task <0:=fun h=>dA (fw.b.2 (by rw[ht];exact h));have e:=KW (M:=M) (n:=i) (id:=(mkI M k').task) (k:=1) (Int.not_lt.1 h3);have ai:=Yp (L:=M.take i) (id:=(mkI M k').task) (k:=1);rw[v0E]at ai;have e2:bIx M (mkI M k').task=Zg M (mkI M k').task 1:=rfl;omega
 · subst e;omega
 · have:=only id hb e;subst this;exact dn _ (hY.mm hm)
 · have:=only id hb e;subst this;exact dn _ (hY.pv hp he)
 · obtain⟨_,y2⟩:=y.2 e;exact⟨y2 _ x.1,fun z hz=>y2 _ (hb_clo.trans _ _ _ hz x.1)⟩
 · have hb:0<=bIx M b:=by obtain⟨_,_,_,e1,e2⟩:=ha;omega
   have:=only b hb e;subst this;exact dn _ (hY.ov a a1 a2 ha (.inr (Q2s (fun _ _ x=>.inr x.1) hf)))
 have:=only b hr.2.1 e;subst this;exact dn _ (hY.ov a a1 a2 ha (.inl ⟨hr.1,(hr.2.2.2 e).1⟩))
theorem Qfe (ok:RunOk T M) {k:Nat} (hk:k <M.length) (h1:(mkI M k).kind=1):Bas T M (HBe T M) (mkI M k).task (fun j=>HB T M j k):=by
 have hb:=Y6 ok hk h1;obtain⟨t1,t2⟩:=Ko ok hk;have jF:0<=bIx M (mkI M k).task:=by omega
 refine⟨fun hm j hj=>hj.tr ?_,fun hp he j hj=>hj.tr ?_,fun a a1 a2 ha ho j hj=>hj.tr ?_⟩
 · have:=hb_clo (T:=T).base.made _ t1 t2 hm jF;rwa[hb,v0i]at this
 · have:=hb_clo (T:=T).base.fol _ t1 t2 hp he jF;rwa[hb,v0i]at this
 have:HB T M (eIx M a).toNat (bIx M (mkI M k).task).toNat:=by
  rcases ho with⟨h0,ho⟩|ho
  · exact hb_clo.eight a _ a1 a2 t1 t2 ha ⟨h0,jF,by rw[hb,v0i];exact ho⟩
  have ao:=Qfk ok a1 a2 t1 t2 ha.1 ho;obtain⟨k1,k2,k3,k4,r1,r2,r3⟩:=ho;refine hb_clo.seven a _ a1 a2 t1 t2 ha ⟨k1,k2,k3,k4,r1,r2,?_⟩;rcases r3 with e|e
  · omega
  exact e
 rwa[hb,v0i]at this
end
section
variable {T:List MTask} {M:List MMark} {c n:Nat->Int} {N:Nat} {A B:Int->Int}
theorem Q6J {p j:Nat} (hk:N <M.length) (hp:Prv M p N) (h:HBe T M p j):HB T M j N:=h.tr (hb_clo.base.next p N hp.1 hk hp.2.1 hp.2.2)
theorem QcO (ok:RunOk T M) {j:Nat} (hk:N <M.length) (h6:(mkI M N).kind=6) (h:HBe T M (eIx M (mkI M N).other).toNat j):HB T M j N:=
 h.tr (hb_clo.base.join N hk h6 (Q7S ok hk h6).1)
theorem QbU (ok:RunOk T M) (hk:N <M.length) (h1:(mkI M N).kind≠1) (h6:(mkI M N).kind≠6) {p:Nat} (hp:Prv M p N) (hA:Rep c n N A (HBe T M p))
 (hc: ∀j,j <N->c j=c N->HBe T M p j/\n j<=n N):Rep c n (N+1) (fun k=>if k=c N then n N else A k) (HBe T M N):=by
 refine(hA.tick hc).cong fun j hj=>?_;constructor
 · intro h;rcases h with e| ⟨_,h⟩
   · exact .inl e
   exact .inr (Q6J hk hp h)
 intro h;rcases h with e|h
 · exact .inl e
 refine .inr ⟨(QaD ok h).1,?_⟩;rcases Q7U ok hk h1 hp h with h| ⟨h,_⟩
 · exact h
 exact absurd h h6
theorem QcG (ok:RunOk T M) (hk:N <M.length) (h6:(mkI M N).kind=6) {p:Nat} (hp:Prv M p N) (hA:Rep c n N A (HBe T M p)) (hB:Rep c n N B (HBe T M (eIx M (mkI M N).other).toNat))
 (hc: ∀j,j <N->c j=c N->HBe T M p j/\n j<=n N):Rep c n (N+1) (fun k=>if k=c N then n N else max (A k) (B k)) (HBe T M N):=by
 refine((hA.join hB).tick fun j h1 h2=>⟨.inl (hc j h1 h2).1,(hc j h1 h2).2⟩).cong fun j hj=>?_;constructor
 · intro h;rcases h with e| ⟨_,h|h⟩
   · exact .inl e
   · exact .inr (Q6J hk hp h)
   exact .inr (QcO ok hk h6 h)
 intro h;rcases h with e|h
 · exact .inl e
 refine .inr ⟨(QaD ok h).1,?_⟩;rcases Q7U ok hk (by omega) hp h with h| ⟨_,h⟩
 · exact .inl h
 exact .inr h
theorem QfK (ok:RunOk T M) (hk:N <M.length) (h1:(mkI M N).kind=1) {X:Nat->Prop} (hX:Bas T M (HBe T M) (mkI M N).task X) (hm: ∀Y,Bas T M (HBe T M) (mkI M N).task Y-> ∀j,X j->Y j) (j:Nat):X j↔HB T M j N:=
 ⟨hm _ (Qfe ok hk h1) j,QaC ok hk h1 hX⟩
theorem QfJ (ok:RunOk T M) (hk:N <M.length) (hA:Rep c n N A fun j=>HB T M j N) (hc: ∀j,j <N->c j=c N->HB T M j N/\n j<=n N):
 Rep c n (N+1) (fun k=>if k=c N then n N else A k) (HBe T M N):=by
 refine(hA.tick hc).cong fun j hj=>?_;constructor
 · intro h;rcases h with e| ⟨_,h⟩
   · exact .inl e
   exact .inr h
 intro h;rcases h with e|h
 · exact .inl e
 exact .inr ⟨(QaD ok h).1,h⟩
theorem Q3z (ok:RunOk T M) {m:Nat} (hm:m <N) (hk:N <M.length) (hA:Rep c n N A (HBe T M m)) (h1:A (c N)<n N):Rep c n (N+1) A (HBe T M m):=by
 refine(hA.stay h1).cong fun j hj=>⟨(·.2),fun h=>⟨?_,h⟩⟩;rcases h with e|h
 · omega
 have:=(QaD ok h).1;omega
theorem Rep.ext {c' n':Nat->Int} {X:Nat->Prop} (h:Rep c n N A X) (e: ∀j,j <N->c' j=c j/\n' j=n j):Rep c' n' N A X:=fun j hj=>by
 rw[(e j hj).1,(e j hj).2];exact h j hj
end
def Lst (M:List MMark) (N:Nat) (a:Int) (l:Nat):Prop:=l <N/\(mkI M l).task=a/\ ∀j:Nat,l <j->j <N->(mkI M j).task≠a
structure RunI (T:List MTask) (M:List MMark) (N:Nat) (c n:Nat->Int) (nc:Int) (mk:Int->Int) (a:Int) (r:ORn):Prop where
 t:r.t=tkT T a
 ov:r.over=true↔0<=eIx M a/\eIx M a <N
 fc:r.fc=c (bIx M a).toNat
 fn:r.fn=n (bIx M a).toNat
 bd: ∀i,0<=r.A i/\r.A i<=mk i
 ch:0<=r.ch/\r.ch <nc
 l: ∃l,Lst M N a l/\Rep c n N r.A (HBe T M l)/\(r.over=false-> ∀j,j <N->c j=r.ch->HBe T M l j)
structure CkInv (T:List MTask) (M:List MMark) (N:Nat) (c n:Nat->Int) (nc:Int) (mk:Int->Int) (op:Int->Bool) (K:Int->Option (Int->Int)) (R:Int->Option ORn) (O:List Int):Prop where
 hN:N<=M.length
 st: ∀j,j <N->(0<=c j/\c j <nc)/\1<=n j/\n j<=mk (c j)
 k: ∀m A,K m=some A->0<=m/\m <N/\Rep c n N A (HBe T M m.toNat)/\ ∀i,0<=A i/\A i<=mk i
 kn: ∀m:Nat,m <N->(mkI M m).kind=4\/(mkI M m).kind=5\/(mkI M m).kind=7-> ∃A,K m=some A
 o: ∀a,a∈O↔1<=a/\a<=T.length/\0<=bIx M a/\bIx M a <N
 ro: ∀a,(∃r,R a=some r)↔a∈O
 r: ∀a r,R a=some r->RunI T M N c n nc mk a r
 sep: ∀a b r r',R a=some r->R b=some r'->r.over=false->r'.over=false->r.ch=r'.ch->a=b
 opn: ∀i,0<=i->i <nc->(op i=true↔ ∃a r,R a=some r/\r.over=false/\r.ch=i)
def Qy {α:Type} (f:Int->α) (k:Int) (v:α):Int->α:=fun i=>if i=k then v else f i
section
variable {T:List MTask} {M:List MMark} {c n c' n':Nat->Int} {N:Nat} {nc:Int} {mk:Int->Int} {op:Int->Bool} {K:Int->Option (Int->Int)} {R:Int->Option ORn} {O:List Int}
theorem Qm {α:Type} {f:Int->α} {k:Int} {v:α}:Qy f k v k=v:=if_pos rfl
theorem Qp {α:Type} {f:Int->α} {k i:Int} {v:α} (h:i≠k):Qy f k v i=f i:=if_neg h
theorem Q84 {a:Int} (h:0<=eIx M a):(eIx M a).toNat <M.length/\(mkI M ((eIx M a).toNat:Nat)).task=a/\(mkI M ((eIx M a).toNat:Nat)).kind=2:=by
 have s:=Q2k h;have e:(((eIx M a).toNat:Nat):Int)=eIx M a:=by omega
 rw[e];exact⟨by have:eIx M a <M.length:=s.1;omega,s.2.1,s.2.2⟩
theorem Q7O {a:Int} {l l':Nat} (h:Lst M N a l) (h':Lst M N a l'):l=l':=by
 rcases Nat.lt_trichotomy l l' with e|e|e
 · exact absurd h'.2.1 (h.2.2 l' e h'.1)
 · exact e
 exact absurd h.2.1 (h'.2.2 l e h.1)
theorem RunI.stay (ok:RunOk T M) (hk:N <M.length) {a:Int} {r:ORn} (h:RunI T M N c n nc mk a r) (ha:a≠(mkI M N).task) (e: ∀j,j <N->c' j=c j/\n' j=n j) (eN:n' N=mk (c' N)+1) (hb:bIx M a <N) (jF:0<=bIx M a)
 (hs:r.over=false->r.ch≠c' N):RunI T M (N+1) c' n' nc (Qy mk (c' N) (mk (c' N)+1)) a r:=by
 obtain⟨l,h1,h2,h3⟩:=h.l
 have ao:0<=eIx M a->eIx M a≠N:=fun h0 e=>by
  obtain⟨_,q2,_⟩:=Q84 h0;rw[e,v0i]at q2;exact ha q2.symm
 refine⟨h.t,?_,?_,?_,fun i=>?_,h.ch,l,⟨by have:=h1.1;omega,h1.2.1,fun j q1 q2=>?_⟩,?_,fun ho j hj hc=>?_⟩
 · rw[h.ov];constructor
   · intro x;omega
   intro x;have:=ao x.1;omega
 · rw[h.fc,(e _ (by omega)).1]
 · rw[h.fn,(e _ (by omega)).2]
 · have:=h.bd i;unfold Qy
   split
   · rename_i e;subst e;omega
   exact this
 · by_cases e:j=N
   · rw[e];exact fun x=>ha x.symm
   exact h1.2.2 j q1 (by omega)
 · have:=h.bd (c' N);exact Q3z ok h1.1 hk (h2.ext e) (by rw[eN];omega)
 by_cases q:j=N
 · rw[q]at hc;exact absurd hc.symm (hs ho)
 rw[(e j (by omega)).1]at hc;exact h3 ho j (by omega) hc
end
section
variable {T:List MTask} {M:List MMark} {c n c' n':Nat->Int} {N:Nat} {nc:Int} {mk:Int->Int} {op:Int->Bool} {K:Int->Option (Int->Int)} {R:Int->Option ORn} {O:List Int}
theorem QeW {l:Nat} (h:Lst M N (mkI M N).task l):Prv M l N:=⟨h.1,h.2.1,h.2.2⟩
theorem running (ok:RunOk T M) (hk:N <M.length) (h1:(mkI M N).kind≠1):0<=bIx M (mkI M N).task/\bIx M (mkI M N).task <N/\ ¬(0<=eIx M (mkI M N).task/\eIx M (mkI M N).task <N)/\((mkI M N).kind=2↔eIx M (mkI M N).task=N):=by
 have hl:=ok.lk N hk;rw[<-ZD hk]at hl
 have h0:0<=Zg (M.take N) (mkI M N).task 1:=by
  rcases Int.lt_or_le (Zg (M.take N) (mkI M N).task 1) 0 with e|e
  · exact absurd (hl.b.2 e) h1
  exact e
 have e:=KW h0;have ai:=Yp (L:=M.take N) (id:=(mkI M N).task) (k:=1);rw[v0E]at ai;have e2:bIx M (mkI M N).task=Zg M (mkI M N).task 1:=rfl;have e3:eIx M (mkI M N).task=Zg M (mkI M N).task 2:=rfl;refine⟨by omega,by omega,fun⟨x,y⟩=>?_,fun h2=>?_,fun h=>?_⟩
 · have he:Zg (M.take N) (mkI M N).task 2 <0:=hl.e;obtain⟨q1,q2,q3⟩:=Q84 x
   have hr:(M.take N)[(eIx M (mkI M N).task).toNat]?=some (mkI M ((eIx M (mkI M N).task).toNat:Nat)):=by
    rw[v1q,if_pos (by omega),ZD q1,v0c q1]
   have:=Q43 (k:=2) hr q3;rw[q2]at this;omega
 · have he:Zg (M.take N) (mkI M N).task 2 <0:=hl.e;rw[ZD hk]at h2 he ⊢;exact Q3h (T:=T) hk h2 he
 obtain⟨_,_,q3⟩:=Q84 (M:=M) (a:=(mkI M N).task) (by omega);rw[h,v0i]at q3;exact q3
theorem RunI.step (ok:RunOk T M) (hk:N <M.length) (h1:(mkI M N).kind≠1) {r:ORn} (h:RunI T M N c n nc mk (mkI M N).task r) {A1:Int->Int}
 (e: ∀j,j <N->c' j=c j/\n' j=n j) (eC:c' N=r.ch) (eN:n' N=mk r.ch+1) (st: ∀j,j <N->n j<=mk (c j))
 (hA:((mkI M N).kind≠6/\A1=r.A)\/((mkI M N).kind=6/\ ∃B,Rep c n N B (HBe T M (eIx M (mkI M N).other).toNat)/\(∀i,0<=B i/\B i<=mk i)/\A1=fun k=>max (r.A k) (B k))):
 RunI T M (N+1) c' n' nc (Qy mk r.ch (mk r.ch+1)) (mkI M N).task {r with A:=Qy A1 r.ch (mk r.ch+1),over:=decide ((mkI M N).kind=2)}:=by
 obtain⟨l,g1,g2,g3⟩:=h.l;obtain⟨b0,b1,b2,b3⟩:=running ok hk h1
 have aW:r.over=false:=by
  cases e:r.over with
  |false=>rfl
  |true=>exact absurd (h.ov.1 e) b2
 have hp:=QeW g1
 have hc: ∀j,j <N->c' j=c' N->HBe T M l j/\n' j<=n' N:=fun j hj ej=>by
  rw[(e j hj).1,eC]at ej;refine⟨g3 aW j hj ej,?_⟩;have:=st j hj;rw[ej]at this;rw[(e j hj).2,eN];omega
 refine⟨h.t,?_,?_,?_,fun i=>?_,h.ch,N,⟨by omega,rfl,fun j q1 q2=>by omega⟩,?_,fun _ j hj j9=>?_⟩
 · show decide ((mkI M N).kind=2)=true↔_;rw[decide_eq_true_eq,b3];constructor
   · intro x;omega
   intro x;rcases Int.lt_or_le (eIx M (mkI M N).task) N with y|y
   · exact absurd ⟨x.1,y⟩ b2
   omega
 · show r.fc=_;rw[h.fc,(e _ (by omega)).1]
 · show r.fn=_;rw[h.fn,(e _ (by omega)).2]
 · show 0<=Qy A1 r.ch (mk r.ch+1) i/\Qy A1 r.ch (mk r.ch+1) i<=Qy mk r.ch (mk r.ch+1) i;have q:=h.bd i;have q2:=h.bd r.ch;unfold Qy
   split
   · omega
   rcases hA with⟨_,e⟩| ⟨_,B,_,hB,e⟩
   · rw[e];exact q
   have:=hB i;rw[e];show 0<=max (r.A i) (B i)/\max (r.A i) (B i)<=mk i;omega
 · show Rep c' n' (N+1) (Qy A1 r.ch (mk r.ch+1)) (HBe T M N);rcases hA with⟨h6,e6⟩| ⟨h6,B,hB,_,e6⟩
   · have:=QbU ok hk h1 h6 hp (g2.ext e) hc;rw[eC,eN]at this;rw[e6];exact this
   have:=QcG ok hk h6 hp (g2.ext e) (hB.ext e) hc;rw[eC,eN]at this;rw[e6];exact this
 by_cases q:j=N
 · exact .inl q
 have j9:c' j=r.ch:=j9;rw[(e j (by omega)).1]at j9;exact .inr (Q6J hk hp (g3 aW j (by omega) j9))
end
section
variable {T:List MTask} {M:List MMark} {c n c' n':Nat->Int} {N:Nat} {nc:Int} {mk:Int->Int} {op:Int->Bool} {K:Int->Option (Int->Int)} {R:Int->Option ORn} {O:List Int}
theorem CkInv.running (ok:RunOk T M) (I:CkInv T M N c n nc mk op K R O) (hk:N <M.length) (h1:(mkI M N).kind≠1): ∃r,R (mkI M N).task=some r/\r.over=false:=by
 obtain⟨b0,b1,b2,_⟩:=Go.Proofs.YtljpajcmdjmeaaaGreat.running ok hk h1;obtain⟨t1,t2⟩:=Ko ok hk;obtain⟨r,hr⟩:=(I.ro _).2 ((I.o _).2 ⟨t1,t2,b0,b1⟩);refine⟨r,hr,?_⟩;cases e:r.over with
 |false=>rfl
 |true=>exact absurd ((I.r _ r hr).ov.1 e) b2
theorem CkInv.step (ok:RunOk T M) (I:CkInv T M N c n nc mk op K R O) (hk:N <M.length) (h1:(mkI M N).kind≠1) {r:ORn} (hr:R (mkI M N).task=some r) (aW:r.over=false) {A1:Int->Int}
 (e: ∀j,j <N->c' j=c j/\n' j=n j) (eC:c' N=r.ch) (eN:n' N=mk r.ch+1)
 (hA:((mkI M N).kind≠6/\A1=r.A)\/((mkI M N).kind=6/\ ∃B,Rep c n N B (HBe T M (eIx M (mkI M N).other).toNat)/\(∀i,0<=B i/\B i<=mk i)/\A1=fun k=>max (r.A k) (B k))):
 CkInv T M (N+1) c' n' nc (Qy mk r.ch (mk r.ch+1)) (if(mkI M N).kind=2 then Qy op r.ch false else op)
  (if(mkI M N).kind=4\/(mkI M N).kind=5\/(mkI M N).kind=7 then Qy K N (some (Qy A1 r.ch (mk r.ch+1)))else K)
  (Qy R (mkI M N).task (some {r with A:=Qy A1 r.ch (mk r.ch+1),over:=decide ((mkI M N).kind=2)})) O:=by
 have S:=(I.r _ r hr).step ok hk h1 e eC eN (fun j hj=>(I.st j hj).2.2) hA;have hm:=(I.r _ r hr).bd r.ch
 have up: ∀i,mk i<=Qy mk r.ch (mk r.ch+1) i:=fun i=>by
  unfold Qy;split
  · rename_i e;rw[e];omega
  exact v03 _
 have nb: ∀a,0<=bIx M a->bIx M a≠N:=fun a h0 e=>by
  obtain⟨_,_,q3⟩:=Q1G h0;rw[e,v0i]at q3;exact h1 q3
 refine⟨by omega,fun j hj=>?_,fun m A iJ=>?_,fun m ft bc=>?_,fun a=>?_,fun a=>?_,fun a r' ha=>?_,fun a b ra rb ha hb oa ob eU=>?_,fun i i0 i1=>?_⟩
 · by_cases q:j=N
   · rw[q,eC,eN,Qm];exact⟨(I.r _ r hr).ch,by omega,by omega⟩
   have:=I.st j (by omega);rw[(e j (by omega)).1,(e j (by omega)).2];exact⟨this.1,this.2.1,v1Q this.2.2 (up _)⟩
 · have old:K m=some A->0<=m/\m <(N+1:Nat)/\Rep c' n' (N+1) A (HBe T M m.toNat)/\ ∀i,0<=A i/\A i<=Qy mk r.ch (mk r.ch+1) i:=fun h=>by
    obtain⟨k1,k2,k3,k4⟩:=I.k m A h;refine⟨k1,by omega,Q3z ok (by omega) hk (k3.ext e) ?_,fun i=>⟨(k4 i).1,v1Q (k4 i).2 (up i)⟩⟩;have:=k4 r.ch;rw[eC,eN];omega
   split at iJ
   · by_cases q:m=N
     · rw[q,Qm]at iJ;obtain rfl:=v0h.inj iJ;obtain⟨l,l1,l2,_⟩:=S.l;have el:l=N:=Q7O l1 ⟨by omega,rfl,fun j q1 q2=>by omega⟩;rw[el]at l2;rw[q];exact⟨by omega,by omega,l2,S.bd⟩
     rw[Qp q]at iJ;exact old iJ
   exact old iJ
 · by_cases q:m=N
   · rw[q]at bc ⊢;rw[if_pos bc,Qm];exact⟨_,rfl⟩
   obtain⟨A,iJ⟩:=I.kn m (by omega) bc;refine⟨A,?_⟩
   split
   · rw[Qp (by omega)];exact iJ
   exact iJ
 · rw[I.o a];constructor
   · rintro⟨x1,x2,x3,x4⟩;exact⟨x1,x2,x3,by omega⟩
   rintro⟨x1,x2,x3,x4⟩;have:=nb a x3;exact⟨x1,x2,x3,by omega⟩
 · by_cases q:a=(mkI M N).task
   · rw[q,Qm,<-I.ro];exact⟨fun _=>⟨r,hr⟩,fun _=>⟨_,rfl⟩⟩
   rw[Qp q,I.ro]
 · by_cases q:a=(mkI M N).task
   · rw[q,Qm]at ha;obtain rfl:=v0h.inj ha;rw[q];exact S
   rw[Qp q]at ha;obtain⟨_,_,x3,x4⟩:=(I.o a).1 ((I.ro a).1 ⟨r',ha⟩);have:=(I.r a r' ha).stay (c':=c') (n':=n') ok hk q e (by rw[eN,eC]) x4 x3 (fun ho ec=>q (I.sep a _ r' r ha hr ho aW (by rw[ec,eC])));rw[eC]at this;exact this
 · by_cases qa:a=(mkI M N).task
   · by_cases qb:b=(mkI M N).task
     · rw[qa,qb]
     rw[qa,Qm]at ha;rw[Qp qb]at hb;obtain rfl:=v0h.inj ha;rw[qa];exact I.sep _ b r rb hr hb aW ob eU
   rw[Qp qa]at ha;by_cases qb:b=(mkI M N).task
   · rw[qb,Qm]at hb;obtain rfl:=v0h.inj hb;rw[qb];exact I.sep a _ ra r ha hr oa aW eU
   rw[Qp qb]at hb;exact I.sep a b ra rb ha hb oa ob eU
 have oi:=I.opn i i0 i1;by_cases h2:(mkI M N).kind=2
 · rw [if_pos h2];by_cases q:i=r.ch
   · rw[q,Qm];refine⟨fun x=>absurd x (by decide),?_⟩;rintro⟨a,ra,ha,oa,ca⟩;by_cases qa:a=(mkI M N).task
     · rw[qa,Qm]at ha;obtain rfl:=v0h.inj ha;have:decide ((mkI M N).kind=2)=false:=oa;rw[h2]at this;exact absurd this (by decide)
     rw[Qp qa]at ha;exact absurd (I.sep a _ ra r ha hr oa aW ca) qa
   rw[Qp q,oi];constructor
   · rintro⟨a,ra,ha,oa,ca⟩
     have qa:a≠(mkI M N).task:=fun qa=>by
      rw[qa,hr]at ha;obtain rfl:=v0h.inj ha;exact q ca.symm
     exact⟨a,ra,by rw[Qp qa];exact ha,oa,ca⟩
   rintro⟨a,ra,ha,oa,ca⟩;by_cases qa:a=(mkI M N).task
   · rw[qa,Qm]at ha;obtain rfl:=v0h.inj ha;exact absurd ca.symm q
   rw[Qp qa]at ha;exact⟨a,ra,ha,oa,ca⟩
 rw[if_neg h2,oi];constructor
 · rintro⟨a,ra,ha,oa,ca⟩;by_cases qa:a=(mkI M N).task
   · rw[qa,hr]at ha;obtain rfl:=v0h.inj ha;exact⟨_,_,Qm,decide_eq_false h2,ca⟩
   exact⟨a,ra,by rw[Qp qa];exact ha,oa,ca⟩
 rintro⟨a,ra,ha,oa,ca⟩;by_cases qa:a=(mkI M N).task
 · rw[qa,Qm]at ha;obtain rfl:=v0h.inj ha;exact⟨_,r,hr,aW,ca⟩
 rw[Qp qa]at ha;exact⟨a,ra,ha,oa,ca⟩
end
section
variable {T:List MTask} {M:List MMark} {c n c' n':Nat->Int} {N:Nat} {nc nc':Int} {mk:Int->Int} {op:Int->Bool} {K:Int->Option (Int->Int)} {R:Int->Option ORn} {O:List Int}
theorem RunI.wide {a:Int} {r:ORn} (h:RunI T M N c n nc mk a r) (hn:nc<=nc'):RunI T M N c n nc' mk a r:=⟨h.t,h.ov,h.fc,h.fn,h.bd,⟨h.ch.1,by have:=h.ch.2;omega⟩,h.l⟩
theorem CkInv.beg (ok:RunOk T M) (I:CkInv T M N c n nc mk op K R O) (hk:N <M.length) (h1:(mkI M N).kind=1) {A:Int->Int} (hA:Rep c n N A fun j=>HB T M j N) (hb: ∀i,0<=A i/\A i<=mk i) {ch:Int}
 (cW:(0<=ch/\ch <nc/\op ch=false/\(mk ch <1\/mk ch<=A ch)/\nc'=nc)\/(ch=nc/\0<=nc/\nc'=nc+1))
 (e: ∀j,j <N->c' j=c j/\n' j=n j) (eC:c' N=ch) (eN:n' N=mk ch+1):
 CkInv T M (N+1) c' n' nc' (Qy mk ch (mk ch+1)) (Qy op ch true) K
  (Qy R (mkI M N).task (some ⟨tkT T (mkI M N).task,ch,Qy A ch (mk ch+1),ch,mk ch+1,false⟩)) (O++[(mkI M N).task]):=by
 obtain⟨t1,t2⟩:=Ko ok hk;have hbx:=Y6 ok hk h1;have hm:=hb ch;have ib:nc<=nc':=by omega
 have gO:0<=ch/\ch <nc':=by omega
 have up: ∀i,mk i<=Qy mk ch (mk ch+1) i:=fun i=>by
  unfold Qy;split
  · rename_i e;rw[e];omega
  exact v03 _
 have new:(mkI M N).task∉O:=fun h=>by
  have:=((I.o _).1 h).2.2.2;omega
 have nR: ∀a r,R a=some r->a≠(mkI M N).task:=fun a r h q=>new (by rw[<-q];exact(I.ro a).1 ⟨r,h⟩)
 have free: ∀a r,R a=some r->r.over=false->r.ch≠ch:=fun a r h ho q=>by
  have:=(I.r a r h).ch;rcases cW with⟨c0,c1,c2,_⟩| ⟨c0,_⟩
  · rw[(I.opn ch c0 c1).2 ⟨a,r,h,ho,q⟩]at c2;exact absurd c2 (by decide)
  omega
 have hc: ∀j,j <N->c' j=c' N->HB T M j N/\n' j<=n' N:=fun j hj ej=>by
  rw[(e j hj).1,eC]at ej;obtain⟨s1,s2,s3⟩:=I.st j hj;rw[ej]at s3 s1;rw[(e j hj).2,eN];refine⟨(hA j hj).1 ?_,by omega⟩;rw[ej];rcases cW with⟨_,_,_,c3,_⟩| ⟨c0,_⟩
  · omega
  omega
 have S:RunI T M (N+1) c' n' nc' (Qy mk ch (mk ch+1)) (mkI M N).task ⟨tkT T (mkI M N).task,ch,Qy A ch (mk ch+1),ch,mk ch+1,false⟩:=by
  refine⟨rfl,⟨fun x=>absurd (show false=true from x) (by decide),fun x=>?_⟩,?_,?_,fun i=>?_,gO,N,⟨by omega,rfl,fun j q1 q2=>by omega⟩,?_,fun _ j hj j9=>?_⟩
  · have:=(Q0o ok x.1).2;omega
  · show ch=c' (bIx M (mkI M N).task).toNat;rw[hbx,v0i,eC]
  · show mk ch+1=n' (bIx M (mkI M N).task).toNat;rw[hbx,v0i,eN]
  · show 0<=Qy A ch (mk ch+1) i/\Qy A ch (mk ch+1) i<=Qy mk ch (mk ch+1) i;have q:=hb i;unfold Qy
    split
    · omega
    exact q
  · have:=QfJ ok hk (hA.ext e) hc;rw[eC,eN]at this;exact this
  by_cases q:j=N
  · exact .inl q
  have j9:c' j=ch:=j9;exact .inr (hc j (by omega) (by rw[j9,eC])).1
 refine⟨by omega,fun j hj=>?_,fun m A iJ=>?_,fun m ft bc=>?_,fun a=>?_,fun a=>?_,fun a r' ha=>?_,fun a b ra rb ha hb oa ob eU=>?_,fun i i0 i1=>?_⟩
 · by_cases q:j=N
   · rw[q,eC,eN,Qm];exact⟨gO,by omega,by omega⟩
   have:=I.st j (by omega);rw[(e j (by omega)).1,(e j (by omega)).2];exact⟨⟨this.1.1,by omega⟩,this.2.1,v1Q this.2.2 (up _)⟩
 · obtain⟨k1,k2,k3,k4⟩:=I.k m A iJ;refine⟨k1,by omega,Q3z ok (by omega) hk (k3.ext e) ?_,fun i=>⟨(k4 i).1,v1Q (k4 i).2 (up i)⟩⟩;have:=k4 ch;rw[eC,eN];omega
 · by_cases q:m=N
   · rw[q]at bc;omega
   exact I.kn m (by omega) bc
 · rw[v0x,v0X,I.o a];constructor
   · rintro(⟨x1,x2,x3,x4⟩|x)
     · exact⟨x1,x2,x3,by omega⟩
     rw[x];exact⟨t1,t2,by omega,by omega⟩
   rintro⟨x1,x2,x3,x4⟩;by_cases q:bIx M a=N
   · right;obtain⟨_,q2,_⟩:=Q1G x3;rw[q,v0i]at q2;exact q2.symm
   left;exact⟨x1,x2,x3,by omega⟩
 · rw[v0x,v0X];by_cases q:a=(mkI M N).task
   · rw[q,Qm];exact⟨fun _=>.inr rfl,fun _=>⟨_,rfl⟩⟩
   rw[Qp q,I.ro];exact⟨fun x=>.inl x,fun x=>x.resolve_right q⟩
 · by_cases q:a=(mkI M N).task
   · rw[q,Qm]at ha;obtain rfl:=v0h.inj ha;rw[q];exact S
   rw[Qp q]at ha;obtain⟨_,_,x3,x4⟩:=(I.o a).1 ((I.ro a).1 ⟨r',ha⟩);have:=((I.r a r' ha).wide ib).stay (c':=c') (n':=n') ok hk q e (by rw[eN,eC]) x4 x3 (fun ho ec=>free a r' ha ho (by rw[ec,eC]));rw[eC]at this;exact this
 · by_cases qa:a=(mkI M N).task
   · by_cases qb:b=(mkI M N).task
     · rw[qa,qb]
     rw[qa,Qm]at ha;rw[Qp qb]at hb;obtain rfl:=v0h.inj ha;exact absurd eU.symm (free b rb hb ob)
   rw[Qp qa]at ha;by_cases qb:b=(mkI M N).task
   · rw[qb,Qm]at hb;obtain rfl:=v0h.inj hb;exact absurd eU (free a ra ha oa)
   rw[Qp qb]at hb;exact I.sep a b ra rb ha hb oa ob eU
 by_cases q:i=ch
 · rw[q,Qm];exact⟨fun _=>⟨_,_,Qm,rfl,rfl⟩,fun _=>rfl⟩
 have i2:i <nc:=by omega
 rw[Qp q,I.opn i i0 i2];constructor
 · rintro⟨a,ra,ha,oa,ca⟩;exact⟨a,ra,by rw[Qp (nR a ra ha)];exact ha,oa,ca⟩
 rintro⟨a,ra,ha,oa,ca⟩;by_cases qa:a=(mkI M N).task
 · rw[qa,Qm]at ha;obtain rfl:=v0h.inj ha;exact absurd ca.symm q
 rw[Qp qa]at ha;exact⟨a,ra,ha,oa,ca⟩
end
abbrev FB:=Nat->Nat->Bool
abbrev Q1n:=Int×Int×Int
def Qcy (x:Q1n):Value:=.agg #[iV x.1,iV x.2.1,iV x.2.2]
noncomputable def fs32:Array Field:=match modE.und 64 with|some (.struct fs)=>fs|_=> #[]
theorem und32:modE.und 64=some (.struct fs32):=by kernel_rfl
theorem QeY:fs32.toList.length=3:=by kernel_rfl
theorem row32:fs32.toList=[fs32.toList[0]'(by rw[QeY];omega),fs32.toList[1]'(by rw[QeY];omega),fs32.toList[2]'(by rw[QeY];omega)]:=by kernel_rfl
theorem eq32 (h:Hp) (a b:Q1n):ZH modE h #[iV a.1,iV a.2.1,iV a.2.2] #[iV b.1,iV b.2.1,iV b.2.2] fs32.toList=some (decide (a.1=b.1)&&(decide (a.2.1=b.2.1)&&(decide (a.2.2=b.2.2)&&true))):=by
 rw[row32];exact Y0 (u:=iV a.1) (w:=iV b.1) (by kernel_rfl) (by kernel_rfl) (by kernel_rfl) (by kernel_rfl) (Y0 (u:=iV a.2.1) (w:=iV b.2.1) (by kernel_rfl) (by kernel_rfl) (by kernel_rfl) (by kernel_rfl) (Y0 (u:=iV a.2.2) (w:=iV b.2.2) (by kernel_rfl) (by kernel_rfl) (by kernel_rfl) (by kernel_rfl) rfl))
def Y7 (x:MMark):Q1n:=(x.acc.kind,x.acc.a,x.acc.b)
def hitB (M:List MMark) (k i:Nat):Bool:= !decide ((mkI M k).task=(mkI M i).task)&&((mkI M i).acc.write||(mkI M k).acc.write)
def atB (M:List MMark) (q:Q1n) (i:Nat):Bool:=decide ((mkI M i).kind=3)&&decide (Y7 (mkI M i)=q)
def Q2B (M:List MMark) (k i:Nat):Bool:=(decide ((mkI M i).kind=3)&&atB M (Y7 (mkI M i)) k)&&hitB M k i
def Q6n (M:List MMark) (n:Nat) (q:Q1n):List Nat:=(v0w n).filter fun i=>atB M q i
theorem Q50 {M:List MMark} {n:Nat} {q:Q1n}:Q6n M (n+1) q=if atB M q n=true then Q6n M n q++[n]else Q6n M n q:=by
 unfold Q6n;rw[List.range_succ,List.filter_append,List.filter_cons]
 split
 · rfl
 simp
theorem Qd3 {M:List MMark} {n:Nat} (h:(mkI M n).kind=3):(v0w n).filter (fun k=>Q2B M k n)=(Q6n M n (Y7 (mkI M n))).filter fun k=>hitB M k n:=by
 unfold Q6n;rw[List.filter_filter];refine List.filter_congr fun k _=>?_;unfold Q2B;rw[decide_eq_true h,Bool.true_and,Bool.and_comm]
theorem Qbc {M:List MMark} {n:Nat} (h:(mkI M n).kind≠3):(v0w n).filter (fun k=>Q2B M k n)=[]:=by
 rw[List.filter_eq_nil_iff];intro k _;unfold Q2B;rw[decide_eq_false h];simp
theorem Q51 {M:List MMark} {n:Nat} {q:Q1n} (h:(mkI M n).kind≠3\/Y7 (mkI M n)≠q):Q6n M (n+1) q=Q6n M n q:=by
 rw[Q50,if_neg];unfold atB;rcases h with h|h
 · rw[decide_eq_false h];simp
 rw[decide_eq_false h];simp
theorem Qep {M:List MMark} {n:Nat} (h:(mkI M n).kind=3):Q6n M (n+1) (Y7 (mkI M n))=Q6n M n (Y7 (mkI M n))++[n]:=by
 rw[Q50,if_pos];unfold atB;rw[decide_eq_true h,decide_eq_true rfl];rfl
theorem Qcb {M:List MMark} {n:Nat} {q:Q1n}:(Q6n M n q).length<=n:=by
 have:=v1F (fun i=>atB M q i) (v0w n);rw[List.length_range]at this;exact this
structure CkS where
 ch:List (Int×Bool)
 S:List (Int×Int)
 K:Int->Option (Nat×(Int->Int))
 O:List Int
 R:Int->Option ORn
 L:Q1n->List (Int×Int×Bool)
 last:Int
def cF (S:List (Int×Int)) (j:Nat):Int:=((S[j]?).getD (0,0)).1
def nF (S:List (Int×Int)) (j:Nat):Int:=((S[j]?).getD (0,0)).2
def mkF (c:List (Int×Bool)) (i:Int):Int:=if 0<=i then((c[i.toNat]?).getD (0,false)).1 else 0
def opF (c:List (Int×Bool)) (i:Int):Bool:=if 0<=i then((c[i.toNat]?).getD (0,false)).2 else false
def Qcz (M:List MMark) (N:Nat) (q:Q1n):List (Int×Int×Bool):=(Q6n M N q).map fun i:Nat=>((i:Int),(mkI M i).task,(mkI M i).acc.write)
def kF (K:Int->Option (Nat×(Int->Int))) (m:Int):Option (Int->Int):=(K m).map (·.2)
structure CkI (T:List MTask) (M:List MMark) (N:Nat) (s:CkS):Prop where
 k:CkInv T M N (cF s.S) (nF s.S) s.ch.length (mkF s.ch) (opF s.ch) (kF s.K) s.R s.O
 n:s.S.length=N
 od:s.O.Nodup
 co:s.ch.length<=s.O.length
 ol:s.O.length<=N
 cv: ∀i:Int,0<=i->i <s.ch.length-> ∃j,j <N/\cF s.S j=i/\nF s.S j=mkF s.ch i
 mkb: ∀i,0<=mkF s.ch i/\mkF s.ch i<=N
 l: ∀q,s.L q=Qcz M N q
 la:0 <N->s.last=(mkI M ((N -1:Nat):Int)).task
theorem QfI {S:List (Int×Int)} {p:Int×Int} {j:Nat} (h:j <S.length):cF (S++[p]) j=cF S j/\nF (S++[p]) j=nF S j:=by
 unfold cF nF;rw[List.getElem?_append_left h];exact⟨rfl,rfl⟩
theorem Qbk {S:List (Int×Int)} {p:Int×Int}:cF (S++[p]) S.length=p.1/\nF (S++[p]) S.length=p.2:=by
 unfold cF nF;rw[List.getElem?_concat_length];exact⟨rfl,rfl⟩
theorem Q0S {c:List (Int×Bool)} {i:Int} {b:Bool} {m:Int} (h0:0<=i) (h1:i <c.length):mkF (c.set i.toNat (m,b))=Qy (mkF c) i m/\opF (c.set i.toNat (m,b))=Qy (opF c) i b:=by
 have key: ∀j:Int,0<=j->(c.set i.toNat (m,b))[j.toNat]?=if j=i then some (m,b)else c[j.toNat]?:=fun j hj=>by
  rw[List.getElem?_set];by_cases e:j=i
  · subst e;rw[if_pos rfl,if_pos (by omega),if_pos rfl]
  rw[if_neg (by omega),if_neg e]
 constructor
 · funext j
   unfold mkF Qy;by_cases hj:0<=j
   · rw[if_pos hj,key j hj];by_cases e:j=i
     · rw[if_pos e,if_pos e];rfl
     rw[if_neg e,if_neg e];exact(if_pos hj).symm
   rw[if_neg hj,if_neg (by omega)];exact(if_neg hj).symm
 funext j
 unfold opF Qy;by_cases hj:0<=j
 · rw[if_pos hj,key j hj];by_cases e:j=i
   · rw[if_pos e,if_pos e];rfl
   rw[if_neg e,if_neg e];exact(if_pos hj).symm
 rw[if_neg hj,if_neg (by omega)];exact(if_neg hj).symm
theorem Qa0 {c:List (Int×Bool)} {b:Bool}:mkF (c++[(0,b)])=mkF c/\opF (c++[(0,b)])=Qy (opF c) c.length b:=by
 constructor
 · funext j
   unfold mkF;by_cases hj:0<=j
   · rw[if_pos hj,if_pos hj,List.getElem?_append];by_cases h:j.toNat <c.length
     · rw[if_pos h]
     rw[if_neg h,v02 (l:=c) (by omega)];by_cases h2:j.toNat -c.length=0
     · rw[h2];rfl
     rw[v02 (by simp;omega)]
   rw[if_neg hj,if_neg hj]
 funext j
 by_cases hj:0<=j
 · by_cases h:j=c.length
   · rw[h,Qm];unfold opF;rw[if_pos (by omega),v0i,List.getElem?_concat_length];rfl
   rw[Qp h];unfold opF;rw[if_pos hj,if_pos hj,List.getElem?_append];by_cases h3:j.toNat <c.length
   · rw[if_pos h3]
   rw[if_neg h3,v02 (by simp;omega),v02 (l:=c) (by omega)]
 rw[Qp (by omega)];unfold opF;rw[if_neg hj,if_neg hj]
theorem QeJ {c:List (Int×Bool)} {i:Int} (h:i <0\/(c.length:Int)<=i):mkF c i=0:=by
 unfold mkF
 split
 · rw[v02 (by omega)];rfl
 rfl
theorem QdD {c:List (Int×Bool)} {i:Nat} (h:i <c.length):c[i]?=some (mkF c i,opF c i):=by
 unfold mkF opF;rw[if_pos (by omega),if_pos (by omega),v0i,v0c h];rfl
theorem cF_in {S:List (Int×Int)} {j:Nat} (h:j <S.length):S[j]?=some (cF S j,nF S j):=by
 unfold cF nF;rw[v0c h];rfl
def ck0:CkS:=⟨[],[],fun _=>none,[],fun _=>none,fun _=>[],0⟩
theorem ck0_ok {T:List MTask} {M:List MMark}:CkI T M 0 ck0 where
 k :=by
   refine⟨by omega,fun j hj=>by omega,fun m A h=>?_,fun m hm=>by omega,fun a=>⟨fun h=>(v1n h).elim,fun h=>by omega⟩,fun a=>⟨fun⟨r,h⟩=>?_,fun h=>(v1n h).elim⟩,fun a r h=>?_,fun a b r r' h=>?_,fun i h0 h1=>?_⟩
   · exact absurd h (by simp[kF,ck0])
   · exact absurd h (by simp[ck0])
   · exact absurd h (by simp[ck0])
   · exact absurd h (by simp[ck0])
   exact absurd h1 (by simp[ck0];omega)
 n:=rfl
 od:=List.nodup_nil
 co:=v0b _
 ol:=v0b _
 cv:=fun i h0 h1=>absurd h1 (by simp[ck0];omega)
 mkb:=fun i=>by
  have:mkF ck0.ch i=0:=QeJ (by simp[ck0];omega);omega
 l:=fun q=>rfl
 la:=fun h=>by omega
section
variable {T:List MTask} {M:List MMark} {N:Nat} {s:CkS}
theorem CkI.before (ok:RunOk T M) (I:CkI T M (N+1) s): ∃r,s.R s.last=some r/\Rep (cF s.S) (nF s.S) (N+1) r.A (HBe T M N):=by
 have hN:=I.k.hN;have hl:=I.la (by omega);rw[v2h]at hl;obtain⟨t1,t2⟩:=Ko ok (k:=N) (by omega)
 have hO:(mkI M (N:Int)).task∈s.O:=by
  rw[I.k.o];refine⟨t1,t2,?_⟩;by_cases h1:(mkI M (N:Int)).kind=1
  · rw[Y6 ok (by omega) h1];omega
  have:=running ok (N:=N) (by omega) h1;omega
 obtain⟨r,hr⟩:=(I.k.ro _).2 hO;refine⟨r,by rw[hl];exact hr,?_⟩;obtain⟨l,l1,l2,_⟩:=(I.k.r _ r hr).l;have:l=N:=Q7O l1 ⟨by omega,rfl,fun j a b=>by omega⟩;rw[this]at l2;exact l2
end
def YJ (c:List (Int×Bool)) (i:Nat):List (Int×Bool):=if i <c.length then c.set i (mkF c i,true)else c++[(0,true)]
def Q2O (c:List (Int×Bool)) (A:Int->Int) (i:Nat):Bool:= !opF c i&&(decide (mkF c i <1)||decide (mkF c i<=A i))
def ZC (c:List (Int×Bool)) (A:Int->Int):Nat:=((v0w c.length).find? (Q2O c A)).getD c.length
def Q2S (s:CkS) (id:Int) (t:MTask) (A:Int->Int):CkS:= {s with ch:=YJ s.ch (ZC s.ch A),O:=s.O++[id],R:=Qy s.R id (some ⟨t,(ZC s.ch A:Nat),A,0,0,false⟩)}
def Z3 (s:CkS) (x:MMark) (r:ORn) (A1:Int->Int) (kb:Nat):CkS where
 ch:=s.ch.set r.ch.toNat (mkF s.ch r.ch+1,if x.kind=2 then false else opF s.ch r.ch)
 S:=s.S++[(r.ch,mkF s.ch r.ch+1)]
 K:=if x.kind=4\/x.kind=5\/x.kind=7 then Qy s.K s.S.length (some (kb,Qy A1 r.ch (mkF s.ch r.ch+1)))else s.K
 O:=s.O
 R:=Qy s.R x.task (some {r with A:=Qy A1 r.ch (mkF s.ch r.ch+1),fc:=if x.kind=1 then r.ch else r.fc,fn:=if x.kind=1 then mkF s.ch r.ch+1 else r.fn,over:=decide (x.kind=2)})
 L:=if x.kind=3 then upK s.L (Y7 x) (s.L (Y7 x)++[((s.S.length:Int),x.task,x.acc.write)])else s.L
 last:=x.task
section
variable {T:List MTask} {M:List MMark} {N:Nat} {s:CkS}
theorem Q9K {c:List (Int×Bool)} {i:Nat} (h:i<=c.length):mkF (YJ c i)=mkF c/\opF (YJ c i)=Qy (opF c) i true/\i <(YJ c i).length/\(YJ c i).length=if i <c.length then c.length else c.length+1:=by
 unfold YJ
 split
 · rename_i h;have e:=Q0S (c:=c) (i:=i) (b:=true) (m:=mkF c i) (by omega) (by omega);rw[v0i]at e;refine⟨?_,e.2,by rw[v0q];exact h,by rw[v0q]⟩;rw[e.1];funext j;unfold Qy;split
   · rename_i q;rw[q]
   rfl
 obtain rfl:i=c.length:=by omega
 exact⟨Qa0.1,Qa0.2,by simp,by simp⟩
theorem Q4t {c:List (Int×Bool)} {A:Int->Int}:ZC c A<=c.length:=by
 unfold ZC;cases h:(v0w c.length).find? (Q2O c A)with
 |none=>exact v0b _
 |some i=>exact Nat.le_of_lt (v1r.1 (List.mem_of_find?_eq_some h))
theorem Qbp {c:List (Int×Bool)} {A:Int->Int} (h:ZC c A <c.length):Q2O c A (ZC c A)=true:=by
 unfold ZC at h ⊢;cases e:(v0w c.length).find? (Q2O c A)with
 |none=>rw[e]at h;simp at h
 |some i=>exact List.find?_some e
theorem Q5x {α:Type} {f:Int->α} {k:Int} {v w:α}:Qy (Qy f k v) k w=Qy f k w:=by
 funext i;unfold Qy;split<;>rfl
theorem Q6M {α:Type} {f:Int->α} {k:Int}:Qy f k (f k)=f:=by
 funext i;unfold Qy;split
 · rename_i e;rw[e]
 rfl
theorem Qf2 {K:Int->Option (Nat×(Int->Int))} {m:Int} {b:Nat} {A:Int->Int}:kF (Qy K m (some (b,A)))=Qy (kF K) m (some A):=by
 funext i;unfold kF Qy;split<;>rfl
theorem Q4I (I:CkI T M N s) {s1:CkS} {x:MMark} {r:ORn} {A1:Int->Int} {kb:Nat} (hx:x=mkI M (N:Int)) (eS:s1.S=s.S) (eL:s1.L=s.L) (od:s1.O.Nodup) (co:s1.ch.length<=s1.O.length) (ol:s1.O.length<=N+1)
 (c0:0<=r.ch) (c1:r.ch <s1.ch.length) (em:mkF s1.ch=mkF s.ch) (hl:s.ch.length<=s1.ch.length) (hn:s1.ch.length<=s.ch.length\/(r.ch=s.ch.length/\s1.ch.length<=s.ch.length+1))
 (hk:CkInv T M (N+1) (cF (Z3 s1 x r A1 kb).S) (nF (Z3 s1 x r A1 kb).S) (Z3 s1 x r A1 kb).ch.length (mkF (Z3 s1 x r A1 kb).ch) (opF (Z3 s1 x r A1 kb).ch) (kF (Z3 s1 x r A1 kb).K) (Z3 s1 x r A1 kb).R (Z3 s1 x r A1 kb).O):
 CkI T M (N+1) (Z3 s1 x r A1 kb):=by
 have nS:=I.n
 have eNs:cF (Z3 s1 x r A1 kb).S N=r.ch/\nF (Z3 s1 x r A1 kb).S N=mkF s.ch r.ch+1:=by
  have:=Qbk (S:=s1.S) (p:=(r.ch,mkF s1.ch r.ch+1));rw[eS,nS,em]at this;exact⟨by show cF (s1.S++_) N=_;rw[eS,em];exact this.1,by show nF (s1.S++_) N=_;rw[eS,em];exact this.2⟩
 have eJ: ∀j,j <N->cF (Z3 s1 x r A1 kb).S j=cF s.S j/\nF (Z3 s1 x r A1 kb).S j=nF s.S j:=fun j hj=>by
  show cF (s1.S++_) j=_/\nF (s1.S++_) j=_;rw[eS];exact QfI (by omega)
 have eM:mkF (Z3 s1 x r A1 kb).ch=Qy (mkF s.ch) r.ch (mkF s.ch r.ch+1):=by
  have:=(Q0S (c:=s1.ch) (b:=if x.kind=2 then false else opF s1.ch r.ch) (m:=mkF s1.ch r.ch+1) c0 c1).1;rw[em]at this;show mkF (s1.ch.set _ _)=_;rw[em];exact this
 have hlen:(Z3 s1 x r A1 kb).ch.length=s1.ch.length:=v0q;refine⟨hk,?_,od,by rw[hlen];exact co,ol,fun i i0 i1=>?_,fun i=>?_,fun q=>?_,fun _=>?_⟩
 · show(s1.S++[_]).length=_;rw[eS,v0j,nS];rfl
 · rw[hlen]at i1;rw[eM];by_cases e:i=r.ch
   · exact⟨N,by omega,by rw[eNs.1,e],by rw[eNs.2,e,Qm]⟩
   obtain⟨j,j1,j2,j3⟩:=I.cv i i0 (by omega);exact⟨j,by omega,by rw[(eJ j j1).1,j2],by rw[(eJ j j1).2,j3,Qp e]⟩
 · rw[eM];have:=I.mkb i;have h2:=I.mkb r.ch;unfold Qy
   split<;>omega
 · have hp:=hk.hN;show(if x.kind=3 then upK s1.L (Y7 x) (s1.L (Y7 x)++[((s1.S.length:Int),x.task,x.acc.write)])else s1.L) q=_;rw[eL,eS,nS];by_cases h3:x.kind=3
   · rw[if_pos h3];by_cases hq:q=Y7 x
     · rw[hq,Zz,I.l,hx];unfold Qcz;rw[Qep (by rw[<-hx];exact h3),List.map_append];rfl
     rw[Z1 hq,I.l];unfold Qcz;rw[Q51 (.inr (by rw[<-hx];exact fun e=>hq e.symm))]
   rw[if_neg h3,I.l];unfold Qcz;rw[Q51 (.inl (by rw[<-hx];exact h3))]
 show x.task=_;rw[hx,v2h]
theorem CkI.take (ok:RunOk T M) (I:CkI T M N s) (hk:N <M.length) {x:MMark} (hx:x=mkI M (N:Int)) (h1:x.kind≠1) {r:ORn} (hr:s.R x.task=some r) (aW:r.over=false) {A1:Int->Int} {kb:Nat}
 (hA:(x.kind≠6/\A1=r.A)\/(x.kind=6/\ ∃B,Rep (cF s.S) (nF s.S) N B (HBe T M (eIx M x.other).toNat)/\(∀i,0<=B i/\B i<=mkF s.ch i)/\A1=fun k=>max (r.A k) (B k))):CkI T M (N+1) (Z3 s x r A1 kb):=by
 have hn:=I.n;have cW:=(I.k.r _ r hr).ch;have dj:opF s.ch r.ch=true:=(I.k.opn r.ch cW.1 cW.2).2 ⟨_,r,hr,aW,rfl⟩;refine Q4I I hx rfl rfl I.od I.co (by have:=I.ol;omega) cW.1 cW.2 rfl (v0b _) (.inl (v0b _)) ?_;have hj: ∀j,j <N->cF (s.S++[(r.ch,mkF s.ch r.ch+1)]) j=cF s.S j/\nF (s.S++[(r.ch,mkF s.ch r.ch+1)]) j=nF s.S j:=fun j hj=>QfI (by omega);have he:=Qbk (S:=s.S) (p:=(r.ch,mkF s.ch r.ch+1));rw[hn]at he;subst hx;have S:=I.k.step ok hk h1 hr aW hj he.1 he.2 hA;have m:=Q0S (c:=s.ch) (b:=if(mkI M (N:Int)).kind=2 then false else opF s.ch r.ch) (m:=mkF s.ch r.ch+1) cW.1 cW.2
 have e1:mkF (Z3 s (mkI M (N:Int)) r A1 kb).ch=Qy (mkF s.ch) r.ch (mkF s.ch r.ch+1):=m.1
 have e2:opF (Z3 s (mkI M (N:Int)) r A1 kb).ch=if(mkI M (N:Int)).kind=2 then Qy (opF s.ch) r.ch false else opF s.ch:=by
  refine m.2.trans ?_
  split
  · rfl
  exact Q6M
 have e3:kF (Z3 s (mkI M (N:Int)) r A1 kb).K=if(mkI M (N:Int)).kind=4\/(mkI M (N:Int)).kind=5\/(mkI M (N:Int)).kind=7 then Qy (kF s.K) N (some (Qy A1 r.ch (mkF s.ch r.ch+1)))else kF s.K:=by
  show kF (if _ then _ else _)=_
  split
  · rw[hn,Qf2]
  rfl
 have e4:(Z3 s (mkI M (N:Int)) r A1 kb).R=Qy s.R (mkI M (N:Int)).task (some {r with A:=Qy A1 r.ch (mkF s.ch r.ch+1),over:=decide ((mkI M (N:Int)).kind=2)}):=by
  show Qy _ _ _=_;rw[if_neg h1,if_neg h1]
 have e5:((Z3 s (mkI M (N:Int)) r A1 kb).ch.length:Int)=s.ch.length:=by
  show((s.ch.set _ _).length:Int)=_;rw[v0q]
 rw[e1,e2,e3,e4,e5];exact S
theorem CkI.begin (ok:RunOk T M) (I:CkI T M N s) (hk:N <M.length) {x:MMark} (hx:x=mkI M (N:Int)) (h1:x.kind=1) {A:Int->Int} {kb:Nat} (hA:Rep (cF s.S) (nF s.S) N A fun j=>HB T M j N) (hb: ∀i,0<=A i/\A i<=mkF s.ch i):
 CkI T M (N+1) (Z3 (Q2S s x.task (tkT T x.task) A) x ⟨tkT T x.task,(ZC s.ch A:Nat),A,0,0,false⟩ A kb):=by
 have hn:=I.n;obtain⟨o1,o2,o3,o4⟩:=Q9K (Q4t (c:=s.ch) (A:=A));have hle:=Q4t (c:=s.ch) (A:=A);have ew:=I.co;have mV:=I.ol
 have new:x.task∉s.O:=fun h=>by
  have:=((I.k.o _).1 h).2.2.2;rw[hx,Y6 ok hk (by rw[<-hx];exact h1)]at this;omega
 have hlen:(Q2S s x.task (tkT T x.task) A).ch.length=(YJ s.ch (ZC s.ch A)).length:=rfl;refine Q4I I hx rfl rfl ?_ ?_ ?_ (by show(0:Int)<=((ZC s.ch A:Nat):Int);omega) (by show((ZC s.ch A:Nat):Int)<_;rw[hlen];omega) o1 ?_ ?_ ?_
 · show(s.O++[x.task]).Nodup;rw[List.nodup_append];exact⟨I.od,by simp,fun a ha b hb e=>by simp at hb;rw[e,hb]at ha;exact new ha⟩
 · rw[hlen,o4];show _<=(s.O++[x.task]).length;rw[v0j];simp only[List.length_cons,List.length_nil];split<;>omega
 · show(s.O++[x.task]).length<=_;rw[v0j];simp;omega
 · rw[hlen,o4];split<;>omega
 · rw[hlen,o4];by_cases h:ZC s.ch A <s.ch.length
   · rw[if_pos h];exact .inl (v0b _)
   rw[if_neg h];right;exact⟨by show((ZC s.ch A:Nat):Int)=_;omega,v0b _⟩
 have hj: ∀j,j <N->cF (s.S++[(((ZC s.ch A:Nat):Int),mkF s.ch (ZC s.ch A:Nat)+1)]) j=cF s.S j/\nF (s.S++[(((ZC s.ch A:Nat):Int),mkF s.ch (ZC s.ch A:Nat)+1)]) j=nF s.S j:=fun j hj=>QfI (by omega);have he:=Qbk (S:=s.S) (p:=(((ZC s.ch A:Nat):Int),mkF s.ch (ZC s.ch A:Nat)+1));rw[hn]at he;subst hx
 have S:=I.k.beg (nc':=(YJ s.ch (ZC s.ch A)).length) ok hk h1 hA hb (ch:=(ZC s.ch A:Nat)) (by
  by_cases h:ZC s.ch A <s.ch.length
  · left;have f:=Qbp h;unfold Q2O at f;rw[o4,if_pos h];refine⟨by omega,by omega,?_,?_,rfl⟩
    · cases e:opF s.ch (ZC s.ch A:Nat)with
      |false=>rfl
      |true=>rw[e]at f;exact absurd f (by simp)
    have:=(v0g _ _▸f).2;rcases orT this with q|q
    · exact .inl (of_decide_eq_true q)
    exact .inr (of_decide_eq_true q)
  right
  rw[o4,if_neg h];omega) hj he.1 he.2
 have m:=Q0S (c:=YJ s.ch (ZC s.ch A)) (i:=(ZC s.ch A:Nat)) (b:=opF (YJ s.ch (ZC s.ch A)) (ZC s.ch A:Nat)) (m:=mkF (YJ s.ch (ZC s.ch A)) (ZC s.ch A:Nat)+1) (by omega) (by omega);have h2: ¬(mkI M (N:Int)).kind=2:=by omega
 have h4: ¬((mkI M (N:Int)).kind=4\/(mkI M (N:Int)).kind=5\/(mkI M (N:Int)).kind=7):=by omega
 obtain⟨r0,dG⟩: ∃r0:ORn,r0=⟨tkT T (mkI M (N:Int)).task,(ZC s.ch A:Nat),A,0,0,false⟩:=⟨_,rfl⟩
 have e1:mkF (Z3 (Q2S s (mkI M (N:Int)).task (tkT T (mkI M (N:Int)).task) A) (mkI M (N:Int)) r0 A kb).ch=Qy (mkF s.ch) (ZC s.ch A:Nat) (mkF s.ch (ZC s.ch A:Nat)+1):=by
  show mkF (List.set _ _ _)=_;rw[dG,if_neg h2];refine m.1.trans ?_;rw[o1]
 have e2:opF (Z3 (Q2S s (mkI M (N:Int)).task (tkT T (mkI M (N:Int)).task) A) (mkI M (N:Int)) r0 A kb).ch=Qy (opF s.ch) (ZC s.ch A:Nat) true:=by
  show opF (List.set _ _ _)=_;rw[dG,if_neg h2];refine m.2.trans ?_;rw[o2,Q5x,Qm]
 have e3:kF (Z3 (Q2S s (mkI M (N:Int)).task (tkT T (mkI M (N:Int)).task) A) (mkI M (N:Int)) r0 A kb).K=kF s.K:=by
  show kF (if _ then _ else _)=_;rw[if_neg h4];rfl
 have e4:(Z3 (Q2S s (mkI M (N:Int)).task (tkT T (mkI M (N:Int)).task) A) (mkI M (N:Int)) r0 A kb).R=Qy s.R (mkI M (N:Int)).task (some ⟨tkT T (mkI M (N:Int)).task,(ZC s.ch A:Nat),Qy A (ZC s.ch A:Nat) (mkF s.ch (ZC s.ch A:Nat)+1),(ZC s.ch A:Nat),mkF s.ch (ZC s.ch A:Nat)+1,false⟩):=by
  show Qy (Qy _ _ _) _ _=_;rw[Q5x,if_pos h1,if_pos h1,dG];show Qy s.R _ (some ⟨_,_,Qy A _ (mkF (YJ s.ch (ZC s.ch A)) _+1),_,mkF (YJ s.ch (ZC s.ch A)) _+1,_⟩)=_;rw[o1,decide_eq_false h2]
 have e5:((Z3 (Q2S s (mkI M (N:Int)).task (tkT T (mkI M (N:Int)).task) A) (mkI M (N:Int)) r0 A kb).ch.length:Int)=(YJ s.ch (ZC s.ch A)).length:=by
  show((List.set _ _ _).length:Int)=_;rw[v0q];rfl
 rw[<-dG]
 rw[e1,e2,e3,e4,e5,show(Z3 (Q2S s (mkI M (N:Int)).task (tkT T (mkI M (N:Int)).task) A) (mkI M (N:Int)) r0 A kb).S=s.S++[(((ZC s.ch A:Nat):Int),mkF s.ch (ZC s.ch A:Nat)+1)] by
  show s.S++[_]=_;rw[dG];show s.S++[(((ZC s.ch A:Nat):Int),mkF (YJ s.ch (ZC s.ch A)) _+1)]=_
  rw[o1]]
 exact S
end
def hasB (S:List (Int×Int)) (k:Option (Int->Int)) (m:Int):Bool:=match k with
 |none=>false
 |some A=>(decide (0<=m)&&decide (m <S.length))&&(decide (nF S m.toNat <1)||decide (nF S m.toNat<=A (cF S m.toNat)))
def QbF (S:List (Int×Int)) (K:Int->Option (Nat×(Int->Int))) (a b:MTask):Bool:=(((decide (a.kind=4)&&decide (b.kind=4))&& !b.front)&&(a.front||decide (a.delay<=b.delay)))&&hasB S (kF K b.mark) a.mark
def Q8e:Int->Int:=fun _=>0
def orA (A:Int->Int):Option (Int->Int)->Int->Int
 |none=>A
 |some B=>fun k=>max (A k) (B k)
def Qbq (s:CkS) (t:MTask):Int->Int:=orA (orA Q8e (if 0<=t.mark then kF s.K t.mark else none)) ((s.R t.prev).map ORn.A)
section
variable {T:List MTask} {M:List MMark} {N:Nat} {s:CkS}
theorem QcP {A:Int->Int} {X:Nat->Prop} {m:Int} (hn: ∀j,j <N->1<=nF s.S j) (hS:s.S.length=N) (h:Rep (cF s.S) (nF s.S) N A X):hasB s.S (some A) m=true↔0<=m/\m <N/\X m.toNat:=by
 simp only[hasB,v0g,v0K,decide_eq_true_eq,hS];constructor
 · rintro⟨⟨h1,h2⟩,h3⟩;have:=hn m.toNat (by omega);exact⟨h1,h2,(h m.toNat (by omega)).1 (by omega)⟩
 rintro⟨h1,h2,h3⟩;exact⟨⟨h1,h2⟩,.inr ((h m.toNat (by omega)).2 h3)⟩
theorem Q6P (ok:RunOk T M) (I:CkI T M N s) {a:Int} {r:ORn} (hr:s.R a=some r) (ho:r.over=true):Rep (cF s.S) (nF s.S) N r.A (HBe T M (eIx M a).toNat):=by
 have R:=I.k.r a r hr;obtain⟨e0,e1⟩:=R.ov.1 ho;obtain⟨l,l1,l2,_⟩:=R.l;obtain⟨q1,q2,q3⟩:=Q84 e0;have hN:=I.k.hN;have hl:=l1.1
 have:l=(eIx M a).toNat:=by
  rcases Nat.lt_trichotomy l (eIx M a).toNat with e|e|e
  · exact absurd q2 (l1.2.2 _ e (by omega))
  · exact e
  have lk:=(ok.lk l (by omega)).e;rw[<-ZD (by omega),l1.2.1]at lk
  have h1:(M.take l)[(eIx M a).toNat]?=some (mkI M ((eIx M a).toNat:Nat)):=by
   rw[v1q,if_pos e,ZD q1,v0c q1]
  have:=Q43 (k:=2) h1 q3;rw[q2]at this;have h2:Zg (M.take l) a 2 <0:=lk;omega
 rw[this]at l2;exact l2
theorem beg_a0 (ok:RunOk T M) (I:CkI T M N s) (hk:N <M.length) (h1:(mkI M (N:Int)).kind=1):
 Rep (cF s.S) (nF s.S) N (Qbq s (tkT T (mkI M (N:Int)).task)) fun j=>(0<=(tkT T (mkI M (N:Int)).task).mark/\HBe T M (tkT T (mkI M (N:Int)).task).mark.toNat j)\/(0 <(tkT T (mkI M (N:Int)).task).prev/\HBe T M (eIx M (tkT T (mkI M (N:Int)).task).prev).toNat j):=by
 obtain⟨t1,t2⟩:=Ko ok hk;have hb:=Y6 ok hk h1;have z:Rep (cF s.S) (nF s.S) N Q8e (fun _=>False):=Rep.zero fun j hj=>(I.k.st j hj).2.1
 have s1:Rep (cF s.S) (nF s.S) N (orA Q8e (if 0<=(tkT T (mkI M (N:Int)).task).mark then kF s.K (tkT T (mkI M (N:Int)).task).mark else none)) fun j=>0<=(tkT T (mkI M (N:Int)).task).mark/\HBe T M (tkT T (mkI M (N:Int)).task).mark.toNat j:=by
  by_cases h0:0<=(tkT T (mkI M (N:Int)).task).mark
  · rw[if_pos h0];have hm:=Q6E ok t1 t2 h0 (by omega);obtain⟨m1,m2,m3⟩:=Q1B (ok.tk.made _ t1 t2) h0
    have im:(mkI M ((((tkT T (mkI M (N:Int)).task).mark.toNat:Nat)):Int)).kind=4\/(mkI M ((((tkT T (mkI M (N:Int)).task).mark.toNat:Nat)):Int)).kind=5\/(mkI M ((((tkT T (mkI M (N:Int)).task).mark.toNat:Nat)):Int)).kind=7:=by
     rw[v1S h0];rcases m2 with h|h|h
     all_goals omega
    obtain⟨A,hA⟩:=I.k.kn _ (by omega) im;rw[v1S h0]at hA;rw[hA];refine(z.join (I.k.k _ _ hA).2.2.1).cong fun j _=>⟨fun h=>⟨h0,h.elim False.elim id⟩,fun h=>.inr h.2⟩
  rw[if_neg h0];exact z.cong fun j _=>⟨False.elim,fun h=>absurd h.1 h0⟩
 unfold Qbq;cases e:s.R (tkT T (mkI M (N:Int)).task).prev with
 | none=>
   refine s1.cong fun j _=>⟨fun h=>.inl h,fun h=>h.elim id fun h=>?_⟩;obtain⟨p1,p2⟩:=Q3N ok t1 t2 h.1 (by omega);have ho:=Q0o ok p1;have hfol:=ok.tk.fol _ t1 t2
   have hO:(tkT T (mkI M (N:Int)).task).prev∈s.O:=(I.k.o _).2 ⟨h.1,by
    rcases hfol with q|q
    · omega
    have:=q.1;omega,ho.1,by omega⟩
   obtain⟨r,hr⟩:=(I.k.ro _).2 hO;rw[e]at hr;exact absurd hr (by simp)
 | some r=>
   have hO:=(I.k.o _).1 ((I.k.ro _).1 ⟨r,e⟩);obtain⟨p1,p2⟩:=Q3N ok t1 t2 (by omega) (by omega);have aW:r.over=true:=(I.k.r _ r e).ov.2 ⟨p1,by omega⟩;refine(s1.join (Q6P ok I e aW)).cong fun j _=>⟨fun h=>h.elim .inl fun h=>.inr ⟨by omega,h⟩,fun h=>h.elim .inl fun h=>.inr h.2⟩
theorem beg_h (ok:RunOk T M) (I:CkI T M N s) (hk:N <M.length) (h1:(mkI M (N:Int)).kind=1):
 BegH T M (HBe T M) (cF s.S) (nF s.S) N (Qbq s (tkT T (mkI M (N:Int)).task)) s.R (fun a=>QbF s.S s.K (tkT T a) (tkT T (mkI M (N:Int)).task)=true) s.O:=by
 obtain⟨t1,t2⟩:=Ko ok hk;have hb:=Y6 ok hk h1;have hn:=I.n;refine⟨hk,h1,beg_a0 ok I hk h1,I.k.o,fun a ha=>?_,fun a ha e0 e1=>?_⟩
 · obtain⟨r,hr⟩:=(I.k.ro a).2 ha;have R:=I.k.r a r hr;exact⟨r,hr,R.t,R.ov,R.fc,R.fn,fun ho=>Q6P ok I hr ho⟩
 obtain⟨a1,a2,b0,b1⟩:=(I.k.o a).1 ha
 have key:hasB s.S (kF s.K (tkT T (mkI M (N:Int)).task).mark) (tkT T a).mark=true↔rel (fun i k=>HBe T M k i) (tkT T a).mark (tkT T (mkI M (N:Int)).task).mark:=by
  by_cases h0:0<=(tkT T (mkI M (N:Int)).task).mark
  · have hm:=Q6E ok t1 t2 h0 (by omega);obtain⟨m1,m2,m3⟩:=Q1B (ok.tk.made _ t1 t2) h0
    have im:(mkI M ((((tkT T (mkI M (N:Int)).task).mark.toNat:Nat)):Int)).kind=4\/(mkI M ((((tkT T (mkI M (N:Int)).task).mark.toNat:Nat)):Int)).kind=5\/(mkI M ((((tkT T (mkI M (N:Int)).task).mark.toNat:Nat)):Int)).kind=7:=by
     rw[v1S h0];rcases m2 with h|h|h
     all_goals omega
    obtain⟨A,hA⟩:=I.k.kn _ (by omega) im;rw[v1S h0]at hA;rw[hA,QcP (fun j hj=>(I.k.st j hj).2.1) hn (I.k.k _ _ hA).2.2.1];constructor
    · rintro⟨x1,x2,x3⟩;exact⟨x1,h0,x3⟩
    rintro⟨x1,_,x3⟩;exact⟨x1,by have:=Q6E ok a1 a2 x1 b0;omega,x3⟩
  have:kF s.K (tkT T (mkI M (N:Int)).task).mark=none:=by
   cases e:kF s.K (tkT T (mkI M (N:Int)).task).mark with
   |none=>rfl
   |some A=>exact absurd (I.k.k _ _ e).1 h0
  rw[this];exact⟨fun h=>absurd h (by simp[hasB]),fun h=>absurd h.2.1 h0⟩
 unfold QbF Q76;rw[<-key];simp only[v0g,v0K,decide_eq_true_eq,Bool.not_eq_true'];constructor
 · rintro⟨⟨⟨⟨x1,x2⟩,x3⟩,x4⟩,x5⟩;exact⟨x1,x2,x3,x4,x5⟩
 rintro⟨x1,x2,x3,x4,x5⟩;exact⟨⟨⟨⟨x1,x2⟩,x3⟩,x4⟩,x5⟩
theorem Qdv {mk:Int->Int} {A:Int->Int} {o:Option (Int->Int)} (h: ∀i,0<=A i/\A i<=mk i) (h2: ∀B,o=some B-> ∀i,0<=B i/\B i<=mk i): ∀i,0<=orA A o i/\orA A o i<=mk i:=fun i=>by
 cases o with
 |none=>exact h i
 | some B=>
   have:=h i;have:=h2 B rfl i;show 0<=max (A i) (B i)/\max (A i) (B i)<=mk i;omega
theorem QfP (I:CkI T M N s) (t:MTask): ∀i,0<=Qbq s t i/\Qbq s t i<=mkF s.ch i:=by
 refine Qdv (Qdv (fun i=>⟨v03 _,(I.mkb i).1⟩) fun B hB=>?_) fun B hB=>?_
 · split at hB
   · exact(I.k.k _ _ hB).2.2.2
   exact absurd hB (by simp)
 obtain⟨r,hr,rfl⟩:=Option.map_eq_some_iff.1 hB;exact(I.k.r _ r hr).bd
theorem QcF (I:CkI T M N s) {fi:Int->Prop} {l:Int} {A0 A:Int->Int} {J:List Int} (h:Joins s.R fi l s.O A0 A J) (h0: ∀i,0<=A0 i/\A0 i<=mkF s.ch i): ∀i,0<=A i/\A i<=mkF s.ch i:=by
 induction h with
 |start=>exact h0
 | join h ha hr ih=>
   rename_i A J a r
   exact fun i=>by
    have:=ih i;have:=(I.k.r _ r hr.1).bd i;show 0<=max (A i) (r.A i)/\max (A i) (r.A i)<=_;omega
theorem QfM (ok:RunOk T M) (I:CkI T M N s) (hk:N <M.length) (h1:(mkI M (N:Int)).kind=1) {A:Int->Int} {J:List Int}
 (hJ:Joins s.R (fun a=>QbF s.S s.K (tkT T a) (tkT T (mkI M (N:Int)).task)=true) (tkT T (mkI M (N:Int)).task).looper s.O (Qbq s (tkT T (mkI M (N:Int)).task)) A J)
 (cU: ∀a r,a∈s.O->a∉J-> ¬Jn s.R (fun a=>QbF s.S s.K (tkT T a) (tkT T (mkI M (N:Int)).task)=true) (tkT T (mkI M (N:Int)).task).looper A a r):
 Rep (cF s.S) (nF s.S) N A (fun j=>HB T M j N)/\ ∀i,0<=A i/\A i<=mkF s.ch i:=by
 obtain⟨X,x1,x2,x3⟩:=Qbn ok (beg_h ok I hk h1) hJ cU;exact⟨x1.cong fun j _=>QfK ok hk h1 x2 x3 j,QcF I hJ (QfP I _)⟩
end
theorem mt:MapT modE 175 3 3:=⟨by kernel_rfl,by kernel_rfl⟩
structure Rng (A:Int->Int):Prop where
 lo: ∀k,0<=A k
 hi: ∀k,A k<=9223372036854775807
 at': ∀k,A k≠0->0<=k/\k<=200
structure MsFor (M:Ms) (cl:Nat) (A:Int->Int):Prop where
 ok:MsOk M cl
 get: ∀k,Q6L M k=if A k=0 then none else some (iV (A k))
 rng:Rng A
theorem MsFor.getD {M:Ms} {cl:Nat} {A:Int->Int} (x:MsFor M cl A) (k:Int):(Q6L M k).getD (iV 0)=iV (A k):=by
 rw[x.get];split
 · rename_i e;rw[e];rfl
 rfl
def ksA (A:Int->Int):List Int:=((v0w 201).map fun(n:Nat)=>(n:Int)).filter fun k=>decide (A k≠0)
theorem Qae (A:Int->Int):(ksA A).Pairwise (· < ·):=by
 refine List.Pairwise.filter _ ?_;rw[List.pairwise_map];exact List.pairwise_lt_range.imp fun h=>by omega
theorem Q0V {A:Int->Int} (r:Rng A) {k:Int}:k∈ksA A↔A k≠0:=by
 unfold ksA;rw[List.mem_filter];simp only[List.mem_map,v1r,decide_eq_true_eq];refine⟨fun h=>h.2,fun h=>⟨⟨k.toNat,?_⟩,h⟩⟩;have:=r.at' k h;omega
theorem Qaf (A:Int->Int):(ksA A).length<=201:=by
 have:=v1F (fun k=>decide (A k≠0)) ((v0w 201).map fun(n:Nat)=>(n:Int));simpa[ksA]using this
theorem MsFor.perm {M:Ms} {cl:Nat} {A:Int->Int} (x:MsFor M cl A):(M.map (·.1)).Perm (ksA A):=by
 refine(List.perm_ext_iff_of_nodup x.ok.keys ((Qae A).imp fun h=>by omega)).2 fun k=>?_;rw[Q0V x.rng];have h:=Q2q (k:=k) (M:=M);rw[x.get]at h;by_cases e:A k=0
 · rw[if_pos e]at h;simp only[true_iff]at h;exact⟨fun q=>absurd q h,fun q=>absurd e q⟩
 rw[if_neg e]at h;simp only[reduceCtorEq,false_iff,Classical.not_not]at h;exact⟨fun _=>e,fun _=>h⟩
theorem MsFor.sorted {M:Ms} {cl:Nat} {A:Int->Int} (x:MsFor M cl A):Q1U (M.map (·.1))=ksA A:=
 Q4Q ((J4 _).trans x.perm) (Q3A _) ((Qae A).imp fun h=>by omega)
theorem MsFor.len {M:Ms} {cl:Nat} {A:Int->Int} (x:MsFor M cl A):M.length<=201:=by
 have:=x.perm.length_eq;have h:=Qaf A;simp only[List.length_map]at this;omega
theorem MsFor.wf {M:Ms} {cl:Nat} {A:Int->Int} (x:MsFor M cl A): ∀y,y∈M->(Lit.int .i64 y.1).wf=true:=fun y hy=>by
 have:=(Q0V x.rng).1 (x.perm.mem_iff.1 (List.mem_map.2 ⟨y,hy,rfl⟩));have:=x.rng.at' _ this;simp only[Lit.wf,IntKind.min,IntKind.max,IntKind.bits,IntKind.signed,v0g,decide_eq_true_eq];simp;omega
def Qdp (A:Int->Int) (k n:Int):Int->Int:=if k <0\/n <0 then A else fun i=>if i=k then n else A i
theorem Rng.set {A:Int->Int} (r:Rng A) {k n:Int} (hk:k<=200) (hn:n<=9223372036854775807):Rng (Qdp A k n):=by
 unfold Qdp
 split
 · exact r
 refine⟨fun i=>?_,fun i=>?_,fun i=>?_⟩<;>split
 · omega
 · exact r.lo i
 · omega
 · exact r.hi i
 · intro _;omega
 exact r.at' i
theorem Rng.zero:Rng fun _=>0:=⟨fun _=>v03 _,fun _=>by omega,fun _ h=>absurd rfl h⟩
structure ClkR (h:Hp) (b r:Nat) (M:Ms) (cl:Nat) (A:Int->Int):Prop where
 top:h.get b=some (.cells [.map (some r)] 178 0)
 mp:h.get r=some (.map (M.map ent) cl)
 ms:MsFor M cl A
 ne:b≠r
 lb:b <h.n
 lr:r <h.n
def CkAt (h:Hp) (b:Nat) (A:Int->Int) (own:List Nat):Prop:= ∃r M cl,ClkR h b r M cl A/\own=[b,r]
section
variable {h h':Hp} {b r cl:Nat} {M:Ms} {A:Int->Int} {own cs:List Nat} {k n:Int}
theorem ClkR.keep (x:ClkR h b r M cl A) (g:ExtB cs h h') (hd: ∀i,i∈[b,r]->i∉cs):ClkR h' b r M cl A:=
 ⟨by rw[g.get b x.lb (hd b (by simp))];exact x.top,by rw[g.get r x.lr (hd r (by simp))];exact x.mp,x.ms,x.ne,v0p x.lb g.n,v0p x.lr g.n⟩
theorem CkAt.keep (x:CkAt h b A own) (g:ExtB cs h h') (hd: ∀i,i∈own->i∉cs):CkAt h' b A own:=by
 obtain⟨r,M,cl,x,rfl⟩:=x;exact⟨r,M,cl,x.keep g hd,rfl⟩
theorem CkAt.ext (x:CkAt h b A own) (g:Ext h h'):CkAt h' b A own:=x.keep (g.b []) (by simp)
theorem CkAt.lt (x:CkAt h b A own): ∀i,i∈own->i <h.n:=by
 obtain⟨r,M,cl,x,rfl⟩:=x;intro i hi;simp only[v0r,v1n,or_false]at hi;rcases hi with rfl|rfl
 · exact x.lb
 exact x.lr
theorem CkAt.rng (x:CkAt h b A own):Rng A:=by obtain⟨r,M,cl,x,rfl⟩:=x;exact x.ms.rng
theorem CkAt.co {h0 h1 h2:Hp} (x:CkAt h1 b A own) (c:Co h0 h1 h2) (hl: ∀i,i∈own->i <h0.n):CkAt h2 b A own:=by
 obtain⟨r,M,cl,x,rfl⟩:=x;exact⟨r,M,cl,⟨by rw[c.2 b (.inl (hl b (by simp)))];exact x.top,by rw[c.2 r (.inl (hl r (by simp)))];exact x.mp,x.ms,x.ne,by rw[c.1];exact x.lb,by rw[c.1];exact x.lr⟩,rfl⟩
theorem k75:C modE 75 [] h fun v h'=> ∃b own,v=Qk b/\CkAt h' b (fun _=>0) own/\(∀i,i∈own->h.n<=i)/\Ext h h':=by
 refine Q9 (fu:=Tryz.f75) (by kernel_rfl) rfl ?_;refine Q7<|I2 rfl<|QP<|Q57 gn rfl<|Qq (zv:=.agg #[.map none]) (pl:=[(0,1)]) [(0,_)] gn rfl (by kernel_rfl) (by kernel_rfl) rfl rfl<|Q9Q gn rfl rfl<|I2 rfl<|Q0<|Q8 ?_;refine⟨.inl rfl,_,rfl,?_⟩
 have e1:((h.alloc (.map (([]:Ms).map ent) 0)).alloc (.cells [.map (some h.n)] 178 0)).get h.n=some (.map (([]:Ms).map ent) 0):=by
  rw[Hp.get_alloc,if_neg (by rw[Hp.n_alloc];omega)];exact Hp.get_alloc_self _ _
 exact⟨(h.alloc (.map (([]:Ms).map ent) 0)).n,_,rfl,⟨h.n,[],0,⟨Hp.get_alloc_self _ _,e1,⟨.nil _,fun k=>rfl,.zero⟩,by simp only[Hp.n_alloc];omega,by simp only[Hp.n_alloc];omega,by simp only[Hp.n_alloc];omega⟩,rfl⟩,fun i hi=>by simp[Hp.n_alloc]at hi;omega,(Ext.alloc _ _).trans (Ext.alloc _ _)⟩
theorem k79 (x:CkAt h b A own):CP modE 79 [Qk b,iV k] h (iV (A k)):=by
 obtain⟨r,M,cl,x,rfl⟩:=x;have ht:=x.top;have hm:=x.mp;refine Q9 (fu:=Tryz.f79) (by kernel_rfl) rfl ?_;refine Q7<|I2 rfl<|Z8<|I1 rfl<|Ip rfl rfl<|Q0<|Q2 rfl (fun hb=>?_) fun hb=>?_
 · skip
   refine Q7<|I2 rfl<|Q0<|Q8 ?_;refine⟨.inl rfl,_,rfl,?_⟩;simp at hb
 refine Q4<|Q7<|I1 rfl<|I6 rfl<|I0 0 rfl<|I4 rfl (by assumption) rfl<|I1 rfl<|Q7G (zv:=.int .i64 0) mt gn rfl rfl rfl (by assumption) (by kernel_rfl)<|I2 rfl<|Q0<|Q8 ⟨.inl rfl,_,rfl,⟨by rw[x.ms.getD];rfl,rfl⟩⟩
theorem k48 (x:CkAt h b A own):CP modE 48 [Qk b,iV k,iV n] h (.bool (decide (n <1)||decide (A k>=n))):=by
 refine Q9 (fu:=Tryz.f48) (by kernel_rfl) rfl ?_;refine Q7<|I2 rfl<|QP<|I1 rfl<|Il rfl rfl<|I1 rfl ?_
 refine Z4 (n:=5) rfl rfl rfl gn rfl (fun hb=>by
  refine D1 hb rfl<|D1 hb rfl<|Dc hb [_,_] rfl rfl (Ql (k79 x) ⟨ag0,?_⟩);refine D1 hb rfl<|Dh hb rfl rfl ?_
  exact Q0 ⟨rfl,rfl,5,rfl,rfl⟩) ?_
 refine I2 rfl<|Q0<|Q8 ⟨.inl rfl,_,rfl,⟨rfl,rfl⟩⟩
theorem k45 (x:CkAt h b A own) (hk:k<=200) (hn:n<=9223372036854775807):C modE 45 [Qk b,iV k,iV n] h fun _ h'=>CkAt h' b (Qdp A k n) own/\ExtB own h h':=by
 obtain⟨r,M,cl,x,rfl⟩:=x;have ht:=x.top;have hm:=x.mp;have bO:=x.lb;have ig:=x.lr;have ao:=x.ne;refine Q9 (fu:=Tryz.f45) (by kernel_rfl) rfl ?_;refine Q5<|Q7<|I1 rfl<|Ip rfl rfl<|I1 rfl ?_
 refine Z4 (n:=2) rfl rfl rfl gn rfl (fun hb=>by
  refine D1 hb rfl<|Dl hb rfl rfl ?_
  exact Q0 ⟨rfl,rfl,2,rfl,rfl⟩) ?_
 refine I1 rfl ?_
 refine Z4 (n:=2) rfl rfl rfl gn rfl (fun hb=>by
  refine D1 hb rfl<|Dl hb rfl rfl ?_
  exact Q0 ⟨rfl,rfl,2,rfl,rfl⟩) ?_
 refine Q0<|Q2 rfl (fun hb=>?_) fun hb=>?_
 · skip
   refine Q8 ?_;refine⟨.inl rfl,_,rfl,?_⟩;have e:k <0\/n <0:=by simpa[or_assoc]using hb
   exact⟨⟨r,M,cl,by rw[Qdp,if_pos e];exact x,rfl⟩,.refl _ _⟩
 have hk0:0<=k/\0<=n:=by simp at hb;omega
 have hset:Qdp A k n=fun i=>if i=k then n else A i:=if_neg (by omega)
 have kO:=x.ms.rng.set hk hn;rw[hset]at kO ⊢;refine Q4<|Q5<|Q7<|I1 rfl<|I6 rfl<|I0 0 rfl<|I4 rfl (by assumption) rfl<|o_eqm (kt:=3) (et:=3) gn rfl rfl rfl (by kernel_rfl)<|Q0<|Q2 rfl (fun hb=>?_) fun hb=>?_
 · skip
   simp at hb
 refine Q4<|Q7<|I1 rfl<|I6 rfl<|I0 0 rfl<|I4 rfl (by assumption) rfl<|I1 rfl<|I1 rfl<|Q6q mt gn rfl rfl rfl (by assumption) ag0<|QdS (fun h1=>h1.get b=some (.cells [.map (some r)] 178 0)/\h1.get r=some (.map ((Q7A M k (iV n) cl).1.map ent) (Q7A M k (iV n) cl).2)/\ExtB [b,r] h h1) ⟨by rw[Hp.get_put,if_neg (fun e=>ao e.symm)];exact ht,Hp.get_put_self _ _ _,(ExtB.put _ _ _).mono (by simp)⟩ fun h1 ⟨t1,m1,g1⟩=>?_;have aT:=x.ms.ok.put k (iV n);have hgp:=fun i=>get_put M k i (iV n) cl
 have aD:k∈(Q7A M k (iV n) cl).1.map (·.1):=Classical.byContradiction fun hq=>by have:=Q2q.2 hq;rw[hgp,if_pos rfl]at this;cases this
 generalize Q7A M k (iV n) cl=P at*;obtain⟨M1,cl1⟩:=P;simp only at m1 aT hgp aD;have g1n:=g1.n;refine QP<|I1 rfl<|Ie rfl rfl<|Q0<|Q2 rfl (fun hb=>?_) fun hb=>?_
 · skip
   refine Q3 (by kernel_rfl)<|I1 rfl<|I6 rfl<|I0 0 rfl<|I4 rfl (by assumption) rfl<|I1 rfl<|Qcl mt gn rfl rfl (by assumption) aD ag0<|Q0 ?_;refine⟨.inr rfl,_,rfl,?_⟩;have dk:n=0:=by simpa using hb
   subst dk
   exact⟨⟨r,_,_,⟨by rw[Hp.get_put,if_neg (fun e=>ao e.symm)];exact t1,Hp.get_put_self _ _ _,⟨aT.del k,fun i=>by
    rw[Qfg aT,hgp,x.ms.get]
    by_cases e:i=k<;>simp[e],kO⟩,ao,by rw[Hp.n_put];omega,by rw[Hp.n_put];omega⟩,rfl⟩,g1.trans ((ExtB.put _ _ _).mono (by simp))⟩
 refine Q4 ?_;refine⟨.inr rfl,_,rfl,?_⟩;have dk:n≠0:=by simpa using hb
 exact⟨⟨r,_,_,⟨t1,m1,⟨aT,fun i=>by
  rw[hgp,x.ms.get]
  by_cases e:i=k<;>simp[e,dk],kO⟩,ao,by omega,by omega⟩,rfl⟩,g1⟩
theorem k73 {es:List MapEntry} (hg:h.get r=some (.map es cl)):C modE 73 [.map (some r)] h fun v h'=>v=.map (some h.n)/\h'.get h.n=some (.map es cl)/\Ext h h'/\h'.n=h.n+1:=by
 refine Q9 (fu:=Tryz.f73) (by kernel_rfl) rfl ?_;refine Q7<|I2 rfl<|Z8<|I1 rfl<|o_eqm (kt:=3) (et:=3) gn rfl rfl rfl (by kernel_rfl)<|Q0<|Q2 rfl (fun hb=>?_) fun hb=>?_
 · skip
   refine Q7<|I2 rfl<|Q0<|Q8 ?_;refine⟨.inl rfl,_,rfl,?_⟩;cases hb
 refine Q4<|Q7<|I1 rfl<|Qex (kt:=3) (et:=3) gn rfl rfl (by kernel_rfl)<|Qez gn rfl rfl rfl hg ag0 ?_
 skip
 skip
 refine Qcm (kt:=3) (et:=3) gn rfl rfl (by kernel_rfl)<|I2 rfl<|Q0<|Q8 ⟨.inl rfl,_,rfl,⟨rfl,Hp.get_alloc_self _ _,Ext.alloc _ _,Hp.n_alloc _ _⟩⟩
theorem k39 (x:CkAt h b A own):C modE 39 [Qk b] h fun v h'=> ∃b' mj,v=Qk b'/\CkAt h' b' A mj/\(∀i,i∈mj->h.n<=i)/\Ext h h':=by
 obtain⟨r,M,cl,x,rfl⟩:=x;have ht:=x.top;refine Q9 (fu:=Tryz.f39) (by kernel_rfl) rfl ?_;refine Q7<|I2 rfl<|Z8<|I1 rfl<|Ip rfl rfl<|Q0<|Q2 rfl (fun hb=>?_) fun hb=>?_
 · skip
   refine Q7<|I2 rfl<|Q0<|Q8 ?_;refine⟨.inl rfl,_,rfl,?_⟩;simp at hb
 refine Q4<|Q7<|I1 rfl<|I6 rfl<|I0 0 rfl<|I4 rfl (by assumption) rfl<|Ic [_] rfl rfl (C.mono (k73 x.mp) ?_);rintro v1 h1 ⟨rfl,g1,x1,n1⟩;refine⟨ag0,?_⟩;refine Qq (zv:=.agg #[.map none]) (pl:=[(0,1)]) [(0,_)] gn rfl (by kernel_rfl) (by kernel_rfl) rfl rfl<|Q9Q gn rfl rfl<|I2 rfl<|Q0<|Q8 ?_;refine⟨.inl rfl,_,rfl,?_⟩;refine⟨h1.n,_,rfl,⟨h.n,M,cl,⟨Hp.get_alloc_self _ _,by rw[Hp.get_alloc,if_neg (by omega)];exact g1,x.ms,by omega,by rw[Hp.n_alloc];omega,by rw[Hp.n_alloc];omega⟩,rfl⟩,fun i hi=>?_,x1.trans (Ext.alloc _ _)⟩;simp at hi;omega
end
structure AllAt (h:Hp) (c r:Nat) (A:Int->Int):Prop where
 ex: ∃M cl,h.get c=some (.cells [.map (some r)] 175 0)/\h.get r=some (.map (M.map ent) cl)/\MsFor M cl A
 lc:c <h.n
 lr:r <h.n
section
variable {h h':Hp} {b bo c r cl:Nat} {M:Ms} {A O:Int->Int} {own oo cs:List Nat} {k n:Int}
theorem AllAt.keep (x:AllAt h c r A) (g:ExtB cs h h') (h1:c∉cs) (h2:r∉cs):AllAt h' c r A:=by
 obtain⟨⟨M,cl,p,q,m⟩,s,t⟩:=x;exact⟨⟨M,cl,by rw[g.get c s h1];exact p,by rw[g.get r t h2];exact q,m⟩,v0p s g.n,v0p t g.n⟩
theorem AllAt.ext (x:AllAt h c r A) (g:Ext h h'):AllAt h' c r A:=x.keep (g.b []) (by simp) (by simp)
theorem k78 (x:CkAt h b A own):C modE 78 [Qk b] h fun v h'=> ∃c r,v=.func (.func 100) #[] #[Qk c]/\AllAt h' c r A/\(h.n<=c/\h.n<=r)/\Ext h h':=by
 obtain⟨r,M,cl,x,rfl⟩:=x;have ht:=x.top;have hm:=x.mp;have bO:=x.lb;have ig:=x.lr;refine Q9 (fu:=Tryz.f78) (by kernel_rfl) rfl ?_;refine Q7<|I2 rfl<|QP<|Q9R (zv:=.map none) gn rfl (by kernel_rfl)<|QdS (fun h1=>h1.get h.n=some (.cells [.map none] 175 0)/\Ext h h1/\h1.n=h.n+1) ⟨Hp.get_alloc_self _ _,Ext.alloc _ _,Hp.n_alloc _ _⟩ fun h1 ⟨g1,x1,n1⟩=>?_;have gT:=(x1.get b bO).trans ht;have lN:=(x1.get r ig).trans hm;refine Z8<|I1 rfl<|Iq rfl rfl<|Q0<|Q2 rfl (fun hb=>?_) fun hb=>?_
 · skip
   refine Q3 (by kernel_rfl)<|I1 rfl<|I6 rfl<|I0 0 rfl<|I4 rfl gT rfl<|Ic [_] rfl rfl (C.mono (k73 lN) ?_);rintro v2 h2 ⟨rfl,g2,x2,n2⟩;have g3:=(x2.get h.n (by omega)).trans g1;refine⟨ag0,?_⟩;refine Q6p gn rfl rfl rfl (by kernel_rfl) g3 (by decide) (by simp) ag0<|QP<|JG gn rfl rfl<|I2 rfl<|Q0<|Q8 ⟨.inl rfl,_,rfl,⟨h.n,h1.n,rfl,⟨⟨M,cl,Hp.get_put_self _ _ _,by rw[Hp.get_put,if_neg (by omega)];exact g2,x.ms⟩,by rw[Hp.n_put];omega,by rw[Hp.n_put];omega⟩,by omega,(x1.trans x2).of (ExtB.put _ _ _) (by simp)⟩⟩
 cases hb
theorem k102:C modE 102 [.map (some r)] h fun v h'=>v=.func (.func 120) #[] #[Qk h.n]/\(∃t,h'.get h.n=some (.cells [.map (some r)] t 0))/\Ext h h'/\h'.n=h.n+1:=by
 refine Q9 (fu:=Tryz.f102) (by kernel_rfl) rfl ?_;refine Q7<|Q9Q gn rfl rfl<|I2 rfl<|QP<|JG gn rfl rfl<|I2 rfl<|Q0<|Q8 ⟨.inl rfl,_,rfl,⟨rfl,⟨_,Hp.get_alloc_self _ _⟩,Ext.alloc _ _,Hp.n_alloc _ _⟩⟩
theorem clk_sm:modE.sm 101=some (JA 120 3):=by kernel_rfl
theorem k100 {x:Nat} (ha:AllAt h c r A) (P:Nat->Hp->Prop) (R:Hp->Prop) (start: ∀h1,Ext h h1->P 0 h1)
 (round: ∀k (hk:k <(ksA A).length) h1,P k h1->AllAt h1 c r A->Y modE x [iV (ksA A)[k],iV (A (ksA A)[k])] h1 fun v h2=>(∃cs,ExtB cs h1 h2/\ ∀i,i∈cs->i≠c/\i≠r/\i <h.n)/\((v=.bool true/\P (k+1) h2)\/(v=.bool false/\R h2))):
 C modE 100 [.func (.yield x) #[] #[],Qk c] h fun _ h'=>P (ksA A).length h'\/R h':=by
 have ha0:=ha;obtain⟨⟨M,cl,hc,hr,ms⟩,hlc,ig⟩:=ha;have eI:=Qaf A;refine Q9 (fu:=Tryz.f100) (by kernel_rfl) rfl ?_;refine Q7<|I4 rfl hc rfl<|Ic [_] rfl rfl (C.mono (k102) ?_);rintro v1 h1 ⟨rfl,⟨t1,g1⟩,x1,n1⟩;have kQ:=(x1.get r ig).trans hr;obtain⟨v2,h2,bs,e2,s2,x2,f2,k2⟩:=Q67 (g:=120) (elem:=3) ms.ok (by have:=ms.len;omega) ms.wf g1 kQ;rw[ms.sorted]at s2;obtain⟨a,rfl⟩:=s2.val;refine⟨ag0,?_⟩;refine o_sm [_] gn rfl rfl (by kernel_rfl) (by kernel_rfl) clk_sm rfl e2 k2 ag0<|I7 rfl<|I1 rfl<|Q0 ?_;have x02:=x1.trans x2;have x02n:=x02.n;have x1n:=x1.n;refine Qb ?_
 refine Q1J [(0,.func (.yield x) #[] #[]),(1,Qk c),(7,.slice a (isV (ksA A)).length (isV (ksA A)).length),(8,iV ((isV (ksA A)).length:Nat)),(9,iV (0:Nat))] (by repeat(first|exact trivial|refine⟨rfl,?_⟩)) ?_;refine Q8Y (fun k l hh=> ∃(i:Nat),i<=(ksA A).length/\k=(ksA A).length -i/\P i hh/\AllAt hh c r A/\Sl 3 hh (.slice a (isV (ksA A)).length (isV (ksA A)).length) (isV (ksA A)) bs/\l=[(0,.func (.yield x) #[] #[]),(1,Qk c),(7,.slice a (isV (ksA A)).length (isV (ksA A)).length),(8,iV ((isV (ksA A)).length:Nat)),(9,iV (i:Nat))]) (n:=(ksA A).length) ?_ fun k l hh hI=>?_
 · exact⟨0,by omega,by omega,start _ x02,ha0.ext x02,s2,rfl⟩
 obtain⟨i,hi,rfl,hP,hA,hS,rfl⟩:=hI;refine Q7<|Il rfl rfl<|Q0<|Q5<|Q2 rfl (fun hb=>?_) fun hb=>?_
 · skip
   have ai:i <(ksA A).length:=by simpa using hb
   obtain⟨bw,m,ea,hg,hm,hbw,hB⟩:=hS.at (by simp;omega);simp only[Value.slice.injEq,and_true]at ea;subst ea;obtain⟨⟨M',cl',lZ,fJ,ms'⟩,_,_⟩:=hA;refine Q4<|Q5<|Qb<|Q7<|JH (zz:=1) gn rfl rfl rfl (by kernel_rfl) (by omega) (by simp;omega)<|Kb gn rfl rfl (by kernel_rfl) hg (by rw[List.getElem?_map,v0c (show 0+(i:Int).toNat*1 <(ksA A).length by omega)];rfl) ?_;refine I2 rfl<|QP<|I1 rfl<|I1 rfl<|I4 rfl lZ rfl<|I1 rfl<|Q7G (zv:=.int .i64 0) mt gn rfl rfl rfl (by assumption) (by kernel_rfl) ?_
   have hY:=round i ai _ hP ⟨⟨M',cl',lZ,fJ,ms'⟩,by assumption,by assumption⟩;have ei:(ksA A)[0+(i:Int).toNat*1]'(by omega)=(ksA A)[i]:=getElem_congr_idx (by omega);rw[ei,ms'.getD];refine Qew [_,_] gn rfl rfl rfl (Y.mono hY ?_);rintro v2 h3 ⟨⟨cs,gx,bS⟩,dT⟩;have fB:AllAt h3 c r A:=(AllAt.mk ⟨M',cl',lZ,fJ,ms'⟩ (by assumption) (by assumption)).keep gx (fun hj=>(bS c hj).1 rfl) (fun hj=>(bS r hj).2.1 rfl);have ox:=hS.keep gx fun i hi hj=>by have:=(bS i hj).2.2;have:=f2 i hi;omega
   obtain⟨t,rfl,hv4⟩: ∃t,v2=.bool t/\((t=true/\P (i+1) h3)\/(t=false/\R h3)):=by
    rcases dT with⟨rfl,hh⟩| ⟨rfl,hh⟩
    · exact⟨true,rfl,.inl ⟨rfl,hh⟩⟩
    exact⟨false,rfl,.inr ⟨rfl,hh⟩⟩
   refine⟨ag0,?_⟩;refine Ib rfl<|Q0<|Q2 rfl (fun hb=>?_) fun hb=>?_
   · skip
     refine Q8 ?_;refine⟨.inl rfl,_,rfl,?_⟩;rcases hv4 with⟨rfl,_⟩| ⟨_,hv4⟩
     · cases hb
     exact .inr hv4
   rcases hv4 with⟨_,lH⟩| ⟨rfl,_⟩
   case inr=>cases hb
   refine Q4<|Q3 (by kernel_rfl)<|Iao rfl rfl<|I1 rfl<|Q0 ?_;exact⟨(ksA A).length - (i+1),by omega,[(0,_),(1,_),(7,_),(8,_),(9,iV ((i+1:Nat):Int))],(by repeat(first|exact trivial|refine⟨rfl,?_⟩)),i+1,by omega,rfl,lH,fB,ox,rfl⟩
 refine QF<|Qh<|Qn<|QE ?_;refine⟨.inr rfl,_,rfl,?_⟩;have k5:i=(ksA A).length:=by simp at hb;omega
 subst k5;exact .inl hP
end
def maxA (A O:Int->Int):Int->Int:=fun k=>max (A k) (O k)
def JP (A O:Int->Int) (k:Nat):Int->Int:=fun i=>if i∈(ksA O).take k then max (A i) (O i)else A i
theorem Q8F (A O:Int->Int):JP A O 0=A:=by funext i;simp[JP]
theorem Qak {A O:Int->Int} (ra:Rng A) (ro:Rng O):JP A O (ksA O).length=maxA A O:=by
 funext i
 rw[JP,List.take_length];by_cases h:O i=0
 · rw[if_neg (fun q=>(Q0V ro).1 q h),maxA,h];have:=ra.lo i;omega
 rw[if_pos ((Q0V ro).2 h)];rfl
theorem QcH {A O:Int->Int} {k:Nat} (hk:k <(ksA O).length):JP A O k (ksA O)[k]=A (ksA O)[k]:=by
 rw[JP,if_neg];intro hm;obtain⟨j,hj,e⟩:=List.mem_iff_getElem.1 hm;rw[List.getElem_take]at e;rw[v0E]at hj;have:=(List.pairwise_iff_getElem.1 (Qae O)) j k (by omega) hk (by omega);omega
theorem Q8G {A O:Int->Int} (ro:Rng O) {k:Nat} (hk:k <(ksA O).length):Qdp (JP A O k) (ksA O)[k] (max (O (ksA O)[k]) (JP A O k (ksA O)[k]))=JP A O (k+1):=by
 have h0:=ro.at' _ ((Q0V ro).1 (v0M hk));have h1:=ro.lo (ksA O)[k];rw[QcH hk,Qdp,if_neg (by omega)];have e2:(ksA O).take (k+1)=(ksA O).take k++[(ksA O)[k]]:=by rw[List.take_add_one,v0c hk];rfl
 funext i
 simp only[JP,e2,v0x,v0X];by_cases e:i=(ksA O)[k]
 · simp[e,Int.max_comm]
 simp[e]
theorem Qaj {A O:Int->Int} (ra:Rng A) (ro:Rng O) (k:Nat):Rng (JP A O k):=by
 refine⟨fun i=>?_,fun i=>?_,fun i=>?_⟩<;>unfold JP<;>split
 · have:=ra.lo i;omega
 · exact ra.lo i
 · have:=ra.hi i;have:=ro.hi i;omega
 · exact ra.hi i
 · intro h;by_cases e:A i=0
   · exact ro.at' i (by have:=ro.lo i;omega)
   exact ra.at' i e
 exact ra.at' i
section
variable {h h':Hp} {b bo c r cl:Nat} {M:Ms} {A O:Int->Int} {own oo cs:List Nat} {k n:Int}
theorem k43 (x:CkAt h b A own) (o:CkAt h bo O oo):C modE 43 [Qk b,Qk bo] h fun _ h'=>CkAt h' b (maxA A O) own/\ExtB own h h':=by
 have ra:=x.rng;have ro:=o.rng;have fF:=x.lt;refine Qdb (fu:=Tryz.f43) (by kernel_rfl) rfl ?_;refine Q7<|Q9Q gn rfl rfl<|QdS (fun h1=>h1.get h.n=some (.cells [Qk b] 129 0)/\Ext h h1/\h1.n=h.n+1) ⟨Hp.get_alloc_self _ _,Ext.alloc _ _,Hp.n_alloc _ _⟩ fun h1 ⟨g1,x1,n1⟩=>?_;refine QP<|I1 rfl<|Ic [_] rfl rfl (C.mono (k78 (o.ext x1)) ?_);rintro v2 h2 ⟨c,r,rfl,ha2,fa2,x2⟩;have x2n:=x2.n;have lc:=ha2.lc;have lr:=ha2.lr;refine⟨ag0,?_⟩;refine Q0<|Qb<|Q1J [(2,Qk h.n),(7,.func (.func 100) #[] #[Qk c])] (by repeat(first|exact trivial|refine⟨rfl,?_⟩)) ?_
 refine QbM rfl rfl (by kernel_rfl) (by kernel_rfl) (by kernel_rfl) (by kernel_rfl) fun rc hR h0 cn dk mP=>?_;have k1:=((x2.trans cn).get h.n (by omega)).trans g1;have x10:=x1.trans (x2.trans cn);have x10n:=x10.n
 have jD: ∀i,i∈(h2.n+1)::own->i≠c/\i≠r/\i <h0.n:=fun i hi=>by
  rcases v0r.1 hi with rfl|hi
  · omega
  have:=fF i hi;omega
 have kN: ∀k (hk:k <(ksA O).length) (m1:Hp),(m1.get (h2.n+1)=some (rc .ready none)/\CkAt m1 b (JP A O k) own/\ExtB ((h2.n+1)::own) h0 m1)->AllAt m1 c r O->Y modE (h2.n+1) [iV (ksA O)[k],iV (O (ksA O)[k])] m1 fun v m2=>(∃cs,ExtB cs m1 m2/\ ∀i,i∈cs->i≠c/\i≠r/\i <h0.n)/\
  ((v =.bool true/\(m2.get (h2.n+1)=some (rc .ready none)/\CkAt m2 b (JP A O (k+1)) own/\ExtB ((h2.n+1)::own) h0 m2))\/(v=.bool false/\False)):=fun k hk m1 ⟨p1,p2,p3⟩ hA=>by
    refine hR.round p1 rfl ?_;refine Q7<|I2 rfl<|Q0<|Q3 (by kernel_rfl)<|I2 rfl<|Q0 ?_;refine⟨_,p1,?_⟩;refine w_at (fun m3=>m3.get (h2.n+1)=some (rc .busy none)/\ExtB [h2.n+1] m1 m3/\m3.n=m1.n) ⟨Hp.get_put_self _ _ _,ExtB.put _ _ _,Hp.n_put _ _ _⟩ fun m3 ⟨q1,q3,q4⟩=>?_;have p3n:=p3.n;have hnx: ∀i,i∈own->i≠h2.n+1:=fun i hi=>by have:=fF i hi;omega
    have c3:=p2.keep q3 (fun i hi hj=>by simp at hj;exact hnx i hi hj);have h3:=p3.trans (q3.mono (by simp))
    have q5:=(h3.get h.n (by omega) (fun hj=>by
     rcases v0r.1 hj with hj|hj
     · omega
     have:=fF _ hj;omega)).trans k1
    refine Qb<|Yq [(0,[]),(1,[]),(2,[]),(3,[]),(4,[]),(5,[0]),(6,[]),(7,[])] (by kernel_rfl) (by kernel_rfl) (by kernel_rfl) (by kernel_rfl)<|I4 rfl q5 rfl<|I1 rfl<|I1 rfl<|I4 rfl q5 rfl<|I1 rfl<|Ic [_,_] rfl rfl (Ql (k79 c3) ⟨(ag1 (ZO gn rfl (by kernel_rfl) q5 rfl rfl QbZ) ag0),?_⟩);refine o_max gn rfl rfl rfl ?_;refine QZ [_,_,_] gn rfl rfl (by kernel_rfl) rfl (C.mono (k45 c3 (ro.at' _ ((Q0V ro).1 (v0M hk))).2 (by have:=ro.hi (ksA O)[k];have:=(Qaj ra ro k).hi (ksA O)[k];omega)) ?_);rintro v4 m4 ⟨c4,g4⟩;rw[Q8G ro hk]at c4
    have q6:=(g4.get (h2.n+1) (by omega) (fun hj=>hnx _ hj rfl)).trans q1;refine⟨ag0,?_⟩;refine Q0 ?_;exact⟨_,_,q6,⟨⟨(h2.n+1)::own,((q3.mono (by simp)).trans (g4.mono (fun i hi _=>by simp[hi]))).trans ((ExtB.put _ _ _).mono (by simp)),jD⟩,.inl ⟨rfl,Hp.get_put_self _ _ _,c4.keep (ExtB.put _ _ _) (fun i hi hj=>by simp at hj;exact hnx i hi hj),(h3.trans (g4.mono (fun i hi _=>by simp[hi]))).trans ((ExtB.put _ _ _).mono (by simp))⟩⟩⟩
 refine C.mono (k100 (ha2.ext cn) (fun k m1=>m1.get (h2.n+1)=some (rc .ready none)/\CkAt m1 b (JP A O k) own/\ExtB ((h2.n+1)::own) h0 m1) (fun _=>False) (fun m1 hm=>⟨(hm.get _ (by omega)).trans mP,by rw[Q8F];exact x.ext (x10.trans hm),hm.b _⟩) kN) ?_;rintro v h' (⟨p1,p2,p3⟩|hf)
 case inr=>exact hf.elim
 rw[Qak ra ro]at p2;refine⟨_,_,p1,(by simp),fun m9 jd hn2=>?_⟩;refine QfU (.inl rfl) ?_;refine⟨.inr rfl,_,rfl,fun h2 ew=>?_⟩;have c9:=p2.keep jd (fun i hi hj=>by simp at hj;have:=fF i hi;omega)
 have g9:ExtB own h m9:=⟨by have:=p3.n;have:=jd.n;omega,fun i hi hn=>(jd.get i (by have:=p3.n;omega) (by simp;omega)).trans ((p3.get i (by omega) (fun hj=>by
  rcases v0r.1 hj with hj|hj
  · omega
  exact hn hj)).trans (x10.get i hi))⟩
 exact⟨c9.co ew fF,ew.extB g9⟩
end
end Go.Proofs.YtljpajcmdjmeaaaGreat
