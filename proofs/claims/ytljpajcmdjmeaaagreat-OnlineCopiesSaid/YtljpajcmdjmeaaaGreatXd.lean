/- The calculus of memory and steps, part Xd. Conditions: none. -/
import Derived.Test.YtljpajcmdjmeaaaGreatXc
import Derived.Lib.SlKeysI
import Derived.Maps.Own
import Derived.Test.YtljpajcmdjmeaaaGreatXa
import Derived.SizedLaws
open List renaming pairwise_cons → v2c, mem_cons → v0r, nodup_cons → v0R, all_eq_true → v0u, eq_nil_of_length_eq_zero → v1w, getElem?_eq_getElem → v0c, length_map → v0v, getElem_map → v1K, getElem_mem → v0M, mem_of_getElem? → v0m, getElem?_take → v1q, mem_map → v0H, map_cons → v0B, ext_getElem? → v1f, getElem?_map → v0D, getElem?_modify → v1i, map_append → v0G, map_nil → v1u, nodup_append → v0L, mem_append → v0x, mem_singleton → v0X, getElem?_cons_zero → v0W, append_assoc → v0F, take_append_drop → v01, length_append → v0j, drop_zero → v0U, take_of_length_le → v1B, append_nil → v0k, take_append_of_le_length → v2d, nil_append → v1c, getElem?_eq_some_iff → v0y, mem_map_of_mem → v1b, getElem?_eq_none → v02, modify_zero_cons → v2m, modify_succ_cons → v1d, findIdx?_cons → v2a, mem_filter → v1v
open Nat renaming blt → v0a, ble → v0n, beq → v0d, le_refl → v0b, zero_add → v0e, le_trans → v0t, beq_refl → v0I, lt_of_lt_of_le → v0p, mul_le_mul_right → v1a, sub_mul → v1x, add_mul → v1j, zero_mul → v1G, eq_of_beq_eq_true → v1h
open Bool renaming and_eq_true → v0g, not_false → v1s, and_true → v1k
open Option renaming some → v0h, map_some → v1t
open Array renaming toList_inj → v1P, getElem?_eq_some_iff → v0V
namespace Go.X
section
variable {E:Env} {fn:FuncId} {nt:Nat} {l:Kn} {h:Hp} {dr:Bool} {ops:Array Oper} {fin rest:List (Oper×List Oper)} {R:Kn->Hp->Prop} {lt:List Oper} {d:Nat} {ty t aI:TypeId} {pos:String} {af:Array Edge} {gg:Option (Nat×Bool)} {X Y:Operand}
end
section
variable {E:Env} {fn:FuncId} {nt:Nat} {l:Kn} {h:Hp} {Q:Out->Kn->Hp->Prop}
theorem QdW {n:Nat} (q:Q .next l h):W E fn nt (.label n) l h Q:=.step (is':=[]) (fun _tm _k _df _kd _ro _cs _=>rfl) (.done q)
theorem QdT {b:Code} (q:W E fn nt b l h Q):W E fn nt (.scope b) l h Q:=by
 intro tm a k df kd ro cs ho;refine .step (s':=⟨⟨fn,nt,tm,[.code b]++.inScope b::k,df,.run,kd,ro⟩,cs,h⟩) rfl ((q tm a (.inScope b::k) df kd ro cs ho).bind ?_);rintro s ⟨o,l3,h3,ck,ds,q3,a3,n3,d3,r3⟩;cases o with
 | next=>
   have r3:s=_:=r3;subst r3;exact .step (s':=⟨⟨fn,nt,ck,k,marks ds++df,.run,kd,ro⟩,cs,h3⟩) rfl (.done ⟨.next,l3,h3,ck,ds,q3,a3,n3,d3,rfl⟩)
 |ret=>exact .done ⟨.ret,l3,h3,ck,ds,q3,a3,n3,d3,r3⟩
 |exit i=>exact .done ⟨.exit i,l3,h3,ck,ds,q3,a3,n3,d3,r3⟩
end
open Go.RowKit Go.Maps
def Qf7 (x:Int):List Int->List Int
 | []=>[x]
 |y::r=>cond (decide (x<=y)) (x::y::r) (y::Qf7 x r)
def Q1U:List Int->List Int
 | []=>[]
 |x::r=>Qf7 x (Q1U r)
theorem Q2m (x:Int): ∀l:List Int,(Qf7 x l).Perm (x::l)
 | []=>.refl _
 | y::r=>by
   rw[Qf7];cases decide (x<=y)with
   |true=>exact .refl _
   |false=>exact((Q2m x r).cons y).trans (.swap x y r)
theorem J4: ∀l:List Int,(Q1U l).Perm l
 | []=>.refl _
 |x::r=>(Q2m x (Q1U r)).trans ((J4 r).cons x)
theorem Qax (x:Int): ∀l:List Int,l.Pairwise (· <= ·)->(Qf7 x l).Pairwise (· <= ·)
 | [],_=>by simp[Qf7]
 | y ::r,h=>by
   rw[Qf7];cases hd:decide (x<=y)with
   | true=>
     have hxy:x<=y:=of_decide_eq_true hd;refine v2c.2 ⟨fun z hz=>?_,h⟩;rcases v0r.1 hz with rfl|hz
     · exact hxy
     exact Int.le_trans hxy ((v2c.1 h).1 z hz)
   | false=>
     have hyx:y<=x:=by have:=of_decide_eq_false hd;omega
     refine v2c.2 ⟨fun z hz=>?_,Qax x r (v2c.1 h).2⟩;rcases v0r.1 ((Q2m x r).mem_iff.1 hz)with rfl|hz
     · exact hyx
     exact(v2c.1 h).1 z hz
theorem Q3A: ∀l:List Int,(Q1U l).Pairwise (· <= ·)
 | []=>.nil
 |x::r=>Qax x _ (Q3A r)
theorem Q4Q {l l':List Int} (p:l.Perm l') (h:l.Pairwise (· <= ·)) (h':l'.Pairwise (· <= ·)):l=l':=
 p.eq_of_pairwise (le:=fun a b=>a<=b) (fun _ _ _ _=>Int.le_antisymm) h h'
theorem Q69 (l l':List Int) (p:l.Perm l'):l.mergeSort (fun x y=>decide (x<=y))=Q1U l':=by
 have tr: ∀a b c:Int,decide (a<=b)=true->decide (b<=c)=true->decide (a<=c)=true:=fun a b c h1 h2=>by simp only[decide_eq_true_eq]at*;exact Int.le_trans h1 h2
 have to: ∀a b:Int,(decide (a<=b)||decide (b<=a))=true:=fun a b=>by simp only[Bool.or_eq_true,decide_eq_true_eq];exact Int.le_total a b
 refine Q4Q ((List.mergeSort_perm l _).trans (p.trans (J4 l').symm)) ?_ (Q3A l');have:=List.pairwise_mergeSort tr to l;simpa using this
def keyI:MapEntry->Option Int
 | ⟨.int .i64 n,_,_⟩=>cond (decide ((Lit.int .i64 n).wf=true)) (some n) none
 |_=>none
def Q5l:List MapEntry->Option (List Int)
 | []=>some []
 | e::r=>match keyI e with
   |none=>none
   |some n=>(match Q5l r with|none=>none|some l=>some (n::l))
def Q3k {α:Type} [DecidableEq α]:List α->Bool
 | []=>true
 |x::r=>(r.all fun y=> !decide (x=y))&&Q3k r
theorem Kg {α:Type} [DecidableEq α]: ∀(l:List α),Q3k l=true↔l.Nodup
 | []=>by simp[Q3k]
 | x::r=>by
   rw[Q3k,v0g,Kg r,v0R];simp only[v0u,Bool.not_eq_true',decide_eq_false_iff_not];exact and_congr ⟨fun h m=>h x m rfl,fun h y hy e=>h (e▸hy)⟩ Iff.rfl
def Q4P (es:List MapEntry) (cl:Nat) (ks:List Int):Bool:=es.all (fun e=>v0a e.born cl)&&Q3k (es.map (·.born))&&Q3k ks&&v0n es.length 100000
theorem Qai {e:MapEntry} {n:Int} (h:keyI e=some n):e.key=.int .i64 n/\(Lit.int .i64 n).wf=true:=by
 unfold keyI at h
 split at h
 · rename_i a _ _;cases hd:decide ((Lit.int .i64 a).wf=true)with
   |true=>rw[hd]at h;simp only[cond_true,v0h.injEq]at h;subst h;exact⟨rfl,of_decide_eq_true hd⟩
   |false=>rw[hd]at h;cases h
 cases h
theorem Q3f: ∀ {es:List MapEntry} {ks:List Int},Q5l es=some ks->es.length=ks.length/\ ∀(i:Nat) (e:MapEntry),es[i]?=some e-> ∃n,ks[i]?=some n/\e.key=.int .i64 n/\(Lit.int .i64 n).wf=true
 | [],ks,h=>by cases h;exact⟨rfl,fun i e he=>by simp at he⟩
 | e ::r,ks,h=>by
   rw[Q5l]at h;cases hk:keyI e with
   |none=>rw[hk]at h;cases h
   | some n=>
     rw[hk]at h;simp only at h;cases hr:Q5l r with
     |none=>rw[hr]at h;cases h
     | some l=>
       rw[hr]at h;cases h;obtain⟨h1,h2⟩:=Q3f hr;refine⟨by simp[h1],fun i e' he=>?_⟩;cases i with
       |zero=>simp at he;subst he;exact⟨n,rfl,Qai hk⟩
       |succ i=>simp at he;simpa using h2 i e' he
noncomputable def Q1T (elem:Nat) (es:List MapEntry) (cl:Nat) (h:Hp):Option (Value×Hp):=match Q5l es with
 |none=>none
 | some ks=>cond (Q4P es cl ks) (match Q1U ks with
   | []=>some (.slice none 0 0,h)
   |x::ss=>some (.slice (some ⟨h.n,0,none⟩) (ss.length+1) (ss.length+1),h.alloc (.cells ((x::ss).map (Value.int .i64)) elem 3))) none
noncomputable def Qcw (h:Hp) (c:Nat):Option (Option Nat):=match h.get c with
 |some (.cells [.map r] _ 0)=>some r
 |_=>none
def Qc9:Value->Option Nat
 | .func _ _ b=>(match b.toList with
   | [.pointer (some ⟨c,0,none⟩)]=>some c
   |_=>none)
 |_=>none
def isFn (g:Nat):Value->Bool
 | .func (.func g') a _=>v0d g' g&&v0d a.toList.length 0
 |_=>false
noncomputable def JA (g elem:Nat) (args:List Value) (h:Hp):Option (Value×Hp):=match args with
 | [x] =>cond (isFn g x) (match Qc9 x with
   |none=>none
   | some c=>(match Qcw h c with
     |none=>none
     |some none=>some (.slice none 0 0,h)
     | some (some r)=>(match h.get r with
       |some (.map es cl)=>Q1T elem es cl h
       |_=>none))) none
 |_=>none
theorem Q3d {h:Hp} {c:Nat} {r:Option Nat} (e:Qcw h c=some r): ∃t,h.get c=some (.cells [.map r] t 0):=by
 unfold Qcw at e
 split at e
 · rename_i hg;cases e;exact⟨_,hg⟩
 cases e
theorem Q8v {x:Value} {c:Nat} (e:Qc9 x=some c): ∃f a b,x=.func f a b/\b.toList=[.pointer (some ⟨c,0,none⟩)]:=by
 unfold Qc9 at e
 split at e
 · split at e
   · rename_i hb;cases e;exact⟨_,_,_,rfl,hb⟩
   cases e
 cases e
theorem Qap {x:Value} {g:Nat} (e:isFn g x=true): ∃a b,x=.func (.func g) a b/\a= #[]:=by
 unfold isFn at e
 split at e
 · simp only[v0g,Qz]at e;obtain⟨rfl,e⟩:=e;exact⟨_,_,rfl,v1P.1 (v1w e)⟩
 cases e
theorem VRel.func_inv {M:Mp} {f:Fn} {a b:Array Value} {u:Value} (h:VRel M (.func f a b) u): ∃f' c d,u=.func f' c d/\FnRel M f f'/\VsRel M a.toList c.toList/\VsRel M b.toList d.toList:=
 match u,h with
 |_,.func hf ha hb ka kb=>⟨_,_,_,rfl,hf,⟨ha,ka⟩,⟨hb,kb⟩⟩
theorem VRel.ptr_inv {M:Mp} {a:Addr} {u:Value} (h:VRel M (.pointer (some a)) u): ∃a',u=.pointer (some a')/\AddrRel M a a':=
 match u,h with
 |_,.ptr h=>⟨_,rfl,h⟩
theorem VRel.int_inv {M:Mp} {k:IntKind} {n:Int} {w:Value} (h:VRel M (.int k n) w):w=.int k n:=by cases h;rfl
structure SortKeys (P:Program) (f g kt:Nat):Prop where
 ty:P.underlying kt=some (.int .i64)
 yes : ∀(Bm b nn:Nat) (D0:DataW Nat) (R:Value->Option (DataW Nat×List MemPlace)) (w:World),Bm <w.heap.size->w.cell? ⟨Bm,0,none⟩=some (.map (some b))->w.ownsMap P kt R b nn D0->Maps.size D0<=maxLen->Maps.size D0*8<=140737488355328->
  Calls P f #[.func (.func g) #[] #[.pointer (some ⟨Bm,0,none⟩)]] w fun e w'=> ∃(v:Value) (ss:List Int),e=.returned v/\ss.Perm (intKeys D0)/\
   w'.ownsRow w.heap.size kt 1 v ss.length ((ss.mergeSort (fun x y=>decide (x<=y))).map encZ)/\(v=.slice none 0 0↔ss=[])/\Below w.heap.size w w'
 no: ∀(Bm:Nat) (w:World),Bm <w.heap.size->w.cell? ⟨Bm,0,none⟩=some (.map none)->
  Calls P f #[.func (.func g) #[] #[.pointer (some ⟨Bm,0,none⟩)]] w fun e w'=>e=.returned (.slice none 0 0)/\Below w.heap.size w w'
theorem insert_perm {H:Type} (x:Lit×DataW H): ∀l,(DataW.insert x l).Perm (x::l)
 | []=>.refl _
 | y::r=>by
   rw[DataW.insert]
   split
   · exact .refl _
   exact((insert_perm x r).cons y).trans (.swap x y r)
theorem Q1h {H:Type}: ∀l:List (Lit×DataW H),(l.foldr DataW.insert []).Perm l
 | []=>.refl _
 |x::r=>(insert_perm x _).trans ((Q1h r).cons x)
theorem HRel.place_new {W:World} {B:Nat->Prop} {M:Mp} {h:Hp} {w:World} (H:HRel W B M h w) {i b S m:Nat} {o:AObj} {x:Obj} (hn: ∀j c δ S',M.ρ j=some (c,δ,S')->c≠b) (hb:W.heap.size<=b)
 (hi: ¬M.K i) (ai:i <h.n) (hg:h.get i=some o) (hw:w.heap[b]?=some x) (hx:ORel (M.add i b 0 S m) i o 0 S x):HRel W B (M.add i b 0 S m) h w:=by
 have he:=Mp.add_ev M i b 0 S m hi;refine⟨fun j c δ S' hj=>?_,fun j k c δ S1 δ' S2 hj hk=>?_,fun j hj=>?_,H.fresh,fun j hk hj=>?_,H.os,H.tape,H.output,H.size,H.old,fun j c δ S' hj hc=>?_,H.glob.mono he⟩
 · by_cases e:j=i
   · subst e;simp only[Mp.add,if_true,v0h.injEq,Prod.mk.injEq]at hj;obtain⟨rfl,rfl,rfl⟩:=hj;exact⟨.inl rfl,o,x,hg,hw,hx⟩
   simp only[Mp.add,if_neg e]at hj;obtain⟨hk,o',x',h1,h2,h3⟩:=H.obj j c δ S' hj;exact⟨.inr hk,o',x',h1,h2,h3.mono he hk⟩
 · by_cases e:j=i<;>by_cases e':k=i
   · exact .inl (by rw[e,e'])
   · simp only[Mp.add,if_pos e,if_neg e',v0h.injEq,Prod.mk.injEq]at hj hk;exact absurd hj.1.symm (hn k c δ' S2 hk)
   · simp only[Mp.add,if_neg e,if_pos e',v0h.injEq,Prod.mk.injEq]at hj hk;exact absurd hk.1.symm (hn j c δ S1 hj)
   simp only[Mp.add,if_neg e,if_neg e']at hj hk;exact H.inj j k c δ S1 δ' S2 hj hk
 · rcases hj with rfl|hj
   · exact ai
   exact H.kn j hj
 · by_cases e:j=i
   · simp[Mp.add,e]at hj
   simp only[Mp.add,if_neg e]at hj;exact H.live j (hk.resolve_left e) hj
 by_cases e:j=i
 · simp only[Mp.add,if_pos e,v0h.injEq,Prod.mk.injEq]at hj;omega
 simp only[Mp.add,if_neg e]at hj;exact H.own j c δ S' hj hc
theorem HRel.low {W:World} {B:Nat->Prop} {M:Mp} {h:Hp} {w:World} (H:HRel W B M h w) {i b δ S:Nat} (hi:M.ρ i=some (b,δ,S)):b <w.heap.size:=by
 obtain⟨_,_,x,_,h2,_⟩:=H.obj i b δ S hi;exact(v0V.1 h2).1
theorem Qeq {P:Program} {kt:Nat} (ty:P.underlying kt=some (.int .i64)) {W:World} {b cl:Nat} {M:Mp} {es:List MapEntry} {ak:Array MapEntry} {ks:List Int}
 (hb:W.heap[b]?=some (.map ak cl)) (jA:EsRel M es ak.toList) (hk:Q5l es=some ks) (hs:Q4P es cl ks=true):
 ∃D0:DataW Nat,W.ownsMap P kt (fun _=>some (.nil,[])) b ak.size D0/\(intKeys D0).Perm ks/\Maps.size D0=ks.length/\ks.length<=100000:=by
 obtain⟨k1,k2⟩:=Q3f hk;simp only[Q4P,v0g,v0u,QT,Qr]at hs;obtain⟨⟨⟨s1,s2⟩,s3⟩,s4⟩:=hs;have hlen:ak.toList.length=ks.length:=by rw[<-jA.1,k1]
 have aV: ∀i (hi:i <ak.toList.length),∃e n,es[i]?=some e/\ks[i]?=some n/\ak.toList[i].key=.int .i64 n/\(Lit.int .i64 n).wf=true/\ak.toList[i].born=e.born:=fun i hi=>by
  have aX:i <es.length:=by rw[jA.1];exact hi
  obtain⟨n,h1,h2,h3⟩:=k2 i es[i] (v0c aX);obtain⟨r1,r2,r3⟩:=jA.2 i es[i] ak.toList[i] (v0c aX) (v0c hi);rw[h2]at r1;exact⟨es[i],n,v0c aX,h1,r1.int_inv,h3,r3⟩
 have nZ:ak.toList.map (·.born)=es.map (·.born):=List.ext_getElem (by simp[jA.1]) fun i h1 h2=>by
  simp only[v0v]at h1 h2;obtain⟨e,n,q1,_,_,_,q5⟩:=aV i h1;rw[v1K,v1K,q5];rw[v0c h2]at q1;cases q1;rfl
 have hkey:ak.toList.map (·.key)=ks.map (Value.int .i64):=List.ext_getElem (by simp[hlen]) fun i h1 h2=>by
  simp only[v0v]at h1 h2;obtain⟨e,n,_,q2,q3,_,_⟩:=aV i h1;rw[v1K,v1K,q3];rw[v0c h2]at q2;cases q2;rfl
 have jR: ∀x∈ak.toList,∃n,x.key=.int .i64 n/\WideElems.rd P kt (fun _=>some ((.nil:DataW Nat),[])) x=some (.int .i64 n,.nil):=fun x hx=>by
  obtain⟨i,hi,rfl⟩:=List.getElem_of_mem hx;obtain⟨e,n,_,q2,q3,q4,_⟩:=aV i hi;refine⟨n,q3,?_⟩;generalize ak.toList[i]=xx at*;simp[WideElems.rd,keyOf,ty,mapKey,q3,q4]
 have gH:(ak.toList.map (WideElems.rg P kt (fun _=>some ((.nil:DataW Nat),[])))).map (fun p=>intOf p.1)=ks:=by
  rw[List.map_map];refine List.ext_getElem (by simp[hlen]) fun i h1 h2=>?_;simp only[v0v]at h1;obtain⟨e,n,_,q2,q3,q4,_⟩:=aV i h1;obtain⟨n',p1,p2⟩:=jR ak.toList[i] (v0M h1);rw[v1K,Function.comp,WideElems.rg_of p2];rw[q3]at p1;cases p1;rw[v0c h2]at q2;cases q2;rfl
 have hp:=Q1h (ak.toList.map (WideElems.rg P kt (fun _=>some ((.nil:DataW Nat),[]))));refine⟨.map ((ak.toList.map (WideElems.rg P kt (fun _=>some ((.nil:DataW Nat),[])))).foldr DataW.insert []),⟨ak,cl,hb,⟨?_,?_,fun x hx=>?_⟩,v0b _,rfl⟩,?_,?_,?_⟩
 · have:ak.size=es.length:=by rw[jA.1];simp
   have h2:(100000:Nat)<=maxLen:=by decide
   omega
 · refine⟨fun x hx=>?_,by rw[nZ];exact(Kg _).1 s2,?_⟩
   · obtain⟨i,hi,rfl⟩:=List.getElem_of_mem hx;obtain⟨e,n,q1,_,_,_,q5⟩:=aV i hi;rw[q5];exact s1 e (v0m q1)
   rw[hkey];have:=(Kg _).1 s3;rw[List.Nodup,List.pairwise_map];exact this.imp fun ao e=>ao (by simpa using e)
 · obtain⟨n,_,h2⟩:=jR x hx;exact⟨_,h2⟩
 · show(List.map (fun(p:Lit×DataW Nat)=>intOf p.1) _).Perm ks;exact(hp.map _).trans (by rw[gH])
 · show List.length _=_;rw[hp.length_eq,v0v,hlen]
 rw[<-k1];exact s4
theorem Q66 {P:Program} {f g kt:Nat} (S:SortKeys P f g kt):Qg1 P f (JA g kt):=by
 intro W B M h w args ad v h' dP H hv hF;unfold JA at hF
 split at hF
 case h_2=>cases hF
 rename_i x0;obtain⟨hc,hF⟩:=Qd hF;obtain⟨a,b,rfl,rfl⟩:=Qap hc
 split at hF
 case h_1=>cases hF
 rename_i c hZ;obtain⟨_,_,_,hq0,hb⟩:=Q8v hZ;cases hq0
 -- the arguments
 have ax: ∃c',ad= #[.func (.func g) #[] #[.pointer (some c')]]/\AddrRel M ⟨c,0,none⟩ c':=by
  have h1:ad.toList.length=1:=by rw[<-hv.1];rfl
  match hq:ad.toList,h1 with
  | [u],_=>
    rw[hq]at hv;obtain⟨f',c1,d1,rfl,hf,hla,bO⟩:=hv.uncons.1.func_inv;obtain rfl:Fn.func g=f':=by simpa[FnRel]using hf
    have e1:c1= #[]:=v1P.1 (v1w hla.1.symm);rw[hb]at bO
    match hd:d1.toList,bO.1 with
    | [y],_=>
      rw[hd]at bO;obtain⟨c',rfl,hy⟩:=bO.uncons.1.ptr_inv;refine⟨c',?_,hy⟩;subst e1;apply v1P.1;rw[hq];have:d1= #[.pointer (some c')]:=v1P.1 (by rw[hd]);rw[this]
 obtain⟨c',rfl,lX⟩:=ax
 split at hF
 case h_1=>cases hF
 ·
  rename_i hmi;obtain⟨e0,hg⟩:=Q3d hmi;cases hF;obtain⟨bb,δ,Sz,x,hρ,hx,cc,fr,rfl,hS,hle,bS,hm⟩:=H.place lX.1 hg (by simp)
  have hδ:δ=0:=by
   rcases hm with⟨_,_,h3,_⟩| ⟨h1,_⟩| ⟨⟨s,h1,_⟩,_⟩
   · exact h3
   · cases h1
   omega
  subst hδ;have ec:=lX.2 bb 0 Sz hρ;simp only[v0e]at ec;subst ec;obtain⟨w0,jf,dG⟩:=bS 0 _ rfl;cases dG;have aV:w.cell? ⟨bb,0,none⟩=some (.map none):=by simpa[World.cell?,hx]using jf
  refine(S.no bb w (H.low hρ) aV).mono fun e w' ⟨he,dR⟩=>⟨_,M,he,.refl M,H.below dP dR,.refl _ _ _,.nils _ _⟩
 rename_i r hmi;obtain⟨e0,hg⟩:=Q3d hmi
 split at hF
 case h_2=>cases hF
 rename_i es cl bC;unfold Q1T at hF
 split at hF
 case h_1=>cases hF
 rename_i ks np;obtain⟨av,hF⟩:=Qd hF;obtain⟨bb,δ,Sz,x,hρ,hx,cc,fr,rfl,hS,hle,bS,hm⟩:=H.place lX.1 hg (by simp)
 have hδ:δ=0:=by
  rcases hm with⟨_,_,h3,_⟩| ⟨h1,_⟩| ⟨⟨s,h1,_⟩,_⟩
  · exact h3
  · cases h1
  omega
 subst hδ;have ec:=lX.2 bb 0 Sz hρ;simp only[v0e]at ec;subst ec;obtain⟨w0,jf,dG⟩:=bS 0 _ rfl;cases dG;rename_i r' bU;have aV:w.cell? ⟨bb,0,none⟩=some (.map (some r')):=by simpa[World.cell?,hx]using jf
 obtain⟨b2,δ2,S2,x2,hρ2,jd,rfl,ak,rfl,jA⟩:=H.place bU.1 bC (by simp);have er:=bU.2 b2 0 S2 hρ2;subst er;obtain⟨D0,how,jT,cq,hle5⟩:=Qeq S.ty jd jA np av;have hmx:(100000:Nat)<=maxLen:=by decide
 refine(S.yes bb r' ak.size D0 _ w (H.low hρ) aV how (by omega) (by omega)).mono fun e w' ⟨u,ss,he,iO,aq,kW,dR⟩=>?_;have mG:=Q69 ss ks (iO.trans jT);have hlen:ss.length=(Q1U ks).length:=by rw[(J4 ks).length_eq,(iO.trans jT).length_eq]
 split at hF
 · rename_i mJ;cases hF;obtain rfl:=kW.2 (v1w (by rw[hlen,mJ];rfl));exact⟨_,M,he,.refl M,H.below dP dR,.refl _ _ _,.nils _ _⟩
 rename_i y ys mJ;cases hF;have lP:ss.length=ys.length+1:=by rw[hlen,mJ];rfl
 rcases aq.2 with⟨rfl,hz⟩| ⟨gb,cap,cur,rfl,oh,hgb,r1,r2,r3,r4⟩
 · omega
 have hK: ¬M.K h.n:=fun hk=>by have:=H.kn _ hk;omega
 have ev:=Mp.add_ev M h.n gb 0 cap 2 hK;have H1:=(H.below dP dR).allocX (.cells ((y::ys).map (Value.int .i64)) kt 3)
 refine⟨_,M.add h.n gb 0 cap 2,he,ev,H1.place_new (fun j c δ S' hj e=>?_) (v0t H.size oh) hK (by rw[Hp.n_alloc];omega) (Hp.get_alloc_self _ _) hgb ?_,⟨by rw[Hp.n_alloc];omega,fun i hi hk _=>⟨fun bc=>?_,by rw[Hp.get_alloc,if_neg (by omega)]⟩⟩,by rw[lP];exact .sl ⟨Or.inl rfl,fun b δ S' aZ=>(by
  simp only[Mp.add,if_true,v0h.injEq,Prod.mk.injEq]at aZ;obtain⟨rfl,rfl,rfl⟩:=aZ
  exact .inr ⟨1,by simp[Mp.add],.inl ⟨rfl,by omega,by simp⟩⟩)⟩⟩
 · have:=H.low hj;omega
 · have cK:cur.toList.take ss.length=(y::ys).map (Value.int .i64):=by
    rw[Nat.mul_one]at r4;rw[r4,mG,mJ]
   refine⟨cur,(0,0),rfl,by omega,by simp;omega,fun j v hj=>?_,.inr (.inr ⟨⟨1,rfl,by simp[Mp.add]⟩,fun j _=>by simp⟩)⟩;rw[<-cK,v1q]at hj
   split at hj
   · refine⟨v,by simpa using hj,?_⟩
     have:v∈(y::ys).map (Value.int .i64):=by
      rw[<-cK];exact v0m (i:=j) (by rw[v1q,if_pos (by assumption)];exact hj)
     obtain⟨n,_,rfl⟩:=v0H.1 this;exact .int _ _
   cases hj
 rcases bc with e|bc
 · omega
 exact hk bc
noncomputable def envSm (E:Env) (g:Nat) (F:List Value->Hp->Option (Value×Hp)) (hl:Qg1 E.P g F):Env:=
 { E with
   sm:=fun f=>cond (v0d f g) (some F) (E.sm f)
   hsm :=fun f F' hf=>by
    cases hb:v0d f g with
    | true=>
      rw[hb]at hf;simp only[cond_true,v0h.injEq]at hf;subst hf;have:=(Qz _ _).1 hb;subst this;exact hl
    |false=>rw[hb]at hf;exact E.hsm f F' hf
   q:=false
   hq:=fun h=>by cases h}
def Qfm (M:Ms) (k:Int):Ms:=match fi k M 0 with
 |some (i,_)=>M.eraseIdx i
 |none=>M
structure MsOk (M:Ms) (cl:Nat):Prop where
 keys:(M.map (·.1)).Nodup
 born:(M.map (·.2.2)).Nodup
 lt: ∀x,x∈M->x.2.2 <cl
theorem MsOk.nil (cl:Nat):MsOk [] cl:=⟨by simp,by simp,by simp⟩
theorem Q4j {k:Int}: ∀ {M:Ms} {i:Nat},fi k M i=none->k∉M.map (·.1)
 | [],_,_=>by simp
 | (a,v,n)::r,i,h=>by
   simp only[fi]at h;by_cases e:a=k
   · rw[if_pos e]at h;cases h
   rw[if_neg e]at h;have:=Q4j h;simp only[v0B,v0r,not_or];exact⟨fun q=>e q.symm,this⟩
theorem Q2q {k:Int} {M:Ms}:Q6L M k=none↔k∉M.map (·.1):=by
 unfold Q6L;cases h:fi k M 0 with
 |none=>simpa using Q4j h
 | some x=>
   obtain⟨j,v⟩:=x;obtain⟨p,_,hp,n,h3⟩:=Q12 h;simp only[v1t,reduceCtorEq,false_iff,Classical.not_not];exact v0H.2 ⟨_,v0m h3,rfl⟩
theorem YK {α β:Type} (f:α->β) (u:α->α) (l:List α) (p:Nat) (h: ∀x,l[p]?=some x->f (u x)=f x):(l.modify p u).map f=l.map f:=by
 apply v1f;intro j;simp only[v0D,v1i];by_cases e:p=j
 · subst e;cases hx:l[p]? with
   |none=>simp
   |some x=>simp[h x hx]
 simp[e]
theorem MsOk.put {M:Ms} {cl:Nat} (x:MsOk M cl) (k:Int) (v:Value):MsOk (Q7A M k v cl).1 (Q7A M k v cl).2:=by
 unfold Q7A;cases h:fi k M 0 with
 | none=>
   have hk:=Q4j h;refine⟨?_,?_,fun y hy=>?_⟩
   · simp only[v0G,v0B,v1u];rw[v0L];exact⟨x.keys,by simp,fun a ha b hb=>by simp at hb;subst hb;exact fun e=>hk (e▸ha)⟩
   · simp only[v0G,v0B,v1u];rw[v0L];refine⟨x.born,by simp,fun a ha b hb=>?_⟩;simp at hb;subst hb;obtain⟨y,hy,rfl⟩:=v0H.1 ha;have:=x.lt y hy;omega
   simp only[v0x,v0X]at hy;rcases hy with hy|rfl
   · have:=x.lt y hy;show _ <cl+1;omega
   show cl <cl+1;omega
 | some q=>
   obtain⟨i,w⟩:=q;obtain⟨p,hp,_,n,h3⟩:=Q12 h;simp only[v0e]at hp;subst hp;refine⟨?_,?_,fun y hy=>?_⟩
   · show((M.modify i _).map _).Nodup;rw[YK _ _ _ _ (fun z hz=>by rw[h3]at hz;cases hz;rfl)];exact x.keys
   · show((M.modify i _).map _).Nodup;rw[YK (fun x:Int×Value×Nat=>x.2.2) (fun x=>(k,v,x.2.2)) _ _ (fun z _=>rfl)];exact x.born
   have:y.2.2∈(M.modify i fun z=>(k,v,z.2.2)).map (·.2.2):=v0H.2 ⟨y,hy,rfl⟩;rw[YK (fun x:Int×Value×Nat=>x.2.2) (fun x=>(k,v,x.2.2)) _ _ (fun z _=>rfl)]at this;obtain⟨z,hz,e⟩:=v0H.1 this;have:=x.lt z hz;show y.2.2 <cl;omega
theorem MsOk.del {M:Ms} {cl:Nat} (x:MsOk M cl) (k:Int):MsOk (Qfm M k) cl:=by
 unfold Qfm;cases h:fi k M 0 with
 |none=>exact x
 | some q=>
   obtain⟨i,w⟩:=q;have hs:(M.eraseIdx i).Sublist M:=List.eraseIdx_sublist M i;exact⟨x.keys.sublist (hs.map _),x.born.sublist (hs.map _),fun y hy=>x.lt y (hs.subset hy)⟩
theorem Q83 {k k':Int}: ∀(M:Ms) (s p:Nat) (u:Value),(M.map (·.1)).Nodup->fi k M s=some (s+p,u)->
 (fi k' (M.eraseIdx p) s).map (·.2)=if k'=k then none else(fi k' M s).map (·.2)
 | [],_,_,_,_,h=>by simp[fi]at h
 | (a, w,n)::r,s,p,u,hn,h=>by
   simp only[v0B,v0R]at hn;simp only[fi]at h;by_cases e:a=k
   · rw [if_pos e]at h;have hp:p=0:=by simp at h;omega
     subst hp;subst e;simp only[List.eraseIdx_cons_zero,fi];by_cases e':k'=a
     · subst e';rw[if_pos rfl];have:Q6L r k'=none:=Q2q.2 hn.1;cases hq:fi k' r s with
       |none=>rfl
       | some y=>
         obtain⟨j,v⟩:=y;obtain⟨p,_,hp,m,h3⟩:=Q12 hq;exact absurd (v0H.2 ⟨_,v0m h3,rfl⟩) hn.1
     rw[if_neg e',if_neg (fun x=>e' x.symm)]
     have jk: ∀(M:Ms) (s t:Nat),(fi k' M s).map (·.2)=(fi k' M t).map (·.2):=by
      intro M
      induction M with
      |nil=>intro s t;rfl
      | cons y r ih=>
        intro s t;obtain⟨b,c,d⟩:=y;simp only[fi]
        split
        · rfl
        exact ih _ _
     exact jk _ _ _
   rw[if_neg e]at h;cases p with
   | zero=>
     obtain⟨q,h1,_⟩:=Q12 h;omega
   | succ p=>
     simp only[List.eraseIdx_cons_succ,fi];by_cases e':a=k'
     · rw[if_pos e',if_pos e',if_neg (fun x=>e (e'.trans x))]
     rw[if_neg e',if_neg e'];exact Q83 r (s+1) p u hn.2 (by rw[h];congr 2;omega)
theorem Qfg {M:Ms} {cl:Nat} (x:MsOk M cl) (k k':Int):Q6L (Qfm M k) k'=if k'=k then none else Q6L M k':=by
 unfold Qfm Q6L;cases h:fi k M 0 with
 | none=>
   by_cases e:k'=k
   · subst e;simp[h]
   simp[e]
 | some q=>
   obtain⟨i,u⟩:=q;exact Q83 M 0 i u x.keys (by rw[h,v0e])
section
variable {E:Env} {fn:FuncId} {nt:Nat} {l l':Kn} {h h':Hp} {dr:Bool} {ops:Array Oper} {fin rest:List (Oper×List Oper)} {R:Kn->Hp->Prop} {lt:List Oper}
variable {d:Nat} {ty:TypeId} {pos:String} {af:Array Edge} {gg:Option (Nat×Bool)} {x y z:Operand} {v u:Value} {t t2:TypeId}
theorem Q5I {α β:Type} (f:α->β): ∀(l:List α) (i:Nat),(l.map f).eraseIdx i=(l.eraseIdx i).map f
 | [],_=>rfl
 |_::_,0=>rfl
 |a::r,i+1=>by simp only[v0B,List.eraseIdx_cons_succ,Q5I f r i]
theorem Qcl {kt et:TypeId} {M:Ms} {cl r:Nat} {k:Int} (m:MapT E t kt et) (g:Gd ops l gg) (hx:evl l x=some (.map (some r))) (hy:evl l y=some (.int .i64 k))
 (hg:h.get r=some (.map (M.map ent) cl)) (aD:k∈M.map (·.1)) (ha: ∀q,q∈lt->Again E ops l (h.put r (.map ((Qfm M k).map ent) cl)) q)
 (q:WL E fn nt dr ops fin rest l (h.put r (.map ((Qfm M k).map ent) cl)) R):
 WL E fn nt dr ops fin ((⟨none,.call ⟨.builtin .delete,#[x,y],#[t,t2]⟩,ty,pos,af,gg⟩,lt)::rest) l h R:=by
 refine JY (v:=.tuple #[]) g rfl (fun _ ag=>?_) wn0 ha q;simp only[QW,ZI,Zx,List.getElem?_toArray,v0W,List.map_toArray,v0B,v1u,ag.ev hx,ag.ev hy,Q16,m.und,hg,Q0f m.key,cond_true,Q0m m.key,Qfm];cases hf:fi k M 0 with
 |none=>exact absurd aD (Q4j hf)
 | some q=>
   obtain⟨i,w⟩:=q;simp only[Q5I]
end
theorem Q5k: ∀M:Ms,(∀x,x∈M->(Lit.int .i64 x.1).wf=true)->Q5l (M.map ent)=some (M.map (·.1))
 | [],_=>rfl
 | x::r,h=>by
   have h1:=h x (by simp);simp only[v0B,Q5l,Q5k r fun y hy=>h y (by simp[hy]),keyI,ent,h1,decide_true,cond_true]
theorem Q8f {M:Ms} {cl:Nat} (x:MsOk M cl) (hl:M.length<=100000):Q4P (M.map ent) cl (M.map (·.1))=true:=by
 have e:(M.map ent).map (·.born)=M.map (·.2.2):=by rw[List.map_map];rfl
 simp only[Q4P,v0g,v0u,QT,Qr,v0v];refine⟨⟨⟨fun y hy=>?_,?_⟩,(Kg _).2 x.keys⟩,hl⟩
 · obtain⟨z,hz,rfl⟩:=v0H.1 hy;exact x.lt z hz
 rw[e];exact(Kg _).2 x.born
theorem Q68 {M:Ms} {cl:Nat} {h:Hp} {elem:Nat} (x:MsOk M cl) (hl:M.length<=100000) (hw: ∀y,y∈M->(Lit.int .i64 y.1).wf=true):
 ∃v h' bs,Q1T elem (M.map ent) cl h=some (v,h')/\Sl elem h' v ((Q1U (M.map (·.1))).map (Value.int .i64)) bs/\Ext h h'/\(∀i,i∈bs->h.n<=i)/\KD h h':=by
 unfold Q1T;rw[Q5k M hw];simp only[Q8f x hl,cond_true];cases hs:Q1U (M.map (·.1))with
 |nil=>exact⟨_,_,[],rfl,.inl ⟨rfl,rfl,rfl⟩,.refl _,by simp,.refl _⟩
 | cons y ys=>
   exact⟨_,_,[h.n],rfl,.inr ⟨h.n,3,by simp,Hp.get_alloc_self _ _,.inr rfl,by rw[Hp.n_alloc];omega,rfl⟩,Ext.alloc _ _,by simp,KD.alloc _ _⟩
theorem Q67 {M:Ms} {cl c r g t:Nat} {h:Hp} {elem:Nat} (x:MsOk M cl) (hl:M.length<=100000) (hw: ∀y,y∈M->(Lit.int .i64 y.1).wf=true) (hc:h.get c=some (.cells [.map (some r)] t 0)) (hr:h.get r=some (.map (M.map ent) cl)):
 ∃v h' bs,JA g elem [.func (.func g) #[] #[.pointer (some ⟨c,0,none⟩)]] h=some (v,h')/\Sl elem h' v ((Q1U (M.map (·.1))).map (Value.int .i64)) bs/\Ext h h'/\(∀i,i∈bs->h.n<=i)/\KD h h':=by
 have e:JA g elem [.func (.func g) #[] #[.pointer (some ⟨c,0,none⟩)]] h=Q1T elem (M.map ent) cl h:=by
  simp only[JA,isFn,v0I,Qc9,Qcw,hc,hr];rfl
 rw[e];exact Q68 x hl hw
section
variable {E:Env} {fn:FuncId} {nt:Nat} {l l':Kn} {h h':Hp} {dr:Bool} {ops:Array Oper} {fin rest:List (Oper×List Oper)} {R:Kn->Hp->Prop} {lt:List Oper}
variable {d:Nat} {ty t aI:TypeId} {pos:String} {af:Array Edge} {gg:Option (Nat×Bool)} {x y:Operand} {v u w:Value} {op:BinOp}
theorem o_bin (g:Gd ops l gg) (hd:v0a d nt=true) (hx:evl l x=some u) (hy:evl l y=some w) (hv:Q4C E h op t x y u w=some v) (q:WL E fn nt dr ops fin rest ((d,v)::l) h R):
 WL E fn nt dr ops fin ((⟨some d,.binOp op t x y aI,ty,pos,af,gg⟩,lt)::rest) l h R:=
 QA g rfl (fun _ ag=>by simp only[QL,ag.ev hx,ag.ev hy,hv]) (wn hd) q
end
theorem eqN_of {E:Env} {h:Hp} {n:Nat} {t:TypeId} {u w:Value} {b:Bool} (he:Zf E h 1 t u w=some b):eqN E h n t u w=some b:=by
 cases n with
 |zero=>exact he
 | succ n=>
   unfold eqN
   split
   · simp only[Zf]at he
     split at he
     · cases he
     rename_i d _;cases d<;>cases he
   exact he
theorem Y0 {E:Env} {h:Hp} {xs ys:Array Value} {f:Field} {fs:List Field} {u w:Value} {b c:Bool} (hn:(f.name== "_")=false) (hu:Q09 E f.type xs f.offset=some u) (hw:Q09 E f.type ys f.offset=some w) (he:Zf E h 1 f.type u w=some b)
 (hr:ZH E h xs ys fs=some c):ZH E h xs ys (f::fs)=some (b&&c):=by
 unfold ZH at*;simp only[Y1,hn,cond_false,hu,hw,eqN_of he];cases b
 · rfl
 simpa using hr
theorem Qdd {E:Env} {h:Hp} {t:TypeId} {x y:Operand} {xs ys:Array Value} {fs:Array Field} {r:Bool} (hu:E.und t=some (.struct fs)) (hg:(E.P.eqGuardType E.P.depth t||E.P.stoodInHeld t)=false) (hs:ZH E h xs ys fs.toList=some r):
 Q4C E h .neq t x y (.agg xs) (.agg ys)=some (.bool (!r)):=by
 simp only[Q4C,hu,hg,cond_false,hs,QO]
theorem ExtB.join {A C:List Nat} {h h1 h2:Hp} (x:ExtB A h h1) (y:ExtB C h1 h2) (d: ∀i,i∈C->i∈A\/h.n<=i):ExtB A h h2:=
 ⟨v0t x.n y.n,fun i hi hA=>(y.get i (v0p hi x.n) fun hc=>(d i hc).elim hA fun h1=>by omega).trans (x.get i hi hA)⟩
def SlC (e:TypeId) (z:Nat) (h:Hp) (s:Value) (cs:List Value) (n:Nat) (bs:List Nat):Prop:=
 (s=.slice none 0 0/\cs=[]/\n=0/\bs=[])\/ ∃b m c rest,s=.slice (some ⟨b,0,none⟩) n c/\h.get b=some (.cells (cs++rest) e m)/\(m=0\/m=z+3)/\b <h.n/\bs=[b]/\cs.length=n*(z+1)/\n<=c/\rest.length=(c -n)*(z+1)
section
variable {e z:Nat} {h h':Hp} {s:Value} {cs:List Value} {n:Nat} {bs ds:List Nat}
theorem SlN.toC (x:SlN e z h s cs n bs):SlC e z h s cs n bs:=by
 rcases x with x| ⟨b,m,h1,h2,h3,h4,h5,h6⟩
 · exact .inl x
 exact .inr ⟨b,m,n,[],h1,by simpa using h2,h3,h4,h5,h6,v0b _,by simp⟩
theorem SlC.keep (x:SlC e z h s cs n bs) (g:ExtB ds h h') (hd: ∀i,i∈bs->i∉ds):SlC e z h' s cs n bs:=by
 rcases x with x| ⟨b,m,c,rest,h1,h2,h3,h4,rfl,h5⟩
 · exact .inl x
 exact .inr ⟨b,m,c,rest,h1,by rw[g.get b h4 (hd b (by simp))];exact h2,h3,v0p h4 g.n,rfl,h5⟩
theorem SlC.ext (x:SlC e z h s cs n bs) (g:Ext h h'):SlC e z h' s cs n bs:=x.keep (g.b []) (by simp)
theorem SlC.lt (x:SlC e z h s cs n bs): ∀i,i∈bs->i <h.n:=by
 rcases x with⟨_,_,_,rfl⟩| ⟨b,m,c,rest,h1,h2,h3,h4,rfl,_⟩<;>simp
 exact h4
theorem SlC.val (x:SlC e z h s cs n bs): ∃a c,s=.slice a n c:=by
 rcases x with⟨rfl,_,rfl,_⟩| ⟨b,m,c,rest,rfl,_⟩
 · exact⟨none,0,rfl⟩
 exact⟨_,_,rfl⟩
theorem SlC.at (x:SlC e z h s cs n bs) (hn:0 <n):
 ∃b m c rest,s=.slice (some ⟨b,0,none⟩) n c/\h.get b=some (.cells (cs++rest) e m)/\(m=0\/m=z+3)/\b <h.n/\bs=[b]/\cs.length=n*(z+1)/\n<=c/\rest.length=(c -n)*(z+1):=by
 rcases x with⟨_,_,rfl,_⟩|x
 · simp at hn
 exact x
theorem SlC.first {b:Nat} {c:Nat} (x:SlC e z h (.slice (some ⟨b,0,none⟩) n c) cs n bs) {k:Nat} (hk:k<=n):SlC e z h (.slice (some ⟨b,0,none⟩) k c) (cs.take (k*(z+1))) k bs:=by
 rcases x with⟨h1,_⟩| ⟨b',m,c',rest,h1,h2,h3,h4,rfl,h5,h6,h7⟩
 · cases h1
 cases h1;have hm:k*(z+1)<=n*(z+1):=v1a _ hk;have lM:n*(z+1)<=c*(z+1):=v1a _ h6;refine .inr ⟨b,m,c,cs.drop (k*(z+1))++rest,rfl,?_,h3,h4,rfl,by simp;omega,by omega,?_⟩
 · rw[<-v0F,v01];exact h2
 rw[v0j,List.length_drop,h5,h7,v1x,v1x];omega
theorem QfS {E:Env} {t by' q m':Nat} {xs:List Value} (x:ElN E t e z by') (hs:SlC e z h s cs n bs) (hq:h.get q=some (.cells xs e m')) (hx:xs.length=z+1) (hc:xs.all cellV=true)
 (hn:(n+1)*(by'+1)<=1099511627776):
 ∃v' h' aa,Zd E h t t s (.slice (some ⟨q,0,none⟩) 1 1)=some (v',h')/\SlC e z h' v' (cs++xs) (n+1) aa/\ExtB bs h h'/\ ∀i,i∈aa->i∈bs\/h.n<=i:=by
 have cx:Ju h (z+1) 1 (.slice (some ⟨q,0,none⟩) 1 1)=some xs:=by
  have e1:v0n (0+1*(z+1)) xs.length=true:=(Qr _ _).2 (by omega);have e2:v0n 1 1=true:=rfl;have e3:v0d 1 0=false:=rfl;simp only[Ju,e2,e3,cond_true,cond_false,rowOf,hq,e1,v0U];rw[v1B (by omega)]
 have e3:v0d 1 0=false:=rfl;rcases hs with⟨rfl,rfl,rfl,rfl⟩| ⟨b,m,c,rest,rfl,hb,hm,ai,rfl,hl,ib,hr⟩
 · refine⟨_,_,[h.n],?_,.inr ⟨h.n,z+3,1,[],rfl,by rw[v0k];exact Hp.get_alloc_self _ _,.inr rfl,by rw[Hp.n_alloc];omega,rfl,by simp[hx],v0b _,by simp⟩,(Ext.alloc h _).b _,by simp⟩;simp only[Zd,x.und,KT,x.size,x.bytes,cx,e3,cond_false];exact x.growX h 1 [] xs (by omega)
 have aR:(cs++xs).length=(n+1)*(z+1):=by rw[v0j,hl,hx,v1j];omega
 by_cases ju:n+1<=c
 · have e1:v0n (n+1) c=true:=(Qr _ _).2 ju;have lM:(n+1)*(z+1)<=c*(z+1):=v1a _ ju;rw[v1x]at hr;rw[v1j]at lM
   have av:Zl h ((⟨b,0,none⟩:Addr).add (n*(z+1))) xs=some (h.put b (.cells ((cs++xs)++rest.drop (z+1)) e m)):=by
    have e4:v0d m 1=false:=(Qw _ _).2 (by omega);have e5:v0n (0+n*(z+1)+xs.length) (cs++rest).length=true:=(Qr _ _).2 (by rw[v0j];omega);rw[addr_add];simp only[Zl,hb,e4,e5,v1s,v1k,cond_true,v0h.injEq]
    congr 2
    rw[v0e,v2d (by omega),v1B (by omega),List.drop_append]
    congr 1
    rw[List.drop_eq_nil_of_le (by omega),v1c]
    congr 1
    omega
   refine⟨.slice (some ⟨b,0,none⟩) (n+1) c,_,[b],?_,.inr ⟨b,m,c,rest.drop (z+1),rfl,Hp.get_put_self _ _ _,hm,by rw[Hp.n_put];exact ai,rfl,aR,ju,?_⟩,ExtB.put h b _,by simp⟩
   · simp only[Zd,x.und,KT,x.size,x.bytes,cx,e3,cond_false,e1,cond_true,av,hc]
   rw[List.length_drop,hr,v1x,v1j];omega
 have jD:c=n:=by omega
 subst jD;have dG:rest=[]:=v1w (by rw[hr];simp);subst dG;rw[v0k]at hb;obtain⟨v',h',q1,q2,q3⟩:=QfR x (.inr ⟨b,m,rfl,hb,hm,ai,rfl,hl⟩) hq hx hc hn;exact⟨v',h',[h.n],q1,q2.toC,q3,by simp⟩
end
section
variable {E:Env} {fn:FuncId} {nt:Nat} {l:Kn} {h:Hp} {dr:Bool} {ops:Array Oper} {fin rest:List (Oper×List Oper)} {R:Kn->Hp->Prop} {lt:List Oper}
variable {d:Nat} {ty t aI:TypeId} {pos:String} {af:Array Edge} {gg:Option (Nat×Bool)} {x y:Operand} {v:Value}
theorem Qch {b o n:Nat} {cs:List Value} {vs:Array Value} {e:TypeId} {m:Nat} (g:Gd ops l gg) (hx:evl l x=some (.pointer (some ⟨b,o,none⟩))) (hy:evl l y=some (.agg vs)) (hc:vs.toList.all cellV=true) (ht:E.size t=some n) (hn:vs.size=n)
 (hg:h.get b=some (.cells cs e m)) (hm:m≠1) (hv:o+n<=cs.length) (ha: ∀q,q∈lt->Again E ops l (h.put b (.cells (cs.take o++vs.toList++cs.drop (o+n)) e m)) q)
 (q:WL E fn nt dr ops fin rest l (h.put b (.cells (cs.take o++vs.toList++cs.drop (o+n)) e m)) R):
 WL E fn nt dr ops fin ((⟨none,.store t x y,ty,pos,af,gg⟩,lt)::rest) l h R:=by
 refine Q0B g rfl (fun _ ag=>?_) wn0 ha q;have hl:vs.toList.length=n:=by simpa using hn
 have e1:v0n (o+n) cs.length=true:=(Qr _ _).2 hv;have e2:v0d m 1=false:=(Qw _ _).2 hm;have e3:v0d vs.size n=true:=(Qz _ _).2 hn;simp only[QW,ag.ev hx,ag.ev hy,Q1R,ht,Value.cells,e3,hc,v1k,cond_true,Zl,hg,hl,e1,e2,v1s]
theorem QfT {k:IntKind} {a b:Int} {op:BinOp} (g:Gd ops l gg) (hx:evl l x=some (.int k a)) (hy:evl l y=some (.int k b)) (hs:KY op=false) (hv:Y4 op k a b=some v) (hl:lk l d=some v) (hw:sameV 20 v v=true):
 Again E ops l h ⟨some d,.binOp op t x y aI,ty,pos,af,gg⟩:=
 .inr ⟨g,v,d,rfl,hl,hw,fun _ ag=>by simp only[QL,ag.ev hx,ag.ev hy,Q4C,hs,cond_false,Zc,cond_true,hv]⟩
theorem Q39 {bb o n c z by' e:Nat} {k:IntKind} {vs:List Value} {m:Nat} {j:Int} (el:ElN E t e z by') (g:Gd ops l gg) (hd:v0a d nt=true) (hx:evl l x=some (.slice (some ⟨bb,o,none⟩) n c)) (hy:evl l y=some (.int k j))
 (hg:h.get bb=some (.cells vs e m)) (hm:m=0\/m=z+3) (h1:0<=j) (h2:j<=c)
 (q:WL E fn nt dr ops fin rest ((d,.slice (some ⟨bb,o,none⟩) j.toNat c)::l) h R):WL E fn nt dr ops fin ((⟨some d,.slice t x none (some y) none,ty,pos,af,gg⟩,lt)::rest) l h R:=
 QA g rfl (fun _ ag=>by
  have hb:Yg 0 j.toNat c=true:=ZR.2 ⟨Nat.zero_le _,by omega⟩;rcases hm with rfl|rfl
  · simp only[QL,ag.ev hx,Option.map_none,v1t,ag.ev hy,YF,el.und,el.size,ZG,Yi h1,ZP,hg,hb,cond_true,v1G,addr_add,Nat.add_zero,Nat.sub_zero,Bool.cond_self]
  simp only[QL,ag.ev hx,Option.map_none,v1t,ag.ev hy,YF,el.und,el.size,ZG,Yi h1,ZP,hg,hb,v0I,Bool.and_self,cond_true,v1G,addr_add,Nat.add_zero,Nat.sub_zero]) (wn hd) q
end
def QbJ (z:Nat) (h:Hp) (s:Value) (cs:List Value) (n:Nat):Prop:=KT s=some n/\Ju h (z+1) n s=some cs/\cs.length=n*(z+1)
section
variable {e z:Nat} {h h':Hp} {s w:Value} {cs xs:List Value} {n m:Nat} {bs ds:List Nat}
theorem Q7k {b o c:Nat} {all:List Value} {m':Nat} (hg:h.get b=some (.cells all e m')) (hl:o+n*(z+1)<=all.length):QbJ z h (.slice (some ⟨b,o,none⟩) n c) ((all.drop o).take (n*(z+1))) n:=by
 refine⟨rfl,?_,by simp;omega⟩;have e1:v0n n n=true:=(Qr _ _).2 (v0b _);simp only[Ju,e1,cond_true];cases hn:v0d n 0 with
 | true=>
   have:=(Qz _ _).1 hn;subst this;simp
 | false=>
   have e2:v0n (o+n*(z+1)) all.length=true:=(Qr _ _).2 hl;simp only[cond_false,rowOf,hg,e2,cond_true]
theorem SlC.src (x:SlC e z h s cs n bs):QbJ z h s cs n:=by
 rcases x with⟨rfl,rfl,rfl,rfl⟩| ⟨b,m,c,rest,rfl,hb,_,_,_,hl,_,_⟩
 · exact⟨rfl,rfl,by simp⟩
 have:=Q7k (z:=z) (n:=n) (c:=c) (o:=0) hb (by rw[v0j];omega);rw[v0U,v2d (by omega),v1B (by omega)]at this;exact this
end
section
variable {E:Env} {fn:FuncId} {nt:Nat} {l:Kn} {h:Hp} {dr:Bool} {ops:Array Oper} {fin rest:List (Oper×List Oper)} {R:Kn->Hp->Prop} {lt:List Oper}
variable {d:Nat} {ty t:TypeId} {pos:String} {af:Array Edge} {gg:Option (Nat×Bool)} {x y:Operand} {v sv:Value}
theorem Q1H {b o n:Nat} {cs:List Value} {e:TypeId} {m:Nat} (g:Gd ops l gg) (hx:evl l x=some (.pointer (some ⟨b,o,none⟩))) (hc:isA E t=true) (hn:E.size t=some n)
 (hg:h.get b=some (.cells cs e m)) (hv:o+n<=cs.length) (hl:lk l d=some (.agg ((cs.drop o).take n).toArray)) (hs:sameV 20 (.agg ((cs.drop o).take n).toArray) (.agg ((cs.drop o).take n).toArray)=true):
 Again E ops l h ⟨some d,.load t x,ty,pos,af,gg⟩:=
 .inr ⟨g,_,d,rfl,hl,hs,fun _ ag=>by simp only[QL,ag.ev hx,Q2h hc hn hg hv]⟩
theorem Qcj {lo:Int} {k:IntKind} (g:Gd ops l gg) (hd:v0a d nt=true) (hx:evl l x=some sv) (hy:evl l y=some (.int k lo)) (hv:YF E h t sv (some (.int k lo)) none none=some v)
 (q:WL E fn nt dr ops fin rest ((d,v)::l) h R):WL E fn nt dr ops fin ((⟨some d,.slice t x (some y) none none,ty,pos,af,gg⟩,lt)::rest) l h R:=
 QA g rfl (fun _ ag=>by simp only[QL,ag.ev hx,Option.map_none,v1t,ag.ev hy,hv]) (wn hd) q
theorem Qbv {lo:Int} {k:IntKind} (g:Gd ops l gg) (hx:evl l x=some sv) (hy:evl l y=some (.int k lo)) (hv:YF E h t sv (some (.int k lo)) none none=some v) (hl:lk l d=some v) (hs:sameV 20 v v=true):
 Again E ops l h ⟨some d,.slice t x (some y) none none,ty,pos,af,gg⟩:=
 .inr ⟨g,v,d,rfl,hl,hs,fun _ ag=>by simp only[QL,ag.ev hx,Option.map_none,v1t,ag.ev hy,hv]⟩
end
noncomputable section
end
noncomputable section
end
section
variable {E:Env} {fn:FuncId} {nt:Nat} {tm:Tr Value} {df:List Deferred} {kd:CallKind} {ro:Option Nat} {cs:List Fr} {k:List It} {ops:Array Oper}
end
section
variable {E:Env} {fn:FuncId} {nt:Nat} {l:Kn} {h:Hp} {dr:Bool} {ops:Array Oper} {fin rest:List (Oper×List Oper)} {R:Kn->Hp->Prop} {lt:List Oper}
variable {d:Nat} {ty aI:TypeId} {pos:String} {af:Array Edge} {gg:Option (Nat×Bool)} {x y:Operand} {t:TypeId} {s u:ByteArray}
end
structure Res where
 own:List Nat
 P:Hp->Prop
 st: ∀h h':Hp,(∀i,i∈own->i <h.n/\h'.get i=h.get i)->h.n<=h'.n->P h->P h'
def owns (L:List Res):List Nat:=L.flatMap Res.own
theorem Z2 (r:Res) (L:List Res):owns (r::L)=r.own++owns L:=rfl
theorem QN (A B:List Res):owns (A++B)=owns A++owns B:=by simp[owns]
theorem QK {L:List Res} {r:Res} {i:Nat} (h:r∈L) (hi:i∈r.own):i∈owns L:=List.mem_flatMap.2 ⟨r,h,hi⟩
def cR (b:Nat) (o:AObj):Res:=⟨[b],fun h=>h.get b=some o,fun h h' e _ p=>by rw[(e b (by simp)).2];exact p⟩
def slR (e z:Nat) (s:Value) (cs:List Value) (n:Nat) (bs:List Nat):Res:=⟨bs,fun h=>SlC e z h s cs n bs,fun h h' k hn p=>by
 rcases p with p| ⟨b,m,c,rest,h1,h2,h3,h4,h5,h6⟩
 · exact .inl p
 have:=k b (by rw[h5];simp)
 exact .inr ⟨b,m,c,rest,h1,by rw[this.2];exact h2,h3,v0p this.1 hn,h5,h6⟩⟩
structure SH (h0:Hp) (ds:List Nat) (L:List Res) (h:Hp):Prop where
 ext:ExtB ds h0 h
 hold: ∀r,r∈L->r.P h
 lt: ∀i,i∈owns L->i <h.n
 new: ∀i,i∈owns L->i∈ds\/h0.n<=i
 nd:(owns L).Nodup
section
variable {h0 h h':Hp} {ds:List Nat} {L A B:List Res} {r r':Res} {b i:Nat} {o:AObj}
theorem SH.start (h:Hp):SH h [] [] h:=⟨.refl _ _,by simp,by simp[owns],by simp[owns],by simp[owns]⟩
theorem SH.begin {L:List Res} (hp: ∀r,r∈L->r.P h) (hl: ∀i,i∈owns L->i <h.n) (nd:(owns L).Nodup):SH h (owns L) L h:=⟨.refl _ _,hp,hl,fun _ hi=>.inl hi,nd⟩
theorem SH.one (hp:r.P h) (hl: ∀i,i∈r.own->i <h.n) (nd:r.own.Nodup):SH h r.own [r] h:=by
 have e:owns [r]=r.own:=by simp[owns]
 have:=SH.begin (L:=[r]) (h:=h) (by simpa using hp) (by rw[e];exact hl) (by rw[e];exact nd);rwa[e]at this
theorem SH.cel (S:SH h0 ds L h) (i:Nat) (e:L[i]?=some (cR b o)):h.get b=some o:=S.hold _ (v0m e)
theorem SH.sl (S:SH h0 ds L h) (i:Nat) {et z n:Nat} {s:Value} {cs:List Value} {bs:List Nat} (e:L[i]?=some (slR et z s cs n bs)):SlC et z h s cs n bs:=S.hold _ (v0m e)
theorem SH.res (S:SH h0 ds L h) (i:Nat) (e:L[i]?=some r):r.P h:=S.hold _ (v0m e)
theorem SH.lt1 (S:SH h0 ds L h) (i:Nat) (e:L[i]?=some (cR b o)):b <h.n:=S.lt _ (QK (v0m e) (by simp[cR]))
theorem SH.old (S:SH h0 ds L h) (hg:h0.get b=some o) (hb:b <h0.n) (hd:b∉ds):h.get b=some o:=(S.ext.get b hb hd).trans hg
theorem SH.e0 (S:SH h0 [] L h):Ext h0 h:=S.ext.nil
theorem SH.old0 (S:SH h0 [] L h) (hg:h0.get b=some o) (hb:b <h0.n):h.get b=some o:=S.old hg hb (by simp)
theorem Q3O {L:List Res} {i:Nat} {r:Res} (e:L[i]?=some r) (r':Res): ∃A B,L=A++r::B/\L.set i r'=A++r'::B:=by
 obtain⟨ai,rfl⟩:=v0y.1 e;refine⟨L.take i,L.drop (i+1),?_,?_⟩
 · rw[<-List.drop_eq_getElem_cons ai,v01]
 rw[List.set_eq_take_append_cons_drop,if_pos ai]
theorem SH.upd (S:SH h0 ds L h) (i:Nat) (e:L[i]?=some r) (g:ExtB r.own h h') (hp:r'.P h') (hl: ∀j,j∈r'.own->j <h'.n) (hn: ∀j,j∈r'.own->j∈r.own\/h.n<=j) (nd:r'.own.Nodup):SH h0 ds (L.set i r') h':=by
 obtain⟨A,B,rfl,e2⟩:=Q3O e r';rw[e2];have lC:=S.nd;rw[QN,Z2]at lC;simp only[v0L,v0x]at lC;obtain⟨na,⟨nr,nb,rb⟩,ab⟩:=lC;have eW:=S.lt;have db:=S.new;simp only[QN,Z2,v0x]at eW db;refine⟨S.ext.join g fun j hj=>db j (.inr (.inl hj)),fun q hq=>?_,fun j hj=>?_,fun j hj=>?_,?_⟩
 · rcases v0x.1 hq with hq|hq
   · refine q.st h h' (fun j hj=>?_) g.n (S.hold q (by simp[hq]));have hjA:=QK hq hj;exact⟨eW j (.inl hjA),g.get j (eW j (.inl hjA)) fun hr=>ab j hjA j (.inl hr) rfl⟩
   rcases v0r.1 hq with rfl|hq
   · exact hp
   refine q.st h h' (fun j hj=>?_) g.n (S.hold q (by simp[hq]));have hjB:=QK hq hj;exact⟨eW j (.inr (.inr hjB)),g.get j (eW j (.inr (.inr hjB))) fun hr=>rb j hr j hjB rfl⟩
 · simp only[QN,Z2,v0x]at hj;rcases hj with hj|hj|hj
   · exact v0p (eW j (.inl hj)) g.n
   · exact hl j hj
   exact v0p (eW j (.inr (.inr hj))) g.n
 · simp only[QN,Z2,v0x]at hj;rcases hj with hj|hj|hj
   · exact db j (.inl hj)
   · rcases hn j hj with h1|h1
     · exact db j (.inr (.inl h1))
     exact .inr (v0t S.ext.n h1)
   exact db j (.inr (.inr hj))
 rw[QN,Z2];simp only[v0L,v0x];refine⟨na,⟨nd,nb,fun j hj k hk ejk=>?_⟩,fun j hj k hk ejk=>?_⟩
 · subst ejk;rcases hn j hj with h1|h1
   · exact rb j h1 j hk rfl
   have:=eW j (.inr (.inr hk));omega
 subst ejk;rcases hk with hk|hk
 · rcases hn j hk with h1|h1
   · exact ab j hj j (.inl h1) rfl
   have:=eW j (.inl hj);omega
 exact ab j hj j (.inr hk) rfl
theorem SH.push (S:SH h0 ds L h) (g:Ext h h') (hp:r.P h') (hl: ∀j,j∈r.own->j <h'.n) (hn: ∀j,j∈r.own->h.n<=j) (nd:r.own.Nodup):SH h0 ds (r::L) h':=by
 refine⟨S.ext.join (g.b []) (by simp),fun q hq=>?_,fun j hj=>?_,fun j hj=>?_,?_⟩
 · rcases v0r.1 hq with rfl|hq
   · exact hp
   exact q.st h h' (fun j hj=>⟨S.lt j (QK hq hj),g.get j (S.lt j (QK hq hj))⟩) g.n (S.hold q hq)
 · rw[Z2]at hj;rcases v0x.1 hj with hj|hj
   · exact hl j hj
   exact v0p (S.lt j hj) g.n
 · rw[Z2]at hj;rcases v0x.1 hj with hj|hj
   · exact .inr (v0t S.ext.n (hn j hj))
   exact S.new j hj
 rw[Z2,v0L];exact⟨nd,S.nd,fun j hj k hk e=>by subst e;have:=S.lt j hk;have:=hn j hj;omega⟩
theorem SH.grow (S:SH h0 ds L h) (g:Ext h h'):SH h0 ds L h':=
 ⟨S.ext.join (g.b []) (by simp),fun q hq=>q.st h h' (fun j hj=>⟨S.lt j (QK hq hj),g.get j (S.lt j (QK hq hj))⟩) g.n (S.hold q hq),fun j hj=>v0p (S.lt j hj) g.n,S.new,S.nd⟩
theorem SH.alloc (S:SH h0 ds L h) (o:AObj):SH h0 ds (cR h.n o::L) (h.alloc o):=
 S.push (Ext.alloc h o) (Hp.get_alloc_self _ _) (by simp[cR,Hp.n_alloc]) (by simp[cR]) (by simp[cR])
theorem SH.put (S:SH h0 ds L h) (i:Nat) (e:L[i]?=some (cR b o)) (o':AObj):SH h0 ds (L.set i (cR b o')) (h.put b o'):=
 S.upd i e (ExtB.put h b o') (Hp.get_put_self _ _ _) (by have:=S.lt1 i e;simp[cR,Hp.n_put];omega) (by simp[cR]) (by simp[cR])
theorem SH.nilSl (S:SH h0 ds L h) (e z:Nat):SH h0 ds (slR e z (.slice none 0 0) [] 0 []::L) h:=S.push (Ext.refl _) (.inl ⟨rfl,rfl,rfl,rfl⟩) (by simp[slR]) (by simp[slR]) (by simp[slR])
theorem SH.toSl {b e z n m:Nat} {cs:List Value} (S:SH h0 ds L h) (i:Nat) (hi:L[i]?=some (cR b (.cells cs e m))) (hm:m=0\/m=z+3) (hn:cs.length=n*(z+1)):SH h0 ds (L.set i (slR e z (.slice (some ⟨b,0,none⟩) n n) cs n [b])) h:=
 S.upd i hi (ExtB.refl _ _) (.inr ⟨b,m,n,[],rfl,by rw[v0k];exact S.cel i hi,hm,S.lt1 i hi,rfl,hn,v0b _,by simp⟩) (by have:=S.lt1 i hi;simp[slR];exact this) (by simp[slR,cR]) (by simp[slR])
theorem SH.sub (S:SH h0 ds L h) (p:(A++B).Perm L):SH h0 ds A h:=by
 have pm: ∀r,r∈A->r∈L:=fun r hr=>p.subset (by simp[hr]);have po:(owns (A++B)).Perm (owns L):=p.flatMap_right _;refine⟨S.ext,fun r hr=>S.hold r (pm r hr),fun i hi=>S.lt i (po.subset (by rw[QN];simp[hi])),fun i hi=>S.new i (po.subset (by rw[QN];simp[hi])),?_⟩;have:=po.nodup_iff.2 S.nd;rw[QN,v0L]at this;exact this.1
theorem SH.drop (S:SH h0 ds (r::L) h):SH h0 ds L h:=S.sub (B:=[r]) (by
 simp)
theorem SH.swap {q:Res} (S:SH h0 ds (r::q::L) h):SH h0 ds (q::r::L) h:=by
 have:=S.sub (A:=q::r::L) (B:=[]) (by rw[v0k];exact List.Perm.swap r q L);exact this
end
def RowV (h:Hp) (v:Value) (xs:List Value):Prop:=(xs=[]/\ ∃a c,v=.slice a 0 c)\/ ∃b o c cs e m,v=.slice (some ⟨b,o,none⟩) xs.length c/\h.get b=some (.cells cs e m)/\b <h.n/\ ∀i (hi:i <xs.length),cs[o+i]?=some xs[i]
section
variable {h h':Hp} {v:Value} {xs:List Value}
theorem RowV.ext (x:RowV h v xs) (g:Ext h h'):RowV h' v xs:=by
 rcases x with x| ⟨b,o,c,cs,e,m,h1,h2,h3,h4⟩
 · exact .inl x
 exact .inr ⟨b,o,c,cs,e,m,h1,(g.get b h3).trans h2,v0p h3 g.n,h4⟩
theorem RowV.val (x:RowV h v xs): ∃a c,v=.slice a xs.length c:=by
 rcases x with⟨rfl,a,c,h1⟩| ⟨b,o,c,cs,e,m,h1,_⟩
 · exact⟨a,c,h1⟩
 exact⟨_,c,h1⟩
theorem RowV.at (x:RowV h v xs) (hn:0 <xs.length): ∃b o c cs e m,v=.slice (some ⟨b,o,none⟩) xs.length c/\h.get b=some (.cells cs e m)/\b <h.n/\ ∀i (hi:i <xs.length),cs[o+i]?=some xs[i]:=by
 rcases x with⟨rfl,_⟩|x
 · simp at hn
 exact x
theorem SlC.row {e:Nat} {n:Nat} {bs:List Nat} (x:SlC e 0 h v xs n bs):RowV h v xs:=by
 rcases x with⟨h1,h2,h3,_⟩| ⟨b,m,c,rest,h1,h2,_,h4,_,h5,_⟩
 · exact .inl ⟨h2,none,0,h1⟩
 have hl:xs.length=n:=by omega
 refine .inr ⟨b,0,c,_,e,m,by rw[hl];exact h1,h2,h4,fun i hi=>?_⟩;rw[v0e,List.getElem?_append_left hi,v0c hi]
theorem RowV.valM {α:Type} {f:α->Value} {ys:List α} (x:RowV h v (ys.map f)): ∃a c,v=.slice a ys.length c:=by
 have:=x.val;rwa[v0v]at this
theorem RowV.atM {α:Type} {f:α->Value} {ys:List α} (x:RowV h v (ys.map f)) (hn:0 <ys.length): ∃b o c cs e m,v=.slice (some ⟨b,o,none⟩) ys.length c/\h.get b=some (.cells cs e m)/\b <h.n/\ ∀i (hi:i <ys.length),cs[o+i]?=some (f ys[i]):=by
 obtain⟨b,o,c,cs,e,m,h1,h2,h3,h4⟩:=x.at (by rw[v0v];exact hn);refine⟨b,o,c,cs,e,m,by rw[v0v]at h1;exact h1,h2,h3,fun i hi=>?_⟩;rw[h4 i (by rw[v0v];exact hi),v1K]
theorem RowV.nil:RowV h (.slice none 0 0) []:=.inl ⟨rfl,none,0,rfl⟩
end
section
variable {E:Env} {fn:FuncId} {nt:Nat} {l:Kn} {h h0:Hp} {dr:Bool} {ops:Array Oper} {fin rest:List (Oper×List Oper)} {R:Kn->Hp->Prop} {lt:List Oper} {ds:List Nat} {L:List Res}
variable {d:Nat} {ty t:TypeId} {pos:String} {af:Array Edge} {gg:Option (Nat×Bool)} {x y:Operand} {v:Value}
theorem Qx {e:TypeId} {zv:Value} (S:SH h0 ds L h) (g:Gd ops l gg) (hd:v0a d nt=true) (hz:E.zero e=some zv)
 (q: ∀b h',h0.n<=b->SH h0 ds (cR b (.cells zv.cells.toList e 0)::L) h'->WL E fn nt dr ops fin rest ((d,.pointer (some ⟨b,0,none⟩))::l) h' R):
 WL E fn nt dr ops fin ((⟨some d,.alloc e,ty,pos,af,gg⟩,lt)::rest) l h R:=Q9R g hd hz (q _ _ S.ext.n (S.alloc _))
theorem Z9 {e:TypeId} (S:SH h0 ds L h) (g:Gd ops l gg) (hd:v0a d nt=true) (hx:evl l x=some v)
 (q: ∀b h',h0.n<=b->SH h0 ds (cR b (.cells v.cells.toList e 0)::L) h'->WL E fn nt dr ops fin rest ((d,.pointer (some ⟨b,0,none⟩))::l) h' R):
 WL E fn nt dr ops fin ((⟨some d,.box e x,ty,pos,af,gg⟩,lt)::rest) l h R:=Q9Q g hd hx (q _ _ S.ext.n (S.alloc _))
theorem YG (S:SH h0 ds L h) (g:Gd ops l gg) (hd:v0a d nt=true)
 (q: ∀b h',h0.n<=b->SH h0 ds (cR b (.map (([]:Ms).map ent) 0)::L) h'->WL E fn nt dr ops fin rest ((d,.map (some b))::l) h' R):
 WL E fn nt dr ops fin ((⟨some d,.makeMap t none,ty,pos,af,gg⟩,lt)::rest) l h R:=Q57 g hd (q _ _ S.ext.n (S.alloc _))
theorem JC {k k':IntKind} {n c:Int} {e z by':Nat} {zv:Value} (S:SH h0 ds L h) (g:Gd ops l gg) (hd:v0a d nt=true) (hx:evl l x=some (.int k n)) (hy:evl l y=some (.int k' c)) (hu:E.und t=some (.slice e)) (hs:E.size e=some (z+1))
 (hz:E.zero e=some zv) (hb:E.bytes e=some by') (lF:zv.cells.size=z+1) (h0':0<=n) (h1:n<=c) (h2:c<=1099511627776) (h3:by'*c.toNat<=140737488355328)
 (q: ∀b h',h0.n<=b->SH h0 ds (cR b (.cells (Qj zv.cells.toList c.toNat) e 0)::L) h'->WL E fn nt dr ops fin rest ((d,.slice (some ⟨b,0,none⟩) n.toNat c.toNat)::l) h' R):
 WL E fn nt dr ops fin ((⟨some d,.makeSlice t x y,ty,pos,af,gg⟩,lt)::rest) l h R:=Q6r g hd hx hy hu hs hz hb lF h0' h1 h2 h3 (q _ _ S.ext.n (S.alloc _))
theorem Qc {ps:Array (Nat×Operand)} {n:Nat} {e z:Nat} {zv:Value} {cs:Array Value} (pv:List (Nat×Value)) (S:SH h0 ds L h) (g:Gd ops l gg) (hd:v0a d nt=true) (hu:E.und t=some (.slice e)) (hs:E.size e=some (z+1))
 (hz:E.zero e=some zv) (hn:(v0n (n*(z+1)) (2^24)&&v0d zv.cells.size (z+1))=true)
 (hv:ps.toList.map (fun p=>(p.1,evl l p.2))=pv.map (fun p=>(p.1,some p.2))) (hf:Instr.fill (fun i=>some (i*(z+1),z+1)) (Qj zv.cells.toList n).toArray pv=some cs)
 (q: ∀b h',h0.n<=b->SH h0 ds (cR b (.cells cs.toList e 0)::L) h'->WL E fn nt dr ops fin rest ((d,.slice (some ⟨b,0,none⟩) n n)::l) h' R):
 WL E fn nt dr ops fin ((⟨some d,.buildSlice t n ps,ty,pos,af,gg⟩,lt)::rest) l h R:=Q58 pv g hd hu hs hz hn hv hf (q _ _ S.ext.n (S.alloc _))
theorem Qg {b o:Nat} {cs:List Value} {e:TypeId} {m:Nat} (i:Nat) (S:SH h0 ds L h) (g:Gd ops l gg) (hx:evl l x=some (.pointer (some ⟨b,o,none⟩))) (hy:evl l y=some v) (hc:cellV v=true) (ht:E.size t=some 1)
 (hg:L[i]?=some (cR b (.cells cs e m))) (hm:m≠1) (hv:o <cs.length) (ha: ∀h',SH h0 ds (L.set i (cR b (.cells (cs.set o v) e m))) h'-> ∀q,q∈lt->Again E ops l h' q)
 (q: ∀h',SH h0 ds (L.set i (cR b (.cells (cs.set o v) e m))) h'->WL E fn nt dr ops fin rest l h' R):
 WL E fn nt dr ops fin ((⟨none,.store t x y,ty,pos,af,gg⟩,lt)::rest) l h R:=Q6p g hx hy hc ht (S.cel i hg) hm hv (ha _ (S.put i hg _)) (q _ (S.put i hg _))
theorem Qi {b n:Nat} {cs:List Value} {vs:Array Value} {e:TypeId} {m:Nat} (i:Nat) (S:SH h0 ds L h) (g:Gd ops l gg) (hx:evl l x=some (.pointer (some ⟨b,0,none⟩))) (hy:evl l y=some (.agg vs)) (hc:vs.toList.all cellV=true) (ht:E.size t=some n) (hn:vs.size=n)
 (hg:L[i]?=some (cR b (.cells cs e m))) (hm:m≠1) (hv:cs.length=n) (ha: ∀h',SH h0 ds (L.set i (cR b (.cells vs.toList e m))) h'-> ∀q,q∈lt->Again E ops l h' q)
 (q: ∀h',SH h0 ds (L.set i (cR b (.cells vs.toList e m))) h'->WL E fn nt dr ops fin rest l h' R):
 WL E fn nt dr ops fin ((⟨none,.store t x y,ty,pos,af,gg⟩,lt)::rest) l h R:=Qci g hx hy hc ht hn (S.cel i hg) hm hv (ha _ (S.put i hg _)) (q _ (S.put i hg _))
theorem SlC.nodup {e z:Nat} {h:Hp} {s:Value} {cs:List Value} {n:Nat} {bs:List Nat} (x:SlC e z h s cs n bs):bs.Nodup:=by
 rcases x with⟨_,_,_,rfl⟩| ⟨b,m,c,rest,h1,h2,h3,h4,rfl,_⟩<;>simp
theorem SlC.cellV {e z:Nat} {h:Hp} {s:Value} {cs:List Value} {n:Nat} {bs:List Nat} (x:SlC e z h s cs n bs):Go.X.cellV s=true:=by
 obtain⟨a,c,rfl⟩:=x.val;rfl
theorem QM {e z by' qb m' n:Nat} {s:Value} {cs xs:List Value} {bs:List Nat} (i j:Nat) (S:SH h0 ds L h) (el:ElN E t e z by') (g:Gd ops l gg) (hd:v0a d nt=true) (hx:evl l x=some s) (hy:evl l y=some (.slice (some ⟨qb,0,none⟩) 1 1))
 (hi:L[i]?=some (slR e z s cs n bs)) (hj:L[j]?=some (cR qb (.cells xs e m'))) (hl:xs.length=z+1) (hc:xs.all cellV=true) (hn:(n+1)*(by'+1)<=1099511627776)
 (ha: ∀s' aa h',SH h0 ds (L.set i (slR e z s' (cs++xs) (n+1) aa)) h'-> ∀q,q∈lt->Again E ops ((d,s')::l) h' q)
 (q: ∀s' aa h',SH h0 ds (L.set i (slR e z s' (cs++xs) (n+1) aa)) h'->WL E fn nt dr ops fin rest ((d,s')::l) h' R):
 WL E fn nt dr ops fin ((⟨some d,.call ⟨.builtin .append,#[x,y],#[t,t]⟩,ty,pos,af,gg⟩,lt)::rest) l h R:=by
 obtain⟨v',h',aa,q1,q2,q3,q4⟩:=QfS el (S.sl i hi) (S.cel j hj) hl hc hn;have S':=S.upd (r':=slR e z v' (cs++xs) (n+1) aa) i hi q3 q2 q2.lt q4 q2.nodup;exact YS g hd hx hy q1 (ha _ _ _ S') (q _ _ _ S')
section
variable {k:IntKind} {a b:Int} {t aI:TypeId}
end
theorem ZF {a b:Code} {Q:Out->Kn->Hp->Prop} (lc:Kn) (P:Kn->Hp->Prop) (q:W E fn nt a l h (Cut (fun l' h'=> ∃lv,l'=lv++lc/\P lv h') Q)) (q2: ∀lv h,P lv h->W E fn nt b (lv++lc) h Q):W E fn nt (.seq a b) l h Q:=
 w_cut _ q (by rintro l' h' ⟨lv,rfl,p⟩;exact q2 lv h' p)
theorem cutS {P:Kn->Hp->Prop} {lc:Kn} {Q:Out->Kn->Hp->Prop} (lv:Kn) (s:Sub (lv++lc) l) (p:P lv h):Cut (fun l' h'=> ∃lv,l'=lv++lc/\P lv h') Q .next l h:=⟨_,s,lv,rfl,p⟩
theorem QdV {b:Code} {Q:Out->Kn->Hp->Prop} (lv lc:Kn) (s:Sub (lv++lc) l) (I:Nat->Kn->Hp->Prop) {n:Nat} (start:I n lv h)
 (round: ∀n lv h,I n lv h->W E fn nt b (lv++lc) h (Rnd (fun n l h=> ∃lv,l=lv++lc/\I n lv h) n Q)):W E fn nt (.loop b) l h Q:=
 Q1J (lv++lc) s (Q8Y (fun n l h=> ∃lv,l=lv++lc/\I n lv h) ⟨lv,rfl,start⟩ (by rintro n l h ⟨lv,rfl,hI⟩;exact round n lv h hI))
theorem rndS {I:Nat->Kn->Hp->Prop} {n:Nat} {lc:Kn} {Q:Out->Kn->Hp->Prop} (m:Nat) (hm:m <n) (lv:Kn) (s:Sub (lv++lc) l) (hI:I m lv h):Rnd (fun n l h=> ∃lv,l=lv++lc/\I n lv h) n Q .next l h:=
 ⟨m,hm,_,s,lv,rfl,hI⟩
end
open Go.ChangeShapes Go.WideShapes Go.ChangeAt
inductive Sz (P:Program) (h:Hp) (B:Nat):TypeId->List Value->Prop
 |struct {t fs cs} (ht:P.underlying t=some (.struct fs)) (hf: ∀(i:Nat) (f:Field),fs[i]?=some f->Sz P h B f.type ((cs.drop f.offset).take (P.cellsOf f.type))):Sz P h B t cs
 |nils {t e} (ht:P.underlying t=some (.slice e)):Sz P h B t [.slice none 0 0]
 |slice {t e} (ht:P.underlying t=some (.slice e)) (a:Option Addr) (n c:Nat) (hw:n*P.bytesOf e<=B)
  (hr: ∀b o xs u m,a=some ⟨b,o,none⟩->h.get b=some (.cells xs u m)-> ∀i,i <n->Sz P h B e ((xs.drop (o+i*P.cellsOf e)).take (P.cellsOf e))):Sz P h B t [.slice a n c]
 |other {t cs} (ht: ∀fs,P.underlying t≠some (.struct fs)) (hs: ∀e,P.underlying t≠some (.slice e)):Sz P h B t cs
theorem Q00 {H:Type} {P:Program} {e:TypeId}: ∀ {l:List (DataW H)} {d:DataW H},d∈l-> ∀n∈d.weights P e,n∈DataW.weightsAll P e l
 | d0::l,d,hd,n,hn=>by
   simp only[DataW.weightsAll,v0x];rcases v0r.1 hd with rfl|hd
   · exact .inl hn
   exact .inr (Q00 hd n hn)
section
variable {P:Program} {H:Type} {enc:TypeId×Value->H} {W:World} {B:Nat}
theorem J3: ∀(fuel:Nat) (t:TypeId) (cs:List Value) (x:DataW H×List MemPlace),(∀v,v∈cs->Q6l v<=Q3t W)->(∀n,n∈x.1.weights P t->n<=B)->DataW.trod enc P W 0 (fun _=>true) true fuel t cs=some x->Sz P (Hp.all W) B t (cs.map (JB (Mp.all W)))
 |0,_,_,_,_,_,h=>by simp[DataW.trod]at h
 | fuel+1,t,cs,x,hb,hB,h=>by
   by_cases h1: ∃fs,P.underlying t=some (.struct fs)
   · obtain⟨fs,hd⟩:=h1;obtain⟨xs,n,e,rfl,hl,eZ,hf⟩:=DataW.trod_struct hd h;cases e;refine .struct hd fun i f hi=>?_;have jz:=(v0V.1 hi).1;have ai:i <xs.length:=by rw[eZ];exact jz
     have h1:=hf i f hi;rw[v0c ai]at h1;rw[<-List.map_drop,<-List.map_take];refine J3 fuel _ _ _ (fun v hv=>hb v (List.mem_of_mem_drop (List.mem_of_mem_take hv))) (fun m hm=>hB m ?_) h1;simp only[DataW.weights,hd];exact DataW.weights_mem_each (j:=i) (t:=f.type) (d:=xs[i].1) (by rw[v0D,Array.getElem?_toList,hi];rfl) (by rw[v0D,v0c ai];rfl) m hm
   by_cases h2: ∃e,P.underlying t=some (.slice e)
   · obtain⟨e,hd⟩:=h2;rcases DataW.trod_slice hd h with⟨rfl,_⟩| ⟨a,len,cap,elems,rest,n,en,rfl,rfl,_,hle,hm,hlen,hel,_,_⟩
     · rw[Kq (.nils 0 0)];exact .nils hd
     cases en;have eU:a.block <Q3t W:=by have:=hb _ (List.mem_singleton_self _);simp only[Q6l]at this;omega
     rw[Kq (Q1a a len cap eU)];have hw:(elems.length+rest.length)*P.bytesOf e<=B:=hB _ (by simp[DataW.weights,hd]);refine .slice hd (some a) len cap (v0t (v1a _ (by omega)) hw) fun b o xs u m ea hg i hi=>?_;cases ea;have h1:=hel i hi;rw[v0c (by omega)]at h1;cases hc:W.cells? 0 ((⟨b,o,none⟩:Addr).add (i*P.cellsOf e)) (P.cellsOf e)with
     |none=>rw[hc]at h1;cases h1
     | some cs'=>
       rw[hc]at h1;obtain⟨_,aR,ke⟩:=World.cells?_some hc
       have hz:=J3 fuel e cs' elems[i] (fun v hv=>by
        obtain⟨j,hj,rfl⟩:=List.mem_iff_getElem.1 hv
        exact Q4G (a:=((⟨b,o,none⟩:Addr).add (i*P.cellsOf e)).add j) (by rw[ke j (by omega),v0c hj])) (fun m' ft=>hB m' (by
         simp only[DataW.weights,hd,v0r,v0x]
         exact .inr (.inl (Q00 (v1b (f:=Prod.fst) (v0M _)) m' ft)))) h1
       have ex:(xs.drop (o+i*P.cellsOf e)).take (P.cellsOf e)=cs'.map (JB (Mp.all W)):=by
        rw[Hp.all_get]at hg;unfold Jx at hg
        split at hg
        · rename_i c u' fr hx;cases hg;rw[<-List.map_drop,<-List.map_take]
          congr 1
          apply v1f;intro j;by_cases hj:j <P.cellsOf e
          · rw[List.getElem?_take_of_lt hj,List.getElem?_drop,<-ke j hj,addr_add,addr_add];simp[World.cell?,hx]
          rw[v02 (by rw[List.length_take];omega),v02 (by omega)]
        all_goals first|cases hg|simp at hg
       rw[ex];exact hz
   exact .other (fun fs e=>h1 ⟨fs,e⟩) (fun e e'=>h2 ⟨e,e'⟩)
end
section
variable {P:Program} {h:Hp} {B:Nat} {t:TypeId} {cs:List Value}
theorem Sz.fld {fs:Array Field} (x:Sz P h B t cs) (hs:P.underlying t=some (.struct fs)) (i o e:Nat) {f:Field} (hi:fs[i]?=some f) (hf:f.type=e/\f.offset=o):Sz P h B e ((cs.drop o).take (P.cellsOf e)):=by
 obtain⟨rfl,rfl⟩:=hf;cases x with
 |struct ht hf=>rw[hs]at ht;cases ht;exact hf i f hi
 |nils ht=>rw[hs]at ht;cases ht
 |slice ht=>rw[hs]at ht;cases ht
 |other ht _=>exact absurd hs (ht _)
theorem Sz.inv {e:TypeId} {a:Option Addr} {n c:Nat} (x:Sz P h B t [.slice a n c]) (hs:P.underlying t=some (.slice e)):n*P.bytesOf e<=B/\
 ∀b o xs u m,a=some ⟨b,o,none⟩->h.get b=some (.cells xs u m)-> ∀i,i <n->Sz P h B e ((xs.drop (o+i*P.cellsOf e)).take (P.cellsOf e)):=by
 cases x with
 |struct ht=>rw[hs]at ht;cases ht
 |nils _=>exact⟨by rw[v1G];exact Nat.zero_le _,fun _ _ _ _ _ e=>by cases e⟩
 |slice ht a n c hw hr=>rw[hs]at ht;cases ht;exact⟨hw,hr⟩
 |other _ ht=>exact absurd hs (ht _)
end
section
variable {K:Type} [DecidableEq K]
abbrev MsK (K:Type):=List (K×Value×Nat)
def Zp (enc:K->Value) (x:K×Value×Nat):MapEntry:= {key:=enc x.1,val:=x.2.1,born:=x.2.2}
def fK (k:K):MsK K->Nat->Option (Nat×Value)
 | [],_=>none
 |(a,v,_)::r,i=>if k=a then some (i,v)else fK k r (i+1)
def Jt (M:MsK K) (k:K):Option Value:=(fK k M 0).map (·.2)
def J7 (M:MsK K) (k:K) (v:Value) (cl:Nat):MsK K×Nat:=match fK k M 0 with
 |some (i,_)=>(M.modify i fun x=>(k,v,x.2.2),cl)
 |none=>(M++[(k,v,cl)],cl+1)
structure KeyT (E:Env) (t kt et:TypeId) (enc:K->Value):Prop where
 und:E.und t=some (.map kt et)
 eq: ∀h a b,KV E h kt (enc a) (enc b)=some (decide (a=b))
 ok: ∀a,Y8 E kt (enc a)=true
variable {E:Env} {t kt et:TypeId} {enc:K->Value}
theorem KeyT.find (T:KeyT E t kt et enc) (h:Hp) (k:K): ∀(M:MsK K) (i:Nat),JU E h kt (enc k) (M.map (Zp enc)) i=some (fK k M i)
 | [],_=>rfl
 | (a,v,n)::r,i=>by
   simp only[v0B,JU,Zp,T.eq,fK];by_cases e:k=a
   · subst e;simp
   simp only[e,decide_false,if_false];exact T.find h k r (i+1)
theorem Q13 {k:K}: ∀ {M:MsK K} {i j:Nat} {v:Value},fK k M i=some (j,v)-> ∃p,j=i+p/\p <M.length/\ ∃n,M[p]?=some (k,v,n)
 | [],_,_,_,h=>by simp[fK]at h
 | (a,u,n)::r,i,j,v,h=>by
   simp only[fK]at h;by_cases e:k=a
   · rw[if_pos e]at h;cases h;exact⟨0,rfl,by simp,n,by simp[e]⟩
   rw[if_neg e]at h;obtain⟨p,h1,h2,m,h3⟩:=Q13 h;exact⟨p+1,by omega,by simp;omega,m,by simpa using h3⟩
theorem Q5G {k k':K} {v:Value}: ∀(M:MsK K) (s p:Nat) (u:Value),fK k M s=some (s+p,u)->
 (fK k' (M.modify p fun x=>(k,v,x.2.2)) s).map (·.2)=if k'=k then some v else(fK k' M s).map (·.2)
 | [],_,_,_,h=>by simp[fK]at h
 | (a,w,n)::r,s,p,u,h=>by
   simp only[fK]at h;by_cases e:k=a
   · rw[if_pos e]at h;have hp:p=0:=by simp at h;omega
     subst hp;simp only[v2m,fK];by_cases e':k'=k
     · subst e';simp
     rw[if_neg e',if_neg e',if_neg (fun x=>e' (x.trans e.symm))]
   rw[if_neg e]at h;cases p with
   | zero=>
     obtain⟨q,h1,_⟩:=Q13 h;omega
   | succ p=>
     simp only[v1d,fK];by_cases e':k'=a
     · rw[if_pos e',if_pos e',if_neg (fun x=>e (x.symm.trans e'))]
     rw[if_neg e',if_neg e'];exact Q5G r (s+1) p u (by rw[h];congr 2;omega)
theorem Q5H {k k':K} {v:Value} {c:Nat}: ∀(M:MsK K) (s:Nat),fK k M s=none->(fK k' (M++[(k,v,c)]) s).map (·.2)=if k'=k then some v else(fK k' M s).map (·.2)
 | [],s,_=>by
   simp only[v1c,fK];by_cases e:k'=k
   · subst e;simp
   rw[if_neg e,if_neg e]
 | (a,w,n)::r,s,h=>by
   simp only[fK]at h;by_cases e:k=a
   · rw[if_pos e]at h;cases h
   rw[if_neg e]at h;simp only[List.cons_append,fK];by_cases e':k'=a
   · rw[if_pos e',if_pos e',if_neg (fun x=>e (x.symm.trans e'))]
   rw[if_neg e',if_neg e'];exact Q5H r (s+1) h
theorem Kw (M:MsK K) (k k':K) (v:Value) (cl:Nat):Jt (J7 M k v cl).1 k'=if k'=k then some v else Jt M k':=by
 unfold J7 Jt;cases h:fK k M 0 with
 |none=>exact Q5H M 0 h
 | some x=>
   obtain⟨i,u⟩:=x;exact Q5G M 0 i u (by rw[h,v0e])
theorem Q1F (k:K):Jt ([]:MsK K) k=none:=rfl
structure OkK {K2:Type} (M:MsK K2) (cl:Nat):Prop where
 nd:(M.map (·.2.2)).Nodup
 lt: ∀x,x∈M->x.2.2 <cl
 ks:(M.map (·.1)).Nodup
theorem OkK.nil {K2:Type} (cl:Nat):OkK ([]:MsK K2) cl:=⟨by simp,by simp,by simp⟩
theorem Jr {α β:Type} (f:α->β) (g:α->α) {x:α}: ∀ {l:List α} {i:Nat},l[i]?=some x->f (g x)=f x->(l.modify i g).map f=l.map f
 | [],_,h,_=>by simp at h
 |a::l,0,h,e=>by simp at h;subst h;simp[e]
 |a::l,i+1,h,e=>by simp at h;simp[Jr f g h e]
theorem QaR {k:K}: ∀ {M:MsK K} {i:Nat},fK k M i=none->k∉M.map (·.1)
 | [],_,_=>by simp
 | (a,v,n)::r,i,h=>by
   simp only[fK]at h;by_cases e:k=a
   · rw[if_pos e]at h;cases h
   rw[if_neg e]at h;have:=QaR h;simp only[v0B,v0r,not_or];exact⟨e,this⟩
theorem Q0i {k:K}: ∀ {M:MsK K},(M.map (·.1)).Nodup-> ∀x,x∈M->x.1=k->Jt M k=some x.2.1
 | [],_,_,h,_=>by cases h
 | (a, v,n)::r,nd,x,h,e=>by
   unfold Jt;simp only[fK];simp only[v0B,v0R]at nd;rcases v0r.1 h with rfl|h
   · rw[if_pos e.symm];rfl
   have:k≠a:=fun q=>nd.1 (by rw[<-q,<-e];exact v1b h);rw[if_neg this];have ih:=Q0i nd.2 x h e
   have sh: ∀(M:MsK K) i j,(fK k M i).map (·.2)=(fK k M j).map (·.2):=fun M=>by
    induction M with
    |nil=>intro i j;rfl
    | cons y M ih=>
      intro i j;obtain⟨b,u,m⟩:=y;simp only[fK]
      split
      · rfl
      exact ih _ _
   unfold Jt at ih;rw[sh r _ 0];exact ih
theorem Q4d {k:K} {M:MsK K} (h:k∉M.map (·.1)):Jt M k=none:=by
 unfold Jt;cases e:fK k M 0 with
 |none=>rfl
 | some p=>
   obtain⟨i,v⟩:=p;obtain⟨q,_,_,n,h3⟩:=Q13 e;exact absurd (v1b (f:=fun x:K×Value×Nat=>x.1) (v0m h3)) h
theorem KE {α β:Type} (f:α->β) (g:α->α) (hg: ∀x,f (g x)=f x): ∀(l:List α) (i:Nat),(l.modify i g).map f=l.map f
 | [],_=>by simp
 |a::l,0=>by simp[hg]
 |a::l,i+1=>by simp[KE f g hg l i]
theorem Q2c {α:Type} (g:α->α) {x:α}: ∀ {l:List α} {i:Nat},x∈l.modify i g->x∈l\/ ∃y,y∈l/\x=g y
 | [],_,h=>by simp at h
 | a::l,0,h=>by
   simp only[v2m,v0r]at h;rcases h with rfl|h
   · exact .inr ⟨a,by simp,rfl⟩
   exact .inl (by simp[h])
 | a::l,i+1,h=>by
   simp only[v1d,v0r]at h;rcases h with rfl|h
   · exact .inl (by simp)
   rcases Q2c g h with h| ⟨y,h1,h2⟩
   · exact .inl (by simp[h])
   exact .inr ⟨y,by simp[h1],h2⟩
theorem OkK.put {M:MsK K} {cl:Nat} (x:OkK M cl) (k:K) (v:Value):OkK (J7 M k v cl).1 (J7 M k v cl).2:=by
 unfold J7
 split
 · rename_i i u hf;obtain⟨p,hp,_,n0,h3⟩:=Q13 hf;have hp:i=p:=by omega
   subst hp
   refine⟨by
    show((M.modify _ fun x=>(k,v,x.2.2)).map (fun x:K×Value×Nat=>x.2.2)).Nodup;rw[KE (f:=fun x:K×Value×Nat=>x.2.2) (g:=fun x=>(k,v,x.2.2)) (hg:=fun _=>rfl)];exact x.1,fun y hy=>?_,by
    show((M.modify _ fun x=>(k,v,x.2.2)).map (fun x:K×Value×Nat=>x.1)).Nodup
    rw[Jr (f:=fun x:K×Value×Nat=>x.1) (g:=fun x=>(k,v,x.2.2)) h3 rfl];exact x.ks⟩
   rcases Q2c _ hy with h| ⟨z,h1,rfl⟩
   · exact x.2 y h
   exact x.2 z h1
 rename_i hf;refine⟨?_,fun y hy=>?_,?_⟩
 rotate_left
 rotate_left
 · rw[v0G,v0L];refine⟨x.ks,by simp,fun a ha b hb e=>?_⟩;simp at hb;exact QaR hf (hb▸e▸ha)
 · rw[v0G,v0L];refine⟨x.1,by simp,fun a ha b hb e=>?_⟩;obtain⟨y,hy,rfl⟩:=v0H.1 ha;have:=x.2 y hy;simp at hb;omega
 rcases v0x.1 hy with h|h
 · have:=x.2 y h;omega
 simp at h;subst h;simp
def Yr (M:MsK K) (k:K) (z:Value) (cl:Nat):Value×Nat×MsK K×Nat:=match fK k M 0 with
 |some (i,v)=>(v,(M[i]?.map (·.2.2)).getD 0,M,cl)
 |none=>(z,cl,M++[(k,z,cl)],cl+1)
theorem Q92 (M:MsK K) (k:K) (z:Value) (cl:Nat):(Yr M k z cl).1=(Jt M k).getD z:=by
 unfold Yr Jt;cases fK k M 0<;>rfl
theorem Q0v {K2:Type} {enc:K2->Value}: ∀ {M:MsK K2} {p:Nat} {x:K2×Value×Nat},(M.map (·.2.2)).Nodup->M[p]?=some x->(M.map (Zp enc)).findIdx? (fun e=>v0d e.born x.2.2)=some p
 | [],_,_,_,h=>by simp at h
 | y::M,0,x,_,h=>by
   simp only[v0W,v0h.injEq]at h;subst h;simp[v2a,Zp]
 | y::M,p+1,x,nd,h=>by
   simp only[v0B,v0R]at nd;rw[List.getElem?_cons_succ]at h;have ao: ¬(y.2.2=x.2.2):=fun e=>nd.1 (e▸v1b (f:=fun x:K2×Value×Nat=>x.2.2) (v0m h));have hb:v0d y.2.2 x.2.2=false:=(Qw _ _).2 ao;simp only[v0B,v2a,Zp,hb];have:=Q0v (enc:=enc) nd.2 h;simp only[this];rfl
theorem J9 {K2:Type} {enc:K2->Value} (f:K2×Value×Nat->K2×Value×Nat) (g:MapEntry->MapEntry) (hg: ∀x,Zp enc (f x)=g (Zp enc x)): ∀(M:MsK K2) (i:Nat),(M.map (Zp enc)).modify i g=(M.modify i f).map (Zp enc)
 | [],_=>by simp
 |a::l,0=>by simp[hg]
 |a::l,i+1=>by simp[J9 f g hg l i]
theorem modify_last {α:Type} (g:α->α) (x:α): ∀A:List α,(A++[x]).modify A.length g=A++[g x]
 | []=>by simp
 |a::l=>by simp[modify_last g x l]
theorem Q5c {α:Type} (g:α->α) {x:α}: ∀ {l:List α} {i:Nat},l[i]?=some x->g x=x->l.modify i g=l
 | [],_,h,_=>by simp at h
 |a::l,0,h,e=>by simp at h;subst h;simp[e]
 |a::l,i+1,h,e=>by simp at h;simp[Q5c g h e]
section
variable {fn:FuncId} {nt:Nat} {l:Kn} {h h0:Hp} {dr:Bool} {ops:Array Oper} {fin rest:List (Oper×List Oper)} {R:Kn->Hp->Prop} {lt:List Oper} {ds:List Nat} {L:List Res}
variable {d:Nat} {ty:TypeId} {pos:String} {af:Array Edge} {gg:Option (Nat×Bool)} {x y z:Operand} {v zv:Value} {M:MsK K} {cl r:Nat} {k:K}
theorem Q5i (T:KeyT E t kt et enc) (hg:h.get r=some (.map (M.map (Zp enc)) cl)) (hz:E.zero et=some zv) (ok:Bool):
 K4 E h t (.map (some r)) (enc k) ok=some (match Jt M k with|some v=>cond ok (.tuple #[v,.bool true]) v|none=>cond ok (.tuple #[zv,.bool false]) zv):=by
 simp only[K4,T.und,mapOf,hg,T.ok,cond_true,T.find,Jt];cases fK k M 0 with
 |none=>simp[hz]
 |some x=>rfl
theorem Zv (T:KeyT E t kt et enc) (g:Gd ops l gg) (hd:v0a d nt=true) (hx:evl l x=some (.map (some r))) (hy:evl l y=some (enc k)) (hg:h.get r=some (.map (M.map (Zp enc)) cl)) (hz:E.zero et=some zv)
 (q:WL E fn nt dr ops fin rest ((d,(Jt M k).getD zv)::l) h R):WL E fn nt dr ops fin ((⟨some d,.lookup t x y false,ty,pos,af,gg⟩,lt)::rest) l h R:=
 QA g rfl (fun _ ag=>by
  simp only[QL,ag.ev hx,ag.ev hy,Q5i T hg hz]
  cases Jt M k<;>rfl) (wn hd) q
theorem QeT (T:KeyT E t kt et enc) (hg:h.get r=some (.map (M.map (Zp enc)) cl)):Ku E h t (.map (some r)) (enc k) v=some (h.put r (.map ((J7 M k v cl).1.map (Zp enc)) (J7 M k v cl).2)):=by
 simp only[Ku,T.und,hg,T.ok,cond_true,T.find,J7];cases hf:fK k M 0 with
 |none=>simp[Zp]
 | some x=>
   obtain⟨i,w⟩:=x;simp only[v0h.injEq]
   congr 2
   exact J9 (fun x=>(k,v,x.2.2)) _ (fun _=>rfl) M i
theorem QV (i:Nat) (S:SH h0 ds L h) (T:KeyT E t kt et enc) (g:Gd ops l gg) (hx:evl l x=some (.map (some r))) (hy:evl l y=some (enc k)) (hz:evl l z=some v)
 (hg:L[i]?=some (cR r (.map (M.map (Zp enc)) cl))) (ha: ∀h',SH h0 ds (L.set i (cR r (.map ((J7 M k v cl).1.map (Zp enc)) (J7 M k v cl).2))) h'-> ∀q,q∈lt->Again E ops l h' q)
 (q: ∀h',SH h0 ds (L.set i (cR r (.map ((J7 M k v cl).1.map (Zp enc)) (J7 M k v cl).2))) h'->WL E fn nt dr ops fin rest l h' R):
 WL E fn nt dr ops fin ((⟨none,.mapUpdate t x y z,ty,pos,af,gg⟩,lt)::rest) l h R:=by
 refine Q0B g rfl (fun _ ag=>?_) wn0 (ha _ (S.put i hg _)) (q _ (S.put i hg _));simp only[QW,ag.ev hx,ag.ev hy,ag.ev hz,QeT T (S.cel i hg)]
theorem Q6i (i:Nat) (S:SH h0 ds L h) (T:KeyT E t kt et enc) (g:Gd ops l gg) (hd:v0a d nt=true) (hx:evl l x=some (.map (some r))) (hy:evl l y=some (enc k)) (hz:E.zero et=some zv)
 (hg:L[i]?=some (cR r (.map (M.map (Zp enc)) cl)))
 (ha: ∀h',SH h0 ds (L.set i (cR r (.map ((Yr M k zv cl).2.2.1.map (Zp enc)) (Yr M k zv cl).2.2.2))) h'-> ∀q,q∈lt->Again E ops ((d,.tuple #[(Yr M k zv cl).1,.int .i64 ((Yr M k zv cl).2.1:Nat)])::l) h' q)
 (q: ∀h',SH h0 ds (L.set i (cR r (.map ((Yr M k zv cl).2.2.1.map (Zp enc)) (Yr M k zv cl).2.2.2))) h'->WL E fn nt dr ops fin rest ((d,.tuple #[(Yr M k zv cl).1,.int .i64 ((Yr M k zv cl).2.1:Nat)])::l) h' R):
 WL E fn nt dr ops fin ((⟨some d,.mapEntry t x y,ty,pos,af,gg⟩,lt)::rest) l h R:=by
 refine JY g rfl (fun _ ag=>?_) (wn hd) (ha _ (S.put i hg _)) (q _ (S.put i hg _));have hh:=S.cel i hg;simp only[QW,ag.ev hx,ag.ev hy,Kd,T.und,hh,T.ok,cond_true,T.find];unfold Yr;cases hf:fK k M 0 with
 |none=>simp[hz,Zp]
 | some w=>
   obtain⟨j,u⟩:=w;obtain⟨p,e1,e2,n,e3⟩:=Q13 hf;have:j=p:=by omega
   subst this;have e4:(M.map (Zp enc))[j]?=some (Zp enc (k,u,n)):=by simp[e3]
   simp only[e4,e3,v1t,Option.getD_some];rw[Q5c _ e4 rfl];rfl
theorem Q3D {s:Operand} (i:Nat) (S:SH h0 ds L h) (ok:OkK M cl) (g:Gd ops l gg) (hx:evl l x=some (.map (some r))) (hy:evl l s=some (.int .i64 ((Yr M k zv cl).2.1:Nat))) (hz:evl l z=some v)
 (hg:L[i]?=some (cR r (.map ((Yr M k zv cl).2.2.1.map (Zp enc)) (Yr M k zv cl).2.2.2)))
 (ha: ∀h',SH h0 ds (L.set i (cR r (.map ((J7 M k v cl).1.map (Zp enc)) (J7 M k v cl).2))) h'-> ∀q,q∈lt->Again E ops l h' q)
 (q: ∀h',SH h0 ds (L.set i (cR r (.map ((J7 M k v cl).1.map (Zp enc)) (J7 M k v cl).2))) h'->WL E fn nt dr ops fin rest l h' R):
 WL E fn nt dr ops fin ((⟨none,.entryStore t x s z,ty,pos,af,gg⟩,lt)::rest) l h R:=by
 have hn: ∀b:Nat,JJ (.int .i64 (b:Int))=some b:=fun b=>by
  have:=Yi (k:=.i64) (j:=(b:Int)) (by omega);simpa using this
 have key:ZN h (.map (some r)) (.int .i64 ((Yr M k zv cl).2.1:Nat)) v=some (h.put r (.map ((J7 M k v cl).1.map (Zp enc)) (J7 M k v cl).2)):=by
  have hh:=S.cel i hg;simp only[ZN,hn,hh];unfold Yr J7;cases hf:fK k M 0 with
  | none=>
    have hb:((M++[(k,zv,cl)]).map (Zp enc)).findIdx? (fun e=>v0d e.born cl)=some M.length:=by
     have nd:((M++[(k,zv,cl)]).map (·.2.2)).Nodup:=by
      rw[v0G,v0L];refine⟨ok.1,by simp,fun a ha b hb e=>?_⟩;obtain⟨y,hy,rfl⟩:=v0H.1 ha;have:=ok.2 y hy;simp at hb;omega
     exact Q0v (enc:=enc) (x:=(k,zv,cl)) nd (by simp)
    simp only[hb]
    congr 2
    rw[J9 (fun x=>(x.1,v,x.2.2)) _ (fun _=>rfl)]
    congr 1
    rw[modify_last]
  | some w=>
    obtain⟨j,u⟩:=w;obtain⟨p,e1,e2,n,e3⟩:=Q13 hf;have:j=p:=by omega
    subst this;have hb:=Q0v (enc:=enc) ok.1 e3;dsimp only;simp only[e3,v1t,Option.getD_some,hb]
    have e5:M.modify j (fun x=>(x.1,v,x.2.2))=M.modify j (fun x=>(k,v,x.2.2)):=by
     apply v1f;intro q;simp only[v1i];by_cases hq:j=q
     · subst hq;simp[e3]
     simp[hq]
    rw[J9 (fun x=>(x.1,v,x.2.2)) _ (fun _=>rfl),e5]
 have S':=S.put i hg (.map ((J7 M k v cl).1.map (Zp enc)) (J7 M k v cl).2);refine Q0B g rfl (fun _ ag=>?_) wn0 (ha _ S') (q _ S');simp only[QW,ag.ev hx,ag.ev hy,ag.ev hz,key]
end
end
theorem QcL {E:Env} {kt:TypeId} (hk:E.und kt=some (.int .i64)) (h:Hp) (a b:Int):KV E h kt (.int .i64 a) (.int .i64 b)=some (decide (a=b)):=Q5n hk a b
theorem KeyT.int {E:Env} {t kt et:TypeId} (hu:E.und t=some (.map kt et)) (hk:E.und kt=some (.int .i64)):KeyT E t kt et (fun n:Int=>Value.int .i64 n):=⟨hu,fun h a b=>QcL hk h a b,fun a=>Q0f hk a⟩
section
variable {K:Type} [DecidableEq K] {enc:K->Value}
def NextM (M D:MsK K) (U:MsK K) (b:Bool) (ar:Array Value) (D':MsK K) (U':MsK K) (enc:K->Value):Prop:=
 (b=false/\U=[]/\U'=[]/\D'=D)\/(b=true/\ ∃x,D'=D++[x]/\U.Perm (x::U')/\M.Perm (D'++U')/\x∈M/\ar= #[.bool true,enc x.1,x.2.1])
omit [DecidableEq K] in
theorem NextM.yes {M D U D' U':MsK K} {b:Bool} {ar:Array Value} (x:NextM M D U b ar D' U' enc) (hb:b=true): ∃y,D'=D++[y]/\U.Perm (y::U')/\M.Perm (D'++U')/\y∈M/\ar= #[.bool true,enc y.1,y.2.1]:=by
 rcases x with⟨e,_⟩| ⟨_,x⟩
 · rw[e]at hb;cases hb
 exact x
omit [DecidableEq K] in
theorem NextM.no {M D U D' U':MsK K} {b:Bool} {ar:Array Value} (x:NextM M D U b ar D' U' enc) (hb:b=false):U=[]/\D'=D:=by
 rcases x with⟨_,e,_,e2⟩| ⟨e,_⟩
 · exact⟨e,e2⟩
 rw[e]at hb;cases hb
omit [DecidableEq K] in
theorem Qd0 {M D U:MsK K} {cl:Nat} (ok:OkK M cl) (pm:M.Perm (D++U)):(∀x,x∈U->x.2.2∉D.map (·.2.2))/\ ∀x,x∈M->x.2.2∉D.map (·.2.2)->x∈U:=by
 have nd:((D++U).map (·.2.2)).Nodup:=(pm.map _).nodup_iff.1 ok.nd;rw[v0G,v0L]at nd;refine⟨fun x hx hd=>nd.2.2 _ hd _ (v1b hx) rfl,fun x hx hd=>?_⟩;rcases v0x.1 (pm.mem_iff.1 hx)with h|h
 · exact absurd (v1b h) hd
 exact h
variable {E:Env} {fn:FuncId} {nt:Nat} {l:Kn} {h h0:Hp} {dr:Bool} {ops:Array Oper} {fin rest:List (Oper×List Oper)} {R:Kn->Hp->Prop} {lt:List Oper} {ds:List Nat} {L:List Res}
variable {d:Nat} {ty t kt et:TypeId} {pos:String} {af:Array Edge} {gg:Option (Nat×Bool)} {x:Operand} {M D U:MsK K} {cl r m:Nat}
theorem Q3C {es:List MapEntry} (T:KeyT E t kt et enc) (hm:h.get m=some (.map es cl)) (S:SH h0 ds L h) (g:Gd ops l gg) (hd:v0a d nt=true) (hx:evl l x=some (.map (some m)))
 (q: ∀b h',h0.n<=b->SH h0 ds (cR b (.iter (some m) cl [] cl)::L) h'->WL E fn nt dr ops fin rest ((d,.pointer (some ⟨b,0,none⟩))::l) h' R):
 WL E fn nt dr ops fin ((⟨some d,.range t x,ty,pos,af,gg⟩,[])::rest) l h R:=
 JY g rfl (fun _ ag=>by simp only[QW,ag.ev hx,T.und,hm,ptrTo]) (wn hd) (fun _ hq=>by cases hq) (q _ _ S.ext.n (S.alloc _))
omit [DecidableEq K] in
theorem Q6h (i:Nat) (S:SH h0 ds L h) (g:Gd ops l gg) (hd:v0a d nt=true) (hx:evl l x=some (.pointer (some ⟨r,0,none⟩))) (hi:L[i]?=some (cR r (.iter (some m) cl (D.map (·.2.2)) cl)))
 (hm:h.get m=some (.map (M.map (Zp enc)) cl)) (ok:OkK M cl) (pm:M.Perm (D++U))
 (q: ∀(b:Bool) (ar:Array Value) (D' U':MsK K) (h':Hp),ar[0]?=some (.bool b)->NextM M D U b ar D' U' enc->SH h0 ds (L.set i (cR r (.iter (some m) cl (D'.map (·.2.2)) cl))) h'->WL E fn nt false ops fin rest ((d,.tuple ar)::l) h' R):
 WL E fn nt false ops fin ((⟨some d,.next x false,ty,pos,af,gg⟩,lt)::rest) l h R:=by
 have hg:=S.cel i hi;obtain⟨p1,p2⟩:=Qd0 ok pm
 have il:Q7Q (M.map (Zp enc)) (D.map (·.2.2)) cl=true:=by
  unfold Q7Q;cases M with
  |nil=>simp[Q2a]
  | cons a M=>
    have:v0n cl a.2.2=false:=by
     cases hb:v0n cl a.2.2 with
     |false=>rfl
     |true=>have:=(Qr _ _).1 hb;have:=ok.lt a (by simp);omega
    simp[Zp,this]
 have hold:Qg5 (M.map (Zp enc)) (D.map (·.2.2)) cl=(M.filter fun y=> !JN y.2.2 (D.map (·.2.2))).map (Zp enc):=by
  unfold Qg5 Qad;rw[List.filter_map,List.filter_map]
  congr 1
  have e1:((fun e:MapEntry=> !JN e.born (D.map (·.2.2)))∘Zp enc)=fun y:K×Value×Nat=> !JN y.2.2 (D.map (·.2.2)):=rfl;rw[e1];refine List.filter_eq_self.2 fun y hy=>?_;have:=ok.lt y (v1v.1 hy).1;exact(QT _ _).2 this
 have fl:newX (M.map (Zp enc)) (D.map (·.2.2)) cl=[]:=by
  unfold newX Qad;rw[List.filter_eq_nil_iff];intro e he;obtain⟨y,hy,rfl⟩:=v0H.1 (v1v.1 he).1;have:v0a y.2.2 cl=true:=(QT _ _).2 (ok.lt y hy);simp[Zp,this]
 have fq: ∀y,y∈(M.filter fun y=> !JN y.2.2 (D.map (·.2.2)))↔y∈M/\y∈U:=fun y=>by
  rw[v1v];refine⟨fun⟨a,b⟩=>⟨a,p2 y a fun hd=>?_⟩,fun⟨a,b⟩=>⟨a,?_⟩⟩
  · rw[(Yy _ _).2 hd]at b;cases b
  cases hb:JN y.2.2 (D.map (·.2.2))with
  |false=>rfl
  |true=>exact absurd ((Yy _ _).1 hb) (p1 y b)
 refine Q4D (fun v h'=> ∃(b:Bool) (ar:Array Value) (D' U':MsK K),v=.tuple ar/\ar[0]?=some (.bool b)/\NextM M D U b ar D' U' enc/\SH h0 ds (L.set i (cR r (.iter (some m) cl (D'.map (·.2.2)) cl))) h') g (fun tm ag=>by
  simp only[JV,ag.ev hx,hg,hm,il,cond_true];rfl) ?_ ?_ ?_
 · unfold Q1u;rw[hold,fl];generalize (M.filter fun y=> !JN y.2.2 (D.map (·.2.2)))=V;cases V<;>rfl
 · intro n hn;obtain⟨c,hc,rfl⟩:=v0H.1 hn;unfold Q1u at hc;rw[hold,fl,v0k]at hc;rcases v0x.1 hc with hc|hc
   · have hU:(M.filter fun y=> !JN y.2.2 (D.map (·.2.2)))=[]/\c=none:=by
      revert hc
      generalize (M.filter fun y=> !JN y.2.2 (D.map (·.2.2)))=V;cases V with
      |nil=>intro hc;exact⟨rfl,by simpa[Qdt]using hc⟩
      |cons a V=>intro hc;cases hc
     obtain⟨hV,rfl⟩:=hU
     have hU:U=[]:=by
      cases U with
      |nil=>rfl
      | cons a U=>
        have:a∈M:=pm.mem_iff.2 (by simp);have:=(fq a).2 ⟨this,by simp⟩;rw[hV]at this;cases this
     refine⟨_,h,rfl,⟨false,_,D,[],rfl,rfl,.inl ⟨rfl,hU,rfl,rfl⟩,?_⟩,.refl h⟩
     have e:L.set i (cR r (.iter (some m) cl (D.map (·.2.2)) cl))=L:=by
      obtain⟨hl,he⟩:=v0y.1 hi;rw[<-he,List.set_getElem_self]
     rw[e];exact S
   obtain⟨e,he,rfl⟩:=v0H.1 hc;obtain⟨y,hy,rfl⟩:=v0H.1 he;obtain⟨y1,y2⟩:=(fq y).1 hy;obtain⟨U1,U2,rfl⟩:=List.append_of_mem y2;have hp:(U1++y::U2).Perm (y::(U1++U2)):=List.perm_middle;refine⟨_,_,rfl,⟨true,_,D++[y],U1++U2,rfl,rfl,.inr ⟨rfl,y,rfl,hp,?_,y1,rfl⟩,?_⟩,KD.put _ fun dd iT=>by rw[hg]at iT;cases iT⟩
   · rw[v0F];exact pm.trans (hp.append_left D)
   rw[v0G];exact S.put i hi _
 rintro v h' ⟨b,ar,D',U',rfl,h1,h2,h3⟩;exact⟨_,wn hd,q b ar D' U' h' h1 h2 h3⟩
omit [DecidableEq K] in
theorem Q3E {y:K×Value×Nat} (i:Nat) (S:SH h0 ds L h) (g:Gd ops l gg) (hd:v0a d nt=true) (hx:evl l x=some (.pointer (some ⟨r,0,none⟩))) (hi:L[i]?=some (cR r (.iter (some m) cl ((D++[y]).map (·.2.2)) cl)))
 (hm:h.get m=some (.map (M.map (Zp enc)) cl)) (ok:OkK M cl) (hy:y∈M)
 (q:WL E fn nt false ops fin rest ((d,.tuple #[enc y.1,y.2.1])::l) h R):
 WL E fn nt false ops fin ((⟨some d,.entry x,ty,pos,af,gg⟩,lt)::rest) l h R:=by
 have hg:=S.cel i hi;have hl:((D++[y]).map (·.2.2)).getLast?=some y.2.2:=by rw[v0G];simp
 have hf:(M.map (Zp enc)).find? (fun e=>v0d e.born y.2.2)=some (Zp enc y):=by
  obtain⟨p,hp⟩:=List.mem_iff_getElem?.1 hy;have:=Q0v (enc:=enc) ok.nd hp;have h2:=List.findIdx?_eq_some_iff_getElem.1 this;obtain⟨ai,h3,h4⟩:=h2;rw[List.find?_eq_some_iff_getElem]
  refine⟨by simp[Zp,v0I],p,ai,?_,fun j hj=>by
   have h5:=h4 j hj;simp at h5 ⊢
   exact(Qw _ _).2 h5⟩
  rw[v1K]
  congr 1
  exact(v0y.1 hp).2
 refine Q4D (L:=[.value (.tuple #[enc y.1,y.2.1]) h]) (fun v h'=>v=.tuple #[enc y.1,y.2.1]/\h'=h) g (fun tm ag=>?_) rfl ?_ ?_
 · simp only[JV,ag.ev hx,hg,hm,hl,v0I,cond_true,hf];rfl
 · intro n hn;rw[v0X]at hn;exact⟨_,_,hn,⟨rfl,rfl⟩,.refl h⟩
 rintro v h' ⟨rfl,rfl⟩;exact⟨_,wn hd,q⟩
end
section
variable {E:Env} {fn:FuncId} {nt:Nat} {l:Kn} {h:Hp} {dr:Bool} {ops:Array Oper} {fin rest:List (Oper×List Oper)} {R:Kn->Hp->Prop} {lt:List Oper}
variable {d:Nat} {ty t aI:TypeId} {pos:String} {af:Array Edge} {gg:Option (Nat×Bool)} {x y:Operand}
end
section
variable {E:Env} {fn:FuncId} {nt:Nat} {l:Kn} {h:Hp} {dr:Bool} {ops:Array Oper} {fin rest:List (Oper×List Oper)} {R:Kn->Hp->Prop} {lt:List Oper}
variable {d:Nat} {ty t aI:TypeId} {pos:String} {af:Array Edge} {gg:Option (Nat×Bool)} {x y:Operand}
end
def Qg9 (t k nt:Nat) (ity:IntKind):List Oper->Option (Int×Nat)
 | [⟨some r,.binOp .eql _ (.tmp k') (.const (.int kG c)) _,_,_,_,none⟩,⟨some t',.assign (.tmp r'),_,_,_,none⟩]=>
   cond (v0d k' k&&decide (kG=ity)&&v0d t' t&&v0d r' r&&v0a r nt&&v0a t nt&&decide (r≠k)&&decide (t≠k)) (some (c,r)) none
 |_=>none
def QaU (t k nt:Nat) (ity:IntKind):Code->Option (List (Int×Nat))
 | .region _ ops dr=>cond (!dr&&QS ops) ((Qg9 t k nt ity ops.toList).map fun p=>[p]) none
 | .seq (.region _ ops dr) (.cond (.tmp t') .skip rest)=>cond (!dr&&QS ops&&v0d t' t) (match Qg9 t k nt ity ops.toList,QaU t k nt ity rest with
   |some p,some r=>some (p::r)
   |_,_=>none) none
 |_=>none
theorem Q5J {t k nt:Nat} {ity:IntKind} {ops:List Oper} {c:Int} {r:Nat} (h:Qg9 t k nt ity ops=some (c,r)):
 ∃t1 t2 t3 p1 a1 t4 p2 a2,ops=[⟨some r,.binOp .eql t1 (.tmp k) (.const (.int ity c)) t2,t3,p1,a1,none⟩,⟨some t,.assign (.tmp r),t4,p2,a2,none⟩]/\v0a r nt=true/\v0a t nt=true/\r≠k/\t≠k:=by
 unfold Qg9 at h
 split at h
 · rename_i r1 t1 k' kG c1 t2 t3 p1 a1 t' r' t4 p2 a2;cases hq:(v0d k' k&&decide (kG=ity)&&v0d t' t&&v0d r' r1&&v0a r1 nt&&v0a t nt&&decide (r1≠k)&&decide (t≠k))with
   |false=>rw[hq]at h;cases h
   | true=>
     rw[hq]at h;cases h;simp only[v0g,decide_eq_true_eq]at hq;obtain⟨⟨⟨⟨⟨⟨⟨h1,rfl⟩,h3⟩,h4⟩,h5⟩,h6⟩,h7⟩,h8⟩:=hq;have h1:=v1h h1;have h3:=v1h h3;have h4:=v1h h4;subst h1;subst h3;subst h4;exact⟨_,_,_,_,_,_,_,_,rfl,h5,h6,h7,h8⟩
 cases h
section
variable {E:Env} {fn:FuncId} {nt:Nat} {h:Hp} {Q:Out->Kn->Hp->Prop} {t k:Nat} {ity:IntKind} {K:Int}
theorem QcB {l:Kn} {t:Nat} {v:Value}:lk ((t,v)::l) t=some v:=by simp[lk]
theorem Q5j {l:Kn} {t i:Nat} {v:Value} (h:i≠t):lk ((t,v)::l) i=lk l i:=by
 have:v0d t i=false:=by
  cases e:v0d t i with
  |false=>rfl
  |true=>exact absurd (v1h e).symm h
 simp[lk,this]
theorem Qdj {l:Kn} {id:Nat} {ops:Array Oper} {c:Int} {r:Nat} (ho:QS ops=true) (h1:Qg9 t k nt ity ops.toList=some (c,r)) (hk:lk l k=some (.int ity K))
 (q:Q .next ((t,.bool (decide (K=c)))::(r,.bool (decide (K=c)))::l) h):W E fn nt (.region id ops false) l h Q:=by
 obtain⟨t1,t2,t3,p1,a1,t4,p2,a2,e,hr,ht,gF,kJ⟩:=Q5J h1;refine Q3 ho ?_;rw[e];refine Qey gn hr hk rfl<|Q7H gn ht QcB ?_;exact Q0 q
theorem w_eqs: ∀(rs:List (Int×Nat)) (c:Code),QaU t k nt ity c=some rs-> ∀(l:Kn),lk l k=some (.int ity K)-> ∀Q:Out->Kn->Hp->Prop,(∀l',(∀i,i≠t->i∉rs.map Prod.snd->lk l' i=lk l i)->lk l' t=some (.bool (decide (K∈rs.map Prod.fst)))->Q .next l' h)->W E fn nt c l h Q:=by
 intro rs
 induction rs with
 | nil=>
   intro c e
   exfalso
   unfold QaU at e
   split at e
   · rename_i id ops dr;cases hq:(!dr&&QS ops)<;>rw[hq]at e
     · cases e
     cases h1:Qg9 t k nt ity ops.toList<;>rw[h1]at e<;>cases e
   · rename_i id ops dr t' rest;cases hq:(!dr&&QS ops&&v0d t' t)<;>rw[hq]at e
     · cases e
     simp only[cond_true]at e
     split at e<;>cases e
   cases e
 | cons p r ih=>
   intro c e l hk Q q;unfold QaU at e
   split at e
   · rename_i id ops dr;cases dr with
     |true=>cases e
     |false=>
     cases hc:QS ops with
     |false=>rw[hc]at e;cases e
     |true=>
     rw[hc]at e;simp only[v1s,Bool.and_self,cond_true,Option.map_eq_some_iff]at e;obtain⟨⟨c,r1⟩,h1,e⟩:=e;cases e;refine Qdj hc h1 hk (q _ (fun i hi hm=>?_) ?_)
     · rw[Q5j hi,Q5j (by simpa using hm)]
     rw[QcB];simp
   · rename_i id ops dr t' rest;cases dr with
     |true=>cases e
     |false=>
     cases hc:QS ops with
     |false=>rw[hc]at e;cases e
     |true=>
     cases kI:v0d t' t with
     |false=>rw[kI,Bool.and_false]at e;cases e
     |true=>
     rw[hc,kI]at e;have kI:=v1h kI;subst kI;simp only[v1s,Bool.and_self,cond_true]at e
     split at e
     · rename_i p' r' h1 h2;cases e;obtain⟨c,r1⟩:=p;refine Q5 (Qdj hc h1 hk ?_);show W E fn nt (.cond _ _ _) _ _ _;obtain⟨_,_,_,_,_,_,_,_,_,hr,ht,gF,kJ⟩:=Q5J h1;refine Q2 (t:=decide (K=c)) QcB (fun hb=>?_) fun hb=>?_
       · refine Q4 (q _ (fun i hi hm=>?_) ?_)
         · simp at hm;rw[Q5j hi,Q5j hm.1]
         rw[QcB];simp only[v0B,v0r];simp only[decide_eq_true_eq]at hb;simp[hb]
       have bc:lk ((t',.bool (decide (K=c)))::(r1,.bool (decide (K=c)))::l) k=some (.int ity K):=by
        rw[Q5j (fun e=>kJ e.symm),Q5j (fun e=>gF e.symm)];exact hk
       refine ih rest h2 _ bc _ fun l' hl ht2=>q l' (fun i hi hm=>?_) ?_
       · simp at hm;rw[hl i hi (by simpa using hm.2),Q5j hi,Q5j hm.1]
       rw[ht2];simp only[v0B,v0r];simp only[decide_eq_false_iff_not]at hb;simp[hb]
     cases e
   cases e
theorem Q7f {l l':Kn} {ban:List Nat} (h: ∀i,i∉ban->lk l' i=lk l i): ∀ {m:Kn},Sub m l->(m.map Prod.fst).all (fun i=> !ban.elem i)=true->Sub m l'
 | [],_,_=>trivial
 | (i,v)::m,hs,hk=>by
   simp only[v0B,List.all_cons,v0g]at hk;refine⟨?_,Q7f h hs.2 hk.2⟩;rw[h i (by simpa using hk.1)];exact hs.1
theorem Qf {Q:Out->Kn->Hp->Prop} {id:Nat} {l:Kn} {h:Hp} (q:Q .next l h):Blk id Q .next l h:=q
theorem Yt {S A B:Code} {l:Kn} (k:Nat) (rs:List (Int×Nat)) (lc:Kn) (hS:QaU t k nt ity S=some rs) (hk:lk l k=some (.int ity K)) (hs:Sub lc l) (hb:(lc.map Prod.fst).all (fun i=> !(t::rs.map Prod.snd).elem i)=true)
 (qa:decide (K∈rs.map Prod.fst)=true->W E fn nt A lc h Q) (qb:decide (K∈rs.map Prod.fst)=false->W E fn nt B lc h Q):W E fn nt (.seq S (.cond (.tmp t) A B)) l h Q:=by
 refine Q5 (w_eqs rs S hS l hk _ fun l' hl ht=>?_);show W E fn nt (.cond _ _ _) l' h Q;have gX:Sub lc l':=Q7f (fun i hi=>hl i (fun e=>hi (by simp[e])) (fun e=>hi (List.mem_cons_of_mem _ e))) hs hb;exact Q2 ht (fun e=>Q1J lc gX (qa e)) fun e=>Q1J lc gX (qb e)
end
def snR (e z:Nat) (s:Value) (cs:List Value) (n:Nat) (bs:List Nat):Res:=⟨bs,fun h=>SlN e z h s cs n bs,fun h h' k hn p=>by
 rcases p with p| ⟨b,m,h1,h2,h3,h4,h5,h6⟩
 · exact .inl p
 have:=k b (by rw[h5];simp)
 exact .inr ⟨b,m,h1,by rw[this.2];exact h2,h3,v0p this.1 hn,h5,h6⟩⟩
section
variable {h0 h g g1 g2:Hp} {ds:List Nat} {L L0:List Res} {r r':Res} {b i j:Nat} {o:AObj}
theorem SH.two (S0:SH h0 [] L0 g) (hd: ∀k,k∈ds->h0.n<=k) (S:SH g ds L h) (hg:h0.get b=some o) (hb:b <h0.n):h.get b=some o:=
 S.old (S0.old0 hg hb) (v0p hb S0.ext.n) fun hm=>by have:=hd b hm;omega
theorem SH.all0 (S0:SH h0 [] L0 g) (hd: ∀k,k∈ds->h0.n<=k) (S:SH g ds L h):Ext h0 h:=⟨v0t S0.ext.n S.ext.n,fun k hk=>by
 rw[S.ext.get k (v0p hk S0.ext.n) fun hm=>by have:=hd k hm;omega]
 exact S0.ext.get k hk (by simp)⟩
theorem SH.own0 (S0:SH h0 [] [r] g): ∀k,k∈r.own->h0.n<=k:=fun k hk=>by
 rcases S0.new k (by rw[Z2];exact List.mem_append_left _ hk)with h|h
 · cases h
 exact h
theorem SH.enter (S0:SH h0 [] [r] g):SH g r.own [r] g:=by
 have e:owns [r]=r.own:=by simp[owns]
 refine SH.one (S0.res 0 rfl) (fun i hi=>S0.lt i (by rw[e];exact hi)) ?_;have:=S0.nd;rwa[e]at this
theorem SH.sub1 (S0:SH h0 [] L0 g) (hd: ∀k,k∈ds->h0.n<=k) (S:SH g ds L g1) (i:Nat) (e:L[i]?=some r):SH h0 [] [r] g1:=by
 have e1:owns [r]=r.own:=by simp[owns]
 refine⟨(S0.all0 hd S).b [],fun q hq=>?_,fun k hk=>?_,fun k hk=>?_,?_⟩
 · rw[v0X]at hq;subst hq;exact S.res i e
 · rw[e1]at hk;exact S.lt k (QK (v0m e) hk)
 · rw[e1]at hk;rcases S.new k (QK (v0m e) hk)with h|h
   · exact .inr (hd k h)
   exact .inr (v0t S0.ext.n h)
 rw[e1];obtain⟨A,B,rfl,_⟩:=Q3O e r;have:=S.nd;rw[QN,Z2,v0L]at this;exact(v0L.1 this.2.1).1
theorem SH.pick (S:SH h0 ds L h) (i:Nat) (e:L[i]?=some r):SH h0 ds [r] h:=by
 have e1:owns [r]=r.own:=by simp[owns]
 have hm:=v0m e;refine⟨S.ext,fun q hq=>?_,fun k hk=>S.lt k (QK hm (by rw[<-e1];exact hk)),fun k hk=>S.new k (QK hm (by rw[<-e1];exact hk)),?_⟩
 · rw[v0X]at hq;subst hq;exact S.res i e
 rw[e1];obtain⟨A,B,rfl,_⟩:=Q3O e r;have:=S.nd;rw[QN,Z2,v0L]at this;exact(v0L.1 this.2.1).1
theorem SH.ret (S:SH g ds L g1) (i:Nat) (e:L[i]?=some r) (S2:SH g1 r.own [r'] g2):SH g ds (L.set i r') g2:=by
 have e1:owns [r']=r'.own:=by simp[owns]
 refine S.upd i e S2.ext (S2.res 0 rfl) (fun j hj=>S2.lt j (by rw[e1];exact hj)) (fun j hj=>S2.new j (by rw[e1];exact hj)) ?_;have:=S2.nd;rwa[e1]at this
end
theorem Q6s {E:Env} {fn:FuncId} {nt:Nat} {l:Kn} {h:Hp} {dr:Bool} {ops:Array Oper} {fin rest:List (Oper×List Oper)} {R:Kn->Hp->Prop} {lt:List Oper} {d:Nat} {ty:TypeId} {pos:String} {af:Array Edge} {gg:Option (Nat×Bool)} {x:Operand} {v:Value} {f:FuncId}
 (g:Gd ops l gg) (hd:v0a d nt=true) (hx:evl l x=some v) (q:WL E fn nt dr ops fin rest ((d,.func (.func f) #[v] #[])::l) h R):
 WL E fn nt dr ops fin ((⟨some d,.makeFunc (.func f) #[x] #[],ty,pos,af,gg⟩,lt)::rest) l h R:=
 QA g rfl (fun _ ag=>by simp[QL,ag.ev hx]) (wn hd) q
section
variable {E:Env} {l:Kn} {h:Hp} {ops:Array Oper} {d:Nat} {ty t aI:TypeId} {pos:String} {af:Array Edge} {gg:Option (Nat×Bool)} {x y:Operand}
end
section
variable {E:Env} {fn:FuncId} {nt:Nat} {l:Kn} {h:Hp} {dr:Bool} {ops:Array Oper} {fin rest:List (Oper×List Oper)} {R:Kn->Hp->Prop} {lt:List Oper} {d:Nat} {ty s t:TypeId} {pos:String} {af:Array Edge} {gg:Option (Nat×Bool)} {x:Operand}
end
section
variable {E:Env} {fn:FuncId} {nt:Nat} {l:Kn} {h:Hp} {dr:Bool} {ops:Array Oper} {fin rest:List (Oper×List Oper)} {R:Kn->Hp->Prop} {lt:List Oper} {d:Nat} {ty t aI:TypeId} {pos:String} {af:Array Edge} {gg:Option (Nat×Bool)} {x y:Operand} {k:IntKind} {a b:Int}
theorem o_mulW (g:Gd ops l gg) (hd:v0a d nt=true) (hx:evl l x=some (.int k a)) (hy:evl l y=some (.int k b)) (q:WL E fn nt dr ops fin rest ((d,.int k (k.wrap (a*b)))::l) h R):
 WL E fn nt dr ops fin ((⟨some d,.binOp .mul t x y aI,ty,pos,af,gg⟩,lt)::rest) l h R:=KS g hd hx hy rfl (by simp only[Y4,QQ,ZW]) q
theorem o_subW (g:Gd ops l gg) (hd:v0a d nt=true) (hx:evl l x=some (.int k a)) (hy:evl l y=some (.int k b)) (q:WL E fn nt dr ops fin rest ((d,.int k (k.wrap (a -b)))::l) h R):
 WL E fn nt dr ops fin ((⟨some d,.binOp .sub t x y aI,ty,pos,af,gg⟩,lt)::rest) l h R:=KS g hd hx hy rfl (by simp only[Y4,QQ,ZW]) q
theorem Q0a (g:Gd ops l gg) (hd:v0a d nt=true) (hx:evl l x=some (.int k a)) (hy:evl l y=some (.int k b)) (q:WL E fn nt dr ops fin rest ((d,.int k (k.wrap (a+b)))::l) h R):
 WL E fn nt dr ops fin ((⟨some d,.binOp .add t x y aI,ty,pos,af,gg⟩,lt)::rest) l h R:=KS g hd hx hy rfl (by simp only[Y4,QQ,ZW]) q
end
section
variable {E:Env} {fn:FuncId} {nt:Nat} {l:Kn} {h:Hp} {dr:Bool} {ops:Array Oper} {fin rest:List (Oper×List Oper)} {R:Kn->Hp->Prop} {lt:List Oper} {d:Nat} {ty t aI:TypeId} {pos:String} {af:Array Edge} {gg:Option (Nat×Bool)} {x y z:Operand} {k k':IntKind}
end
theorem K3 {h:Hp} {l:Kn} {I:Nat->Kn->Hp->Prop} {n:Nat} {lc:Kn} {Q:Out->Kn->Hp->Prop} (m:Nat) (lv:Kn) (hm:m <n:=by omega) (s:Sub (lv++lc) l:=by repeat(first|exact trivial|refine⟨rfl,?_⟩)) (p:I m lv h):Rnd (fun n l h=> ∃lv,l=lv++lc/\I n lv h) n Q .next l h:=rndS m hm lv s p
theorem Zr {h:Hp} {l:Kn} {P:Kn->Hp->Prop} {lc:Kn} {Q:Out->Kn->Hp->Prop} (lv:Kn) (s:Sub (lv++lc) l:=by repeat(first|exact trivial|refine⟨rfl,?_⟩)) (p:P lv h):Cut (fun l' h'=> ∃lv,l'=lv++lc/\P lv h') Q .next l h:=cutS lv s p
theorem QB {E:Env} {fn:FuncId} {nt:Nat} {l:Kn} {h:Hp} {b:Code} {Q:Out->Kn->Hp->Prop} (lv lc:Kn) (I:Nat->Kn->Hp->Prop) {n:Nat} (start:I n lv h) (round: ∀n lv h,I n lv h->W E fn nt b (lv++lc) h (Rnd (fun n l h=> ∃lv,l=lv++lc/\I n lv h) n Q)) (s:Sub (lv++lc) l:=by repeat(first|exact trivial|refine⟨rfl,?_⟩)):W E fn nt (.loop b) l h Q:=QdV lv lc s I start round
end Go.X
