/- The calculus of memory and steps, part Xb. Conditions: none. -/
import Derived.Test.YtljpajcmdjmeaaaGreatXa
import Derived.AtR
import Derived.RangeFuncIn
import Derived.Defers
import Derived.Below
import Derived.ProofKit
set_option maxHeartbeats 16000000
open List renaming length_cons → v07, getElem?_cons_succ → v1Y, getElem?_eq_some_iff → v0y, all_eq_true → v0u, getElem_mem → v0M, append_assoc → v0F, getElem?_append_right → v0Q, getElem?_append_left → v0z, ext_getElem? → v1f, getElem?_map → v0D, mem_of_getElem? → v0m, length_map → v0v, nodup_cons → v0R, mem_cons → v0r, getElem?_eq_getElem → v0c, mem_range → v1r
open Nat renaming le_refl → v0b, add_zero → v1A, beq → v0d, mul_le_mul_right → v1a, add_mul → v1j, zero_add → v0e, le_trans → v0t, beq_refl → v0I, lt_of_lt_of_le → v0p
open Int renaming toNat_natCast → v0i
open Bool renaming and_eq_true → v0g, not_eq_true' → v0J, and_eq_false_iff → v1Z, false_eq_true → v1I, or_eq_true → v0K
open Option renaming map_eq_some_iff → v1H, some → v0h
open Array renaming getElem?_modify → v19, getElem?_setIfInBounds_ne → v1O, toList_map → v1y, getElem?_toList → v1z, getElem?_eq_some_iff → v0V, length_toList → v2l, toList_append → v12, toList_inj → v1P, replicate → v1N, getElem?_push → v2j, getElem?_eq_none → v16, mem_toList_iff → v1U, mem_of_getElem? → v13
namespace Go.X
variable {E:Env}
theorem Kp (b:Nat): ∀(vs:List Value) (o:Nat) (w:World) (c:Array Value) (e:TypeId) (fr:Nat×Nat),w.heap[b]?=some (.cells c e fr)->o+vs.length<=c.size->
 ∃ c',(w.setCells b o vs).heap[b]?=some (.cells c' e fr)/\c'.size=c.size/\(∀k,c'[k]?=if o<=k/\k <o+vs.length then vs[k -o]? else c[k]?)/\
   (∀k,k≠b->(w.setCells b o vs).heap[k]?=w.heap[k]?)/\(w.setCells b o vs).heap.size=w.heap.size/\
   (w.setCells b o vs).os=w.os/\((w.setCells b o vs).tape=w.tape/\w.drawn<=(w.setCells b o vs).drawn)/\(w.setCells b o vs).output=w.output
 | [],o,w,c,e,fr,h,_=>⟨c,h,rfl,fun k=>by rw[if_neg (by simp only[List.length_nil];omega)],fun _ _=>rfl,rfl,rfl,⟨rfl,v0b _⟩,rfl⟩
 | v ::r,o,w,c,e,fr,h,hle=>by
   have hle':o+(r.length+1)<=c.size:=by simpa using hle
   have h1:(w.setCell ⟨b,o,none⟩ v).heap[b]?=some (.cells (c.setIfInBounds o v) e fr):=by
    simp[World.setCell,v19,h]
   obtain⟨c',p1,p2,p3,p4,p5,p6,p7,p8⟩:=Kp b r (o+1) _ _ e fr h1 (by simp;omega);refine⟨c',p1,by rw[p2];simp,fun k=>?_,fun k hk=>?_,?_,p6,p7,p8⟩
   · rw[p3];by_cases e1:k=o
     · subst e1;rw[if_neg (by omega),if_pos (by simp only[v07];omega)];have:k <c.size:=by omega
       simp[this]
     by_cases e2:o+1<=k/\k <o+1+r.length
     · rw[if_pos e2,if_pos (by simp only[v07];omega)];have:k -o=(k - (o+1))+1:=by omega
       rw[this,v1Y]
     rw[if_neg e2,if_neg (by simp only[v07];omega)];rw[v1O (fun h0=>e1 h0.symm)]
   · rw[World.setCells,p4 k hk];simp only[World.setCell,v19];rw[if_neg (fun h0=>hk h0.symm)]
   rw[World.setCells,p5];simp[World.setCell]
theorem Q5O {v v':Value} {M:Mp} (h:cellV v=true) (hv:VRel M v v'):v'.oneCell'=true:=by
 cases hv with
 |junk hc=>cases v'<;>first|rfl|exact hc.elim
 |_=>first|rfl|(simp[cellV]at h)
section
variable {W:World} {B:Nat->Prop} {M:Mp} {h:Hp} {w:World} (H:HRel W B M h w)
include H
theorem YZ {a a':Addr} {l l':List Value} {h':Hp} (ha:AddrRel M a a') (hl:VsRel M l l') (hv:l.all cellV=true) (hr:Zl h a l=some h'):
 ∃w',(storeCells a' l').run E.P w=.ok () w'/\HRel W B M h' w'/\Keep M h M h' (fun _=>False)/\w'=w.setCells a'.block a'.off l':=by
 unfold Zl at hr;cases hs:a.spot with
 |some _=>rw[hs]at hr;cases hr
 | none=>
   rw[hs]at hr;simp only at hr
   split at hr
   case h_2=>cases hr
   rename_i c e m hg;obtain⟨hc,hr⟩:=Qd hr;simp only[v0g,v0J,Qr,Qw]at hc;cases hr
   have dX: ¬RO h a.block:=fun⟨c1,e1,h1⟩=>by
    rw[hg]at h1;cases h1;exact hc.1 rfl
   obtain⟨b,δ,S,x,hρ,hx,c',fr,rfl,hS,jv,bS,hm⟩:=H.place ha.1 hg (by simp);have ea:=ha.2 b δ S hρ;rw[hs]at ea;subst ea;have hlen:l'.length=l.length:=hl.1.symm
   have bI: ∀k,k <c'.size-> ¬(fr.1<=k/\k <fr.2):=by
    rcases hm with⟨_,_,_,_,h5⟩| ⟨h1,_⟩| ⟨_,h1⟩
    · subst h5;intro k _;simp
    · exact absurd h1 hc.1
    rw[hS]at h1;exact h1
   have aV: ∀j,j <l'.length->(w.cell? ⟨b,δ+a.off+0+j,none⟩).isSome=true:=by
    intro j hj;have:δ+a.off+j <c'.size:=by omega
    simp[World.cell?,hx,this]
   have nG: ∀j,j <l'.length->w.frozen? ⟨b,δ+a.off+0+j,none⟩=false:=by
    intro j hj;have:=bI (δ+a.off+j) (by omega);simp only[World.frozen?,hx,v1A];obtain⟨lo,hi⟩:=fr;simp only at this ⊢;rw[v1Z];simp only[decide_eq_false_iff_not];omega
   have fj: ∀v∈l',v.oneCell'=true:=by
    intro v hvm;obtain⟨i,hi⟩:=List.getElem?_of_mem hvm;have ai:i <l.length:=by have:=(v0y.1 hi).1;omega
    have hu:l[i]?=some l[i]:=by simp[ai]
    exact Q5O (v0u.1 hv _ (v0M ai)) (hl.2 i _ _ hu hi)
   have run:=run_storeCells_cells (P:=E.P) b (δ+a.off) l' 0 w aV nG fj;rw[v1A]at run;obtain⟨c2,p1,p2,p3,p4,p5,p6,p7,p8⟩:=Kp b l' (δ+a.off) w c' e fr hx (by omega);refine⟨_,run,?_,?_,rfl⟩
   · refine H.put hρ dX p6 p7 p8 p5 p1 p4 ⟨c2,fr,rfl,by omega,?_,?_,?_⟩
     · simp;omega
     · intro j v hj;rw[p3];by_cases aD:a.off<=j/\j <a.off+l.length
       · rw[if_pos (by omega)]
         have:(c.take a.off++l++c.drop (a.off+l.length))[j]?=l[j -a.off]?:=by
          have e1:(c.take a.off).length=a.off:=by simp;omega
          rw[v0F,v0Q (by omega),e1,v0z (by omega)]
         rw[this]at hj;have ai:j -a.off <l'.length:=by omega
         refine⟨l'[j -a.off],?_,hl.2 _ _ _ hj (by simp[ai])⟩;have:δ+j - (δ+a.off)=j -a.off:=by omega
         rw[this];simp[ai]
       rw[if_neg (by omega)]
       have:(c.take a.off++l++c.drop (a.off+l.length))[j]?=c[j]?:=by
        have e1:(c.take a.off).length=a.off:=by simp;omega
        rw[v0F];by_cases h1:j <a.off
        · rw[v0z (by omega),List.getElem?_take,if_pos h1]
        rw[v0Q (by omega),e1,v0Q (by omega),List.getElem?_drop]
        congr 1;omega
       rw[this]at hj;exact bS j v hj
     have fw:(c.take a.off++l++c.drop (a.off+l.length)).length=c.length:=by simp;omega
     rw[fw];exact hm
   refine⟨by rw[Hp.n_put];exact v0b _,fun i hi hk _=>⟨hk,?_⟩⟩;have:a.block≠i:=fun e=>hk (e▸ha.1);rw[Hp.get_put,if_neg this]
theorem Q4K {t:TypeId} {a a':Addr} {v v':Value} {h':Hp} (ha:AddrRel M a a') (hv:VRel M v v') (hr:Q1R E t a v h=some h'):
 ∃w',(storeVar t a' v').run E.P w=.ok () w'/\HRel W B M h' w'/\Keep M h M h' (fun _=>False):=by
 unfold Q1R at hr
 split at hr
 · rename_i n hz;obtain⟨hc,hr⟩:=Qd hr;simp only[v0g,Qz]at hc;obtain⟨w',r,H',K',_⟩:=YZ (E:=E) H ha hv.cells hc.2 hr;have cq:v'.cells.size=n:=by have:=hv.cells.1;simp at this;omega
   exact⟨w',by simp[storeVar,QG hz,cq,r],H',K'⟩
 cases hr
end
theorem Q8r (l:List Value) (n:Nat):(Qj l n).length=n*l.length:=by
 induction n with
 |zero=>simp[Qj]
 |succ n ih=>simp[Qj,ih,Nat.succ_mul,Nat.add_comm]
theorem Q8s (l:List Value) (_hl:0 <l.length): ∀(n i:Nat),i <n*l.length->(Qj l n)[i]?=l[i%l.length]?:=by
 intro n
 induction n with
 |zero=>intro i hi;simp at hi
 | succ n ih=>
   intro i hi;rw[Nat.succ_mul]at hi;unfold Qj;by_cases h:i <l.length
   · rw[v0z h,Nat.mod_eq_of_lt h]
   rw[v0Q (by omega),ih _ (by omega)]
   congr 1
   rw[<-Nat.mod_eq_sub_mod (by omega)]
theorem Q32 {M:Mp} {l:List Value} (h:VsRel M l l) (n:Nat):VsRel M (Qj l n) (Qj l n):=by
 induction n with
 |zero=>exact .nil M
 |succ n ih=>exact .append h ih
theorem Q4W (z:Array Value) (hz:0 <z.size) (n:Nat):((Array.range (n*z.size)).map (fun i=>z[i%z.size]!))=(Qj z.toList n).toArray:=by
 apply Array.ext';apply v1f;intro i;simp only[v1y,Array.toList_range,v0D];by_cases h:i <n*z.size
 · rw[Q8s _ (by simpa using hz) n i (by simpa using h)];have:i%z.size <z.size:=Nat.mod_lt _ hz;simp[h,this]
 have h1:(List.range (n*z.size))[i]?=none:=by simp;omega
 have h2:(Qj z.toList n)[i]?=none:=by
  rw[List.getElem?_eq_none_iff,Q8r];simp;omega
 rw[h1,h2];rfl
theorem YT {M:Mp} {i b:Nat} {cs cs':Array Value} {e:TypeId} (hi: ¬M.K i) (hv:VsRel M cs.toList cs'.toList):
 ORel (M.add i b 0 cs'.size 0) i (YA cs e) 0 cs'.size (.cells cs' e):=by
 have he:=Mp.add_ev M i b 0 cs'.size 0 hi;have hl:=hv.1;refine⟨cs',(0,0),rfl,rfl,by simp at hl;simp;omega,fun j v hj=>?_,.inl ⟨rfl,by simp[Mp.add],rfl,by simp at hl;simp;omega,rfl⟩⟩
 have ai:j <cs'.size:=by
  have:=(v0y.1 hj).1;simp at hl this;omega
 refine⟨cs'[j],by simp[ai],(hv.2 j v _ hj (by simp[ai])).mono he⟩
theorem Q1k {M:Mp} {w:World} {tm:Tr Value} {ρ:Operand->Value} {o:Oper} {b:AObj} {f:Nat->Value} (hE: ∀x∈o.op.operands,VRel M (ev tm x) (ρ x)) (hr:allocX E tm o=some (b,f)):
 ∃ x S v',(execOp ρ o).run E.P w=.ok (.value v') {w with heap:=w.heap.push x}/\
   ∀i,¬M.K i->ORel (M.add i w.heap.size 0 S 0) i b 0 S x/\VRel (M.add i w.heap.size 0 S 0) (f i) v':=by
 obtain⟨dst,op,type,pos,after,guard⟩:=o;simp only at hE
 have ptr: ∀(M:Mp) i n S,VRel (M.add i n 0 S 0) (ptrTo i) (.pointer (some ⟨n,0,none⟩)):=fun M i n S=>
  .ptr ⟨.inl rfl,fun b δ S' hb=>by simp[Mp.add]at hb;obtain⟨rfl,rfl,_⟩:=hb;rfl⟩
 have slc: ∀(M:Mp) i n S l c,VRel (M.add i n 0 S 0) (.slice (some ⟨i,0,none⟩) l c) (.slice (some ⟨n,0,none⟩) l c):=fun M i n S l c=>
  .sl ⟨.inl rfl,fun b δ S' hb=>by simp[Mp.add]at hb;obtain⟨rfl,rfl,_⟩:=hb;exact .inl ⟨by simp[Mp.add],rfl,rfl⟩⟩
 cases op<;>simp only[allocX]at hr<;>simp only[Op.operands]at hE
 case alloc e=>
  split at hr
  · rename_i z hz;cases hr;refine⟨.cells z.cells e,z.cells.size,.pointer (some ⟨w.heap.size,0,none⟩),?_,fun i hi=>⟨YT hi (ZV hz M).cells,ptr _ _ _ _⟩⟩;simp[execOp,Instr.alloc,Y2 hz,newVar,newRow]
  cases hr
 case box e x=>
  cases hr;have hx:=hE x (by simp);refine⟨.cells (ρ x).cells e,(ρ x).cells.size,.pointer (some ⟨w.heap.size,0,none⟩),?_,fun i hi=>⟨YT hi hx.cells,ptr _ _ _ _⟩⟩;simp[execOp,Instr.box,newVar,newRow]
 case buildSlice t n ps=>
  split at hr
  · rename_i e hu
    split at hr
    · rename_i z zv hz eY;obtain⟨hc,hr⟩:=Qd hr;simp only[v0g,Qr,Qz]at hc
      split at hr
      · rename_i cs hf;cases hr
        have lK: ∀(i:Nat) (a b:Nat×Value),(ps.toList.map fun(i,x)=>(i,ev tm x))[i]?=some a->(ps.toList.map fun(i,x)=>(i,ρ x))[i]?=some b->a.1=b.1/\VRel M a.2 b.2:=by
         intro i a b ha hb;simp only[v0D,v1H]at ha hb;obtain⟨p,hp,rfl⟩:=ha;obtain⟨p',eG,rfl⟩:=hb;rw[hp]at eG;cases eG;refine⟨rfl,hE p.2 ?_⟩;simp only[List.mem_toArray,List.mem_map];exact⟨p,v0m hp,rfl⟩
        have fg:=Q32 (ZV eY M).cells n;obtain⟨cs',cJ,hv⟩:=Q4i _ _ _ _ _ _ (by simp) lK (by simpa using fg) hf;refine⟨.cells cs' e,cs'.size,.slice (some ⟨w.heap.size,0,none⟩) n n,?_,fun i hi=>⟨YT hi hv,slc _ _ _ _ _ _⟩⟩;have e1:(ps.map fun(p:Nat×Operand)=>(p.1,ρ p.2)).toList=(ps.toList.map fun(i,x)=>(i,ρ x)):=by simp
        rw[<-e1]at cJ;have hb:Instr.buildSlice t n (ps.map fun(p:Nat×Operand)=>(p.1,ρ p.2))=Instr.buildSlice t n (ps.map fun(p:Nat×Operand)=>(p.1,ρ p.2)):=rfl
        have run:(Instr.buildSlice t n (ps.map fun(p:Nat×Operand)=>(p.1,ρ p.2))).run E.P w=.ok (.slice (some ⟨w.heap.size,0,none⟩) n n) {w with heap:=w.heap.push (.cells cs' e)}:=by
         have hle: ¬n*(z+1)>2^24:=by omega
         by_cases hn:n=0
         · subst hn;simp only[Qj]at cJ;simp only[Instr.buildSlice,Sem.run_bind,Qe hu w,Result.andThen_ok,QG hz];simp only[Nat.zero_mul,if_true];rw[if_neg (by simp)];have kP:(Array.range 0).map (fun i=>((#[]:Array Value)[i%(#[]:Array Value).size]!))=⟨[]⟩:=by simp
           simp only[Sem.run_bind,Sem.run_pure,Result.andThen_ok,kP,cJ];simp[newRow]
         have h0: ¬n*(z+1)=0:=by
          intro h0;rcases Nat.mul_eq_zero.1 h0 with h1|h1
          · exact hn h1
          omega
         have mO:=Q4W zv.cells (by omega) n;rw[hc.2]at mO;simp only[Instr.buildSlice,Sem.run_bind,Qe hu w,Result.andThen_ok,QG hz];rw[if_neg hle];simp only[Sem.run_bind,if_neg h0,Y2 eY,Sem.run_pure,Result.andThen_ok,hc.2,mO,cJ];simp[newRow]
        have:execOp ρ ⟨dst,.buildSlice t n ps,type,pos,after,guard⟩=(do pure (.value (<-Instr.buildSlice t n (ps.map fun(p:Nat×Operand)=>(p.1,ρ p.2))))):=rfl;rw[this,Sem.run_bind,run];rfl
      cases hr
    cases hr
  cases hr
 case makeMap t r=>
  have mapR: ∀i,¬M.K i->ORel (M.add i w.heap.size 0 0 0) i (.map [] 0) 0 0 (.map #[] 0)/\VRel (M.add i w.heap.size 0 0 0) (.map (some i)) (.map (some w.heap.size)):=fun i hi=>
   ⟨⟨rfl,#[],rfl,rfl,by intro j a b ha;simp at ha⟩,.map ⟨.inl rfl,fun b δ S hb=>by simp[Mp.add]at hb;exact hb.1⟩⟩
  split at hr
  · cases hr;exact⟨.map #[] 0,0,.map (some w.heap.size),by simp[execOp,Instr.makeMap],mapR⟩
  · rename_i r' k e hu
    split at hr
    · rename_i kk n heq;cases hr;have hx:=hE r' (by simp);rw[heq]at hx;refine⟨.map #[] 0,0,.map (some w.heap.size),?_,mapR⟩;simp only[execOp,Option.map_some];generalize ρ r'=q at hx;cases hx;simp[Instr.makeMap,Qe hu,asInt,asIntOf]
    cases hr
  cases hr
 case makeSlice t l c=>
  split at hr
  · rename_i e l' c' hu hl hc
    split at hr
    · rename_i z zv by' hz eY iE
      obtain⟨cV,hr⟩:=Qd hr;simp only[v0g,Qr,Qz]at cV;obtain⟨⟨⟨h1,h2⟩,h3⟩,h4⟩:=cV;cases hr;have fg:=Q32 (ZV eY M).cells c';refine⟨.cells (Qj zv.cells.toList c').toArray e,(Qj zv.cells.toList c').toArray.size,.slice (some ⟨w.heap.size,0,none⟩) l' c',?_,fun i hi=>⟨YT hi (by simpa using fg),slc _ _ _ _ _ _⟩⟩;have hx:=hE l (by simp);have hy:=hE c (by simp);obtain⟨k1,e1⟩:=Yx hl;obtain⟨k2,e2⟩:=Yx hc;rw[e1]at hx;rw[e2]at hy;obtain⟨ti,mD,lj⟩:=Q1X iE
      have run:(Instr.makeSlice t (ρ l) (ρ c)).run E.P w=.ok (.slice (some ⟨w.heap.size,0,none⟩) l' c') {w with heap:=w.heap.push (.cells (Qj zv.cells.toList c').toArray e)}:=by
       generalize ρ l=q1 at hx;generalize ρ c=q2 at hy;cases hx;cases hy;have w1:IntKind.i64.wrap (l':Int)=l':=IntWalk.i64_in _ ⟨by omega,by omega⟩;have w2:IntKind.i64.wrap (c':Int)=c':=IntWalk.i64_in _ ⟨by omega,by omega⟩
       have h5:(by':Int)*(c':Int)<=2^48:=by
        have:((by'*c':Nat):Int)<=((2^47:Nat):Int):=Int.ofNat_le.2 h3;rw[Int.natCast_mul]at this;omega
       have tl: ¬(((c':Int)<0\/(2^48:Int)<(by':Int)*(c':Int))\/(l':Int)<0):=by omega
       simp only[Instr.makeSlice,Sem.run_bind,Qe hu w,Result.andThen_ok,asInt,asIntOf,Sem.run_pure,Ks mD,lj,w1,w2]
       have hif:((decide ((c':Int)<0)||decide ((by':Int)*(c':Int)>2^48))||decide ((l':Int)<0)||decide ((l':Int)>(c':Int)))=false:=by
        simp only[Bool.or_eq_false_iff,decide_eq_false_iff_not];omega
       simp only[hif,v1I,if_false,Sem.run_bind,run_askRoom,Result.andThen_ok,v0i,QG hz];by_cases hn:c'*(z+1)=0
       · have gO:c'=0:=by
          rcases Nat.mul_eq_zero.1 hn with h0|h0
          · exact h0
          omega
         subst gO
         have kP:(Array.range 0).map (fun(_:Nat)=>(default:Value))= #[]:=by
          apply Array.ext';simp
         simp[newRow,Qj];rw[kP]
       have mO:=Q4W zv.cells (by omega) c';rw[h4]at mO;simp only[if_neg hn,Sem.run_bind,Y2 eY,Sem.run_pure,Result.andThen_ok,h4,mO];simp[newRow]
      have:execOp ρ ⟨dst,.makeSlice t l c,type,pos,after,guard⟩=(do pure (.value (<-Instr.makeSlice t (ρ l) (ρ c)))):=rfl;rw[this,Sem.run_bind,run];rfl
    cases hr
  cases hr
 case makeChan t x=>
  split at hr
  · rename_i dir e n hu hl
    split at hr
    · rename_i by' iE
      obtain⟨cV,hr⟩:=Qd hr;simp only[v0g,Qr]at cV;cases hr;have hx:=hE x (by simp);obtain⟨k,e1⟩:=Yx hl;rw[e1]at hx;obtain⟨ti,mD,lj⟩:=Q1X iE;refine⟨.chan n #[] false 0 0 false,0,.chan (some w.heap.size),?_,fun i hi=>⟨⟨rfl,#[],rfl,.nil _⟩,.chan ⟨.inl rfl,fun b δ S hb=>by simp[Mp.add]at hb;exact hb.1⟩⟩⟩;have hdef:execOp ρ ⟨dst,.makeChan t x,type,pos,after,guard⟩=(do pure (.value (<-Instr.makeChan t (ρ x)))):=rfl;rw[hdef];generalize ρ x=q at hx;cases hx;have h1: ¬(n:Int)<0:=by omega
      have h2: ¬(n:Int)>IntKind.i64.max:=by
       have:IntKind.i64.max=9223372036854775807:=rfl;rw[this];omega
      have h3: ¬(by':Int)*(n:Int)>2^48 -112:=by
       have:((by'*n:Nat):Int)<=((1000000:Nat):Int):=Int.ofNat_le.2 cV.2;rw[Int.natCast_mul]at this;omega
      have hif: ¬((n:Int)<0\/(n:Int)>IntKind.i64.max\/(by':Int)*(n:Int)>2^48 -112):=by
       rintro(h|h|h)
       · exact h1 h
       · exact h2 h
       exact h3 h
      simp only[Instr.makeChan,Sem.run_bind,asInt,asIntOf,Sem.run_pure,Result.andThen_ok,Qe hu w,Ks mD,lj,if_neg hif,v0i];simp
    cases hr
  cases hr
 all_goals cases hr
variable {E:Env}
def Qg2 (W:World) (B:Nat->Prop) (E:Env) (M:Mp) (h:Hp) (w:World) (n:Nx) (r:Result Next):Prop:=
 match n with
 | .value v h'=> ∃v' w' M',r=.ok (.value v') w'/\Ev M M'/\HRel W B M' h' w'/\Keep M h M' h' (fun _=>False)/\VRel M' v v'
 | .skip h'=> ∃w' M',r=.ok .skip w'/\Ev M M'/\HRel W B M' h' w'/\Keep M h M' h' (fun _=>False)
 | .enter f args=> ∃ad,r=.ok (.enter f ad) w/\VsRel M args.toList ad.toList
 | .round l args=> ∃l' ad,IdRel M l l'/\VsRel M args.toList ad.toList/\r=(Instr.yield l' ad).run E.P w
 | .defer d=> ∃d',r=.ok (.defer d') w/\DRel M d d'
 | .recover=>r=.ok .recover w
 | .panic v=> ∃v',r=.halt (.panic v') w/\VRel M v v'
theorem KO {v:Value} (hv:Yb v=true) (n:Nat):Instr.sameBits n v v=true:=by
 cases v<;>simp[Yb]at hv<;>(cases n<;>simp[Instr.sameBits,beq_toListBytes])
theorem Q1b {f:Value->Value->Bool}: ∀(l:List Value),(∀v∈l,f v v=true)->(l.zip l).all (fun(x,y)=>f x y)=true
 | [],_=>rfl
 | v::l,h=>by
   simp only[List.zip_cons_cons,List.all_cons,v0g];exact⟨h v (by simp),Q1b l fun u hu=>h u (by simp[hu])⟩
theorem Q4T {kt:TypeId} {k:Value} (hk:Y8 E kt k=true) (n:Nat):Instr.sameBits (n+1) k k=true:=by
 unfold Y8 at hk
 split at hk
 · split at hk
   · rename_i cs;simp only[v0g]at hk;simp only[Instr.sameBits,beq_self_eq_true,Bool.true_and];exact Q1b _ fun v hv=>KO (v0u.1 hk.1 v hv) n
   cases hk
 · rename_i d _ _;refine KO ?_ _;cases d<;>cases k<;>first|(simp[Zw]at hk;done)|rfl
 cases hk
theorem EsRel.modify {M:Mp} {es:List MapEntry} {ak:Array MapEntry} {f g:MapEntry->MapEntry} (i:Nat) (h:EsRel M es ak.toList)
 (gu: ∀e e',es[i]?=some e->ak.toList[i]?=some e'->ERel M (f e) (g e')):EsRel M (es.modify i f) (ak.modify i g).toList:=by
 refine⟨by simp[h.1],fun j a b ha hb=>?_⟩;rw[v1z,v19]at hb;rw[List.getElem?_modify]at ha;by_cases e:i=j
 · subst e;rw[if_pos rfl,v1H]at hb;obtain⟨y,hy,rfl⟩:=hb;cases hx:es[i]? with
   |none=>rw[hx]at ha;cases ha
   | some x=>
     rw[hx]at ha;simp at ha;subst ha;exact gu x y hx (by simpa using hy)
 rw[if_neg e]at hb
 have:es[j]?=some a:=by
  cases hj:es[j]? with
  |none=>rw[hj]at ha;cases ha
  |some q=>rw[hj]at ha;simp[e]at ha;rw[ha]
 exact h.2 j a b this (by simpa using hb)
theorem EsRel.push {M:Mp} {es:List MapEntry} {ak:Array MapEntry} {e e':MapEntry} (h:EsRel M es ak.toList) (he:ERel M e e'):EsRel M (es++[e]) (ak.push e').toList:=by
 refine⟨by simp[h.1],fun j a b ha hb=>?_⟩;rw[Array.toList_push]at hb;by_cases hj:j <es.length
 · rw[v0z hj]at ha;rw[v0z (by rw[<-h.1];exact hj)]at hb;exact h.2 j a b ha hb
 rw[v0Q (by omega)]at ha;rw[v0Q (by rw[<-h.1];omega),<-h.1]at hb;cases hk:j -es.length with
 |zero=>rw[hk]at ha hb;simp at ha hb;subst ha;subst hb;exact he
 |succ n=>rw[hk]at ha;simp at ha
theorem EsRel.erase {M:Mp} {es:List MapEntry} {ak:Array MapEntry} (i:Nat) (h:EsRel M es ak.toList):EsRel M (es.eraseIdx i) (ak.eraseIdxIfInBounds i).toList:=by
 have e1:(ak.eraseIdxIfInBounds i).toList=ak.toList.eraseIdx i:=by
  simp
 rw[e1];refine⟨by simp[List.length_eraseIdx,h.1],fun j a b ha hb=>?_⟩;rw[List.getElem?_eraseIdx]at ha hb
 split at ha
 · rw[if_pos ‹_›]at hb;exact h.2 j a b ha hb
 rw[if_neg ‹_›]at hb;exact h.2 _ a b ha hb
section
variable {W:World} {B:Nat->Prop} {M:Mp} {h:Hp} {w:World} (H:HRel W B M h w)
include H
theorem HRel.setObj {i b δ S:Nat} {o:AObj} {x x0:Obj} (hρ:M.ρ i=some (b,δ,S)) (cn:w.heap[b]?=some x0) (ib: ∀c e f,x0≠ .cells c e f) (hx:ORel M i o δ S x):
 (setObj b x).run E.P w=.ok () {w with heap:=w.heap.setIfInBounds b x}/\HRel W B M (h.put i o) {w with heap:=w.heap.setIfInBounds b x}/\Keep M h M (h.put i o) (fun _=>False):=by
 have ai:b <w.heap.size:=(v0V.1 cn).1
 have dX: ¬RO h i:=fun⟨c,e,hg⟩=>by
  obtain⟨_,o',x',h1,h2,h3⟩:=H.obj i b δ S hρ;rw[hg]at h1;cases h1;obtain⟨c',fr,hx',_⟩:=h3;rw[cn]at h2;cases h2;exact ib _ _ _ hx'
 refine⟨?_,H.put hρ dX rfl ⟨rfl,v0b _⟩ rfl (by simp) (by simp[ai]) (fun c hc=>by simp[v1O (fun e=>hc e.symm)]) hx,⟨by rw[Hp.n_put];exact v0b _,fun j hj hk _=>⟨hk,?_⟩⟩⟩
 · cases x0<;>first
  |(exact absurd rfl (ib _ _ _))
  |simp[Go.setObj,Sem.run,cn]
 have:i≠j:=fun e=>hk (e▸(H.obj i b δ S hρ).1);rw[Hp.get_put,if_neg this]
theorem Yk {r r':Nat} {es:List MapEntry} {cl:Nat} (hi:IdRel M r r') (hg:h.get r=some (.map es cl)):
 ∃S ak,M.ρ r=some (r',0,S)/\w.heap[r']?=some (.map ak cl)/\EsRel M es ak.toList/\(getObj r').run E.P w=.ok (.map ak cl) w:=by
 obtain⟨b,δ,S,x,hρ,hx,h0,ak,rfl,he⟩:=H.place hi.1 hg (by simp);have:=hi.2 b δ S hρ;subst this;subst h0;exact⟨S,ak,hρ,hx,he,by simp[getObj,Sem.run,hx]⟩
omit H in
theorem Q7R {kt:TypeId} {k e':Value} (hk:Y8 E kt k=true) (he:VRel M k e'):(Instr.keyThatStays e' k).run E.P w=.ok k w:=by
 have:=Q0g hk he;subst this;simp[Instr.keyThatStays,Q4T hk 9999]
theorem Q0c {t:TypeId} {m k v m' k' v':Value} {h':Hp} (hm:VRel M m m') (hk:VRel M k k') (hv:VRel M v v') (hr:Ku E h t m k v=some h'):
 ∃w',(Instr.mapUpdate t m' k' v').run E.P w=.ok () w'/\HRel W B M h' w'/\Keep M h M h' (fun _=>False):=by
 unfold Ku at hr
 split at hr
 · rename_i kt et r hu;cases hm with
   |map hi=>
   rename_i r'
   split at hr
   · rename_i es cl hg;obtain⟨S,ak,hρ,hx,he,gq⟩:=Yk (E:=E) H hi hg;obtain⟨aT,hr⟩:=Qd hr;have ek:=Q0g aT hk;subst ek;have fP:(Instr.checkKey false 10000 kt k').run E.P w=.ok () w:=YM aT;have bp:=Qe hu w
     split at hr
     · rename_i i v0 hf;cases hr;obtain⟨r2,cQ,hc⟩:=Zy (E:=E) H aT hk he hf;rcases hc with⟨h1,_⟩| ⟨j,e,e',h1,h2,h3,h4,h5,h6⟩
       · cases h1
       cases h1;subst h2;have np:(Instr.keyThatStays e'.key k').run E.P w=.ok k' w:=Q7R aT (by have:=h5.1;rw[h6]at this;exact this);have h4':ak[i]?=some e':=by simpa using h4
       obtain⟨p1,p2,p3⟩:=HRel.setObj (E:=E) H (o:=.map (es.modify i fun e=> {e with key:=k',val:=v}) cl) (x:=.map (ak.modify i fun e=> {e with key:=k',val:=v'}) cl) hρ hx (by intro c e f hh;cases hh)
        ⟨rfl,_,rfl,he.modify i fun a b ha hb=>⟨hk,hv,(he.2 i a b ha hb).2.2⟩⟩
       exact⟨_,by simp[Instr.mapUpdate,bp,gq,fP,cQ,h4',np,p1],p2,p3⟩
     · rename_i hf;cases hr;obtain⟨r2,cQ,hc⟩:=Zy (E:=E) H aT hk he hf;rcases hc with⟨_,rfl⟩| ⟨j,e,e',h1,_⟩
       · obtain⟨p1,p2,p3⟩:=HRel.setObj (E:=E) H (o:=.map (es++[{key:=k',val:=v,born:=cl}]) (cl+1)) (x:=.map (ak.push {key:=k',val:=v',born:=cl}) (cl+1)) hρ hx (by intro c e f hh;cases hh)
          ⟨rfl,_,rfl,he.push ⟨hk,hv,rfl⟩⟩
         exact⟨_,by simp[Instr.mapUpdate,bp,gq,fP,cQ,p1],p2,p3⟩
       cases h1
     cases hr
   cases hr
 cases hr
theorem Q2e {t:TypeId} {m k v m' k':Value} {h':Hp} (hm:VRel M m m') (hk:VRel M k k') (hr:Kd E h t m k=some (v,h')):
 ∃v' w',(Instr.mapEntry t m' k').run E.P w=.ok v' w'/\HRel W B M h' w'/\Keep M h M h' (fun _=>False)/\VRel M v v':=by
 unfold Kd at hr
 split at hr
 · rename_i kt et r hu;cases hm with
   |map hi=>
   rename_i r'
   split at hr
   · rename_i es cl hg;obtain⟨S,ak,hρ,hx,he,gq⟩:=Yk (E:=E) H hi hg;obtain⟨aT,hr⟩:=Qd hr;have ek:=Q0g aT hk;subst ek;have fP:(Instr.checkKey false 10000 kt k').run E.P w=.ok () w:=YM aT;have bp:=Qe hu w
     split at hr
     · rename_i i v0 hf;obtain⟨r2,cQ,hc⟩:=Zy (E:=E) H aT hk he hf;rcases hc with⟨h1,_⟩| ⟨j,e,e',h1,h2,h3,h4,h5,h6⟩
       · cases h1
       cases h1;subst h2;rw[h3]at hr;cases hr;have np:(Instr.keyThatStays e'.key k').run E.P w=.ok k' w:=Q7R aT (by have:=h5.1;rw[h6]at this;exact this);have h4':ak[i]?=some e':=by simpa using h4
       obtain⟨p1,p2,p3⟩:=HRel.setObj (E:=E) H (o:=.map (es.modify i fun e=> {e with key:=k'}) cl) (x:=.map (ak.modify i fun e=> {e with key:=k'}) cl) hρ hx (by intro c e f hh;cases hh)
        ⟨rfl,_,rfl,he.modify i fun a b ha hb=>⟨hk,(he.2 i a b ha hb).2.1,(he.2 i a b ha hb).2.2⟩⟩
       refine⟨.tuple #[e'.val,goInt e'.born],_,by simp[Instr.mapEntry,bp,gq,fP,cQ,h4',np,p1],p2,p3,?_⟩;rw[h5.2.2];exact .tuple' (.cons h5.2.1 (.cons (.int _ _) (.nil M)))
     · rename_i hf;obtain⟨r2,cQ,hc⟩:=Zy (E:=E) H aT hk he hf;rcases hc with⟨_,rfl⟩| ⟨j,e,e',h1,_⟩
       · split at hr
         · rename_i z hz;cases hr
           obtain⟨p1,p2,p3⟩:=HRel.setObj (E:=E) H (o:=.map (es++[{key:=k',val:=z,born:=cl}]) (cl+1)) (x:=.map (ak.push {key:=k',val:=z,born:=cl}) (cl+1)) hρ hx (by intro c e f hh;cases hh)
            ⟨rfl,_,rfl,he.push ⟨hk,ZV hz M,rfl⟩⟩
           exact⟨.tuple #[z,goInt cl],_,by simp[Instr.mapEntry,bp,gq,fP,cQ,Y2 hz,p1],p2,p3,.tuple' (.cons (ZV hz M) (.cons (.int _ _) (.nil M)))⟩
         cases hr
       cases h1
     cases hr
   cases hr
 cases hr
theorem Q4o {t:TypeId} {m k m' k':Value} {h':Hp} {ts:Array TypeId} {ty:TypeId} (hm:VRel M m m') (hk:VRel M k k') (ht:ts[0]?=some t) (hr:Q16 E h t m k=some h'):
 ∃w',(Builtin.delete_ ts ty #[m',k']).run E.P w=.ok (.tuple #[]) w'/\HRel W B M h' w'/\Keep M h M h' (fun _=>False):=by
 unfold Q16 at hr
 split at hr
 · rename_i kt et r hu;cases hm with
   |map hi=>
   rename_i r'
   split at hr
   · rename_i es cl hg;obtain⟨S,ak,hρ,hx,he,gq⟩:=Yk (E:=E) H hi hg;obtain⟨aT,hr⟩:=Qd hr;have ek:=Q0g aT hk;subst ek;have fP:(Instr.checkKey ak.isEmpty 10000 kt k').run E.P w=.ok () w:=YM aT;have bp:=Qe hu w
     split at hr
     · rename_i i v0 hf;cases hr;obtain⟨r2,cQ,hc⟩:=Zy (E:=E) H aT hk he hf;rcases hc with⟨h1,_⟩| ⟨j,e,e',h1,h2,h3,h4,h5,h6⟩
       · cases h1
       cases h1;subst h2;obtain⟨p1,p2,p3⟩:=HRel.setObj (E:=E) H (o:=.map (es.eraseIdx i) cl) (x:=.map (ak.eraseIdxIfInBounds i) cl) hρ hx (by intro c e f hh;cases hh) ⟨rfl,_,rfl,he.erase i⟩;exact⟨_,by simp only[Builtin.delete_,ht];simp[bp,gq,fP,cQ,p1],p2,p3⟩
     · rename_i hf;cases hr;obtain⟨r2,cQ,hc⟩:=Zy (E:=E) H aT hk he hf;rcases hc with⟨_,rfl⟩| ⟨j,e,e',h1,_⟩
       · have ai:r' <w.heap.size:=(v0V.1 hx).1;refine⟨{w with heap:=w.heap.setIfInBounds r' (.map ak cl)},?_,?_,Keep.refl _ _ _⟩
         · simp only[Builtin.delete_,ht];simp[bp,gq,fP,cQ,Go.setObj,Sem.run,hx]
         have:w.heap.setIfInBounds r' (.map ak cl)=w.heap:=by
          apply Array.ext_getElem?;intro i;by_cases e:r'=i
          · subst e;rw[hx];simp[ai]
          rw[v1O e]
         rw[this];exact H
       cases h1
     cases hr
   cases hr
 cases hr
theorem Q14 {t:TypeId} {m s v m' s' v':Value} {h':Hp} (hm:VRel M m m') (hs:VRel M s s') (hv:VRel M v v') (hr:ZN h m s v=some h'):
 ∃w',(Instr.entryStore t m' s' v').run E.P w=.ok () w'/\HRel W B M h' w'/\Keep M h M h' (fun _=>False):=by
 unfold ZN at hr
 split at hr
 · rename_i r b hn;cases hm with
   |map hi=>
   rename_i r';obtain⟨k,rfl⟩:=Yx hn;cases hs
   split at hr
   · rename_i es cl hg;obtain⟨S,ak,hρ,hx,he,gq⟩:=Yk (E:=E) H hi hg
     split at hr
     · rename_i i hf;cases hr
       have cJ:ak.findIdx? (fun e=>(e.born:Int)==(b:Int))=some i:=by
        have e1:ak.findIdx? (fun e=>(e.born:Int)==(b:Int))=ak.toList.findIdx? (fun e=>(e.born:Int)==(b:Int)):=by obtain⟨q⟩:=ak;exact List.findIdx?_toArray _ _
        rw[e1]
        have gen: ∀(l l':List MapEntry),EsRel M l l'->l'.findIdx? (fun e=>(e.born:Int)==(b:Int))=l.findIdx? (fun e=>v0d e.born b):=by
         intro l
         induction l with
         | nil=>intro l' hl;cases l' with
           |nil=>rfl
           |cons=>have:=hl.1;simp at this
         | cons x l ih=>intro l' hl;cases l' with
           |nil=>have:=hl.1;simp at this
           | cons y l'=>
             have h0:=(hl.2 0 x y rfl rfl).2.2;have fI:EsRel M l l':=⟨by have:=hl.1;simpa using this,fun j a b ha hb=>hl.2 (j+1) a b (by simpa using ha) (by simpa using hb)⟩;simp only[List.findIdx?_cons,h0,ih l' fI]
             have:((x.born:Int)==(b:Int))=v0d x.born b:=by
              rw[Bool.eq_iff_iff,Qz];simp;omega
             rw[this]
        rw[gen es ak.toList he];exact hf
       obtain⟨p1,p2,p3⟩:=HRel.setObj (E:=E) H (o:=.map (es.modify i fun e=> {e with val:=v}) cl) (x:=.map (ak.modify i fun e=> {e with val:=v'}) cl) hρ hx (by intro c e f hh;cases hh)
        ⟨rfl,_,rfl,he.modify i fun a b ha hb=>⟨(he.2 i a b ha hb).1,hv,(he.2 i a b ha hb).2.2⟩⟩
       exact⟨_,by simp only[Instr.entryStore,Sem.run_bind,gq,Result.andThen_ok,asInt,asIntOf,Sem.run_pure,cJ,p1],p2,p3⟩
     cases hr
   cases hr
 cases hr
end
variable {E:Env}
theorem Q5w (n:Nat): ∀(r c:Nat),c<=n+(n+768)/4->Builtin.growBy n r c<=n+(n+768)/4
 |0,c,h=>h
 | r+1,c,h=>by
   unfold Builtin.growBy
   split
   · exact h
   exact Q5w n r _ (by omega)
theorem Q8A (n c:Nat) (h:c <n):Builtin.nextslicecap n c<=2*n+192:=by
 unfold Builtin.nextslicecap
 split
 · omega
 split
 · omega
 have:=Q5w n 4 c (by omega);omega
section
variable {W:World} {B:Nat->Prop} {M:Mp} {h:Hp} {w:World} (H:HRel W B M h w)
include H
omit H in
theorem K5 (a:Addr) (w:World):(loadCells a 0).run E.P w=.ok #[] w:=by simp[loadCells,loadCellsFrom]
theorem J0 {z n:Nat} {x x':Value} {xs:List Value} (hx:VRel M x x') (hr:Ju h z n x=some xs):
 xs.length=n*z/\ ∃xs',VsRel M xs xs'/\ ∀d,(Builtin.firstCells z n x').run E.P {w with drawn:=d}=.ok xs'.toArray {w with drawn:=d}:=by
 unfold Ju at hr
 split at hr
 · rename_i a l c;cases hx with
   |sl hs=>
   rename_i a' c';obtain⟨hle,hr⟩:=Qd hr;have hle:=(Qr _ _).1 hle;by_cases hn:n=0
   · subst hn
     have:xs=[]:=by
      have h2:some []=some xs:=hr;exact(v0h.inj h2).symm
     subst this;exact⟨by simp,[],.nil M,fun d=>by simp[Builtin.firstCells,K5]⟩
   rw[(Qw n 0).2 hn,cond_false]at hr;obtain⟨hl,l',hv,hc,_⟩:=J5 H (SlRel.live hs (by omega)) hr;refine⟨hl,l',hv,fun d=>?_⟩;have:=run_loadCells_list (P:=E.P) {w with drawn:=d} a' l' hc;rw[<-hv.1,hl]at this;simp[Builtin.firstCells,this]
 · cases hx;obtain⟨hle,hr⟩:=Qd hr;simp only[v0g,Qr,Qz]at hle;cases hr;have:n=0:=by omega
   subst this;exact⟨by simp,[],.nil M,fun d=>by simp[Builtin.firstCells]⟩
 · rename_i s;cases hx;obtain⟨hle,bn⟩:=Qd hr;clear hr;simp only[v0g,Qr,Qz]at hle;obtain⟨hle,rfl⟩:=hle;cases bn;have cq:s.data.toList.length=s.size:=by rw[v2l];rfl
   refine⟨by rw[v0v,List.length_take,cq];omega,(s.data.toList.take n).map fun b=>.int .u8 b.toNat,.map _ _ _ fun _ _=>.int _ _,fun d=>?_⟩;simp only[Builtin.firstCells,Sem.run_pure]
   congr 1
   apply Array.ext';simp
 cases hr
omit H in
theorem Q1g {x x':Value} {n:Nat} (hx:VRel M x x') (hr:KT x=some n):(Builtin.lenOf x').run E.P w=.ok n w:=by
 unfold KT at hr
 split at hr
 · cases hr;cases hx<;>simp[Builtin.lenOf]
 · cases hr;cases hx;simp[Builtin.lenOf]
 cases hr
omit H in
theorem Q7o {t t' e:TypeId} {d':TypeDesc} {z b n l c':Nat} {zv x':Value} {base:Option Addr} {old' xs':List Value} {ty:TypeId} {ts:Array TypeId}
 (hu:E.und t=some (.slice e)) (bp:E.und t'=some d') (hd: ∀k,d'≠ .int k) (hz:E.size e=some (z+1)) (hb:E.bytes e=some (b+1)) (eY:E.zero e=some zv) (lF:zv.cells.size=z+1)
 (ht:ts[0]?=some t) (aQ:ts[1]?=some t') (hn:(Builtin.lenOf x').run E.P w=.ok n w) (jy:c' <l+n) (hbound:(l+n)*(b+1)<=2^40\/2*((l+n)*(b+1))+192*(b+1)<=2^48)
 (hold: ∀d,(Builtin.firstCells (z+1) l (.slice base l c')).run E.P {w with drawn:=d}=.ok old'.toArray {w with drawn:=d})
 (eZ: ∀d,(Builtin.firstCells (z+1) n x').run E.P {w with drawn:=d}=.ok xs'.toArray {w with drawn:=d}):
 ∃ cap rest,l+n<=cap/\rest.size=(cap - (l+n))*(z+1)/\(Builtin.append_ ts ty #[.slice base l c',x']).run E.P w=
   .ok (.slice (some ⟨w.heap.size,0,none⟩) (l+n) cap) {w with drawn:=w.drawn+1,heap:=w.heap.push (.cells (old'.toArray++xs'.toArray++rest) e)}:=by
 obtain⟨ti,mD,iE⟩:=Q1X hb;have cH:=Q8A (l+n) c' jy
 have fQ:2*((l+n)*(b+1))+192*(b+1)<=2^48:=by
  rcases hbound with hbound|hbound
  · have:1*(b+1)<=(l+n)*(b+1):=v1a _ (by omega);omega
  exact hbound
 have hmul:Builtin.nextslicecap (l+n) c'*(b+1)<=2^48:=by
  calc Builtin.nextslicecap (l+n) c'*(b+1)<=(2*(l+n)+192)*(b+1):=v1a _ cH
   _=2*((l+n)*(b+1))+192*(b+1):=by rw[v1j,Nat.mul_assoc]
   _<=2^48:=by omega
 let q:=Question.appendCap (l+n) c' e
 refine⟨q.cut (w.tape w.drawn q),Builtin.zeroCells zv.cells (q.cut (w.tape w.drawn q) - (l+n)),?_,?_,?_⟩
 · show l+n<=(l+n)+_;omega
 · simp[Builtin.zeroCells,lF]
 have mY:(match d' with| .int _=>true|_=>false)=false:=by cases d'<;>first|rfl|(exact absurd rfl (hd _))
 have w1:=hold (w.drawn+1);have w2:=eZ (w.drawn+1);simp only[Builtin.append_,ht,aQ];have g0:(#[Value.slice base l c',x']:Array Value)[0]?=some (.slice base l c'):=rfl;have g1:(#[Value.slice base l c',x']:Array Value)[1]?=some x':=rfl;simp only[g0,g1,Sem.run_bind,Qe hu w,Qe bp w,Result.andThen_ok,QG hz,Sem.run_pure];simp only[v1I,if_false,hn,Result.andThen_ok,Sem.run_bind];rw[if_neg (by omega)];have fL: ¬(Builtin.nextslicecap (l+n) c'*ti.bytes>2^48):=by rw[iE];omega
 simp only[Sem.run_bind,Ks mD,Result.andThen_ok,iE,Nat.succ_ne_zero,or_self,and_false,if_false,Sem.run_ite];rw[if_neg (by rw[iE]at fL;exact fL)];simp only[Sem.run_pure,Result.andThen_ok,run_choose,Question.forced,v1I,if_false,run_askRoom];simp only[w1,w2,Result.andThen_ok,Y2 eY];simp only[newRow,Sem.run_bind,run_newObj,Result.andThen_ok,Sem.run_pure];rfl
theorem Q3j {h0:Hp} {M0:Mp} {e:TypeId} {z n cap S:Nat} {old xs old' xs':List Value} {rest:Array Value} (H0:HRel W B M0 h0 w)
 (hK: ∀i,M0.K i↔M.K i) (dk:h0.n=h.n) (bR:Ev M M0)
 (ho:VsRel M old old') (hx:VsRel M xs xs') (hle:n<=cap) (hlen:old.length+xs.length=n*(z+1)) (fI:rest.size=(cap -n)*(z+1)) (hS:S=cap*(z+1))
 (d:Nat) (hd:w.drawn<=d):HRel W B (M0.add h.n w.heap.size 0 S (z+2)) (h0.alloc (.cells (old++xs) e (z+3))) {w with drawn:=d,heap:=w.heap.push (.cells (old'.toArray++xs'.toArray++rest) e)}/\
  Ev M (M0.add h.n w.heap.size 0 S (z+2))/\VRel (M0.add h.n w.heap.size 0 S (z+2)) (.slice (some ⟨h.n,0,none⟩) n n) (.slice (some ⟨w.heap.size,0,none⟩) n cap):=by
 have dO: ¬M0.K h.n:=fun hk=>by have:=H.kn _ ((hK _).1 hk);omega
 have hlen':old'.length+xs'.length=n*(z+1):=by rw[<-ho.1,<-hx.1];exact hlen
 have hmul:n*(z+1)<=cap*(z+1):=v1a _ hle;have hsub:(cap -n)*(z+1)=cap*(z+1) -n*(z+1):=Nat.sub_mul _ _ _
 have mI:(old'.toArray++xs'.toArray++rest).size=S:=by
  simp only[Array.size_append,List.size_toArray];omega
 have hevA:=Mp.add_ev M0 h.n w.heap.size 0 S (z+2) dO;have k7:=bR.trans hevA;have jI:VsRel (M0.add h.n w.heap.size 0 S (z+2)) (old++xs) (old'++xs'):=(ho.mono k7).append (hx.mono k7);refine⟨?_,k7,.sl ⟨.inl rfl,fun b δ S' hb=>?_⟩⟩
 · have Ha:=World.drew_HRel (H0.allocX (.cells (old++xs) e (z+3))) d hd;refine Ha.push (i:=h.n) (o:=.cells (old++xs) e (z+3)) (x:=.cells (old'.toArray++xs'.toArray++rest) e) (S:=S) (m:=z+2) dO (by rw[Hp.n_alloc];omega) (by rw[Hp.get_alloc,if_pos dk]) ?_;refine⟨_,(0,0),rfl,mI.symm,by simp;omega,fun j v hj=>?_,.inr (.inr ⟨⟨z+1,rfl,by simp[Mp.add]⟩,fun j _=>by simp⟩)⟩;have bH:j <(old++xs).length:=(v0y.1 hj).1;have hjl':j <(old'++xs').length:=by rw[<-jI.1];exact bH
   refine⟨(old'++xs')[j],?_,jI.2 j v _ hj (by simp[])⟩;rw[v0e];have e1:old'.toArray++xs'.toArray=(old'++xs').toArray:=by simp
   rw[e1,Array.getElem?_append_left (by simpa using hjl')];simp[]
 simp only[Mp.add,if_true,v0h.injEq,Prod.mk.injEq]at hb;obtain⟨rfl,rfl,rfl⟩:=hb;exact .inr ⟨z+1,by simp[Mp.add],.inl ⟨rfl,hle,by simp[hS]⟩⟩
def Mp.drop (M:Mp) (i:Nat):Mp:= {M with ρ:=fun j=>if j=i then none else M.ρ j}
omit H in
theorem Q6S (i:Nat):Ev M (M.drop i):=⟨fun _ hj=>hj,fun j x _ hx=>by
 simp only[Mp.drop]at hx
 split at hx
 · cases hx
 exact hx,fun _ _=>rfl⟩
theorem Qb0 {i:Nat} (hk:M.K i):HRel W B (M.drop i) (h.put i .dead) w/\Ev M (M.drop i):=by
 refine⟨⟨fun j b δ S hj=>?_,fun j k b δ S δ' S' hj bc=>?_,fun j hj=>?_,fun j hj=>?_,fun j nq hj=>?_,H.os,H.tape,H.output,H.size,H.old,fun j b δ S hj=>?_,H.glob.mono (Q6S i)⟩,Q6S i⟩
 · simp only[Mp.drop]at hj
   split at hj
   · cases hj
   rename_i e;obtain⟨h1,o,x,h2,h3,h4⟩:=H.obj j b δ S hj;refine⟨h1,o,x,by rw[Hp.get_put,if_neg (fun e'=>e e'.symm)];exact h2,h3,?_⟩;exact h4.mono (Q6S i) h1
 · simp only[Mp.drop]at hj bc
   split at hj
   · cases hj
   rename_i e
   split at bc
   · cases bc
   rcases H.inj _ _ _ _ _ _ _ hj bc with h1| ⟨c,e',h1⟩
   · exact .inl h1
   exact .inr ⟨c,e',by rw[Hp.get_put,if_neg (fun x=>e x.symm)];exact h1⟩
 · rw[Hp.n_put];exact H.kn j hj
 · rw[Hp.n_put]at hj;rw[Hp.get_put,if_neg (by have:=H.kn i hk;omega)];exact H.fresh j hj
 · simp only[Mp.drop]at hj;by_cases e:j=i
   · subst e;exact .inr (by rw[Hp.get_put,if_pos rfl])
   rw[if_neg e]at hj;rw[Hp.get_put,if_neg (fun e'=>e e'.symm)];exact H.live j nq hj
 simp only[Mp.drop]at hj
 split at hj
 · cases hj
 rename_i e;intro hb;rcases H.own j b δ S hj hb with h1| ⟨c,e',h1⟩
 · exact .inl h1
 exact .inr ⟨c,e',by rw[Hp.get_put,if_neg (fun x=>e x.symm)];exact h1⟩
theorem QeD {i b δ S o s:Nat} {cs cs':List Value} {e:TypeId} {c2:Array Value} {fr:Nat×Nat} {w':World}
 (hρ:M.ρ i=some (b,δ,S)) (bQ:M.md i=s+1)
 (kU:w'.os=w.os) (dU:w'.tape=w.tape/\w.drawn<=w'.drawn) (fh:w'.output=w.output) (cq:w'.heap.size=w.heap.size)
 (hb:w'.heap[b]?=some (.cells c2 e fr)) (cN: ∀c,c≠b->w'.heap[c]?=w.heap[c]?) (hS:S=c2.size)
 (bS:VsRel M cs cs') (aP: ∀j v,cs'[j]?=some v->c2[δ+o+j]?=some v) (cT:δ+o+cs.length<=S) (bI: ∀j,j <S-> ¬(fr.1<=j/\j <fr.2)):
 HRel W B ((M.drop i).add h.n b (δ+o) S (s+1)) ((h.put i .dead).alloc (.cells cs e (s+2))) w'/\Ev M ((M.drop i).add h.n b (δ+o) S (s+1)):=by
 have hk:=(H.obj i b δ S hρ).1;have hilt:=H.kn i hk;have dO: ¬M.K h.n:=fun bc=>by have:=H.kn _ bc;omega
 obtain⟨H1,E1⟩:=Qb0 H hk;have hnk1: ¬(M.drop i).K h.n:=dO;have E2:=Mp.add_ev (M.drop i) h.n b (δ+o) S (s+1) hnk1;have EE:=E1.trans E2
 have dX: ¬RO h i:=fun⟨cc,ee,hg⟩=>by
  obtain⟨_,o',x',h1,h2,h3⟩:=H.obj i b δ S hρ;rw[hg]at h1;cases h1;obtain⟨c',aw,hx',_,_,_,h4⟩:=h3;rcases h4 with⟨h5,_⟩| ⟨_,h5,_⟩| ⟨⟨s',h5,_⟩,_⟩
  · cases h5
  · rw[bQ]at h5;cases h5
  omega
 have hbB:b <W.heap.size->B b:=fun hb=>(H.own i b δ S hρ hb).resolve_right dX;refine⟨⟨fun j b' δ' S' hj=>?_,fun j k b' δ1 S1 δ2 S2 hj bc=>?_,fun j hj=>?_,fun j hj=>?_,fun j nq hj=>?_,kU.trans H.os,⟨dU.1.trans H.tape.1,fun b=>v0t (H.tape.2 b) dU.2⟩,fh.trans H.output,by rw[cq];exact H.size,fun k bP j0=>?_,fun j b' δ' S' hj ai=>?_,H.glob.mono EE⟩,EE⟩
 · by_cases ej:j=h.n
   · subst ej;simp only[Mp.add,if_true,v0h.injEq,Prod.mk.injEq]at hj;obtain⟨rfl,rfl,rfl⟩:=hj;refine⟨.inl rfl,.cells cs e (s+2),_,by rw[Hp.get_alloc,Hp.n_put,if_pos rfl],hb,c2,fr,rfl,hS,cT,fun j v hj=>?_,.inr (.inr ⟨⟨s,rfl,by simp[Mp.add]⟩,bI⟩)⟩;have ai:j <cs'.length:=by rw[<-bS.1];exact(v0y.1 hj).1
     exact⟨cs'[j],aP j _ (by simp[ai]),(bS.2 j v _ hj (by simp[ai])).mono EE⟩
   simp only[Mp.add,if_neg ej,Mp.drop]at hj
   split at hj
   · cases hj
   rename_i ei;obtain⟨h1,o',x,h2,h3,h4⟩:=H.obj j b' δ' S' hj;have ao:b'≠b:=fun e'=>ei ((H.inj i j b δ S δ' S' hρ (e'▸hj)).resolve_right dX).symm;refine⟨.inr h1,o',x,?_,by rw[cN _ ao];exact h3,h4.mono EE h1⟩;rw[Hp.get_alloc,Hp.n_put,if_neg (fun e'=>ej e'.symm),Hp.get_put,if_neg (fun e'=>ei e'.symm)];exact h2
 · by_cases ej:j=h.n<;>by_cases ek:k=h.n
   · exact .inl (by rw[ej,ek])
   · simp only[Mp.add,if_pos ej,if_neg ek,Mp.drop,v0h.injEq,Prod.mk.injEq]at hj bc
     split at bc
     · cases bc
     rename_i ei;obtain⟨rfl,_,_⟩:=hj;exact absurd ((H.inj i k b δ S δ2 S2 hρ bc).resolve_right dX).symm ei
   · simp only[Mp.add,if_neg ej,if_pos ek,Mp.drop,v0h.injEq,Prod.mk.injEq]at hj bc
     split at hj
     · cases hj
     rename_i ei;obtain⟨rfl,_,_⟩:=bc;exact absurd ((H.inj i j b δ S δ1 S1 hρ hj).resolve_right dX).symm ei
   simp only[Mp.add,if_neg ej,if_neg ek,Mp.drop]at hj bc
   split at hj
   · cases hj
   rename_i ei
   split at bc
   · cases bc
   rcases H.inj _ _ _ _ _ _ _ hj bc with h1| ⟨cc,ee,h1⟩
   · exact .inl h1
   refine .inr ⟨cc,ee,?_⟩;rw[Hp.get_alloc,Hp.n_put,if_neg (fun e'=>ej e'.symm),Hp.get_put,if_neg (fun e'=>ei e'.symm)];exact h1
 · rw[Hp.n_alloc,Hp.n_put];rcases hj with rfl|hj
   · omega
   have:=H.kn j hj;omega
 · rw[Hp.n_alloc,Hp.n_put]at hj;rw[Hp.get_alloc,Hp.n_put,if_neg (by omega),Hp.get_put,if_neg (by omega)];exact H.fresh j (by omega)
 · by_cases ej:j=h.n
   · subst ej;simp[Mp.add]at hj
   have hkj':M.K j:=nq.resolve_left ej;simp only[Mp.add,if_neg ej,Mp.drop]at hj;rw[Hp.get_alloc,Hp.n_put,if_neg (fun e'=>ej e'.symm)];by_cases ei:j=i
   · subst ei;exact .inr (by rw[Hp.get_put,if_pos rfl])
   rw[if_neg ei]at hj;rw[Hp.get_put,if_neg (fun e'=>ei e'.symm)];exact H.live j hkj' hj
 · have:k≠b:=fun e'=>j0 (e'▸hbB (e'▸bP));rw[cN k this];exact H.old k bP j0
 by_cases ej:j=h.n
 · simp only[Mp.add,if_pos ej,v0h.injEq,Prod.mk.injEq]at hj;obtain⟨rfl,_,_⟩:=hj;exact .inl (hbB ai)
 simp only[Mp.add,if_neg ej,Mp.drop]at hj
 split at hj
 · cases hj
 rename_i ei;rcases H.own j b' δ' S' hj ai with h1| ⟨cc,ee,h1⟩
 · exact .inl h1
 refine .inr ⟨cc,ee,?_⟩;rw[Hp.get_alloc,Hp.n_put,if_neg (fun e'=>ej e'.symm),Hp.get_put,if_neg (fun e'=>ei e'.symm)];exact h1
end
variable {E:Env}
theorem Jo (a:Addr) (w:World) (i:Nat):(storeCells a [] i).run E.P w=.ok () w:=rfl
theorem Q1x {w w':World} {t t' e:TypeId} {d':TypeDesc} {z n l c':Nat} {x':Value} {base:Option Addr} {xs':List Value} {ty:TypeId} {ts:Array TypeId}
 (hu:E.und t=some (.slice e)) (bp:E.und t'=some d') (hd: ∀k,d'≠ .int k) (hz:E.size e=some (z+1))
 (ht:ts[0]?=some t) (aQ:ts[1]?=some t') (hn:(Builtin.lenOf x').run E.P w=.ok n w) (hle:l+n<=c')
 (eZ:(Builtin.firstCells (z+1) n x').run E.P w=.ok xs'.toArray w)
 (av:match base with|some a=>(storeCells (a.add (l*(z+1))) xs').run E.P w=.ok () w'|none=>w'=w):
 (Builtin.append_ ts ty #[.slice base l c',x']).run E.P w=.ok (.slice base (l+n) c') w':=by
 have mY:(match d' with| .int _=>true|_=>false)=false:=by cases d'<;>first|rfl|(exact absurd rfl (hd _))
 simp only[Builtin.append_,ht,aQ];have g0:(#[Value.slice base l c',x']:Array Value)[0]?=some (.slice base l c'):=rfl;have g1:(#[Value.slice base l c',x']:Array Value)[1]?=some x':=rfl;simp only[g0,g1,Sem.run_bind,Qe hu w,Qe bp w,Result.andThen_ok,QG hz,Sem.run_pure];simp only[v1I,if_false,hn,Result.andThen_ok,Sem.run_bind];rw[if_pos hle];simp only[Sem.run_bind];cases base with
 |none=>simp only at av;subst av;simp[eZ]
 |some a=>simp only at av;simp[eZ,av]
section
variable {W:World} {B:Nat->Prop} {M:Mp} {h:Hp} {w:World} (H:HRel W B M h w)
include H
omit H in
theorem Qei {a:Addr} {old:List Value} (hr:rowOf h a 0=some old):old=[]:=by
 unfold rowOf at hr
 split at hr
 · cases hr
 split at hr
 · obtain⟨_,h2⟩:=Qd hr;simp at h2;exact h2.symm▸rfl
 cases hr
omit H in
theorem Q0W {M':Mp} {o:AObj} (hk: ∀i,i <h.n->M'.K i->M.K i):Keep M h M' (h.alloc o) (fun _=>False):=by
 refine⟨by rw[Hp.n_alloc];omega,fun i hi dA _=>⟨fun hh=>dA (hk i hi hh),?_⟩⟩;rw[Hp.get_alloc,if_neg (by omega)]
omit H in
theorem Q5o {M':Mp} {o:AObj} {j:Nat} (hj:M.K j) (hk: ∀i,i <h.n->M'.K i->M.K i):Keep M h M' ((h.put j .dead).alloc o) (fun _=>False):=by
 refine⟨by rw[Hp.n_alloc,Hp.n_put];omega,fun i hi dA _=>⟨fun hh=>dA (hk i hi hh),?_⟩⟩;have ao:j≠i:=fun h0=>dA (h0▸hj);rw[Hp.get_alloc,Hp.n_put,if_neg (by omega),Hp.get_put,if_neg ao]
theorem Q0R {a a':Addr} {l c c' m:Nat} (hs:SlRel M a a' l c c') (hm:ZP h a=some m):
 ∃ b δ S,M.ρ a.block=some (b,δ,S)/\((m<=1/\M.md a.block=0/\a'=⟨b,δ+a.off,a.spot⟩/\c'=c)\/
   (∃q,m=q+2/\M.md a.block=q+1/\((a'=⟨b,δ+a.off,a.spot⟩/\c<=c'/\δ+a.off+c'*q<=S)\/(l=0/\c'=0/\c=0)))):=by
 obtain⟨b,δ,S,hρ,bQ⟩:=Ja H hs.1 hm;refine⟨b,δ,S,hρ,?_⟩;rcases hs.2 b δ S hρ with⟨h0,h1,h2⟩| ⟨q,h0,h1⟩
 · rcases bQ with⟨h3,h4⟩| ⟨s,h3,h4⟩
   · exact .inl ⟨h3,h4,h1,h2⟩
   omega
 rcases bQ with⟨h3,h4⟩| ⟨s,h3,h4⟩
 · omega
 have:s=q:=by omega
 subst this;exact .inr ⟨s,h3,h4,h1⟩
theorem Q4v {t t' : TypeId} {s x s' x' v:Value} {h':Hp} {ts:Array TypeId} {ty:TypeId} (hs:VRel M s s') (hx:VRel M x x') (ht:ts[0]?=some t) (aQ:ts[1]?=some t')
 (hr:Zd E h t t' s x=some (v,h')):
 ∃v' w' M',(Builtin.append_ ts ty #[s',x']).run E.P w=.ok v' w'/\Ev M M'/\HRel W B M' h' w'/\Keep M h M' h' (fun _=>False)/\VRel M' v v':=by
 unfold Zd at hr
 split at hr
 case h_2=>cases hr
 rename_i e d' n hu bp hn;have hlen:=Q1g (E:=E) (w:=w) hx hn
 split at hr
 · cases hr
 · rename_i d' _ _ _ z b hdn hz hb;have hd: ∀k,d'≠ .int k:=fun k hk=>hdn k hk
   have kn: ∀(M0:Mp) (bl δ S m:Nat),(∀i,M0.K i↔M.K i)-> ∀i,i <h.n->(M0.add h.n bl δ S m).K i->M.K i:=by
    intro M0 bl δ S m hM i hi dA;rcases dA with rfl|dA
    · omega
    exact(hM i).1 dA
   split at hr
   ·
    rename_i xs eZ;cases hs;obtain⟨fF,xs',gC,bW⟩:=J0 (E:=E) H hx eZ;cases dk:v0d n 0 with
    | true=>
      have lL:=(Qz _ _).1 dk;subst lL;rw[dk,cond_true]at hr;cases hr;exact⟨.slice none 0 0,w,M,Q1x (base:=none) (l:=0) (c':=0) hu bp hd hz ht aQ hlen (by omega) (bW w.drawn) rfl,Ev.refl M,H,Keep.refl _ _ _,.nils _ _⟩
    | false=>
      have lL:=(Qw _ _).1 dk;rw[dk,cond_false]at hr;unfold growX at hr
      split at hr
      · rename_i zv eY;obtain⟨hc,hr⟩:=Qd hr;simp only[v0g,v0K,Qr,Qz]at hc;cases hr
        obtain⟨cap,rest,h1,h2,h3⟩:=Q7o (E:=E) (w:=w) (l:=0) (c':=0) (base:=none) (old':=[]) (xs':=xs') (ty:=ty) hu bp hd hz hb eY hc.2 ht aQ hlen (by omega) (by rw[v0e];exact hc.1)
         (fun d=>by simp[Builtin.firstCells]) bW
        rw[v0e]at h1 h2 h3;obtain⟨p1,p2,p3⟩:=Q3j (M:=M) (h:=h) (w:=w) H (h0:=h) (M0:=M) (e:=e) (z:=z) (n:=n) (cap:=cap) (S:=cap*(z+1)) (old:=[]) (old':=[]) (xs:=xs) (xs':=xs') (rest:=rest) H (fun _=>Iff.rfl) rfl (Ev.refl M) (.nil M) gC h1 (by simpa using fF) h2 rfl (w.drawn+1) (Nat.le_succ _);exact⟨_,_,_,h3,p2,p1,Q0W (kn M _ _ _ _ (fun _=>Iff.rfl)),p3⟩
      cases hr
   ·
    rename_i a l c xs eZ;cases hs with
    |sl bE=>
    rename_i a' c';obtain⟨fF,xs',gC,bW⟩:=J0 (E:=E) H hx eZ;cases dk:v0d n 0 with
    | true=>
      have lL:=(Qz _ _).1 dk;subst lL;rw[dk,cond_true]at hr
      split at hr
      · rename_i m hm;obtain⟨hlc,hr⟩:=Qd hr;have hlc:=(Qr _ _).1 hlc;cases hr
        have cn:xs'=[]:=by
         have:=gC.1;rw[fF]at this;simp at this;cases xs' with
         |nil=>rfl
         |cons=>simp at this
        subst cn
        have hle:l+0<=c':=by
         obtain⟨bb,δ,S,_,az⟩:=Q0R H bE hm;rcases az with⟨_,_,_,h4⟩| ⟨q,_,_,⟨_,h4,_⟩| ⟨h4,_,_⟩⟩<;>omega
        exact⟨_,w,M,Q1x (base:=some a') hu bp hd hz ht aQ hlen hle (bW w.drawn) (Jo _ _ _),Ev.refl M,H,Keep.refl _ _ _,.sl bE⟩
      cases hr
    | false =>
      have lL:=(Qw _ _).1 dk;rw[dk,cond_false]at hr;cases ij:Nat.ble (l+n) c with
      | true=>
        have hle:=(Qr _ _).1 ij;rw[ij,cond_true]at hr
        split at hr
        · rename_i h1 av;obtain⟨bZ,hr⟩:=Qd hr;cases hr
          -- the block is there, in either case
          have hmo: ∃m,ZP h a=some m:=by
           unfold Zl at av
           split at av
           · cases av
           split at av
           · rename_i cc ee mm hg;rw[block_add]at hg;exact⟨mm,by unfold ZP;rw[hg]⟩
           cases av
          obtain⟨m,hm⟩:=hmo;obtain⟨bb,δ,S,hρ,az⟩:=Q0R H bE hm
          have hA:AddrRel M a a'/\c<=c':=by
           rcases az with⟨_,_,h3,h4⟩| ⟨q,_,_,⟨h3,h4,_⟩| ⟨h3,h4,h5⟩⟩
           · exact⟨⟨bE.1,fun b2 δ2 S2 h6=>by rw[hρ]at h6;cases h6;exact h3⟩,by omega⟩
           · exact⟨⟨bE.1,fun b2 δ2 S2 h6=>by rw[hρ]at h6;cases h6;exact h3⟩,by omega⟩
           omega
          obtain⟨w',r,H',K',_⟩:=YZ (E:=E) H (hA.1.add (l*(z+1))) gC bZ av;refine⟨_,w',M,Q1x (base:=some a') hu bp hd hz ht aQ hlen (by omega) (bW w.drawn) r,Ev.refl M,H',K',.sl ⟨bE.1,fun b2 δ2 S2 h6=>?_⟩⟩;rw[hρ]at h6;cases h6;rcases az with⟨_,h2,h3,h4⟩| ⟨q,_,h2,⟨h3,h4,h5⟩| ⟨h3,h4,h5⟩⟩
          · exact .inl ⟨h2,h3,h4⟩
          · exact .inr ⟨q,h2,.inl ⟨h3,h4,h5⟩⟩
          omega
        cases hr
      | false =>
        have jy:c <l+n:=by
         rcases Nat.lt_or_ge c (l+n)with h1|h1
         · exact h1
         rw[(Qr _ _).2 h1]at ij;cases ij
        rw[ij,cond_false]at hr
        split at hr
        · rename_i old c0 be m aq hg;obtain⟨bZ,hr⟩:=Qd hr;have hm:ZP h a=some m:=by unfold ZP;rw[hg]
          obtain⟨bb,δ,S,hρ,az⟩:=Q0R H bE hm
          -- what was there, read
          have hold:old.length=l*(z+1)/\ ∃old',VsRel M old old'/\ ∀d,(Builtin.firstCells (z+1) l (.slice (some a') l c')).run E.P {w with drawn:=d}=.ok old'.toArray {w with drawn:=d}:=by
           by_cases hl:l=0
           · subst hl;rw[Nat.zero_mul]at aq;have:=Qei aq;subst this;exact⟨by simp,[],.nil M,fun d=>by simp[Builtin.firstCells,K5]⟩
           obtain⟨fw,l',hv,hc,_⟩:=J5 H (SlRel.live bE (by omega)) aq;refine⟨fw,l',hv,fun d=>?_⟩;have:=run_loadCells_list (P:=E.P) {w with drawn:=d} a' l' hc;rw[<-hv.1,fw]at this;simp[Builtin.firstCells,this]
          obtain⟨dW,old',mU,jU⟩:=hold;have htot:old.length+xs.length=(l+n)*(z+1):=by rw[dW,fF,v1j]
          -- the way on which the model makes a new block
          have grow: ∀(h0:Hp) (M0:Mp),HRel W B M0 h0 w->(∀i,M0.K i↔M.K i)->h0.n=h.n->Ev M M0->growX E h0 e (z+1) (b+1) (l+n) old xs=some (v,h')->c' <l+n->
           (∀M',(∀i,i <h.n->M'.K i->M.K i)->Keep M h M' (h0.alloc (.cells (old++xs) e (z+3))) (fun _=>False))->
           ∃v' w' M',(Builtin.append_ ts ty #[.slice (some a') l c',x']).run E.P w=.ok v' w'/\Ev M M'/\HRel W B M' h' w'/\Keep M h M' h' (fun _=>False)/\VRel M' v v':=by
           intro h0 M0 H0 hK dk bR hg ai ns;unfold growX at hg
           split at hg
           · rename_i zv eY;obtain⟨hc,hg⟩:=Qd hg;simp only[v0g,v0K,Qr,Qz]at hc;cases hg;obtain⟨cap,rest,h1,h2,h3⟩:=Q7o (E:=E) (w:=w) (l:=l) (c':=c') (base:=some a') (old':=old') (xs':=xs') (ty:=ty) hu bp hd hz hb eY hc.2 ht aQ hlen ai hc.1 jU bW;obtain⟨p1,p2,p3⟩:=Q3j (M:=M) (h:=h) (w:=w) H (h0:=h0) (M0:=M0) (e:=e) (z:=z) (n:=l+n) (cap:=cap) (S:=cap*(z+1)) (rest:=rest) H0 hK dk bR mU gC h1 htot h2 rfl (w.drawn+1) (Nat.le_succ _);refine⟨_,_,_,h3,p2,p1,ns _ (kn M0 _ _ _ _ hK),?_⟩;rw[dk];exact p3
           cases hg
          split at hr
          ·
           rename_i q;obtain⟨hq,bn⟩:=Qd hr;clear hr;simp only[v0g,Qz]at hq;obtain⟨rfl,rfl⟩:=hq;obtain⟨H1,E1⟩:=Qb0 H bE.1;rcases az with⟨h2,_⟩| ⟨q2,h2,bQ,ki⟩
           · omega
           have:q2=z+1:=by omega
           subst this;by_cases gY:l+n<=c'
           ·
            rcases ki with⟨ha,hcc,cT⟩| ⟨h3,h4,h5⟩
            · obtain⟨bx,δx,Sx,x0,hρx,cn,c1,fr,rfl,hS,jv,bS,hmm⟩:=H.place bE.1 hg (by simp);rw[hρ]at hρx;cases hρx
              have hsp:a.spot=none:=by
               have:=aq;unfold rowOf at this
               split at this
               · cases this
               assumption
              rw[hsp]at ha;subst ha
              have bI: ∀j,j <c1.size-> ¬(fr.1<=j/\j <fr.2):=by
               rcases hmm with⟨h6,_⟩| ⟨h6,_⟩| ⟨_,h6⟩
               · omega
               · omega
               rw[hS]at h6;exact h6
              have hxl':xs'.length=n*(z+1):=by rw[<-gC.1];exact fF
              have hmul:(l+n)*(z+1)<=c'*(z+1):=v1a _ gY;rw[v1j]at hmul
              have dv:(⟨bb,δ+a.off,none⟩:Addr).add (l*(z+1))=⟨bb,δ+a.off+l*(z+1),none⟩:=by
               unfold Addr.add;split
               · rename_i e0;rw[e0];rfl
               rfl
              have fj: ∀v∈xs',v.oneCell'=true:=by
               intro v hvm;obtain⟨i,hi⟩:=List.getElem?_of_mem hvm;have ai:i <xs.length:=by have:=(v0y.1 hi).1;have:=gC.1;omega
               have hu:xs[i]?=some xs[i]:=by simp[ai]
               exact Q5O (v0u.1 bZ _ (v0M ai)) (gC.2 i _ _ hu hi)
              have run:=run_storeCells_cells (P:=E.P) bb (δ+a.off+l*(z+1)) xs' 0 w (fun j hj=>by
               have:δ+a.off+l*(z+1)+j <c1.size:=by omega
               simp[World.cell?,cn,this]) (fun j hj=>by
               have:=bI (δ+a.off+l*(z+1)+j) (by omega);simp only[World.frozen?,cn,v1A];obtain⟨lo,hi⟩:=fr;simp only at this ⊢;rw[v1Z];simp only[decide_eq_false_iff_not]
               omega) fj
              rw[v1A]at run;obtain⟨c2,p1,p2,p3,p4,p5,p6,p7,p8⟩:=Kp bb xs' (δ+a.off+l*(z+1)) w c1 be fr cn (by omega)
              have kV: ∀j v,old'[j]?=some v->c1[δ+a.off+j]?=some v:=by
               intro j v hj;have ai:j <old'.length:=(v0y.1 hj).1
               have gi:0 <l:=by
                rcases Nat.eq_zero_or_pos l with h6|h6
                · subst h6;have:=mU.1;rw[dW]at this;omega
                exact h6
               obtain⟨_,l',hv,hc,_⟩:=J5 H (SlRel.live bE gi) aq;have h7:=run_loadCells_list (P:=E.P) w _ l' hc;have h8:=jU w.drawn;rw[<-hv.1,dW]at h7;simp only[Builtin.firstCells]at h8;have h9:Result.ok l'.toArray w=Result.ok old'.toArray w:=h7.symm.trans h8
               have h10:l'=old':=by
                have:=(Result.ok.injEq _ _ _ _).mp h9;simpa using this.1
               have h11:=hc j v (by rw[h10];exact hj);rw[Q89 cn]at h11;exact h11
              have jI:=mU.append gC
              obtain⟨q1,q2⟩:=QeD (e:=be) (o:=a.off) H hρ bQ p6 p7 p8 p5 p1 p4 (by rw[p2];exact hS) jI
               (fun j v hj=>by
                rw[p3];by_cases hj0:j <old'.length
                · rw[v0z hj0]at hj;have:old'.length=l*(z+1):=by rw[<-mU.1];exact dW
                  rw[if_neg (by omega)];exact kV j v hj
                rw[v0Q (by omega)]at hj;have h12:old'.length=l*(z+1):=by rw[<-mU.1];exact dW
                have h13:=(v0y.1 hj).1;rw[if_pos (by omega)];have:δ+a.off+j - (δ+a.off+l*(z+1))=j -old'.length:=by omega
                rw[this];exact hj) (by rw[List.length_append];omega) (by rw[hS];exact bI)
              unfold growX at bn
              split at bn
              · rename_i zv eY;obtain⟨_,jn⟩:=Qd bn;clear bn;cases jn
                refine⟨.slice (some ⟨bb,δ+a.off,none⟩) (l+n) c',_,_,Q1x (base:=some ⟨bb,δ+a.off,none⟩) hu bp hd hz ht aQ hlen gY (bW w.drawn) (by show(storeCells ((⟨bb,δ+a.off,none⟩:Addr).add (l*(z+1))) xs').run E.P w=_;rw[dv];exact run),q2,q1,
                 Q5o bE.1 (kn (M.drop a.block) _ _ _ _ (fun _=>Iff.rfl)),.sl ⟨by rw[Hp.n_put];exact .inl rfl,fun b2 δ2 S2 h6=>?_⟩⟩
                simp only[Mp.add,Hp.n_put,if_true,v0h.injEq,Prod.mk.injEq]at h6;obtain⟨rfl,rfl,rfl⟩:=h6;refine .inr ⟨z+1,by simp[Mp.add,Hp.n_put],.inl ⟨by simp,gY,by simpa using cT⟩⟩
              cases bn
            omega
           exact grow _ _ H1 (fun _=>Iff.rfl) (Hp.n_put _ _ _) E1 bn (by omega) (fun M' hM'=>Q5o bE.1 hM')
          ·
           rename_i bF;rcases az with⟨_,_,_,h4⟩| ⟨q,h2,_⟩
           · subst h4;exact grow h M H (fun _=>Iff.rfl) rfl (Ev.refl M) hr jy (fun M' hM'=>Q0W hM')
           exact absurd h2 (bF q)
        cases hr
   cases hr
 cases hr
theorem Q6W {t:TypeId} {d s d' s' v:Value} {h':Hp} {ts:Array TypeId} {ty:TypeId} (hd:VRel M d d') (hs:VRel M s s') (ht:ts[0]?=some t)
 (hr:Qbb E h t d s=some (v,h')):
 ∃v' w',(Builtin.copy_ ts ty #[d',s']).run E.P w=.ok v' w'/\HRel W B M h' w'/\Keep M h M h' (fun _=>False)/\VRel M v v':=by
 unfold Qbb at hr
 split at hr
 case h_2=>cases hr
 rename_i e n hu hn;have hlen:=Q1g (E:=E) (w:=w) hs hn;have g0:(#[d',s']:Array Value)[0]?=some d':=rfl;have g1:(#[d',s']:Array Value)[1]?=some s':=rfl
 split at hr
 · rename_i z a l c hz;cases hd with
   |sl bE=>
   rename_i a' c'
   split at hr
   · rename_i xs eZ;obtain⟨fF,xs',gC,bW⟩:=J0 (E:=E) H hs eZ;obtain⟨bZ,hr⟩:=Qd hr
     split at hr
     · rename_i h1 av;cases hr;have ay:=bW w.drawn;by_cases hl:l=0
       · subst hl
         have cn:xs=[]:=by
          cases xs with
          |nil=>rfl
          |cons=>simp at fF
         subst cn
         have je:xs'=[]:=by
          cases xs' with
          |nil=>rfl
          |cons=>have:=gC.1;simp at this
         subst je
         -- nothing is written: the block is put as it was
         unfold Zl at av
         split at av
         · cases av
         split at av
         · rename_i cc ee mm hg;obtain⟨hc,av⟩:=Qd av;cases av;obtain⟨b,δ,S,x,hρ,hx,ho⟩:=H.place bE.1 hg (by simp);refine⟨.int .i64 (min n 0:Nat),w,?_,?_,?_,.int _ _⟩
           · simp only[Builtin.copy_,ht,g0,g1,Sem.run_bind,Qe hu w,Result.andThen_ok,hlen,QG hz];have:(Builtin.firstCells (z+1) (n.min 0) s').run E.P w=.ok #[] w:=ay;rw[this];simp[Jo,goInt]
           · have hcc:cc.take a.off++([]:List Value)++cc.drop (a.off+([]:List Value).length)=cc:=by simp
             rw[hcc];refine H.put hρ (fun⟨c1,e1,h1⟩=>?_) rfl ⟨rfl,v0b _⟩ rfl rfl hx (fun _ _=>rfl) ho;rw[hg]at h1;cases h1;simp at hc
           refine⟨by rw[Hp.n_put];exact v0b _,fun i hi hk _=>⟨hk,?_⟩⟩;have ao:a.block≠i:=fun e0=>hk (e0▸bE.1);rw[Hp.get_put,if_neg ao]
         cases av
       obtain⟨w',r,H',K',_⟩:=YZ (E:=E) H (SlRel.live bE (by omega)) gC bZ av;refine⟨.int .i64 (min n l:Nat),w',?_,H',K',.int _ _⟩;simp only[Builtin.copy_,ht,g0,g1,Sem.run_bind,Qe hu w,Result.andThen_ok,hlen,QG hz];have:(Builtin.firstCells (z+1) (n.min l) s').run E.P w=.ok xs'.toArray w:=ay;rw[this];simp[r,goInt]
     cases hr
   cases hr
 · rename_i z hz;cases hd;cases hr;refine⟨.int .i64 0,w,?_,H,Keep.refl _ _ _,.int _ _⟩
   have hf:(Builtin.firstCells (z+1) 0 s').run E.P w=.ok #[] w:=by
    unfold KT at hn
    split at hn
    · cases hs with
      |nils=>simp[Builtin.firstCells]
      |sl=>simp[Builtin.firstCells,K5]
    · cases hs;simp[Builtin.firstCells]
    cases hn
   simp only[Builtin.copy_,ht,g0,g1,Sem.run_bind,Qe hu w,Result.andThen_ok,hlen,QG hz];have e0:n.min 0=0:=by simp
   rw[e0,hf];simp[goInt]
 cases hr
end
variable {E:Env}
theorem arr2 {M:Mp} {x y:Value} {a:Array Value} (h:VsRel M [x,y] a.toList): ∃x' y',a= #[x',y']/\VRel M x x'/\VRel M y y':=by
 obtain⟨l⟩:=a
 match l,h with
 | [],h=>have:=h.1;simp at this
 | [_],h=>have:=h.1;simp at this
 | [x',y'],h=>exact⟨x',y',rfl,h.uncons.1,h.uncons.2.uncons.1⟩
 |_::_::_::_,h=>have:=h.1;simp at this
theorem Q73 {M:Mp} {x:Value} {l:List Value} {a:Array Value} (h:VsRel M (x::l) a.toList): ∃x' l',a.toList=x'::l'/\VRel M x x'/\VsRel M l l':=by
 obtain⟨l0⟩:=a
 match l0,h with
 | [],h=>have:=h.1;simp at this
 |x'::l',h=>exact⟨x',l',rfl,h.uncons.1,h.uncons.2⟩
section
variable {W:World} {B:Nat->Prop} {M:Mp} {h:Hp} {w:World} (H:HRel W B M h w)
theorem Jq {tm:Tr Value} {ρ:Operand->Value} {c:Call} {type:TypeId} {d:Deferred} (hE: ∀x∈c.operands,VRel M (ev tm x) (ρ x)) (hr:ZI tm c type=some d):
 ∃d',(resolve ρ c type).run E.P w=.ok d' w/\DRel M d d':=by
 obtain⟨callee,args,argTypes⟩:=c
 have ax:VsRel M (args.map (ev tm)).toList (args.map ρ).toList:=by
  rw[v1y,v1y];refine .map _ _ _ fun x hx=>hE x ?_;cases callee<;>simp[Call.operands]<;>first|exact .inr (by simpa using hx)|simpa using hx
 unfold ZI at hr;cases callee with
 |builtin b=>cases hr;exact⟨_,rfl,⟨rfl,rfl,rfl,rfl⟩,ax⟩
 | invoke r m=>
   cases hr;have hrr:=hE r (by simp[Call.operands]);refine⟨_,rfl,⟨rfl,.nil M⟩,?_⟩;simp only[v12];exact(VsRel.cons hrr (.nil M)).append ax
 | value f=>
   have hf:=hE f (by simp[Call.operands]);simp only at hr
   split at hr
   · rename_i fn first captured heq
     cases hr;rw[heq]at hf;have ay:(resolve ρ ⟨.value f,args,argTypes⟩ type).run E.P w=(Deferred.ofValue (ρ f) (args.map ρ)).run E.P w:=rfl;rw[ay];generalize ρ f=q at hf;cases hf with
     |func hfn ha hb ka kb=>
     refine⟨_,rfl,⟨hfn,⟨hb,kb⟩⟩,?_⟩;simp only[v12];exact VsRel.append ⟨ha,ka⟩ ax
   cases hr
theorem YU (H:HRel W B M h w) {o:AObj} {x:Obj} {S m:Nat} (hx:ORel (M.add h.n w.heap.size 0 S m) h.n o 0 S x):
 HRel W B (M.add h.n w.heap.size 0 S m) (h.alloc o) {w with heap:=w.heap.push x}/\Ev M (M.add h.n w.heap.size 0 S m)/\Keep M h (M.add h.n w.heap.size 0 S m) (h.alloc o) (fun _=>False):=by
 have dO: ¬M.K h.n:=fun hk=>by have:=H.kn _ hk;omega
 refine⟨(H.allocX o).push dO (by rw[Hp.n_alloc];omega) (by rw[Hp.get_alloc,if_pos rfl]) hx,Mp.add_ev M _ _ _ _ _ dO,Q0W fun i hi dA=>?_⟩;rcases dA with rfl|dA
 · omega
 exact dA
theorem Q0t {f:FuncId} {args ad:Array Value} {n:Nx} (H:HRel W B M h w) (ha:VsRel M args.toList ad.toList) (hr:YN E h f args=some n):
 Qg2 W B E M h w n ((callFunc f ad).run E.P w):=by
 unfold YN at hr;cases hx:E.ext f with
 | true=>
   rw[hx,cond_true]at hr;obtain⟨fn,hf,hnm,hb,hn,he⟩:=E.hext f hx;unfold Q3q at hr
   split at hr
   · rename_i t r ax
     split at hr
     · rename_i es cl hg;cases hr;rw[ax]at ha;obtain⟨v',l',e1,hv,hl⟩:=Q73 ha;have aR:l'=[]:=by have:=hl.1;simpa using this.symm
       subst aR;cases hv with
       | iface hv=>
         cases hv with
         | map hi=>
           rename_i r';obtain⟨S,ak,hρ,hxo,jA,bj⟩:=Yk (E:=E) H hi hg;have dO: ¬M.K h.n:=fun hk=>by have:=H.kn _ hk;omega
           have bR:=Mp.add_ev M h.n w.heap.size 0 0 0 dO;obtain⟨H',e',K⟩:=YU H (o:=.map es cl) (x:=.map ak cl) (S:=0) (m:=0) ⟨rfl,ak,rfl,jA.mono bR⟩
           have e2:ad= #[.iface t (.map (some r'))]:=by
            apply v1P.1;exact e1
           subst e2;refine⟨.iface t (.map (some w.heap.size)),_,_,?_,e',H',K,.iface (.map ⟨.inl rfl,fun b δ S hb=>by simp[Mp.add]at hb;exact hb.1⟩)⟩
           have cK:(Extern.MapsClone.clone #[.iface t (.map (some r'))]).run E.P w=.ok (.iface t (.map (some w.heap.size))) {w with heap:=w.heap.push (.map ak cl)}:=by
            have e3:Extern.MapsClone.clone #[.iface t (.map (some r'))]=(getObj r'>>=fun o=>match o with
             | .map entries clock=>(do pure (.iface t (.map (some (<-newObj (.map entries clock))))))
             |_=>stuck "maps.clone: a map expected"):=rfl
            rw[e3];simp only[Sem.run_bind,bj,Result.andThen_ok];rfl
           have aG:(mark (.extern f)).run E.P w=.ok () w:=rfl;simp only[callFunc,Sem.run_bind,run_program,Result.andThen_ok,hf,hnm,v1I,if_false,hb,if_true,hn,he,aG,cK,Sem.run_pure]
     cases hr
   cases hr
 | false=>
   rw[hx,cond_false]at hr
   split at hr
   · rename_i fn hf;obtain⟨hc,hr⟩:=Qd hr;cases hr;simp only[v0g,v0J]at hc;have hb:fn.body.isNone=false:=by cases hq:fn.body<;>simp[hq]at hc ⊢
     refine⟨ad,?_,ha⟩;simp only[callFunc,Sem.run_bind,run_program,Result.andThen_ok,E.hfn f fn hf,hc.2,v1I,if_false,hb,Sem.run_pure]
   cases hr
theorem Q8B {t:TypeId} {v:Value} {name:String} {f:FuncId} (hm:Q6z E t name=some f) (n:Nat):
 (method (n+1) t v name).run E.P w=.ok (f,v) w:=by
 unfold Q6z at hm
 split at hm
 · rename_i i hi
   split at hm
   · rename_i m fO
     split at hm
     · rename_i f' hp hfn
       split at hm
       · rename_i e hd;cases hm
         have hu:E.und t=some (.pointer e):=by
          unfold Env.und;rw[hi];obtain⟨desc,_,_,_,_,_,_,_,_,_⟩:=i;simp only at hd;subst hd;rfl
         simp[method,Ks hi,fO,hp,follow,hfn,receiverAt,Qe hu,Place.get]
       cases hm
     · rename_i f' hp hfn
       split at hm
       · cases hm
       · rename_i d bF hu;cases hm;simp only[method,Sem.run_bind,Ks hi,Result.andThen_ok,fO,hp,follow,Sem.run_pure,hfn,receiverAt,Qe hu]
         cases d<;>first
          |(exact absurd rfl (bF _))
          |simp[Place.get]
       cases hm
     cases hm
   cases hm
 cases hm
include H
theorem Kv {d d':Deferred} {n:Nx} (hd:DRel M d d') (hr:Zx E h d=some n):
 Qg2 W B E M h w n ((invoke d'.target d'.args).run E.P w):=by
 obtain⟨tg,args⟩:=d;obtain⟨tg',ad⟩:=d';obtain⟨ht,ha⟩:=hd;simp only at ht ha;unfold Zx at hr;simp only at hr
 split at hr
 ·
  rename_i f cap;cases tg'<;>simp only[TgRel]at ht<;>try (exact ht.elim)
  rename_i f' jK;obtain⟨hf,cH⟩:=ht;cases f'<;>simp only[FnRel]at hf<;>first|(cases hf;done)|skip
  cases hf
  have au:VsRel M (args++cap).toList (ad++jK).toList:=by
   simp only[v12];exact ha.append cH
  exact Q0t H au hr
 ·
  rename_i l cap;cases hr;cases tg'<;>simp only[TgRel]at ht<;>try (exact ht.elim)
  rename_i f' jK;obtain⟨hf,cH⟩:=ht;cases f'<;>simp only[FnRel]at hf<;>first|(exact hf.elim)|skip
  rename_i l';exact⟨l',ad,hf,ha,rfl⟩
 ·
  rename_i name cap;cases tg'<;>simp only[TgRel]at ht<;>try (exact ht.elim)
  rename_i f' jK;obtain⟨hf,cH⟩:=ht;cases f'<;>simp only[FnRel]at hf<;>first|(cases hf;done)|skip
  cases hf
  split at hr
  · rename_i t v rest hl;rw[hl]at ha;obtain⟨x',l',e1,hx,aR⟩:=Q73 ha;cases hx with
    |iface hv=>
    rename_i v'
    split at hr
    · rename_i f hm;have ay:=Q8B (E:=E) (w:=w) (v:=v') hm (E.P.types.size+99);have e0:ad[0]?=some (.iface t v'):=by rw[<-v1z,e1];rfl
      have e2:(ad.extract 1 ad.size).toList=l':=by
       rw[Array.toList_extract,List.extract_eq_take_drop,e1];have:ad.size=l'.length+1:=by have:=congrArg List.length e1;simpa using this
       rw[this];simp
      have au:VsRel M (#[v]++rest.toArray).toList (#[v']++ad.extract 1 ad.size).toList:=by
       simp only[v12];rw[e2];exact(VsRel.cons hv (.nil M)).append (by simpa using aR)
      have hc:=Q0t H (W:=W) (B:=B) (h:=h) (w:=w) au hr
      have hinv:(invoke (.fn (.method name) jK) ad).run E.P w=(callFunc f (#[v']++ad.extract 1 ad.size)).run E.P w:=by
       have hd:E.P.types.size+Made.depth=E.P.types.size+99+1:=rfl;simp only[invoke,e0,callMethod,Sem.run_bind,run_program,Result.andThen_ok,hd,ay]
      rw[hinv];exact hc
    cases hr
  cases hr
 ·
  rename_i b ts ty cs;cases tg'<;>simp only[TgRel]at ht<;>try (exact ht.elim)
  obtain⟨rfl,rfl,rfl,rfl⟩:=ht
  split at hr
  · rename_i t s x h0 hl;rw[hl]at ha;obtain⟨s',x',rfl,hs,hx⟩:=arr2 ha
    split at hr
    · rename_i t' h1
      split at hr
      · rename_i v h' ll;cases hr;obtain⟨v',w',M',r1,r2,r3,r4,r5⟩:=Q4v (E:=E) (ty:=ty) H hs hx h0 h1 ll;exact⟨v',w',M',by simp[invoke,builtin,r1],r2,r3,r4,r5⟩
      cases hr
    cases hr
  · rename_i t a b0 h0 hl;rw[hl]at ha;obtain⟨s',x',rfl,hs,hx⟩:=arr2 ha
    split at hr
    · rename_i v h' ll;cases hr;obtain⟨v',w',r1,r3,r4,r5⟩:=Q6W (E:=E) (ty:=ty) H hs hx h0 ll;exact⟨v',w',M,by simp[invoke,builtin,r1],Ev.refl M,r3,r4,r5⟩
    cases hr
  · rename_i t a b0 h0 hl;rw[hl]at ha;obtain⟨s',x',rfl,hs,hx⟩:=arr2 ha
    split at hr
    · rename_i h' ll;cases hr;obtain⟨w',r1,r3,r4⟩:=Q4o (E:=E) (ty:=ty) H hs hx h0 ll;exact⟨_,w',M,by simp[invoke,builtin,r1],Ev.refl M,r3,r4,.tuple' (.nil M)⟩
    cases hr
  · cases hr;simp[Qg2,invoke,builtin]
  · rename_i x l hl;rw[hl]at ha;obtain⟨x',l',e1,hx,aR⟩:=Q73 ha
    split at hr
    · rename_i t v;cases hr;cases hx with
      |iface hv=>
      rename_i v'
      have e0:ad.getD 0 .nilIface=.iface t v':=by
       have:ad[0]?=some (.iface t v'):=by rw[<-v1z,e1];rfl
       simp[Array.getD_eq_getD_getElem?,this]
      exact⟨.iface t v',by simp[invoke,builtin,e0,Instr.panic],.iface hv⟩
    cases hr
  cases hr
 cases hr
end
variable {E:Env}
section
variable {W:World} {B:Nat->Prop} {M:Mp} {h:Hp} {w:World} (H:HRel W B M h w)
include H
theorem Q1c {tm : Tr Value} {ρ:Operand->Value} {o:Oper} {n:Nx} (hE: ∀x∈o.op.operands,VRel M (ev tm x) (ρ x)) (hr:QW E tm o h=some n):
 Qg2 W B E M h w n ((execOp ρ o).run E.P w):=by
 obtain⟨dst,op,type,pos,after,guard⟩:=o;simp only at hE;cases op<;>simp only[QW]at hr<;>simp only[Op.operands]at hE
 case store t a x=>
  have ha:=hE a (by simp);have hx:=hE x (by simp)
  split at hr
  · rename_i p heq;rw[heq]at ha
    split at hr
    · rename_i h' av;cases hr;have ay:(execOp ρ ⟨dst,.store t a x,type,pos,after,guard⟩)=(do Instr.storeAt t (ρ a) (ρ x);pure .skip):=rfl;rw[ay];generalize ρ a=q at ha;cases ha with
      |ptr hp=>
      rename_i p';obtain⟨w',r,H',K'⟩:=Q4K (E:=E) H hp hx av;exact⟨w',M,by simp[Instr.storeAt,Instr.sureAddr,r],Ev.refl M,H',K'⟩
    cases hr
  cases hr
 case mapUpdate t m k x=>
  split at hr
  · rename_i h' av;cases hr;obtain⟨w',r,H',K'⟩:=Q0c (E:=E) H (hE m (by simp)) (hE k (by simp)) (hE x (by simp)) av;exact⟨w',M,by simp[execOp,r],Ev.refl M,H',K'⟩
  cases hr
 case insert t m k x=>
  split at hr
  · rename_i h' av;cases hr;obtain⟨w',r,H',K'⟩:=Q0c (E:=E) H (hE m (by simp)) (hE k (by simp)) (hE x (by simp)) av;exact⟨w',M,by simp[execOp,r],Ev.refl M,H',K'⟩
  cases hr
 case mapEntry t m k=>
  split at hr
  · rename_i v h' av;cases hr;obtain⟨v',w',r,H',K',hv⟩:=Q2e (E:=E) H (hE m (by simp)) (hE k (by simp)) av;exact⟨v',w',M,by simp[execOp,r],Ev.refl M,H',K',hv⟩
  cases hr
 case entryStore t m s x=>
  split at hr
  · rename_i h' av;cases hr;obtain⟨w',r,H',K'⟩:=Q14 (E:=E) (t:=t) H (hE m (by simp)) (hE s (by simp)) (hE x (by simp)) av;exact⟨w',M,by simp[execOp,r],Ev.refl M,H',K'⟩
  cases hr
 case range t x=>
  have hx:=hE x (by simp)
  split at hr
  · rename_i s hu heq;rw[heq]at hx;cases hr;have ay:(execOp ρ ⟨dst,.range t x,type,pos,after,guard⟩)=(do pure (.value (<-Instr.range t (ρ x)))):=rfl;rw[ay];generalize ρ x=q at hx;cases hx;obtain⟨H',E',K'⟩:=YU H (o:=.str s 0) (x:=.stringIter s 0) (S:=0) (m:=0) ⟨rfl,rfl⟩;exact⟨.pointer (some ⟨w.heap.size,0,none⟩),_,_,by simp[Instr.range,Qe hu],E',H',K',.ptr ⟨.inl rfl,fun b δ S hb=>by simp[Mp.add]at hb;obtain⟨rfl,rfl,_⟩:=hb;rfl⟩⟩
  · rename_i hu heq;rw[heq]at hx;cases hr;have ay:(execOp ρ ⟨dst,.range t x,type,pos,after,guard⟩)=(do pure (.value (<-Instr.range t (ρ x)))):=rfl;rw[ay];generalize ρ x=q at hx;cases hx;obtain⟨H',E',K'⟩:=YU H (o:=.iter none 0 [] 0) (x:=.mapIter none 0 #[] 0) (S:=0) (m:=0) ⟨rfl,rfl⟩;exact⟨.pointer (some ⟨w.heap.size,0,none⟩),_,_,by simp[Instr.range,Qe hu],E',H',K',.ptr ⟨.inl rfl,fun b δ S hb=>by simp[Mp.add]at hb;obtain⟨rfl,rfl,_⟩:=hb;rfl⟩⟩
  · rename_i r hu heq;rw[heq]at hx
    split at hr
    · rename_i es cl hg;cases hr;have ay:(execOp ρ ⟨dst,.range t x,type,pos,after,guard⟩)=(do pure (.value (<-Instr.range t (ρ x)))):=rfl;rw[ay];generalize ρ x=q at hx;cases hx with
      | map hi=>
        obtain⟨S,ak,hρ,hx',he,bj⟩:=Yk (E:=E) H hi hg;rename_i r';have dk: ¬M.K h.n:=fun hk=>by have:=H.kn _ hk;omega
        obtain⟨H',E',K'⟩:=YU H (o:=.iter (some r) cl [] cl) (x:=.mapIter (some r') cl #[] cl) (S:=0) (m:=0) ⟨rfl,r',rfl,hi.mono (Mp.add_ev M h.n w.heap.size 0 0 0 dk)⟩;exact⟨.pointer (some ⟨w.heap.size,0,none⟩),_,_,by simp[Instr.range,Qe hu,bj],E',H',K',.ptr ⟨.inl rfl,fun b δ S hb=>by simp[Mp.add]at hb;obtain⟨rfl,rfl,_⟩:=hb;rfl⟩⟩
    cases hr
  cases hr
 case next it isS=>
  cases isS with
  |false=>cases hr
  | true=>
    have hx:=hE it (by simp);simp only at hr
    split at hr
    · rename_i r heq;rw[heq]at hx;have ay:(execOp ρ ⟨dst,.next it true,type,pos,after,guard⟩)=(do pure (.value (<-Instr.next (ρ it) true type))):=rfl;rw[ay];generalize ρ it=q at hx;cases hx with
      |ptr hp=>
      rename_i p'
      split at hr
      · rename_i s p hg;obtain⟨b,δ,S,x0,hρ,cn,hδ,rfl⟩:=H.place hp.1 hg (by simp);subst hδ;have ep:=hp.2 b 0 S hρ;simp only[v0e]at ep;subst ep;have gq:(getObj b).run E.P w=.ok (.stringIter s p) w:=by simp[getObj,Sem.run,cn]
        by_cases ai:p <s.size
        · rw[(QT _ _).2 ai,cond_true]at hr;cases hr;obtain⟨p1,p2,p3⟩:=HRel.setObj (E:=E) H (o:=.str s (p+(Utf8.decode s p).2)) (x:=.stringIter s (p+(Utf8.decode s p).2)) hρ cn (by intro c e f hh;cases hh) ⟨rfl,rfl⟩;refine⟨.tuple #[.bool true,goInt p,.int .i32 (Utf8.decode s p).1],_,M,?_,Ev.refl M,p2,p3,.tuple' (.cons (.bool _) (.cons (.int _ _) (.cons (.int _ _) (.nil M))))⟩;simp[Instr.next,gq,ai,p1]
        have:Nat.blt p s.size=false:=by
         cases hb:Nat.blt p s.size with
         |false=>rfl
         |true=>exact absurd ((QT _ _).1 hb) ai
        rw[this,cond_false]at hr;cases hr;refine⟨.tuple #[.bool false],w,M,?_,Ev.refl M,H,Keep.refl _ _ _,.tuple' (.cons (.bool _) (.nil M))⟩;simp[Instr.next,gq,ai]
      cases hr
    cases hr
 case convert src iK x=>
  have hx:=hE x (by simp)
  split at hr
  · rename_i ds e s hs hd heq;rw[heq]at hx
    split at hr
    · rename_i hu;cases hr;have ay:(execOp ρ ⟨dst,.convert src iK x,type,pos,after,guard⟩)=(do pure (.value (<-convert src iK (ρ x)))):=rfl;rw[ay];generalize ρ x=q at hx;cases hx
      let qq:=Question.appendCap s.size 0 e
      let cap:=qq.cut (w.tape w.drawn qq)
      have cH:s.size<=cap:=by show s.size<=s.size+_;omega
      let cells:Array Value:=(s.data.map fun b=>.int .u8 b.toNat)++v1N (cap -s.size) (.int .u8 0)
      have cq:cells.size=cap:=by
       have:s.data.size=s.size:=rfl;simp only[cells,Array.size_append,Array.size_map,Array.size_replicate,this];omega
      have iA:(convert src iK (.string s)).run E.P w=.ok (.slice (some ⟨w.heap.size,0,none⟩) s.size cap) {w with drawn:=w.drawn+1,heap:=w.heap.push (.cells cells e (cap,cap+1))}:=by
       have r1:=Qe hs w;have r2:=Qe hd w;have r3:=Qe hu w
       have hsb:(Conv.stringToBytes e s).run E.P w=.ok (.slice (some ⟨w.heap.size,0,none⟩) s.size cap) {w with drawn:=w.drawn+1,heap:=w.heap.push (.cells cells e (cap,cap+1))}:=by
        have hf:qq.forced=false:=rfl;simp only[Conv.stringToBytes,Sem.run_bind,run_choose];show(Result.andThen (if qq.forced=true then _ else _) _)=_;rw[hf];simp only[v1I,if_false,Result.andThen_ok,newRow,Sem.run_bind,run_newObj,Sem.run_pure,markStringish,run_shape];have jk:(World.shape? {w with drawn:=w.drawn+1,heap:=w.heap.push (.cells cells e)} w.heap.size)=some (e,cells.size):=by simp[World.shape?]
        show Result.andThen ((match World.shape? {w with drawn:=w.drawn+1,heap:=w.heap.push (.cells cells e)} w.heap.size with
         |some (_,n)=>freeze {block:=w.heap.size,off:=n} 1
         |_=>pure ()).run E.P {w with drawn:=w.drawn+1,heap:=w.heap.push (.cells cells e)}) _=_
        rw[jk];simp only[run_freeze,Result.andThen_ok,cq]
        congr 1
        simp only[World.freeze,Nat.succ_ne_zero,if_false]
        congr 1
        apply Array.ext_getElem?;intro i;rw[v19];by_cases hi:w.heap.size=i
        · subst hi;simp
        rw[if_neg hi,v2j,v2j,if_neg (fun e0=>hi e0.symm),if_neg (fun e0=>hi e0.symm)]
       cases ds<;>simp only[convert,Sem.run_bind,r1,r2,r3,Result.andThen_ok,hsb]
      have Hd:=World.drew_HRel H (w.drawn+1) (Nat.le_succ _);have dO: ¬M.K h.n:=fun hk=>by have:=H.kn _ hk;omega
      have hE':=Mp.add_ev M h.n w.heap.size 0 cap 2 dO
      obtain⟨H',E',K'⟩:=YU Hd (o:=.cells (s.data.toList.map fun b=>.int .u8 b.toNat) e 3) (x:=.cells cells e (cap,cap+1)) (S:=cap) (m:=2)
       ⟨cells,(cap,cap+1),rfl,cq.symm,by
        have:s.data.toList.length=s.size:=by rw[v2l];rfl
        rw[v0v,this];omega,fun j v hj=>by
        rw[v0e]
        have bH:j <s.data.size:=by
         have:=(v0y.1 hj).1;simpa using this
        refine⟨v,?_,?_⟩
        · simp only[cells];rw[Array.getElem?_append_left (by simpa using bH)];simpa using hj
        rw[v0D,v1H]at hj;obtain⟨b,_,rfl⟩:=hj
        exact .int _ _,.inr (.inr ⟨⟨1,rfl,by simp[Mp.add]⟩,fun j hj=>by simp only;omega⟩)⟩
      refine⟨_,_,_,by rw[Sem.run_bind,iA];rfl,E',H',K',.sl ⟨.inl rfl,fun b δ S hb=>?_⟩⟩;simp only[Mp.add,if_true,v0h.injEq,Prod.mk.injEq]at hb;obtain⟨rfl,rfl,rfl⟩:=hb;exact .inr ⟨1,by simp[Mp.add],.inl ⟨rfl,cH,by simp⟩⟩
    cases hr
  · rename_i es e b n k hs hd heq;rw[heq]at hx
    have hsd:src=iK:=by
     cases hq:v0d src iK with
     |true=>exact(Qz _ _).1 hq
     |false=>rw[hq]at hr;simp at hr
    subst hsd;simp only[v0I,cond_true]at hr
    split at hr
    · rename_i c e' hu hg;cases hr;have ay:(execOp ρ ⟨dst,.convert src src x,type,pos,after,guard⟩)=(do pure (.value (<-convert src src (ρ x)))):=rfl;rw[ay];generalize ρ x=q at hx;cases hx with
      | sl hp =>
        rename_i a' k';obtain⟨b',δ,S,x0,hρ,cn,c',fr,rfl,hS,jv,bS,hm⟩:=H.place hp.1 hg (by simp);rcases hm with⟨_,bQ,rfl,ox,rfl⟩| ⟨h1,_⟩| ⟨⟨s,h1,_⟩,_⟩
        · have dX: ¬RO h b:=fun⟨c1,e1,h1⟩=>by
           rw[hg]at h1;cases h1
          have ai:b' <w.heap.size:=(v0V.1 cn).1;rcases hp.2 b' 0 S hρ with⟨_,rfl,rfl⟩| ⟨s,m6,_⟩
          · have r2:=Qe hd w;have r3:=Qe hu w;have jk:w.shape? b'=some (e',c'.size):=by simp[World.shape?,cn]
            have nG:w.freeze {block:=b',off:=c'.size} 1= {w with heap:=w.heap.setIfInBounds b' (.cells c' e' (c'.size,c'.size+1))}:=by
             unfold World.freeze;rw[if_neg (by decide)]
             congr 1
             apply Array.ext_getElem?;intro i;rw[v19];by_cases hi:b'=i
             · subst hi;rw[if_pos rfl,cn];simp[ai]
             rw[if_neg hi,v1O hi]
            have iA:(convert src src (.slice (some ⟨b',0+0,none⟩) n k')).run E.P w=.ok (.slice (some ⟨b',0+0,none⟩) n k') {w with heap:=w.heap.setIfInBounds b' (.cells c' e' (c'.size,c'.size+1))}:=by
             have aG:(markStringish ⟨b',0+0,none⟩).run E.P w=.ok () {w with heap:=w.heap.setIfInBounds b' (.cells c' e' (c'.size,c'.size+1))}:=by
              simp only[markStringish,Sem.run_bind,run_shape,Result.andThen_ok,jk,run_freeze,nG]
             have hbq:(src==src)=true:=beq_self_eq_true src;simp only[convert,Sem.run_bind,r2,r3,Result.andThen_ok,hbq,aG,Sem.run_pure]
            have H':=H.put (o:=.cells c e' 1) (x:=.cells c' e' (c'.size,c'.size+1)) (w':= {w with heap:=w.heap.setIfInBounds b' (.cells c' e' (c'.size,c'.size+1))}) hρ dX rfl ⟨rfl,v0b _⟩ rfl (by simp) (by simp[ai]) (fun j hj=>by simp[v1O (fun e0=>hj e0.symm)])
             ⟨c',_,rfl,hS,jv,bS,.inr (.inl ⟨rfl,bQ,rfl,ox⟩)⟩
            refine⟨_,_,M,by rw[Sem.run_bind,iA];rfl,Ev.refl M,H',⟨by rw[Hp.n_put];exact v0b _,fun j hj hk _=>⟨hk,?_⟩⟩,.sl hp⟩;have:b≠j:=fun e0=>hk (e0▸hp.1);rw[Hp.get_put,if_neg this]
          rw[bQ]at m6;cases m6
        · cases h1
        cases h1
    cases hr
  cases hr
 case call c=>
  split at hr
  · rename_i d hd;obtain⟨d',r,iT⟩:=Jq (E:=E) (w:=w) (ρ:=ρ) (fun x hx=>hE x hx) hd;have:=Kv (E:=E) H iT hr
    have ay:(execOp ρ ⟨dst,.call c,type,pos,after,guard⟩).run E.P w=(invoke d'.target d'.args).run E.P w:=by
     simp only[execOp,Sem.run_bind,r,Result.andThen_ok]
    rw[ay];exact this
  cases hr
 case defer c=>
  split at hr
  · rename_i d hd;cases hr;obtain⟨d',r,iT⟩:=Jq (E:=E) (w:=w) (ρ:=ρ) (fun x hx=>hE x hx) hd;exact⟨d',by simp[execOp,r],iT⟩
  cases hr
 case panic x=>
  have hx:=hE x (by simp)
  split at hr
  · rename_i t v heq;cases hr;rw[heq]at hx;have ay:(execOp ρ ⟨dst,.panic x,type,pos,after,guard⟩)=(do pure (.value (<-Instr.panic (ρ x)))):=rfl;rw[ay];generalize ρ x=q at hx;cases hx with
    |iface hv=>
    rename_i v';exact⟨.iface t v',by simp[Instr.panic],.iface hv⟩
  cases hr
 all_goals cases hr
end
section
variable {W:World} {B:Nat->Prop} {E:Env}
def Q77 (nt:Nat) (tm:Tr Value) (o:Oper) (v:Value):Prop:= ∀d,o.dst=some d->d <nt->ev tm (.tmp d)=v
def Pend (E:Env) (M:Mp) (h:Hp) (lo hi nt:Nat) (tm:Tr Value) (ops:Array Oper) (s:Bool) (c:List Nat) (idf:Nat->Nat) (i:Nat) (o:Oper):Prop:=
 match QD ops tm o with
 |none=>False
 |some false=>Q77 nt tm o undef
 | some true=>match cls E o with
   |0=>i∈c\/((s=true->KG o=true)/\ ∃v,QL E tm o h=some v/\Q77 nt tm o v)
   |1=> ∃b f,allocX E tm o=some (b,f)/\Q77 nt tm o (f (idf i))/\h.get (idf i)=some b/\ ¬M.K (idf i)/\lo<=idf i/\idf i <hi
   |_=>False
def Q0y (E:Env) (tm:Tr Value) (ops:Array Oper) (o:Oper):Prop:=QD ops tm o=some true/\cls E o=1
structure Draw (E:Env) (M:Mp) (h:Hp) (lo hi nt:Nat) (tm:Tr Value) (ops:Array Oper) (s:Bool) (c rest l:List Nat) (tmps:Array Value) (idf:Nat->Nat):Prop where
 eok:Kz ops=true
 tok:Q7c ops=true
 cok:QS ops=true
 ord:Q0P E ops rest=true
 nd:rest.Nodup
 cl:Closed ops rest
 ord':Qdh ops l
 nd':l.Nodup
 cl':Closed ops l
 sub: ∀i,i∈rest->i∈l
 lt: ∀i,i∈l->i <ops.size
 size:tmps.size=nt
 tmp: ∀t,(t <nt-> ∀i o,i∈l->ops[i]?=some o->o.dst≠some t)->VRel M (ev tm (.tmp t)) (tmps.getD t undef)
 pend: ∀i o,i∈l->i∉rest->ops[i]?=some o->Pend E M h lo hi nt tm ops s c idf i o
 inj: ∀i j o q,i∈l->i∉rest->ops[i]?=some o->Q0y E tm ops o->j∈l->j∉rest->ops[j]?=some q->Q0y E tm ops q->idf i=idf j->i=j
variable {M M':Mp} {h h':Hp} {w w':World} {lo hi aX nt:Nat} {tm bq:Tr Value} {ops:Array Oper} {s:Bool} {c rest l:List Nat} {tmps:Array Value} {idf:Nat->Nat}
theorem Q3s {o:Oper} (hg: ∀g b og d,o.guard=some (g,b)->ops[g]?=some og->og.dst=some d->tm.get d=bq.get d):QD ops tm o=QD ops bq o:=by
 unfold QD;cases hgd:o.guard with
 |none=>rfl
 | some gb=>
   obtain⟨g,b⟩:=gb;simp only;cases fk:ops[g]? with
   |none=>rfl
   | some og=>
     simp only;cases hd:og.dst with
     |none=>rfl
     |some d=>simp only;rw[hg g b og d hgd fk hd]
theorem Q7z (nt:Nat) (tm:Tr Value) (d:Option Nat) (v:Value) (t:Nat) (h:t <nt->d≠some t):(Q1e nt tm d v).get t=tm.get t:=by
 cases d with
 |none=>rfl
 |some d=>rw[Q1e,Q1E,if_neg (by rintro⟨rfl,ai⟩;exact h ai rfl)]
theorem JE (nt:Nat) (tm:Tr Value) (d:Option Nat) (v:Value) (t:Nat) (h:t <nt->d≠some t):ev (Q1e nt tm d v) (.tmp t)=ev tm (.tmp t):=by
 simp only[ev];rw[Q7z nt tm d v t h]
theorem Q3L (nt:Nat) (tm:Tr Value) (o:Oper) (v:Value):Q77 nt (Q1e nt tm o.dst v) o v:=by
 intro d hd ai;simp only[ev,hd,Q1e];rw[Q1E,if_pos ⟨rfl,ai⟩]
theorem Draw.looks (D:Draw E M h lo hi nt tm ops s c rest l tmps idf) {i j:Nat} {o q:Oper} (ho:ops[i]?=some o) (ed:i∉rest) (hq:ops[j]?=some q) (hj:j∈rest):
 (∀t,Operand.tmp t∈o.op.operands->q.dst≠some t)/\(∀g b,o.guard=some (g,b)->g≠j)/\ ∀d,o.dst=some d->q.dst≠some d:=by
 have ai:=(v0V.1 ho).1;obtain⟨h1,h2,h3⟩:=YE D.tok ho hq;refine⟨fun t ht e=>Q5U D.eok D.cl (h2 t ht e) ai ed hj,fun g b hg e=>?_,h1 fun e=>ed (e▸hj)⟩;subst e;exact Q5U D.eok D.cl (h3 _ b hg) ai ed hj
theorem Draw.looksX {j:Nat} (D:Draw E M h lo hi nt tm ops s c (j::rest) l tmps idf) {q:Oper} (hq:ops[j]?=some q):
 (∀t,Operand.tmp t∈q.op.operands->q.dst≠some t)/\(∀g b,q.guard=some (g,b)->g≠j):=by
 have ai:=(v0V.1 hq).1;obtain⟨h1,h2,h3⟩:=YE D.tok hq hq;have hp:=(Yh D.ord).1;refine⟨fun t ht e=>Kk D.eok D.cl hp (h2 t ht e) ai (by simp),fun g b hg e=>?_⟩;subst e;exact Kk D.eok D.cl hp (h3 _ b hg) ai (by simp)
theorem Draw.looksR {p:Nat} (D:Draw E M h lo hi nt tm ops s c rest (p::l) tmps idf) {o:Oper} (ho:ops[p]?=some o) {j:Nat} {q:Oper} (hq:ops[j]?=some q) (hj:j∈p::l):
 (∀t,Operand.tmp t∈o.op.operands->q.dst≠some t)/\(∀g b,o.guard=some (g,b)->g≠j):=by
 have ai:=(v0V.1 ho).1;obtain⟨h1,h2,h3⟩:=YE D.tok ho hq;refine⟨fun t ht e=>Kk D.eok D.cl' D.ord'.1 (h2 t ht e) ai hj,fun g b hg e=>?_⟩;subst e;exact Kk D.eok D.cl' D.ord'.1 (h3 _ b hg) ai hj
theorem Pend.congr {i:Nat} {o:Oper} (P:Pend E M h lo hi nt tm ops s c idf i o) {eX:Nat->Nat} {fW:Nat} {c':List Nat} {s':Bool}
 (he: ∀x,x∈o.op.operands->ev bq x=ev tm x)
 (hg:QD ops bq o=QD ops tm o) (hd: ∀d,o.dst=some d->ev bq (.tmp d)=ev tm (.tmp d)) (bU:Q0y E tm ops o->eX i=idf i)
 (hr:cls E o=0->(i∈c->i∈c')/\ ∀v,(s=true->KG o=true)->QL E bq o h=some v->i∈c'\/((s'=true->KG o=true)/\QL E bq o h'=some v))
 (hK:Q0y E tm ops o->lo<=idf i->idf i <hi-> ¬M.K (idf i)-> ∀b,h.get (idf i)=some b-> ¬M'.K (idf i)/\h'.get (idf i)=some b/\fW<=idf i/\idf i <aX):
 Pend E M' h' fW aX nt bq ops s' c' eX i o:=by
 have hD: ∀v,Q77 nt tm o v->Q77 nt bq o v:=fun v hv d eu ai=>(hd d eu).trans (hv d eu ai);unfold Pend at P ⊢;rw[hg];cases hw:QD ops tm o with
 |none=>rw[hw]at P;exact P
 | some b=>
   rw[hw]at P;cases b with
   |false=>exact hD _ P
   | true=>
     simp only at P ⊢;cases hc:cls E o with
     | zero=>
       rw[hc]at P;simp only at P ⊢;obtain⟨kQ,bn⟩:=hr hc;rcases P with P| ⟨P1,v,P2,P3⟩
       · exact .inl (kQ P)
       rcases bn v P1 ((JD E he (.inr rfl)).trans P2)with bn| ⟨a,b⟩
       · exact .inl bn
       exact .inr ⟨a,v,b,hD v P3⟩
     | succ n=>
       cases n with
       | zero=>
         rw[hc]at P;simp only at P ⊢;obtain⟨b,f,p1,p2,p3,p4,p5,p6⟩:=P;obtain⟨q1,q2,q3,q4⟩:=hK ⟨hw,hc⟩ p5 p6 p4 b p3;have ir:=bU ⟨hw,hc⟩;exact⟨b,f,(Q1l E he).trans p1,by rw[ir];exact hD _ p2,by rw[ir];exact q2,by rw[ir];exact q1,by rw[ir];exact q3,by rw[ir];exact q4⟩
       |succ n=>rw[hc]at P;exact P
theorem wanted_put (D:Draw E M h lo hi nt tm ops s c rest l tmps idf) {j:Nat} {q o:Oper} (hq:ops[j]?=some q) (hg: ∀g b,o.guard=some (g,b)->g≠j) (v:Value):
 QD ops (Q1e nt tm q.dst v) o=QD ops tm o:=by
 refine Q3s fun g b og d hgd fk hd=>Q7z nt tm q.dst v d fun _ e=>?_;exact(YE D.tok fk hq).1 (hg g b hgd) d hd e
theorem Draw.stepX {j:Nat} (D:Draw E M h lo hi nt tm ops false [] (j::rest) l tmps idf) {q:Oper} (hq:ops[j]?=some q) {v:Value} (L:HLe h h') (hhi:hi<=aX) {eX:Nat->Nat}
 (bU: ∀i,i≠j->eX i=idf i) (P:Pend E M h' lo aX nt (Q1e nt tm q.dst v) ops false [] eX j q) (bI:Q0y E tm ops q->hi<=eX j)
 (dm: ∀i o,i∈l->i∉j::rest->ops[i]?=some o->Q0y E tm ops o->idf i <hi):
 Draw E M h' lo aX nt (Q1e nt tm q.dst v) ops false [] rest l tmps eX:=by
 obtain⟨hp,_,gd⟩:=Yh D.ord;have jw:j∉rest:=(v0R.1 D.nd).1
 have hw: ∀i o,i∉j::rest->ops[i]?=some o->QD ops (Q1e nt tm q.dst v) o=QD ops tm o:=fun i o hi ho=>
  wanted_put D hq (D.looks ho hi hq (by simp)).2.1 v
 have hwj:QD ops (Q1e nt tm q.dst v) q=QD ops tm q:=wanted_put D hq (D.looksX hq).2 v;refine⟨D.eok,D.tok,D.cok,gd,(v0R.1 D.nd).2,D.cl.tail hp,D.ord',D.nd',D.cl',fun i hi=>D.sub i (by simp[hi]),D.lt,D.size,fun t ht=>?_,fun i o dQ ed ho=>?_,?_⟩
 · rw[JE nt tm q.dst v t fun ai=>ht ai j q (D.sub j (by simp)) hq];exact D.tmp t ht
 · by_cases e:i=j
   · subst e;rw[hq]at ho;cases ho;exact P
   have dH:i∉j::rest:=by simp[e,ed]
   obtain⟨l1,l2,l3⟩:=D.looks ho dH hq (by simp)
   refine(D.pend i o dQ dH ho).congr (fun x hx=>Q6O fun t et=>JE nt tm q.dst v t fun _=>l1 t (et▸hx)) (hw i o dH ho)
    (fun d hd=>JE nt tm q.dst v d fun _=>l3 d hd) (fun _=>bU i e) (fun _=>⟨fun h=>h,fun u _ hu=>.inr ⟨by simp,Q8u L hu⟩⟩) fun _ a b c' x hx=>⟨c',L _ _ hx,a,v0p b hhi⟩
 intro i k o o' dQ ed ho mf eI lQ hk l9 heq;by_cases e:i=j<;>by_cases e':k=j
 · rw[e,e']
 · subst e;rw[hq]at ho;cases ho;have dZ:k∉i::rest:=by simp[e',lQ]
   have:=dm k o' eI dZ hk ⟨(hw k o' dZ hk)▸l9.1,l9.2⟩;have h2:=bI ⟨hwj▸mf.1,mf.2⟩;rw[heq,bU k e']at h2;omega
 · subst e';rw[hq]at hk;cases hk;have dH:i∉k::rest:=by simp[e,ed]
   have:=dm i o dQ dH ho ⟨(hw i o dH ho)▸mf.1,mf.2⟩;have h2:=bI ⟨hwj▸l9.1,l9.2⟩;rw[<-heq,bU i e]at h2;omega
 have dH:i∉j::rest:=by simp[e,ed]
 have dZ:k∉j::rest:=by simp[e',lQ]
 rw[bU i e,bU k e']at heq;exact D.inj i k o o' dQ dH ho ⟨(hw i o dH ho)▸mf.1,mf.2⟩ eI dZ hk ⟨(hw k o' dZ hk)▸l9.1,l9.2⟩ heq
theorem Pend.range {i:Nat} {o:Oper} (P:Pend E M h lo hi nt tm ops s c idf i o) (ha:Q0y E tm ops o): ¬M.K (idf i)/\lo<=idf i/\idf i <hi:=by
 unfold Pend at P;rw[ha.1]at P;simp only[ha.2]at P;obtain⟨b,f,_,_,_,p4,p5,p6⟩:=P;exact⟨p4,p5,p6⟩
theorem Draw.stepR {p:Nat} (D:Draw E M h lo hi nt tm ops s c rest (p::l) tmps idf) (hp:p∉rest) {o:Oper} (ho:ops[p]?=some o) (e:Ev M M') {v v':Value} (hv:Q77 nt tm o v)
 (jg:VRel M' v v') (hK: ∀i,lo<=i->i <hi-> ¬M.K i->(Q0y E tm ops o->i≠idf p)-> ¬M'.K i) (df:List Deferred):
 Draw E M' h lo hi nt tm ops s c rest l ((Act.mk tmps df).put o.dst v').tmps idf:=by
 obtain⟨bM,fp⟩:=v0R.1 D.nd'
 have cq:((Act.mk tmps df).put o.dst v').tmps.size=tmps.size:=by
  unfold Act.put;cases o.dst<;>simp
 refine⟨D.eok,D.tok,D.cok,D.ord,D.nd,D.cl,D.ord'.2,fp,D.cl'.tail D.ord'.1,fun i hi=>?_,fun i hi=>D.lt i (by simp[hi]),cq.trans D.size,fun t ht=>?_,fun i q dQ ed hq=>?_,?_⟩
 · rcases v0r.1 (D.sub i hi)with rfl|h
   · exact absurd hi hp
   exact h
 · by_cases hd:t <nt/\o.dst=some t
   · obtain⟨ai,hd⟩:=hd
     have:((Act.mk tmps df).put o.dst v').tmps.getD t undef=v':=by
      simp[Act.put,hd,D.size,ai]
     rw[this,hv t hd ai];exact jg
   have:((Act.mk tmps df).put o.dst v').tmps.getD t undef=tmps.getD t undef:=by
    unfold Act.put;cases hod:o.dst with
    |none=>rfl
    | some d=>
      by_cases edt:d=t
      · subst edt;have: ¬d <nt:=fun h=>hd ⟨h,hod⟩;rw[<-D.size]at this;simp[v16 (Nat.le_of_not_lt this)];intro hx;exact absurd hx this
      simp[v1O edt]
   rw[this];refine(D.tmp t fun ai i q hi hq=>?_).mono e;rcases v0r.1 hi with rfl|h
   · rw[ho]at hq;cases hq;exact fun h=>hd ⟨ai,h⟩
   exact ht ai i q h hq
 · have nx:i∈p::l:=by simp[dQ]
   refine(D.pend i q nx ed hq).congr (fun _ _=>rfl) rfl (fun _ _=>rfl) (fun _=>rfl) (fun _=>⟨fun h=>h,fun u hs hu=>.inr ⟨hs,hu⟩⟩) fun ha a b k x hx=>⟨hK _ a b k fun ll heq=>?_,hx,a,b⟩;have:=D.inj i p q o nx ed hq ha (by simp) hp ho ll heq;subst this;exact bM dQ
 exact fun i k q q' dQ ed hq ha eI lQ hk hb heq=>D.inj i k q q' (by simp[dQ]) ed hq ha (by simp[eI]) lQ hk hb heq
theorem Draw.operands {p:Nat} (D:Draw E M h lo hi nt tm ops s c rest (p::l) tmps idf) (hG:Gl M) {o:Oper} (ho:ops[p]?=some o) (df:List Deferred):
 ∀x,x∈o.op.operands->VRel M (ev tm x) ((Act.mk tmps df).eval x):=by
 intro x hx;cases x with
 |tmp t=>exact D.tmp t fun _ i q hi hq=>(D.looksR ho hq hi).1 t hx
 | const v=>
   have h1:=v0u.1 D.cok o (by rw[v1U];exact v13 ho);exact KR M 20 v (v0u.1 h1 (.const v) (by simpa using hx))
 | global g=>
   have h1:=v0u.1 D.cok o (by rw[v1U];exact v13 ho);exact hG.ptr (v0u.1 h1 (.global g) (by simpa using hx))
 |func f=>exact .func' (f:=.func f) (f':=.func f) rfl (.nil M) (.nil M)
theorem Draw.wantedR {p:Nat} (D:Draw E M h lo hi nt tm ops s c rest (p::l) tmps idf) {o:Oper} (ho:ops[p]?=some o) {b:Bool} (hw:QD ops tm o=some b):
 Region.wanted o (yielded ops tmps)=b:=by
 unfold QD at hw;unfold Region.wanted;cases hg:o.guard with
 |none=>rw[hg]at hw;cases hw;rfl
 | some gb =>
   obtain⟨g,want⟩:=gb;rw[hg]at hw;simp only at hw ⊢;unfold yielded;cases fk:ops[g]? with
   |none=>rw[fk]at hw;cases hw
   | some og=>
     rw[fk]at hw;simp only at hw;cases hd:og.dst with
     |none=>rw[hd]at hw;cases hw
     | some d=>
       rw[hd]at hw;simp only at hw
       have bA:=D.tmp d fun _ i q hi hq e=>by
        have ao:=(D.looksR ho hq hi).2 g want hg;exact(YE D.tok fk hq).1 ao d hd e
       simp only[ev]at bA;simp only[Option.bind_some,hd]
       split at hw
       · rename_i x hx;cases hw;rw[hx]at bA;simp only at bA;generalize hy:tmps.getD d undef=y at bA;cases bA
         have:tmps[d]?=some (.bool x):=by
          cases ht:tmps[d]? with
          |none=>simp[ht,undef]at hy
          |some z=>simp[ht]at hy;rw[hy]
         simp only[this];cases x<;>cases want<;>rfl
       · rename_i x hx;cases hw;rw[hx]at bA;simp only at bA;generalize hy:tmps.getD d undef=y at bA;cases bA;cases ht:tmps[d]? with
         |none=>cases want<;>rfl
         |some z=>simp[ht]at hy;subst hy;cases want<;>rfl
       cases hw
end
section
variable {W:World} {B:Nat->Prop} {E:Env}
theorem Frame.finish_put (b:Frame) (tmps:Array Value) (df:List Deferred) (ops:Array Oper) {i:Nat} {o:Oper} (ho:ops[i]?=some o) (rest:List Nat) (k:List Item) (v:Value):
 (b.atR ⟨tmps,df⟩ (.inRegion ops (i::rest)::k)).finish v=b.atR ((Act.mk tmps df).put o.dst v) (.inRegion ops rest::k):=by
 rw[Frame.finish_atR];simp[ho]
theorem Q0s {o:Oper} {cl:Call} (h:o.op=.defer cl):cls E o=2:=by
 unfold cls;rw[h]
theorem put_defers (tmps:Array Value) (df:List Deferred) (d:Option Tmp) (v:Value):(Act.mk tmps df).put d v=⟨((Act.mk tmps df).put d v).tmps,df⟩:=by
 cases d<;>rfl
theorem Q0E {P:Program} {b:Frame} {tmps:Array Value} {df:List Deferred} {ops:Array Oper} {i:Nat} {o:Oper} {rest:List Nat} {k:List Item} {cs:List Frame} {w w':World} {v:Value}
 (ho:ops[i]?=some o) (hw:Region.wanted o (yielded ops tmps)=true) (hr:(o.semAt b.roundOf (Act.mk tmps df).eval).run P w=.ok (.value v) w'):
 step P (lone (b.atR ⟨tmps,df⟩ (.inRegion ops (i::rest)::k)) cs w)=.next (lone (b.atR ((Act.mk tmps df).put o.dst v) (.inRegion ops rest::k)) cs w'):=by
 refine step_lone_go ?_;rw[stepGR_op ho hw];simp only[stepG.apply,Sem.runT_eq,hr,GStep.bare_after,GStep.bare_go,if_true];rw[Frame.finish_put b tmps df ops ho]
theorem Q62 {P:Program} {b:Frame} {tmps:Array Value} {df:List Deferred} {ops:Array Oper} {i:Nat} {o:Oper} {rest:List Nat} {k:List Item} {cs:List Frame} {w w':World}
 (ho:ops[i]?=some o) (hw:Region.wanted o (yielded ops tmps)=true) (hr:(o.semAt b.roundOf (Act.mk tmps df).eval).run P w=.ok .skip w'):
 step P (lone (b.atR ⟨tmps,df⟩ (.inRegion ops (i::rest)::k)) cs w)=.next (lone (b.atR ((Act.mk tmps df).put o.dst undef) (.inRegion ops rest::k)) cs w'):=by
 refine step_lone_go ?_;rw[stepGR_op ho hw];simp only[stepG.apply,Sem.runT_eq,hr,GStep.bare_after,GStep.bare_go,if_true];rw[Frame.finish_put b tmps df ops ho]
def KeepFrom (lo:Nat) (M:Mp) (h:Hp) (M':Mp) (h':Hp):Prop:=Keep M h M' h' (fun i=>lo<=i)
theorem Q8a {h:Hp} {lo hi nt:Nat} {tm:Tr Value} {ops:Array Oper} {rest:List Nat} {idf:Nat->Nat} {b:Frame} {df:List Deferred} {k:List Item} {cs:List Frame} (hhi:hi<=h.n):
 ∀ (l:List Nat) (M:Mp) (w:World) (tmps:Array Value),HRel W B M h w->Draw E M h lo hi nt tm ops false [] rest l tmps idf->
   ∃ M' w' l' aA,Steps E.P (lone (b.atR ⟨tmps,df⟩ (.inRegion ops l::k)) cs w) (lone (b.atR ⟨aA,df⟩ (.inRegion ops l'::k)) cs w')/\
     Ev M M'/\HRel W B M' h w'/\KeepFrom lo M h M' h/\Draw E M' h lo hi nt tm ops false [] rest l' aA idf/\(∀j t,l'=j::t->j∈rest):=by
 intro l
 induction l with
 |nil=>exact fun M w tmps H D=>⟨M,w,[],tmps,.refl _ _,.refl M,H,Keep.refl M h _,D,by intro j t e;cases e⟩
 | cons p l ih=>
   intro M w tmps H D;by_cases hp:p∈rest
   · exact⟨M,w,p::l,tmps,.refl _ _,.refl M,H,Keep.refl M h _,D,by intro j t e;cases e;exact hp⟩
   have ai:=D.lt p (by simp);have ho:ops[p]?=some ops[p]:=Array.getElem?_eq_getElem ai;generalize ops[p]=o at ho;have P:=D.pend p o (by simp) hp ho;unfold Pend at P;cases hw:QD ops tm o with
   |none=>rw[hw]at P;exact P.elim
   | some x=>
     have hwR:=D.wantedR ho hw;rw[hw]at P;cases x with
     | false=>
       simp only at P;have D':=D.stepR hp ho (.refl M) P (.undef M) (fun i _ _ hk _=>hk) df;obtain⟨M',w',l',aA,S,h1,h2,h3,h4,h5⟩:=ih M w _ H D';refine⟨M',w',l',aA,.head ?_ S,h1,h2,h3,h4,h5⟩;have:=stepR_op_skip (P:=E.P) (b:=b) (a:=⟨tmps,df⟩) (k:=k) (cs:=cs) (w:=w) (ops:=ops) (i:=p) (rest:=l) (by simp[ho,hwR]);rw[this];simp only[ho,Option.bind_some];rw[put_defers]
     | true=>
       simp only at P;have hE:=D.operands H.glob ho df;cases hc:cls E o with
       | zero=>
         rw[hc]at P;simp only[List.not_mem_nil,false_or]at P;obtain⟨_,v,hv,hd⟩:=P;obtain⟨v',hr,jg⟩:=Q23 H hE hv;have D':=D.stepR hp ho (.refl M) hd jg (fun i _ _ hk _=>hk) df;obtain⟨M',w',l',aA,S,h1,h2,h3,h4,h5⟩:=ih M w _ H D';refine⟨M',w',l',aA,.head ?_ S,h1,h2,h3,h4,h5⟩;rw[Q0E (v:=v') ho hwR (by rw[Oper.semAt_eq _ _ _ fun cl e=>by rw[Q0s e]at hc;cases hc];exact hr),put_defers]
       | succ n=>
         cases n with
         | zero=>
           rw[hc]at P;simp only at P;obtain⟨bo,f,ha,hd,hg,hk,h5,h6⟩:=P;obtain⟨x,S,v',hr,hx⟩:=Q1k (w:=w) hE ha;obtain⟨je,jd⟩:=hx (idf p) hk;have H':=H.push hk (v0p h6 hhi) hg je;have bR:=Mp.add_ev M (idf p) w.heap.size 0 S 0 hk
           have D':=D.stepR hp ho bR hd jd (fun i _ _ hk ao=>by
            simp only[Mp.add,not_or];exact⟨ao ⟨hw,hc⟩,hk⟩) df
           obtain⟨M',w',l',aA,S,h1,h2,h3,h4,h5'⟩:=ih _ _ _ H' D';refine⟨M',w',l',aA,.head ?_ S,bR.trans h1,h2,?_,h4,h5'⟩
           · rw[Q0E (v:=v') ho hwR (by rw[Oper.semAt_eq _ _ _ fun cl e=>by rw[Q0s e]at hc;cases hc];exact hr),put_defers]
           refine Keep.trans ⟨v0b _,fun i _ dA hX=>⟨?_,rfl⟩⟩ h3;simp only[Mp.add,not_or];exact⟨fun e=>hX (e▸h5),dA⟩
         |succ n=>rw[hc]at P;exact P.elim
theorem Draw.same_head {M:Mp} {h:Hp} {lo hi nt:Nat} {tm:Tr Value} {ops:Array Oper} {c rest l:List Nat} {s:Bool} {idf:Nat->Nat} {tmps:Array Value} {i:Nat}
 (D:Draw E M h lo hi nt tm ops s c (i::rest) l tmps idf) (hc:Q8Q E ops i=2) (hh: ∀j t,l=j::t->j∈i::rest): ∃t,l=i::t:=by
 cases l with
 |nil=>exact absurd (D.sub i (by simp)) (by simp)
 | cons j t=>
   have hj:=hh j t rfl;rcases v0r.1 hj with rfl|hj'
   · exact⟨t,rfl⟩
   obtain⟨p,hp,hpm⟩:=(Yh D.ord).2.1 hc j hj';exact absurd (D.sub p hpm) (D.ord'.1 p hp)
end
inductive ItRel (M:Mp):It->Item->Prop
 |code (c):ItRel M (.code c) (.code c)
 |inBlock (i):ItRel M (.inBlock i) (.inBlock i)
 |inLoop (c):ItRel M (.inLoop c) (.inLoop c)
 |inScope (c):ItRel M (.inScope c) (.inScope c)
 |inRegion (ops l) (h:QS ops=true):ItRel M (.inRegion ops l) (.inRegion ops l)
 |inRangeFunc {l l'} (h:IdRel M l l'):ItRel M (.inRangeFunc l) (.inRangeFunc l')
 |endRangeFunc {l l'} (h:IdRel M l l'):ItRel M (.endRangeFunc l) (.endRangeFunc l')
 |beginRound:ItRel M .beginRound .beginRound
inductive ItsRel (M:Mp):List It->List Item->Prop
 |nil:ItsRel M [] []
 |cons {x y k k'} (h:ItRel M x y) (t:ItsRel M k k'):ItsRel M (x::k) (y::k')
def RoRel (M:Mp):Option Nat->Option Nat->Prop
 |none,none=>True
 |some l,some l'=>IdRel M l l'
 |_,_=>False
def ChRel (M:Mp):List PanicEntry->List PanicEntry->Prop
 | [],[]=>True
 |p::l,p'::l'=>(VRel M p.v p'.v/\p'.recovered=p.recovered/\p'.goexit=p.goexit)/\ChRel M l l'
 |_,_=>False
def MdRel (M:Mp):FrameMode->FrameMode->Prop
 | .run,.run=>True
 | .returning,.returning=>True
 | .panicking c,.panicking c'=>ChRel M c c'
 |_,_=>False
def Q1V:ResultVar->Nat
 | .tmp t=>t
 | .cell t _=>t
section
variable {W:World} {B:Nat->Prop} {E:Env}
def ResRel (E:Env) (M:Mp) (fn:FuncId) (tm:Tr Value) (tmps:Array Value):Prop:=
 ∀f,E.fn fn=some f-> ∀r,r∈f.results.toList->VRel M (ev tm (.tmp (Q1V r))) (tmps.getD (Q1V r) undef)
def Body (E:Env) (M:Mp) (h:Hp) (lo nt:Nat) (tm:Tr Value) (todo:List It) (todo':List Item) (tmps:Array Value):Prop:=
 match todo with
 | .draw ops rest::k=> ∃l k' idf,todo'=.inRegion ops l::k'/\ItsRel M k k'/\Draw E M h lo h.n nt tm ops false [] rest l tmps idf
 | .chk ops c rest::k=> ∃l k' idf,todo'=.inRegion ops l::k'/\ItsRel M k k'/\Draw E M h lo h.n nt tm ops false c rest l tmps idf
 |todo=>ItsRel M todo todo'/\TRel M tm tmps/\tmps.size=nt
def Wait (E:Env) (M:Mp) (h:Hp) (lo hi nt:Nat) (tm:Tr Value) (todo:List It) (todo':List Item) (tmps:Array Value):Prop:=
 match todo with
 | .draw ops rest::k=> ∃i ba l k' idf,rest=i::ba/\todo'=.inRegion ops (i::l)::k'/\ItsRel M k k'/\Draw E M h lo hi nt tm ops true (Qg7 E ops i ba) (i::ba) (i::l) tmps idf
 | .chk _ _ _::_=>False
 |todo=>ItsRel M todo todo'/\TRel M tm tmps/\tmps.size=nt
def Q75 (E:Env) (M:Mp) (h:Hp) (lo:Nat) (fr:Fr) (aw:Frame):Prop:=
 aw.fn=fr.fn/\aw.kind=fr.kind/\RoRel M fr.ro aw.roundOf/\DsRel M fr.defers aw.defers/\MdRel M fr.mode aw.mode/\
  (match fr.mode with
   | .run=>Body E M h lo fr.nt fr.tm fr.todo aw.todo aw.tmps
   |_=>ResRel E M fr.fn fr.tm aw.tmps)
def FrWait (E:Env) (M:Mp) (h:Hp) (lo hi:Nat) (fr:Fr) (aw:Frame):Prop:=
 aw.fn=fr.fn/\aw.kind=fr.kind/\RoRel M fr.ro aw.roundOf/\DsRel M fr.defers aw.defers/\MdRel M fr.mode aw.mode/\
  (match fr.mode with
   | .run=>Wait E M h lo hi fr.nt fr.tm fr.todo aw.todo aw.tmps
   |_=>ResRel E M fr.fn fr.tm aw.tmps)
def StackRel (E:Env) (M:Mp) (h:Hp) (aO:List Frame):Nat->List Fr->List Frame->Prop
 |_,[],cs'=>cs'=aO
 |_,_::_,[]=>False
 |n,c::cs,c'::cs'=> ∃lo,lo<=n/\FrWait E M h lo n c c'/\StackRel E M h aO lo cs cs'
def Sim (W:World) (B:Nat->Prop) (E:Env) (aO:List Frame) (s:St) (m:Machine):Prop:=
 ∃M lo aw cs' w,m=lone aw cs' w/\HRel W B M s.h w/\lo<=s.h.n/\Q75 E M s.h lo s.fr aw/\StackRel E M s.h aO lo s.cs cs'
variable {M M':Mp} {h h':Hp} {w w':World} {lo hi aX nt:Nat} {tm bq:Tr Value} {ops:Array Oper} {s:Bool} {c rest l:List Nat} {tmps:Array Value} {idf:Nat->Nat}
theorem ItRel.mono (e:Ev M M') {x:It} {y:Item} (r:ItRel M x y):ItRel M' x y:=by
 cases r with
 |code c=>exact .code c
 |inBlock i=>exact .inBlock i
 |inLoop c=>exact .inLoop c
 |inScope c=>exact .inScope c
 |inRegion ops l h=>exact .inRegion ops l h
 |inRangeFunc h=>exact .inRangeFunc (h.mono e)
 |endRangeFunc h=>exact .endRangeFunc (h.mono e)
 |beginRound=>exact .beginRound
theorem ItsRel.mono (e:Ev M M') {x:List It} {y:List Item} (r:ItsRel M x y):ItsRel M' x y:=by
 induction r with
 |nil=>exact .nil
 |cons h t ih=>exact .cons (h.mono e) ih
theorem RoRel.mono (e:Ev M M') {x y:Option Nat} (r:RoRel M x y):RoRel M' x y:=by
 cases x<;>cases y<;>simp only[RoRel]at r ⊢
 exact IdRel.mono e r
theorem ChRel.mono (e:Ev M M'): ∀ {x y:List PanicEntry},ChRel M x y->ChRel M' x y
 | [],[],_=>trivial
 | [],_::_,h=>h.elim
 |_::_,[],h=>h.elim
 |_::_,_::_,h=>⟨⟨h.1.1.mono e,h.1.2⟩,ChRel.mono e h.2⟩
theorem ChRel.append: ∀ {a b c d:List PanicEntry},ChRel M a b->ChRel M c d->ChRel M (a++c) (b++d)
 | [],[],_,_,_,k=>k
 | [],_::_,_,_,h,_=>h.elim
 |_::_,[],_,_,h,_=>h.elim
 |_::_,_::_,_,_,h,k=>⟨h.1,ChRel.append h.2 k⟩
theorem MdRel.mono (e:Ev M M') {x y:FrameMode} (r:MdRel M x y):MdRel M' x y:=by
 cases x<;>cases y<;>simp only[MdRel]at r ⊢
 exact ChRel.mono e r
theorem ResRel.mono (e:Ev M M') {fn:FuncId} (r:ResRel E M fn tm tmps):ResRel E M' fn tm tmps:=fun f hf x hx=>(r f hf x hx).mono e
theorem TRel.res (h:TRel M tm tmps) (fn:FuncId):ResRel E M fn tm tmps:=fun _ _ r _=>h (Q1V r)
theorem Draw.mono (D:Draw E M h lo hi nt tm ops true c rest l tmps idf) (e:Ev M M') (hk: ∀i,lo<=i->i <hi-> ¬M.K i-> ¬M'.K i/\h'.get i=h.get i) (hh:hi<=aX):
 Draw E M' h' lo aX nt tm ops true c rest l tmps idf:=
 { D with
   tmp:=fun t ht=>(D.tmp t ht).mono e
   pend:=fun i o hl hr ho=>(D.pend i o hl hr ho).congr (fun _ _=>rfl) rfl (fun _ _=>rfl) (fun _=>rfl)
    (fun _=>⟨fun h=>h,fun v hs hv=>.inr ⟨hs,(JD E (fun _ _=>rfl) (.inl (hs rfl))).symm.trans hv⟩⟩)
    (fun _ a b k x hx=>by obtain⟨p,q⟩:=hk _ a b k;exact⟨p,q.trans hx,a,v0p b hh⟩)}
theorem Wait.mono {todo:List It} {todo':List Item} (R:Wait E M h lo hi nt tm todo todo' tmps) (e:Ev M M') (hk: ∀i,lo<=i->i <hi-> ¬M.K i-> ¬M'.K i/\h'.get i=h.get i) (hh:hi<=aX):
 Wait E M' h' lo aX nt tm todo todo' tmps:=by
 unfold Wait at R ⊢
 split at R
 · obtain⟨i,ba,l,k',idf,h1,h2,h3,h4⟩:=R;exact⟨i,ba,l,k',idf,h1,h2,h3.mono e,h4.mono e hk hh⟩
 · exact R.elim
 exact⟨R.1.mono e,R.2.1.mono e,R.2.2⟩
theorem FrWait.mono {fr:Fr} {aw:Frame} (R:FrWait E M h lo hi fr aw) (e:Ev M M') (hk: ∀i,lo<=i->i <hi-> ¬M.K i-> ¬M'.K i/\h'.get i=h.get i) (hh:hi<=aX):
 FrWait E M' h' lo aX fr aw:=by
 obtain⟨h1,h2,h3,h4,h5,h6⟩:=R;refine⟨h1,h2,h3.mono e,h4.mono e,h5.mono e,?_⟩
 split at h6
 · exact h6.mono e hk hh
 exact h6.mono e
theorem StackRel.mono {aO:List Frame} (e:Ev M M'): ∀ {n:Nat} {cs:List Fr} {cs':List Frame},StackRel E M h aO n cs cs'->(∀i,i <n-> ¬M.K i-> ¬M'.K i/\h'.get i=h.get i)->
 StackRel E M' h' aO n cs cs'
 |_,[],_,R,_=>R
 |_,_::_,[],R,_=>R.elim
 | _n,_c::_cs,_c'::_cs',⟨lo,h1,h2,h3⟩,hk=>
   ⟨lo,h1,h2.mono e (fun i _ hi=>hk i hi) (v0b _),StackRel.mono e h3 fun i hi=>hk i (v0p hi h1)⟩
theorem KeepFrom.low {lo:Nat} (k:KeepFrom lo M h M' h') (hl:lo<=h.n): ∀i,i <lo-> ¬M.K i-> ¬M'.K i/\h'.get i=h.get i:=
 fun i hi hk=>k.2 i (v0p hi hl) hk (Nat.not_le_of_lt hi)
theorem Body.plain {todo:List It} {todo':List Item} (a:ItsRel M todo todo') (b:TRel M tm tmps) (c:tmps.size=nt):Body E M h lo nt tm todo todo' tmps:=by
 cases a with
 |nil=>exact⟨.nil,b,c⟩
 |cons x t=>cases x<;>exact⟨.cons (by constructor<;>assumption) t,b,c⟩
theorem Q3K (tmps:Array Value) (df:List Deferred) (d:Option Tmp) (v:Value):((Act.mk tmps df).put d v).tmps.size=tmps.size:=by
 cases d<;>simp[Act.put]
theorem Q7y (tmps:Array Value) (df:List Deferred) (d:Option Tmp) (v:Value) (t:Nat):
 ((Act.mk tmps df).put d v).tmps.getD t undef=if d=some t/\t <tmps.size then v else tmps.getD t undef:=by
 cases d with
 |none=>simp[Act.put]
 | some d=>
   by_cases e:d=t
   · subst e;by_cases ai:d <tmps.size
     · simp[Act.put,ai]
     simp[Act.put,ai]
   simp[Act.put,e,v1O e]
theorem QaT (nt:Nat) (tm:Tr Value) (d:Option Nat) (v:Value) (t:Nat):ev (Q1e nt tm d v) (.tmp t)=if d=some t/\t <nt then v else ev tm (.tmp t):=by
 by_cases e:d=some t/\t <nt
 · obtain⟨e,ai⟩:=e;subst e;rw[if_pos ⟨rfl,ai⟩];simp only[ev,Q1e];rw[Q1E,if_pos ⟨rfl,ai⟩]
 rw[if_neg e,JE];exact fun ai he=>e ⟨he,ai⟩
theorem TRel.put (T:TRel M tm tmps) (hs:tmps.size=nt) {v v':Value} (hv:VRel M v v') (d:Option Nat) (df:List Deferred):TRel M (Q1e nt tm d v) ((Act.mk tmps df).put d v').tmps:=by
 intro t;rw[QaT,Q7y,hs]
 split
 · exact hv
 exact T t
theorem Draw.finish {i:Nat} (D:Draw E M h lo hi nt tm ops true c (i::rest) (i::l) tmps idf) {q:Oper} (hq:ops[i]?=some q) {v v':Value} (hv:VRel M v v') (hh:hi<=aX) (df:List Deferred):
 Draw E M h lo aX nt (Q1e nt tm q.dst v) ops false c rest l ((Act.mk tmps df).put q.dst v').tmps idf:=by
 obtain⟨hp,_,gd⟩:=Yh D.ord;obtain⟨ed,fp⟩:=v0R.1 D.nd;obtain⟨dQ,hnd'⟩:=v0R.1 D.nd';refine⟨D.eok,D.tok,D.cok,gd,fp,D.cl.tail hp,D.ord'.2,hnd',D.cl'.tail D.ord'.1,fun j hj=>?_,fun j hj=>D.lt j (by simp[hj]),(Q3K _ _ _ _).trans D.size,fun t ht=>?_,fun j o bH jw ho=>?_,?_⟩
 · rcases v0r.1 (D.sub j (by simp[hj]))with rfl|h
   · exact absurd hj ed
   exact h
 · rw[QaT,Q7y,D.size]
   split
   · exact hv
   rename_i hn;refine D.tmp t fun ai j o hj ho=>?_;rcases v0r.1 hj with rfl|hj
   · rw[hq]at ho;cases ho;exact fun e=>hn ⟨e,ai⟩
   exact ht ai j o hj ho
 · have nv:j≠i:=fun e=>dQ (e▸bH);have iq:j∉i::rest:=by simp[nv,jw]
   obtain⟨l1,l2,l3⟩:=D.looks ho iq hq (by simp)
   exact(D.pend j o (by simp[bH]) iq ho).congr (fun x hx=>Q6O fun t et=>JE nt tm q.dst v t fun _=>l1 t (et▸hx)) (wanted_put D hq l2 v)
    (fun d hd=>JE nt tm q.dst v d fun _=>l3 d hd) (fun _=>rfl) (fun _=>⟨fun h=>h,fun u _ hu=>.inr ⟨by simp,hu⟩⟩) fun _ a b k x hx=>⟨k,hx,a,v0p b hh⟩
 intro j k o o' bH jw ho ha eI lQ hk hb heq;have nv:j≠i:=fun e=>dQ (e▸bH);have dA:k≠i:=fun e=>dQ (e▸eI);have iq:j∉i::rest:=by simp[nv,jw]
 have dZ:k∉i::rest:=by simp[dA,lQ]
 have w1:=wanted_put D hq (D.looks ho iq hq (by simp)).2.1 v;have w2:=wanted_put D hq (D.looks hk dZ hq (by simp)).2.1 v;exact D.inj j k o o' (by simp[bH]) iq ho ⟨w1▸ha.1,ha.2⟩ (by simp[eI]) dZ hk ⟨w2▸hb.1,hb.2⟩ heq
theorem ZQ {fr dS:Fr} {aw:Frame} (R:FrWait E M h lo hi fr aw) {v v':Value} (hv:VRel M v v') (hf:QX E fr v=some dS) (hh:hi<=h.n):Q75 E M h lo dS (aw.finish v'):=by
 obtain⟨fn,nt,tm,todo,df,md,kd,ro⟩:=fr;obtain⟨gA,aA,todo',df',cC,iM,ro'⟩:=aw;obtain⟨h1,h2,h3,h4,h5,h6⟩:=R;simp only at h1 h2 h3 h4 h5 h6;subst h1;subst h2;unfold QX at hf
 split at hf
 · rename_i bQ;cases bQ;cases cC<;>simp only[MdRel]at h5
   simp only at h6
   split at hf
   ·
    obtain⟨h61,h62,h63⟩:=h6;cases h61 with
    | cons hx ht=>
      cases hx with
      | inRegion _ _ hc=>
        split at hf
        · rename_i o ho;cases hf;show Q75 E M h lo _ (Frame.finish (Frame.atR ⟨gA,aA,[],df',.run,iM,ro'⟩ ⟨aA,df'⟩ _) v');rw[Frame.finish_put _ _ _ _ ho];refine⟨rfl,rfl,h3,?_,trivial,Body.plain (.cons (.inRegion _ _ hc) ht) (h62.put h63 hv _ _) ((Q3K _ _ _ _).trans h63)⟩;rw[put_defers];exact h4
        cases hf
   ·
    obtain⟨i,ba,l,k',idf,e1,e2,e3,D⟩:=h6;cases e1;subst e2
    split at hf
    · rename_i o ho;cases hf;show Q75 E M h lo _ (Frame.finish (Frame.atR ⟨gA,aA,[],df',.run,iM,ro'⟩ ⟨aA,df'⟩ _) v');rw[Frame.finish_put _ _ _ _ ho];refine⟨rfl,rfl,h3,?_,trivial,l,k',idf,rfl,e3,D.finish ho hv hh df'⟩;rw[put_defers];exact h4
    cases hf
   ·
    cases hf;obtain⟨h61,h62,h63⟩:=h6;cases h61 with
    | cons hx ht=>
      cases hx with
      |inRangeFunc hl=>exact⟨rfl,rfl,h3,h4,trivial,Body.plain (.cons (.endRangeFunc hl) ht) h62 h63⟩
   cases hf
 cases hf
end
section
variable {P:Program} {b:Frame} {tmps:Array Value} {df:List Deferred} {ops:Array Oper} {i:Nat} {o:Oper} {rest:List Nat} {k:List Item} {cs:List Frame} {w w':World}
theorem KN {f:FuncId} {args:Array Value} (ho:ops[i]?=some o) (hw:Region.wanted o (yielded ops tmps)=true) (hr:(o.semAt b.roundOf (Act.mk tmps df).eval).run P w=.ok (.enter f args) w'):
 step P (lone (b.atR ⟨tmps,df⟩ (.inRegion ops (i::rest)::k)) cs w)=.next (lone (Frame.enter P f args .normal) (b.atR ⟨tmps,df⟩ (.inRegion ops (i::rest)::k)::cs) w'):=by
 refine step_lone_go ?_;rw[stepGR_op ho hw];simp only[stepG.apply,Sem.runT_eq,hr,GStep.bare_after,GStep.bare_go,if_true,Frame.atR]
theorem Q4L {l:Nat} {f:FuncId} {ts:Array Value} {x y:Code} (ho:ops[i]?=some o) (hw:Region.wanted o (yielded ops tmps)=true) (hr:(o.semAt b.roundOf (Act.mk tmps df).eval).run P w=.ok (.round l f ts x y) w'):
 step P (lone (b.atR ⟨tmps,df⟩ (.inRegion ops (i::rest)::k)) cs w)=.next (lone (Frame.round l f ts x y .normal) (b.atR ⟨tmps,df⟩ (.inRegion ops (i::rest)::k)::cs) w'):=by
 refine step_lone_go ?_;rw[stepGR_op ho hw];simp only[stepG.apply,Sem.runT_eq,hr,GStep.bare_after,GStep.bare_go,if_true,Frame.atR]
theorem Q4N {d:Deferred} (ho:ops[i]?=some o) (hw:Region.wanted o (yielded ops tmps)=true) (hr:(o.semAt b.roundOf (Act.mk tmps df).eval).run P w=.ok (.defer d) w'):
 step P (lone (b.atR ⟨tmps,df⟩ (.inRegion ops (i::rest)::k)) cs w)=.next (lone ((b.atR ⟨tmps,d::df⟩ (.inRegion ops (i::rest)::k)).finish undef) cs w'):=by
 refine step_lone_go ?_;rw[stepGR_op ho hw];simp only[stepG.apply,Sem.runT_eq,hr,GStep.bare_after,GStep.bare_go,if_true,Frame.atR]
theorem Q4M {v:Value} (ho:ops[i]?=some o) (hw:Region.wanted o (yielded ops tmps)=true) (hr:(o.semAt b.roundOf (Act.mk tmps df).eval).run P w=.halt (.panic v) w'):
 step P (lone (b.atR ⟨tmps,df⟩ (.inRegion ops (i::rest)::k)) cs w)=.next (lone ((b.atR ⟨tmps,df⟩ (.inRegion ops (i::rest)::k)).raise [{v,recovered:=false}]) cs w'):=by
 refine step_lone_go ?_;rw[stepGR_op ho hw];simp only[stepG.apply,Sem.runT_eq,hr,GStep.bare_after,GStep.bare_go,if_true]
theorem Q2I (hb:b.roundOf=none) (ho:ops[i]?=some o) (hw:Region.wanted o (yielded ops tmps)=true) (hr:(o.semAt b.roundOf (Act.mk tmps df).eval).run P w=.ok .recover w') {v:Value} {cY:List Frame}
 (ht:(match tryRecover (b.atR ⟨tmps,df⟩ (.inRegion ops (i::rest)::k)) cs with|some x=>x|none=>(.nilIface,cs))=(v,cY)):
 step P (lone (b.atR ⟨tmps,df⟩ (.inRegion ops (i::rest)::k)) cs w)=.next (lone ((b.atR ⟨tmps,df⟩ (.inRegion ops (i::rest)::k)).finish v) cY w'):=by
 refine step_lone_go ?_;rw[stepGR_op ho hw];have aZ:(b.atR ⟨tmps,df⟩ (.inRegion ops (i::rest)::k)).roundOf=none:=hb;simp only[stepG.apply,Sem.runT_eq,hr,GStep.bare_after,if_true,aZ];cases bY:tryRecover (b.atR ⟨tmps,df⟩ (.inRegion ops (i::rest)::k)) cs with
 |none=>rw[bY]at ht;cases ht;rfl
 |some x=>rw[bY]at ht;cases x;cases ht;rfl
end
section
variable {W:World} {B:Nat->Prop} {E:Env} {M M':Mp} {h h':Hp} {w w':World} {lo hi:Nat} {aO:List Frame}
theorem Q4Z {fr dS:Fr} {aw:Frame} (R:FrWait E M h lo hi fr aw) {ch ch':List PanicEntry} (hc:ChRel M ch ch') (hf:Q7w E fr ch=some dS) (h':Hp) (fW:Nat):
 Q75 E M h' fW dS (aw.raise ch'):=by
 obtain⟨fn,nt,tm,todo,df,md,kd,ro⟩:=fr;obtain⟨gA,aA,todo',df',cC,iM,ro'⟩:=aw;obtain⟨h1,h2,h3,h4,h5,h6⟩:=R;simp only at h1 h2 h3 h4 h5 h6;subst h1;subst h2;unfold Q7w at hf;cases md with
 | panicking c=>
   cases cC<;>simp only[MdRel]at h5
   cases hf;exact⟨rfl,rfl,h3,h4,hc.append h5,h6⟩
 | returning=>
   cases cC<;>simp only[MdRel]at h5
   cases hf;exact⟨rfl,rfl,h3,h4,hc,h6⟩
 | run =>
   cases cC<;>simp only[MdRel]at h5
   simp only at hf h6
   split at hf
   · obtain⟨i,ba,l,k',idf,e1,e2,e3,D⟩:=h6;rename_i ops _ _;cases cu:Qej E gA ops with
     |false=>rw[cu,cond_false]at hf;cases hf
     | true=>
       rw[cu,cond_true]at hf;cases hf;refine⟨rfl,rfl,h3,h4,hc,fun f hfn r hr=>D.tmp _ fun _ j o _ ho e=>?_⟩;unfold Qej at cu;rw[hfn]at cu;have a1:=v0u.1 (v0u.1 cu r hr) o (by rw[v1U];exact v13 ho);cases r<;>simp[Q1V]at e<;>simp[Q2y.2 e]at a1
   · exact h6.elim
   cases hf;rename_i fp ib
   have:ItsRel M todo todo'/\TRel M tm aA/\aA.size=nt:=by
    unfold Wait at h6
    split at h6
    · exact absurd rfl (fp _ _ _)
    · exact h6.elim
    exact h6
   exact⟨rfl,rfl,h3,h4,hc,this.2.1.res _⟩
theorem Q5S: ∀(l:List Value) (i:Nat) (t:Tr Value) (k:Nat),(Q0w l i t).get k=if i<=k/\k <i+l.length then l[k -i]? else t.get k
 | [],i,t,k=>by simp[Q0w];omega
 | v ::l,i,t,k=>by
   rw[Q0w,Q5S l (i+1) _ k];by_cases h1:i+1<=k/\k <i+1+l.length
   · rw[if_pos h1,if_pos (by simp;omega)];have:k -i=(k - (i+1))+1:=by omega
     rw[this,v1Y]
   rw[if_neg h1,JR _ _ _ _ _ (by omega)];by_cases e:i=k
   · subst e;simp
   rw[if_neg (by omega),if_neg (by simp only[v07];omega)]
theorem J1 {f:FuncId} {args ad:Array Value} {kind:CallKind} {fr:Fr} (hv:VsRel M args.toList ad.toList) (he:Ys E f args.toList kind=some fr) (h:Hp) (lo:Nat):
 Q75 E M h lo fr (Frame.enter E.P f ad kind):=by
 unfold Ys at he
 split at he
 · rename_i fn hfn
   split at he
   · rename_i c hc;cases he;have hP:=E.hfn f fn hfn;have hl:ad.size=args.toList.length:=by have:=hv.1;simpa using this.symm
     refine⟨rfl,rfl,trivial,trivial,trivial,?_⟩;simp only
     have:Frame.enter E.P f ad kind= {fn:=f,tmps:=ad++v1N (fn.ntmps -ad.size) undef,todo:=[.code c],defers:=[],mode:=.run,kind}:=by
      simp[Frame.enter,hP,hc]
     rw[this];refine Body.plain (.cons (.code c) .nil) (fun t=>?_) (by simp only[Array.size_append,Array.size_replicate,hl]);simp only[ev];rw[Q5S];by_cases ht:t <args.toList.length
     · rw[if_pos (show 0<=t/\t <0+args.toList.length from⟨Nat.zero_le _,(v0e _).symm▸ht⟩)];have h1:args.toList[t]?=some args.toList[t]:=v0c ht;have aQ:t <ad.toList.length:=by rw[<-hv.1];exact ht
       have h2:ad.toList[t]?=some ad.toList[t]:=v0c aQ;have:=hv.2 t _ _ h1 h2;simp only[Nat.sub_zero,h1];have hs:t <ad.size:=by simpa using aQ
       have e:(ad++v1N (fn.ntmps -ad.size) undef).getD t undef=ad.toList[t]:=by
        simp[Array.getElem?_append,hs]
       rw[e];exact this
     rw[if_neg (show ¬(0<=t/\t <0+args.toList.length) from fun hx=>ht (by have:=hx.2;rwa[v0e]at this))];have hs: ¬t <ad.size:=by rw[hl];exact ht
     have e:(ad++v1N (fn.ntmps -ad.size) undef).getD t undef=undef:=by
      rw[Array.getD_eq_getD_getElem?,Array.getElem?_append,if_neg hs,Array.getElem?_replicate]
      split<;>rfl
     rw[e];rw[Q4c];exact .undef M
   cases he
 cases he
theorem Q38 {nt:Nat}: ∀(ps:List Nat) (l l':List Value) (tm:Tr Value) (tmps:Array Value),VsRel M l l'->TRel M tm tmps->tmps.size=nt->
 TRel M (Q0O nt ps l tm) ((ps.zip l').foldl (fun tmps (t,a)=>tmps.setIfInBounds t a) tmps)/\((ps.zip l').foldl (fun tmps (t,a)=>tmps.setIfInBounds t a) tmps).size=nt
 | [],l,l',tm,tmps,_,hT,hs=>by cases l<;>exact⟨hT,hs⟩
 |p::ps,[],[],tm,tmps,_,hT,hs=>⟨hT,hs⟩
 |p::ps,[],_::_,_,_,hv,_,_=>by have:=hv.1;simp at this
 |p::ps,_::_,[],_,_,hv,_,_=>by have:=hv.1;simp at this
 | p::ps,v::l,v'::l',tm,tmps,hv,hT,hs=>by
   simp only[Q0O,List.zip_cons_cons,List.foldl_cons];have fR:=hT.put hs hv.uncons.1 (some p) [];exact Q38 ps l l' _ _ hv.uncons.2 fR (by simp[hs])
theorem Q6F {l:Nat} {r:Lp} (hl:Yl h l=some r):h.get l=some (.loop r):=by
 unfold Yl at hl
 split at hl
 · rename_i hg;cases hl;exact hg
 cases hl
theorem Q0U (H:HRel W B M h w) {l l':Nat} {r:Lp} (hi:IdRel M l l') (hl:Yl h l=some r):
 ∃S r',M.ρ l=some (l',0,S)/\w.heap[l']?=some (.loop r')/\LRel M r r'/\(Instr.getLoop l').run E.P w=.ok r' w:=by
 obtain⟨b,δ,S,x,hρ,hx,h0,r',rfl,he⟩:=H.place hi.1 (Q6F hl) (by simp);have:=hi.2 b δ S hρ;subst this;subst h0;refine⟨S,r',hρ,hx,he,?_⟩;have:(getObj l').run E.P w=.ok (.loop r') w:=by simp[getObj,Sem.run,hx]
 simp[Instr.getLoop,this]
class FactX (p:Prop):Prop where
 out:p
theorem HRel.below (H:HRel W B M h w) (hf: ¬B W.heap.size) (b:RowKit.Below w.heap.size w w'):HRel W B M h w':=by
 refine⟨fun i c δ S hi=>?_,H.inj,H.kn,H.fresh,H.live,b.os.trans H.os,⟨b.tape.trans H.tape.1,fun h1=>absurd h1 hf⟩,b.output.trans H.output,v0t H.size b.size,fun c hc hB=>?_,H.own,H.glob⟩
 · obtain⟨hk,o,x,h1,h2,h3⟩:=H.obj i c δ S hi;exact⟨hk,o,x,h1,(b.block c (v0V.1 h2).1).trans h2,h3⟩
 exact(b.block c (v0p hc H.size)).trans (H.old c hc hB)
theorem Keep.all {M M':Mp} {h h':Hp} (K:Keep M h M' h' (fun _=>False)): ∀i,i <h.n-> ¬M.K i-> ¬M'.K i/\h'.get i=h.get i:=fun i hi hk=>K.2 i hi hk id
theorem Q3T [hB :FactX (B W.heap.size->E.q=true)] (H:HRel W B M h w) (an:lo<=h.n) {fr:Fr} {cs:List Fr} {cs':List Frame} {n:Nx} {s':St} {b:Frame} {tmps:Array Value} {df:List Deferred} {ops:Array Oper} {i:Nat} {o:Oper} {rest:List Nat} {k:List Item}
 (R:FrWait E M h lo h.n fr (b.atR ⟨tmps,df⟩ (.inRegion ops (i::rest)::k))) (S:StackRel E M h aO lo cs cs') (hn:ZT E fr cs h n=some s')
 (ho:ops[i]?=some o) (hw:Region.wanted o (yielded ops tmps)=true) (hx:Qg2 W B E M h w n ((o.semAt b.roundOf (Act.mk tmps df).eval).run E.P w)):
 ∃m',Steps E.P (lone (b.atR ⟨tmps,df⟩ (.inRegion ops (i::rest)::k)) cs' w) m'/\Sim W B E aO s' m':=by
 cases n with
 | value v h2=>
   obtain⟨v',w',M',hr,e,H',K,hv⟩:=hx;simp only[ZT]at hn
   split at hn
   · rename_i dS hf;cases hn;refine⟨_,.one (Q0E ho hw hr),M',lo,_,cs',w',rfl,H',v0t an K.1,?_,S.mono e fun j hj=>K.all j (v0p hj an)⟩;have:=ZQ (R.mono e (fun j _ hj=>K.all j hj) K.1) hv hf (v0b _);rw[Frame.finish_put b tmps df ops ho]at this;exact this
   cases hn
 | skip h2=>
   obtain⟨w',M',hr,e,H',K⟩:=hx;simp only[ZT]at hn
   split at hn
   · rename_i dS hf;cases hn;refine⟨_,.one (Q62 ho hw hr),M',lo,_,cs',w',rfl,H',v0t an K.1,?_,S.mono e fun j hj=>K.all j (v0p hj an)⟩;have:=ZQ (R.mono e (fun j _ hj=>K.all j hj) K.1) (.undef M') hf (v0b _);rw[Frame.finish_put b tmps df ops ho]at this;exact this
   cases hn
 | enter f args=>
   obtain⟨ad,hr,hv⟩:=hx;simp only[ZT]at hn;cases jX:E.orc f with
   | some v0=>
     rw[jX]at hn;simp only at hn
     split at hn
     · rename_i ax
       split at hn
       · rename_i dS hf;cases hn
         have ea:ad= #[]:=by
          rw[ax]at hv;have:=hv.1;apply v1P.1;simpa using this.symm
         subst ea;have dP: ¬B W.heap.size:=fun hb=>by have:=(E.hq (hB.out hb) f).1;rw[jX]at this;cases this
         obtain⟨bM,lf⟩:=E.horc f v0 jX;obtain⟨e,w2,fr3,⟨he,hb⟩,hc,hfn,hl⟩:=lf w (b.atR ⟨tmps,df⟩ (.inRegion ops (i::rest)::k)::cs');subst he;exact⟨_,Steps.trans (.one (KN ho hw hr)) (Steps.trans hc (.one (step_leave_returned hl))),M,lo,_,cs',w2,rfl,H.below dP hb,an,ZQ R (KR M 20 v0 bM) hf (v0b _),S⟩
       cases hn
     cases hn
   | none=>
     rw[jX]at hn;simp only at hn;cases aK:E.sm f with
     | some F=>
       rw[aK]at hn;simp only at hn
       split at hn
       · rename_i v0 h2 hF
         split at hn
         · rename_i dS hf;cases hn;have dP: ¬B W.heap.size:=fun hb=>by have:=(E.hq (hB.out hb) f).2;rw[aK]at this;cases this
           obtain⟨e,w2,fr3,⟨v',M',he,ev,H',K,jg⟩,hc,hfn,hl⟩:=E.hsm f F aK W B M h w args.toList ad v0 h2 dP H hv hF (b.atR ⟨tmps,df⟩ (.inRegion ops (i::rest)::k)::cs');subst he;refine⟨_,Steps.trans (.one (KN ho hw hr)) (Steps.trans hc (.one (step_leave_returned hl))),M',lo,_,cs',w2,rfl,H',v0t an K.1,?_,S.mono ev fun j hj=>K.all j (v0p hj an)⟩;exact ZQ (R.mono ev (fun j _ hj=>K.all j hj) K.1) jg hf (v0b _)
         cases hn
       cases hn
     | none=>
       rw[aK]at hn;simp only at hn
       split at hn
       · rename_i dS hf;cases hn;exact⟨_,.one (KN ho hw hr),M,h.n,_,_::cs',w,rfl,H,v0b _,J1 hv hf h _,lo,an,R,S⟩
       cases hn
 | round l args=>
   obtain⟨l',ad,hl,hv,hr⟩:=hx;simp only[ZT]at hn
   split at hn
   · rename_i a fn nt tm ps x y a' iR;cases hlen:v0d args.toList.length ps.toList.length with
     |false=>rw[hlen,cond_false]at hn;cases hn
     | true=>
       rw[hlen,cond_true]at hn;cases hn;obtain⟨S0,r',hρ,hx',⟨_,_,r3,r4,r5,r6,r7,r8,_⟩,bj⟩:=Q0U (E:=E) H hl iR;simp only at r3 r4 r5 r6 r7 r8
       have cq:ad.size=r'.params.size:=by
        have e1:=(Qz _ _).1 hlen;have e2:=hv.1;simp only[v2l]at e1 e2;rw[r6];omega
       have hy:(Instr.yield l' ad).run E.P w=.ok (.round l' r'.fn ((r'.params.zip ad).foldl (fun tmps (t,a)=>tmps.setIfInBounds t a) r'.tmps) r'.assign r'.body) w:=by
        simp[Instr.yield,bj,cq]
       refine⟨_,.one (Q4L ho hw (hr.trans hy)),M,h.n,_,_::cs',w,rfl,H,v0b _,?_,lo,an,R,S⟩;obtain⟨p1,p2⟩:=Q38 ps.toList args.toList ad.toList tm r'.tmps hv r5 r4
       have e:(r'.params.zip ad).foldl (fun tmps (t,a)=>tmps.setIfInBounds t a) r'.tmps=(ps.toList.zip ad.toList).foldl (fun tmps (t,a)=>tmps.setIfInBounds t a) r'.tmps:=by
        rw[<-Array.foldl_toList,Array.toList_zip,r6]
       rw[e,r7,r8];exact⟨r3,rfl,hl,trivial,trivial,Body.plain (.cons (.code _) (.cons .beginRound (.cons (.code _) .nil))) p1 p2⟩
   cases hn
 | defer d=>
   obtain⟨d',hr,hd⟩:=hx;obtain⟨fn,nt,tm,todo,dfs,md,kd,ro⟩:=fr;cases ro with
   |some l=>simp only[ZT]at hn;cases hn
   | none=>
     simp only[ZT]at hn
     split at hn
     · rename_i dS hf;cases hn;refine⟨_,.one (Q4N ho hw hr),M,lo,_,cs',w,rfl,H,an,ZQ (hi:=h.n) ?_ (.undef M) hf (v0b _),S⟩;obtain⟨h1,h2,h3,h4,h5,h6⟩:=R;exact⟨h1,h2,h3,⟨hd,h4⟩,h5,h6⟩
     cases hn
 | recover =>
   obtain⟨fn,nt,tm,todo,dfs,md,kd,ro⟩:=fr;simp only[ZT]at hn;cases ro with
   |some l=>cases hn
   | none=>
     simp only at hn
     have aB:b.roundOf=none:=by
      have:=R.2.2.1;cases hb:b.roundOf with
      |none=>rfl
      |some x=>simp[Frame.atR,hb,RoRel]at this
     have im:(b.atR ⟨tmps,df⟩ (.inRegion ops (i::rest)::k)).kind=kd:=R.2.1
     -- what recover yields
     have key: ∀v cY,Q3J ⟨fn,nt,tm,todo,dfs,md,kd,none⟩ cs=some (v,cY)-> ∃v' jJ,(match tryRecover (b.atR ⟨tmps,df⟩ (.inRegion ops (i::rest)::k)) cs' with|some x=>x|none=>(.nilIface,cs'))=(v',jJ)/\
      VRel M v v'/\StackRel E M h aO lo cY jJ:=by
      intro v cY bY;unfold Q3J at bY;simp only at bY
      split at bY
      · rename_i fn1 nt1 tm1 todo1 df1 md1 kd1 ro1 rest1;cases cs' with
        |nil=>exact S.elim
        | cons c' cs'=>
          obtain⟨iL,g1,⟨q1,q2,q3,q4,q5,q6⟩,g3⟩:=S;simp only at q1 q2 q3 q4 q5 q6;obtain⟨fn1',kA,kx,df1',kC,kd1',ro1'⟩:=c';simp only at q1 q2 q3 q4 q5 q6;unfold tryRecover;rw[im];simp only
          split at bY
          ·
           rename_i u older;cases bY;cases kC<;>simp only[MdRel]at q5
           rename_i c1;cases c1 with
           |nil=>exact q5.elim
           | cons p' older'=>
             obtain⟨⟨p1,p2,p3⟩,p4⟩:=q5;obtain⟨pv,pr,pg⟩:=p';simp only at p1 p2 p3;subst p2;subst p3;refine⟨pv,_,rfl,p1,iL,g1,⟨q1,q2,q3,q4,⟨⟨p1,rfl,rfl⟩,p4⟩,q6⟩,g3⟩
          · cases bY
          rename_i hno1 hno2;cases bY;refine⟨.nilIface,⟨fn1',kA,kx,df1',kC,kd1',ro1'⟩::cs',?_,.nilIface,iL,g1,⟨q1,q2,q3,q4,q5,q6⟩,g3⟩;cases kC with
          |run=>rfl
          |returning=>rfl
          |panicking c=>cases md1<;>simp only[MdRel]at q5;exact absurd rfl (hno2 _)
      · cases bY;refine⟨.nilIface,cs',?_,.nilIface,S⟩;unfold tryRecover;rw[im]
      cases bY
     split at hn
     · rename_i v cY bY;obtain⟨v',jJ,e1,e2,e3⟩:=key v cY bY
       split at hn
       · rename_i dS hf;cases hn;exact⟨_,.one (Q2I aB ho hw hx e1),M,lo,_,jJ,w,rfl,H,an,ZQ (hi:=h.n) R e2 hf (v0b _),e3⟩
       cases hn
     cases hn
 | panic v=>
   obtain⟨v',hr,hv⟩:=hx;simp only[ZT]at hn
   split at hn
   · rename_i dS hf;cases hn;exact⟨_,.one (Q4M ho hw hr),M,lo,_,cs',w,rfl,H,an,Q4Z (ch:=[⟨v,false,false⟩]) (ch':=[⟨v',false,false⟩]) R ⟨⟨hv,rfl,rfl⟩,trivial⟩ hf h lo,S⟩
   cases hn
end
section
variable {W:World} {B:Nat->Prop} {E:Env} {M M':Mp} {h h':Hp} {w w':World} {lo hi:Nat} {aO:List Frame}
theorem Q5M (M:Mp) (hG:Gl M) {ops:Array Oper} (hc:QS ops=true) {i:Nat} {o:Oper} (ho:ops[i]?=some o) {tm:Tr Value} {tmps:Array Value} (df:List Deferred)
 (ht: ∀t,Operand.tmp t∈o.op.operands->VRel M (ev tm (.tmp t)) (tmps.getD t undef)): ∀x,x∈o.op.operands->VRel M (ev tm x) ((Act.mk tmps df).eval x):=by
 intro x hx;have h1:=v0u.1 hc o (by rw[v1U];exact v13 ho);have h2:=v0u.1 h1 x (by simpa using hx);cases x with
 |tmp t=>exact ht t hx
 |const v=>exact KR M 20 v h2
 |global g=>exact hG.ptr h2
 |func f=>exact .func' (f:=.func f) (f':=.func f) rfl (.nil M) (.nil M)
theorem KJ {tm:Tr Value} {tmps:Array Value} (T:TRel M tm tmps) {ops:Array Oper} {o:Oper} {b:Bool} (hw:QD ops tm o=some b):Region.wanted o (yielded ops tmps)=b:=by
 unfold QD at hw;unfold Region.wanted;cases hg:o.guard with
 |none=>rw[hg]at hw;cases hw;rfl
 | some gb =>
   obtain⟨g,want⟩:=gb;rw[hg]at hw;simp only at hw ⊢;unfold yielded;cases fk:ops[g]? with
   |none=>rw[fk]at hw;cases hw
   | some og=>
     rw[fk]at hw;simp only at hw;cases hd:og.dst with
     |none=>rw[hd]at hw;cases hw
     | some d=>
       rw[hd]at hw;simp only at hw;have bA:=T d;simp only[ev]at bA;simp only[Option.bind_some,hd]
       split at hw
       · rename_i x hx;cases hw;rw[hx]at bA;simp only at bA;generalize hy:tmps.getD d undef=y at bA;cases bA
         have:tmps[d]?=some (.bool x):=by
          cases ht:tmps[d]? with
          |none=>simp[ht,undef]at hy
          |some z=>simp[ht]at hy;rw[hy]
         simp only[this];cases x<;>cases want<;>rfl
       · rename_i x hx;cases hw;rw[hx]at bA;simp only at bA;generalize hy:tmps.getD d undef=y at bA;cases bA;cases ht:tmps[d]? with
         |none=>cases want<;>rfl
         |some z=>simp[ht]at hy;subst hy;cases want<;>rfl
       cases hw
theorem Qes (H:HRel W B M h w) {fr:Fr} {cs:List Fr} {o:Oper} {s':St} {ρ:Operand->Value} (hE: ∀x,x∈o.op.operands->VRel M (ev fr.tm x) (ρ x)) (hx:Q6o E fr cs h o=some s'):
 ∃n,ZT E fr cs h n=some s'/\Qg2 W B E M h w n ((execOp ρ o).run E.P w)/\ ∀cl,o.op=.defer cl-> ∃d,n=.defer d:=by
 unfold Q6o at hx
 split at hx
 · rename_i hc
   split at hx
   · rename_i v hv;obtain⟨v',hr,jg⟩:=Q23 H hE hv;exact⟨_,hx,⟨v',w,M,hr,.refl M,H,Keep.refl M h _,jg⟩,fun cl e=>by rw[Q0s e]at hc;cases hc⟩
   cases hx
 · rename_i hc
   split at hx
   · rename_i b f ha;obtain⟨x,S,v',hr,au⟩:=Q1k (w:=w) hE ha;have dO: ¬M.K h.n:=fun hk=>by have:=H.kn _ hk;omega
     obtain⟨h1,h2⟩:=au h.n dO;obtain⟨H',e,K⟩:=YU H h1;exact⟨_,hx,⟨v',_,_,hr,e,H',K,h2⟩,fun cl e=>by rw[Q0s e]at hc;cases hc⟩
   cases hx
 split at hx
 · rename_i n hn;refine⟨n,hx,Q1c H hE hn,fun cl e=>?_⟩;obtain⟨dst,op,type,pos,after,guard⟩:=o;simp only at e;subst e;simp only[QW]at hn
   split at hn
   · cases hn;exact⟨_,rfl⟩
   cases hn
 cases hx
theorem Q9l {fr:Fr} {cs:List Fr} {n:Nx} {s':St} {ro':Option Nat} {o:Oper} {ρ:Operand->Value} (aB:RoRel M fr.ro ro') (hn:ZT E fr cs h n=some s') (hd: ∀cl,o.op=.defer cl-> ∃d,n=.defer d):
 o.semAt ro' ρ=execOp ρ o:=by
 cases ro' with
 |none=>exact Oper.semAt_none ρ o
 | some l=>
   refine Oper.semAt_eq _ _ _ fun cl e=>?_;obtain⟨d,rfl⟩:=hd cl e;obtain⟨fn,nt,tm,todo,df,md,kd,ro⟩:=fr;cases ro with
   |none=>exact aB.elim
   |some x=>simp only[ZT]at hn;cases hn
theorem cls_le (E:Env) (o:Oper):cls E o<=2:=by
 unfold cls
 split<;>first|omega|(split<;>omega)
variable {fn:FuncId} {nt:Nat} {tm:Tr Value} {todo:List It} {todo':List Item} {df:List Deferred} {df':List Deferred} {kd:CallKind} {ro ro':Option Nat} {tmps:Array Value} {cs:List Fr} {cs':List Frame} {s':St}
theorem Zo (H:HRel W B M h w) (an:lo<=h.n) (aB:RoRel M ro ro') (aU:DsRel M df df') (S:StackRel E M h aO lo cs cs') (hb:Body E M h lo nt tm todo todo' tmps):
 Sim W B E aO ⟨⟨fn,nt,tm,todo,df,.run,kd,ro⟩,cs,h⟩ (lone (Frame.atR ⟨fn,tmps,[],df',.run,kd,ro'⟩ ⟨tmps,df'⟩ todo') cs' w):=
 ⟨M,lo,_,cs',w,rfl,H,an,⟨rfl,rfl,aB,aU,trivial,hb⟩,S⟩
theorem Q8t [hB:FactX (B W.heap.size->E.q=true)] (H:HRel W B M h w) (an:lo<=h.n) (aB:RoRel M ro ro') (aU:DsRel M df df') (S:StackRel E M h aO lo cs cs') {ops:Array Oper} {l:List Nat} {k:List It} {k':List Item}
 (hc:QS ops=true) (hk:ItsRel M k k') (T:TRel M tm tmps) (hs:tmps.size=nt)
 (hx:QU E fn nt tm (.inRegion ops l::k) df kd ro cs h=some s'):
 ∃m',Steps E.P (lone (Frame.atR ⟨fn,tmps,[],df',.run,kd,ro'⟩ ⟨tmps,df'⟩ (.inRegion ops l::k')) cs' w) m'/\Sim W B E aO s' m':=by
 simp only[QU]at hx
 split at hx
 · cases hx;exact⟨_,.one stepR_region_end,Zo H an aB aU S (.plain hk T hs)⟩
 rename_i i rest
 split at hx
 · cases hx
 rename_i o ho
 split at hx
 · cases hx
 · rename_i hw;cases hx;refine⟨_,.one (stepR_op_skip (by simp[ho,KJ T hw])),?_⟩;simp only[ho,Option.bind_some];rw[put_defers];exact Zo H an aB aU S (.plain (.cons (.inRegion ops rest hc) hk) (T.put hs (.undef M) _ df') ((Q3K _ _ _ _).trans hs))
 rename_i hw;obtain⟨n,hn,aT,hd⟩:=Qes (ρ:=(Act.mk tmps df').eval) H (Q5M M H.glob hc ho df' fun t _=>T t) hx;have gU:=Q9l (ρ:=(Act.mk tmps df').eval) aB hn hd;obtain⟨m',h1,h2⟩:=Q3T (fr:=⟨fn,nt,tm,.inRegion ops (i::rest)::k,df,.run,kd,ro⟩) (b:=⟨fn,tmps,[],df',.run,kd,ro'⟩) (tmps:=tmps) (df:=df') (rest:=rest) (k:=k') H an ⟨rfl,rfl,aB,aU,trivial,⟨.cons (.inRegion ops (i::rest) hc) hk,T,hs⟩⟩ S hn ho (KJ T hw) (gU▸aT);exact⟨m',h1,h2⟩
theorem Draw.susp {ops:Array Oper} {i:Nat} {rest l:List Nat} {idf:Nat->Nat} (D:Draw E M h lo hi nt tm ops false [] (i::rest) (i::l) tmps idf):
 Draw E M h lo hi nt tm ops true (Qg7 E ops i rest) (i::rest) (i::l) tmps idf:=
 { D with
   pend:=fun j o hl hr ho=>(D.pend j o hl hr ho).congr (fun _ _=>rfl) rfl (fun _ _=>rfl) (fun _=>rfl)
    (fun hc=>⟨fun h=>(by simp at h),fun v _ hv=>by
     cases hp:KG o with
     |true=>exact .inr ⟨fun _=>rfl,hv⟩
     | false=>
       refine .inl ?_;have bH:j∈l:=(v0r.1 hl).resolve_left fun e=>hr (by simp[e]);have hjs:=D.lt j hl;refine List.mem_filter.2 ⟨v1r.2 hjs,?_⟩;simp only[Q8Q,ho,hc,hp,v0g,v0J,v0I,Bool.not_false,Kc,true_and];refine⟨hr,?_⟩;cases ha:ahead ops j i with
       |false=>rfl
       |true=>exact absurd hl (Kk D.eok D.cl' D.ord'.1 ha (D.lt i (by simp)))⟩)
    (fun _ a b k x hx=>⟨k,hx,a,b⟩)}
theorem Qd1 [hB:FactX (B W.heap.size->E.q=true)] (H:HRel W B M h w) (an:lo<=h.n) (aB:RoRel M ro ro') (aU:DsRel M df df') (S:StackRel E M h aO lo cs cs') {ops:Array Oper} {rest l:List Nat} {k:List It} {k':List Item} {idf:Nat->Nat}
 (hk:ItsRel M k k') (D:Draw E M h lo h.n nt tm ops false [] rest l tmps idf)
 (hx:QU E fn nt tm (.draw ops rest::k) df kd ro cs h=some s'):
 ∃m',Steps E.P (lone (Frame.atR ⟨fn,tmps,[],df',.run,kd,ro'⟩ ⟨tmps,df'⟩ (.inRegion ops l::k')) cs' w) m'/\Sim W B E aO s' m':=by
 simp only[QU]at hx
 split at hx
 ·
  cases hx;obtain⟨M',w',l',aA,St,e,H',K,D',hh⟩:=Q8a (E:=E) (b:=⟨fn,tmps,[],df',.run,kd,ro'⟩) (df:=df') (k:=k') (cs:=cs') (v0b h.n) l M w tmps H D
  have hl:l'=[]:=by
   cases l' with
   |nil=>rfl
   |cons j t=>exact absurd (hh j t rfl) (by simp)
  subst hl;refine⟨_,St.trans (.one stepR_region_end),?_⟩;exact Zo H' an (aB.mono e) (aU.mono e) (S.mono e (KeepFrom.low K an)) (.plain (hk.mono e) (fun t=>D'.tmp t fun _ i o hi=>absurd hi (by simp)) D'.size)
 rename_i i rest;unfold Q6T at hx
 split at hx
 · cases hx
 rename_i o ho;simp only at hx;obtain⟨hp,hwr,gd⟩:=Yh D.ord;have dm: ∀j q,j∈l->j∉i::rest->ops[j]?=some q->Q0y E tm ops q->idf j <h.n:=fun j q hj jw hq ha=>((D.pend j q hj jw hq).range ha).2.2;have hwP: ∀v,QD ops (Q1e nt tm o.dst v) o=QD ops tm o:=fun v=>wanted_put D ho (D.looksX ho).2 v;have bR: ∀v x,x∈o.op.operands->ev (Q1e nt tm o.dst v) x=ev tm x:=fun v x hx=>Q6O fun t e=>JE nt tm o.dst v t fun _=>(D.looksX ho).1 t (e▸hx)
 split at hx
 · cases hx
 ·
  rename_i hw;cases hx;refine⟨_,.refl _ _,Zo H an aB aU S ⟨l,k',idf,rfl,hk,D.stepX ho (.refl h) (v0b _) (fun _ _=>rfl) ?_ (fun ha=>by rw[ha.1]at hw;cases hw) dm⟩⟩;unfold Pend;rw[hwP,hw];exact Q3L nt tm o undef
 rename_i hw
 split at hx
 ·
  rename_i hc
  split at hx
  · rename_i v hv;cases hx;refine⟨_,.refl _ _,Zo H an aB aU S ⟨l,k',idf,rfl,hk,D.stepX ho (.refl h) (v0b _) (fun _ _=>rfl) ?_ (fun ha=>by rw[ha.2]at hc;cases hc) dm⟩⟩;unfold Pend;rw[hwP,hw];simp only[hc];exact .inr ⟨by simp,v,(JD E (bR v) (.inr rfl)).trans hv,Q3L nt tm o v⟩
  cases hx
 ·
  rename_i hc
  split at hx
  · rename_i b f ha;cases hx;have bI:h.get h.n=none:=H.fresh h.n (v0b _);have dO: ¬M.K h.n:=fun hk=>by have:=H.kn _ hk;omega
    refine⟨_,.refl _ _,Zo (H.allocX b) (by rw[Hp.n_alloc];omega) aB aU (S.mono (.refl M) fun j hj nq=>⟨nq,?_⟩)
     ⟨l,k',fun j=>if j=i then h.n else idf j,rfl,hk,D.stepX ho (.alloc b bI) (by rw[Hp.n_alloc];omega) (fun j hj=>by simp[hj]) ?_ (fun _=>by simp) dm⟩⟩
    · rw[Hp.get_alloc,if_neg (by omega)]
    unfold Pend;rw[hwP,hw];simp only[hc];exact⟨b,f,(Q1l E (bR _)).trans ha,by simpa using Q3L nt tm o (f h.n),by simp[Hp.get_alloc],by simpa using dO,by simpa using an,by simp[Hp.n_alloc]⟩
  cases hx
 ·
  rename_i gO lY
  split at hx
  · rename_i n hn
    have ki:cls E o=2:=by
     have:=cls_le E o;cases cK:cls E o with
     |zero=>exact absurd cK gO
     | succ m=>
       cases m with
       |zero=>exact absurd cK lY
       | succ m => rw[cK]at this;have:m=0:=by omega
                   subst this;rfl
    obtain⟨M',w',l',aA,St,e,H',K,D',hh⟩:=Q8a (E:=E) (b:=⟨fn,tmps,[],df',.run,kd,ro'⟩) (df:=df') (k:=k') (cs:=cs') (v0b h.n) l M w tmps H D;obtain⟨t,rfl⟩:=D'.same_head (by simp[Q8Q,ho,ki]) hh;have aT:=Q1c (ρ:=(Act.mk aA df').eval) H' (D'.operands H'.glob ho df') hn
    have hd: ∀cl,o.op=.defer cl-> ∃d,n=.defer d:=fun cl ecl=>by
     obtain⟨dst,op,type,pos,after,guard⟩:=o;simp only at ecl;subst ecl;simp only[QW]at hn
     split at hn
     · cases hn;exact⟨_,rfl⟩
     cases hn
    have gU:=Q9l (ρ:=(Act.mk aA df').eval) (aB.mono e) hx hd
    obtain⟨m',h1,h2⟩:=Q3T (fr:=⟨fn,nt,tm,.draw ops (i::rest)::k,df,.run,kd,ro⟩) (b:=⟨fn,tmps,[],df',.run,kd,ro'⟩) (tmps:=aA) (df:=df') (rest:=t) (k:=k') H' an
     ⟨rfl,rfl,aB.mono e,aU.mono e,trivial,⟨i,rest,t,k',idf,rfl,rfl,hk.mono e,D'.susp⟩⟩ (S.mono e (KeepFrom.low K an)) hx ho (D'.wantedR ho hw) (gU▸aT)
    exact⟨m',St.trans h1,h2⟩
  cases hx
end
section
variable {P:Program} {b:Frame} {a:Act} {k:List Item} {cs:List Frame} {w:World}
theorem Q63 {c:Code}:step P (lone (b.atR a (.code (.scope c)::k)) cs w)=.next (lone (b.atR a (.code c::.inScope c::k)) cs w):=
 step_lone_go (by simp[stepG,stepG.exec,Frame.atR])
theorem Q3y {c:Code}:step P (lone (b.atR a (.inScope c::k)) cs w)=.next (lone (b.atR a k) cs w):=
 step_lone_go (by simp[stepG,stepG.exec,Frame.atR])
end
section
variable {W:World} {B:Nat->Prop} {E:Env} {M M':Mp} {h h':Hp} {w w':World} {lo hi:Nat} {aO:List Frame}
variable {fn:FuncId} {nt:Nat} {tm:Tr Value} {todo:List It} {todo':List Item} {df:List Deferred} {df':List Deferred} {kd:CallKind} {ro ro':Option Nat} {tmps:Array Value} {cs:List Fr} {cs':List Frame} {s':St}
theorem QcV (id:Nat) {k:List It} {k':List Item} (r:ItsRel M k k'):
 (ZM id k=none/\exitTo id k'=none)\/ ∃k1 k1',ZM id k=some k1/\exitTo id k'=some k1'/\ItsRel M k1 k1':=by
 induction r with
 |nil=>exact .inl ⟨rfl,rfl⟩
 | cons x t ih=>
   cases x with
   | inBlock i=>
     simp only[ZM,exitTo];by_cases e:i=id
     · subst e;rw[v0I,cond_true,if_pos (by simp)];exact .inr ⟨_,_,rfl,rfl,t⟩
     rw[(Qw i id).2 e,cond_false,if_neg (by simpa using e)];exact ih
   |_=>exact ih
theorem QcR (l:Nat) {k:List It} {k':List Item} (r:ItsRel M k k'):
 (Q8I l k=none/\gotoIn l k'=none)\/ ∃k1 k1',Q8I l k=some k1/\gotoIn l k'=some k1'/\ItsRel M k1 k1':=by
 induction r with
 |nil=>exact .inl ⟨rfl,rfl⟩
 | cons x t ih=>
   cases x with
   | inScope c=>
     simp only[Q8I,gotoIn];cases hf:findLabel c l with
     |none=>exact ih
     |some rest=>exact .inr ⟨_,_,rfl,rfl,.cons (.code rest) (.cons (.inScope c) t)⟩
   |_=>exact ih
theorem Q3Y (H:HRel W B M h w) {l l':Nat} {r r2:Lp} (hi:IdRel M l l') (hl:Yl h l=some r) (f:Loop->Loop) (hf: ∀r',LRel M r r'->LRel M r2 (f r')):
 ∃r' w',LRel M r r'/\(Instr.getLoop l').run E.P w=.ok r' w/\(setObj l' (.loop (f r'))).run E.P w=.ok () w'/\HRel W B M (h.put l (.loop r2)) w'/\Keep M h M (h.put l (.loop r2)) (fun _=>False):=by
 obtain⟨S,r',hρ,hx,he,bj⟩:=Q0U (E:=E) H hi hl;obtain⟨h1,h2,h3⟩:=H.setObj (E:=E) (o:=.loop r2) (x:=.loop (f r')) hρ hx (by intro c e f h;cases h) ⟨rfl,_,rfl,hf r' he⟩;exact⟨r',_,he,bj,h1,h2,h3⟩
theorem Q6Q (H:HRel W B M h w) {l l':Nat} (hi:IdRel M l l') {jump:Option Code} (hx:Ki h l jump=some h'):
 ∃w',(Instr.endRound l' jump).run E.P w=.ok (.bool jump.isNone) w'/\HRel W B M h' w'/\Keep M h M h' (fun _=>False):=by
 unfold Ki at hx
 split at hx
 · rename_i st p fn nt tm ps a b d hl;cases hx
   obtain⟨r',w',he,bj,h1,h2,h3⟩:=Q3Y (E:=E) (r2:=⟨cond (Q6u jump) .ready .done,jump,fn,nt,tm,ps,a,b,d⟩) H hi hl
    (fun r=> {r with state:=if jump.isNone then .ready else .done,pending:=jump}) (fun r' ⟨_,_,q⟩=>⟨by cases jump<;>rfl,rfl,q⟩)
   exact⟨w',by simp only[Instr.endRound,Sem.run_bind,bj,Result.andThen_ok,h1,Sem.run_pure],h2,h3⟩
 cases hx
theorem Q0d (H:HRel W B M h w) (an:lo<=h.n) (aB:RoRel M ro ro') (aU:DsRel M df df') (S:StackRel E M h aO lo cs cs') (T:TRel M tm tmps) {jump:Option Code}
 (hx:Js E ⟨fn,nt,tm,todo,df,.run,kd,ro⟩ cs h jump=some s') {aw:Frame}
 (h0:ro'=none->(jump=none\/jump=some .ret)->step E.P (lone aw cs' w)=.next (lone ⟨fn,tmps,todo',df',.returning,kd,ro'⟩ cs' w))
 (h1: ∀l' v w' c cY,ro'=some l'->kd=.normal->cs'=c::cY->(Instr.endRound l' jump).run E.P w=.ok v w'->step E.P (lone aw cs' w)=.next (lone (c.finish v) cY w')):
 ∃m',Steps E.P (lone aw cs' w) m'/\Sim W B E aO s' m':=by
 cases ro with
 | none=>
   cases ro' with
   |some x=>exact aB.elim
   | none=>
     simp only[Js]at hx
     have cU:(jump=none\/jump=some .ret)/\s'=⟨⟨fn,nt,tm,todo,df,.returning,kd,none⟩,cs,h⟩:=by
      cases jump with
      |none=>cases hx;exact⟨.inl rfl,rfl⟩
      |some c=>cases c<;>simp only at hx<;>first|(cases hx;done)|(cases hx;exact⟨.inr rfl,rfl⟩)
     obtain⟨hj,rfl⟩:=cU;exact⟨_,.one (h0 rfl hj),M,lo,_,cs',w,rfl,H,an,⟨rfl,rfl,trivial,aU,trivial,T.res fn⟩,S⟩
 | some l=>
   cases ro' with
   |none=>exact aB.elim
   | some l' =>
     simp only[Js]at hx;cases kd<;>simp only at hx<;>(try (cases hx;done))
     split at hx
     · rename_i h2 cU;obtain⟨w',hr,H',K⟩:=Q6Q (E:=E) H aB cU;unfold YH at hx;cases cs with
       |nil=>cases hx
       | cons c rest=>
         cases cs' with
         |nil=>exact S.elim
         | cons c' ba=>
           obtain⟨iL,g1,g2,g3⟩:=S;simp only at hx
           split at hx
           · rename_i c2 hf;cases hx
             have hb:VRel M (YO (Q6u jump)) (.bool jump.isNone):=by
              rw[QO];cases jump<;>exact .bool _
             have nf:lo<=h2.n:=v0t an K.1;refine⟨_,.one (h1 l' _ w' c' ba rfl rfl rfl hr),M,iL,_,ba,w',rfl,H',v0t g1 nf,?_,g3.mono (.refl M) fun i hi=>K.all i (v0p hi (v0t g1 an))⟩;exact ZQ (g2.mono (.refl M) (fun i _ hi=>K.all i (v0p hi an)) (v0b lo)) hb hf nf
           cases hx
     cases hx
theorem Draw.again {ops:Array Oper} {i:Nat} {c rest l:List Nat} {idf:Nat->Nat} (D:Draw E M h lo hi nt tm ops false (i::c) rest l tmps idf) (ha:Q2H E tm h ops i=true):
 Draw E M h lo hi nt tm ops false c rest l tmps idf:=
 { D with
   pend := fun j o hl hr ho=>by
    have Pd:=D.pend j o hl hr ho;unfold Pend at Pd ⊢;cases hw:QD ops tm o with
    |none=>rw[hw]at Pd;exact Pd
    | some b=>
      rw[hw]at Pd;cases b with
      |false=>exact Pd
      | true=>
        simp only at Pd ⊢;cases hc:cls E o with
        | zero=>
          rw[hc]at Pd;simp only at Pd ⊢;rcases Pd with Pd|Pd
          · by_cases e:j=i
            · subst e;unfold Q2H at ha;rw[ho]at ha;simp only[hw]at ha
              split at ha
              · rename_i v d hv hd
                split at ha
                · rename_i u hu;have:=Q3B 20 v u ha;subst this;refine .inr ⟨by simp,v,hv,fun d' eu _=>?_⟩;rw[hd]at eu;cases eu;simp only[ev,hu]
                cases ha
              cases ha
            exact .inl ((v0r.1 Pd).resolve_left e)
          exact .inr Pd
        |succ n=>rw[hc]at Pd;cases n<;>exact Pd}
theorem Q4X {M1:Mp} {h1:Hp} {w1:World} (H:HRel W B M1 h1 w1) (an:lo<=h1.n) (aB:RoRel M1 ro ro') {mark mark':List Deferred} (aU:DsRel M1 (mark++df) (mark'++df')) (S:StackRel E M1 h1 aO lo cs cs')
 (T:TRel M1 tm tmps) (hs:tmps.size=nt) {k:List It} {k':List Item} (hk:ItsRel M1 k k') {f:Operand} {ps:Array Tmp} {x y:Code} {r r':Nat} (hr:IdRel M1 r r')
 (hx:Q4Y E fn nt tm k df kd ro cs h1 f ps x y mark r=some s')
 (he: ∀l w2,(newObj (.loop {state:=.ready,pending:=none,fn,tmps,params:=ps,assign:=x,body:=y,defers:=r'})).run E.P w1=.ok l w2->(Instr.enterLoop fn tmps ps x y ro').run E.P w=.ok (l,mark') w2):
 ∃m',Steps E.P (lone (Frame.atR ⟨fn,tmps,[],df',.run,kd,ro'⟩ ⟨tmps,df'⟩ (.code (.rangeFunc f ps x y)::k')) cs' w) m'/\Sim W B E aO s' m':=by
 unfold Q4Y at hx;cases hcf:Q2A f with
 |false=>rw[hcf,cond_false]at hx;cases hx
 | true=>
   rw[hcf,cond_true]at hx
   split at hx
   · rename_i d hd
     split at hx
     · rename_i g args hinv
       split at hx
       · rename_i dS hf2;cases hx;have dO: ¬M1.K h1.n:=fun hk=>by have:=H.kn _ hk;omega
         have bR:=Mp.add_ev M1 h1.n w1.heap.size 0 0 0 dO
         have ig:LRel (M1.add h1.n w1.heap.size 0 0 0) ⟨.ready,none,fn,nt,tm,ps,x,y,r⟩ {state:=.ready,pending:=none,fn,tmps,params:=ps,assign:=x,body:=y,defers:=r'}:=
          ⟨rfl,rfl,rfl,hs,T.mono bR,rfl,rfl,rfl,hr.mono bR⟩
         obtain⟨H2,_,K⟩:=YU H (o:=.loop ⟨.ready,none,fn,nt,tm,ps,x,y,r⟩) (x:=.loop {state:=.ready,pending:=none,fn,tmps,params:=ps,assign:=x,body:=y,defers:=r'}) (S:=0) (m:=0) ⟨rfl,_,rfl,ig⟩;have bU:IdRel (M1.add h1.n w1.heap.size 0 0 0) h1.n w1.heap.size:=⟨.inl rfl,fun b δ S hb=>by simp[Mp.add]at hb;exact hb.1⟩;have k8:=he w1.heap.size _ rfl
         -- the call
         unfold ZI Q0L at hd;simp only at hd
         split at hd
         · rename_i fv first captured heq
           cases hd
           have bI:VRel (M1.add h1.n w1.heap.size 0 0 0) (ev tm f) ((Act.mk tmps df').eval f):=by
            cases f with
            |tmp t=>exact(T t).mono bR
            |const v=>exact KR _ 20 v hcf
            |global g=>exact H2.glob.ptr hcf
            |func f=>exact .func' (f:=.func f) (f':=.func f) rfl (.nil _) (.nil _)
           rw[heq]at bI;have hmap:(#[.const (.func (.yield w1.heap.size) #[] #[])]:Array Operand).map (Act.mk tmps df').eval= #[.func (.yield w1.heap.size) #[] #[]]:=by simp[Act.eval]
           have ay: ∀w2,(resolve (Act.mk tmps df').eval (rangeCall f w1.heap.size) 0).run E.P w2=(Deferred.ofValue ((Act.mk tmps df').eval f) #[.func (.yield w1.heap.size) #[] #[]]).run E.P w2:=fun w2=>by
            rw[<-hmap];rfl
           generalize (Act.mk tmps df').eval f=q at bI ay;cases bI with
           |func hfn ha hb ka kb=>
           rename_i f1 a1 b1
           have aT:=Kv (E:=E) H2 (d':= {target:=.fn f1 b1,args:=a1++ #[.func (.yield w1.heap.size) #[] #[]]}) (d:= {target:=.fn fv captured,args:=first++(#[.const (.func (.yield h1.n) #[] #[])]:Array Operand).map (ev tm)}) ⟨⟨hfn,hb,kb⟩,by
            have hy:VRel (M1.add h1.n w1.heap.size 0 0 0) (.func (.yield h1.n) #[] #[]) (.func (.yield w1.heap.size) #[] #[]):=.func' (f:=.yield h1.n) (f':=.yield w1.heap.size) bU (.nil _) (.nil _);simp only[v12,v1y]
            exact VsRel.append ⟨ha,ka⟩ (VsRel.cons hy (.nil _))⟩ hinv
           obtain⟨ad,nB,hv⟩:=aT;have av:=stepR_rangeFunc (P:=E.P) (b:=⟨fn,tmps,[],df',.run,kd,ro'⟩) (a:=⟨tmps,df'⟩) (k:=k') (cs:=cs') (w:=w) (g:=f) (ps:=ps) (assign:=x) (body:=y) k8 (ay _) nB;have hn2:=K.1;refine⟨_,.one av,_,(h1.alloc (.loop ⟨.ready,none,fn,nt,tm,ps,x,y,r⟩)).n,_,_::cs',_,rfl,H2,v0b _,J1 hv hf2 _ _,lo,v0t an hn2,?_,S.mono bR fun i hi=>K.all i (v0p hi an)⟩;exact⟨rfl,rfl,aB.mono bR,aU.mono bR,trivial,⟨.cons (.inRangeFunc bU) (hk.mono bR),T.mono bR,hs⟩⟩
         cases hd
       cases hx
     cases hx
   cases hx
end
section
variable {W:World} {B:Nat->Prop} {E:Env} {M M':Mp} {h h':Hp} {w w':World} {lo hi:Nat} {aO:List Frame}
variable {fn:FuncId} {nt:Nat} {tm:Tr Value} {todo:List It} {todo':List Item} {df:List Deferred} {df':List Deferred} {kd:CallKind} {ro ro':Option Nat} {tmps:Array Value} {cs:List Fr} {cs':List Frame} {s':St}
theorem Q6k {ops:Array Oper} (hc:QS ops=true) (hr:J6 E ops=true) (T:TRel M tm tmps) (hs:tmps.size=nt) (t:Nat):
 Draw E M h lo hi nt tm ops false [] (canon E ops) (Region.schedule true ops t) tmps id:=by
 unfold J6 at hr;simp only[v0g]at hr;obtain⟨⟨⟨r1,r2⟩,_⟩,r4⟩:=hr;unfold Q54 at r4;simp only[v0g]at r4;obtain⟨⟨⟨q1,q2⟩,q3⟩,q4⟩:=r4;obtain⟨s1,s2,s3⟩:=Q6e r1 t;have au: ∀i,i <ops.size->i∈canon E ops:=fun i hi=>(Yy _ _).1 (v0u.1 q4 i (v1r.2 hi));have ai: ∀i,i∈canon E ops->i <ops.size:=fun i hi=>(QT _ _).1 (v0u.1 q3 i hi)
 exact⟨r1,r2,hc,q1,(Q8z _).1 q2,fun i hi hn=>absurd (au i hi) hn,s2,s1,fun i hi hn=>absurd ((s3 i).2 hi) hn,fun i hi=>(s3 i).2 (ai i hi),fun i hi=>(s3 i).1 hi,hs,fun t _=>T t,
  fun i o hi hn _=>absurd (au i ((s3 i).1 hi)) hn,fun i j o q hi hn _ _ _ _ _ _ _=>absurd (au i ((s3 i).1 hi)) hn⟩
theorem Qd4 (hm:E.P.follows .mixedOrders=true) (H:HRel W B M h w) (an:lo<=h.n) (aB:RoRel M ro ro') (aU:DsRel M df df') (S:StackRel E M h aO lo cs cs') {c:Code} {k:List It} {k':List Item}
 (hk:ItsRel M k k') (T:TRel M tm tmps) (hs:tmps.size=nt) (hx:QU E fn nt tm (.code c::k) df kd ro cs h=some s'):
 ∃m',Steps E.P (lone (Frame.atR ⟨fn,tmps,[],df',.run,kd,ro'⟩ ⟨tmps,df'⟩ (.code c::k')) cs' w) m'/\Sim W B E aO s' m':=by
 cases c with
 | skip=>
   simp only[QU]at hx;cases hx;exact⟨_,.one stepR_skip,Zo H an aB aU S (.plain hk T hs)⟩
 | label l=>
   simp only[QU]at hx;cases hx;exact⟨_,.one stepR_label,Zo H an aB aU S (.plain hk T hs)⟩
 | ret=>
   simp only[QU]at hx;refine Q0d (todo':=.code .ret::k') H an aB aU S T hx (fun e _=>by subst e;exact stepR_ret rfl) (fun l' v w' c cY e1 e2 e3 hr=>by subst e1;subst e2;subst e3;exact stepR_round_ret rfl rfl hr)
 | seq x y=>
   simp only[QU]at hx;cases hx;exact⟨_,.one stepR_seq,Zo H an aB aU S (.plain (.cons (.code x) (.cons (.code y) hk)) T hs)⟩
 | cond c x y=>
   simp only[QU]at hx
   split at hx
   · rename_i t ht;cases hx
     have hv:(Act.mk tmps df').eval c=.bool t:=by
      cases c with
      |tmp u=>have:=T u;rw[ht]at this;generalize hq:(Act.mk tmps df').eval (.tmp u)=q;simp only[Act.eval]at hq;rw[hq]at this;cases this;rfl
      |const v=>exact ht
      |global g=>simp[ev]at ht
      |func f=>simp[ev]at ht
     refine⟨_,.one (stepR_cond hv),Zo H an aB aU S ?_⟩;cases t
     · exact .plain (.cons (.code y) hk) T hs
     exact .plain (.cons (.code x) hk) T hs
   cases hx
 | block id x=>
   simp only[QU]at hx;cases hx;exact⟨_,.one stepR_block,Zo H an aB aU S (.plain (.cons (.code x) (.cons (.inBlock id) hk)) T hs)⟩
 | loop x=>
   simp only[QU]at hx;cases hx;exact⟨_,.one stepR_loop,Zo H an aB aU S (.plain (.cons (.code x) (.cons (.inLoop x) hk)) T hs)⟩
 | scope x=>
   simp only[QU]at hx;cases hx;exact⟨_,.one Q63,Zo H an aB aU S (.plain (.cons (.code x) (.cons (.inScope x) hk)) T hs)⟩
 | exit id=>
   simp only[QU]at hx;rcases QcV id hk with⟨e1,e2⟩| ⟨k1,k1',e1,e2,bP⟩
   · rw[e1]at hx;refine Q0d (todo':=.code (.exit id)::k') H an aB aU S T hx (fun _ hj=>by rcases hj with hj|hj<;>cases hj) (fun l' v w' c cY g1 g2 g3 hr=>by subst g1;subst g2;subst g3;exact stepR_round_exit rfl rfl e2 hr)
   rw[e1]at hx;cases hx;exact⟨_,.one (stepR_exit e2),Zo H an aB aU S (.plain bP T hs)⟩
 | goto l=>
   simp only[QU]at hx;rcases QcR l hk with⟨e1,e2⟩| ⟨k1,k1',e1,e2,bP⟩
   · rw[e1]at hx;refine Q0d (todo':=.code (.goto l)::k') H an aB aU S T hx (fun _ hj=>by rcases hj with hj|hj<;>cases hj) (fun l' v w' c cY g1 g2 g3 hr=>by subst g1;subst g2;subst g3;exact stepR_round_goto rfl rfl e2 hr)
   rw[e1]at hx;cases hx;exact⟨_,.one (stepR_goto e2),Zo H an aB aU S (.plain bP T hs)⟩
 | rangeFunc f ps x y=>
   simp only[QU]at hx;cases ro with
   | none=>
     cases ro' with
     |some z=>exact aB.elim
     | none=>
       simp only at hx;have dO: ¬M.K h.n:=fun hk=>by have:=H.kn _ hk;omega
       obtain⟨H1,e1,K1⟩:=YU H (o:=.deferred (some [])) (x:=.deferred (some [])) (S:=0) (m:=0) ⟨rfl,[],rfl,trivial⟩;have bU:IdRel (M.add h.n w.heap.size 0 0 0) h.n w.heap.size:=⟨.inl rfl,fun b δ S hb=>by simp[Mp.add]at hb;exact hb.1⟩;refine Q4X (lo:=lo) (ro:=none) (ro':=none) H1 (v0t an K1.1) trivial (mark:=[{target:=.collected h.n,args:= #[]}]) (df:=df) (mark':=[{target:=.collected w.heap.size,args:= #[]}]) (df':=df') ⟨⟨bU,.nil _⟩,aU.mono e1⟩ (S.mono e1 fun i hi=>K1.all i (v0p hi an)) (T.mono e1) hs (hk.mono e1) bU hx fun l w2 hl=>?_;simp only[run_newObj]at hl;cases hl;simp[Instr.enterLoop];rfl
   | some o=>
     cases ro' with
     |none=>exact aB.elim
     | some o'=>
       simp only at hx
       split at hx
       · cases hx
       rename_i r hl;obtain⟨S0,r',hρ,hxo,he,bj⟩:=Q0U (E:=E) H aB hl;have hdr:=he.2.2.2.2.2.2.2.2;refine Q4X (lo:=lo) H an aB (mark:=[]) (df:=df) (mark':=[]) (df':=df') aU S T hs hk hdr hx fun l w2 hl=>?_;simp only[run_newObj]at hl;cases hl;simp[Instr.enterLoop,bj]
 | region id ops draw=>
   simp only[QU]at hx;cases hc:QS ops with
   |false=>rw[hc,cond_false]at hx;cases hx
   | true=>
     rw[hc,cond_true]at hx;cases draw with
     | false=>
       rw[cond_false]at hx;cases hx;exact⟨_,.one stepR_region,Zo H an aB aU S (.plain (.cons (.inRegion ops _ hc) hk) T hs)⟩
     | true=>
       rw[cond_true]at hx;cases hr:J6 E ops with
       |false=>rw[hr,cond_false]at hx;cases hx
       | true=>
         rw[hr,cond_true]at hx;cases hx;have av:=stepR_region_draw (P:=E.P) (b:=⟨fn,tmps,[],df',.run,kd,ro'⟩) (a:=⟨tmps,df'⟩) (k:=k') (cs:=cs') (w:=w) (ops:=ops) (id:=id);rw[hm]at av;exact⟨_,.one av,Zo (World.drew_HRel H (w.drawn+1) (Nat.le_succ _)) an aB aU S ⟨_,k',_root_.id,rfl,hk,Q6k hc hr T hs _⟩⟩
 |refuse y=>simp only[QU]at hx;cases hx
theorem QcW [hB:FactX (B W.heap.size->E.q=true)] (hm:E.P.follows .mixedOrders=true) (H:HRel W B M h w) (an:lo<=h.n) (aB:RoRel M ro ro') (aU:DsRel M df df') (S:StackRel E M h aO lo cs cs')
 (hb:Body E M h lo nt tm todo todo' tmps) (hx:QU E fn nt tm todo df kd ro cs h=some s'):
 ∃m',Steps E.P (lone (Frame.atR ⟨fn,tmps,[],df',.run,kd,ro'⟩ ⟨tmps,df'⟩ todo') cs' w) m'/\Sim W B E aO s' m':=by
 cases todo with
 | nil=>
   obtain⟨hk,T,hs⟩:=hb;cases hk;simp only[QU]at hx;refine Q0d (todo':=[]) H an aB aU S T hx (fun e _=>by subst e;exact stepR_end rfl) (fun l' v w' c cY e1 e2 e3 hr=>by subst e1;subst e2;subst e3;exact stepR_round_end rfl rfl hr)
 | cons it k=>
   cases it with
   | code c=>
     obtain⟨hk,T,hs⟩:=hb;cases hk with
     |cons hi ht=>cases hi;exact Qd4 hm H an aB aU S ht T hs hx
   | inBlock i=>
     obtain⟨hk,T,hs⟩:=hb;cases hk with
     | cons hi ht=>
       cases hi;simp only[QU]at hx;cases hx;exact⟨_,.one stepR_inBlock,Zo H an aB aU S (.plain ht T hs)⟩
   | inScope c=>
     obtain⟨hk,T,hs⟩:=hb;cases hk with
     | cons hi ht=>
       cases hi;simp only[QU]at hx;cases hx;exact⟨_,.one Q3y,Zo H an aB aU S (.plain ht T hs)⟩
   | inLoop c=>
     obtain⟨hk,T,hs⟩:=hb;cases hk with
     | cons hi ht=>
       cases hi;simp only[QU]at hx;cases hx;exact⟨_,.one stepR_inLoop,Zo H an aB aU S (.plain (.cons (.code c) (.cons (.inLoop c) ht)) T hs)⟩
   | inRegion ops l=>
     obtain⟨hk,T,hs⟩:=hb;cases hk with
     | cons hi ht=>
       cases hi with
       |inRegion _ _ hc=>exact Q8t H an aB aU S hc ht T hs hx
   | draw ops rest=>
     obtain⟨l,k',idf,rfl,hk,D⟩:=hb;exact Qd1 H an aB aU S hk D hx
   | chk ops c rest=>
     obtain⟨l,k',idf,rfl,hk,D⟩:=hb;simp only[QU]at hx
     split at hx
     · cases hx;exact⟨_,.refl _ _,Zo H an aB aU S ⟨l,k',idf,rfl,hk,D⟩⟩
     rename_i i c;cases ha:Q2H E tm h ops i with
     |false=>rw[ha,cond_false]at hx;cases hx
     | true=>
       rw[ha,cond_true]at hx;cases hx;exact⟨_,.refl _ _,Zo H an aB aU S ⟨l,k',idf,rfl,hk,D.again ha⟩⟩
   |inRangeFunc l=>simp only[QU]at hx;cases hx
   | beginRound=>
     obtain⟨hk,T,hs⟩:=hb;cases hk with
     | cons hi ht=>
       cases hi;simp only[QU]at hx;cases ro with
       |none=>cases hx
       | some l=>
         cases ro' with
         |none=>exact aB.elim
         | some l'=>
           simp only at hx
           split at hx
           · rename_i p f n t ps x y d hl;cases hx;obtain⟨r',w',he,bj,h1,h2,h3⟩:=Q3Y (E:=E) (r2:=⟨.busy,p,f,n,t,ps,x,y,d⟩) H aB hl (fun r=> {r with state:=.busy}) (fun r' ⟨_,q⟩=>⟨rfl,q⟩);have av:r'.state=.ready:=he.1;refine⟨_,.one (stepR_beginRound (w':=w') rfl ?_),Zo h2 (v0t an h3.1) aB aU (S.mono (.refl M) fun i hi=>h3.all i (v0p hi an)) (.plain ht T hs)⟩;simp[Instr.beginRound,bj,h1,av]
           cases hx
   | endRangeFunc l=>
     obtain⟨hk,T,hs⟩:=hb;cases hk with
     | cons hi ht=>
       cases hi with
       | endRangeFunc aR=>
         rename_i l';simp only[QU]at hx
         split at hx
         · cases hx
         · rename_i st p f n t ps x y d dP hl;cases hx;obtain⟨r',w',he,bj,h1,h2,h3⟩:=Q3Y (E:=E) (r2:=⟨.exhausted,p,f,n,t,ps,x,y,d⟩) H aR hl (fun r=> {r with state:=.exhausted}) (fun r' ⟨_,q⟩=>⟨rfl,q⟩);have av:r'.state≠LoopState.busy:=by rw[he.1];exact dP
           have hp:r'.pending=p:=he.2.1;have ay:(Instr.endLoop l').run E.P w=.ok p w':=by subst hp;simp[Instr.endLoop,bj,h1,av]
           refine⟨_,.one (stepR_endRangeFunc ay),Zo h2 (v0t an h3.1) aB aU (S.mono (.refl M) fun i hi=>h3.all i (v0p hi an)) ?_⟩;cases p with
           |none=>exact .plain ht T hs
           |some c=>exact .plain (.cons (.code c) ht) T hs
         cases hx
end
section
variable {P:Program}
theorem step_collected {fr:Frame} {cs:List Frame} {w w':World} {b:Nat} {args:Array Value} {ds calls:List Deferred} (hm:fr.mode≠ .run) (hd:fr.defers= {target:=.collected b,args}::ds)
 (hr:(Instr.takeDeferred b).run P w=.ok calls w'):step P (lone fr cs w)=.next (lone {fr with defers:=calls++ds} cs w'):=by
 refine step_lone_go ?_;cases ic:fr.mode with
 |run=>exact absurd ic hm
 |returning=>simp[stepG,unwind,ic,hd,Sem.runT_eq,hr,GStep.bare_after]
 |panicking chain=>simp[stepG,unwind,ic,hd,Sem.runT_eq,hr,GStep.bare_after]
end
section
variable {W:World} {B:Nat->Prop} {E:Env} {M M':Mp} {h h':Hp} {w w':World} {lo hi:Nat} {aO:List Frame}
variable {fn:FuncId} {nt:Nat} {tm:Tr Value} {todo:List It} {todo':List Item} {df:List Deferred} {df':List Deferred} {md cC:FrameMode} {kd:CallKind} {ro ro':Option Nat} {tmps:Array Value} {cs:List Fr} {cs':List Frame} {s':St}
theorem KQ (H:HRel W B M h w): ∀(rs:List ResultVar) (vs:List Value),Za E tm h rs=some vs->(∀r,r∈rs->VRel M (ev tm (.tmp (Q1V r))) (tmps.getD (Q1V r) undef))->
 ∃ fE,(rs.mapM fun(r:ResultVar)=>(match r with
   | .tmp t=>pure (tmps.getD t undef)
   | .cell a t=>do loadVar t (<-asAddr (tmps.getD a undef)):Sem Value)).run E.P w=.ok fE w/\VsRel M vs fE
 | [],vs,hx,_=>by
   simp only[Za]at hx;cases hx;exact⟨[],by simp[List.mapM_nil],.nil M⟩
 | r ::rs,vs,hx,hr=>by
   have h0:=hr r (by simp);cases r with
   | tmp t=>
     simp only[Za]at hx
     split at hx
     · rename_i r fH;cases hx;obtain⟨fE,h1,h2⟩:=KQ H rs r fH fun q hq=>hr q (by simp[hq]);exact⟨tmps.getD t undef::fE,by simp only[List.mapM_cons,Sem.run_bind,Sem.run_pure,Result.andThen_ok,h1],.cons h0 h2⟩
     cases hx
   | cell a t=>
     simp only[Za]at hx
     split at hx
     · rename_i p hp
       split at hx
       · rename_i v r hv fH;cases hx;simp only[Q1V]at h0;rw[hp]at h0;generalize hq:tmps.getD a undef=q at h0;cases h0 with
         | ptr ha=>
           obtain⟨v',hl,jg⟩:=Q2g (E:=E) H ha hv;obtain⟨fE,h1,h2⟩:=KQ H rs r fH fun q hq=>hr q (by simp[hq]);rename_i p';have eG:(asAddr (tmps.getD a undef)).run E.P w=.ok p' w:=by rw[hq];rfl
           exact⟨v'::fE,by simp only[List.mapM_cons,Sem.run_bind,Sem.run_pure,Result.andThen_ok,eG,hl,h1],.cons jg h2⟩
       cases hx
     cases hx
theorem Q1y: ∀(n:Nat) {v w:Value},ZB n v=true->VRel M v w->w=v
 |0,v,w,hp,_=>by cases hp
 | n + 1,v,w,hp,hr=>by
   cases hr with
   |bool=>rfl
   |int=>rfl
   |string=>rfl
   |nilp=>rfl
   |nils=>rfl
   |nilm=>rfl
   |nilc=>rfl
   |nilFunc=>rfl
   |nilIface=>rfl
   |iface h=>rw[Q1y n (by simpa[ZB]using hp) h]
   | @agg a c ha ka=>
     have au:a.toList.all (ZB n)=true:=by simpa[ZB]using hp
     have:c.toList=a.toList:=by
      apply v1f;intro i;cases hi:a.toList[i]? with
      |none=>rw[List.getElem?_eq_none_iff]at hi ⊢;omega
      | some x=>
        have ai:=(v0y.1 hi).1;have hc:c.toList[i]?=some (c.toList[i]'(by omega)):=v0c _;rw[hc,Q1y n (v0u.1 au x (v0m hi)) (ka i _ _ hi hc)]
     rw[v1P.1 this]
   |_=>simp[ZB]at hp
theorem Kt (H:HRel W B M h w) {f:Func} {vs:List Value} (hf:E.fn fn=some f) (hx:Za E tm h f.results.toList=some vs) (hr:ResRel E M fn tm tmps):
 ∃v',(results f tmps).run E.P w=.ok v' w/\VRel M (oneOf vs) v':=by
 obtain⟨fE,h1,h2⟩:=KQ H f.results.toList vs hx (hr f hf);refine⟨if h:fE.toArray.size=1 then fE.toArray[0]else .tuple fE.toArray,?_,?_⟩
 · unfold results;rw[Array.mapM_eq_mapM_toList];simp only[Sem.run_bind,map_eq_pure_bind,bind_assoc,pure_bind,Sem.run_pure];exact congrArg (fun r=>Result.andThen r (fun a w'=>Result.ok (if h:a.toArray.size=1 then a.toArray[0]else Value.tuple a.toArray) w')) h1
 match vs,fE,h2 with
 | [],[],_=>exact .tuple' (.nil M)
 | [],_::_,h2=>have:=h2.1;simp at this
 |_::_,[],h2=>have:=h2.1;simp at this
 | [v],[v'],h2=>simpa[oneOf]using h2.uncons.1
 | [_],_::_::_,h2=>have:=h2.1;simp at this
 |_::_::_,[_],h2=>have:=h2.1;simp at this
 |a::b::l,a'::b'::l',h2=>simpa[oneOf]using VRel.tuple' (by simpa using h2)
theorem Q0p: ∀ {a b:List PanicEntry},ChRel M a b->ChRel M (a.dropWhile (!·.goexit)) (b.dropWhile (!·.goexit))
 | [],[],_=>trivial
 | [],_::_,h=>h.elim
 |_::_,[],h=>h.elim
 | p::l,p'::l',h=>by
   simp only[List.dropWhile_cons,h.1.2.2]
   split
   · exact Q0p h.2
   exact h
theorem Q8k {fr:Fr} {aw:Frame} {v:Value} {cs:List Fr} {s':St} (R:FrWait E M h lo hi fr aw) (_hh:hi<=h.n) (hx:YH E .deferred (fr::cs) h v=some s'):
 ∃dS,s'=⟨dS,cs,h⟩/\Q75 E M h lo dS {aw with mode:=settle aw.mode}:=by
 obtain⟨fn,nt,tm,todo,df,md,kd,ro⟩:=fr;obtain⟨gA,aA,todo',df',cC,iM,ro'⟩:=aw;obtain⟨h1,h2,h3,h4,h5,h6⟩:=R;simp only at h1 h2 h3 h4 h5 h6;subst h1;subst h2;unfold YH at hx;simp only at hx;cases md with
 |run=>cases hx
 | returning=>
   cases cC<;>simp only[MdRel]at h5
   cases hx;exact⟨_,rfl,rfl,rfl,h3,h4,trivial,h6⟩
 | panicking c=>
   cases cC<;>simp only[MdRel]at h5
   rename_i c';cases c with
   | nil=>
     cases c' with
     |nil=>cases hx;exact⟨_,rfl,rfl,rfl,h3,h4,trivial,h6⟩
     |cons p' l'=>exact h5.elim
   | cons p l=>
     cases c' with
     |nil=>exact h5.elim
     | cons p' l'=>
       obtain⟨pv,pr,pg⟩:=p;obtain⟨pv',pr',pg'⟩:=p';obtain⟨⟨q1,q2,q3⟩,q4⟩:=h5;simp only at q1 q2 q3;subst q2;subst q3;cases pr' with
       |false=>cases hx;exact⟨_,rfl,rfl,rfl,h3,h4,⟨⟨q1,rfl,rfl⟩,q4⟩,h6⟩
       | true=>
         have hd:=Q0p q4;simp only[settle];simp only at hx;generalize l.dropWhile (!·.goexit)=x at hx hd;generalize l'.dropWhile (!·.goexit)=y at hd;cases x with
         | nil=>
           cases y with
           |nil=>cases hx;exact⟨_,rfl,rfl,rfl,h3,h4,trivial,h6⟩
           |cons a b=>exact hd.elim
         | cons a b=>
           cases y with
           |nil=>exact hd.elim
           |cons a' b'=>cases hx;exact⟨_,rfl,rfl,rfl,h3,h4,hd,h6⟩
theorem top_of (H:HRel W B M h w) (an:lo<=h.n) (ao:md≠ .run) (bQ:MdRel M md cC) (cu:ResRel E M fn tm tmps) (aB:RoRel M ro ro') (aU:DsRel M df df') (S:StackRel E M h aO lo cs cs'):
 Sim W B E aO ⟨⟨fn,nt,tm,todo,df,md,kd,ro⟩,cs,h⟩ (lone ⟨fn,tmps,todo',df',cC,kd,ro'⟩ cs' w):=by
 refine⟨M,lo,_,cs',w,rfl,H,an,⟨rfl,rfl,aB,aU,bQ,?_⟩,S⟩;cases md with
 |run=>exact absurd rfl ao
 |returning=>exact cu
 |panicking c=>exact cu
theorem Q48 {d:Deferred} {f:FuncId} {args:Array Value} (hx:Zx E h d=some (.enter f args)): ∃fv cap,d.target=.fn fv cap:=by
 obtain⟨t,a⟩:=d;cases t with
 |fn fv cap=>exact⟨fv,cap,rfl⟩
 | builtin b ts ty cs=>
   exfalso
   simp only[Zx]at hx
   split at hx<;>first
    |(cases hx;done)
    |(split at hx<;>first|(cases hx;done)|(split at hx<;>cases hx))
 |_=>simp only[Zx]at hx;cases hx
theorem Q2U (H:HRel W B M h w) (an:lo<=h.n) (ao:md≠ .run) (bQ:MdRel M md cC) (cu:ResRel E M fn tm tmps) (aB:RoRel M ro ro') (aU:DsRel M df df') (S:StackRel E M h aO lo cs cs')
 (hx:Q0C E fn nt tm todo df md kd ro cs h=some s'): ∃m',Steps E.P (lone ⟨fn,tmps,todo',df',cC,kd,ro'⟩ cs' w) m'/\Sim W B E aO s' m':=by
 have gf:cC≠ .run:=by
  intro e;subst e;cases md<;>simp only[MdRel]at bQ
  exact ao rfl
 cases df with
 | cons d ds=>
   cases df' with
   |nil=>exact aU.elim
   | cons d' oC=>
     obtain⟨hd,j8⟩:=aU;simp only[Q0C]at hx
     split at hx
     ·
      rename_i b hb
      split at hx
      · rename_i calls hg;cases hx;obtain⟨t,a⟩:=d;obtain⟨t',a'⟩:=d';simp only at hb;subst hb;obtain⟨ht,ax⟩:=hd;cases t'<;>simp only[TgRel]at ht
        rename_i b';obtain⟨b2,δ,S2,x,hρ,cL,h0,calls',rfl,hc⟩:=H.place ht.1 hg (by simp);have:=ht.2 b2 δ S2 hρ;subst this;subst h0;obtain⟨r1,r2,r3⟩:=H.setObj (E:=E) (o:=.deferred none) (x:=.deferred none) hρ cL (by intro c e f h;cases h) ⟨rfl,rfl⟩;have bj:(getObj b').run E.P w=.ok (.deferred (some calls')) w:=by simp[getObj,Sem.run,cL]
        have ay:(Instr.takeDeferred b').run E.P w=.ok calls' {w with heap:=w.heap.setIfInBounds b' (.deferred none)}:=by
         simp only[Instr.takeDeferred,Sem.run_bind,bj,Result.andThen_ok,r1,Sem.run_pure]
        refine⟨_,.one (step_collected gf rfl ay),?_⟩;exact top_of r2 (v0t an r3.1) ao bQ cu aB (hc.append j8) (S.mono (.refl M) fun i hi=>r3.all i (v0p hi an))
      cases hx
     split at hx
     · rename_i f args hinv
       split at hx
       · rename_i fr bI;cases hx;obtain⟨fv,cap,jj⟩:=Q48 hinv;obtain⟨ad,nB,hv⟩:=Kv (E:=E) H hd hinv;obtain⟨t,a⟩:=d;obtain⟨t',a'⟩:=d';simp only at jj;subst jj;have kI:=hd.1;cases t'<;>simp only[TgRel]at kI
         refine⟨_,.one (step_defer (fr:=⟨fn,tmps,todo',_::oC,cC,kd,ro'⟩) gf rfl rfl nB),M,h.n,_,_::cs',w,rfl,H,v0b _,J1 hv bI h _,lo,an,⟨rfl,rfl,aB,j8,bQ,?_⟩,S⟩;cases md with
         |run=>exact absurd rfl ao
         |returning=>exact cu
         |panicking c=>exact cu
       cases hx
     cases hx
 | nil =>
   cases df' with
   |cons d' oC=>exact aU.elim
   | nil =>
     simp only[Q0C]at hx;cases md with
     |run=>exact absurd rfl ao
     | panicking chain=>
       cases cC<;>simp only[MdRel]at bQ
       rename_i chain';simp only at hx
       split at hx
       · rename_i c rest f hf;cases cs' with
         |nil=>exact S.elim
         | cons c' ba=>
           obtain⟨iL,g1,g2,g3⟩:=S
           split at hx
           · rename_i c2 hr;cases hx;refine⟨_,.one (step_leave_panicked (chain:=chain') ⟨rfl,rfl,f,E.hfn fn f hf⟩),M,iL,_,ba,w,rfl,H,v0t g1 an,Q4Z g2 bQ hr h iL,g3⟩
           cases hx
       cases hx
     | returning=>
       cases cC<;>simp only[MdRel]at bQ
       simp only at hx
       split at hx
       · cases hx
       rename_i c rest
       split at hx
       · rename_i f hf
         split at hx
         · rename_i vs mA;obtain⟨v',hr,hv⟩:=Kt H hf mA cu;cases cs' with
           |nil=>exact S.elim
           | cons c' ba=>
             obtain⟨iL,g1,g2,g3⟩:=S;have hP:=E.hfn fn f hf;cases kd with
             | normal=>
               simp only[YH]at hx
               split at hx
               · rename_i c2 hfin;cases hx;exact⟨_,.one (step_leave_returned (v:=v') ⟨rfl,rfl,rfl,f,hP,hr⟩),M,iL,_,ba,w,rfl,H,v0t g1 an,ZQ g2 hv hfin an,g3⟩
               cases hx
             | deferred=>
               obtain⟨dS,rfl,ht⟩:=Q8k g2 an hx;exact⟨_,.one (step_going_returned (v:=v') rfl ⟨rfl,rfl,f,hP,hr⟩),M,iL,_,ba,w,rfl,H,v0t g1 an,ht,g3⟩
             |_=>simp only[YH]at hx;cases hx
         cases hx
       cases hx
theorem Q7g [hB:FactX (B W.heap.size->E.q=true)] (hm:E.P.follows .mixedOrders=true) {s:St} {m:Machine} (hx:stepX E s=some s') (R:Sim W B E aO s m): ∃m',Steps E.P m m'/\Sim W B E aO s' m':=by
 obtain⟨M,lo,aw,cs',w,rfl,H,an,T,S⟩:=R;obtain⟨⟨fn,nt,tm,todo,df,md,kd,ro⟩,cs,h⟩:=s;obtain⟨gA,tmps,todo',df',cC,iM,ro'⟩:=aw;obtain⟨h1,h2,h3,h4,h5,h6⟩:=T;simp only at h1 h2 h3 h4 h5 h6 H an S;subst h1;subst h2;cases md with
 | run=>
   cases cC<;>simp only[MdRel]at h5
   exact QcW hm H an h3 h4 S h6 hx
 |returning=>exact Q2U H an (by simp) h5 h6 h3 h4 S hx
 |panicking c=>exact Q2U H an (by simp) h5 h6 h3 h4 S hx
theorem Q9q [hB:FactX (B W.heap.size->E.q=true)] (hm:E.P.follows .mixedOrders=true): ∀(n:Nat) {s:St} {m:Machine},Sim W B E aO s m-> ∃m',Steps E.P m m'/\Sim W B E aO (Q7q E n s) m'
 |0,s,m,R=>⟨m,.refl _ _,R⟩
 | n+1,s,m,R=>by
   rw[KP]
   split
   · rename_i s' hx;obtain⟨m1,S1,R1⟩:=Q7g hm hx R;obtain⟨m2,S2,R2⟩:=Q9q hm n R1;exact⟨m2,S1.trans S2,R2⟩
   exact⟨m,.refl _ _,R⟩
end
def Mp.none:Mp:=⟨fun _=>Option.none,fun i=>i<=255,fun _=>0⟩
theorem HRel.start (w:World):HRel w (fun _=>False) Mp.none Hp.empty w:=by
 refine⟨fun i b δ S hi=>by simp[Mp.none]at hi,fun i j b δ S δ' S' hi=>by simp[Mp.none]at hi,fun i hi=>by have:i<=255:=hi;show i <256;omega,fun i hi=>Hp.get_empty i,fun i hi _=>.inl (Hp.get_empty i),rfl,⟨rfl,fun _=>v0b _⟩,rfl,v0b _,fun b _ _=>rfl,fun i b δ S hi=>by simp[Mp.none]at hi,fun i h2=>⟨h2,fun b δ S h=>by simp[Mp.none]at h⟩⟩
theorem Q8p (E:Env) (hm:E.P.follows .mixedOrders=true) {f:FuncId} {n:Nat} {args:List Value} {ad:Array Value} {M0:Mp} {h0:Hp} {w:World} {s0:St}
 {v0:Value} (bM:ZB 20 v0=true) {B:Nat->Prop} [hB:FactX (B w.heap.size->E.q=true)] (hBo: ∀b,b <w.heap.size-> ¬B b) (H0:HRel w B M0 h0 w) (hv:VsRel M0 args ad.toList) (hs:Jp E f args h0=some s0) (he:QbG E f (Q7q E n s0)=some v0):
 Calls E.P f ad w fun e w'=>e=.returned v0/\w'.os=w.os/\w'.tape=w.tape/\w'.output=w.output/\w.heap.size<=w'.heap.size/\(∀b,b <w.heap.size->w'.heap[b]?=w.heap[b]?)/\(B w.heap.size->w.drawn<=w'.drawn):=by
 intro aO;unfold Jp at hs
 split at hs
 · rename_i fr bI;cases hs
   have R0:Sim w B E aO ⟨fr,[],h0⟩ (lone (Frame.enter E.P f ad .normal) aO w):=
    ⟨M0,0,_,aO,w,rfl,H0,Nat.zero_le _,J1 (args:=args.toArray) (by simpa using hv) (by simpa using bI) h0 0,rfl⟩
   obtain⟨m',St,M,lo,aw,cs',w',rfl,H,an,T,S⟩:=Q9q hm n R0;generalize Q7q E n ⟨fr,[],h0⟩=s at he H T S an;unfold QbG at he
   split at he
   · rename_i fn nt tm todo ro h;cases hfn:v0d fn f with
     |false=>rw[hfn,cond_false]at he;cases he
     | true=>
       rw[hfn,cond_true]at he;have e:=(Qz _ _).1 hfn;subst e
       split at he
       · rename_i fu cG
         split at he
         · rename_i vs mA;obtain⟨gA,tmps,todo',df',cC,iM,ro'⟩:=aw;obtain⟨h1,h2,h3,h4,h5,h6⟩:=T;simp only at h1 h2 h3 h4 h5 h6 H S;subst h1;subst h2;cases cC<;>simp only[MdRel]at h5
           cases df' with
           |cons d l=>exact h4.elim
           | nil=>
             obtain⟨v',hr,hv⟩:=Kt H cG mA h6
             have jh:v'=v0:=by
              have fj:oneOf vs=v0:=v0h.inj he;rw[fj]at hv;exact Q1y 20 bM hv
             subst jh;have bS:cs'=aO:=S;subst bS;exact⟨.returned v',w',_,⟨rfl,H.os,H.tape.1,H.output,H.size,fun b hb=>H.old b hb (hBo b hb),H.tape.2⟩,St,rfl,rfl,rfl,rfl,fu,E.hfn _ fu cG,hr⟩
         cases he
       cases he
   cases he
 cases hs
theorem Q9s (E:Env) (hm:E.P.follows .mixedOrders=true) {f:FuncId} {n:Nat} {args:List Value} {ad:Array Value} {M0:Mp} {h0:Hp} {w:World} {s0:St}
 {v0:Value} (bM:ZB 20 v0=true) (H0:HRel w (fun _=>False) M0 h0 w) (hv:VsRel M0 args ad.toList) (hs:Jp E f args h0=some s0) (he:QbG E f (Q7q E n s0)=some v0):
 Calls E.P f ad w fun e w'=>e=.returned v0/\w'.os=w.os/\w'.tape=w.tape/\w'.output=w.output/\w.heap.size<=w'.heap.size/\ ∀b,b <w.heap.size->w'.heap[b]?=w.heap[b]?:=
 haveI:FactX ((fun _:Nat=>False) w.heap.size->E.q=true):=⟨fun h=>h.elim⟩
 (Q8p E hm bM (fun _ _ h=>h) H0 hv hs he).mono fun _ _ ⟨h1,h2,h3,h4,h5,h6,_⟩=>⟨h1,h2,h3,h4,h5,h6⟩
theorem Q5X (E:Env) (hm:E.P.follows .mixedOrders=true) {f:FuncId} {n:Nat} {v:Value} (ht:Q7a E f n=some v) (hp:ZB 20 v=true) (w:World):
 Calls E.P f #[] w fun e w'=>e=.returned v/\w'.os=w.os/\w'.tape=w.tape/\w'.output=w.output/\w.heap.size<=w'.heap.size/\ ∀b,b <w.heap.size->w'.heap[b]?=w.heap[b]?:=by
 unfold Q7a at ht
 split at ht
 · rename_i s hs;exact Q9s E hm hp (HRel.start w) (.nil _) hs ht
 cases ht
theorem Q5Z {E:Env} {f:FuncId} {n:Nat} (ht:Q4F E f n=true):Q7a E f n=some (.bool true):=by
 unfold Q4F at ht;unfold Q7a
 split at ht
 · rename_i s hs
   split at ht
   · rename_i b cU;subst ht;exact cU
   cases ht
 cases ht
theorem Q60 (E:Env) (hm:E.P.follows .mixedOrders=true) {f:FuncId} {n:Nat} (ht:Q4F E f n=true) (w:World):
 Calls E.P f #[] w fun e w'=>e=.returned (.bool true)/\w'.os=w.os/\w'.tape=w.tape/\w'.output=w.output/\w.heap.size<=w'.heap.size/\ ∀b,b <w.heap.size->w'.heap[b]?=w.heap[b]?:=
 Q5X E hm (Q5Z ht) rfl w
theorem Q8q {E:Env} {s:St} (h:stepX E s=none): ∀n,Q7q E n s=s
 |0=>rfl
 |n+1=>by simp[KP,h]
theorem Q7p {E:Env}: ∀(a b:Nat) (s:St),Q7q E (a+b) s=Q7q E b (Q7q E a s)
 |0,b,s=>by simp[Q1Y]
 | a+1,b,s=>by
   rw[show a+1+b=(a+b)+1 by omega];simp only[KP];cases h:stepX E s with
   |some s'=>exact Q7p a b s'
   |none=>exact(Q8q h b).symm
def Runs (E:Env) (s s':St):Prop:= ∃n,Q7q E n s=s'
theorem Runs.refl (E:Env) (s:St):Runs E s s:=⟨0,rfl⟩
theorem Runs.trans {E:Env} {a b c:St}:Runs E a b->Runs E b c->Runs E a c
 | ⟨n,h⟩,⟨m,k⟩=>⟨n+m,by rw[Q7p,h,k]⟩
theorem Runs.step {E:Env} {a b c:St} (h:stepX E a=some b) (k:Runs E b c):Runs E a c:=
 Runs.trans ⟨1,by simp[KP,Q1Y,h]⟩ k
open Go.ChangeShapes Go.WideShapes Go.ChangeAt Go.RowKit
theorem tyOk (P:Program) (t:Nat) (i:TypeInfo) (h:P.types[t]?=some i):P.info? t=some i:=by
 have ht:t <P.types.size:=by
  rcases Nat.lt_or_ge t P.types.size with h1|h1
  · exact h1
  simp[v16 h1]at h
 simp[Tables.info?,ht,<-h]
def envOf (P:Program):Env:= {P,ty:=fun t=>P.types[t]?,fn:=fun f=>P.funcs[f]?,hty:=tyOk P,hfn:=fun _ _ h=>h,ext:=fun _=>false,hext:=fun _ h=>absurd h (by simp),orc:=fun _=>none,horc:=fun _ _ h=>absurd h (by simp),sm:=fun _=>none,hsm:=fun _ _ h=>absurd h (by simp),q:=true,hq:=fun _ _=>⟨rfl,rfl⟩}
def QcZ (P:Program) (g:Nat) (fn:Func) (h1:P.funcs[g]?=some fn) (h2:(fn.name== "runtime.NumGoroutine")=false) (h3:fn.body.isNone=true) (h4:Extern.findNext fn=none)
    (h5:Extern.find fn=some Extern.MapsClone.clone):Env:=
 {envOf P with ext:=fun f=>v0d f g,hext:=fun f h=>⟨fn,(Qz f g).1 h▸h1,h2,h3,h4,h5⟩}
theorem Q61 (E:Env) (hm:E.P.follows .mixedOrders=true) {f:FuncId} {n:Nat} (ht:Q4F E f n=true) (w:World):
 Calls E.P f #[] w fun e w'=>e=.returned (.bool true)/\Below w.heap.size w w':=
 (Q60 E hm ht w).mono fun _ _ ⟨h1,h2,h3,h4,h5,h6⟩=>⟨h1,⟨h2,h3,h4,h5,h6⟩⟩
theorem Qag {E:Env} {g:Nat} {v0:Value} (hp:ZB 20 v0=true) (h: ∀w,Calls E.P g #[] w fun e w'=>e=.returned v0/\Below w.heap.size w w') (f:Nat) (v:Value)
 (hf:cond (v0d f g) (some v0) (E.orc f)=some v):ZB 20 v=true/\ ∀w,Calls E.P f #[] w fun e w'=>e=.returned v/\Below w.heap.size w w':=by
 cases hx:v0d f g with
 | true=>
   have e:=(Qz f g).1 hx;subst e;rw[hx,cond_true,v0h.injEq]at hf;subst hf;exact⟨hp,h⟩
 | false=>
   rw[hx,cond_false]at hf;exact E.horc f v hf
def envValue (E:Env) (g:Nat) (v0:Value) (hp:ZB 20 v0=true) (h: ∀w,Calls E.P g #[] w fun e w'=>e=.returned v0/\Below w.heap.size w w'):Env:=
 {E with orc:=fun f=>cond (v0d f g) (some v0) (E.orc f),horc:=Qag hp h,q:=false,hq:=fun h=>by cases h}
def QcY (E:Env) (g:Nat) (h: ∀w,Calls E.P g #[] w fun e w'=>e=.returned (.bool true)/\Below w.heap.size w w'):Env:=envValue E g (.bool true) rfl h
section
variable {W:World} {B:Nat->Prop} {M:Mp} {h:Hp} {w:World}
end
end Go.X
