/- The calculus of memory and steps, part Xb. Conditions: none. -/
import Derived.Test.YtljpajcmdjmeaaaGreatXa
import Derived.AtR
import Derived.RangeFuncIn
import Derived.Defers
import Derived.Below
import Derived.ProofKit
set_option maxHeartbeats 16000000
open List renaming length_cons → v1f, getElem?_cons_succ → v1r, getElem?_eq_some_iff → v0z, all_eq_true → v0v, getElem_mem → v0M, append_assoc → v0B, getElem?_append_right → v0Z, getElem?_append_left → v0C, ext_getElem? → v09, getElem?_map → v0y, mem_of_getElem? → v0m, length_map → v0s, nodup_cons → v0W, mem_cons → v0w, getElem?_eq_getElem → v0c, mem_range → v1e
open Nat renaming le_refl → v0b, add_zero → v1z, beq → v0d, mul_le_mul_right → v05, add_mul → v1a, zero_add → v0f, le_trans → v0p, beq_refl → v0N, lt_of_lt_of_le → v0u
open Int renaming toNat_natCast → v0e
open Bool renaming and_eq_true → v0h, not_eq_true' → v0I, and_eq_false_iff → v19, false_eq_true → v1Y, or_eq_true → v0H
open Option renaming map_eq_some_iff → v1W, some → v0i
open Array renaming getElem?_modify → v2i, getElem?_setIfInBounds_ne → v1X, toList_map → v1I, getElem?_toList → v1J, getElem?_eq_some_iff → v0X, toList_append → v2k, toList_inj → v1Z, replicate → v1V, getElem?_push → v2u, getElem?_eq_none → v2f, mem_toList_iff → v16, mem_of_getElem? → v2a
namespace Go.X
variable {E:Env}
theorem Ku (b:Nat): ∀(vs:List Value) (o:Nat) (w:World) (c:Array Value) (e:TypeId) (fr:Nat×Nat),w.heap[b]?=some (.cells c e fr)->o+vs.length<=c.size->
 ∃ c',(w.setCells b o vs).heap[b]?=some (.cells c' e fr)/\c'.size=c.size/\(∀k,c'[k]?=if o<=k/\k <o+vs.length then vs[k -o]? else c[k]?)/\
   (∀k,k≠b->(w.setCells b o vs).heap[k]?=w.heap[k]?)/\(w.setCells b o vs).heap.size=w.heap.size/\
   (w.setCells b o vs).os=w.os/\((w.setCells b o vs).tape=w.tape/\w.drawn<=(w.setCells b o vs).drawn)/\(w.setCells b o vs).output=w.output
 | [],o,w,c,e,fr,h,_=>⟨c,h,rfl,fun k=>by rw[if_neg (by simp only[List.length_nil];omega)],fun _ _=>rfl,rfl,rfl,⟨rfl,v0b _⟩,rfl⟩
 | v ::r,o,w,c,e,fr,h,hle=>by
   have hle':o+(r.length+1)<=c.size:=by simpa using hle
   have h1:(w.setCell ⟨b,o,none⟩ v).heap[b]?=some (.cells (c.setIfInBounds o v) e fr):=by
    simp[World.setCell,v2i,h]
   obtain⟨c',p1,p2,p3,p4,p5,p6,p7,p8⟩:=Ku b r (o+1) _ _ e fr h1 (by simp;omega);refine⟨c',p1,by rw[p2];simp,fun k=>?_,fun k hk=>?_,?_,p6,p7,p8⟩
   · rw[p3];by_cases e1:k=o
     · subst e1;rw[if_neg (by omega),if_pos (by simp only[v1f];omega)];have:k <c.size:=by omega
       simp[this]
     by_cases e2:o+1<=k/\k <o+1+r.length
     · rw[if_pos e2,if_pos (by simp only[v1f];omega)];have:k -o=(k - (o+1))+1:=by omega
       rw[this,v1r]
     rw[if_neg e2,if_neg (by simp only[v1f];omega)];rw[v1X (fun h0=>e1 h0.symm)]
   · rw[World.setCells,p4 k hk];simp only[World.setCell,v2i];rw[if_neg (fun h0=>hk h0.symm)]
   rw[World.setCells,p5];simp[World.setCell]
theorem Q63 {v v':Value} {M:Mp} (h:cellV v=true) (hv:VRel M v v'):v'.oneCell'=true:=by
 cases hv with
 |junk hc=>cases v'<;>first|rfl|exact hc.elim
 |_=>first|rfl|(simp[cellV]at h)
section
variable {W:World} {B:Nat->Prop} {M:Mp} {h:Hp} {w:World} (H:HRel W B M h w)
include H
theorem K0 {a a':Addr} {l l':List Value} {h':Hp} (ha:AddrRel M a a') (hl:VsRel M l l') (hv:l.all cellV=true) (hr:Zp h a l=some h'):
 ∃w',(storeCells a' l').run E.P w=.ok () w'/\HRel W B M h' w'/\Keep M h M h' (fun _=>False)/\w'=w.setCells a'.block a'.off l':=by
 unfold Zp at hr;cases hs:a.spot with
 |some _=>rw[hs]at hr;cases hr
 | none=>
   rw[hs]at hr;simp only at hr
   split at hr
   case h_2=>cases hr
   rename_i c e m hg;obtain⟨hc,hr⟩:=Qh hr;simp only[v0h,v0I,Qy,QC]at hc;cases hr
   have eU: ¬RO h a.block:=fun⟨c1,e1,h1⟩=>by
    rw[hg]at h1;cases h1;exact hc.1 rfl
   obtain⟨b,δ,S,x,hρ,hx,c',fr,rfl,hS,jw,cx,hm⟩:=H.place ha.1 hg (by simp);have ea:=ha.2 b δ S hρ;rw[hs]at ea;subst ea;have hlen:l'.length=l.length:=hl.1.symm
   have cj: ∀k,k <c'.size-> ¬(fr.1<=k/\k <fr.2):=by
    rcases hm with⟨_,_,_,_,h5⟩| ⟨h1,_⟩| ⟨_,h1⟩
    · subst h5;intro k _;simp
    · exact absurd h1 hc.1
    rw[hS]at h1;exact h1
   have aW: ∀j,j <l'.length->(w.cell? ⟨b,δ+a.off+0+j,none⟩).isSome=true:=by
    intro j hj;have:δ+a.off+j <c'.size:=by omega
    simp[World.cell?,hx,this]
   have nP: ∀j,j <l'.length->w.frozen? ⟨b,δ+a.off+0+j,none⟩=false:=by
    intro j hj;have:=cj (δ+a.off+j) (by omega);simp only[World.frozen?,hx,v1z];obtain⟨lo,hi⟩:=fr;simp only at this ⊢;rw[v19];simp only[decide_eq_false_iff_not];omega
   have ig: ∀v∈l',v.oneCell'=true:=by
    intro v hvm;obtain⟨i,hi⟩:=List.getElem?_of_mem hvm;have aj:i <l.length:=by have:=(v0z.1 hi).1;omega
    have hu:l[i]?=some l[i]:=by simp[aj]
    exact Q63 (v0v.1 hv _ (v0M aj)) (hl.2 i _ _ hu hi)
   have run:=run_storeCells_cells (P:=E.P) b (δ+a.off) l' 0 w aW nP ig;rw[v1z]at run;obtain⟨c2,p1,p2,p3,p4,p5,p6,p7,p8⟩:=Ku b l' (δ+a.off) w c' e fr hx (by omega);refine⟨_,run,?_,?_,rfl⟩
   · refine H.put hρ eU p6 p7 p8 p5 p1 p4 ⟨c2,fr,rfl,by omega,?_,?_,?_⟩
     · simp;omega
     · intro j v hj;rw[p3];by_cases aG:a.off<=j/\j <a.off+l.length
       · rw[if_pos (by omega)]
         have:(c.take a.off++l++c.drop (a.off+l.length))[j]?=l[j -a.off]?:=by
          have e1:(c.take a.off).length=a.off:=by simp;omega
          rw[v0B,v0Z (by omega),e1,v0C (by omega)]
         rw[this]at hj;have aj:j -a.off <l'.length:=by omega
         refine⟨l'[j -a.off],?_,hl.2 _ _ _ hj (by simp[aj])⟩;have:δ+j - (δ+a.off)=j -a.off:=by omega
         rw[this];simp[aj]
       rw[if_neg (by omega)]
       have:(c.take a.off++l++c.drop (a.off+l.length))[j]?=c[j]?:=by
        have e1:(c.take a.off).length=a.off:=by simp;omega
        rw[v0B];by_cases h1:j <a.off
        · rw[v0C (by omega),List.getElem?_take,if_pos h1]
        rw[v0Z (by omega),e1,v0Z (by omega),List.getElem?_drop]
        congr 1;omega
       rw[this]at hj;exact cx j v hj
     have fl:(c.take a.off++l++c.drop (a.off+l.length)).length=c.length:=by simp;omega
     rw[fl];exact hm
   refine⟨by rw[Hp.n_put];exact v0b _,fun i hi hk _=>⟨hk,?_⟩⟩;have:a.block≠i:=fun e=>hk (e▸ha.1);rw[Hp.get_put,if_neg this]
theorem Q4T {t:TypeId} {a a':Addr} {v v':Value} {h':Hp} (ha:AddrRel M a a') (hv:VRel M v v') (hr:Q1V E t a v h=some h'):
 ∃w',(storeVar t a' v').run E.P w=.ok () w'/\HRel W B M h' w'/\Keep M h M h' (fun _=>False):=by
 unfold Q1V at hr
 split at hr
 · rename_i n hz;obtain⟨hc,hr⟩:=Qh hr;simp only[v0h,QF]at hc;obtain⟨w',r,H',K',_⟩:=K0 (E:=E) H ha hv.cells hc.2 hr;have cO:v'.cells.size=n:=by have:=hv.cells.1;simp at this;omega
   exact⟨w',by simp[storeVar,QI hz,cO,r],H',K'⟩
 cases hr
end
theorem Q8F (l:List Value) (n:Nat):(Qi l n).length=n*l.length:=by
 induction n with
 |zero=>simp[Qi]
 |succ n ih=>simp[Qi,ih,Nat.succ_mul,Nat.add_comm]
theorem Q8G (l:List Value) (_hl:0 <l.length): ∀(n i:Nat),i <n*l.length->(Qi l n)[i]?=l[i%l.length]?:=by
 intro n
 induction n with
 |zero=>intro i hi;simp at hi
 | succ n ih=>
   intro i hi;rw[Nat.succ_mul]at hi;unfold Qi;by_cases h:i <l.length
   · rw[v0C h,Nat.mod_eq_of_lt h]
   rw[v0Z (by omega),ih _ (by omega)]
   congr 1
   rw[<-Nat.mod_eq_sub_mod (by omega)]
theorem Q35 {M:Mp} {l:List Value} (h:VsRel M l l) (n:Nat):VsRel M (Qi l n) (Qi l n):=by
 induction n with
 |zero=>exact .nil M
 |succ n ih=>exact .append h ih
theorem Q58 (z:Array Value) (hz:0 <z.size) (n:Nat):((Array.range (n*z.size)).map (fun i=>z[i%z.size]!))=(Qi z.toList n).toArray:=by
 apply Array.ext';apply v09;intro i;simp only[v1I,Array.toList_range,v0y];by_cases h:i <n*z.size
 · rw[Q8G _ (by simpa using hz) n i (by simpa using h)];have:i%z.size <z.size:=Nat.mod_lt _ hz;simp[h,this]
 have h1:(List.range (n*z.size))[i]?=none:=by simp;omega
 have h2:(Qi z.toList n)[i]?=none:=by
  rw[List.getElem?_eq_none_iff,Q8F];simp;omega
 rw[h1,h2];rfl
theorem YU {M:Mp} {i b:Nat} {cs cs':Array Value} {e:TypeId} (hi: ¬M.K i) (hv:VsRel M cs.toList cs'.toList):
 ORel (M.add i b 0 cs'.size 0) i (YA cs e) 0 cs'.size (.cells cs' e):=by
 have he:=Mp.add_ev M i b 0 cs'.size 0 hi;have hl:=hv.1;refine⟨cs',(0,0),rfl,rfl,by simp at hl;simp;omega,fun j v hj=>?_,.inl ⟨rfl,by simp[Mp.add],rfl,by simp at hl;simp;omega,rfl⟩⟩
 have aj:j <cs'.size:=by
  have:=(v0z.1 hj).1;simp at hl this;omega
 refine⟨cs'[j],by simp[aj],(hv.2 j v _ hj (by simp[aj])).mono he⟩
theorem Q1p {M:Mp} {w:World} {tm:Tr Value} {ρ:Operand->Value} {o:Oper} {b:AObj} {f:Nat->Value} (hE: ∀x∈o.op.operands,VRel M (ev tm x) (ρ x)) (hr:allocX E tm o=some (b,f)):
 ∃ x S v',(execOp ρ o).run E.P w=.ok (.value v') {w with heap:=w.heap.push x}/\
   ∀i,¬M.K i->ORel (M.add i w.heap.size 0 S 0) i b 0 S x/\VRel (M.add i w.heap.size 0 S 0) (f i) v':=by
 obtain⟨dst,op,type,pos,after,guard⟩:=o;simp only at hE
 have ptr: ∀(M:Mp) i n S,VRel (M.add i n 0 S 0) (ptrTo i) (.pointer (some ⟨n,0,none⟩)):=fun M i n S=>
  .ptr ⟨.inl rfl,fun b δ S' hb=>by simp[Mp.add]at hb;obtain⟨rfl,rfl,_⟩:=hb;rfl⟩
 have slc: ∀(M:Mp) i n S l c,VRel (M.add i n 0 S 0) (.slice (some ⟨i,0,none⟩) l c) (.slice (some ⟨n,0,none⟩) l c):=fun M i n S l c=>
  .sl ⟨.inl rfl,fun b δ S' hb=>by simp[Mp.add]at hb;obtain⟨rfl,rfl,_⟩:=hb;exact .inl ⟨by simp[Mp.add],rfl,rfl⟩⟩
 cases op<;>simp only[allocX]at hr<;>simp only[Op.operands]at hE
 case alloc e=>
  split at hr
  · rename_i z hz;cases hr;refine⟨.cells z.cells e,z.cells.size,.pointer (some ⟨w.heap.size,0,none⟩),?_,fun i hi=>⟨YU hi (ZY hz M).cells,ptr _ _ _ _⟩⟩;simp[execOp,Instr.alloc,Y2 hz,newVar,newRow]
  cases hr
 case box e x=>
  cases hr;have hx:=hE x (by simp);refine⟨.cells (ρ x).cells e,(ρ x).cells.size,.pointer (some ⟨w.heap.size,0,none⟩),?_,fun i hi=>⟨YU hi hx.cells,ptr _ _ _ _⟩⟩;simp[execOp,Instr.box,newVar,newRow]
 case buildSlice t n ps=>
  split at hr
  · rename_i e hu
    split at hr
    · rename_i z zv hz gL;obtain⟨hc,hr⟩:=Qh hr;simp only[v0h,Qy,QF]at hc
      split at hr
      · rename_i cs hf;cases hr
        have lZ: ∀(i:Nat) (a b:Nat×Value),(ps.toList.map fun(i,x)=>(i,ev tm x))[i]?=some a->(ps.toList.map fun(i,x)=>(i,ρ x))[i]?=some b->a.1=b.1/\VRel M a.2 b.2:=by
         intro i a b ha hb;simp only[v0y,v1W]at ha hb;obtain⟨p,hp,rfl⟩:=ha;obtain⟨p',fh,rfl⟩:=hb;rw[hp]at fh;cases fh;refine⟨rfl,hE p.2 ?_⟩;simp only[List.mem_toArray,List.mem_map];exact⟨p,v0m hp,rfl⟩
        have fC:=Q35 (ZY gL M).cells n;obtain⟨cs',dp,hv⟩:=Q4o _ _ _ _ _ _ (by simp) lZ (by simpa using fC) hf;refine⟨.cells cs' e,cs'.size,.slice (some ⟨w.heap.size,0,none⟩) n n,?_,fun i hi=>⟨YU hi hv,slc _ _ _ _ _ _⟩⟩;have e1:(ps.map fun(p:Nat×Operand)=>(p.1,ρ p.2)).toList=(ps.toList.map fun(i,x)=>(i,ρ x)):=by simp
        rw[<-e1]at dp;have hb:Instr.buildSlice t n (ps.map fun(p:Nat×Operand)=>(p.1,ρ p.2))=Instr.buildSlice t n (ps.map fun(p:Nat×Operand)=>(p.1,ρ p.2)):=rfl
        have run:(Instr.buildSlice t n (ps.map fun(p:Nat×Operand)=>(p.1,ρ p.2))).run E.P w=.ok (.slice (some ⟨w.heap.size,0,none⟩) n n) {w with heap:=w.heap.push (.cells cs' e)}:=by
         have hle: ¬n*(z+1)>2^24:=by omega
         by_cases hn:n=0
         · subst hn;simp only[Qi]at dp;simp only[Instr.buildSlice,Sem.run_bind,Qf hu w,Result.andThen_ok,QI hz];simp only[Nat.zero_mul,if_true];rw[if_neg (by simp)];have kR:(Array.range 0).map (fun i=>((#[]:Array Value)[i%(#[]:Array Value).size]!))=⟨[]⟩:=by simp
           simp only[Sem.run_bind,Sem.run_pure,Result.andThen_ok,kR,dp];simp[newRow]
         have h0: ¬n*(z+1)=0:=by
          intro h0;rcases Nat.mul_eq_zero.1 h0 with h1|h1
          · exact hn h1
          omega
         have mY:=Q58 zv.cells (by omega) n;rw[hc.2]at mY;simp only[Instr.buildSlice,Sem.run_bind,Qf hu w,Result.andThen_ok,QI hz];rw[if_neg hle];simp only[Sem.run_bind,if_neg h0,Y2 gL,Sem.run_pure,Result.andThen_ok,hc.2,mY,dp];simp[newRow]
        have:execOp ρ ⟨dst,.buildSlice t n ps,type,pos,after,guard⟩=(do pure (.value (<-Instr.buildSlice t n (ps.map fun(p:Nat×Operand)=>(p.1,ρ p.2))))):=rfl;rw[this,Sem.run_bind,run];rfl
      cases hr
    cases hr
  cases hr
 case makeMap t r=>
  have mapR: ∀i,¬M.K i->ORel (M.add i w.heap.size 0 0 0) i (.map [] 0) 0 0 (.map #[] 0)/\VRel (M.add i w.heap.size 0 0 0) (.map (some i)) (.map (some w.heap.size)):=fun i hi=>
   ⟨⟨rfl,#[],rfl,rfl,by intro j a b ha;simp at ha⟩,.map ⟨.inl rfl,fun b δ S hb=>by simp[Mp.add]at hb;exact hb.1⟩⟩
  split at hr
  · cases hr;exact⟨.map #[] 0,0,.map (some w.heap.size),by simp[execOp,Instr.makeMap],mapR⟩
  · rename_i r' k e hu
    split at hr
    · rename_i kk n heq;cases hr;have hx:=hE r' (by simp);rw[heq]at hx;refine⟨.map #[] 0,0,.map (some w.heap.size),?_,mapR⟩;simp only[execOp,Option.map_some];generalize ρ r'=q at hx;cases hx;simp[Instr.makeMap,Qf hu,asInt,asIntOf]
    cases hr
  cases hr
 case makeSlice t l c=>
  split at hr
  · rename_i e l' c' hu hl hc
    split at hr
    · rename_i z zv by' hz gL gI
      obtain⟨cX,hr⟩:=Qh hr;simp only[v0h,Qy,QF]at cX;obtain⟨⟨⟨h1,h2⟩,h3⟩,h4⟩:=cX;cases hr;have fC:=Q35 (ZY gL M).cells c';refine⟨.cells (Qi zv.cells.toList c').toArray e,(Qi zv.cells.toList c').toArray.size,.slice (some ⟨w.heap.size,0,none⟩) l' c',?_,fun i hi=>⟨YU hi (by simpa using fC),slc _ _ _ _ _ _⟩⟩;have hx:=hE l (by simp);have hy:=hE c (by simp);obtain⟨k1,e1⟩:=Yy hl;obtain⟨k2,e2⟩:=Yy hc;rw[e1]at hx;rw[e2]at hy;obtain⟨ti,mK,lD⟩:=Q21 gI
      have run:(Instr.makeSlice t (ρ l) (ρ c)).run E.P w=.ok (.slice (some ⟨w.heap.size,0,none⟩) l' c') {w with heap:=w.heap.push (.cells (Qi zv.cells.toList c').toArray e)}:=by
       generalize ρ l=q1 at hx;generalize ρ c=q2 at hy;cases hx;cases hy;have w1:IntKind.i64.wrap (l':Int)=l':=IntWalk.i64_in _ ⟨by omega,by omega⟩;have w2:IntKind.i64.wrap (c':Int)=c':=IntWalk.i64_in _ ⟨by omega,by omega⟩
       have h5:(by':Int)*(c':Int)<=2^48:=by
        have:((by'*c':Nat):Int)<=((2^47:Nat):Int):=Int.ofNat_le.2 h3;rw[Int.natCast_mul]at this;omega
       have tl: ¬(((c':Int)<0\/(2^48:Int)<(by':Int)*(c':Int))\/(l':Int)<0):=by omega
       simp only[Instr.makeSlice,Sem.run_bind,Qf hu w,Result.andThen_ok,asInt,asIntOf,Sem.run_pure,Kw mK,lD,w1,w2]
       have hif:((decide ((c':Int)<0)||decide ((by':Int)*(c':Int)>2^48))||decide ((l':Int)<0)||decide ((l':Int)>(c':Int)))=false:=by
        simp only[Bool.or_eq_false_iff,decide_eq_false_iff_not];omega
       simp only[hif,v1Y,if_false,Sem.run_bind,run_askRoom,Result.andThen_ok,v0e,QI hz];by_cases hn:c'*(z+1)=0
       · have gV:c'=0:=by
          rcases Nat.mul_eq_zero.1 hn with h0|h0
          · exact h0
          omega
         subst gV
         have kR:(Array.range 0).map (fun(_:Nat)=>(default:Value))= #[]:=by
          apply Array.ext';simp
         simp[newRow,Qi];rw[kR]
       have mY:=Q58 zv.cells (by omega) c';rw[h4]at mY;simp only[if_neg hn,Sem.run_bind,Y2 gL,Sem.run_pure,Result.andThen_ok,h4,mY];simp[newRow]
      have:execOp ρ ⟨dst,.makeSlice t l c,type,pos,after,guard⟩=(do pure (.value (<-Instr.makeSlice t (ρ l) (ρ c)))):=rfl;rw[this,Sem.run_bind,run];rfl
    cases hr
  cases hr
 case makeChan t x=>
  split at hr
  · rename_i dir e n hu hl
    split at hr
    · rename_i by' gI
      obtain⟨cX,hr⟩:=Qh hr;simp only[v0h,Qy]at cX;cases hr;have hx:=hE x (by simp);obtain⟨k,e1⟩:=Yy hl;rw[e1]at hx;obtain⟨ti,mK,lD⟩:=Q21 gI;refine⟨.chan n #[] false 0 0 false,0,.chan (some w.heap.size),?_,fun i hi=>⟨⟨rfl,#[],rfl,.nil _⟩,.chan ⟨.inl rfl,fun b δ S hb=>by simp[Mp.add]at hb;exact hb.1⟩⟩⟩;have hdef:execOp ρ ⟨dst,.makeChan t x,type,pos,after,guard⟩=(do pure (.value (<-Instr.makeChan t (ρ x)))):=rfl;rw[hdef];generalize ρ x=q at hx;cases hx;have h1: ¬(n:Int)<0:=by omega
      have h2: ¬(n:Int)>IntKind.i64.max:=by
       have:IntKind.i64.max=9223372036854775807:=rfl;rw[this];omega
      have h3: ¬(by':Int)*(n:Int)>2^48 -112:=by
       have:((by'*n:Nat):Int)<=((1000000:Nat):Int):=Int.ofNat_le.2 cX.2;rw[Int.natCast_mul]at this;omega
      have hif: ¬((n:Int)<0\/(n:Int)>IntKind.i64.max\/(by':Int)*(n:Int)>2^48 -112):=by
       rintro(h|h|h)
       · exact h1 h
       · exact h2 h
       exact h3 h
      simp only[Instr.makeChan,Sem.run_bind,asInt,asIntOf,Sem.run_pure,Result.andThen_ok,Qf hu w,Kw mK,lD,if_neg hif,v0e];simp
    cases hr
  cases hr
 all_goals cases hr
variable {E:Env}
def QgO (W:World) (B:Nat->Prop) (E:Env) (M:Mp) (h:Hp) (w:World) (n:Nx) (r:Result Next):Prop:=
 match n with
 | .value v h'=> ∃v' w' M',r=.ok (.value v') w'/\Ev M M'/\HRel W B M' h' w'/\Keep M h M' h' (fun _=>False)/\VRel M' v v'
 | .skip h'=> ∃w' M',r=.ok .skip w'/\Ev M M'/\HRel W B M' h' w'/\Keep M h M' h' (fun _=>False)
 | .enter f args=> ∃ad,r=.ok (.enter f ad) w/\VsRel M args.toList ad.toList
 | .round l args=> ∃l' ad,IdRel M l l'/\VsRel M args.toList ad.toList/\r=(Instr.yield l' ad).run E.P w
 | .defer d=> ∃d',r=.ok (.defer d') w/\DRel M d d'
 | .recover=>r=.ok .recover w
 | .panic v=> ∃v',r=.halt (.panic v') w/\VRel M v v'
theorem KO {v:Value} (hv:Y9 v=true) (n:Nat):Instr.sameBits n v v=true:=by
 cases v<;>simp[Y9]at hv<;>(cases n<;>simp[Instr.sameBits,beq_toListBytes])
theorem Q1e {f:Value->Value->Bool}: ∀(l:List Value),(∀v∈l,f v v=true)->(l.zip l).all (fun(x,y)=>f x y)=true
 | [],_=>rfl
 | v::l,h=>by
   simp only[List.zip_cons_cons,List.all_cons,v0h];exact⟨h v (by simp),Q1e l fun u hu=>h u (by simp[hu])⟩
theorem Q53 {kt:TypeId} {k:Value} (hk:Y6 E kt k=true) (n:Nat):Instr.sameBits (n+1) k k=true:=by
 unfold Y6 at hk
 split at hk
 · split at hk
   · rename_i cs;simp only[v0h]at hk;simp only[Instr.sameBits,beq_self_eq_true,Bool.true_and];exact Q1e _ fun v hv=>KO (v0v.1 hk.1 v hv) n
   cases hk
 · rename_i d _ _;refine KO ?_ _;cases d<;>cases k<;>first|(simp[Zz]at hk;done)|rfl
 cases hk
theorem EsRel.modify {M:Mp} {es:List MapEntry} {au:Array MapEntry} {f g:MapEntry->MapEntry} (i:Nat) (h:EsRel M es au.toList)
 (gF: ∀e e',es[i]?=some e->au.toList[i]?=some e'->ERel M (f e) (g e')):EsRel M (es.modify i f) (au.modify i g).toList:=by
 refine⟨by simp[h.1],fun j a b ha hb=>?_⟩;rw[v1J,v2i]at hb;rw[List.getElem?_modify]at ha;by_cases e:i=j
 · subst e;rw[if_pos rfl,v1W]at hb;obtain⟨y,hy,rfl⟩:=hb;cases hx:es[i]? with
   |none=>rw[hx]at ha;cases ha
   | some x=>
     rw[hx]at ha;simp at ha;subst ha;exact gF x y hx (by simpa using hy)
 rw[if_neg e]at hb
 have:es[j]?=some a:=by
  cases hj:es[j]? with
  |none=>rw[hj]at ha;cases ha
  |some q=>rw[hj]at ha;simp[e]at ha;rw[ha]
 exact h.2 j a b this (by simpa using hb)
theorem EsRel.push {M:Mp} {es:List MapEntry} {au:Array MapEntry} {e e':MapEntry} (h:EsRel M es au.toList) (he:ERel M e e'):EsRel M (es++[e]) (au.push e').toList:=by
 refine⟨by simp[h.1],fun j a b ha hb=>?_⟩;rw[Array.toList_push]at hb;by_cases hj:j <es.length
 · rw[v0C hj]at ha;rw[v0C (by rw[<-h.1];exact hj)]at hb;exact h.2 j a b ha hb
 rw[v0Z (by omega)]at ha;rw[v0Z (by rw[<-h.1];omega),<-h.1]at hb;cases hk:j -es.length with
 |zero=>rw[hk]at ha hb;simp at ha hb;subst ha;subst hb;exact he
 |succ n=>rw[hk]at ha;simp at ha
theorem EsRel.erase {M:Mp} {es:List MapEntry} {au:Array MapEntry} (i:Nat) (h:EsRel M es au.toList):EsRel M (es.eraseIdx i) (au.eraseIdxIfInBounds i).toList:=by
 have e1:(au.eraseIdxIfInBounds i).toList=au.toList.eraseIdx i:=by
  simp
 rw[e1];refine⟨by simp[List.length_eraseIdx,h.1],fun j a b ha hb=>?_⟩;rw[List.getElem?_eraseIdx]at ha hb
 split at ha
 · rw[if_pos ‹_›]at hb;exact h.2 j a b ha hb
 rw[if_neg ‹_›]at hb;exact h.2 _ a b ha hb
section
variable {W:World} {B:Nat->Prop} {M:Mp} {h:Hp} {w:World} (H:HRel W B M h w)
include H
theorem HRel.setObj {i b δ S:Nat} {o:AObj} {x x0:Obj} (hρ:M.ρ i=some (b,δ,S)) (cp:w.heap[b]?=some x0) (ik: ∀c e f,x0≠ .cells c e f) (hx:ORel M i o δ S x):
 (setObj b x).run E.P w=.ok () {w with heap:=w.heap.setIfInBounds b x}/\HRel W B M (h.put i o) {w with heap:=w.heap.setIfInBounds b x}/\Keep M h M (h.put i o) (fun _=>False):=by
 have aj:b <w.heap.size:=(v0X.1 cp).1
 have eU: ¬RO h i:=fun⟨c,e,hg⟩=>by
  obtain⟨_,o',x',h1,h2,h3⟩:=H.obj i b δ S hρ;rw[hg]at h1;cases h1;obtain⟨c',fr,hx',_⟩:=h3;rw[cp]at h2;cases h2;exact ik _ _ _ hx'
 refine⟨?_,H.put hρ eU rfl ⟨rfl,v0b _⟩ rfl (by simp) (by simp[aj]) (fun c hc=>by simp[v1X (fun e=>hc e.symm)]) hx,⟨by rw[Hp.n_put];exact v0b _,fun j hj hk _=>⟨hk,?_⟩⟩⟩
 · cases x0<;>first
  |(exact absurd rfl (ik _ _ _))
  |simp[Go.setObj,Sem.run,cp]
 have:i≠j:=fun e=>hk (e▸(H.obj i b δ S hρ).1);rw[Hp.get_put,if_neg this]
theorem Kf {r r':Nat} {es:List MapEntry} {cl:Nat} (hi:IdRel M r r') (hg:h.get r=some (.map es cl)):
 ∃S au,M.ρ r=some (r',0,S)/\w.heap[r']?=some (.map au cl)/\EsRel M es au.toList/\(getObj r').run E.P w=.ok (.map au cl) w:=by
 obtain⟨b,δ,S,x,hρ,hx,h0,au,rfl,he⟩:=H.place hi.1 hg (by simp);have:=hi.2 b δ S hρ;subst this;subst h0;exact⟨S,au,hρ,hx,he,by simp[getObj,Sem.run,hx]⟩
omit H in
theorem Q7Z {kt:TypeId} {k e':Value} (hk:Y6 E kt k=true) (he:VRel M k e'):(Instr.keyThatStays e' k).run E.P w=.ok k w:=by
 have:=Q0g hk he;subst this;simp[Instr.keyThatStays,Q53 hk 9999]
theorem Q0c {t:TypeId} {m k v m' k' v':Value} {h':Hp} (hm:VRel M m m') (hk:VRel M k k') (hv:VRel M v v') (hr:Ky E h t m k v=some h'):
 ∃w',(Instr.mapUpdate t m' k' v').run E.P w=.ok () w'/\HRel W B M h' w'/\Keep M h M h' (fun _=>False):=by
 unfold Ky at hr
 split at hr
 · rename_i kt et r hu;cases hm with
   |map hi=>
   rename_i r'
   split at hr
   · rename_i es cl hg;obtain⟨S,au,hρ,hx,he,gE⟩:=Kf (E:=E) H hi hg;obtain⟨aw,hr⟩:=Qh hr;have ek:=Q0g aw hk;subst ek;have fW:(Instr.checkKey false 10000 kt k').run E.P w=.ok () w:=YM aw;have br:=Qf hu w
     split at hr
     · rename_i i v0 hf;cases hr;obtain⟨r2,cU,hc⟩:=ZB (E:=E) H aw hk he hf;rcases hc with⟨h1,_⟩| ⟨j,e,e',h1,h2,h3,h4,h5,h6⟩
       · cases h1
       cases h1;subst h2;have nC:(Instr.keyThatStays e'.key k').run E.P w=.ok k' w:=Q7Z aw (by have:=h5.1;rw[h6]at this;exact this);have h4':au[i]?=some e':=by simpa using h4
       obtain⟨p1,p2,p3⟩:=HRel.setObj (E:=E) H (o:=.map (es.modify i fun e=> {e with key:=k',val:=v}) cl) (x:=.map (au.modify i fun e=> {e with key:=k',val:=v'}) cl) hρ hx (by intro c e f hh;cases hh)
        ⟨rfl,_,rfl,he.modify i fun a b ha hb=>⟨hk,hv,(he.2 i a b ha hb).2.2⟩⟩
       exact⟨_,by simp[Instr.mapUpdate,br,gE,fW,cU,h4',nC,p1],p2,p3⟩
     · rename_i hf;cases hr;obtain⟨r2,cU,hc⟩:=ZB (E:=E) H aw hk he hf;rcases hc with⟨_,rfl⟩| ⟨j,e,e',h1,_⟩
       · obtain⟨p1,p2,p3⟩:=HRel.setObj (E:=E) H (o:=.map (es++[{key:=k',val:=v,born:=cl}]) (cl+1)) (x:=.map (au.push {key:=k',val:=v',born:=cl}) (cl+1)) hρ hx (by intro c e f hh;cases hh)
          ⟨rfl,_,rfl,he.push ⟨hk,hv,rfl⟩⟩
         exact⟨_,by simp[Instr.mapUpdate,br,gE,fW,cU,p1],p2,p3⟩
       cases h1
     cases hr
   cases hr
 cases hr
theorem Q2h {t:TypeId} {m k v m' k':Value} {h':Hp} (hm:VRel M m m') (hk:VRel M k k') (hr:Kg E h t m k=some (v,h')):
 ∃v' w',(Instr.mapEntry t m' k').run E.P w=.ok v' w'/\HRel W B M h' w'/\Keep M h M h' (fun _=>False)/\VRel M v v':=by
 unfold Kg at hr
 split at hr
 · rename_i kt et r hu;cases hm with
   |map hi=>
   rename_i r'
   split at hr
   · rename_i es cl hg;obtain⟨S,au,hρ,hx,he,gE⟩:=Kf (E:=E) H hi hg;obtain⟨aw,hr⟩:=Qh hr;have ek:=Q0g aw hk;subst ek;have fW:(Instr.checkKey false 10000 kt k').run E.P w=.ok () w:=YM aw;have br:=Qf hu w
     split at hr
     · rename_i i v0 hf;obtain⟨r2,cU,hc⟩:=ZB (E:=E) H aw hk he hf;rcases hc with⟨h1,_⟩| ⟨j,e,e',h1,h2,h3,h4,h5,h6⟩
       · cases h1
       cases h1;subst h2;rw[h3]at hr;cases hr;have nC:(Instr.keyThatStays e'.key k').run E.P w=.ok k' w:=Q7Z aw (by have:=h5.1;rw[h6]at this;exact this);have h4':au[i]?=some e':=by simpa using h4
       obtain⟨p1,p2,p3⟩:=HRel.setObj (E:=E) H (o:=.map (es.modify i fun e=> {e with key:=k'}) cl) (x:=.map (au.modify i fun e=> {e with key:=k'}) cl) hρ hx (by intro c e f hh;cases hh)
        ⟨rfl,_,rfl,he.modify i fun a b ha hb=>⟨hk,(he.2 i a b ha hb).2.1,(he.2 i a b ha hb).2.2⟩⟩
       refine⟨.tuple #[e'.val,goInt e'.born],_,by simp[Instr.mapEntry,br,gE,fW,cU,h4',nC,p1],p2,p3,?_⟩;rw[h5.2.2];exact .tuple' (.cons h5.2.1 (.cons (.int _ _) (.nil M)))
     · rename_i hf;obtain⟨r2,cU,hc⟩:=ZB (E:=E) H aw hk he hf;rcases hc with⟨_,rfl⟩| ⟨j,e,e',h1,_⟩
       · split at hr
         · rename_i z hz;cases hr
           obtain⟨p1,p2,p3⟩:=HRel.setObj (E:=E) H (o:=.map (es++[{key:=k',val:=z,born:=cl}]) (cl+1)) (x:=.map (au.push {key:=k',val:=z,born:=cl}) (cl+1)) hρ hx (by intro c e f hh;cases hh)
            ⟨rfl,_,rfl,he.push ⟨hk,ZY hz M,rfl⟩⟩
           exact⟨.tuple #[z,goInt cl],_,by simp[Instr.mapEntry,br,gE,fW,cU,Y2 hz,p1],p2,p3,.tuple' (.cons (ZY hz M) (.cons (.int _ _) (.nil M)))⟩
         cases hr
       cases h1
     cases hr
   cases hr
 cases hr
theorem Q4v {t:TypeId} {m k m' k':Value} {h':Hp} {ts:Array TypeId} {ty:TypeId} (hm:VRel M m m') (hk:VRel M k k') (ht:ts[0]?=some t) (hr:Q19 E h t m k=some h'):
 ∃w',(Builtin.delete_ ts ty #[m',k']).run E.P w=.ok (.tuple #[]) w'/\HRel W B M h' w'/\Keep M h M h' (fun _=>False):=by
 unfold Q19 at hr
 split at hr
 · rename_i kt et r hu;cases hm with
   |map hi=>
   rename_i r'
   split at hr
   · rename_i es cl hg;obtain⟨S,au,hρ,hx,he,gE⟩:=Kf (E:=E) H hi hg;obtain⟨aw,hr⟩:=Qh hr;have ek:=Q0g aw hk;subst ek;have fW:(Instr.checkKey au.isEmpty 10000 kt k').run E.P w=.ok () w:=YM aw;have br:=Qf hu w
     split at hr
     · rename_i i v0 hf;cases hr;obtain⟨r2,cU,hc⟩:=ZB (E:=E) H aw hk he hf;rcases hc with⟨h1,_⟩| ⟨j,e,e',h1,h2,h3,h4,h5,h6⟩
       · cases h1
       cases h1;subst h2;obtain⟨p1,p2,p3⟩:=HRel.setObj (E:=E) H (o:=.map (es.eraseIdx i) cl) (x:=.map (au.eraseIdxIfInBounds i) cl) hρ hx (by intro c e f hh;cases hh) ⟨rfl,_,rfl,he.erase i⟩;exact⟨_,by simp only[Builtin.delete_,ht];simp[br,gE,fW,cU,p1],p2,p3⟩
     · rename_i hf;cases hr;obtain⟨r2,cU,hc⟩:=ZB (E:=E) H aw hk he hf;rcases hc with⟨_,rfl⟩| ⟨j,e,e',h1,_⟩
       · have aj:r' <w.heap.size:=(v0X.1 hx).1;refine⟨{w with heap:=w.heap.setIfInBounds r' (.map au cl)},?_,?_,Keep.refl _ _ _⟩
         · simp only[Builtin.delete_,ht];simp[br,gE,fW,cU,Go.setObj,Sem.run,hx]
         have:w.heap.setIfInBounds r' (.map au cl)=w.heap:=by
          apply Array.ext_getElem?;intro i;by_cases e:r'=i
          · subst e;rw[hx];simp[aj]
          rw[v1X e]
         rw[this];exact H
       cases h1
     cases hr
   cases hr
 cases hr
theorem Q17 {t:TypeId} {m s v m' s' v':Value} {h':Hp} (hm:VRel M m m') (hs:VRel M s s') (hv:VRel M v v') (hr:ZO h m s v=some h'):
 ∃w',(Instr.entryStore t m' s' v').run E.P w=.ok () w'/\HRel W B M h' w'/\Keep M h M h' (fun _=>False):=by
 unfold ZO at hr
 split at hr
 · rename_i r b hn;cases hm with
   |map hi=>
   rename_i r';obtain⟨k,rfl⟩:=Yy hn;cases hs
   split at hr
   · rename_i es cl hg;obtain⟨S,au,hρ,hx,he,gE⟩:=Kf (E:=E) H hi hg
     split at hr
     · rename_i i hf;cases hr
       have dp:au.findIdx? (fun e=>(e.born:Int)==(b:Int))=some i:=by
        have e1:au.findIdx? (fun e=>(e.born:Int)==(b:Int))=au.toList.findIdx? (fun e=>(e.born:Int)==(b:Int)):=by obtain⟨q⟩:=au;exact List.findIdx?_toArray _ _
        rw[e1]
        have gen: ∀(l l':List MapEntry),EsRel M l l'->l'.findIdx? (fun e=>(e.born:Int)==(b:Int))=l.findIdx? (fun e=>v0d e.born b):=by
         intro l
         induction l with
         | nil=>intro l' hl;cases l' with
           |nil=>rfl
           |cons=>have:=hl.1;simp at this
         | cons x l ih=>intro l' hl;cases l' with
           |nil=>have:=hl.1;simp at this
           | cons y l'=>
             have h0:=(hl.2 0 x y rfl rfl).2.2;have fQ:EsRel M l l':=⟨by have:=hl.1;simpa using this,fun j a b ha hb=>hl.2 (j+1) a b (by simpa using ha) (by simpa using hb)⟩;simp only[List.findIdx?_cons,h0,ih l' fQ]
             have:((x.born:Int)==(b:Int))=v0d x.born b:=by
              rw[Bool.eq_iff_iff,QF];simp;omega
             rw[this]
        rw[gen es au.toList he];exact hf
       obtain⟨p1,p2,p3⟩:=HRel.setObj (E:=E) H (o:=.map (es.modify i fun e=> {e with val:=v}) cl) (x:=.map (au.modify i fun e=> {e with val:=v'}) cl) hρ hx (by intro c e f hh;cases hh)
        ⟨rfl,_,rfl,he.modify i fun a b ha hb=>⟨(he.2 i a b ha hb).1,hv,(he.2 i a b ha hb).2.2⟩⟩
       exact⟨_,by simp only[Instr.entryStore,Sem.run_bind,gE,Result.andThen_ok,asInt,asIntOf,Sem.run_pure,dp,p1],p2,p3⟩
     cases hr
   cases hr
 cases hr
end
variable {E:Env}
theorem Q5L (n:Nat): ∀(r c:Nat),c<=n+(n+768)/4->Builtin.growBy n r c<=n+(n+768)/4
 |0,c,h=>h
 | r+1,c,h=>by
   unfold Builtin.growBy
   split
   · exact h
   exact Q5L n r _ (by omega)
theorem Q8Q (n c:Nat) (h:c <n):Builtin.nextslicecap n c<=2*n+192:=by
 unfold Builtin.nextslicecap
 split
 · omega
 split
 · omega
 have:=Q5L n 4 c (by omega);omega
section
variable {W:World} {B:Nat->Prop} {M:Mp} {h:Hp} {w:World} (H:HRel W B M h w)
include H
omit H in
theorem K6 (a:Addr) (w:World):(loadCells a 0).run E.P w=.ok #[] w:=by simp[loadCells,loadCellsFrom]
theorem J2 {z n:Nat} {x x':Value} {xs:List Value} (hx:VRel M x x') (hr:Jv h z n x=some xs):
 xs.length=n*z/\ ∃xs',VsRel M xs xs'/\ ∀d,(Builtin.firstCells z n x').run E.P {w with drawn:=d}=.ok xs'.toArray {w with drawn:=d}:=by
 unfold Jv at hr
 split at hr
 · rename_i a l c;cases hx with
   |sl hs=>
   rename_i a' c';obtain⟨hle,hr⟩:=Qh hr;have hle:=(Qy _ _).1 hle;by_cases hn:n=0
   · subst hn
     have:xs=[]:=by
      have h2:some []=some xs:=hr;exact(v0i.inj h2).symm
     subst this;exact⟨by simp,[],.nil M,fun d=>by simp[Builtin.firstCells,K6]⟩
   rw[(QC n 0).2 hn,cond_false]at hr;obtain⟨hl,l',hv,hc,_⟩:=J7 H (SlRel.live hs (by omega)) hr;refine⟨hl,l',hv,fun d=>?_⟩;have:=run_loadCells_list (P:=E.P) {w with drawn:=d} a' l' hc;rw[<-hv.1,hl]at this;simp[Builtin.firstCells,this]
 · cases hx;obtain⟨hle,hr⟩:=Qh hr;simp only[v0h,Qy,QF]at hle;cases hr;have:n=0:=by omega
   subst this;exact⟨by simp,[],.nil M,fun d=>by simp[Builtin.firstCells]⟩
 · rename_i s;cases hx;obtain⟨hle,bz⟩:=Qh hr;clear hr;simp only[v0h,Qy,QF]at hle;obtain⟨hle,rfl⟩:=hle;cases bz;have cO:s.data.toList.length=s.size:=by rw[Array.length_toList];rfl
   refine⟨by rw[v0s,List.length_take,cO];omega,(s.data.toList.take n).map fun b=>.int .u8 b.toNat,.map _ _ _ fun _ _=>.int _ _,fun d=>?_⟩;simp only[Builtin.firstCells,Sem.run_pure]
   congr 1
   apply Array.ext';simp
 cases hr
omit H in
theorem Q1k {x x':Value} {n:Nat} (hx:VRel M x x') (hr:KU x=some n):(Builtin.lenOf x').run E.P w=.ok n w:=by
 unfold KU at hr
 split at hr
 · cases hr;cases hx<;>simp[Builtin.lenOf]
 · cases hr;cases hx;simp[Builtin.lenOf]
 cases hr
omit H in
theorem Q7t {t t' e:TypeId} {d':TypeDesc} {z b n l c':Nat} {zv x':Value} {base:Option Addr} {old' xs':List Value} {ty:TypeId} {ts:Array TypeId}
 (hu:E.und t=some (.slice e)) (br:E.und t'=some d') (hd: ∀k,d'≠ .int k) (hz:E.size e=some (z+1)) (hb:E.bytes e=some (b+1)) (gL:E.zero e=some zv) (lV:zv.cells.size=z+1)
 (ht:ts[0]?=some t) (aR:ts[1]?=some t') (hn:(Builtin.lenOf x').run E.P w=.ok n w) (jz:c' <l+n) (hbound:(l+n)*(b+1)<=2^40\/2*((l+n)*(b+1))+192*(b+1)<=2^48)
 (hold: ∀d,(Builtin.firstCells (z+1) l (.slice base l c')).run E.P {w with drawn:=d}=.ok old'.toArray {w with drawn:=d})
 (fx: ∀d,(Builtin.firstCells (z+1) n x').run E.P {w with drawn:=d}=.ok xs'.toArray {w with drawn:=d}):
 ∃ cap rest,l+n<=cap/\rest.size=(cap - (l+n))*(z+1)/\(Builtin.append_ ts ty #[.slice base l c',x']).run E.P w=
   .ok (.slice (some ⟨w.heap.size,0,none⟩) (l+n) cap) {w with drawn:=w.drawn+1,heap:=w.heap.push (.cells (old'.toArray++xs'.toArray++rest) e)}:=by
 obtain⟨ti,mK,gI⟩:=Q21 hb;have cG:=Q8Q (l+n) c' jz
 have jF:2*((l+n)*(b+1))+192*(b+1)<=2^48:=by
  rcases hbound with hbound|hbound
  · have:1*(b+1)<=(l+n)*(b+1):=v05 _ (by omega);omega
  exact hbound
 have hmul:Builtin.nextslicecap (l+n) c'*(b+1)<=2^48:=by
  calc Builtin.nextslicecap (l+n) c'*(b+1)<=(2*(l+n)+192)*(b+1):=v05 _ cG
   _=2*((l+n)*(b+1))+192*(b+1):=by rw[v1a,Nat.mul_assoc]
   _<=2^48:=by omega
 let q:=Question.appendCap (l+n) c' e
 refine⟨q.cut (w.tape w.drawn q),Builtin.zeroCells zv.cells (q.cut (w.tape w.drawn q) - (l+n)),?_,?_,?_⟩
 · show l+n<=(l+n)+_;omega
 · simp[Builtin.zeroCells,lV]
 have nq:(match d' with| .int _=>true|_=>false)=false:=by cases d'<;>first|rfl|(exact absurd rfl (hd _))
 have w1:=hold (w.drawn+1);have w2:=fx (w.drawn+1);simp only[Builtin.append_,ht,aR];have g0:(#[Value.slice base l c',x']:Array Value)[0]?=some (.slice base l c'):=rfl;have g1:(#[Value.slice base l c',x']:Array Value)[1]?=some x':=rfl;simp only[g0,g1,Sem.run_bind,Qf hu w,Qf br w,Result.andThen_ok,QI hz,Sem.run_pure];simp only[v1Y,if_false,hn,Result.andThen_ok,Sem.run_bind];rw[if_neg (by omega)];have fS: ¬(Builtin.nextslicecap (l+n) c'*ti.bytes>2^48):=by rw[gI];omega
 simp only[Sem.run_bind,Kw mK,Result.andThen_ok,gI,Nat.succ_ne_zero,or_self,and_false,if_false,Sem.run_ite];rw[if_neg (by rw[gI]at fS;exact fS)];simp only[Sem.run_pure,Result.andThen_ok,run_choose,Question.forced,v1Y,if_false,run_askRoom];simp only[w1,w2,Result.andThen_ok,Y2 gL];simp only[newRow,Sem.run_bind,run_newObj,Result.andThen_ok,Sem.run_pure];rfl
theorem Q3k {h0:Hp} {M0:Mp} {e:TypeId} {z n cap S:Nat} {old xs old' xs':List Value} {rest:Array Value} (H0:HRel W B M0 h0 w)
 (hK: ∀i,M0.K i↔M.K i) (dk:h0.n=h.n) (aZ:Ev M M0)
 (ho:VsRel M old old') (hx:VsRel M xs xs') (hle:n<=cap) (hlen:old.length+xs.length=n*(z+1)) (fQ:rest.size=(cap -n)*(z+1)) (hS:S=cap*(z+1))
 (d:Nat) (hd:w.drawn<=d):HRel W B (M0.add h.n w.heap.size 0 S (z+2)) (h0.alloc (.cells (old++xs) e (z+3))) {w with drawn:=d,heap:=w.heap.push (.cells (old'.toArray++xs'.toArray++rest) e)}/\
  Ev M (M0.add h.n w.heap.size 0 S (z+2))/\VRel (M0.add h.n w.heap.size 0 S (z+2)) (.slice (some ⟨h.n,0,none⟩) n n) (.slice (some ⟨w.heap.size,0,none⟩) n cap):=by
 have dX: ¬M0.K h.n:=fun hk=>by have:=H.kn _ ((hK _).1 hk);omega
 have hlen':old'.length+xs'.length=n*(z+1):=by rw[<-ho.1,<-hx.1];exact hlen
 have hmul:n*(z+1)<=cap*(z+1):=v05 _ hle;have hsub:(cap -n)*(z+1)=cap*(z+1) -n*(z+1):=Nat.sub_mul _ _ _
 have mO:(old'.toArray++xs'.toArray++rest).size=S:=by
  simp only[Array.size_append,List.size_toArray];omega
 have hevA:=Mp.add_ev M0 h.n w.heap.size 0 S (z+2) dX;have lj:=aZ.trans hevA;have jI:VsRel (M0.add h.n w.heap.size 0 S (z+2)) (old++xs) (old'++xs'):=(ho.mono lj).append (hx.mono lj);refine⟨?_,lj,.sl ⟨.inl rfl,fun b δ S' hb=>?_⟩⟩
 · have Ha:=World.drew_HRel (H0.allocX (.cells (old++xs) e (z+3))) d hd;refine Ha.push (i:=h.n) (o:=.cells (old++xs) e (z+3)) (x:=.cells (old'.toArray++xs'.toArray++rest) e) (S:=S) (m:=z+2) dX (by rw[Hp.n_alloc];omega) (by rw[Hp.get_alloc,if_pos dk]) ?_;refine⟨_,(0,0),rfl,mO.symm,by simp;omega,fun j v hj=>?_,.inr (.inr ⟨⟨z+1,rfl,by simp[Mp.add]⟩,fun j _=>by simp⟩)⟩;have bK:j <(old++xs).length:=(v0z.1 hj).1;have hjl':j <(old'++xs').length:=by rw[<-jI.1];exact bK
   refine⟨(old'++xs')[j],?_,jI.2 j v _ hj (by simp[])⟩;rw[v0f];have e1:old'.toArray++xs'.toArray=(old'++xs').toArray:=by simp
   rw[e1,Array.getElem?_append_left (by simpa using hjl')];simp[]
 simp only[Mp.add,if_true,v0i.injEq,Prod.mk.injEq]at hb;obtain⟨rfl,rfl,rfl⟩:=hb;exact .inr ⟨z+1,by simp[Mp.add],.inl ⟨rfl,hle,by simp[hS]⟩⟩
def Mp.drop (M:Mp) (i:Nat):Mp:= {M with ρ:=fun j=>if j=i then none else M.ρ j}
omit H in
theorem Q74 (i:Nat):Ev M (M.drop i):=⟨fun _ hj=>hj,fun j x _ hx=>by
 simp only[Mp.drop]at hx
 split at hx
 · cases hx
 exact hx,fun _ _=>rfl⟩
theorem QbC {i:Nat} (hk:M.K i):HRel W B (M.drop i) (h.put i .dead) w/\Ev M (M.drop i):=by
 refine⟨⟨fun j b δ S hj=>?_,fun j k b δ S δ' S' hj bh=>?_,fun j hj=>?_,fun j hj=>?_,fun j nD hj=>?_,H.os,H.tape,H.output,H.size,H.old,fun j b δ S hj=>?_,H.glob.mono (Q74 i)⟩,Q74 i⟩
 · simp only[Mp.drop]at hj
   split at hj
   · cases hj
   rename_i e;obtain⟨h1,o,x,h2,h3,h4⟩:=H.obj j b δ S hj;refine⟨h1,o,x,by rw[Hp.get_put,if_neg (fun e'=>e e'.symm)];exact h2,h3,?_⟩;exact h4.mono (Q74 i) h1
 · simp only[Mp.drop]at hj bh
   split at hj
   · cases hj
   rename_i e
   split at bh
   · cases bh
   rcases H.inj _ _ _ _ _ _ _ hj bh with h1| ⟨c,e',h1⟩
   · exact .inl h1
   exact .inr ⟨c,e',by rw[Hp.get_put,if_neg (fun x=>e x.symm)];exact h1⟩
 · rw[Hp.n_put];exact H.kn j hj
 · rw[Hp.n_put]at hj;rw[Hp.get_put,if_neg (by have:=H.kn i hk;omega)];exact H.fresh j hj
 · simp only[Mp.drop]at hj;by_cases e:j=i
   · subst e;exact .inr (by rw[Hp.get_put,if_pos rfl])
   rw[if_neg e]at hj;rw[Hp.get_put,if_neg (fun e'=>e e'.symm)];exact H.live j nD hj
 simp only[Mp.drop]at hj
 split at hj
 · cases hj
 rename_i e;intro hb;rcases H.own j b δ S hj hb with h1| ⟨c,e',h1⟩
 · exact .inl h1
 exact .inr ⟨c,e',by rw[Hp.get_put,if_neg (fun x=>e x.symm)];exact h1⟩
theorem Qfs {i b δ S o s:Nat} {cs cs':List Value} {e:TypeId} {c2:Array Value} {fr:Nat×Nat} {w':World}
 (hρ:M.ρ i=some (b,δ,S)) (bS:M.md i=s+1)
 (hos:w'.os=w.os) (ew:w'.tape=w.tape/\w.drawn<=w'.drawn) (kV:w'.output=w.output) (cO:w'.heap.size=w.heap.size)
 (hb:w'.heap[b]?=some (.cells c2 e fr)) (cP: ∀c,c≠b->w'.heap[c]?=w.heap[c]?) (hS:S=c2.size)
 (cx:VsRel M cs cs') (aX: ∀j v,cs'[j]?=some v->c2[δ+o+j]?=some v) (cV:δ+o+cs.length<=S) (cj: ∀j,j <S-> ¬(fr.1<=j/\j <fr.2)):
 HRel W B ((M.drop i).add h.n b (δ+o) S (s+1)) ((h.put i .dead).alloc (.cells cs e (s+2))) w'/\Ev M ((M.drop i).add h.n b (δ+o) S (s+1)):=by
 have hk:=(H.obj i b δ S hρ).1;have hilt:=H.kn i hk;have dX: ¬M.K h.n:=fun bh=>by have:=H.kn _ bh;omega
 obtain⟨H1,E1⟩:=QbC H hk;have hnk1: ¬(M.drop i).K h.n:=dX;have E2:=Mp.add_ev (M.drop i) h.n b (δ+o) S (s+1) hnk1;have EE:=E1.trans E2
 have eU: ¬RO h i:=fun⟨cc,ee,hg⟩=>by
  obtain⟨_,o',x',h1,h2,h3⟩:=H.obj i b δ S hρ;rw[hg]at h1;cases h1;obtain⟨c',az,hx',_,_,_,h4⟩:=h3;rcases h4 with⟨h5,_⟩| ⟨_,h5,_⟩| ⟨⟨s',h5,_⟩,_⟩
  · cases h5
  · rw[bS]at h5;cases h5
  omega
 have hbB:b <W.heap.size->B b:=fun hb=>(H.own i b δ S hρ hb).resolve_right eU;refine⟨⟨fun j b' δ' S' hj=>?_,fun j k b' δ1 S1 δ2 S2 hj bh=>?_,fun j hj=>?_,fun j hj=>?_,fun j nD hj=>?_,hos.trans H.os,⟨ew.1.trans H.tape.1,fun b=>v0p (H.tape.2 b) ew.2⟩,kV.trans H.output,by rw[cO];exact H.size,fun k bQ gQ=>?_,fun j b' δ' S' hj aj=>?_,H.glob.mono EE⟩,EE⟩
 · by_cases ej:j=h.n
   · subst ej;simp only[Mp.add,if_true,v0i.injEq,Prod.mk.injEq]at hj;obtain⟨rfl,rfl,rfl⟩:=hj;refine⟨.inl rfl,.cells cs e (s+2),_,by rw[Hp.get_alloc,Hp.n_put,if_pos rfl],hb,c2,fr,rfl,hS,cV,fun j v hj=>?_,.inr (.inr ⟨⟨s,rfl,by simp[Mp.add]⟩,cj⟩)⟩;have aj:j <cs'.length:=by rw[<-cx.1];exact(v0z.1 hj).1
     exact⟨cs'[j],aX j _ (by simp[aj]),(cx.2 j v _ hj (by simp[aj])).mono EE⟩
   simp only[Mp.add,if_neg ej,Mp.drop]at hj
   split at hj
   · cases hj
   rename_i ei;obtain⟨h1,o',x,h2,h3,h4⟩:=H.obj j b' δ' S' hj;have an:b'≠b:=fun e'=>ei ((H.inj i j b δ S δ' S' hρ (e'▸hj)).resolve_right eU).symm;refine⟨.inr h1,o',x,?_,by rw[cP _ an];exact h3,h4.mono EE h1⟩;rw[Hp.get_alloc,Hp.n_put,if_neg (fun e'=>ej e'.symm),Hp.get_put,if_neg (fun e'=>ei e'.symm)];exact h2
 · by_cases ej:j=h.n<;>by_cases ek:k=h.n
   · exact .inl (by rw[ej,ek])
   · simp only[Mp.add,if_pos ej,if_neg ek,Mp.drop,v0i.injEq,Prod.mk.injEq]at hj bh
     split at bh
     · cases bh
     rename_i ei;obtain⟨rfl,_,_⟩:=hj;exact absurd ((H.inj i k b δ S δ2 S2 hρ bh).resolve_right eU).symm ei
   · simp only[Mp.add,if_neg ej,if_pos ek,Mp.drop,v0i.injEq,Prod.mk.injEq]at hj bh
     split at hj
     · cases hj
     rename_i ei;obtain⟨rfl,_,_⟩:=bh;exact absurd ((H.inj i j b δ S δ1 S1 hρ hj).resolve_right eU).symm ei
   simp only[Mp.add,if_neg ej,if_neg ek,Mp.drop]at hj bh
   split at hj
   · cases hj
   rename_i ei
   split at bh
   · cases bh
   rcases H.inj _ _ _ _ _ _ _ hj bh with h1| ⟨cc,ee,h1⟩
   · exact .inl h1
   refine .inr ⟨cc,ee,?_⟩;rw[Hp.get_alloc,Hp.n_put,if_neg (fun e'=>ej e'.symm),Hp.get_put,if_neg (fun e'=>ei e'.symm)];exact h1
 · rw[Hp.n_alloc,Hp.n_put];rcases hj with rfl|hj
   · omega
   have:=H.kn j hj;omega
 · rw[Hp.n_alloc,Hp.n_put]at hj;rw[Hp.get_alloc,Hp.n_put,if_neg (by omega),Hp.get_put,if_neg (by omega)];exact H.fresh j (by omega)
 · by_cases ej:j=h.n
   · subst ej;simp[Mp.add]at hj
   have hkj':M.K j:=nD.resolve_left ej;simp only[Mp.add,if_neg ej,Mp.drop]at hj;rw[Hp.get_alloc,Hp.n_put,if_neg (fun e'=>ej e'.symm)];by_cases ei:j=i
   · subst ei;exact .inr (by rw[Hp.get_put,if_pos rfl])
   rw[if_neg ei]at hj;rw[Hp.get_put,if_neg (fun e'=>ei e'.symm)];exact H.live j hkj' hj
 · have:k≠b:=fun e'=>gQ (e'▸hbB (e'▸bQ));rw[cP k this];exact H.old k bQ gQ
 by_cases ej:j=h.n
 · simp only[Mp.add,if_pos ej,v0i.injEq,Prod.mk.injEq]at hj;obtain⟨rfl,_,_⟩:=hj;exact .inl (hbB aj)
 simp only[Mp.add,if_neg ej,Mp.drop]at hj
 split at hj
 · cases hj
 rename_i ei;rcases H.own j b' δ' S' hj aj with h1| ⟨cc,ee,h1⟩
 · exact .inl h1
 refine .inr ⟨cc,ee,?_⟩;rw[Hp.get_alloc,Hp.n_put,if_neg (fun e'=>ej e'.symm),Hp.get_put,if_neg (fun e'=>ei e'.symm)];exact h1
end
variable {E:Env}
theorem Js (a:Addr) (w:World) (i:Nat):(storeCells a [] i).run E.P w=.ok () w:=rfl
theorem Q1D {w w':World} {t t' e:TypeId} {d':TypeDesc} {z n l c':Nat} {x':Value} {base:Option Addr} {xs':List Value} {ty:TypeId} {ts:Array TypeId}
 (hu:E.und t=some (.slice e)) (br:E.und t'=some d') (hd: ∀k,d'≠ .int k) (hz:E.size e=some (z+1))
 (ht:ts[0]?=some t) (aR:ts[1]?=some t') (hn:(Builtin.lenOf x').run E.P w=.ok n w) (hle:l+n<=c')
 (fx:(Builtin.firstCells (z+1) n x').run E.P w=.ok xs'.toArray w)
 (av:match base with|some a=>(storeCells (a.add (l*(z+1))) xs').run E.P w=.ok () w'|none=>w'=w):
 (Builtin.append_ ts ty #[.slice base l c',x']).run E.P w=.ok (.slice base (l+n) c') w':=by
 have nq:(match d' with| .int _=>true|_=>false)=false:=by cases d'<;>first|rfl|(exact absurd rfl (hd _))
 simp only[Builtin.append_,ht,aR];have g0:(#[Value.slice base l c',x']:Array Value)[0]?=some (.slice base l c'):=rfl;have g1:(#[Value.slice base l c',x']:Array Value)[1]?=some x':=rfl;simp only[g0,g1,Sem.run_bind,Qf hu w,Qf br w,Result.andThen_ok,QI hz,Sem.run_pure];simp only[v1Y,if_false,hn,Result.andThen_ok,Sem.run_bind];rw[if_pos hle];simp only[Sem.run_bind];cases base with
 |none=>simp only at av;subst av;simp[fx]
 |some a=>simp only at av;simp[fx,av]
section
variable {W:World} {B:Nat->Prop} {M:Mp} {h:Hp} {w:World} (H:HRel W B M h w)
include H
omit H in
theorem Qf3 {a:Addr} {old:List Value} (hr:rowOf h a 0=some old):old=[]:=by
 unfold rowOf at hr
 split at hr
 · cases hr
 split at hr
 · obtain⟨_,h2⟩:=Qh hr;simp at h2;exact h2.symm▸rfl
 cases hr
omit H in
theorem Q0Z {M':Mp} {o:AObj} (hk: ∀i,i <h.n->M'.K i->M.K i):Keep M h M' (h.alloc o) (fun _=>False):=by
 refine⟨by rw[Hp.n_alloc];omega,fun i hi dC _=>⟨fun hh=>dC (hk i hi hh),?_⟩⟩;rw[Hp.get_alloc,if_neg (by omega)]
omit H in
theorem Q5E {M':Mp} {o:AObj} {j:Nat} (hj:M.K j) (hk: ∀i,i <h.n->M'.K i->M.K i):Keep M h M' ((h.put j .dead).alloc o) (fun _=>False):=by
 refine⟨by rw[Hp.n_alloc,Hp.n_put];omega,fun i hi dC _=>⟨fun hh=>dC (hk i hi hh),?_⟩⟩;have an:j≠i:=fun h0=>dC (h0▸hj);rw[Hp.get_alloc,Hp.n_put,if_neg (by omega),Hp.get_put,if_neg an]
theorem Q0U {a a':Addr} {l c c' m:Nat} (hs:SlRel M a a' l c c') (hm:ZQ h a=some m):
 ∃ b δ S,M.ρ a.block=some (b,δ,S)/\((m<=1/\M.md a.block=0/\a'=⟨b,δ+a.off,a.spot⟩/\c'=c)\/
   (∃q,m=q+2/\M.md a.block=q+1/\((a'=⟨b,δ+a.off,a.spot⟩/\c<=c'/\δ+a.off+c'*q<=S)\/(l=0/\c'=0/\c=0)))):=by
 obtain⟨b,δ,S,hρ,bS⟩:=Jd H hs.1 hm;refine⟨b,δ,S,hρ,?_⟩;rcases hs.2 b δ S hρ with⟨h0,h1,h2⟩| ⟨q,h0,h1⟩
 · rcases bS with⟨h3,h4⟩| ⟨s,h3,h4⟩
   · exact .inl ⟨h3,h4,h1,h2⟩
   omega
 rcases bS with⟨h3,h4⟩| ⟨s,h3,h4⟩
 · omega
 have:s=q:=by omega
 subst this;exact .inr ⟨s,h3,h4,h1⟩
theorem Q4D {t t' : TypeId} {s x s' x' v:Value} {h':Hp} {ts:Array TypeId} {ty:TypeId} (hs:VRel M s s') (hx:VRel M x x') (ht:ts[0]?=some t) (aR:ts[1]?=some t')
 (hr:Zh E h t t' s x=some (v,h')):
 ∃v' w' M',(Builtin.append_ ts ty #[s',x']).run E.P w=.ok v' w'/\Ev M M'/\HRel W B M' h' w'/\Keep M h M' h' (fun _=>False)/\VRel M' v v':=by
 unfold Zh at hr
 split at hr
 case h_2=>cases hr
 rename_i e d' n hu br hn;have hlen:=Q1k (E:=E) (w:=w) hx hn
 split at hr
 · cases hr
 · rename_i d' _ _ _ z b hdn hz hb;have hd: ∀k,d'≠ .int k:=fun k hk=>hdn k hk
   have kn: ∀(M0:Mp) (bl δ S m:Nat),(∀i,M0.K i↔M.K i)-> ∀i,i <h.n->(M0.add h.n bl δ S m).K i->M.K i:=by
    intro M0 bl δ S m hM i hi dC;rcases dC with rfl|dC
    · omega
    exact(hM i).1 dC
   split at hr
   ·
    rename_i xs fx;cases hs;obtain⟨fy,xs',gM,bW⟩:=J2 (E:=E) H hx fx;cases dk:v0d n 0 with
    | true=>
      have l9:=(QF _ _).1 dk;subst l9;rw[dk,cond_true]at hr;cases hr;exact⟨.slice none 0 0,w,M,Q1D (base:=none) (l:=0) (c':=0) hu br hd hz ht aR hlen (by omega) (bW w.drawn) rfl,Ev.refl M,H,Keep.refl _ _ _,.nils _ _⟩
    | false=>
      have l9:=(QC _ _).1 dk;rw[dk,cond_false]at hr;unfold growX at hr
      split at hr
      · rename_i zv gL;obtain⟨hc,hr⟩:=Qh hr;simp only[v0h,v0H,Qy,QF]at hc;cases hr
        obtain⟨cap,rest,h1,h2,h3⟩:=Q7t (E:=E) (w:=w) (l:=0) (c':=0) (base:=none) (old':=[]) (xs':=xs') (ty:=ty) hu br hd hz hb gL hc.2 ht aR hlen (by omega) (by rw[v0f];exact hc.1)
         (fun d=>by simp[Builtin.firstCells]) bW
        rw[v0f]at h1 h2 h3;obtain⟨p1,p2,p3⟩:=Q3k (M:=M) (h:=h) (w:=w) H (h0:=h) (M0:=M) (e:=e) (z:=z) (n:=n) (cap:=cap) (S:=cap*(z+1)) (old:=[]) (old':=[]) (xs:=xs) (xs':=xs') (rest:=rest) H (fun _=>Iff.rfl) rfl (Ev.refl M) (.nil M) gM h1 (by simpa using fy) h2 rfl (w.drawn+1) (Nat.le_succ _);exact⟨_,_,_,h3,p2,p1,Q0Z (kn M _ _ _ _ (fun _=>Iff.rfl)),p3⟩
      cases hr
   ·
    rename_i a l c xs fx;cases hs with
    |sl bH=>
    rename_i a' c';obtain⟨fy,xs',gM,bW⟩:=J2 (E:=E) H hx fx;cases dk:v0d n 0 with
    | true=>
      have l9:=(QF _ _).1 dk;subst l9;rw[dk,cond_true]at hr
      split at hr
      · rename_i m hm;obtain⟨hlc,hr⟩:=Qh hr;have hlc:=(Qy _ _).1 hlc;cases hr
        have cp:xs'=[]:=by
         have:=gM.1;rw[fy]at this;simp at this;cases xs' with
         |nil=>rfl
         |cons=>simp at this
        subst cp
        have hle:l+0<=c':=by
         obtain⟨bb,δ,S,_,aA⟩:=Q0U H bH hm;rcases aA with⟨_,_,_,h4⟩| ⟨q,_,_,⟨_,h4,_⟩| ⟨h4,_,_⟩⟩<;>omega
        exact⟨_,w,M,Q1D (base:=some a') hu br hd hz ht aR hlen hle (bW w.drawn) (Js _ _ _),Ev.refl M,H,Keep.refl _ _ _,.sl bH⟩
      cases hr
    | false =>
      have l9:=(QC _ _).1 dk;rw[dk,cond_false]at hr;cases ir:Nat.ble (l+n) c with
      | true=>
        have hle:=(Qy _ _).1 ir;rw[ir,cond_true]at hr
        split at hr
        · rename_i h1 av;obtain⟨bR,hr⟩:=Qh hr;cases hr
          -- the block is there, in either case
          have hmo: ∃m,ZQ h a=some m:=by
           unfold Zp at av
           split at av
           · cases av
           split at av
           · rename_i cc ee mm hg;rw[block_add]at hg;exact⟨mm,by unfold ZQ;rw[hg]⟩
           cases av
          obtain⟨m,hm⟩:=hmo;obtain⟨bb,δ,S,hρ,aA⟩:=Q0U H bH hm
          have hA:AddrRel M a a'/\c<=c':=by
           rcases aA with⟨_,_,h3,h4⟩| ⟨q,_,_,⟨h3,h4,_⟩| ⟨h3,h4,h5⟩⟩
           · exact⟨⟨bH.1,fun b2 δ2 S2 h6=>by rw[hρ]at h6;cases h6;exact h3⟩,by omega⟩
           · exact⟨⟨bH.1,fun b2 δ2 S2 h6=>by rw[hρ]at h6;cases h6;exact h3⟩,by omega⟩
           omega
          obtain⟨w',r,H',K',_⟩:=K0 (E:=E) H (hA.1.add (l*(z+1))) gM bR av;refine⟨_,w',M,Q1D (base:=some a') hu br hd hz ht aR hlen (by omega) (bW w.drawn) r,Ev.refl M,H',K',.sl ⟨bH.1,fun b2 δ2 S2 h6=>?_⟩⟩;rw[hρ]at h6;cases h6;rcases aA with⟨_,h2,h3,h4⟩| ⟨q,_,h2,⟨h3,h4,h5⟩| ⟨h3,h4,h5⟩⟩
          · exact .inl ⟨h2,h3,h4⟩
          · exact .inr ⟨q,h2,.inl ⟨h3,h4,h5⟩⟩
          omega
        cases hr
      | false =>
        have jz:c <l+n:=by
         rcases Nat.lt_or_ge c (l+n)with h1|h1
         · exact h1
         rw[(Qy _ _).2 h1]at ir;cases ir
        rw[ir,cond_false]at hr
        split at hr
        · rename_i old c0 be m ao hg;obtain⟨bR,hr⟩:=Qh hr;have hm:ZQ h a=some m:=by unfold ZQ;rw[hg]
          obtain⟨bb,δ,S,hρ,aA⟩:=Q0U H bH hm
          -- what was there, read
          have hold:old.length=l*(z+1)/\ ∃old',VsRel M old old'/\ ∀d,(Builtin.firstCells (z+1) l (.slice (some a') l c')).run E.P {w with drawn:=d}=.ok old'.toArray {w with drawn:=d}:=by
           by_cases hl:l=0
           · subst hl;rw[Nat.zero_mul]at ao;have:=Qf3 ao;subst this;exact⟨by simp,[],.nil M,fun d=>by simp[Builtin.firstCells,K6]⟩
           obtain⟨fl,l',hv,hc,_⟩:=J7 H (SlRel.live bH (by omega)) ao;refine⟨fl,l',hv,fun d=>?_⟩;have:=run_loadCells_list (P:=E.P) {w with drawn:=d} a' l' hc;rw[<-hv.1,fl]at this;simp[Builtin.firstCells,this]
          obtain⟨eI,old',ni,jV⟩:=hold;have htot:old.length+xs.length=(l+n)*(z+1):=by rw[eI,fy,v1a]
          -- the way on which the model makes a new block
          have grow: ∀(h0:Hp) (M0:Mp),HRel W B M0 h0 w->(∀i,M0.K i↔M.K i)->h0.n=h.n->Ev M M0->growX E h0 e (z+1) (b+1) (l+n) old xs=some (v,h')->c' <l+n->
           (∀M',(∀i,i <h.n->M'.K i->M.K i)->Keep M h M' (h0.alloc (.cells (old++xs) e (z+3))) (fun _=>False))->
           ∃v' w' M',(Builtin.append_ ts ty #[.slice (some a') l c',x']).run E.P w=.ok v' w'/\Ev M M'/\HRel W B M' h' w'/\Keep M h M' h' (fun _=>False)/\VRel M' v v':=by
           intro h0 M0 H0 hK dk aZ hg aj nE;unfold growX at hg
           split at hg
           · rename_i zv gL;obtain⟨hc,hg⟩:=Qh hg;simp only[v0h,v0H,Qy,QF]at hc;cases hg;obtain⟨cap,rest,h1,h2,h3⟩:=Q7t (E:=E) (w:=w) (l:=l) (c':=c') (base:=some a') (old':=old') (xs':=xs') (ty:=ty) hu br hd hz hb gL hc.2 ht aR hlen aj hc.1 jV bW;obtain⟨p1,p2,p3⟩:=Q3k (M:=M) (h:=h) (w:=w) H (h0:=h0) (M0:=M0) (e:=e) (z:=z) (n:=l+n) (cap:=cap) (S:=cap*(z+1)) (rest:=rest) H0 hK dk aZ ni gM h1 htot h2 rfl (w.drawn+1) (Nat.le_succ _);refine⟨_,_,_,h3,p2,p1,nE _ (kn M0 _ _ _ _ hK),?_⟩;rw[dk];exact p3
           cases hg
          split at hr
          ·
           rename_i q;obtain⟨hq,bz⟩:=Qh hr;clear hr;simp only[v0h,QF]at hq;obtain⟨rfl,rfl⟩:=hq;obtain⟨H1,E1⟩:=QbC H bH.1;rcases aA with⟨h2,_⟩| ⟨q2,h2,bS,mq⟩
           · omega
           have:q2=z+1:=by omega
           subst this;by_cases ib:l+n<=c'
           ·
            rcases mq with⟨ha,hcc,cV⟩| ⟨h3,h4,h5⟩
            · obtain⟨bx,δx,Sx,x0,hρx,cp,c1,fr,rfl,hS,jw,cx,hmm⟩:=H.place bH.1 hg (by simp);rw[hρ]at hρx;cases hρx
              have hsp:a.spot=none:=by
               have:=ao;unfold rowOf at this
               split at this
               · cases this
               assumption
              rw[hsp]at ha;subst ha
              have cj: ∀j,j <c1.size-> ¬(fr.1<=j/\j <fr.2):=by
               rcases hmm with⟨h6,_⟩| ⟨h6,_⟩| ⟨_,h6⟩
               · omega
               · omega
               rw[hS]at h6;exact h6
              have hxl':xs'.length=n*(z+1):=by rw[<-gM.1];exact fy
              have hmul:(l+n)*(z+1)<=c'*(z+1):=v05 _ ib;rw[v1a]at hmul
              have dy:(⟨bb,δ+a.off,none⟩:Addr).add (l*(z+1))=⟨bb,δ+a.off+l*(z+1),none⟩:=by
               unfold Addr.add;split
               · rename_i e0;rw[e0];rfl
               rfl
              have ig: ∀v∈xs',v.oneCell'=true:=by
               intro v hvm;obtain⟨i,hi⟩:=List.getElem?_of_mem hvm;have aj:i <xs.length:=by have:=(v0z.1 hi).1;have:=gM.1;omega
               have hu:xs[i]?=some xs[i]:=by simp[aj]
               exact Q63 (v0v.1 bR _ (v0M aj)) (gM.2 i _ _ hu hi)
              have run:=run_storeCells_cells (P:=E.P) bb (δ+a.off+l*(z+1)) xs' 0 w (fun j hj=>by
               have:δ+a.off+l*(z+1)+j <c1.size:=by omega
               simp[World.cell?,cp,this]) (fun j hj=>by
               have:=cj (δ+a.off+l*(z+1)+j) (by omega);simp only[World.frozen?,cp,v1z];obtain⟨lo,hi⟩:=fr;simp only at this ⊢;rw[v19];simp only[decide_eq_false_iff_not]
               omega) ig
              rw[v1z]at run;obtain⟨c2,p1,p2,p3,p4,p5,p6,p7,p8⟩:=Ku bb xs' (δ+a.off+l*(z+1)) w c1 be fr cp (by omega)
              have kW: ∀j v,old'[j]?=some v->c1[δ+a.off+j]?=some v:=by
               intro j v hj;have aj:j <old'.length:=(v0z.1 hj).1
               have gz:0 <l:=by
                rcases Nat.eq_zero_or_pos l with h6|h6
                · subst h6;have:=ni.1;rw[eI]at this;omega
                exact h6
               obtain⟨_,l',hv,hc,_⟩:=J7 H (SlRel.live bH gz) ao;have h7:=run_loadCells_list (P:=E.P) w _ l' hc;have h8:=jV w.drawn;rw[<-hv.1,eI]at h7;simp only[Builtin.firstCells]at h8;have h9:Result.ok l'.toArray w=Result.ok old'.toArray w:=h7.symm.trans h8
               have h10:l'=old':=by
                have:=(Result.ok.injEq _ _ _ _).mp h9;simpa using this.1
               have h11:=hc j v (by rw[h10];exact hj);rw[Q8j cp]at h11;exact h11
              have jI:=ni.append gM
              obtain⟨q1,q2⟩:=Qfs (e:=be) (o:=a.off) H hρ bS p6 p7 p8 p5 p1 p4 (by rw[p2];exact hS) jI
               (fun j v hj=>by
                rw[p3];by_cases hj0:j <old'.length
                · rw[v0C hj0]at hj;have:old'.length=l*(z+1):=by rw[<-ni.1];exact eI
                  rw[if_neg (by omega)];exact kW j v hj
                rw[v0Z (by omega)]at hj;have h12:old'.length=l*(z+1):=by rw[<-ni.1];exact eI
                have h13:=(v0z.1 hj).1;rw[if_pos (by omega)];have:δ+a.off+j - (δ+a.off+l*(z+1))=j -old'.length:=by omega
                rw[this];exact hj) (by rw[List.length_append];omega) (by rw[hS];exact cj)
              unfold growX at bz
              split at bz
              · rename_i zv gL;obtain⟨_,jk⟩:=Qh bz;clear bz;cases jk
                refine⟨.slice (some ⟨bb,δ+a.off,none⟩) (l+n) c',_,_,Q1D (base:=some ⟨bb,δ+a.off,none⟩) hu br hd hz ht aR hlen ib (bW w.drawn) (by show(storeCells ((⟨bb,δ+a.off,none⟩:Addr).add (l*(z+1))) xs').run E.P w=_;rw[dy];exact run),q2,q1,
                 Q5E bH.1 (kn (M.drop a.block) _ _ _ _ (fun _=>Iff.rfl)),.sl ⟨by rw[Hp.n_put];exact .inl rfl,fun b2 δ2 S2 h6=>?_⟩⟩
                simp only[Mp.add,Hp.n_put,if_true,v0i.injEq,Prod.mk.injEq]at h6;obtain⟨rfl,rfl,rfl⟩:=h6;refine .inr ⟨z+1,by simp[Mp.add,Hp.n_put],.inl ⟨by simp,ib,by simpa using cV⟩⟩
              cases bz
            omega
           exact grow _ _ H1 (fun _=>Iff.rfl) (Hp.n_put _ _ _) E1 bz (by omega) (fun M' hM'=>Q5E bH.1 hM')
          ·
           rename_i bI;rcases aA with⟨_,_,_,h4⟩| ⟨q,h2,_⟩
           · subst h4;exact grow h M H (fun _=>Iff.rfl) rfl (Ev.refl M) hr jz (fun M' hM'=>Q0Z hM')
           exact absurd h2 (bI q)
        cases hr
   cases hr
 cases hr
theorem Q76 {t:TypeId} {d s d' s' v:Value} {h':Hp} {ts:Array TypeId} {ty:TypeId} (hd:VRel M d d') (hs:VRel M s s') (ht:ts[0]?=some t)
 (hr:QbM E h t d s=some (v,h')):
 ∃v' w',(Builtin.copy_ ts ty #[d',s']).run E.P w=.ok v' w'/\HRel W B M h' w'/\Keep M h M h' (fun _=>False)/\VRel M v v':=by
 unfold QbM at hr
 split at hr
 case h_2=>cases hr
 rename_i e n hu hn;have hlen:=Q1k (E:=E) (w:=w) hs hn;have g0:(#[d',s']:Array Value)[0]?=some d':=rfl;have g1:(#[d',s']:Array Value)[1]?=some s':=rfl
 split at hr
 · rename_i z a l c hz;cases hd with
   |sl bH=>
   rename_i a' c'
   split at hr
   · rename_i xs fx;obtain⟨fy,xs',gM,bW⟩:=J2 (E:=E) H hs fx;obtain⟨bR,hr⟩:=Qh hr
     split at hr
     · rename_i h1 av;cases hr;have aB:=bW w.drawn;by_cases hl:l=0
       · subst hl
         have cp:xs=[]:=by
          cases xs with
          |nil=>rfl
          |cons=>simp at fy
         subst cp
         have hx1:xs'=[]:=by
          cases xs' with
          |nil=>rfl
          |cons=>have:=gM.1;simp at this
         subst hx1
         -- nothing is written: the block is put as it was
         unfold Zp at av
         split at av
         · cases av
         split at av
         · rename_i cc ee mm hg;obtain⟨hc,av⟩:=Qh av;cases av;obtain⟨b,δ,S,x,hρ,hx,ho⟩:=H.place bH.1 hg (by simp);refine⟨.int .i64 (min n 0:Nat),w,?_,?_,?_,.int _ _⟩
           · simp only[Builtin.copy_,ht,g0,g1,Sem.run_bind,Qf hu w,Result.andThen_ok,hlen,QI hz];have:(Builtin.firstCells (z+1) (n.min 0) s').run E.P w=.ok #[] w:=aB;rw[this];simp[Js,goInt]
           · have hcc:cc.take a.off++([]:List Value)++cc.drop (a.off+([]:List Value).length)=cc:=by simp
             rw[hcc];refine H.put hρ (fun⟨c1,e1,h1⟩=>?_) rfl ⟨rfl,v0b _⟩ rfl rfl hx (fun _ _=>rfl) ho;rw[hg]at h1;cases h1;simp at hc
           refine⟨by rw[Hp.n_put];exact v0b _,fun i hi hk _=>⟨hk,?_⟩⟩;have an:a.block≠i:=fun e0=>hk (e0▸bH.1);rw[Hp.get_put,if_neg an]
         cases av
       obtain⟨w',r,H',K',_⟩:=K0 (E:=E) H (SlRel.live bH (by omega)) gM bR av;refine⟨.int .i64 (min n l:Nat),w',?_,H',K',.int _ _⟩;simp only[Builtin.copy_,ht,g0,g1,Sem.run_bind,Qf hu w,Result.andThen_ok,hlen,QI hz];have:(Builtin.firstCells (z+1) (n.min l) s').run E.P w=.ok xs'.toArray w:=aB;rw[this];simp[r,goInt]
     cases hr
   cases hr
 · rename_i z hz;cases hd;cases hr;refine⟨.int .i64 0,w,?_,H,Keep.refl _ _ _,.int _ _⟩
   have hf:(Builtin.firstCells (z+1) 0 s').run E.P w=.ok #[] w:=by
    unfold KU at hn
    split at hn
    · cases hs with
      |nils=>simp[Builtin.firstCells]
      |sl=>simp[Builtin.firstCells,K6]
    · cases hs;simp[Builtin.firstCells]
    cases hn
   simp only[Builtin.copy_,ht,g0,g1,Sem.run_bind,Qf hu w,Result.andThen_ok,hlen,QI hz];have e0:n.min 0=0:=by simp
   rw[e0,hf];simp[goInt]
 cases hr
end
variable {E:Env}
theorem arr2 {M:Mp} {x y:Value} {a:Array Value} (h:VsRel M [x,y] a.toList): ∃x' y',a= #[x',y']/\VRel M x x'/\VRel M y y':=by
 obtain⟨l⟩:=a
 match l,h with
 | [],h=>have:=h.1;simp at this
 | [_],h=>have:=h.1;simp at this
 | [x',y'],h=>exact⟨x',y',rfl,h.uncons.1,h.uncons.2.uncons.1⟩
 |_::_::_::_,h=>have:=h.1;simp at this
theorem Q7c {M:Mp} {x:Value} {l:List Value} {a:Array Value} (h:VsRel M (x::l) a.toList): ∃x' l',a.toList=x'::l'/\VRel M x x'/\VsRel M l l':=by
 obtain⟨l0⟩:=a
 match l0,h with
 | [],h=>have:=h.1;simp at this
 |x'::l',h=>exact⟨x',l',rfl,h.uncons.1,h.uncons.2⟩
section
variable {W:World} {B:Nat->Prop} {M:Mp} {h:Hp} {w:World} (H:HRel W B M h w)
theorem Jt {tm:Tr Value} {ρ:Operand->Value} {c:Call} {type:TypeId} {d:Deferred} (hE: ∀x∈c.operands,VRel M (ev tm x) (ρ x)) (hr:ZK tm c type=some d):
 ∃d',(resolve ρ c type).run E.P w=.ok d' w/\DRel M d d':=by
 obtain⟨callee,args,argTypes⟩:=c
 have ay:VsRel M (args.map (ev tm)).toList (args.map ρ).toList:=by
  rw[v1I,v1I];refine .map _ _ _ fun x hx=>hE x ?_;cases callee<;>simp[Call.operands]<;>first|exact .inr (by simpa using hx)|simpa using hx
 unfold ZK at hr;cases callee with
 |builtin b=>cases hr;exact⟨_,rfl,⟨rfl,rfl,rfl,rfl⟩,ay⟩
 | invoke r m=>
   cases hr;have hrr:=hE r (by simp[Call.operands]);refine⟨_,rfl,⟨rfl,.nil M⟩,?_⟩;simp only[v2k];exact(VsRel.cons hrr (.nil M)).append ay
 | value f=>
   have hf:=hE f (by simp[Call.operands]);simp only at hr
   split at hr
   · rename_i fn first captured heq
     cases hr;rw[heq]at hf;have aB:(resolve ρ ⟨.value f,args,argTypes⟩ type).run E.P w=(Deferred.ofValue (ρ f) (args.map ρ)).run E.P w:=rfl;rw[aB];generalize ρ f=q at hf;cases hf with
     |func hfn ha hb ka kb=>
     refine⟨_,rfl,⟨hfn,⟨hb,kb⟩⟩,?_⟩;simp only[v2k];exact VsRel.append ⟨ha,ka⟩ ay
   cases hr
theorem YV (H:HRel W B M h w) {o:AObj} {x:Obj} {S m:Nat} (hx:ORel (M.add h.n w.heap.size 0 S m) h.n o 0 S x):
 HRel W B (M.add h.n w.heap.size 0 S m) (h.alloc o) {w with heap:=w.heap.push x}/\Ev M (M.add h.n w.heap.size 0 S m)/\Keep M h (M.add h.n w.heap.size 0 S m) (h.alloc o) (fun _=>False):=by
 have dX: ¬M.K h.n:=fun hk=>by have:=H.kn _ hk;omega
 refine⟨(H.allocX o).push dX (by rw[Hp.n_alloc];omega) (by rw[Hp.get_alloc,if_pos rfl]) hx,Mp.add_ev M _ _ _ _ _ dX,Q0Z fun i hi dC=>?_⟩;rcases dC with rfl|dC
 · omega
 exact dC
theorem Q0v {f:FuncId} {args ad:Array Value} {n:Nx} (H:HRel W B M h w) (ha:VsRel M args.toList ad.toList) (hr:YN E h f args=some n):
 QgO W B E M h w n ((callFunc f ad).run E.P w):=by
 unfold YN at hr;cases hx:E.ext f with
 | true=>
   rw[hx,cond_true]at hr;obtain⟨fn,hf,hnm,hb,hn,he⟩:=E.hext f hx;unfold Q3t at hr
   split at hr
   · rename_i t r ay
     split at hr
     · rename_i es cl hg;cases hr;rw[ay]at ha;obtain⟨v',l',e1,hv,hl⟩:=Q7c ha;have aS:l'=[]:=by have:=hl.1;simpa using this.symm
       subst aS;cases hv with
       | iface hv=>
         cases hv with
         | map hi=>
           rename_i r';obtain⟨S,au,hρ,hxo,jB,bB⟩:=Kf (E:=E) H hi hg;have dX: ¬M.K h.n:=fun hk=>by have:=H.kn _ hk;omega
           have aZ:=Mp.add_ev M h.n w.heap.size 0 0 0 dX;obtain⟨H',e',K⟩:=YV H (o:=.map es cl) (x:=.map au cl) (S:=0) (m:=0) ⟨rfl,au,rfl,jB.mono aZ⟩
           have e2:ad= #[.iface t (.map (some r'))]:=by
            apply v1Z.1;exact e1
           subst e2;refine⟨.iface t (.map (some w.heap.size)),_,_,?_,e',H',K,.iface (.map ⟨.inl rfl,fun b δ S hb=>by simp[Mp.add]at hb;exact hb.1⟩)⟩
           have cK:(Extern.MapsClone.clone #[.iface t (.map (some r'))]).run E.P w=.ok (.iface t (.map (some w.heap.size))) {w with heap:=w.heap.push (.map au cl)}:=by
            have e3:Extern.MapsClone.clone #[.iface t (.map (some r'))]=(getObj r'>>=fun o=>match o with
             | .map entries clock=>(do pure (.iface t (.map (some (<-newObj (.map entries clock))))))
             |_=>stuck "maps.clone: a map expected"):=rfl
            rw[e3];simp only[Sem.run_bind,bB,Result.andThen_ok];rfl
           have aH:(mark (.extern f)).run E.P w=.ok () w:=rfl;simp only[callFunc,Sem.run_bind,run_program,Result.andThen_ok,hf,hnm,v1Y,if_false,hb,if_true,hn,he,aH,cK,Sem.run_pure]
     cases hr
   cases hr
 | false=>
   rw[hx,cond_false]at hr
   split at hr
   · rename_i fn hf;obtain⟨hc,hr⟩:=Qh hr;cases hr;simp only[v0h,v0I]at hc;have hb:fn.body.isNone=false:=by cases hq:fn.body<;>simp[hq]at hc ⊢
     refine⟨ad,?_,ha⟩;simp only[callFunc,Sem.run_bind,run_program,Result.andThen_ok,E.hfn f fn hf,hc.2,v1Y,if_false,hb,Sem.run_pure]
   cases hr
theorem Q8R {t:TypeId} {v:Value} {name:String} {f:FuncId} (hm:Q6N E t name=some f) (n:Nat):
 (method (n+1) t v name).run E.P w=.ok (f,v) w:=by
 unfold Q6N at hm
 split at hm
 · rename_i i hi
   split at hm
   · rename_i m j0
     split at hm
     · rename_i f' hp hfn
       split at hm
       · rename_i e hd;cases hm
         have hu:E.und t=some (.pointer e):=by
          unfold Env.und;rw[hi];obtain⟨desc,_,_,_,_,_,_,_,_,_⟩:=i;simp only at hd;subst hd;rfl
         simp[method,Kw hi,j0,hp,follow,hfn,receiverAt,Qf hu,Place.get]
       cases hm
     · rename_i f' hp hfn
       split at hm
       · cases hm
       · rename_i d bI hu;cases hm;simp only[method,Sem.run_bind,Kw hi,Result.andThen_ok,j0,hp,follow,Sem.run_pure,hfn,receiverAt,Qf hu]
         cases d<;>first
          |(exact absurd rfl (bI _))
          |simp[Place.get]
       cases hm
     cases hm
   cases hm
 cases hm
include H
theorem Kz {d d':Deferred} {n:Nx} (hd:DRel M d d') (hr:ZA E h d=some n):
 QgO W B E M h w n ((invoke d'.target d'.args).run E.P w):=by
 obtain⟨tg,args⟩:=d;obtain⟨tg',ad⟩:=d';obtain⟨ht,ha⟩:=hd;simp only at ht ha;unfold ZA at hr;simp only at hr
 split at hr
 ·
  rename_i f cap;cases tg'<;>simp only[TgRel]at ht<;>try (exact ht.elim)
  rename_i f' jL;obtain⟨hf,cG⟩:=ht;cases f'<;>simp only[FnRel]at hf<;>first|(cases hf;done)|skip
  cases hf
  have aq:VsRel M (args++cap).toList (ad++jL).toList:=by
   simp only[v2k];exact ha.append cG
  exact Q0v H aq hr
 ·
  rename_i l cap;cases hr;cases tg'<;>simp only[TgRel]at ht<;>try (exact ht.elim)
  rename_i f' jL;obtain⟨hf,cG⟩:=ht;cases f'<;>simp only[FnRel]at hf<;>first|(exact hf.elim)|skip
  rename_i l';exact⟨l',ad,hf,ha,rfl⟩
 ·
  rename_i name cap;cases tg'<;>simp only[TgRel]at ht<;>try (exact ht.elim)
  rename_i f' jL;obtain⟨hf,cG⟩:=ht;cases f'<;>simp only[FnRel]at hf<;>first|(cases hf;done)|skip
  cases hf
  split at hr
  · rename_i t v rest hl;rw[hl]at ha;obtain⟨x',l',e1,hx,aS⟩:=Q7c ha;cases hx with
    |iface hv=>
    rename_i v'
    split at hr
    · rename_i f hm;have aB:=Q8R (E:=E) (w:=w) (v:=v') hm (E.P.types.size+99);have e0:ad[0]?=some (.iface t v'):=by rw[<-v1J,e1];rfl
      have e2:(ad.extract 1 ad.size).toList=l':=by
       rw[Array.toList_extract,List.extract_eq_take_drop,e1];have:ad.size=l'.length+1:=by have:=congrArg List.length e1;simpa using this
       rw[this];simp
      have aq:VsRel M (#[v]++rest.toArray).toList (#[v']++ad.extract 1 ad.size).toList:=by
       simp only[v2k];rw[e2];exact(VsRel.cons hv (.nil M)).append (by simpa using aS)
      have hc:=Q0v H (W:=W) (B:=B) (h:=h) (w:=w) aq hr
      have hinv:(invoke (.fn (.method name) jL) ad).run E.P w=(callFunc f (#[v']++ad.extract 1 ad.size)).run E.P w:=by
       have hd:E.P.types.size+Made.depth=E.P.types.size+99+1:=rfl;simp only[invoke,e0,callMethod,Sem.run_bind,run_program,Result.andThen_ok,hd,aB]
      rw[hinv];exact hc
    cases hr
  cases hr
 ·
  rename_i b ts ty cs;cases tg'<;>simp only[TgRel]at ht<;>try (exact ht.elim)
  obtain⟨rfl,rfl,rfl,rfl⟩:=ht
  split at hr
  · rename_i t s x h0 hl;rw[hl]at ha;obtain⟨s',x',rfl,hs,hx⟩:=arr2 ha
    split at hr
    · rename_i t' h1
      split at hr
      · rename_i v h' lJ;cases hr;obtain⟨v',w',M',r1,r2,r3,r4,r5⟩:=Q4D (E:=E) (ty:=ty) H hs hx h0 h1 lJ;exact⟨v',w',M',by simp[invoke,builtin,r1],r2,r3,r4,r5⟩
      cases hr
    cases hr
  · rename_i t a b0 h0 hl;rw[hl]at ha;obtain⟨s',x',rfl,hs,hx⟩:=arr2 ha
    split at hr
    · rename_i v h' lJ;cases hr;obtain⟨v',w',r1,r3,r4,r5⟩:=Q76 (E:=E) (ty:=ty) H hs hx h0 lJ;exact⟨v',w',M,by simp[invoke,builtin,r1],Ev.refl M,r3,r4,r5⟩
    cases hr
  · rename_i t a b0 h0 hl;rw[hl]at ha;obtain⟨s',x',rfl,hs,hx⟩:=arr2 ha
    split at hr
    · rename_i h' lJ;cases hr;obtain⟨w',r1,r3,r4⟩:=Q4v (E:=E) (ty:=ty) H hs hx h0 lJ;exact⟨_,w',M,by simp[invoke,builtin,r1],Ev.refl M,r3,r4,.tuple' (.nil M)⟩
    cases hr
  · cases hr;simp[QgO,invoke,builtin]
  · rename_i x l hl;rw[hl]at ha;obtain⟨x',l',e1,hx,aS⟩:=Q7c ha
    split at hr
    · rename_i t v;cases hr;cases hx with
      |iface hv=>
      rename_i v'
      have e0:ad.getD 0 .nilIface=.iface t v':=by
       have:ad[0]?=some (.iface t v'):=by rw[<-v1J,e1];rfl
       simp[Array.getD_eq_getD_getElem?,this]
      exact⟨.iface t v',by simp[invoke,builtin,e0,Instr.panic],.iface hv⟩
    cases hr
  cases hr
 cases hr
end
variable {E:Env}
section
variable {W:World} {B:Nat->Prop} {M:Mp} {h:Hp} {w:World} (H:HRel W B M h w)
include H
theorem Q1f {tm : Tr Value} {ρ:Operand->Value} {o:Oper} {n:Nx} (hE: ∀x∈o.op.operands,VRel M (ev tm x) (ρ x)) (hr:Z3 E tm o h=some n):
 QgO W B E M h w n ((execOp ρ o).run E.P w):=by
 obtain⟨dst,op,type,pos,after,guard⟩:=o;simp only at hE;cases op<;>simp only[Z3]at hr<;>simp only[Op.operands]at hE
 case store t a x=>
  have ha:=hE a (by simp);have hx:=hE x (by simp)
  split at hr
  · rename_i p heq;rw[heq]at ha
    split at hr
    · rename_i h' av;cases hr;have aB:(execOp ρ ⟨dst,.store t a x,type,pos,after,guard⟩)=(do Instr.storeAt t (ρ a) (ρ x);pure .skip):=rfl;rw[aB];generalize ρ a=q at ha;cases ha with
      |ptr hp=>
      rename_i p';obtain⟨w',r,H',K'⟩:=Q4T (E:=E) H hp hx av;exact⟨w',M,by simp[Instr.storeAt,Instr.sureAddr,r],Ev.refl M,H',K'⟩
    cases hr
  cases hr
 case mapUpdate t m k x=>
  split at hr
  · rename_i h' av;cases hr;obtain⟨w',r,H',K'⟩:=Q0c (E:=E) H (hE m (by simp)) (hE k (by simp)) (hE x (by simp)) av;exact⟨w',M,by simp[execOp,r],Ev.refl M,H',K'⟩
  cases hr
 case insert t m k x=>
  split at hr
  · rename_i h' av;cases hr;obtain⟨w',r,H',K'⟩:=Q0c (E:=E) H (hE m (by simp)) (hE k (by simp)) (hE x (by simp)) av;exact⟨w',M,by simp[execOp,r],Ev.refl M,H',K'⟩
  cases hr
 case mapEntry t m k=>
  split at hr
  · rename_i v h' av;cases hr;obtain⟨v',w',r,H',K',hv⟩:=Q2h (E:=E) H (hE m (by simp)) (hE k (by simp)) av;exact⟨v',w',M,by simp[execOp,r],Ev.refl M,H',K',hv⟩
  cases hr
 case entryStore t m s x=>
  split at hr
  · rename_i h' av;cases hr;obtain⟨w',r,H',K'⟩:=Q17 (E:=E) (t:=t) H (hE m (by simp)) (hE s (by simp)) (hE x (by simp)) av;exact⟨w',M,by simp[execOp,r],Ev.refl M,H',K'⟩
  cases hr
 case range t x=>
  have hx:=hE x (by simp)
  split at hr
  · rename_i s hu heq;rw[heq]at hx;cases hr;have aB:(execOp ρ ⟨dst,.range t x,type,pos,after,guard⟩)=(do pure (.value (<-Instr.range t (ρ x)))):=rfl;rw[aB];generalize ρ x=q at hx;cases hx;obtain⟨H',E',K'⟩:=YV H (o:=.str s 0) (x:=.stringIter s 0) (S:=0) (m:=0) ⟨rfl,rfl⟩;exact⟨.pointer (some ⟨w.heap.size,0,none⟩),_,_,by simp[Instr.range,Qf hu],E',H',K',.ptr ⟨.inl rfl,fun b δ S hb=>by simp[Mp.add]at hb;obtain⟨rfl,rfl,_⟩:=hb;rfl⟩⟩
  · rename_i hu heq;rw[heq]at hx;cases hr;have aB:(execOp ρ ⟨dst,.range t x,type,pos,after,guard⟩)=(do pure (.value (<-Instr.range t (ρ x)))):=rfl;rw[aB];generalize ρ x=q at hx;cases hx;obtain⟨H',E',K'⟩:=YV H (o:=.iter none 0 [] 0) (x:=.mapIter none 0 #[] 0) (S:=0) (m:=0) ⟨rfl,rfl⟩;exact⟨.pointer (some ⟨w.heap.size,0,none⟩),_,_,by simp[Instr.range,Qf hu],E',H',K',.ptr ⟨.inl rfl,fun b δ S hb=>by simp[Mp.add]at hb;obtain⟨rfl,rfl,_⟩:=hb;rfl⟩⟩
  · rename_i r hu heq;rw[heq]at hx
    split at hr
    · rename_i es cl hg;cases hr;have aB:(execOp ρ ⟨dst,.range t x,type,pos,after,guard⟩)=(do pure (.value (<-Instr.range t (ρ x)))):=rfl;rw[aB];generalize ρ x=q at hx;cases hx with
      | map hi=>
        obtain⟨S,au,hρ,hx',he,bB⟩:=Kf (E:=E) H hi hg;rename_i r';have dk: ¬M.K h.n:=fun hk=>by have:=H.kn _ hk;omega
        obtain⟨H',E',K'⟩:=YV H (o:=.iter (some r) cl [] cl) (x:=.mapIter (some r') cl #[] cl) (S:=0) (m:=0) ⟨rfl,r',rfl,hi.mono (Mp.add_ev M h.n w.heap.size 0 0 0 dk)⟩;exact⟨.pointer (some ⟨w.heap.size,0,none⟩),_,_,by simp[Instr.range,Qf hu,bB],E',H',K',.ptr ⟨.inl rfl,fun b δ S hb=>by simp[Mp.add]at hb;obtain⟨rfl,rfl,_⟩:=hb;rfl⟩⟩
    cases hr
  cases hr
 case next it isS=>
  cases isS with
  |false=>cases hr
  | true=>
    have hx:=hE it (by simp);simp only at hr
    split at hr
    · rename_i r heq;rw[heq]at hx;have aB:(execOp ρ ⟨dst,.next it true,type,pos,after,guard⟩)=(do pure (.value (<-Instr.next (ρ it) true type))):=rfl;rw[aB];generalize ρ it=q at hx;cases hx with
      |ptr hp=>
      rename_i p'
      split at hr
      · rename_i s p hg;obtain⟨b,δ,S,x0,hρ,cp,hδ,rfl⟩:=H.place hp.1 hg (by simp);subst hδ;have ep:=hp.2 b 0 S hρ;simp only[v0f]at ep;subst ep;have gE:(getObj b).run E.P w=.ok (.stringIter s p) w:=by simp[getObj,Sem.run,cp]
        by_cases aj:p <s.size
        · rw[(Zg _ _).2 aj,cond_true]at hr;cases hr;obtain⟨p1,p2,p3⟩:=HRel.setObj (E:=E) H (o:=.str s (p+(Utf8.decode s p).2)) (x:=.stringIter s (p+(Utf8.decode s p).2)) hρ cp (by intro c e f hh;cases hh) ⟨rfl,rfl⟩;refine⟨.tuple #[.bool true,goInt p,.int .i32 (Utf8.decode s p).1],_,M,?_,Ev.refl M,p2,p3,.tuple' (.cons (.bool _) (.cons (.int _ _) (.cons (.int _ _) (.nil M))))⟩;simp[Instr.next,gE,aj,p1]
        have:Nat.blt p s.size=false:=by
         cases hb:Nat.blt p s.size with
         |false=>rfl
         |true=>exact absurd ((Zg _ _).1 hb) aj
        rw[this,cond_false]at hr;cases hr;refine⟨.tuple #[.bool false],w,M,?_,Ev.refl M,H,Keep.refl _ _ _,.tuple' (.cons (.bool _) (.nil M))⟩;simp[Instr.next,gE,aj]
      cases hr
    cases hr
 case convert src iM x=>
  have hx:=hE x (by simp)
  split at hr
  · rename_i ds e s hs hd heq;rw[heq]at hx
    split at hr
    · rename_i hu;cases hr;have aB:(execOp ρ ⟨dst,.convert src iM x,type,pos,after,guard⟩)=(do pure (.value (<-convert src iM (ρ x)))):=rfl;rw[aB];generalize ρ x=q at hx;cases hx
      let qq:=Question.appendCap s.size 0 e
      let cap:=qq.cut (w.tape w.drawn qq)
      have cG:s.size<=cap:=by show s.size<=s.size+_;omega
      let cells:Array Value:=(s.data.map fun b=>.int .u8 b.toNat)++v1V (cap -s.size) (.int .u8 0)
      have cO:cells.size=cap:=by
       have:s.data.size=s.size:=rfl;simp only[cells,Array.size_append,Array.size_map,Array.size_replicate,this];omega
      have iD:(convert src iM (.string s)).run E.P w=.ok (.slice (some ⟨w.heap.size,0,none⟩) s.size cap) {w with drawn:=w.drawn+1,heap:=w.heap.push (.cells cells e (cap,cap+1))}:=by
       have r1:=Qf hs w;have r2:=Qf hd w;have r3:=Qf hu w
       have hsb:(Conv.stringToBytes e s).run E.P w=.ok (.slice (some ⟨w.heap.size,0,none⟩) s.size cap) {w with drawn:=w.drawn+1,heap:=w.heap.push (.cells cells e (cap,cap+1))}:=by
        have hf:qq.forced=false:=rfl;simp only[Conv.stringToBytes,Sem.run_bind,run_choose];show(Result.andThen (if qq.forced=true then _ else _) _)=_;rw[hf];simp only[v1Y,if_false,Result.andThen_ok,newRow,Sem.run_bind,run_newObj,Sem.run_pure,markStringish,run_shape];have jf:(World.shape? {w with drawn:=w.drawn+1,heap:=w.heap.push (.cells cells e)} w.heap.size)=some (e,cells.size):=by simp[World.shape?]
        show Result.andThen ((match World.shape? {w with drawn:=w.drawn+1,heap:=w.heap.push (.cells cells e)} w.heap.size with
         |some (_,n)=>freeze {block:=w.heap.size,off:=n} 1
         |_=>pure ()).run E.P {w with drawn:=w.drawn+1,heap:=w.heap.push (.cells cells e)}) _=_
        rw[jf];simp only[run_freeze,Result.andThen_ok,cO]
        congr 1
        simp only[World.freeze,Nat.succ_ne_zero,if_false]
        congr 1
        apply Array.ext_getElem?;intro i;rw[v2i];by_cases hi:w.heap.size=i
        · subst hi;simp
        rw[if_neg hi,v2u,v2u,if_neg (fun e0=>hi e0.symm),if_neg (fun e0=>hi e0.symm)]
       cases ds<;>simp only[convert,Sem.run_bind,r1,r2,r3,Result.andThen_ok,hsb]
      have Hd:=World.drew_HRel H (w.drawn+1) (Nat.le_succ _);have dX: ¬M.K h.n:=fun hk=>by have:=H.kn _ hk;omega
      have hE':=Mp.add_ev M h.n w.heap.size 0 cap 2 dX
      obtain⟨H',E',K'⟩:=YV Hd (o:=.cells (s.data.toList.map fun b=>.int .u8 b.toNat) e 3) (x:=.cells cells e (cap,cap+1)) (S:=cap) (m:=2)
       ⟨cells,(cap,cap+1),rfl,cO.symm,by
        have:s.data.toList.length=s.size:=by rw[Array.length_toList];rfl
        rw[v0s,this];omega,fun j v hj=>by
        rw[v0f]
        have bK:j <s.data.size:=by
         have:=(v0z.1 hj).1;simpa using this
        refine⟨v,?_,?_⟩
        · simp only[cells];rw[Array.getElem?_append_left (by simpa using bK)];simpa using hj
        rw[v0y,v1W]at hj;obtain⟨b,_,rfl⟩:=hj
        exact .int _ _,.inr (.inr ⟨⟨1,rfl,by simp[Mp.add]⟩,fun j hj=>by simp only;omega⟩)⟩
      refine⟨_,_,_,by rw[Sem.run_bind,iD];rfl,E',H',K',.sl ⟨.inl rfl,fun b δ S hb=>?_⟩⟩;simp only[Mp.add,if_true,v0i.injEq,Prod.mk.injEq]at hb;obtain⟨rfl,rfl,rfl⟩:=hb;exact .inr ⟨1,by simp[Mp.add],.inl ⟨rfl,cG,by simp⟩⟩
    cases hr
  · rename_i es e b n k hs hd heq;rw[heq]at hx
    have hsd:src=iM:=by
     cases hq:v0d src iM with
     |true=>exact(QF _ _).1 hq
     |false=>rw[hq]at hr;simp at hr
    subst hsd;simp only[v0N,cond_true]at hr
    split at hr
    · rename_i c e' hu hg;cases hr;have aB:(execOp ρ ⟨dst,.convert src src x,type,pos,after,guard⟩)=(do pure (.value (<-convert src src (ρ x)))):=rfl;rw[aB];generalize ρ x=q at hx;cases hx with
      | sl hp =>
        rename_i a' k';obtain⟨b',δ,S,x0,hρ,cp,c',fr,rfl,hS,jw,cx,hm⟩:=H.place hp.1 hg (by simp);rcases hm with⟨_,bS,rfl,oB,rfl⟩| ⟨h1,_⟩| ⟨⟨s,h1,_⟩,_⟩
        · have eU: ¬RO h b:=fun⟨c1,e1,h1⟩=>by
           rw[hg]at h1;cases h1
          have aj:b' <w.heap.size:=(v0X.1 cp).1;rcases hp.2 b' 0 S hρ with⟨_,rfl,rfl⟩| ⟨s,nv,_⟩
          · have r2:=Qf hd w;have r3:=Qf hu w;have jf:w.shape? b'=some (e',c'.size):=by simp[World.shape?,cp]
            have nP:w.freeze {block:=b',off:=c'.size} 1= {w with heap:=w.heap.setIfInBounds b' (.cells c' e' (c'.size,c'.size+1))}:=by
             unfold World.freeze;rw[if_neg (by decide)]
             congr 1
             apply Array.ext_getElem?;intro i;rw[v2i];by_cases hi:b'=i
             · subst hi;rw[if_pos rfl,cp];simp[aj]
             rw[if_neg hi,v1X hi]
            have iD:(convert src src (.slice (some ⟨b',0+0,none⟩) n k')).run E.P w=.ok (.slice (some ⟨b',0+0,none⟩) n k') {w with heap:=w.heap.setIfInBounds b' (.cells c' e' (c'.size,c'.size+1))}:=by
             have aH:(markStringish ⟨b',0+0,none⟩).run E.P w=.ok () {w with heap:=w.heap.setIfInBounds b' (.cells c' e' (c'.size,c'.size+1))}:=by
              simp only[markStringish,Sem.run_bind,run_shape,Result.andThen_ok,jf,run_freeze,nP]
             have hbq:(src==src)=true:=beq_self_eq_true src;simp only[convert,Sem.run_bind,r2,r3,Result.andThen_ok,hbq,aH,Sem.run_pure]
            have H':=H.put (o:=.cells c e' 1) (x:=.cells c' e' (c'.size,c'.size+1)) (w':= {w with heap:=w.heap.setIfInBounds b' (.cells c' e' (c'.size,c'.size+1))}) hρ eU rfl ⟨rfl,v0b _⟩ rfl (by simp) (by simp[aj]) (fun j hj=>by simp[v1X (fun e0=>hj e0.symm)])
             ⟨c',_,rfl,hS,jw,cx,.inr (.inl ⟨rfl,bS,rfl,oB⟩)⟩
            refine⟨_,_,M,by rw[Sem.run_bind,iD];rfl,Ev.refl M,H',⟨by rw[Hp.n_put];exact v0b _,fun j hj hk _=>⟨hk,?_⟩⟩,.sl hp⟩;have:b≠j:=fun e0=>hk (e0▸hp.1);rw[Hp.get_put,if_neg this]
          rw[bS]at nv;cases nv
        · cases h1
        cases h1
    cases hr
  cases hr
 case call c=>
  split at hr
  · rename_i d hd;obtain⟨d',r,lq⟩:=Jt (E:=E) (w:=w) (ρ:=ρ) (fun x hx=>hE x hx) hd;have:=Kz (E:=E) H lq hr
    have aB:(execOp ρ ⟨dst,.call c,type,pos,after,guard⟩).run E.P w=(invoke d'.target d'.args).run E.P w:=by
     simp only[execOp,Sem.run_bind,r,Result.andThen_ok]
    rw[aB];exact this
  cases hr
 case defer c=>
  split at hr
  · rename_i d hd;cases hr;obtain⟨d',r,lq⟩:=Jt (E:=E) (w:=w) (ρ:=ρ) (fun x hx=>hE x hx) hd;exact⟨d',by simp[execOp,r],lq⟩
  cases hr
 case panic x=>
  have hx:=hE x (by simp)
  split at hr
  · rename_i t v heq;cases hr;rw[heq]at hx;have aB:(execOp ρ ⟨dst,.panic x,type,pos,after,guard⟩)=(do pure (.value (<-Instr.panic (ρ x)))):=rfl;rw[aB];generalize ρ x=q at hx;cases hx with
    |iface hv=>
    rename_i v';exact⟨.iface t v',by simp[Instr.panic],.iface hv⟩
  cases hr
 all_goals cases hr
end
section
variable {W:World} {B:Nat->Prop} {E:Env}
def Q7g (nt:Nat) (tm:Tr Value) (o:Oper) (v:Value):Prop:= ∀d,o.dst=some d->d <nt->ev tm (.tmp d)=v
def Pend (E:Env) (M:Mp) (h:Hp) (lo hi nt:Nat) (tm:Tr Value) (ops:Array Oper) (s:Bool) (c:List Nat) (idf:Nat->Nat) (i:Nat) (o:Oper):Prop:=
 match QH ops tm o with
 |none=>False
 |some false=>Q7g nt tm o undef
 | some true=>match cls E o with
   |0=>i∈c\/((s=true->KI o=true)/\ ∃v,QQ E tm o h=some v/\Q7g nt tm o v)
   |1=> ∃b f,allocX E tm o=some (b,f)/\Q7g nt tm o (f (idf i))/\h.get (idf i)=some b/\ ¬M.K (idf i)/\lo<=idf i/\idf i <hi
   |_=>False
def Q0y (E:Env) (tm:Tr Value) (ops:Array Oper) (o:Oper):Prop:=QH ops tm o=some true/\cls E o=1
structure Draw (E:Env) (M:Mp) (h:Hp) (lo hi nt:Nat) (tm:Tr Value) (ops:Array Oper) (s:Bool) (c rest l:List Nat) (tmps:Array Value) (idf:Nat->Nat):Prop where
 eok:KC ops=true
 tok:Q7k ops=true
 cok:QU ops=true
 ord:Q0R E ops rest=true
 nd:rest.Nodup
 cl:Closed ops rest
 ord':Qe0 ops l
 nd':l.Nodup
 cl':Closed ops l
 sub: ∀i,i∈rest->i∈l
 lt: ∀i,i∈l->i <ops.size
 size:tmps.size=nt
 tmp: ∀t,(t <nt-> ∀i o,i∈l->ops[i]?=some o->o.dst≠some t)->VRel M (ev tm (.tmp t)) (tmps.getD t undef)
 pend: ∀i o,i∈l->i∉rest->ops[i]?=some o->Pend E M h lo hi nt tm ops s c idf i o
 inj: ∀i j o q,i∈l->i∉rest->ops[i]?=some o->Q0y E tm ops o->j∈l->j∉rest->ops[j]?=some q->Q0y E tm ops q->idf i=idf j->i=j
variable {M M':Mp} {h h':Hp} {w w':World} {lo hi aY nt:Nat} {tm bu:Tr Value} {ops:Array Oper} {s:Bool} {c rest l:List Nat} {tmps:Array Value} {idf:Nat->Nat}
theorem Q3w {o:Oper} (hg: ∀g b og d,o.guard=some (g,b)->ops[g]?=some og->og.dst=some d->tm.get d=bu.get d):QH ops tm o=QH ops bu o:=by
 unfold QH;cases hgd:o.guard with
 |none=>rfl
 | some gb=>
   obtain⟨g,b⟩:=gb;simp only;cases fD:ops[g]? with
   |none=>rfl
   | some og=>
     simp only;cases hd:og.dst with
     |none=>rfl
     |some d=>simp only;rw[hg g b og d hgd fD hd]
theorem Q7E (nt:Nat) (tm:Tr Value) (d:Option Nat) (v:Value) (t:Nat) (h:t <nt->d≠some t):(Q1v nt tm d v).get t=tm.get t:=by
 cases d with
 |none=>rfl
 |some d=>rw[Q1v,Q1J,if_neg (by rintro⟨rfl,aj⟩;exact h aj rfl)]
theorem JE (nt:Nat) (tm:Tr Value) (d:Option Nat) (v:Value) (t:Nat) (h:t <nt->d≠some t):ev (Q1v nt tm d v) (.tmp t)=ev tm (.tmp t):=by
 simp only[ev];rw[Q7E nt tm d v t h]
theorem Q3P (nt:Nat) (tm:Tr Value) (o:Oper) (v:Value):Q7g nt (Q1v nt tm o.dst v) o v:=by
 intro d hd aj;simp only[ev,hd,Q1v];rw[Q1J,if_pos ⟨rfl,aj⟩]
theorem Draw.looks (D:Draw E M h lo hi nt tm ops s c rest l tmps idf) {i j:Nat} {o q:Oper} (ho:ops[i]?=some o) (eY:i∉rest) (hq:ops[j]?=some q) (hj:j∈rest):
 (∀t,Operand.tmp t∈o.op.operands->q.dst≠some t)/\(∀g b,o.guard=some (g,b)->g≠j)/\ ∀d,o.dst=some d->q.dst≠some d:=by
 have aj:=(v0X.1 ho).1;obtain⟨h1,h2,h3⟩:=YE D.tok ho hq;refine⟨fun t ht e=>Q67 D.eok D.cl (h2 t ht e) aj eY hj,fun g b hg e=>?_,h1 fun e=>eY (e▸hj)⟩;subst e;exact Q67 D.eok D.cl (h3 _ b hg) aj eY hj
theorem Draw.looksX {j:Nat} (D:Draw E M h lo hi nt tm ops s c (j::rest) l tmps idf) {q:Oper} (hq:ops[j]?=some q):
 (∀t,Operand.tmp t∈q.op.operands->q.dst≠some t)/\(∀g b,q.guard=some (g,b)->g≠j):=by
 have aj:=(v0X.1 hq).1;obtain⟨h1,h2,h3⟩:=YE D.tok hq hq;have hp:=(Yl D.ord).1;refine⟨fun t ht e=>Kq D.eok D.cl hp (h2 t ht e) aj (by simp),fun g b hg e=>?_⟩;subst e;exact Kq D.eok D.cl hp (h3 _ b hg) aj (by simp)
theorem Draw.looksR {p:Nat} (D:Draw E M h lo hi nt tm ops s c rest (p::l) tmps idf) {o:Oper} (ho:ops[p]?=some o) {j:Nat} {q:Oper} (hq:ops[j]?=some q) (hj:j∈p::l):
 (∀t,Operand.tmp t∈o.op.operands->q.dst≠some t)/\(∀g b,o.guard=some (g,b)->g≠j):=by
 have aj:=(v0X.1 ho).1;obtain⟨h1,h2,h3⟩:=YE D.tok ho hq;refine⟨fun t ht e=>Kq D.eok D.cl' D.ord'.1 (h2 t ht e) aj hj,fun g b hg e=>?_⟩;subst e;exact Kq D.eok D.cl' D.ord'.1 (h3 _ b hg) aj hj
theorem Pend.congr {i:Nat} {o:Oper} (P:Pend E M h lo hi nt tm ops s c idf i o) {fw:Nat->Nat} {gf:Nat} {c':List Nat} {s':Bool}
 (he: ∀x,x∈o.op.operands->ev bu x=ev tm x)
 (hg:QH ops bu o=QH ops tm o) (hd: ∀d,o.dst=some d->ev bu (.tmp d)=ev tm (.tmp d)) (bU:Q0y E tm ops o->fw i=idf i)
 (hr:cls E o=0->(i∈c->i∈c')/\ ∀v,(s=true->KI o=true)->QQ E bu o h=some v->i∈c'\/((s'=true->KI o=true)/\QQ E bu o h'=some v))
 (hK:Q0y E tm ops o->lo<=idf i->idf i <hi-> ¬M.K (idf i)-> ∀b,h.get (idf i)=some b-> ¬M'.K (idf i)/\h'.get (idf i)=some b/\gf<=idf i/\idf i <aY):
 Pend E M' h' gf aY nt bu ops s' c' fw i o:=by
 have hD: ∀v,Q7g nt tm o v->Q7g nt bu o v:=fun v hv d e8 aj=>(hd d e8).trans (hv d e8 aj);unfold Pend at P ⊢;rw[hg];cases hw:QH ops tm o with
 |none=>rw[hw]at P;exact P
 | some b=>
   rw[hw]at P;cases b with
   |false=>exact hD _ P
   | true=>
     simp only at P ⊢;cases hc:cls E o with
     | zero=>
       rw[hc]at P;simp only at P ⊢;obtain⟨kS,bz⟩:=hr hc;rcases P with P| ⟨P1,v,P2,P3⟩
       · exact .inl (kS P)
       rcases bz v P1 ((JD E he (.inr rfl)).trans P2)with bz| ⟨a,b⟩
       · exact .inl bz
       exact .inr ⟨a,v,b,hD v P3⟩
     | succ n=>
       cases n with
       | zero=>
         rw[hc]at P;simp only at P ⊢;obtain⟨b,f,p1,p2,p3,p4,p5,p6⟩:=P;obtain⟨q1,q2,q3,q4⟩:=hK ⟨hw,hc⟩ p5 p6 p4 b p3;have iw:=bU ⟨hw,hc⟩;exact⟨b,f,(Q1q E he).trans p1,by rw[iw];exact hD _ p2,by rw[iw];exact q2,by rw[iw];exact q1,by rw[iw];exact q3,by rw[iw];exact q4⟩
       |succ n=>rw[hc]at P;exact P
theorem wanted_put (D:Draw E M h lo hi nt tm ops s c rest l tmps idf) {j:Nat} {q o:Oper} (hq:ops[j]?=some q) (hg: ∀g b,o.guard=some (g,b)->g≠j) (v:Value):
 QH ops (Q1v nt tm q.dst v) o=QH ops tm o:=by
 refine Q3w fun g b og d hgd fD hd=>Q7E nt tm q.dst v d fun _ e=>?_;exact(YE D.tok fD hq).1 (hg g b hgd) d hd e
theorem Draw.stepX {j:Nat} (D:Draw E M h lo hi nt tm ops false [] (j::rest) l tmps idf) {q:Oper} (hq:ops[j]?=some q) {v:Value} (L:HLe h h') (hhi:hi<=aY) {fw:Nat->Nat}
 (bU: ∀i,i≠j->fw i=idf i) (P:Pend E M h' lo aY nt (Q1v nt tm q.dst v) ops false [] fw j q) (cj:Q0y E tm ops q->hi<=fw j)
 (dm: ∀i o,i∈l->i∉j::rest->ops[i]?=some o->Q0y E tm ops o->idf i <hi):
 Draw E M h' lo aY nt (Q1v nt tm q.dst v) ops false [] rest l tmps fw:=by
 obtain⟨hp,_,gk⟩:=Yl D.ord;have jx:j∉rest:=(v0W.1 D.nd).1
 have hw: ∀i o,i∉j::rest->ops[i]?=some o->QH ops (Q1v nt tm q.dst v) o=QH ops tm o:=fun i o hi ho=>
  wanted_put D hq (D.looks ho hi hq (by simp)).2.1 v
 have hwj:QH ops (Q1v nt tm q.dst v) q=QH ops tm q:=wanted_put D hq (D.looksX hq).2 v;refine⟨D.eok,D.tok,D.cok,gk,(v0W.1 D.nd).2,D.cl.tail hp,D.ord',D.nd',D.cl',fun i hi=>D.sub i (by simp[hi]),D.lt,D.size,fun t ht=>?_,fun i o dD eY ho=>?_,?_⟩
 · rw[JE nt tm q.dst v t fun aj=>ht aj j q (D.sub j (by simp)) hq];exact D.tmp t ht
 · by_cases e:i=j
   · subst e;rw[hq]at ho;cases ho;exact P
   have dL:i∉j::rest:=by simp[e,eY]
   obtain⟨l1,l2,l3⟩:=D.looks ho dL hq (by simp)
   refine(D.pend i o dD dL ho).congr (fun x hx=>Q70 fun t et=>JE nt tm q.dst v t fun _=>l1 t (et▸hx)) (hw i o dL ho)
    (fun d hd=>JE nt tm q.dst v d fun _=>l3 d hd) (fun _=>bU i e) (fun _=>⟨fun h=>h,fun u _ hu=>.inr ⟨by simp,Q8I L hu⟩⟩) fun _ a b c' x hx=>⟨c',L _ _ hx,a,v0u b hhi⟩
 intro i k o o' dD eY ho mz fT mf hk my heq;by_cases e:i=j<;>by_cases e':k=j
 · rw[e,e']
 · subst e;rw[hq]at ho;cases ho;have eW:k∉i::rest:=by simp[e',mf]
   have:=dm k o' fT eW hk ⟨(hw k o' eW hk)▸my.1,my.2⟩;have h2:=cj ⟨hwj▸mz.1,mz.2⟩;rw[heq,bU k e']at h2;omega
 · subst e';rw[hq]at hk;cases hk;have dL:i∉k::rest:=by simp[e,eY]
   have:=dm i o dD dL ho ⟨(hw i o dL ho)▸mz.1,mz.2⟩;have h2:=cj ⟨hwj▸my.1,my.2⟩;rw[<-heq,bU i e]at h2;omega
 have dL:i∉j::rest:=by simp[e,eY]
 have eW:k∉j::rest:=by simp[e',mf]
 rw[bU i e,bU k e']at heq;exact D.inj i k o o' dD dL ho ⟨(hw i o dL ho)▸mz.1,mz.2⟩ fT eW hk ⟨(hw k o' eW hk)▸my.1,my.2⟩ heq
theorem Pend.range {i:Nat} {o:Oper} (P:Pend E M h lo hi nt tm ops s c idf i o) (ha:Q0y E tm ops o): ¬M.K (idf i)/\lo<=idf i/\idf i <hi:=by
 unfold Pend at P;rw[ha.1]at P;simp only[ha.2]at P;obtain⟨b,f,_,_,_,p4,p5,p6⟩:=P;exact⟨p4,p5,p6⟩
theorem Draw.stepR {p:Nat} (D:Draw E M h lo hi nt tm ops s c rest (p::l) tmps idf) (hp:p∉rest) {o:Oper} (ho:ops[p]?=some o) (e:Ev M M') {v v':Value} (hv:Q7g nt tm o v)
 (ja:VRel M' v v') (hK: ∀i,lo<=i->i <hi-> ¬M.K i->(Q0y E tm ops o->i≠idf p)-> ¬M'.K i) (df:List Deferred):
 Draw E M' h lo hi nt tm ops s c rest l ((Act.mk tmps df).put o.dst v').tmps idf:=by
 obtain⟨cf,fE⟩:=v0W.1 D.nd'
 have cO:((Act.mk tmps df).put o.dst v').tmps.size=tmps.size:=by
  unfold Act.put;cases o.dst<;>simp
 refine⟨D.eok,D.tok,D.cok,D.ord,D.nd,D.cl,D.ord'.2,fE,D.cl'.tail D.ord'.1,fun i hi=>?_,fun i hi=>D.lt i (by simp[hi]),cO.trans D.size,fun t ht=>?_,fun i q dD eY hq=>?_,?_⟩
 · rcases v0w.1 (D.sub i hi)with rfl|h
   · exact absurd hi hp
   exact h
 · by_cases hd:t <nt/\o.dst=some t
   · obtain⟨aj,hd⟩:=hd
     have:((Act.mk tmps df).put o.dst v').tmps.getD t undef=v':=by
      simp[Act.put,hd,D.size,aj]
     rw[this,hv t hd aj];exact ja
   have:((Act.mk tmps df).put o.dst v').tmps.getD t undef=tmps.getD t undef:=by
    unfold Act.put;cases hod:o.dst with
    |none=>rfl
    | some d=>
      by_cases edt:d=t
      · subst edt;have: ¬d <nt:=fun h=>hd ⟨h,hod⟩;rw[<-D.size]at this;simp[v2f (Nat.le_of_not_lt this)];intro hx;exact absurd hx this
      simp[v1X edt]
   rw[this];refine(D.tmp t fun aj i q hi hq=>?_).mono e;rcases v0w.1 hi with rfl|h
   · rw[ho]at hq;cases hq;exact fun h=>hd ⟨aj,h⟩
   exact ht aj i q h hq
 · have nK:i∈p::l:=by simp[dD]
   refine(D.pend i q nK eY hq).congr (fun _ _=>rfl) rfl (fun _ _=>rfl) (fun _=>rfl) (fun _=>⟨fun h=>h,fun u hs hu=>.inr ⟨hs,hu⟩⟩) fun ha a b k x hx=>⟨hK _ a b k fun lJ heq=>?_,hx,a,b⟩;have:=D.inj i p q o nK eY hq ha (by simp) hp ho lJ heq;subst this;exact cf dD
 exact fun i k q q' dD eY hq ha fT mf hk hb heq=>D.inj i k q q' (by simp[dD]) eY hq ha (by simp[fT]) mf hk hb heq
theorem Draw.operands {p:Nat} (D:Draw E M h lo hi nt tm ops s c rest (p::l) tmps idf) (hG:Gl M) {o:Oper} (ho:ops[p]?=some o) (df:List Deferred):
 ∀x,x∈o.op.operands->VRel M (ev tm x) ((Act.mk tmps df).eval x):=by
 intro x hx;cases x with
 |tmp t=>exact D.tmp t fun _ i q hi hq=>(D.looksR ho hq hi).1 t hx
 | const v=>
   have h1:=v0v.1 D.cok o (by rw[v16];exact v2a ho);exact KR M 20 v (v0v.1 h1 (.const v) (by simpa using hx))
 | global g=>
   have h1:=v0v.1 D.cok o (by rw[v16];exact v2a ho);exact hG.ptr (v0v.1 h1 (.global g) (by simpa using hx))
 |func f=>exact .func' (f:=.func f) (f':=.func f) rfl (.nil M) (.nil M)
theorem Draw.wantedR {p:Nat} (D:Draw E M h lo hi nt tm ops s c rest (p::l) tmps idf) {o:Oper} (ho:ops[p]?=some o) {b:Bool} (hw:QH ops tm o=some b):
 Region.wanted o (yielded ops tmps)=b:=by
 unfold QH at hw;unfold Region.wanted;cases hg:o.guard with
 |none=>rw[hg]at hw;cases hw;rfl
 | some gb =>
   obtain⟨g,want⟩:=gb;rw[hg]at hw;simp only at hw ⊢;unfold yielded;cases fD:ops[g]? with
   |none=>rw[fD]at hw;cases hw
   | some og=>
     rw[fD]at hw;simp only at hw;cases hd:og.dst with
     |none=>rw[hd]at hw;cases hw
     | some d=>
       rw[hd]at hw;simp only at hw
       have bE:=D.tmp d fun _ i q hi hq e=>by
        have an:=(D.looksR ho hq hi).2 g want hg;exact(YE D.tok fD hq).1 an d hd e
       simp only[ev]at bE;simp only[Option.bind_some,hd]
       split at hw
       · rename_i x hx;cases hw;rw[hx]at bE;simp only at bE;generalize hy:tmps.getD d undef=y at bE;cases bE
         have:tmps[d]?=some (.bool x):=by
          cases ht:tmps[d]? with
          |none=>simp[ht,undef]at hy
          |some z=>simp[ht]at hy;rw[hy]
         simp only[this];cases x<;>cases want<;>rfl
       · rename_i x hx;cases hw;rw[hx]at bE;simp only at bE;generalize hy:tmps.getD d undef=y at bE;cases bE;cases ht:tmps[d]? with
         |none=>cases want<;>rfl
         |some z=>simp[ht]at hy;subst hy;cases want<;>rfl
       cases hw
end
section
variable {W:World} {B:Nat->Prop} {E:Env}
theorem Frame.finish_put (b:Frame) (tmps:Array Value) (df:List Deferred) (ops:Array Oper) {i:Nat} {o:Oper} (ho:ops[i]?=some o) (rest:List Nat) (k:List Item) (v:Value):
 (b.atR ⟨tmps,df⟩ (.inRegion ops (i::rest)::k)).finish v=b.atR ((Act.mk tmps df).put o.dst v) (.inRegion ops rest::k):=by
 rw[Frame.finish_atR];simp[ho]
theorem Q0u {o:Oper} {cl:Call} (h:o.op=.defer cl):cls E o=2:=by
 unfold cls;rw[h]
theorem put_defers (tmps:Array Value) (df:List Deferred) (d:Option Tmp) (v:Value):(Act.mk tmps df).put d v=⟨((Act.mk tmps df).put d v).tmps,df⟩:=by
 cases d<;>rfl
theorem Q0G {P:Program} {b:Frame} {tmps:Array Value} {df:List Deferred} {ops:Array Oper} {i:Nat} {o:Oper} {rest:List Nat} {k:List Item} {cs:List Frame} {w w':World} {v:Value}
 (ho:ops[i]?=some o) (hw:Region.wanted o (yielded ops tmps)=true) (hr:(o.semAt b.roundOf (Act.mk tmps df).eval).run P w=.ok (.value v) w'):
 step P (lone (b.atR ⟨tmps,df⟩ (.inRegion ops (i::rest)::k)) cs w)=.next (lone (b.atR ((Act.mk tmps df).put o.dst v) (.inRegion ops rest::k)) cs w'):=by
 refine step_lone_go ?_;rw[stepGR_op ho hw];simp only[stepG.apply,Sem.runT_eq,hr,GStep.bare_after,GStep.bare_go,if_true];rw[Frame.finish_put b tmps df ops ho]
theorem Q6i {P:Program} {b:Frame} {tmps:Array Value} {df:List Deferred} {ops:Array Oper} {i:Nat} {o:Oper} {rest:List Nat} {k:List Item} {cs:List Frame} {w w':World}
 (ho:ops[i]?=some o) (hw:Region.wanted o (yielded ops tmps)=true) (hr:(o.semAt b.roundOf (Act.mk tmps df).eval).run P w=.ok .skip w'):
 step P (lone (b.atR ⟨tmps,df⟩ (.inRegion ops (i::rest)::k)) cs w)=.next (lone (b.atR ((Act.mk tmps df).put o.dst undef) (.inRegion ops rest::k)) cs w'):=by
 refine step_lone_go ?_;rw[stepGR_op ho hw];simp only[stepG.apply,Sem.runT_eq,hr,GStep.bare_after,GStep.bare_go,if_true];rw[Frame.finish_put b tmps df ops ho]
def KeepFrom (lo:Nat) (M:Mp) (h:Hp) (M':Mp) (h':Hp):Prop:=Keep M h M' h' (fun i=>lo<=i)
theorem Q8k {h:Hp} {lo hi nt:Nat} {tm:Tr Value} {ops:Array Oper} {rest:List Nat} {idf:Nat->Nat} {b:Frame} {df:List Deferred} {k:List Item} {cs:List Frame} (hhi:hi<=h.n):
 ∀ (l:List Nat) (M:Mp) (w:World) (tmps:Array Value),HRel W B M h w->Draw E M h lo hi nt tm ops false [] rest l tmps idf->
   ∃ M' w' l' aE,Steps E.P (lone (b.atR ⟨tmps,df⟩ (.inRegion ops l::k)) cs w) (lone (b.atR ⟨aE,df⟩ (.inRegion ops l'::k)) cs w')/\
     Ev M M'/\HRel W B M' h w'/\KeepFrom lo M h M' h/\Draw E M' h lo hi nt tm ops false [] rest l' aE idf/\(∀j t,l'=j::t->j∈rest):=by
 intro l
 induction l with
 |nil=>exact fun M w tmps H D=>⟨M,w,[],tmps,.refl _ _,.refl M,H,Keep.refl M h _,D,by intro j t e;cases e⟩
 | cons p l ih=>
   intro M w tmps H D;by_cases hp:p∈rest
   · exact⟨M,w,p::l,tmps,.refl _ _,.refl M,H,Keep.refl M h _,D,by intro j t e;cases e;exact hp⟩
   have aj:=D.lt p (by simp);have ho:ops[p]?=some ops[p]:=Array.getElem?_eq_getElem aj;generalize ops[p]=o at ho;have P:=D.pend p o (by simp) hp ho;unfold Pend at P;cases hw:QH ops tm o with
   |none=>rw[hw]at P;exact P.elim
   | some x=>
     have hwR:=D.wantedR ho hw;rw[hw]at P;cases x with
     | false=>
       simp only at P;have D':=D.stepR hp ho (.refl M) P (.undef M) (fun i _ _ hk _=>hk) df;obtain⟨M',w',l',aE,S,h1,h2,h3,h4,h5⟩:=ih M w _ H D';refine⟨M',w',l',aE,.head ?_ S,h1,h2,h3,h4,h5⟩;have:=stepR_op_skip (P:=E.P) (b:=b) (a:=⟨tmps,df⟩) (k:=k) (cs:=cs) (w:=w) (ops:=ops) (i:=p) (rest:=l) (by simp[ho,hwR]);rw[this];simp only[ho,Option.bind_some];rw[put_defers]
     | true=>
       simp only at P;have hE:=D.operands H.glob ho df;cases hc:cls E o with
       | zero=>
         rw[hc]at P;simp only[List.not_mem_nil,false_or]at P;obtain⟨_,v,hv,hd⟩:=P;obtain⟨v',hr,ja⟩:=Q25 H hE hv;have D':=D.stepR hp ho (.refl M) hd ja (fun i _ _ hk _=>hk) df;obtain⟨M',w',l',aE,S,h1,h2,h3,h4,h5⟩:=ih M w _ H D';refine⟨M',w',l',aE,.head ?_ S,h1,h2,h3,h4,h5⟩;rw[Q0G (v:=v') ho hwR (by rw[Oper.semAt_eq _ _ _ fun cl e=>by rw[Q0u e]at hc;cases hc];exact hr),put_defers]
       | succ n=>
         cases n with
         | zero=>
           rw[hc]at P;simp only at P;obtain⟨bo,f,ha,hd,hg,hk,h5,h6⟩:=P;obtain⟨x,S,v',hr,hx⟩:=Q1p (w:=w) hE ha;obtain⟨hx1,kE⟩:=hx (idf p) hk;have H':=H.push hk (v0u h6 hhi) hg hx1;have aZ:=Mp.add_ev M (idf p) w.heap.size 0 S 0 hk
           have D':=D.stepR hp ho aZ hd kE (fun i _ _ hk an=>by
            simp only[Mp.add,not_or];exact⟨an ⟨hw,hc⟩,hk⟩) df
           obtain⟨M',w',l',aE,S,h1,h2,h3,h4,h5'⟩:=ih _ _ _ H' D';refine⟨M',w',l',aE,.head ?_ S,aZ.trans h1,h2,?_,h4,h5'⟩
           · rw[Q0G (v:=v') ho hwR (by rw[Oper.semAt_eq _ _ _ fun cl e=>by rw[Q0u e]at hc;cases hc];exact hr),put_defers]
           refine Keep.trans ⟨v0b _,fun i _ dC hX=>⟨?_,rfl⟩⟩ h3;simp only[Mp.add,not_or];exact⟨fun e=>hX (e▸h5),dC⟩
         |succ n=>rw[hc]at P;exact P.elim
theorem Draw.same_head {M:Mp} {h:Hp} {lo hi nt:Nat} {tm:Tr Value} {ops:Array Oper} {c rest l:List Nat} {s:Bool} {idf:Nat->Nat} {tmps:Array Value} {i:Nat}
 (D:Draw E M h lo hi nt tm ops s c (i::rest) l tmps idf) (hc:Q9a E ops i=2) (hh: ∀j t,l=j::t->j∈i::rest): ∃t,l=i::t:=by
 cases l with
 |nil=>exact absurd (D.sub i (by simp)) (by simp)
 | cons j t=>
   have hj:=hh j t rfl;rcases v0w.1 hj with rfl|hj'
   · exact⟨t,rfl⟩
   obtain⟨p,hp,hpm⟩:=(Yl D.ord).2.1 hc j hj';exact absurd (D.sub p hpm) (D.ord'.1 p hp)
end
inductive ItRel (M:Mp):It->Item->Prop
 |code (c):ItRel M (.code c) (.code c)
 |inBlock (i):ItRel M (.inBlock i) (.inBlock i)
 |inLoop (c):ItRel M (.inLoop c) (.inLoop c)
 |inScope (c):ItRel M (.inScope c) (.inScope c)
 |inRegion (ops l) (h:QU ops=true):ItRel M (.inRegion ops l) (.inRegion ops l)
 |inRangeFunc {l l'} (h:IdRel M l l'):ItRel M (.inRangeFunc l) (.inRangeFunc l')
 |endRangeFunc {l l'} (h:IdRel M l l'):ItRel M (.endRangeFunc l) (.endRangeFunc l')
 |beginRound:ItRel M .beginRound .beginRound
inductive ItsRel (M:Mp):List It->List Item->Prop
 |nil:ItsRel M [] []
 |cons {x y k k'} (h:ItRel M x y) (t:ItsRel M k k'):ItsRel M (x::k) (y::k')
def RoRel (M:Mp):Option Nat->Option Nat->Prop
 |none,none=>True
 |some l,some l'=>IdRel M l l'
 |_,_=>False
def ChRel (M:Mp):List PanicEntry->List PanicEntry->Prop
 | [],[]=>True
 |p::l,p'::l'=>(VRel M p.v p'.v/\p'.recovered=p.recovered/\p'.goexit=p.goexit)/\ChRel M l l'
 |_,_=>False
def MdRel (M:Mp):FrameMode->FrameMode->Prop
 | .run,.run=>True
 | .returning,.returning=>True
 | .panicking c,.panicking c'=>ChRel M c c'
 |_,_=>False
def Q1Z:ResultVar->Nat
 | .tmp t=>t
 | .cell t _=>t
section
variable {W:World} {B:Nat->Prop} {E:Env}
def ResRel (E:Env) (M:Mp) (fn:FuncId) (tm:Tr Value) (tmps:Array Value):Prop:=
 ∀f,E.fn fn=some f-> ∀r,r∈f.results.toList->VRel M (ev tm (.tmp (Q1Z r))) (tmps.getD (Q1Z r) undef)
def Body (E:Env) (M:Mp) (h:Hp) (lo nt:Nat) (tm:Tr Value) (todo:List It) (todo':List Item) (tmps:Array Value):Prop:=
 match todo with
 | .draw ops rest::k=> ∃l k' idf,todo'=.inRegion ops l::k'/\ItsRel M k k'/\Draw E M h lo h.n nt tm ops false [] rest l tmps idf
 | .chk ops c rest::k=> ∃l k' idf,todo'=.inRegion ops l::k'/\ItsRel M k k'/\Draw E M h lo h.n nt tm ops false c rest l tmps idf
 |todo=>ItsRel M todo todo'/\TRel M tm tmps/\tmps.size=nt
def Wait (E:Env) (M:Mp) (h:Hp) (lo hi nt:Nat) (tm:Tr Value) (todo:List It) (todo':List Item) (tmps:Array Value):Prop:=
 match todo with
 | .draw ops rest::k=> ∃i bg l k' idf,rest=i::bg/\todo'=.inRegion ops (i::l)::k'/\ItsRel M k k'/\Draw E M h lo hi nt tm ops true (QgH E ops i bg) (i::bg) (i::l) tmps idf
 | .chk _ _ _::_=>False
 |todo=>ItsRel M todo todo'/\TRel M tm tmps/\tmps.size=nt
def Q7f (E:Env) (M:Mp) (h:Hp) (lo:Nat) (fr:Fr) (az:Frame):Prop:=
 az.fn=fr.fn/\az.kind=fr.kind/\RoRel M fr.ro az.roundOf/\DsRel M fr.defers az.defers/\MdRel M fr.mode az.mode/\
  (match fr.mode with
   | .run=>Body E M h lo fr.nt fr.tm fr.todo az.todo az.tmps
   |_=>ResRel E M fr.fn fr.tm az.tmps)
def FrWait (E:Env) (M:Mp) (h:Hp) (lo hi:Nat) (fr:Fr) (az:Frame):Prop:=
 az.fn=fr.fn/\az.kind=fr.kind/\RoRel M fr.ro az.roundOf/\DsRel M fr.defers az.defers/\MdRel M fr.mode az.mode/\
  (match fr.mode with
   | .run=>Wait E M h lo hi fr.nt fr.tm fr.todo az.todo az.tmps
   |_=>ResRel E M fr.fn fr.tm az.tmps)
def StackRel (E:Env) (M:Mp) (h:Hp) (bA:List Frame):Nat->List Fr->List Frame->Prop
 |_,[],cs'=>cs'=bA
 |_,_::_,[]=>False
 |n,c::cs,c'::cs'=> ∃lo,lo<=n/\FrWait E M h lo n c c'/\StackRel E M h bA lo cs cs'
def Sim (W:World) (B:Nat->Prop) (E:Env) (bA:List Frame) (s:St) (m:Machine):Prop:=
 ∃M lo az cs' w,m=lone az cs' w/\HRel W B M s.h w/\lo<=s.h.n/\Q7f E M s.h lo s.fr az/\StackRel E M s.h bA lo s.cs cs'
variable {M M':Mp} {h h':Hp} {w w':World} {lo hi aY nt:Nat} {tm bu:Tr Value} {ops:Array Oper} {s:Bool} {c rest l:List Nat} {tmps:Array Value} {idf:Nat->Nat}
theorem ItRel.mono (e:Ev M M') {x:It} {y:Item} (r:ItRel M x y):ItRel M' x y:=by
 cases r with
 |code c=>exact .code c
 |inBlock i=>exact .inBlock i
 |inLoop c=>exact .inLoop c
 |inScope c=>exact .inScope c
 |inRegion ops l h=>exact .inRegion ops l h
 |inRangeFunc h=>exact .inRangeFunc (h.mono e)
 |endRangeFunc h=>exact .endRangeFunc (h.mono e)
 |beginRound=>exact .beginRound
theorem ItsRel.mono (e:Ev M M') {x:List It} {y:List Item} (r:ItsRel M x y):ItsRel M' x y:=by
 induction r with
 |nil=>exact .nil
 |cons h t ih=>exact .cons (h.mono e) ih
theorem RoRel.mono (e:Ev M M') {x y:Option Nat} (r:RoRel M x y):RoRel M' x y:=by
 cases x<;>cases y<;>simp only[RoRel]at r ⊢
 exact IdRel.mono e r
theorem ChRel.mono (e:Ev M M'): ∀ {x y:List PanicEntry},ChRel M x y->ChRel M' x y
 | [],[],_=>trivial
 | [],_::_,h=>h.elim
 |_::_,[],h=>h.elim
 |_::_,_::_,h=>⟨⟨h.1.1.mono e,h.1.2⟩,ChRel.mono e h.2⟩
theorem ChRel.append: ∀ {a b c d:List PanicEntry},ChRel M a b->ChRel M c d->ChRel M (a++c) (b++d)
 | [],[],_,_,_,k=>k
 | [],_::_,_,_,h,_=>h.elim
 |_::_,[],_,_,h,_=>h.elim
 |_::_,_::_,_,_,h,k=>⟨h.1,ChRel.append h.2 k⟩
theorem MdRel.mono (e:Ev M M') {x y:FrameMode} (r:MdRel M x y):MdRel M' x y:=by
 cases x<;>cases y<;>simp only[MdRel]at r ⊢
 exact ChRel.mono e r
theorem ResRel.mono (e:Ev M M') {fn:FuncId} (r:ResRel E M fn tm tmps):ResRel E M' fn tm tmps:=fun f hf x hx=>(r f hf x hx).mono e
theorem TRel.res (h:TRel M tm tmps) (fn:FuncId):ResRel E M fn tm tmps:=fun _ _ r _=>h (Q1Z r)
theorem Draw.mono (D:Draw E M h lo hi nt tm ops true c rest l tmps idf) (e:Ev M M') (hk: ∀i,lo<=i->i <hi-> ¬M.K i-> ¬M'.K i/\h'.get i=h.get i) (hh:hi<=aY):
 Draw E M' h' lo aY nt tm ops true c rest l tmps idf:=
 { D with
   tmp:=fun t ht=>(D.tmp t ht).mono e
   pend:=fun i o hl hr ho=>(D.pend i o hl hr ho).congr (fun _ _=>rfl) rfl (fun _ _=>rfl) (fun _=>rfl)
    (fun _=>⟨fun h=>h,fun v hs hv=>.inr ⟨hs,(JD E (fun _ _=>rfl) (.inl (hs rfl))).symm.trans hv⟩⟩)
    (fun _ a b k x hx=>by obtain⟨p,q⟩:=hk _ a b k;exact⟨p,q.trans hx,a,v0u b hh⟩)}
theorem Wait.mono {todo:List It} {todo':List Item} (R:Wait E M h lo hi nt tm todo todo' tmps) (e:Ev M M') (hk: ∀i,lo<=i->i <hi-> ¬M.K i-> ¬M'.K i/\h'.get i=h.get i) (hh:hi<=aY):
 Wait E M' h' lo aY nt tm todo todo' tmps:=by
 unfold Wait at R ⊢
 split at R
 · obtain⟨i,bg,l,k',idf,h1,h2,h3,h4⟩:=R;exact⟨i,bg,l,k',idf,h1,h2,h3.mono e,h4.mono e hk hh⟩
 · exact R.elim
 exact⟨R.1.mono e,R.2.1.mono e,R.2.2⟩
theorem FrWait.mono {fr:Fr} {az:Frame} (R:FrWait E M h lo hi fr az) (e:Ev M M') (hk: ∀i,lo<=i->i <hi-> ¬M.K i-> ¬M'.K i/\h'.get i=h.get i) (hh:hi<=aY):
 FrWait E M' h' lo aY fr az:=by
 obtain⟨h1,h2,h3,h4,h5,h6⟩:=R;refine⟨h1,h2,h3.mono e,h4.mono e,h5.mono e,?_⟩
 split at h6
 · exact h6.mono e hk hh
 exact h6.mono e
theorem StackRel.mono {bA:List Frame} (e:Ev M M'): ∀ {n:Nat} {cs:List Fr} {cs':List Frame},StackRel E M h bA n cs cs'->(∀i,i <n-> ¬M.K i-> ¬M'.K i/\h'.get i=h.get i)->
 StackRel E M' h' bA n cs cs'
 |_,[],_,R,_=>R
 |_,_::_,[],R,_=>R.elim
 | _n,_c::_cs,_c'::_cs',⟨lo,h1,h2,h3⟩,hk=>
   ⟨lo,h1,h2.mono e (fun i _ hi=>hk i hi) (v0b _),StackRel.mono e h3 fun i hi=>hk i (v0u hi h1)⟩
theorem KeepFrom.low {lo:Nat} (k:KeepFrom lo M h M' h') (hl:lo<=h.n): ∀i,i <lo-> ¬M.K i-> ¬M'.K i/\h'.get i=h.get i:=
 fun i hi hk=>k.2 i (v0u hi hl) hk (Nat.not_le_of_lt hi)
theorem Body.plain {todo:List It} {todo':List Item} (a:ItsRel M todo todo') (b:TRel M tm tmps) (c:tmps.size=nt):Body E M h lo nt tm todo todo' tmps:=by
 cases a with
 |nil=>exact⟨.nil,b,c⟩
 |cons x t=>cases x<;>exact⟨.cons (by constructor<;>assumption) t,b,c⟩
theorem Q3O (tmps:Array Value) (df:List Deferred) (d:Option Tmp) (v:Value):((Act.mk tmps df).put d v).tmps.size=tmps.size:=by
 cases d<;>simp[Act.put]
theorem Q7D (tmps:Array Value) (df:List Deferred) (d:Option Tmp) (v:Value) (t:Nat):
 ((Act.mk tmps df).put d v).tmps.getD t undef=if d=some t/\t <tmps.size then v else tmps.getD t undef:=by
 cases d with
 |none=>simp[Act.put]
 | some d=>
   by_cases e:d=t
   · subst e;by_cases aj:d <tmps.size
     · simp[Act.put,aj]
     simp[Act.put,aj]
   simp[Act.put,e,v1X e]
theorem Qbv (nt:Nat) (tm:Tr Value) (d:Option Nat) (v:Value) (t:Nat):ev (Q1v nt tm d v) (.tmp t)=if d=some t/\t <nt then v else ev tm (.tmp t):=by
 by_cases e:d=some t/\t <nt
 · obtain⟨e,aj⟩:=e;subst e;rw[if_pos ⟨rfl,aj⟩];simp only[ev,Q1v];rw[Q1J,if_pos ⟨rfl,aj⟩]
 rw[if_neg e,JE];exact fun aj he=>e ⟨he,aj⟩
theorem TRel.put (T:TRel M tm tmps) (hs:tmps.size=nt) {v v':Value} (hv:VRel M v v') (d:Option Nat) (df:List Deferred):TRel M (Q1v nt tm d v) ((Act.mk tmps df).put d v').tmps:=by
 intro t;rw[Qbv,Q7D,hs]
 split
 · exact hv
 exact T t
theorem Draw.finish {i:Nat} (D:Draw E M h lo hi nt tm ops true c (i::rest) (i::l) tmps idf) {q:Oper} (hq:ops[i]?=some q) {v v':Value} (hv:VRel M v v') (hh:hi<=aY) (df:List Deferred):
 Draw E M h lo aY nt (Q1v nt tm q.dst v) ops false c rest l ((Act.mk tmps df).put q.dst v').tmps idf:=by
 obtain⟨hp,_,gk⟩:=Yl D.ord;obtain⟨eY,fE⟩:=v0W.1 D.nd;obtain⟨dD,hnd'⟩:=v0W.1 D.nd';refine⟨D.eok,D.tok,D.cok,gk,fE,D.cl.tail hp,D.ord'.2,hnd',D.cl'.tail D.ord'.1,fun j hj=>?_,fun j hj=>D.lt j (by simp[hj]),(Q3O _ _ _ _).trans D.size,fun t ht=>?_,fun j o bK jx ho=>?_,?_⟩
 · rcases v0w.1 (D.sub j (by simp[hj]))with rfl|h
   · exact absurd hj eY
   exact h
 · rw[Qbv,Q7D,D.size]
   split
   · exact hv
   rename_i hn;refine D.tmp t fun aj j o hj ho=>?_;rcases v0w.1 hj with rfl|hj
   · rw[hq]at ho;cases ho;exact fun e=>hn ⟨e,aj⟩
   exact ht aj j o hj ho
 · have nI:j≠i:=fun e=>dD (e▸bK);have iv:j∉i::rest:=by simp[nI,jx]
   obtain⟨l1,l2,l3⟩:=D.looks ho iv hq (by simp)
   exact(D.pend j o (by simp[bK]) iv ho).congr (fun x hx=>Q70 fun t et=>JE nt tm q.dst v t fun _=>l1 t (et▸hx)) (wanted_put D hq l2 v)
    (fun d hd=>JE nt tm q.dst v d fun _=>l3 d hd) (fun _=>rfl) (fun _=>⟨fun h=>h,fun u _ hu=>.inr ⟨by simp,hu⟩⟩) fun _ a b k x hx=>⟨k,hx,a,v0u b hh⟩
 intro j k o o' bK jx ho ha fT mf hk hb heq;have nI:j≠i:=fun e=>dD (e▸bK);have dC:k≠i:=fun e=>dD (e▸fT);have iv:j∉i::rest:=by simp[nI,jx]
 have eW:k∉i::rest:=by simp[dC,mf]
 have w1:=wanted_put D hq (D.looks ho iv hq (by simp)).2.1 v;have w2:=wanted_put D hq (D.looks hk eW hq (by simp)).2.1 v;exact D.inj j k o o' (by simp[bK]) iv ho ⟨w1▸ha.1,ha.2⟩ (by simp[fT]) eW hk ⟨w2▸hb.1,hb.2⟩ heq
theorem ZT {fr ed:Fr} {az:Frame} (R:FrWait E M h lo hi fr az) {v v':Value} (hv:VRel M v v') (hf:QX E fr v=some ed) (hh:hi<=h.n):Q7f E M h lo ed (az.finish v'):=by
 obtain⟨fn,nt,tm,todo,df,md,kd,ro⟩:=fr;obtain⟨jJ,aE,todo',df',dg,lT,ro'⟩:=az;obtain⟨h1,h2,h3,h4,h5,h6⟩:=R;simp only at h1 h2 h3 h4 h5 h6;subst h1;subst h2;unfold QX at hf
 split at hf
 · rename_i bS;cases bS;cases dg<;>simp only[MdRel]at h5
   simp only at h6
   split at hf
   ·
    obtain⟨h61,h62,h63⟩:=h6;cases h61 with
    | cons hx ht=>
      cases hx with
      | inRegion _ _ hc=>
        split at hf
        · rename_i o ho;cases hf;show Q7f E M h lo _ (Frame.finish (Frame.atR ⟨jJ,aE,[],df',.run,lT,ro'⟩ ⟨aE,df'⟩ _) v');rw[Frame.finish_put _ _ _ _ ho];refine⟨rfl,rfl,h3,?_,trivial,Body.plain (.cons (.inRegion _ _ hc) ht) (h62.put h63 hv _ _) ((Q3O _ _ _ _).trans h63)⟩;rw[put_defers];exact h4
        cases hf
   ·
    obtain⟨i,bg,l,k',idf,e1,e2,e3,D⟩:=h6;cases e1;subst e2
    split at hf
    · rename_i o ho;cases hf;show Q7f E M h lo _ (Frame.finish (Frame.atR ⟨jJ,aE,[],df',.run,lT,ro'⟩ ⟨aE,df'⟩ _) v');rw[Frame.finish_put _ _ _ _ ho];refine⟨rfl,rfl,h3,?_,trivial,l,k',idf,rfl,e3,D.finish ho hv hh df'⟩;rw[put_defers];exact h4
    cases hf
   ·
    cases hf;obtain⟨h61,h62,h63⟩:=h6;cases h61 with
    | cons hx ht=>
      cases hx with
      |inRangeFunc hl=>exact⟨rfl,rfl,h3,h4,trivial,Body.plain (.cons (.endRangeFunc hl) ht) h62 h63⟩
   cases hf
 cases hf
end
section
variable {P:Program} {b:Frame} {tmps:Array Value} {df:List Deferred} {ops:Array Oper} {i:Nat} {o:Oper} {rest:List Nat} {k:List Item} {cs:List Frame} {w w':World}
theorem KN {f:FuncId} {args:Array Value} (ho:ops[i]?=some o) (hw:Region.wanted o (yielded ops tmps)=true) (hr:(o.semAt b.roundOf (Act.mk tmps df).eval).run P w=.ok (.enter f args) w'):
 step P (lone (b.atR ⟨tmps,df⟩ (.inRegion ops (i::rest)::k)) cs w)=.next (lone (Frame.enter P f args .normal) (b.atR ⟨tmps,df⟩ (.inRegion ops (i::rest)::k)::cs) w'):=by
 refine step_lone_go ?_;rw[stepGR_op ho hw];simp only[stepG.apply,Sem.runT_eq,hr,GStep.bare_after,GStep.bare_go,if_true,Frame.atR]
theorem Q4U {l:Nat} {f:FuncId} {ts:Array Value} {x y:Code} (ho:ops[i]?=some o) (hw:Region.wanted o (yielded ops tmps)=true) (hr:(o.semAt b.roundOf (Act.mk tmps df).eval).run P w=.ok (.round l f ts x y) w'):
 step P (lone (b.atR ⟨tmps,df⟩ (.inRegion ops (i::rest)::k)) cs w)=.next (lone (Frame.round l f ts x y .normal) (b.atR ⟨tmps,df⟩ (.inRegion ops (i::rest)::k)::cs) w'):=by
 refine step_lone_go ?_;rw[stepGR_op ho hw];simp only[stepG.apply,Sem.runT_eq,hr,GStep.bare_after,GStep.bare_go,if_true,Frame.atR]
theorem Q4W {d:Deferred} (ho:ops[i]?=some o) (hw:Region.wanted o (yielded ops tmps)=true) (hr:(o.semAt b.roundOf (Act.mk tmps df).eval).run P w=.ok (.defer d) w'):
 step P (lone (b.atR ⟨tmps,df⟩ (.inRegion ops (i::rest)::k)) cs w)=.next (lone ((b.atR ⟨tmps,d::df⟩ (.inRegion ops (i::rest)::k)).finish undef) cs w'):=by
 refine step_lone_go ?_;rw[stepGR_op ho hw];simp only[stepG.apply,Sem.runT_eq,hr,GStep.bare_after,GStep.bare_go,if_true,Frame.atR]
theorem Q4V {v:Value} (ho:ops[i]?=some o) (hw:Region.wanted o (yielded ops tmps)=true) (hr:(o.semAt b.roundOf (Act.mk tmps df).eval).run P w=.halt (.panic v) w'):
 step P (lone (b.atR ⟨tmps,df⟩ (.inRegion ops (i::rest)::k)) cs w)=.next (lone ((b.atR ⟨tmps,df⟩ (.inRegion ops (i::rest)::k)).raise [{v,recovered:=false}]) cs w'):=by
 refine step_lone_go ?_;rw[stepGR_op ho hw];simp only[stepG.apply,Sem.runT_eq,hr,GStep.bare_after,GStep.bare_go,if_true]
theorem Q2M (hb:b.roundOf=none) (ho:ops[i]?=some o) (hw:Region.wanted o (yielded ops tmps)=true) (hr:(o.semAt b.roundOf (Act.mk tmps df).eval).run P w=.ok .recover w') {v:Value} {cJ:List Frame}
 (ht:(match tryRecover (b.atR ⟨tmps,df⟩ (.inRegion ops (i::rest)::k)) cs with|some x=>x|none=>(.nilIface,cs))=(v,cJ)):
 step P (lone (b.atR ⟨tmps,df⟩ (.inRegion ops (i::rest)::k)) cs w)=.next (lone ((b.atR ⟨tmps,df⟩ (.inRegion ops (i::rest)::k)).finish v) cJ w'):=by
 refine step_lone_go ?_;rw[stepGR_op ho hw];have bk:(b.atR ⟨tmps,df⟩ (.inRegion ops (i::rest)::k)).roundOf=none:=hb;simp only[stepG.apply,Sem.runT_eq,hr,GStep.bare_after,if_true,bk];cases bZ:tryRecover (b.atR ⟨tmps,df⟩ (.inRegion ops (i::rest)::k)) cs with
 |none=>rw[bZ]at ht;cases ht;rfl
 |some x=>rw[bZ]at ht;cases x;cases ht;rfl
end
section
variable {W:World} {B:Nat->Prop} {E:Env} {M M':Mp} {h h':Hp} {w w':World} {lo hi:Nat} {bA:List Frame}
theorem Q5c {fr ed:Fr} {az:Frame} (R:FrWait E M h lo hi fr az) {ch ch':List PanicEntry} (hc:ChRel M ch ch') (hf:Q7B E fr ch=some ed) (h':Hp) (gf:Nat):
 Q7f E M h' gf ed (az.raise ch'):=by
 obtain⟨fn,nt,tm,todo,df,md,kd,ro⟩:=fr;obtain⟨jJ,aE,todo',df',dg,lT,ro'⟩:=az;obtain⟨h1,h2,h3,h4,h5,h6⟩:=R;simp only at h1 h2 h3 h4 h5 h6;subst h1;subst h2;unfold Q7B at hf;cases md with
 | panicking c=>
   cases dg<;>simp only[MdRel]at h5
   cases hf;exact⟨rfl,rfl,h3,h4,hc.append h5,h6⟩
 | returning=>
   cases dg<;>simp only[MdRel]at h5
   cases hf;exact⟨rfl,rfl,h3,h4,hc,h6⟩
 | run =>
   cases dg<;>simp only[MdRel]at h5
   simp only at hf h6
   split at hf
   · obtain⟨i,bg,l,k',idf,e1,e2,e3,D⟩:=h6;rename_i ops _ _;cases cr:Qf4 E jJ ops with
     |false=>rw[cr,cond_false]at hf;cases hf
     | true=>
       rw[cr,cond_true]at hf;cases hf;refine⟨rfl,rfl,h3,h4,hc,fun f hfn r hr=>D.tmp _ fun _ j o _ ho e=>?_⟩;unfold Qf4 at cr;rw[hfn]at cr;have a1:=v0v.1 (v0v.1 cr r hr) o (by rw[v16];exact v2a ho);cases r<;>simp[Q1Z]at e<;>simp[Q2B.2 e]at a1
   · exact h6.elim
   cases hf;rename_i fE ik
   have:ItsRel M todo todo'/\TRel M tm aE/\aE.size=nt:=by
    unfold Wait at h6
    split at h6
    · exact absurd rfl (fE _ _ _)
    · exact h6.elim
    exact h6
   exact⟨rfl,rfl,h3,h4,hc,this.2.1.res _⟩
theorem Q65: ∀(l:List Value) (i:Nat) (t:Tr Value) (k:Nat),(Q0w l i t).get k=if i<=k/\k <i+l.length then l[k -i]? else t.get k
 | [],i,t,k=>by simp[Q0w];omega
 | v ::l,i,t,k=>by
   rw[Q0w,Q65 l (i+1) _ k];by_cases h1:i+1<=k/\k <i+1+l.length
   · rw[if_pos h1,if_pos (by simp;omega)];have:k -i=(k - (i+1))+1:=by omega
     rw[this,v1r]
   rw[if_neg h1,JO _ _ _ _ _ (by omega)];by_cases e:i=k
   · subst e;simp
   rw[if_neg (by omega),if_neg (by simp only[v1f];omega)]
theorem Q0o {f:FuncId} {args ad:Array Value} {kind:CallKind} {fr:Fr} (hv:VsRel M args.toList ad.toList) (he:Yu E f args.toList kind=some fr) (h:Hp) (lo:Nat):
 Q7f E M h lo fr (Frame.enter E.P f ad kind):=by
 unfold Yu at he
 split at he
 · rename_i fn hfn
   split at he
   · rename_i c hc;cases he;have hP:=E.hfn f fn hfn;have hl:ad.size=args.toList.length:=by have:=hv.1;simpa using this.symm
     refine⟨rfl,rfl,trivial,trivial,trivial,?_⟩;simp only
     have:Frame.enter E.P f ad kind= {fn:=f,tmps:=ad++v1V (fn.ntmps -ad.size) undef,todo:=[.code c],defers:=[],mode:=.run,kind}:=by
      simp[Frame.enter,hP,hc]
     rw[this];refine Body.plain (.cons (.code c) .nil) (fun t=>?_) (by simp only[Array.size_append,Array.size_replicate,hl]);simp only[ev];rw[Q65];by_cases ht:t <args.toList.length
     · rw[if_pos (show 0<=t/\t <0+args.toList.length from⟨Nat.zero_le _,(v0f _).symm▸ht⟩)];have h1:args.toList[t]?=some args.toList[t]:=v0c ht;have aR:t <ad.toList.length:=by rw[<-hv.1];exact ht
       have h2:ad.toList[t]?=some ad.toList[t]:=v0c aR;have:=hv.2 t _ _ h1 h2;simp only[Nat.sub_zero,h1];have hs:t <ad.size:=by simpa using aR
       have e:(ad++v1V (fn.ntmps -ad.size) undef).getD t undef=ad.toList[t]:=by
        simp[Array.getElem?_append,hs]
       rw[e];exact this
     rw[if_neg (show ¬(0<=t/\t <0+args.toList.length) from fun hx=>ht (by have:=hx.2;rwa[v0f]at this))];have hs: ¬t <ad.size:=by rw[hl];exact ht
     have e:(ad++v1V (fn.ntmps -ad.size) undef).getD t undef=undef:=by
      rw[Array.getD_eq_getD_getElem?,Array.getElem?_append,if_neg hs,Array.getElem?_replicate]
      split<;>rfl
     rw[e];rw[Q4k];exact .undef M
   cases he
 cases he
theorem Q3a {nt:Nat}: ∀(ps:List Nat) (l l':List Value) (tm:Tr Value) (tmps:Array Value),VsRel M l l'->TRel M tm tmps->tmps.size=nt->
 TRel M (JF nt ps l tm) ((ps.zip l').foldl (fun tmps (t,a)=>tmps.setIfInBounds t a) tmps)/\((ps.zip l').foldl (fun tmps (t,a)=>tmps.setIfInBounds t a) tmps).size=nt
 | [],l,l',tm,tmps,_,hT,hs=>by cases l<;>exact⟨hT,hs⟩
 |p::ps,[],[],tm,tmps,_,hT,hs=>⟨hT,hs⟩
 |p::ps,[],_::_,_,_,hv,_,_=>by have:=hv.1;simp at this
 |p::ps,_::_,[],_,_,hv,_,_=>by have:=hv.1;simp at this
 | p::ps,v::l,v'::l',tm,tmps,hv,hT,hs=>by
   simp only[JF,List.zip_cons_cons,List.foldl_cons];have lL:=hT.put hs hv.uncons.1 (some p) [];exact Q3a ps l l' _ _ hv.uncons.2 lL (by simp[hs])
theorem Q6U {l:Nat} {r:Lp} (hl:Yo h l=some r):h.get l=some (.loop r):=by
 unfold Yo at hl
 split at hl
 · rename_i hg;cases hl;exact hg
 cases hl
theorem Q0X (H:HRel W B M h w) {l l':Nat} {r:Lp} (hi:IdRel M l l') (hl:Yo h l=some r):
 ∃S r',M.ρ l=some (l',0,S)/\w.heap[l']?=some (.loop r')/\LRel M r r'/\(Instr.getLoop l').run E.P w=.ok r' w:=by
 obtain⟨b,δ,S,x,hρ,hx,h0,r',rfl,he⟩:=H.place hi.1 (Q6U hl) (by simp);have:=hi.2 b δ S hρ;subst this;subst h0;refine⟨S,r',hρ,hx,he,?_⟩;have:(getObj l').run E.P w=.ok (.loop r') w:=by simp[getObj,Sem.run,hx]
 simp[Instr.getLoop,this]
class FactX (p:Prop):Prop where
 out:p
theorem HRel.below (H:HRel W B M h w) (hf: ¬B W.heap.size) (b:RowKit.Below w.heap.size w w'):HRel W B M h w':=by
 refine⟨fun i c δ S hi=>?_,H.inj,H.kn,H.fresh,H.live,b.os.trans H.os,⟨b.tape.trans H.tape.1,fun h1=>absurd h1 hf⟩,b.output.trans H.output,v0p H.size b.size,fun c hc hB=>?_,H.own,H.glob⟩
 · obtain⟨hk,o,x,h1,h2,h3⟩:=H.obj i c δ S hi;exact⟨hk,o,x,h1,(b.block c (v0X.1 h2).1).trans h2,h3⟩
 exact(b.block c (v0u hc H.size)).trans (H.old c hc hB)
theorem Keep.all {M M':Mp} {h h':Hp} (K:Keep M h M' h' (fun _=>False)): ∀i,i <h.n-> ¬M.K i-> ¬M'.K i/\h'.get i=h.get i:=fun i hi hk=>K.2 i hi hk id
theorem Q7O [hB :FactX (B W.heap.size->E.q=true)] (H:HRel W B M h w) (ak:lo<=h.n) {fr:Fr} {cs:List Fr} {cs':List Frame} {n:Nx} {s':St} {b:Frame} {tmps:Array Value} {df:List Deferred} {ops:Array Oper} {i:Nat} {o:Oper} {rest:List Nat} {k:List Item}
 (R:FrWait E M h lo h.n fr (b.atR ⟨tmps,df⟩ (.inRegion ops (i::rest)::k))) (S:StackRel E M h bA lo cs cs') (hn:Yd E fr cs h n=some s')
 (ho:ops[i]?=some o) (hw:Region.wanted o (yielded ops tmps)=true) (hx:QgO W B E M h w n ((o.semAt b.roundOf (Act.mk tmps df).eval).run E.P w)):
 ∃m',Steps E.P (lone (b.atR ⟨tmps,df⟩ (.inRegion ops (i::rest)::k)) cs' w) m'/\Sim W B E bA s' m':=by
 cases n with
 | value v h2=>
   obtain⟨v',w',M',hr,e,H',K,hv⟩:=hx;simp only[Yd]at hn
   split at hn
   · rename_i ed hf;cases hn;refine⟨_,.one (Q0G ho hw hr),M',lo,_,cs',w',rfl,H',v0p ak K.1,?_,S.mono e fun j hj=>K.all j (v0u hj ak)⟩;have:=ZT (R.mono e (fun j _ hj=>K.all j hj) K.1) hv hf (v0b _);rw[Frame.finish_put b tmps df ops ho]at this;exact this
   cases hn
 | skip h2=>
   obtain⟨w',M',hr,e,H',K⟩:=hx;simp only[Yd]at hn
   split at hn
   · rename_i ed hf;cases hn;refine⟨_,.one (Q6i ho hw hr),M',lo,_,cs',w',rfl,H',v0p ak K.1,?_,S.mono e fun j hj=>K.all j (v0u hj ak)⟩;have:=ZT (R.mono e (fun j _ hj=>K.all j hj) K.1) (.undef M') hf (v0b _);rw[Frame.finish_put b tmps df ops ho]at this;exact this
   cases hn
 | enter f args=>
   obtain⟨ad,hr,hv⟩:=hx;simp only[Yd]at hn;cases kY:E.orc f with
   | some v0=>
     rw[kY]at hn;simp only at hn
     split at hn
     · rename_i ay
       split at hn
       · rename_i ed hf;cases hn
         have ea:ad= #[]:=by
          rw[ay]at hv;have:=hv.1;apply v1Z.1;simpa using this.symm
         subst ea;have dB: ¬B W.heap.size:=fun hb=>by have:=(E.hq (hB.out hb) f).1;rw[kY]at this;cases this
         obtain⟨cf,ly⟩:=E.horc f v0 kY;obtain⟨e,w2,fr3,⟨he,hb⟩,hc,hfn,hl⟩:=ly w (b.atR ⟨tmps,df⟩ (.inRegion ops (i::rest)::k)::cs');subst he;exact⟨_,Steps.trans (.one (KN ho hw hr)) (Steps.trans hc (.one (step_leave_returned hl))),M,lo,_,cs',w2,rfl,H.below dB hb,ak,ZT R (KR M 20 v0 cf) hf (v0b _),S⟩
       cases hn
     cases hn
   | none=>
     rw[kY]at hn;simp only at hn;cases aL:E.sm f with
     | some F=>
       rw[aL]at hn;simp only at hn
       split at hn
       · rename_i v0 h2 hF
         split at hn
         · rename_i ed hf;cases hn;have dB: ¬B W.heap.size:=fun hb=>by have:=(E.hq (hB.out hb) f).2;rw[aL]at this;cases this
           obtain⟨e,w2,fr3,⟨v',M',he,ev,H',K,ja⟩,hc,hfn,hl⟩:=E.hsm f F aL W B M h w args.toList ad v0 h2 dB H hv hF (b.atR ⟨tmps,df⟩ (.inRegion ops (i::rest)::k)::cs');subst he;refine⟨_,Steps.trans (.one (KN ho hw hr)) (Steps.trans hc (.one (step_leave_returned hl))),M',lo,_,cs',w2,rfl,H',v0p ak K.1,?_,S.mono ev fun j hj=>K.all j (v0u hj ak)⟩;exact ZT (R.mono ev (fun j _ hj=>K.all j hj) K.1) ja hf (v0b _)
         cases hn
       cases hn
     | none=>
       rw[aL]at hn;simp only at hn
       split at hn
       · rename_i ed hf;cases hn;exact⟨_,.one (KN ho hw hr),M,h.n,_,_::cs',w,rfl,H,v0b _,Q0o hv hf h _,lo,ak,R,S⟩
       cases hn
 | round l args=>
   obtain⟨l',ad,hl,hv,hr⟩:=hx;simp only[Yd]at hn
   split at hn
   · rename_i a fn nt tm ps x y a' iS;cases hlen:v0d args.toList.length ps.toList.length with
     |false=>rw[hlen,cond_false]at hn;cases hn
     | true=>
       rw[hlen,cond_true]at hn;cases hn;obtain⟨S0,r',hρ,hx',⟨_,_,r3,r4,r5,r6,r7,r8,_⟩,bB⟩:=Q0X (E:=E) H hl iS;simp only at r3 r4 r5 r6 r7 r8
       have cO:ad.size=r'.params.size:=by
        have e1:=(QF _ _).1 hlen;have e2:=hv.1;simp only[Array.length_toList]at e1 e2;rw[r6];omega
       have hy:(Instr.yield l' ad).run E.P w=.ok (.round l' r'.fn ((r'.params.zip ad).foldl (fun tmps (t,a)=>tmps.setIfInBounds t a) r'.tmps) r'.assign r'.body) w:=by
        simp[Instr.yield,bB,cO]
       refine⟨_,.one (Q4U ho hw (hr.trans hy)),M,h.n,_,_::cs',w,rfl,H,v0b _,?_,lo,ak,R,S⟩;obtain⟨p1,p2⟩:=Q3a ps.toList args.toList ad.toList tm r'.tmps hv r5 r4
       have e:(r'.params.zip ad).foldl (fun tmps (t,a)=>tmps.setIfInBounds t a) r'.tmps=(ps.toList.zip ad.toList).foldl (fun tmps (t,a)=>tmps.setIfInBounds t a) r'.tmps:=by
        rw[<-Array.foldl_toList,Array.toList_zip,r6]
       rw[e,r7,r8];exact⟨r3,rfl,hl,trivial,trivial,Body.plain (.cons (.code _) (.cons .beginRound (.cons (.code _) .nil))) p1 p2⟩
   cases hn
 | defer d=>
   obtain⟨d',hr,hd⟩:=hx;obtain⟨fn,nt,tm,todo,dfs,md,kd,ro⟩:=fr;cases ro with
   |some l=>simp only[Yd]at hn;cases hn
   | none=>
     simp only[Yd]at hn
     split at hn
     · rename_i ed hf;cases hn;refine⟨_,.one (Q4W ho hw hr),M,lo,_,cs',w,rfl,H,ak,ZT (hi:=h.n) ?_ (.undef M) hf (v0b _),S⟩;obtain⟨h1,h2,h3,h4,h5,h6⟩:=R;exact⟨h1,h2,h3,⟨hd,h4⟩,h5,h6⟩
     cases hn
 | recover =>
   obtain⟨fn,nt,tm,todo,dfs,md,kd,ro⟩:=fr;simp only[Yd]at hn;cases ro with
   |some l=>cases hn
   | none=>
     simp only at hn
     have aC:b.roundOf=none:=by
      have:=R.2.2.1;cases hb:b.roundOf with
      |none=>rfl
      |some x=>simp[Frame.atR,hb,RoRel]at this
     have gA:(b.atR ⟨tmps,df⟩ (.inRegion ops (i::rest)::k)).kind=kd:=R.2.1
     -- what recover yields
     have key: ∀v cJ,Q3M ⟨fn,nt,tm,todo,dfs,md,kd,none⟩ cs=some (v,cJ)-> ∃v' jK,(match tryRecover (b.atR ⟨tmps,df⟩ (.inRegion ops (i::rest)::k)) cs' with|some x=>x|none=>(.nilIface,cs'))=(v',jK)/\
      VRel M v v'/\StackRel E M h bA lo cJ jK:=by
      intro v cJ bZ;unfold Q3M at bZ;simp only at bZ
      split at bZ
      · rename_i fn1 nt1 tm1 todo1 df1 md1 kd1 ro1 rest1;cases cs' with
        |nil=>exact S.elim
        | cons c' cs'=>
          obtain⟨iO,g1,⟨q1,q2,q3,q4,q5,q6⟩,g3⟩:=S;simp only at q1 q2 q3 q4 q5 q6;obtain⟨fn1',kq,kp,df1',kA,kd1',ro1'⟩:=c';simp only at q1 q2 q3 q4 q5 q6;unfold tryRecover;rw[gA];simp only
          split at bZ
          ·
           rename_i u older;cases bZ;cases kA<;>simp only[MdRel]at q5
           rename_i c1;cases c1 with
           |nil=>exact q5.elim
           | cons p' older'=>
             obtain⟨⟨p1,p2,p3⟩,p4⟩:=q5;obtain⟨pv,pr,pg⟩:=p';simp only at p1 p2 p3;subst p2;subst p3;refine⟨pv,_,rfl,p1,iO,g1,⟨q1,q2,q3,q4,⟨⟨p1,rfl,rfl⟩,p4⟩,q6⟩,g3⟩
          · cases bZ
          rename_i hno1 hno2;cases bZ;refine⟨.nilIface,⟨fn1',kq,kp,df1',kA,kd1',ro1'⟩::cs',?_,.nilIface,iO,g1,⟨q1,q2,q3,q4,q5,q6⟩,g3⟩;cases kA with
          |run=>rfl
          |returning=>rfl
          |panicking c=>cases md1<;>simp only[MdRel]at q5;exact absurd rfl (hno2 _)
      · cases bZ;refine⟨.nilIface,cs',?_,.nilIface,S⟩;unfold tryRecover;rw[gA]
      cases bZ
     split at hn
     · rename_i v cJ bZ;obtain⟨v',jK,e1,e2,e3⟩:=key v cJ bZ
       split at hn
       · rename_i ed hf;cases hn;exact⟨_,.one (Q2M aC ho hw hx e1),M,lo,_,jK,w,rfl,H,ak,ZT (hi:=h.n) R e2 hf (v0b _),e3⟩
       cases hn
     cases hn
 | panic v=>
   obtain⟨v',hr,hv⟩:=hx;simp only[Yd]at hn
   split at hn
   · rename_i ed hf;cases hn;exact⟨_,.one (Q4V ho hw hr),M,lo,_,cs',w,rfl,H,ak,Q5c (ch:=[⟨v,false,false⟩]) (ch':=[⟨v',false,false⟩]) R ⟨⟨hv,rfl,rfl⟩,trivial⟩ hf h lo,S⟩
   cases hn
end
section
variable {W:World} {B:Nat->Prop} {E:Env} {M M':Mp} {h h':Hp} {w w':World} {lo hi:Nat} {bA:List Frame}
theorem QbN (M:Mp) (hG:Gl M) {ops:Array Oper} (hc:QU ops=true) {i:Nat} {o:Oper} (ho:ops[i]?=some o) {tm:Tr Value} {tmps:Array Value} (df:List Deferred)
 (ht: ∀t,Operand.tmp t∈o.op.operands->VRel M (ev tm (.tmp t)) (tmps.getD t undef)): ∀x,x∈o.op.operands->VRel M (ev tm x) ((Act.mk tmps df).eval x):=by
 intro x hx;have h1:=v0v.1 hc o (by rw[v16];exact v2a ho);have h2:=v0v.1 h1 x (by simpa using hx);cases x with
 |tmp t=>exact ht t hx
 |const v=>exact KR M 20 v h2
 |global g=>exact hG.ptr h2
 |func f=>exact .func' (f:=.func f) (f':=.func f) rfl (.nil M) (.nil M)
theorem Q1g {tm:Tr Value} {tmps:Array Value} (T:TRel M tm tmps) {ops:Array Oper} {o:Oper} {b:Bool} (hw:QH ops tm o=some b):Region.wanted o (yielded ops tmps)=b:=by
 unfold QH at hw;unfold Region.wanted;cases hg:o.guard with
 |none=>rw[hg]at hw;cases hw;rfl
 | some gb =>
   obtain⟨g,want⟩:=gb;rw[hg]at hw;simp only at hw ⊢;unfold yielded;cases fD:ops[g]? with
   |none=>rw[fD]at hw;cases hw
   | some og=>
     rw[fD]at hw;simp only at hw;cases hd:og.dst with
     |none=>rw[hd]at hw;cases hw
     | some d=>
       rw[hd]at hw;simp only at hw;have bE:=T d;simp only[ev]at bE;simp only[Option.bind_some,hd]
       split at hw
       · rename_i x hx;cases hw;rw[hx]at bE;simp only at bE;generalize hy:tmps.getD d undef=y at bE;cases bE
         have:tmps[d]?=some (.bool x):=by
          cases ht:tmps[d]? with
          |none=>simp[ht,undef]at hy
          |some z=>simp[ht]at hy;rw[hy]
         simp only[this];cases x<;>cases want<;>rfl
       · rename_i x hx;cases hw;rw[hx]at bE;simp only at bE;generalize hy:tmps.getD d undef=y at bE;cases bE;cases ht:tmps[d]? with
         |none=>cases want<;>rfl
         |some z=>simp[ht]at hy;subst hy;cases want<;>rfl
       cases hw
theorem Qff (H:HRel W B M h w) {fr:Fr} {cs:List Fr} {o:Oper} {s':St} {ρ:Operand->Value} (hE: ∀x,x∈o.op.operands->VRel M (ev fr.tm x) (ρ x)) (hx:Q8M E fr cs h o=some s'):
 ∃n,Yd E fr cs h n=some s'/\QgO W B E M h w n ((execOp ρ o).run E.P w)/\ ∀cl,o.op=.defer cl-> ∃d,n=.defer d:=by
 unfold Q8M at hx
 split at hx
 · rename_i hc
   split at hx
   · rename_i v hv;obtain⟨v',hr,ja⟩:=Q25 H hE hv;exact⟨_,hx,⟨v',w,M,hr,.refl M,H,Keep.refl M h _,ja⟩,fun cl e=>by rw[Q0u e]at hc;cases hc⟩
   cases hx
 · rename_i hc
   split at hx
   · rename_i b f ha;obtain⟨x,S,v',hr,aq⟩:=Q1p (w:=w) hE ha;have dX: ¬M.K h.n:=fun hk=>by have:=H.kn _ hk;omega
     obtain⟨h1,h2⟩:=aq h.n dX;obtain⟨H',e,K⟩:=YV H h1;exact⟨_,hx,⟨v',_,_,hr,e,H',K,h2⟩,fun cl e=>by rw[Q0u e]at hc;cases hc⟩
   cases hx
 split at hx
 · rename_i n hn;refine⟨n,hx,Q1f H hE hn,fun cl e=>?_⟩;obtain⟨dst,op,type,pos,after,guard⟩:=o;simp only at e;subst e;simp only[Z3]at hn
   split at hn
   · cases hn;exact⟨_,rfl⟩
   cases hn
 cases hx
theorem Qea {fr:Fr} {cs:List Fr} {n:Nx} {s':St} {ro':Option Nat} {o:Oper} {ρ:Operand->Value} (aC:RoRel M fr.ro ro') (hn:Yd E fr cs h n=some s') (hd: ∀cl,o.op=.defer cl-> ∃d,n=.defer d):
 o.semAt ro' ρ=execOp ρ o:=by
 cases ro' with
 |none=>exact Oper.semAt_none ρ o
 | some l=>
   refine Oper.semAt_eq _ _ _ fun cl e=>?_;obtain⟨d,rfl⟩:=hd cl e;obtain⟨fn,nt,tm,todo,df,md,kd,ro⟩:=fr;cases ro with
   |none=>exact aC.elim
   |some x=>simp only[Yd]at hn;cases hn
theorem cls_le (E:Env) (o:Oper):cls E o<=2:=by
 unfold cls
 split<;>first|omega|(split<;>omega)
variable {fn:FuncId} {nt:Nat} {tm:Tr Value} {todo:List It} {todo':List Item} {df:List Deferred} {df':List Deferred} {kd:CallKind} {ro ro':Option Nat} {tmps:Array Value} {cs:List Fr} {cs':List Frame} {s':St}
theorem Zs (H:HRel W B M h w) (ak:lo<=h.n) (aC:RoRel M ro ro') (aV:DsRel M df df') (S:StackRel E M h bA lo cs cs') (hb:Body E M h lo nt tm todo todo' tmps):
 Sim W B E bA ⟨⟨fn,nt,tm,todo,df,.run,kd,ro⟩,cs,h⟩ (lone (Frame.atR ⟨fn,tmps,[],df',.run,kd,ro'⟩ ⟨tmps,df'⟩ todo') cs' w):=
 ⟨M,lo,_,cs',w,rfl,H,ak,⟨rfl,rfl,aC,aV,trivial,hb⟩,S⟩
theorem Q8H [hB:FactX (B W.heap.size->E.q=true)] (H:HRel W B M h w) (ak:lo<=h.n) (aC:RoRel M ro ro') (aV:DsRel M df df') (S:StackRel E M h bA lo cs cs') {ops:Array Oper} {l:List Nat} {k:List It} {k':List Item}
 (hc:QU ops=true) (hk:ItsRel M k k') (T:TRel M tm tmps) (hs:tmps.size=nt)
 (hx:Z0 E fn nt tm (.inRegion ops l::k) df kd ro cs h=some s'):
 ∃m',Steps E.P (lone (Frame.atR ⟨fn,tmps,[],df',.run,kd,ro'⟩ ⟨tmps,df'⟩ (.inRegion ops l::k')) cs' w) m'/\Sim W B E bA s' m':=by
 simp only[Z0]at hx
 split at hx
 · cases hx;exact⟨_,.one stepR_region_end,Zs H ak aC aV S (.plain hk T hs)⟩
 rename_i i rest
 split at hx
 · cases hx
 rename_i o ho
 split at hx
 · cases hx
 · rename_i hw;cases hx;refine⟨_,.one (stepR_op_skip (by simp[ho,Q1g T hw])),?_⟩;simp only[ho,Option.bind_some];rw[put_defers];exact Zs H ak aC aV S (.plain (.cons (.inRegion ops rest hc) hk) (T.put hs (.undef M) _ df') ((Q3O _ _ _ _).trans hs))
 rename_i hw;obtain⟨n,hn,aw,hd⟩:=Qff (ρ:=(Act.mk tmps df').eval) H (QbN M H.glob hc ho df' fun t _=>T t) hx;have kO:=Qea (ρ:=(Act.mk tmps df').eval) aC hn hd;obtain⟨m',h1,h2⟩:=Q7O (fr:=⟨fn,nt,tm,.inRegion ops (i::rest)::k,df,.run,kd,ro⟩) (b:=⟨fn,tmps,[],df',.run,kd,ro'⟩) (tmps:=tmps) (df:=df') (rest:=rest) (k:=k') H ak ⟨rfl,rfl,aC,aV,trivial,⟨.cons (.inRegion ops (i::rest) hc) hk,T,hs⟩⟩ S hn ho (Q1g T hw) (kO▸aw);exact⟨m',h1,h2⟩
theorem Draw.susp {ops:Array Oper} {i:Nat} {rest l:List Nat} {idf:Nat->Nat} (D:Draw E M h lo hi nt tm ops false [] (i::rest) (i::l) tmps idf):
 Draw E M h lo hi nt tm ops true (QgH E ops i rest) (i::rest) (i::l) tmps idf:=
 { D with
   pend:=fun j o hl hr ho=>(D.pend j o hl hr ho).congr (fun _ _=>rfl) rfl (fun _ _=>rfl) (fun _=>rfl)
    (fun hc=>⟨fun h=>(by simp at h),fun v _ hv=>by
     cases hp:KI o with
     |true=>exact .inr ⟨fun _=>rfl,hv⟩
     | false=>
       refine .inl ?_;have bK:j∈l:=(v0w.1 hl).resolve_left fun e=>hr (by simp[e]);have hjs:=D.lt j hl;refine List.mem_filter.2 ⟨v1e.2 hjs,?_⟩;simp only[Q9a,ho,hc,hp,v0h,v0I,v0N,Bool.not_false,Ke,true_and];refine⟨hr,?_⟩;cases ha:ahead ops j i with
       |false=>rfl
       |true=>exact absurd hl (Kq D.eok D.cl' D.ord'.1 ha (D.lt i (by simp)))⟩)
    (fun _ a b k x hx=>⟨k,hx,a,b⟩)}
theorem QdE [hB:FactX (B W.heap.size->E.q=true)] (H:HRel W B M h w) (ak:lo<=h.n) (aC:RoRel M ro ro') (aV:DsRel M df df') (S:StackRel E M h bA lo cs cs') {ops:Array Oper} {rest l:List Nat} {k:List It} {k':List Item} {idf:Nat->Nat}
 (hk:ItsRel M k k') (D:Draw E M h lo h.n nt tm ops false [] rest l tmps idf)
 (hx:Z0 E fn nt tm (.draw ops rest::k) df kd ro cs h=some s'):
 ∃m',Steps E.P (lone (Frame.atR ⟨fn,tmps,[],df',.run,kd,ro'⟩ ⟨tmps,df'⟩ (.inRegion ops l::k')) cs' w) m'/\Sim W B E bA s' m':=by
 simp only[Z0]at hx
 split at hx
 ·
  cases hx;obtain⟨M',w',l',aE,St,e,H',K,D',hh⟩:=Q8k (E:=E) (b:=⟨fn,tmps,[],df',.run,kd,ro'⟩) (df:=df') (k:=k') (cs:=cs') (v0b h.n) l M w tmps H D
  have hl:l'=[]:=by
   cases l' with
   |nil=>rfl
   |cons j t=>exact absurd (hh j t rfl) (by simp)
  subst hl;refine⟨_,St.trans (.one stepR_region_end),?_⟩;exact Zs H' ak (aC.mono e) (aV.mono e) (S.mono e (KeepFrom.low K ak)) (.plain (hk.mono e) (fun t=>D'.tmp t fun _ i o hi=>absurd hi (by simp)) D'.size)
 rename_i i rest;unfold Q97 at hx
 split at hx
 · cases hx
 rename_i o ho;simp only at hx;obtain⟨hp,hwr,gk⟩:=Yl D.ord;have dm: ∀j q,j∈l->j∉i::rest->ops[j]?=some q->Q0y E tm ops q->idf j <h.n:=fun j q hj jx hq ha=>((D.pend j q hj jx hq).range ha).2.2;have hwP: ∀v,QH ops (Q1v nt tm o.dst v) o=QH ops tm o:=fun v=>wanted_put D ho (D.looksX ho).2 v;have aZ: ∀v x,x∈o.op.operands->ev (Q1v nt tm o.dst v) x=ev tm x:=fun v x hx=>Q70 fun t e=>JE nt tm o.dst v t fun _=>(D.looksX ho).1 t (e▸hx)
 split at hx
 · cases hx
 ·
  rename_i hw;cases hx;refine⟨_,.refl _ _,Zs H ak aC aV S ⟨l,k',idf,rfl,hk,D.stepX ho (.refl h) (v0b _) (fun _ _=>rfl) ?_ (fun ha=>by rw[ha.1]at hw;cases hw) dm⟩⟩;unfold Pend;rw[hwP,hw];exact Q3P nt tm o undef
 rename_i hw
 split at hx
 ·
  rename_i hc
  split at hx
  · rename_i v hv;cases hx;refine⟨_,.refl _ _,Zs H ak aC aV S ⟨l,k',idf,rfl,hk,D.stepX ho (.refl h) (v0b _) (fun _ _=>rfl) ?_ (fun ha=>by rw[ha.2]at hc;cases hc) dm⟩⟩;unfold Pend;rw[hwP,hw];simp only[hc];exact .inr ⟨by simp,v,(JD E (aZ v) (.inr rfl)).trans hv,Q3P nt tm o v⟩
  cases hx
 ·
  rename_i hc
  split at hx
  · rename_i b f ha;cases hx;have cj:h.get h.n=none:=H.fresh h.n (v0b _);have dX: ¬M.K h.n:=fun hk=>by have:=H.kn _ hk;omega
    refine⟨_,.refl _ _,Zs (H.allocX b) (by rw[Hp.n_alloc];omega) aC aV (S.mono (.refl M) fun j hj nD=>⟨nD,?_⟩)
     ⟨l,k',fun j=>if j=i then h.n else idf j,rfl,hk,D.stepX ho (.alloc b cj) (by rw[Hp.n_alloc];omega) (fun j hj=>by simp[hj]) ?_ (fun _=>by simp) dm⟩⟩
    · rw[Hp.get_alloc,if_neg (by omega)]
    unfold Pend;rw[hwP,hw];simp only[hc];exact⟨b,f,(Q1q E (aZ _)).trans ha,by simpa using Q3P nt tm o (f h.n),by simp[Hp.get_alloc],by simpa using dX,by simpa using ak,by simp[Hp.n_alloc]⟩
  cases hx
 ·
  rename_i gV lA
  split at hx
  · rename_i n hn
    have mq:cls E o=2:=by
     have:=cls_le E o;cases cK:cls E o with
     |zero=>exact absurd cK gV
     | succ m=>
       cases m with
       |zero=>exact absurd cK lA
       | succ m => rw[cK]at this;have:m=0:=by omega
                   subst this;rfl
    obtain⟨M',w',l',aE,St,e,H',K,D',hh⟩:=Q8k (E:=E) (b:=⟨fn,tmps,[],df',.run,kd,ro'⟩) (df:=df') (k:=k') (cs:=cs') (v0b h.n) l M w tmps H D;obtain⟨t,rfl⟩:=D'.same_head (by simp[Q9a,ho,mq]) hh;have aw:=Q1f (ρ:=(Act.mk aE df').eval) H' (D'.operands H'.glob ho df') hn
    have hd: ∀cl,o.op=.defer cl-> ∃d,n=.defer d:=fun cl ecl=>by
     obtain⟨dst,op,type,pos,after,guard⟩:=o;simp only at ecl;subst ecl;simp only[Z3]at hn
     split at hn
     · cases hn;exact⟨_,rfl⟩
     cases hn
    have kO:=Qea (ρ:=(Act.mk aE df').eval) (aC.mono e) hx hd
    obtain⟨m',h1,h2⟩:=Q7O (fr:=⟨fn,nt,tm,.draw ops (i::rest)::k,df,.run,kd,ro⟩) (b:=⟨fn,tmps,[],df',.run,kd,ro'⟩) (tmps:=aE) (df:=df') (rest:=t) (k:=k') H' ak
     ⟨rfl,rfl,aC.mono e,aV.mono e,trivial,⟨i,rest,t,k',idf,rfl,rfl,hk.mono e,D'.susp⟩⟩ (S.mono e (KeepFrom.low K ak)) hx ho (D'.wantedR ho hw) (kO▸aw)
    exact⟨m',St.trans h1,h2⟩
  cases hx
end
section
variable {P:Program} {b:Frame} {a:Act} {k:List Item} {cs:List Frame} {w:World}
theorem Q6j {c:Code}:step P (lone (b.atR a (.code (.scope c)::k)) cs w)=.next (lone (b.atR a (.code c::.inScope c::k)) cs w):=
 step_lone_go (by simp[stepG,stepG.exec,Frame.atR])
theorem Q3C {c:Code}:step P (lone (b.atR a (.inScope c::k)) cs w)=.next (lone (b.atR a k) cs w):=
 step_lone_go (by simp[stepG,stepG.exec,Frame.atR])
end
section
variable {W:World} {B:Nat->Prop} {E:Env} {M M':Mp} {h h':Hp} {w w':World} {lo hi:Nat} {bA:List Frame}
variable {fn:FuncId} {nt:Nat} {tm:Tr Value} {todo:List It} {todo':List Item} {df:List Deferred} {df':List Deferred} {kd:CallKind} {ro ro':Option Nat} {tmps:Array Value} {cs:List Fr} {cs':List Frame} {s':St}
theorem Qdz (id:Nat) {k:List It} {k':List Item} (r:ItsRel M k k'):
 (ZN id k=none/\exitTo id k'=none)\/ ∃k1 k1',ZN id k=some k1/\exitTo id k'=some k1'/\ItsRel M k1 k1':=by
 induction r with
 |nil=>exact .inl ⟨rfl,rfl⟩
 | cons x t ih=>
   cases x with
   | inBlock i=>
     simp only[ZN,exitTo];by_cases e:i=id
     · subst e;rw[v0N,cond_true,if_pos (by simp)];exact .inr ⟨_,_,rfl,rfl,t⟩
     rw[(QC i id).2 e,cond_false,if_neg (by simpa using e)];exact ih
   |_=>exact ih
theorem Qds (l:Nat) {k:List It} {k':List Item} (r:ItsRel M k k'):
 (Q8Z l k=none/\gotoIn l k'=none)\/ ∃k1 k1',Q8Z l k=some k1/\gotoIn l k'=some k1'/\ItsRel M k1 k1':=by
 induction r with
 |nil=>exact .inl ⟨rfl,rfl⟩
 | cons x t ih=>
   cases x with
   | inScope c=>
     simp only[Q8Z,gotoIn];cases hf:findLabel c l with
     |none=>exact ih
     |some rest=>exact .inr ⟨_,_,rfl,rfl,.cons (.code rest) (.cons (.inScope c) t)⟩
   |_=>exact ih
theorem Q46 (H:HRel W B M h w) {l l':Nat} {r r2:Lp} (hi:IdRel M l l') (hl:Yo h l=some r) (f:Loop->Loop) (hf: ∀r',LRel M r r'->LRel M r2 (f r')):
 ∃r' w',LRel M r r'/\(Instr.getLoop l').run E.P w=.ok r' w/\(setObj l' (.loop (f r'))).run E.P w=.ok () w'/\HRel W B M (h.put l (.loop r2)) w'/\Keep M h M (h.put l (.loop r2)) (fun _=>False):=by
 obtain⟨S,r',hρ,hx,he,bB⟩:=Q0X (E:=E) H hi hl;obtain⟨h1,h2,h3⟩:=H.setObj (E:=E) (o:=.loop r2) (x:=.loop (f r')) hρ hx (by intro c e f h;cases h) ⟨rfl,_,rfl,hf r' he⟩;exact⟨r',_,he,bB,h1,h2,h3⟩
theorem Q72 (H:HRel W B M h w) {l l':Nat} (hi:IdRel M l l') {jump:Option Code} (hx:Kp h l jump=some h'):
 ∃w',(Instr.endRound l' jump).run E.P w=.ok (.bool jump.isNone) w'/\HRel W B M h' w'/\Keep M h M h' (fun _=>False):=by
 unfold Kp at hx
 split at hx
 · rename_i st p fn nt tm ps a b d hl;cases hx
   obtain⟨r',w',he,bB,h1,h2,h3⟩:=Q46 (E:=E) (r2:=⟨cond (Q6J jump) .ready .done,jump,fn,nt,tm,ps,a,b,d⟩) H hi hl
    (fun r=> {r with state:=if jump.isNone then .ready else .done,pending:=jump}) (fun r' ⟨_,_,q⟩=>⟨by cases jump<;>rfl,rfl,q⟩)
   exact⟨w',by simp only[Instr.endRound,Sem.run_bind,bB,Result.andThen_ok,h1,Sem.run_pure],h2,h3⟩
 cases hx
theorem Q0d (H:HRel W B M h w) (ak:lo<=h.n) (aC:RoRel M ro ro') (aV:DsRel M df df') (S:StackRel E M h bA lo cs cs') (T:TRel M tm tmps) {jump:Option Code}
 (hx:Ju E ⟨fn,nt,tm,todo,df,.run,kd,ro⟩ cs h jump=some s') {az:Frame}
 (h0:ro'=none->(jump=none\/jump=some .ret)->step E.P (lone az cs' w)=.next (lone ⟨fn,tmps,todo',df',.returning,kd,ro'⟩ cs' w))
 (h1: ∀l' v w' c cJ,ro'=some l'->kd=.normal->cs'=c::cJ->(Instr.endRound l' jump).run E.P w=.ok v w'->step E.P (lone az cs' w)=.next (lone (c.finish v) cJ w')):
 ∃m',Steps E.P (lone az cs' w) m'/\Sim W B E bA s' m':=by
 cases ro with
 | none=>
   cases ro' with
   |some x=>exact aC.elim
   | none=>
     simp only[Ju]at hx
     have cW:(jump=none\/jump=some .ret)/\s'=⟨⟨fn,nt,tm,todo,df,.returning,kd,none⟩,cs,h⟩:=by
      cases jump with
      |none=>cases hx;exact⟨.inl rfl,rfl⟩
      |some c=>cases c<;>simp only at hx<;>first|(cases hx;done)|(cases hx;exact⟨.inr rfl,rfl⟩)
     obtain⟨hj,rfl⟩:=cW;exact⟨_,.one (h0 rfl hj),M,lo,_,cs',w,rfl,H,ak,⟨rfl,rfl,trivial,aV,trivial,T.res fn⟩,S⟩
 | some l=>
   cases ro' with
   |none=>exact aC.elim
   | some l' =>
     simp only[Ju]at hx;cases kd<;>simp only at hx<;>(try (cases hx;done))
     split at hx
     · rename_i h2 cW;obtain⟨w',hr,H',K⟩:=Q72 (E:=E) H aC cW;unfold YG at hx;cases cs with
       |nil=>cases hx
       | cons c rest=>
         cases cs' with
         |nil=>exact S.elim
         | cons c' bg=>
           obtain⟨iO,g1,g2,g3⟩:=S;simp only at hx
           split at hx
           · rename_i c2 hf;cases hx
             have hb:VRel M (YO (Q6J jump)) (.bool jump.isNone):=by
              rw[QP];cases jump<;>exact .bool _
             have nx:lo<=h2.n:=v0p ak K.1;refine⟨_,.one (h1 l' _ w' c' bg rfl rfl rfl hr),M,iO,_,bg,w',rfl,H',v0p g1 nx,?_,g3.mono (.refl M) fun i hi=>K.all i (v0u hi (v0p g1 ak))⟩;exact ZT (g2.mono (.refl M) (fun i _ hi=>K.all i (v0u hi ak)) (v0b lo)) hb hf nx
           cases hx
     cases hx
theorem Draw.again {ops:Array Oper} {i:Nat} {c rest l:List Nat} {idf:Nat->Nat} (D:Draw E M h lo hi nt tm ops false (i::c) rest l tmps idf) (ha:Q2K E tm h ops i=true):
 Draw E M h lo hi nt tm ops false c rest l tmps idf:=
 { D with
   pend := fun j o hl hr ho=>by
    have Pd:=D.pend j o hl hr ho;unfold Pend at Pd ⊢;cases hw:QH ops tm o with
    |none=>rw[hw]at Pd;exact Pd
    | some b=>
      rw[hw]at Pd;cases b with
      |false=>exact Pd
      | true=>
        simp only at Pd ⊢;cases hc:cls E o with
        | zero=>
          rw[hc]at Pd;simp only at Pd ⊢;rcases Pd with Pd|Pd
          · by_cases e:j=i
            · subst e;unfold Q2K at ha;rw[ho]at ha;simp only[hw]at ha
              split at ha
              · rename_i v d hv hd
                split at ha
                · rename_i u hu;have:=Q3F 20 v u ha;subst this;refine .inr ⟨by simp,v,hv,fun d' e8 _=>?_⟩;rw[hd]at e8;cases e8;simp only[ev,hu]
                cases ha
              cases ha
            exact .inl ((v0w.1 Pd).resolve_left e)
          exact .inr Pd
        |succ n=>rw[hc]at Pd;cases n<;>exact Pd}
theorem Q5a {M1:Mp} {h1:Hp} {w1:World} (H:HRel W B M1 h1 w1) (ak:lo<=h1.n) (aC:RoRel M1 ro ro') {mark mark':List Deferred} (aV:DsRel M1 (mark++df) (mark'++df')) (S:StackRel E M1 h1 bA lo cs cs')
 (T:TRel M1 tm tmps) (hs:tmps.size=nt) {k:List It} {k':List Item} (hk:ItsRel M1 k k') {f:Operand} {ps:Array Tmp} {x y:Code} {r r':Nat} (hr:IdRel M1 r r')
 (hx:Q5b E fn nt tm k df kd ro cs h1 f ps x y mark r=some s')
 (he: ∀l w2,(newObj (.loop {state:=.ready,pending:=none,fn,tmps,params:=ps,assign:=x,body:=y,defers:=r'})).run E.P w1=.ok l w2->(Instr.enterLoop fn tmps ps x y ro').run E.P w=.ok (l,mark') w2):
 ∃m',Steps E.P (lone (Frame.atR ⟨fn,tmps,[],df',.run,kd,ro'⟩ ⟨tmps,df'⟩ (.code (.rangeFunc f ps x y)::k')) cs' w) m'/\Sim W B E bA s' m':=by
 unfold Q5b at hx;cases hcf:Q2D f with
 |false=>rw[hcf,cond_false]at hx;cases hx
 | true=>
   rw[hcf,cond_true]at hx
   split at hx
   · rename_i d hd
     split at hx
     · rename_i g args hinv
       split at hx
       · rename_i ed hf2;cases hx;have dX: ¬M1.K h1.n:=fun hk=>by have:=H.kn _ hk;omega
         have aZ:=Mp.add_ev M1 h1.n w1.heap.size 0 0 0 dX
         have iq:LRel (M1.add h1.n w1.heap.size 0 0 0) ⟨.ready,none,fn,nt,tm,ps,x,y,r⟩ {state:=.ready,pending:=none,fn,tmps,params:=ps,assign:=x,body:=y,defers:=r'}:=
          ⟨rfl,rfl,rfl,hs,T.mono aZ,rfl,rfl,rfl,hr.mono aZ⟩
         obtain⟨H2,_,K⟩:=YV H (o:=.loop ⟨.ready,none,fn,nt,tm,ps,x,y,r⟩) (x:=.loop {state:=.ready,pending:=none,fn,tmps,params:=ps,assign:=x,body:=y,defers:=r'}) (S:=0) (m:=0) ⟨rfl,_,rfl,iq⟩;have bU:IdRel (M1.add h1.n w1.heap.size 0 0 0) h1.n w1.heap.size:=⟨.inl rfl,fun b δ S hb=>by simp[Mp.add]at hb;exact hb.1⟩;have ll:=he w1.heap.size _ rfl
         -- the call
         unfold ZK Q0N at hd;simp only at hd
         split at hd
         · rename_i fv first captured heq
           cases hd
           have cj:VRel (M1.add h1.n w1.heap.size 0 0 0) (ev tm f) ((Act.mk tmps df').eval f):=by
            cases f with
            |tmp t=>exact(T t).mono aZ
            |const v=>exact KR _ 20 v hcf
            |global g=>exact H2.glob.ptr hcf
            |func f=>exact .func' (f:=.func f) (f':=.func f) rfl (.nil _) (.nil _)
           rw[heq]at cj;have hmap:(#[.const (.func (.yield w1.heap.size) #[] #[])]:Array Operand).map (Act.mk tmps df').eval= #[.func (.yield w1.heap.size) #[] #[]]:=by simp[Act.eval]
           have aB: ∀w2,(resolve (Act.mk tmps df').eval (rangeCall f w1.heap.size) 0).run E.P w2=(Deferred.ofValue ((Act.mk tmps df').eval f) #[.func (.yield w1.heap.size) #[] #[]]).run E.P w2:=fun w2=>by
            rw[<-hmap];rfl
           generalize (Act.mk tmps df').eval f=q at cj aB;cases cj with
           |func hfn ha hb ka kb=>
           rename_i f1 a1 b1
           have aw:=Kz (E:=E) H2 (d':= {target:=.fn f1 b1,args:=a1++ #[.func (.yield w1.heap.size) #[] #[]]}) (d:= {target:=.fn fv captured,args:=first++(#[.const (.func (.yield h1.n) #[] #[])]:Array Operand).map (ev tm)}) ⟨⟨hfn,hb,kb⟩,by
            have hy:VRel (M1.add h1.n w1.heap.size 0 0 0) (.func (.yield h1.n) #[] #[]) (.func (.yield w1.heap.size) #[] #[]):=.func' (f:=.yield h1.n) (f':=.yield w1.heap.size) bU (.nil _) (.nil _);simp only[v2k,v1I]
            exact VsRel.append ⟨ha,ka⟩ (VsRel.cons hy (.nil _))⟩ hinv
           obtain⟨ad,lh,hv⟩:=aw;have av:=stepR_rangeFunc (P:=E.P) (b:=⟨fn,tmps,[],df',.run,kd,ro'⟩) (a:=⟨tmps,df'⟩) (k:=k') (cs:=cs') (w:=w) (g:=f) (ps:=ps) (assign:=x) (body:=y) ll (aB _) lh;have hn2:=K.1;refine⟨_,.one av,_,(h1.alloc (.loop ⟨.ready,none,fn,nt,tm,ps,x,y,r⟩)).n,_,_::cs',_,rfl,H2,v0b _,Q0o hv hf2 _ _,lo,v0p ak hn2,?_,S.mono aZ fun i hi=>K.all i (v0u hi ak)⟩;exact⟨rfl,rfl,aC.mono aZ,aV.mono aZ,trivial,⟨.cons (.inRangeFunc bU) (hk.mono aZ),T.mono aZ,hs⟩⟩
         cases hd
       cases hx
     cases hx
   cases hx
end
section
variable {W:World} {B:Nat->Prop} {E:Env} {M M':Mp} {h h':Hp} {w w':World} {lo hi:Nat} {bA:List Frame}
variable {fn:FuncId} {nt:Nat} {tm:Tr Value} {todo:List It} {todo':List Item} {df:List Deferred} {df':List Deferred} {kd:CallKind} {ro ro':Option Nat} {tmps:Array Value} {cs:List Fr} {cs':List Frame} {s':St}
theorem Q6B {ops:Array Oper} (hc:QU ops=true) (hr:J8 E ops=true) (T:TRel M tm tmps) (hs:tmps.size=nt) (t:Nat):
 Draw E M h lo hi nt tm ops false [] (canon E ops) (Region.schedule true ops t) tmps id:=by
 unfold J8 at hr;simp only[v0h]at hr;obtain⟨⟨⟨r1,r2⟩,_⟩,r4⟩:=hr;unfold Q5j at r4;simp only[v0h]at r4;obtain⟨⟨⟨q1,q2⟩,q3⟩,q4⟩:=r4;obtain⟨s1,s2,s3⟩:=Q6u r1 t;have aq: ∀i,i <ops.size->i∈canon E ops:=fun i hi=>(Kx _ _).1 (v0v.1 q4 i (v1e.2 hi));have aj: ∀i,i∈canon E ops->i <ops.size:=fun i hi=>(Zg _ _).1 (v0v.1 q3 i hi)
 exact⟨r1,r2,hc,q1,(Q8P _).1 q2,fun i hi hn=>absurd (aq i hi) hn,s2,s1,fun i hi hn=>absurd ((s3 i).2 hi) hn,fun i hi=>(s3 i).2 (aj i hi),fun i hi=>(s3 i).1 hi,hs,fun t _=>T t,
  fun i o hi hn _=>absurd (aq i ((s3 i).1 hi)) hn,fun i j o q hi hn _ _ _ _ _ _ _=>absurd (aq i ((s3 i).1 hi)) hn⟩
theorem QdJ (hm:E.P.follows .mixedOrders=true) (H:HRel W B M h w) (ak:lo<=h.n) (aC:RoRel M ro ro') (aV:DsRel M df df') (S:StackRel E M h bA lo cs cs') {c:Code} {k:List It} {k':List Item}
 (hk:ItsRel M k k') (T:TRel M tm tmps) (hs:tmps.size=nt) (hx:Z0 E fn nt tm (.code c::k) df kd ro cs h=some s'):
 ∃m',Steps E.P (lone (Frame.atR ⟨fn,tmps,[],df',.run,kd,ro'⟩ ⟨tmps,df'⟩ (.code c::k')) cs' w) m'/\Sim W B E bA s' m':=by
 cases c with
 | skip=>
   simp only[Z0]at hx;cases hx;exact⟨_,.one stepR_skip,Zs H ak aC aV S (.plain hk T hs)⟩
 | label l=>
   simp only[Z0]at hx;cases hx;exact⟨_,.one stepR_label,Zs H ak aC aV S (.plain hk T hs)⟩
 | ret=>
   simp only[Z0]at hx;refine Q0d (todo':=.code .ret::k') H ak aC aV S T hx (fun e _=>by subst e;exact stepR_ret rfl) (fun l' v w' c cJ e1 e2 e3 hr=>by subst e1;subst e2;subst e3;exact stepR_round_ret rfl rfl hr)
 | seq x y=>
   simp only[Z0]at hx;cases hx;exact⟨_,.one stepR_seq,Zs H ak aC aV S (.plain (.cons (.code x) (.cons (.code y) hk)) T hs)⟩
 | cond c x y=>
   simp only[Z0]at hx
   split at hx
   · rename_i t ht;cases hx
     have hv:(Act.mk tmps df').eval c=.bool t:=by
      cases c with
      |tmp u=>have:=T u;rw[ht]at this;generalize hq:(Act.mk tmps df').eval (.tmp u)=q;simp only[Act.eval]at hq;rw[hq]at this;cases this;rfl
      |const v=>exact ht
      |global g=>simp[ev]at ht
      |func f=>simp[ev]at ht
     refine⟨_,.one (stepR_cond hv),Zs H ak aC aV S ?_⟩;cases t
     · exact .plain (.cons (.code y) hk) T hs
     exact .plain (.cons (.code x) hk) T hs
   cases hx
 | block id x=>
   simp only[Z0]at hx;cases hx;exact⟨_,.one stepR_block,Zs H ak aC aV S (.plain (.cons (.code x) (.cons (.inBlock id) hk)) T hs)⟩
 | loop x=>
   simp only[Z0]at hx;cases hx;exact⟨_,.one stepR_loop,Zs H ak aC aV S (.plain (.cons (.code x) (.cons (.inLoop x) hk)) T hs)⟩
 | scope x=>
   simp only[Z0]at hx;cases hx;exact⟨_,.one Q6j,Zs H ak aC aV S (.plain (.cons (.code x) (.cons (.inScope x) hk)) T hs)⟩
 | exit id=>
   simp only[Z0]at hx;rcases Qdz id hk with⟨e1,e2⟩| ⟨k1,k1',e1,e2,bQ⟩
   · rw[e1]at hx;refine Q0d (todo':=.code (.exit id)::k') H ak aC aV S T hx (fun _ hj=>by rcases hj with hj|hj<;>cases hj) (fun l' v w' c cJ g1 g2 g3 hr=>by subst g1;subst g2;subst g3;exact stepR_round_exit rfl rfl e2 hr)
   rw[e1]at hx;cases hx;exact⟨_,.one (stepR_exit e2),Zs H ak aC aV S (.plain bQ T hs)⟩
 | goto l=>
   simp only[Z0]at hx;rcases Qds l hk with⟨e1,e2⟩| ⟨k1,k1',e1,e2,bQ⟩
   · rw[e1]at hx;refine Q0d (todo':=.code (.goto l)::k') H ak aC aV S T hx (fun _ hj=>by rcases hj with hj|hj<;>cases hj) (fun l' v w' c cJ g1 g2 g3 hr=>by subst g1;subst g2;subst g3;exact stepR_round_goto rfl rfl e2 hr)
   rw[e1]at hx;cases hx;exact⟨_,.one (stepR_goto e2),Zs H ak aC aV S (.plain bQ T hs)⟩
 | rangeFunc f ps x y=>
   simp only[Z0]at hx;cases ro with
   | none=>
     cases ro' with
     |some z=>exact aC.elim
     | none=>
       simp only at hx;have dX: ¬M.K h.n:=fun hk=>by have:=H.kn _ hk;omega
       obtain⟨H1,e1,K1⟩:=YV H (o:=.deferred (some [])) (x:=.deferred (some [])) (S:=0) (m:=0) ⟨rfl,[],rfl,trivial⟩;have bU:IdRel (M.add h.n w.heap.size 0 0 0) h.n w.heap.size:=⟨.inl rfl,fun b δ S hb=>by simp[Mp.add]at hb;exact hb.1⟩;refine Q5a (lo:=lo) (ro:=none) (ro':=none) H1 (v0p ak K1.1) trivial (mark:=[{target:=.collected h.n,args:= #[]}]) (df:=df) (mark':=[{target:=.collected w.heap.size,args:= #[]}]) (df':=df') ⟨⟨bU,.nil _⟩,aV.mono e1⟩ (S.mono e1 fun i hi=>K1.all i (v0u hi ak)) (T.mono e1) hs (hk.mono e1) bU hx fun l w2 hl=>?_;simp only[run_newObj]at hl;cases hl;simp[Instr.enterLoop];rfl
   | some o=>
     cases ro' with
     |none=>exact aC.elim
     | some o'=>
       simp only at hx
       split at hx
       · cases hx
       rename_i r hl;obtain⟨S0,r',hρ,hxo,he,bB⟩:=Q0X (E:=E) H aC hl;have hdr:=he.2.2.2.2.2.2.2.2;refine Q5a (lo:=lo) H ak aC (mark:=[]) (df:=df) (mark':=[]) (df':=df') aV S T hs hk hdr hx fun l w2 hl=>?_;simp only[run_newObj]at hl;cases hl;simp[Instr.enterLoop,bB]
 | region id ops draw=>
   simp only[Z0]at hx;cases hc:QU ops with
   |false=>rw[hc,cond_false]at hx;cases hx
   | true=>
     rw[hc,cond_true]at hx;cases draw with
     | false=>
       rw[cond_false]at hx;cases hx;exact⟨_,.one stepR_region,Zs H ak aC aV S (.plain (.cons (.inRegion ops _ hc) hk) T hs)⟩
     | true=>
       rw[cond_true]at hx;cases hr:J8 E ops with
       |false=>rw[hr,cond_false]at hx;cases hx
       | true=>
         rw[hr,cond_true]at hx;cases hx;have av:=stepR_region_draw (P:=E.P) (b:=⟨fn,tmps,[],df',.run,kd,ro'⟩) (a:=⟨tmps,df'⟩) (k:=k') (cs:=cs') (w:=w) (ops:=ops) (id:=id);rw[hm]at av;exact⟨_,.one av,Zs (World.drew_HRel H (w.drawn+1) (Nat.le_succ _)) ak aC aV S ⟨_,k',_root_.id,rfl,hk,Q6B hc hr T hs _⟩⟩
 |refuse y=>simp only[Z0]at hx;cases hx
theorem QdA [hB:FactX (B W.heap.size->E.q=true)] (hm:E.P.follows .mixedOrders=true) (H:HRel W B M h w) (ak:lo<=h.n) (aC:RoRel M ro ro') (aV:DsRel M df df') (S:StackRel E M h bA lo cs cs')
 (hb:Body E M h lo nt tm todo todo' tmps) (hx:Z0 E fn nt tm todo df kd ro cs h=some s'):
 ∃m',Steps E.P (lone (Frame.atR ⟨fn,tmps,[],df',.run,kd,ro'⟩ ⟨tmps,df'⟩ todo') cs' w) m'/\Sim W B E bA s' m':=by
 cases todo with
 | nil=>
   obtain⟨hk,T,hs⟩:=hb;cases hk;simp only[Z0]at hx;refine Q0d (todo':=[]) H ak aC aV S T hx (fun e _=>by subst e;exact stepR_end rfl) (fun l' v w' c cJ e1 e2 e3 hr=>by subst e1;subst e2;subst e3;exact stepR_round_end rfl rfl hr)
 | cons it k=>
   cases it with
   | code c=>
     obtain⟨hk,T,hs⟩:=hb;cases hk with
     |cons hi ht=>cases hi;exact QdJ hm H ak aC aV S ht T hs hx
   | inBlock i=>
     obtain⟨hk,T,hs⟩:=hb;cases hk with
     | cons hi ht=>
       cases hi;simp only[Z0]at hx;cases hx;exact⟨_,.one stepR_inBlock,Zs H ak aC aV S (.plain ht T hs)⟩
   | inScope c=>
     obtain⟨hk,T,hs⟩:=hb;cases hk with
     | cons hi ht=>
       cases hi;simp only[Z0]at hx;cases hx;exact⟨_,.one Q3C,Zs H ak aC aV S (.plain ht T hs)⟩
   | inLoop c=>
     obtain⟨hk,T,hs⟩:=hb;cases hk with
     | cons hi ht=>
       cases hi;simp only[Z0]at hx;cases hx;exact⟨_,.one stepR_inLoop,Zs H ak aC aV S (.plain (.cons (.code c) (.cons (.inLoop c) ht)) T hs)⟩
   | inRegion ops l=>
     obtain⟨hk,T,hs⟩:=hb;cases hk with
     | cons hi ht=>
       cases hi with
       |inRegion _ _ hc=>exact Q8H H ak aC aV S hc ht T hs hx
   | draw ops rest=>
     obtain⟨l,k',idf,rfl,hk,D⟩:=hb;exact QdE H ak aC aV S hk D hx
   | chk ops c rest=>
     obtain⟨l,k',idf,rfl,hk,D⟩:=hb;simp only[Z0]at hx
     split at hx
     · cases hx;exact⟨_,.refl _ _,Zs H ak aC aV S ⟨l,k',idf,rfl,hk,D⟩⟩
     rename_i i c;cases ha:Q2K E tm h ops i with
     |false=>rw[ha,cond_false]at hx;cases hx
     | true=>
       rw[ha,cond_true]at hx;cases hx;exact⟨_,.refl _ _,Zs H ak aC aV S ⟨l,k',idf,rfl,hk,D.again ha⟩⟩
   |inRangeFunc l=>simp only[Z0]at hx;cases hx
   | beginRound=>
     obtain⟨hk,T,hs⟩:=hb;cases hk with
     | cons hi ht=>
       cases hi;simp only[Z0]at hx;cases ro with
       |none=>cases hx
       | some l=>
         cases ro' with
         |none=>exact aC.elim
         | some l'=>
           simp only at hx
           split at hx
           · rename_i p f n t ps x y d hl;cases hx;obtain⟨r',w',he,bB,h1,h2,h3⟩:=Q46 (E:=E) (r2:=⟨.busy,p,f,n,t,ps,x,y,d⟩) H aC hl (fun r=> {r with state:=.busy}) (fun r' ⟨_,q⟩=>⟨rfl,q⟩);have av:r'.state=.ready:=he.1;refine⟨_,.one (stepR_beginRound (w':=w') rfl ?_),Zs h2 (v0p ak h3.1) aC aV (S.mono (.refl M) fun i hi=>h3.all i (v0u hi ak)) (.plain ht T hs)⟩;simp[Instr.beginRound,bB,h1,av]
           cases hx
   | endRangeFunc l=>
     obtain⟨hk,T,hs⟩:=hb;cases hk with
     | cons hi ht=>
       cases hi with
       | endRangeFunc aS=>
         rename_i l';simp only[Z0]at hx
         split at hx
         · cases hx
         · rename_i st p f n t ps x y d dB hl;cases hx;obtain⟨r',w',he,bB,h1,h2,h3⟩:=Q46 (E:=E) (r2:=⟨.exhausted,p,f,n,t,ps,x,y,d⟩) H aS hl (fun r=> {r with state:=.exhausted}) (fun r' ⟨_,q⟩=>⟨rfl,q⟩);have av:r'.state≠LoopState.busy:=by rw[he.1];exact dB
           have hp:r'.pending=p:=he.2.1;have aB:(Instr.endLoop l').run E.P w=.ok p w':=by subst hp;simp[Instr.endLoop,bB,h1,av]
           refine⟨_,.one (stepR_endRangeFunc aB),Zs h2 (v0p ak h3.1) aC aV (S.mono (.refl M) fun i hi=>h3.all i (v0u hi ak)) ?_⟩;cases p with
           |none=>exact .plain ht T hs
           |some c=>exact .plain (.cons (.code c) ht) T hs
         cases hx
end
section
variable {P:Program}
theorem step_collected {fr:Frame} {cs:List Frame} {w w':World} {b:Nat} {args:Array Value} {ds calls:List Deferred} (hm:fr.mode≠ .run) (hd:fr.defers= {target:=.collected b,args}::ds)
 (hr:(Instr.takeDeferred b).run P w=.ok calls w'):step P (lone fr cs w)=.next (lone {fr with defers:=calls++ds} cs w'):=by
 refine step_lone_go ?_;cases il:fr.mode with
 |run=>exact absurd il hm
 |returning=>simp[stepG,unwind,il,hd,Sem.runT_eq,hr,GStep.bare_after]
 |panicking chain=>simp[stepG,unwind,il,hd,Sem.runT_eq,hr,GStep.bare_after]
end
section
variable {W:World} {B:Nat->Prop} {E:Env} {M M':Mp} {h h':Hp} {w w':World} {lo hi:Nat} {bA:List Frame}
variable {fn:FuncId} {nt:Nat} {tm:Tr Value} {todo:List It} {todo':List Item} {df:List Deferred} {df':List Deferred} {md dg:FrameMode} {kd:CallKind} {ro ro':Option Nat} {tmps:Array Value} {cs:List Fr} {cs':List Frame} {s':St}
theorem KQ (H:HRel W B M h w): ∀(rs:List ResultVar) (vs:List Value),Zf E tm h rs=some vs->(∀r,r∈rs->VRel M (ev tm (.tmp (Q1Z r))) (tmps.getD (Q1Z r) undef))->
 ∃ fN,(rs.mapM fun(r:ResultVar)=>(match r with
   | .tmp t=>pure (tmps.getD t undef)
   | .cell a t=>do loadVar t (<-asAddr (tmps.getD a undef)):Sem Value)).run E.P w=.ok fN w/\VsRel M vs fN
 | [],vs,hx,_=>by
   simp only[Zf]at hx;cases hx;exact⟨[],by simp[List.mapM_nil],.nil M⟩
 | r ::rs,vs,hx,hr=>by
   have h0:=hr r (by simp);cases r with
   | tmp t=>
     simp only[Zf]at hx
     split at hx
     · rename_i r dV;cases hx;obtain⟨fN,h1,h2⟩:=KQ H rs r dV fun q hq=>hr q (by simp[hq]);exact⟨tmps.getD t undef::fN,by simp only[List.mapM_cons,Sem.run_bind,Sem.run_pure,Result.andThen_ok,h1],.cons h0 h2⟩
     cases hx
   | cell a t=>
     simp only[Zf]at hx
     split at hx
     · rename_i p hp
       split at hx
       · rename_i v r hv dV;cases hx;simp only[Q1Z]at h0;rw[hp]at h0;generalize hq:tmps.getD a undef=q at h0;cases h0 with
         | ptr ha=>
           obtain⟨v',hl,ja⟩:=Q2j (E:=E) H ha hv;obtain⟨fN,h1,h2⟩:=KQ H rs r dV fun q hq=>hr q (by simp[hq]);rename_i p';have fh:(asAddr (tmps.getD a undef)).run E.P w=.ok p' w:=by rw[hq];rfl
           exact⟨v'::fN,by simp only[List.mapM_cons,Sem.run_bind,Sem.run_pure,Result.andThen_ok,fh,hl,h1],.cons ja h2⟩
       cases hx
     cases hx
theorem Q3S: ∀(n:Nat) {v w:Value},ZP n v=true->VRel M v w->w=v
 |0,v,w,hp,_=>by cases hp
 | n + 1,v,w,hp,hr=>by
   cases hr with
   |bool=>rfl
   |int=>rfl
   |string=>rfl
   |nilp=>rfl
   |nils=>rfl
   |nilm=>rfl
   |nilc=>rfl
   |nilFunc=>rfl
   |nilIface=>rfl
   |iface h=>rw[Q3S n (by simpa[ZP]using hp) h]
   | @agg a c ha ka=>
     have aq:a.toList.all (ZP n)=true:=by simpa[ZP]using hp
     have:c.toList=a.toList:=by
      apply v09;intro i;cases hi:a.toList[i]? with
      |none=>rw[List.getElem?_eq_none_iff]at hi ⊢;omega
      | some x=>
        have aj:=(v0z.1 hi).1;have hc:c.toList[i]?=some (c.toList[i]'(by omega)):=v0c _;rw[hc,Q3S n (v0v.1 aq x (v0m hi)) (ka i _ _ hi hc)]
     rw[v1Z.1 this]
   |_=>simp[ZP]at hp
theorem Q07 (H:HRel W B M h w) {f:Func} {vs:List Value} (hf:E.fn fn=some f) (hx:Zf E tm h f.results.toList=some vs) (hr:ResRel E M fn tm tmps):
 ∃v',(results f tmps).run E.P w=.ok v' w/\VRel M (oneOf vs) v':=by
 obtain⟨fN,h1,h2⟩:=KQ H f.results.toList vs hx (hr f hf);refine⟨if h:fN.toArray.size=1 then fN.toArray[0]else .tuple fN.toArray,?_,?_⟩
 · unfold results;rw[Array.mapM_eq_mapM_toList];simp only[Sem.run_bind,map_eq_pure_bind,bind_assoc,pure_bind,Sem.run_pure];exact congrArg (fun r=>Result.andThen r (fun a w'=>Result.ok (if h:a.toArray.size=1 then a.toArray[0]else Value.tuple a.toArray) w')) h1
 match vs,fN,h2 with
 | [],[],_=>exact .tuple' (.nil M)
 | [],_::_,h2=>have:=h2.1;simp at this
 |_::_,[],h2=>have:=h2.1;simp at this
 | [v],[v'],h2=>simpa[oneOf]using h2.uncons.1
 | [_],_::_::_,h2=>have:=h2.1;simp at this
 |_::_::_,[_],h2=>have:=h2.1;simp at this
 |a::b::l,a'::b'::l',h2=>simpa[oneOf]using VRel.tuple' (by simpa using h2)
theorem Q0q: ∀ {a b:List PanicEntry},ChRel M a b->ChRel M (a.dropWhile (!·.goexit)) (b.dropWhile (!·.goexit))
 | [],[],_=>trivial
 | [],_::_,h=>h.elim
 |_::_,[],h=>h.elim
 | p::l,p'::l',h=>by
   simp only[List.dropWhile_cons,h.1.2.2]
   split
   · exact Q0q h.2
   exact h
theorem Q8x {fr:Fr} {az:Frame} {v:Value} {cs:List Fr} {s':St} (R:FrWait E M h lo hi fr az) (_hh:hi<=h.n) (hx:YG E .deferred (fr::cs) h v=some s'):
 ∃ed,s'=⟨ed,cs,h⟩/\Q7f E M h lo ed {az with mode:=settle az.mode}:=by
 obtain⟨fn,nt,tm,todo,df,md,kd,ro⟩:=fr;obtain⟨jJ,aE,todo',df',dg,lT,ro'⟩:=az;obtain⟨h1,h2,h3,h4,h5,h6⟩:=R;simp only at h1 h2 h3 h4 h5 h6;subst h1;subst h2;unfold YG at hx;simp only at hx;cases md with
 |run=>cases hx
 | returning=>
   cases dg<;>simp only[MdRel]at h5
   cases hx;exact⟨_,rfl,rfl,rfl,h3,h4,trivial,h6⟩
 | panicking c=>
   cases dg<;>simp only[MdRel]at h5
   rename_i c';cases c with
   | nil=>
     cases c' with
     |nil=>cases hx;exact⟨_,rfl,rfl,rfl,h3,h4,trivial,h6⟩
     |cons p' l'=>exact h5.elim
   | cons p l=>
     cases c' with
     |nil=>exact h5.elim
     | cons p' l'=>
       obtain⟨pv,pr,pg⟩:=p;obtain⟨pv',pr',pg'⟩:=p';obtain⟨⟨q1,q2,q3⟩,q4⟩:=h5;simp only at q1 q2 q3;subst q2;subst q3;cases pr' with
       |false=>cases hx;exact⟨_,rfl,rfl,rfl,h3,h4,⟨⟨q1,rfl,rfl⟩,q4⟩,h6⟩
       | true=>
         have hd:=Q0q q4;simp only[settle];simp only at hx;generalize l.dropWhile (!·.goexit)=x at hx hd;generalize l'.dropWhile (!·.goexit)=y at hd;cases x with
         | nil=>
           cases y with
           |nil=>cases hx;exact⟨_,rfl,rfl,rfl,h3,h4,trivial,h6⟩
           |cons a b=>exact hd.elim
         | cons a b=>
           cases y with
           |nil=>exact hd.elim
           |cons a' b'=>cases hx;exact⟨_,rfl,rfl,rfl,h3,h4,hd,h6⟩
theorem top_of (H:HRel W B M h w) (ak:lo<=h.n) (an:md≠ .run) (bS:MdRel M md dg) (cr:ResRel E M fn tm tmps) (aC:RoRel M ro ro') (aV:DsRel M df df') (S:StackRel E M h bA lo cs cs'):
 Sim W B E bA ⟨⟨fn,nt,tm,todo,df,md,kd,ro⟩,cs,h⟩ (lone ⟨fn,tmps,todo',df',dg,kd,ro'⟩ cs' w):=by
 refine⟨M,lo,_,cs',w,rfl,H,ak,⟨rfl,rfl,aC,aV,bS,?_⟩,S⟩;cases md with
 |run=>exact absurd rfl an
 |returning=>exact cr
 |panicking c=>exact cr
theorem Q4g {d:Deferred} {f:FuncId} {args:Array Value} (hx:ZA E h d=some (.enter f args)): ∃fv cap,d.target=.fn fv cap:=by
 obtain⟨t,a⟩:=d;cases t with
 |fn fv cap=>exact⟨fv,cap,rfl⟩
 | builtin b ts ty cs=>
   exfalso
   simp only[ZA]at hx
   split at hx<;>first
    |(cases hx;done)
    |(split at hx<;>first|(cases hx;done)|(split at hx<;>cases hx))
 |_=>simp only[ZA]at hx;cases hx
theorem Q2X (H:HRel W B M h w) (ak:lo<=h.n) (an:md≠ .run) (bS:MdRel M md dg) (cr:ResRel E M fn tm tmps) (aC:RoRel M ro ro') (aV:DsRel M df df') (S:StackRel E M h bA lo cs cs')
 (hx:Q0E E fn nt tm todo df md kd ro cs h=some s'): ∃m',Steps E.P (lone ⟨fn,tmps,todo',df',dg,kd,ro'⟩ cs' w) m'/\Sim W B E bA s' m':=by
 have gq:dg≠ .run:=by
  intro e;subst e;cases md<;>simp only[MdRel]at bS
  exact an rfl
 cases df with
 | cons d ds=>
   cases df' with
   |nil=>exact aV.elim
   | cons d' oG=>
     obtain⟨hd,j8⟩:=aV;simp only[Q0E]at hx
     split at hx
     ·
      rename_i b hb
      split at hx
      · rename_i calls hg;cases hx;obtain⟨t,a⟩:=d;obtain⟨t',a'⟩:=d';simp only at hb;subst hb;obtain⟨ht,ay⟩:=hd;cases t'<;>simp only[TgRel]at ht
        rename_i b';obtain⟨b2,δ,S2,x,hρ,cM,h0,calls',rfl,hc⟩:=H.place ht.1 hg (by simp);have:=ht.2 b2 δ S2 hρ;subst this;subst h0;obtain⟨r1,r2,r3⟩:=H.setObj (E:=E) (o:=.deferred none) (x:=.deferred none) hρ cM (by intro c e f h;cases h) ⟨rfl,rfl⟩;have bB:(getObj b').run E.P w=.ok (.deferred (some calls')) w:=by simp[getObj,Sem.run,cM]
        have aB:(Instr.takeDeferred b').run E.P w=.ok calls' {w with heap:=w.heap.setIfInBounds b' (.deferred none)}:=by
         simp only[Instr.takeDeferred,Sem.run_bind,bB,Result.andThen_ok,r1,Sem.run_pure]
        refine⟨_,.one (step_collected gq rfl aB),?_⟩;exact top_of r2 (v0p ak r3.1) an bS cr aC (hc.append j8) (S.mono (.refl M) fun i hi=>r3.all i (v0u hi ak))
      cases hx
     split at hx
     · rename_i f args hinv
       split at hx
       · rename_i fr cj;cases hx;obtain⟨fv,cap,gZ⟩:=Q4g hinv;obtain⟨ad,lh,hv⟩:=Kz (E:=E) H hd hinv;obtain⟨t,a⟩:=d;obtain⟨t',a'⟩:=d';simp only at gZ;subst gZ;have kJ:=hd.1;cases t'<;>simp only[TgRel]at kJ
         refine⟨_,.one (step_defer (fr:=⟨fn,tmps,todo',_::oG,dg,kd,ro'⟩) gq rfl rfl lh),M,h.n,_,_::cs',w,rfl,H,v0b _,Q0o hv cj h _,lo,ak,⟨rfl,rfl,aC,j8,bS,?_⟩,S⟩;cases md with
         |run=>exact absurd rfl an
         |returning=>exact cr
         |panicking c=>exact cr
       cases hx
     cases hx
 | nil =>
   cases df' with
   |cons d' oG=>exact aV.elim
   | nil =>
     simp only[Q0E]at hx;cases md with
     |run=>exact absurd rfl an
     | panicking chain=>
       cases dg<;>simp only[MdRel]at bS
       rename_i chain';simp only at hx
       split at hx
       · rename_i c rest f hf;cases cs' with
         |nil=>exact S.elim
         | cons c' bg=>
           obtain⟨iO,g1,g2,g3⟩:=S
           split at hx
           · rename_i c2 hr;cases hx;refine⟨_,.one (step_leave_panicked (chain:=chain') ⟨rfl,rfl,f,E.hfn fn f hf⟩),M,iO,_,bg,w,rfl,H,v0p g1 ak,Q5c g2 bS hr h iO,g3⟩
           cases hx
       cases hx
     | returning=>
       cases dg<;>simp only[MdRel]at bS
       simp only at hx
       split at hx
       · cases hx
       rename_i c rest
       split at hx
       · rename_i f hf
         split at hx
         · rename_i vs hvs;obtain⟨v',hr,hv⟩:=Q07 H hf hvs cr;cases cs' with
           |nil=>exact S.elim
           | cons c' bg=>
             obtain⟨iO,g1,g2,g3⟩:=S;have hP:=E.hfn fn f hf;cases kd with
             | normal=>
               simp only[YG]at hx
               split at hx
               · rename_i c2 hfin;cases hx;exact⟨_,.one (step_leave_returned (v:=v') ⟨rfl,rfl,rfl,f,hP,hr⟩),M,iO,_,bg,w,rfl,H,v0p g1 ak,ZT g2 hv hfin ak,g3⟩
               cases hx
             | deferred=>
               obtain⟨ed,rfl,ht⟩:=Q8x g2 ak hx;exact⟨_,.one (step_going_returned (v:=v') rfl ⟨rfl,rfl,f,hP,hr⟩),M,iO,_,bg,w,rfl,H,v0p g1 ak,ht,g3⟩
             |_=>simp only[YG]at hx;cases hx
         cases hx
       cases hx
theorem Qcv [hB:FactX (B W.heap.size->E.q=true)] (hm:E.P.follows .mixedOrders=true) {s:St} {m:Machine} (hx:stepX E s=some s') (R:Sim W B E bA s m): ∃m',Steps E.P m m'/\Sim W B E bA s' m':=by
 obtain⟨M,lo,az,cs',w,rfl,H,ak,T,S⟩:=R;obtain⟨⟨fn,nt,tm,todo,df,md,kd,ro⟩,cs,h⟩:=s;obtain⟨jJ,tmps,todo',df',dg,lT,ro'⟩:=az;obtain⟨h1,h2,h3,h4,h5,h6⟩:=T;simp only at h1 h2 h3 h4 h5 h6 H ak S;subst h1;subst h2;cases md with
 | run=>
   cases dg<;>simp only[MdRel]at h5
   exact QdA hm H ak h3 h4 S h6 hx
 |returning=>exact Q2X H ak (by simp) h5 h6 h3 h4 S hx
 |panicking c=>exact Q2X H ak (by simp) h5 h6 h3 h4 S hx
theorem Q9Q [hB:FactX (B W.heap.size->E.q=true)] (hm:E.P.follows .mixedOrders=true): ∀(n:Nat) {s:St} {m:Machine},Sim W B E bA s m-> ∃m',Steps E.P m m'/\Sim W B E bA (Q69 E n s) m'
 |0,s,m,R=>⟨m,.refl _ _,R⟩
 | n+1,s,m,R=>by
   rw[Q03]
   split
   · rename_i s' hx;obtain⟨m1,S1,R1⟩:=Qcv hm hx R;obtain⟨m2,S2,R2⟩:=Q9Q hm n R1;exact⟨m2,S1.trans S2,R2⟩
   exact⟨m,.refl _ _,R⟩
end
def Mp.none:Mp:=⟨fun _=>Option.none,fun i=>i<=255,fun _=>0⟩
theorem HRel.start (w:World):HRel w (fun _=>False) Mp.none Hp.empty w:=by
 refine⟨fun i b δ S hi=>by simp[Mp.none]at hi,fun i j b δ S δ' S' hi=>by simp[Mp.none]at hi,fun i hi=>by have:i<=255:=hi;show i <256;omega,fun i hi=>Hp.get_empty i,fun i hi _=>.inl (Hp.get_empty i),rfl,⟨rfl,fun _=>v0b _⟩,rfl,v0b _,fun b _ _=>rfl,fun i b δ S hi=>by simp[Mp.none]at hi,fun i h2=>⟨h2,fun b δ S h=>by simp[Mp.none]at h⟩⟩
theorem Q8C (E:Env) (hm:E.P.follows .mixedOrders=true) {f:FuncId} {n:Nat} {args:List Value} {ad:Array Value} {M0:Mp} {h0:Hp} {w:World} {s0:St}
 {v0:Value} (cf:ZP 20 v0=true) {B:Nat->Prop} [hB:FactX (B w.heap.size->E.q=true)] (hBo: ∀b,b <w.heap.size-> ¬B b) (H0:HRel w B M0 h0 w) (hv:VsRel M0 args ad.toList) (hs:Q1h E f args h0=some s0) (he:Qex E f (Q69 E n s0)=some v0):
 Calls E.P f ad w fun e w'=>e=.returned v0/\w'.os=w.os/\w'.tape=w.tape/\w'.output=w.output/\w.heap.size<=w'.heap.size/\(∀b,b <w.heap.size->w'.heap[b]?=w.heap[b]?)/\(B w.heap.size->w.drawn<=w'.drawn):=by
 intro bA;unfold Q1h at hs
 split at hs
 · rename_i fr cj;cases hs
   have R0:Sim w B E bA ⟨fr,[],h0⟩ (lone (Frame.enter E.P f ad .normal) bA w):=
    ⟨M0,0,_,bA,w,rfl,H0,Nat.zero_le _,Q0o (args:=args.toArray) (by simpa using hv) (by simpa using cj) h0 0,rfl⟩
   obtain⟨m',St,M,lo,az,cs',w',rfl,H,ak,T,S⟩:=Q9Q hm n R0;generalize Q69 E n ⟨fr,[],h0⟩=s at he H T S ak;unfold Qex at he
   split at he
   · rename_i fn nt tm todo ro h;cases hfn:v0d fn f with
     |false=>rw[hfn,cond_false]at he;cases he
     | true=>
       rw[hfn,cond_true]at he;have e:=(QF _ _).1 hfn;subst e
       split at he
       · rename_i fu da
         split at he
         · rename_i vs hvs;obtain⟨jJ,tmps,todo',df',dg,lT,ro'⟩:=az;obtain⟨h1,h2,h3,h4,h5,h6⟩:=T;simp only at h1 h2 h3 h4 h5 h6 H S;subst h1;subst h2;cases dg<;>simp only[MdRel]at h5
           cases df' with
           |cons d l=>exact h4.elim
           | nil=>
             obtain⟨v',hr,hv⟩:=Q07 H da hvs h6
             have kH:v'=v0:=by
              have ig:oneOf vs=v0:=v0i.inj he;rw[ig]at hv;exact Q3S 20 cf hv
             subst kH;have cx:cs'=bA:=S;subst cx;exact⟨.returned v',w',_,⟨rfl,H.os,H.tape.1,H.output,H.size,fun b hb=>H.old b hb (hBo b hb),H.tape.2⟩,St,rfl,rfl,rfl,rfl,fu,E.hfn _ fu da,hr⟩
         cases he
       cases he
   cases he
 cases hs
theorem Q54 (E:Env) (hm:E.P.follows .mixedOrders=true) {f:FuncId} {n:Nat} {args:List Value} {ad:Array Value} {M0:Mp} {h0:Hp} {w:World} {s0:St}
 {v0:Value} (cf:ZP 20 v0=true) (H0:HRel w (fun _=>False) M0 h0 w) (hv:VsRel M0 args ad.toList) (hs:Q1h E f args h0=some s0) (he:Qex E f (Q69 E n s0)=some v0):
 Calls E.P f ad w fun e w'=>e=.returned v0/\w'.os=w.os/\w'.tape=w.tape/\w'.output=w.output/\w.heap.size<=w'.heap.size/\ ∀b,b <w.heap.size->w'.heap[b]?=w.heap[b]?:=
 haveI:FactX ((fun _:Nat=>False) w.heap.size->E.q=true):=⟨fun h=>h.elim⟩
 (Q8C E hm cf (fun _ _ h=>h) H0 hv hs he).mono fun _ _ ⟨h1,h2,h3,h4,h5,h6,_⟩=>⟨h1,h2,h3,h4,h5,h6⟩
theorem Q6d (E:Env) (hm:E.P.follows .mixedOrders=true) {f:FuncId} {n:Nat} {v:Value} (ht:Q7i E f n=some v) (hp:ZP 20 v=true) (w:World):
 Calls E.P f #[] w fun e w'=>e=.returned v/\w'.os=w.os/\w'.tape=w.tape/\w'.output=w.output/\w.heap.size<=w'.heap.size/\ ∀b,b <w.heap.size->w'.heap[b]?=w.heap[b]?:=by
 unfold Q7i at ht
 split at ht
 · rename_i s hs;exact Q54 E hm hp (HRel.start w) (.nil _) hs ht
 cases ht
theorem Q6f {E:Env} {f:FuncId} {n:Nat} (ht:Q4O E f n=true):Q7i E f n=some (.bool true):=by
 unfold Q4O at ht;unfold Q7i
 split at ht
 · rename_i s hs
   split at ht
   · rename_i b cW;subst ht;exact cW
   cases ht
 cases ht
theorem Q6g (E:Env) (hm:E.P.follows .mixedOrders=true) {f:FuncId} {n:Nat} (ht:Q4O E f n=true) (w:World):
 Calls E.P f #[] w fun e w'=>e=.returned (.bool true)/\w'.os=w.os/\w'.tape=w.tape/\w'.output=w.output/\w.heap.size<=w'.heap.size/\ ∀b,b <w.heap.size->w'.heap[b]?=w.heap[b]?:=
 Q6d E hm (Q6f ht) rfl w
theorem Q8D {E:Env} {s:St} (h:stepX E s=none): ∀n,Q69 E n s=s
 |0=>rfl
 |n+1=>by simp[Q03,h]
theorem Q7u {E:Env}: ∀(a b:Nat) (s:St),Q69 E (a+b) s=Q69 E b (Q69 E a s)
 |0,b,s=>by simp[Q55]
 | a+1,b,s=>by
   rw[show a+1+b=(a+b)+1 by omega];simp only[Q03];cases h:stepX E s with
   |some s'=>exact Q7u a b s'
   |none=>exact(Q8D h b).symm
def Runs (E:Env) (s s':St):Prop:= ∃n,Q69 E n s=s'
theorem Runs.refl (E:Env) (s:St):Runs E s s:=⟨0,rfl⟩
theorem Runs.trans {E:Env} {a b c:St}:Runs E a b->Runs E b c->Runs E a c
 | ⟨n,h⟩,⟨m,k⟩=>⟨n+m,by rw[Q7u,h,k]⟩
theorem Runs.step {E:Env} {a b c:St} (h:stepX E a=some b) (k:Runs E b c):Runs E a c:=
 Runs.trans ⟨1,by simp[Q03,Q55,h]⟩ k
open Go.ChangeShapes Go.WideShapes Go.ChangeAt Go.RowKit
theorem tyOk (P:Program) (t:Nat) (i:TypeInfo) (h:P.types[t]?=some i):P.info? t=some i:=by
 have ht:t <P.types.size:=by
  rcases Nat.lt_or_ge t P.types.size with h1|h1
  · exact h1
  simp[v2f h1]at h
 simp[Tables.info?,ht,<-h]
def envOf (P:Program):Env:= {P,ty:=fun t=>P.types[t]?,fn:=fun f=>P.funcs[f]?,hty:=tyOk P,hfn:=fun _ _ h=>h,ext:=fun _=>false,hext:=fun _ h=>absurd h (by simp),orc:=fun _=>none,horc:=fun _ _ h=>absurd h (by simp),sm:=fun _=>none,hsm:=fun _ _ h=>absurd h (by simp),q:=true,hq:=fun _ _=>⟨rfl,rfl⟩}
def QdD (P:Program) (g:Nat) (fn:Func) (h1:P.funcs[g]?=some fn) (h2:(fn.name== "runtime.NumGoroutine")=false) (h3:fn.body.isNone=true) (h4:Extern.findNext fn=none)
    (h5:Extern.find fn=some Extern.MapsClone.clone):Env:=
 {envOf P with ext:=fun f=>v0d f g,hext:=fun f h=>⟨fn,(QF f g).1 h▸h1,h2,h3,h4,h5⟩}
theorem Q6h (E:Env) (hm:E.P.follows .mixedOrders=true) {f:FuncId} {n:Nat} (ht:Q4O E f n=true) (w:World):
 Calls E.P f #[] w fun e w'=>e=.returned (.bool true)/\Below w.heap.size w w':=
 (Q6g E hm ht w).mono fun _ _ ⟨h1,h2,h3,h4,h5,h6⟩=>⟨h1,⟨h2,h3,h4,h5,h6⟩⟩
theorem QaO {E:Env} {g:Nat} {v0:Value} (hp:ZP 20 v0=true) (h: ∀w,Calls E.P g #[] w fun e w'=>e=.returned v0/\Below w.heap.size w w') (f:Nat) (v:Value)
 (hf:cond (v0d f g) (some v0) (E.orc f)=some v):ZP 20 v=true/\ ∀w,Calls E.P f #[] w fun e w'=>e=.returned v/\Below w.heap.size w w':=by
 cases hx:v0d f g with
 | true=>
   have e:=(QF f g).1 hx;subst e;rw[hx,cond_true,v0i.injEq]at hf;subst hf;exact⟨hp,h⟩
 | false=>
   rw[hx,cond_false]at hf;exact E.horc f v hf
def envValue (E:Env) (g:Nat) (v0:Value) (hp:ZP 20 v0=true) (h: ∀w,Calls E.P g #[] w fun e w'=>e=.returned v0/\Below w.heap.size w w'):Env:=
 {E with orc:=fun f=>cond (v0d f g) (some v0) (E.orc f),horc:=QaO hp h,q:=false,hq:=fun h=>by cases h}
def QdC (E:Env) (g:Nat) (h: ∀w,Calls E.P g #[] w fun e w'=>e=.returned (.bool true)/\Below w.heap.size w w'):Env:=envValue E g (.bool true) rfl h
section
variable {W:World} {B:Nat->Prop} {M:Mp} {h:Hp} {w:World}
end
theorem Q9S (E:Env) (hm:E.P.follows .mixedOrders=true) {f:FuncId} {n:Nat} {args:List Value} {ad:Array Value} {M0:Mp} {h0:Hp} {w:World} {s0:St}
 (H0:HRel w (fun _=>False) M0 h0 w) (hv:VsRel M0 args ad.toList) (hs:Q1h E f args h0=some s0) (he:Qex E f (Q69 E n s0)=some (.bool true)):
 Calls E.P f ad w fun e w'=>e=.returned (.bool true)/\Below w.heap.size w w':=
 (Q54 E hm rfl H0 hv hs he).mono fun _ _ ⟨h1,h2,h3,h4,h5,h6⟩=>⟨h1,⟨h2,h3,h4,h5,h6⟩⟩
end Go.X
